/- Parts of the proof: Open Rdr Rdr2 OpenB. -/
import Derived.ChangeArms
import Derived.DataReads
import Derived.ProofKit
import Derived.OpenShut
import Derived.Test.YtlefdhhnlbpbkaaGreatPv1
import Derived.Deep.QuietTactic
import Derived.BigQuiet
import Derived.Test.YtlefdhhnlbpbkaaGreatPv8
import Derived.Test.YtlefdhhnlbpbkaaGreatPv3
namespace Go.Proofs.YtlefdhhnlbpbkaaGreat
open Go Go.RowKit Go.ChangeShapes Go.WideShapes
set_option linter.unusedVariables false
set_option linter.unusedSimpArgs false
theorem list1 {α : Type} {a b : α} (h : [a] = [b]) : a = b := by simpa using h
section
variable {H : Type} {enc : TypeId × Value → H} {P : Program} {w : World} {base : Nat} {spare : Nat → Bool} {held : Bool}
end
end Go.Proofs.YtlefdhhnlbpbkaaGreat
section
namespace Go.Proofs.YtlefdhhnlbpbkaaGreat
open Go Go.RowKit
set_option linter.unusedVariables false
set_option linter.unusedSimpArgs false
set_option maxRecDepth 100000
set_option maxHeartbeats 16000000
/-- A reader in block rb, whose place is at most p: its bytes lie in another block. -/
def Rdr (w : World) (rb p : Nat) : Prop := ∃ (a : Option Addr) (n cap q T : Nat), q ≤ p ∧ n ≤ 2000 ∧ w.heap[rb]? = some (.cells #[.slice a n cap, .int .i64 q] T (0, 0)) ∧
 (n = 0 ∨ ∃ b off, a = some ⟨b, off, none⟩ ∧ b < rb ∧ ∀ i : Nat, i < n → ∃ u : Nat, u ≤ 255 ∧ w.cell? ⟨b, off + i, none⟩ = some (.int .u8 u))
theorem zco {w : World} {b i : Nat} {u : Value} {c : Array Value} {T : Nat} (h : w.heap[b]? = some (.cells c T (0, 0))) : (w.setCell ⟨b, i, none⟩ u).heap[b]? = some (.cells (c.setIfInBounds i u) T (0, 0)) := by
 simp [World.setCell, Array.getElem?_modify, h]
theorem Rdr.next {w : World} {rb p q n cap T : Nat} {a : Option Addr} (hq : q ≤ p) (hn : n ≤ 2000) (hb : w.heap[rb]? = some (.cells #[.slice a n cap, .int .i64 q] T (0, 0)))
  (h : n = 0 ∨ ∃ b off, a = some ⟨b, off, none⟩ ∧ b < rb ∧ ∀ i : Nat, i < n → ∃ u : Nat, u ≤ 255 ∧ w.cell? ⟨b, off + i, none⟩ = some (.int .u8 u)) : Rdr (w.setCell ⟨rb, 1, none⟩ (.int .i64 ((q : Int) + 1))) rb (p + 1) := by
 refine ⟨a, n, cap, q + 1, T, by omega, hn, by rw [zco hb]; simp, ?_⟩
 rcases h with h | ⟨b, off, h1, h2, h4⟩
 ·exact .inl h
 ·refine .inr ⟨b, off, h1, h2, fun i hi => ?_⟩
  obtain ⟨u, hu, hc⟩ := h4 i hi
  exact ⟨u, hu, by rw [World.cell?_setCell_other _ _ _ _ (by intro e; simp only [Addr.mk.injEq] at e; omega)]; exact hc⟩
theorem mod_nat {u n : Int} (hu : 0 ≤ u) (hn : 1 ≤ n) : ∃ m : Nat, (m : Int) < n ∧ (u % n) = m :=
 ⟨(u % n).toNat, by have := Int.emod_lt_of_pos u (show 0 < n by omega); have := Int.emod_nonneg u (show n ≠ 0 by omega); omega, by have := Int.emod_nonneg u (show n ≠ 0 by omega); omega⟩
theorem zcJ (a b : Nat) (ha : a < 4611686018427387904) (hb : b < 4611686018427387904) : bits .xor .i64 (a : Int) (b : Int) = ((a ^^^ b : Nat) : Int) := by
 have hx : a ^^^ b < 2 ^ 62 := Nat.xor_lt_two_pow (by omega) (by omega)
 have h1 : (BitVec.ofInt 64 (a : Int)).toNat = a := by
  rw [BitVec.ofInt_natCast, BitVec.toNat_ofNat]; exact Nat.mod_eq_of_lt (by omega)
 have h2 : (BitVec.ofInt 64 (b : Int)).toNat = b := by
  rw [BitVec.ofInt_natCast, BitVec.toNat_ofNat]; exact Nat.mod_eq_of_lt (by omega)
 show IntKind.i64.wrap ((BitVec.ofInt 64 (a : Int) ^^^ BitVec.ofInt 64 (b : Int)).toNat : Int) = _
 rw [BitVec.toNat_xor, h1, h2]
 simp [IntKind.wrap, IntKind.bits, IntKind.signed]
 omega
theorem mix_nat {x n : Int} (x0 : 0 ≤ x) (x1 : x < 4611686018427387904) (hn : 1 ≤ n) : ∃ m : Nat, (m : Int) < n ∧ (bits .xor .i64 x (x / 64)).tmod n = m := by
 obtain ⟨k, rfl⟩ := Int.eq_ofNat_of_zero_le x0
 rw [show ((k : Int) / 64) = ((k / 64 : Nat) : Int) from by omega, zcJ k (k / 64) (by omega) (by omega)]
 obtain ⟨m, h1, h2⟩ := mod_nat (u := ((k ^^^ k / 64 : Nat) : Int)) (n := n) (by omega) hn
 exact ⟨m, h1, by rw [Int.tmod_eq_emod_of_nonneg (by omega)]; exact h2⟩
theorem Rdr.drewN {w : World} {rb p k : Nat} (h : Rdr w rb p) : Rdr (w.drewN k) rb p := h
theorem Only.drewN {w w' : World} {fp : List Nat} (h : Only fp w w') (k : Nat) : Only fp w (w'.drewN k) := ⟨h.os, h.tape, h.output, h.size, h.block⟩
theorem zE (rb p : Nat) (n : Int) (w : World) (hp : p ≤ 1000000000) (hn : 1 ≤ n) (hn2 : n ≤ 1000000000) (h : Rdr w rb p) :
  Calls Tryz.prog 23 #[.pointer (some ⟨rb, 0, none⟩), .int .i64 n] w fun e w' => (∃ m : Nat, (m : Int) < n ∧ e = .returned (.int .i64 m)) ∧ Rdr w' rb (p + 1) ∧ Only [rb] w w' := by
 obtain ⟨a, len, cap, q, T, hq, hlen, hb, hbs⟩ := h
 have c0 : w.cell? ⟨rb, 0, none⟩ = some (.slice a len cap) := by simp [World.cell?, hb]
 have c1 : w.cell? ⟨rb, 1, none⟩ = some (.int .i64 q) := by simp [World.cell?, hb]
 have hf : w.frozen? ⟨rb, 1, none⟩ = false := by unfold World.frozen?; rw [hb]; simp
 have dn : decide (n < 1) = false := by simp; omega
 have hO := Only.set (fp := [rb]) (w := w) (a := ⟨rb, 1, none⟩) (u := .int .i64 ((q : Int) + 1)) (by simp)
 have hR := Rdr.next hq hlen hb hbs
 rcases hbs with rfl | ⟨b, off, rfl, hrb, hbs⟩
 ·go_enter Tryz.func23, Tryz.ntmps23
  go_wp2_with fail
  go_ret
  exact ⟨⟨0, by omega, rfl⟩, hR, hO⟩
 ·have hne : b ≠ rb := by omega
  have dl : ((len : Int) == 0) = false ∨ len = 0 := by by_cases h : len = 0 <;> simp [h]
  rcases dl with dl | rfl
  rotate_left
  ·go_enter Tryz.func23, Tryz.ntmps23
   go_wp2_with fail
   go_ret
   exact ⟨⟨0, by omega, rfl⟩, hR, hO⟩
  have hl0 : 0 < len := by simp at dl; omega
  by_cases hk : q < len
  ·obtain ⟨u, hu, hc⟩ := hbs q hk
   obtain ⟨m, hm1, hm2⟩ := mod_nat (u := u) (n := n) (by omega) hn
   have HM := Lib.hid hm2
   clear hm2
   go_enter Tryz.func23, Tryz.ntmps23
   go_wp2_with fail
   go_ret
   exact ⟨⟨m, hm1, by rw [HM.out]; rfl⟩, hR, hO⟩
  ·obtain ⟨u, hu, hc⟩ := hbs (q % len) (Nat.mod_lt _ hl0)
   obtain ⟨v, hv, hd⟩ := hbs ((q * 7 + 3) % len) (Nat.mod_lt _ hl0)
   have hlp : (0 : Int) < (len : Int) := by omega
   have hm1 : (0 : Int) ≤ (q : Int) % (len : Int) := Int.emod_nonneg _ (by omega)
   have hm2 : (q : Int) % (len : Int) < (len : Int) := Int.emod_lt_of_pos _ hlp
   have hm3 : (0 : Int) ≤ ((q : Int) * 7 + 3) % (len : Int) := Int.emod_nonneg _ (by omega)
   have hm4 : ((q : Int) * 7 + 3) % (len : Int) < (len : Int) := Int.emod_lt_of_pos _ hlp
   have hq1 : (0 : Int) ≤ (q : Int) / (len : Int) := Int.ediv_nonneg (by omega) (by omega)
   have hq2 : (q : Int) / (len : Int) ≤ (q : Int) := Int.ediv_le_self _ (by omega)
   obtain ⟨m, hx1, hx2⟩ := mix_nat (x := (u : Int) * 131 + (v : Int) * 1117 + (q : Int) * 29 + (q : Int) / (len : Int) * 53) (n := n) (by omega) (by omega) hn
   have HX := Lib.hid hx2
   clear hx2
   go_enter Tryz.func23, Tryz.ntmps23
   go_wp2_with fail
   go_quiet (fail)
   go_wp2_with fail
   go_ret
   exact ⟨⟨m, hx1, by rw [← HX.out]; rfl⟩, hR.drewN, hO.drewN _⟩
theorem Only.cell {w w' : World} {rb b i : Nat} (h : Only [rb] w w') (hb : b < w.heap.size) (hne : b ≠ rb) : w'.cell? ⟨b, i, none⟩ = w.cell? ⟨b, i, none⟩ := World.cell?_of_block (h.block b hb (by simpa using hne))
theorem Only.keep {w w' : World} {rb b i : Nat} {u : Value} (h : Only [rb] w w') (hc : w.cell? ⟨b, i, none⟩ = some u) (hb : b < w.heap.size) (hne : b ≠ rb) : w'.cell? ⟨b, i, none⟩ = some u := (h.cell hb hne).trans hc
theorem Only.sameOn {w w' : World} {rb : Nat} {fp : List Nat} (h : Only [rb] w w') (hl : ∀ b ∈ fp, b < w.heap.size) (hn : rb ∉ fp) : SameOn fp w w' := h.same hl (fun b hb hm => hn (by rw [List.mem_singleton.1 hm] at hb; exact hb))
theorem Rd.only {w w' : World} {d : CD} {v : Value} {fp : List Nat} {rb : Nat} (h : Rd w d v fp) (ho : Only [rb] w w') (hn : rb ∉ fp) : Rd w' d v fp := h.same d (ho.sameOn (h.lt d) hn)
theorem RdVs.only {w w' : World} {d : List CD} {v : List Value} {fp : List Nat} {rb : Nat} (h : RdVs w d v fp) (ho : Only [rb] w w') (hn : rb ∉ fp) : RdVs w' d v fp := h.same d (ho.sameOn (h.lt d) hn)
theorem Fresh.only {w w' : World} {lo rb : Nat} {fp : List Nat} (h : Fresh lo w fp) (ho : Only [rb] w w') (hn : rb < lo) : Fresh lo w' fp := h.same (ho.sameOn h.lt (fun hm => by have := (h.2 _ hm).1; omega))
theorem Own.only {w w' : World} {base e k rb : Nat} {v : Value} {es : List (List CD)} {fp : List Nat} (h : Own w base e k v es fp) (ho : Only [rb] w w') (hb : rb < base) (hn : rb ∉ fp) : Own w' base e k v es fp :=
 h.same (ho.sameOn h.lt hn) (fun b hv => ho.block b (h.block hv).2 (by have := (h.block hv).1; simp; omega))
theorem Only.alloc {w w' : World} {rb : Nat} (h : Only [rb] w w') (o : Obj) : Only [rb] w (w'.alloc o) :=
 h.trans (Only.below (zb w' o))
theorem Rdr.same {w w' : World} {rb p : Nat} (h : Rdr w rb p) (hs : ∀ b, b ≤ rb → w'.heap[b]? = w.heap[b]?) : Rdr w' rb p := by
 obtain ⟨a, n, cap, q, T, h1, h2, h3, h4⟩ := h
 refine ⟨a, n, cap, q, T, h1, h2, (hs rb (Nat.le_refl _)).trans h3, ?_⟩
 rcases h4 with h4 | ⟨b, off, r1, r2, r4⟩
 ·exact .inl h4
 ·refine .inr ⟨b, off, r1, r2, fun i hi => ?_⟩
  obtain ⟨u, hu, hc⟩ := r4 i hi
  exact ⟨u, hu, (World.cell?_of_block (w := w) (hs b (by omega))).trans hc⟩
theorem Rdr.lt {w : World} {rb p : Nat} (h : Rdr w rb p) : rb < w.heap.size := by
 obtain ⟨a, n, cap, q', T, h1, h2, h3, h4⟩ := h; exact (Array.getElem?_eq_some_iff.1 h3).1
theorem Rdr.below {w w' : World} {rb p : Nat} (h : Rdr w rb p) (hb : Below w.heap.size w w') : Rdr w' rb p := h.same (fun b hl => hb.block b (by have := h.lt; omega))
theorem Rdr.alloc {w : World} {rb p : Nat} (h : Rdr w rb p) (o : Obj) : Rdr (w.alloc o) rb p := h.below (zb w o)
theorem Rdr.mono {w : World} {rb p q : Nat} (h : Rdr w rb p) (hp : p ≤ q) : Rdr w rb q := by
 obtain ⟨a, n, cap, q', T, h1, h2⟩ := h; exact ⟨a, n, cap, q', T, by omega, h2⟩
/-- What an append leaves of an older frame. -/
theorem Only.grown {a w w' : World} {rb : Nat} {r : Option Nat} (h : Only [rb] a w) (hg : w.grownBy w' r) (hr : ∀ b, r = some b → a.heap.size ≤ b) : Only [rb] a w' :=
 ⟨hg.os.trans h.os, hg.tape.trans h.tape, hg.output.trans h.output, Nat.le_trans h.size hg.size, fun b hb hn => (hg.block b (zep hb h.size) (fun e => by have := hr b e.symm; omega)).trans (h.block b hb hn)⟩
theorem Rdr.grown {w w' : World} {rb p : Nat} {r : Option Nat} (h : Rdr w rb p) (hg : w.grownBy w' r) (hr : ∀ b, r = some b → rb < b) : Rdr w' rb p :=
 h.same (fun b hb => hg.block b (by have := h.lt; omega) (fun e => by have := hr b e.symm; omega))
theorem num_any (xs : List Int) (rb p lb : Nat) (w : World) (hp : p ≤ 1000000000) (h0 : 1 ≤ xs.length) (h1 : xs.length ≤ 1000) (hne : lb ≠ rb) (hlb : lb < w.heap.size)
  (hc : ∀ i (h : i < xs.length), w.cell? ⟨lb, i, none⟩ = some (.int .i64 xs[i])) (h : Rdr w rb p) :
  Calls Tryz.prog 22 #[.pointer (some ⟨rb, 0, none⟩), .slice (some ⟨lb, 0, none⟩) xs.length xs.length] w fun e w' => (∃ x, x ∈ xs ∧ e = .returned (.int .i64 x)) ∧ Rdr w' rb (p + 1) ∧ Only [rb] w w' := by
 go_enter Tryz.func22, Tryz.ntmps22
 go_wp2_with fail
 refine (zE rb p xs.length w hp (by omega) (by omega) h).mono ?_
 rintro e w1 ⟨⟨m, hm, rfl⟩, hr, ho⟩
 have hm' : m < xs.length := by omega
 have c := ho.keep (hc m hm') hlb hne
 have HX := Lib.hid (zes hm')
 go_wp2_with fail
 go_ret
 exact ⟨⟨xs[m], HX.out, rfl⟩, hr, ho⟩
theorem of_any (xs : List ByteArray) (rb p lb : Nat) (w : World) (hp : p ≤ 1000000000) (h0 : 1 ≤ xs.length) (h1 : xs.length ≤ 1000) (hne : lb ≠ rb) (hlb : lb < w.heap.size)
  (hc : ∀ i (h : i < xs.length), w.cell? ⟨lb, i, none⟩ = some (.string xs[i])) (h : Rdr w rb p) :
  Calls Tryz.prog 51 #[.pointer (some ⟨rb, 0, none⟩), .slice (some ⟨lb, 0, none⟩) xs.length xs.length] w fun e w' => (∃ x, x ∈ xs ∧ e = .returned (.string x)) ∧ Rdr w' rb (p + 1) ∧ Only [rb] w w' := by
 go_enter Tryz.func51, Tryz.ntmps51
 go_wp2_with fail
 refine (zE rb p xs.length w hp (by omega) (by omega) h).mono ?_
 rintro e w1 ⟨⟨m, hm, rfl⟩, hr, ho⟩
 have hm' : m < xs.length := by omega
 have c := ho.keep (hc m hm') hlb hne
 have HX := Lib.hid (zes hm')
 go_wp2_with fail
 go_ret
 exact ⟨⟨xs[m], HX.out, rfl⟩, hr, ho⟩
/-- Bytes that came in. -/
def Byts (w : World) (v : Value) : Prop := ∃ a n cap, v = .slice a n cap ∧ n ≤ cap ∧ cap ≤ 9223372036854775807 ∧ (n = 0 ∨ ∃ b off, a = some ⟨b, off, none⟩ ∧ b < w.heap.size ∧ ∀ i : Nat, i < n → ∃ u : Nat, u ≤ 255 ∧ w.cell? ⟨b, off + i, none⟩ = some (.int .u8 u))
theorem Byts.below {w w' : World} {v : Value} (h : Byts w v) (hb : Below w.heap.size w w') : Byts w' v := by
 obtain ⟨a, n, cap, h1, h2, h3, h4⟩ := h
 refine ⟨a, n, cap, h1, h2, h3, ?_⟩
 rcases h4 with h4 | ⟨b, off, r1, r3, r4⟩
 ·exact .inl h4
 ·refine .inr ⟨b, off, r1, by have := hb.size; omega, fun i hi => ?_⟩
  obtain ⟨u, hu, hc⟩ := r4 i hi
  exact ⟨u, hu, (World.cell?_of_block (w := w) (hb.block b r3)).trans hc⟩
theorem rdr_new {w : World} {a : Option Addr} {n cap T : Nat} (hn : n ≤ 2000) (h : n = 0 ∨ ∃ b off, a = some ⟨b, off, none⟩ ∧ b < w.heap.size ∧ ∀ i : Nat, i < n → ∃ u : Nat, u ≤ 255 ∧ w.cell? ⟨b, off + i, none⟩ = some (.int .u8 u)) :
  Rdr (w.alloc (.cells #[.slice a n cap, .int .i64 0] T)) w.heap.size 0 := by
 refine ⟨a, n, cap, 0, T, Nat.le_refl _, hn, by show (w.heap.push _)[w.heap.size]? = _; simp, ?_⟩
 rcases h with h | ⟨b, off, r1, r3, r4⟩
 ·exact .inl h
 ·refine .inr ⟨b, off, r1, r3, fun i hi => ?_⟩
  obtain ⟨u, hu, hc⟩ := r4 i hi
  exact ⟨u, hu, (World.cell?_of_block (w := w) ((zb w _).block b r3)).trans hc⟩
theorem zau (v : Value) (w : World) (h : Byts w v) :
  Calls Tryz.prog 19 #[v] w fun e w' => e = .returned (.pointer (some ⟨w.heap.size, 0, none⟩)) ∧ Rdr w' w.heap.size 0 ∧ Below w.heap.size w w' := by
 obtain ⟨a, n, cap, rfl, h1, h2, h3⟩ := h
 by_cases hn : n ≤ 2000
 ·have dn : decide ((2000 : Int) < (n : Int)) = false := by simp; omega
  go_enter Tryz.func19, Tryz.ntmps19
  go_wp2_with fail
  go_ret
  exact ⟨rfl, rdr_new hn h3, zb _ _⟩
 ·have dn : decide ((2000 : Int) < (n : Int)) = true := by simp; omega
  obtain ⟨b, off, rfl, r3, r4⟩ : ∃ b off, a = some ⟨b, off, none⟩ ∧ b < w.heap.size ∧ ∀ i : Nat, i < n → ∃ u : Nat, u ≤ 255 ∧ w.cell? ⟨b, off + i, none⟩ = some (.int .u8 u) := by
   rcases h3 with h3 | h3
   ·omega
   ·exact h3
  go_enter Tryz.func19, Tryz.ntmps19
  go_wp2_with fail
  go_ret
  exact ⟨rfl, rdr_new (Nat.le_refl _) (.inr ⟨b, off, rfl, r3, fun i hi => r4 i (by omega)⟩), zb _ _⟩
end Go.Proofs.YtlefdhhnlbpbkaaGreat
end
namespace Go.Proofs.YtlefdhhnlbpbkaaGreat
open Go Go.RowKit Go.ChangeShapes Go.WideShapes
set_option linter.unusedVariables false
set_option linter.unusedSimpArgs false
theorem rd_bytes {H : Type} {enc : TypeId × Value → H} {P : Program} {w : World} {base : Nat} {spare : Nat → Bool} {held : Bool} {t e fuel : Nat} {cs : List Value} {x : DataW H × List MemPlace}
  (ht : P.underlying t = some (.slice e)) (he : P.underlying e = some (.int .u8)) (hC : P.cellsOf e = 1) (h : DataW.trod enc P w base spare held fuel t cs = some x) : ∃ v, cs = [v] ∧ Byts w v := by
 rcases DataW.trod_slice ht h with ⟨rfl, _⟩ | ⟨a, len, cap, elems, rest, n, hn, rfl, _, _, hl, hm, hlen, hi, _, _⟩
 ·exact ⟨_, rfl, none, 0, 0, rfl, Nat.le_refl _, by omega, .inl rfl⟩
 ·have hm' : cap ≤ 9223372036854775807 := by simpa [maxLen] using hm
  refine ⟨_, rfl, some a, len, cap, rfl, hl, hm', ?_⟩
  by_cases h0 : len = 0
  ·exact .inl h0
  ·have hcell : ∀ i, i < len → ∃ cs', cs'.length = 1 ∧ (∀ j, j < 1 → w.cell? ((a.add (i * 1)).add j) = cs'[j]?) ∧ ∃ x', DataW.trod enc P w base spare held n e cs' = some x' := by
    intro i hil
    have h1 := hi i hil
    rw [hC] at h1
    have h2 : elems[i]? = some elems[i] := List.getElem?_eq_getElem (by omega)
    rw [h2, Option.bind_eq_some_iff] at h1
    obtain ⟨cs', h3, h4⟩ := h1
    obtain ⟨_, h5, h6⟩ := World.cells?_some h3
    exact ⟨cs', h5, h6, _, h4⟩
   obtain ⟨ab, ao, asp⟩ := a
   have hsp : asp = none := by
    obtain ⟨cs', h5, h6, _⟩ := hcell 0 (by omega)
    have h7 := h6 0 (by omega)
    rw [List.getElem?_eq_getElem (by omega)] at h7
    simp only [Nat.zero_mul, Addr.add, if_true] at h7
    cases asp with
    | none => rfl
    | some q =>
     simp only [World.cell?] at h7
     split at h7 <;> simp at h7
   subst hsp
   have hab : ab < w.heap.size := by
    obtain ⟨cs', h5, h6, _⟩ := hcell 0 (by omega)
    have h7 := h6 0 (by omega)
    rw [List.getElem?_eq_getElem (by omega)] at h7
    simp only [Nat.zero_mul, Addr.add, if_true] at h7
    exact World.block_lt_of_cell? w _ h7
   refine .inr ⟨ab, ao, rfl, hab, fun i hil => ?_⟩
   obtain ⟨cs', h5, h6, x', h7⟩ := hcell i hil
   obtain ⟨z, rfl, _, hw⟩ := DataW.trod_int he h7
   have hb := bounds_u8 hw
   refine ⟨z.toNat, by omega, ?_⟩
   have h8 := h6 0 (by omega)
   simp only [Addr.add_lit, Nat.mul_one, Nat.add_zero, zem] at h8
   rw [h8, Int.toNat_of_nonneg (by omega)]
theorem open_Byts {H : Type} {enc : TypeId × Value → H} {w : World} {base : Nat} {spare : Nat → Bool} {held : Bool} (fuel : Nat) (cs : List Value) (x : DataW H × List MemPlace) (h : DataW.trod enc Tryz.prog w base spare held fuel 22 cs = some x) : ∃ v, cs = [v] ∧ Byts w v :=
 rd_bytes Tryz.underlying22 Tryz.underlying5 (by kernel_rfl) h
end Go.Proofs.YtlefdhhnlbpbkaaGreat
