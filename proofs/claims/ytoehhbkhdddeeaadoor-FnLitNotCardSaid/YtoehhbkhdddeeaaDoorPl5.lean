/- Parts of the proof: Rdr. -/
import Derived.Deep.QuietTactic
import Derived.BigQuiet
import Derived.Test.YtoehhbkhdddeeaaDoorPl2
import Derived.Test.YtoehhbkhdddeeaaDoorPl4
section
namespace Go.Proofs.YtoehhbkhdddeeaaDoor
open Go Go.RowKit
set_option linter.unusedVariables false
set_option linter.unusedSimpArgs false
set_option maxRecDepth 100000
set_option maxHeartbeats 16000000
/-- A reader in block rb, whose place is at most p: its bytes lie in another block. -/
def Rdr (w : World) (rb p : Nat) : Prop := ∃ (a : Option Addr) (n cap q T : Nat), q ≤ p ∧ n ≤ 2000 ∧ w.heap[rb]? = some (.cells #[.slice a n cap, .int .i64 q] T (0, 0)) ∧
 (n = 0 ∨ ∃ b off, a = some ⟨b, off, none⟩ ∧ b < rb ∧ ∀ i : Nat, i < n → ∃ u : Nat, u ≤ 255 ∧ w.cell? ⟨b, off + i, none⟩ = some (.int .u8 u))
theorem zbf {w : World} {b i : Nat} {u : Value} {c : Array Value} {T : Nat} (h : w.heap[b]? = some (.cells c T (0, 0))) : (w.setCell ⟨b, i, none⟩ u).heap[b]? = some (.cells (c.setIfInBounds i u) T (0, 0)) := by
 simp [World.setCell, Array.getElem?_modify, h]
theorem Rdr.next {w : World} {rb p q n cap T : Nat} {a : Option Addr} (hq : q ≤ p) (hn : n ≤ 2000) (hb : w.heap[rb]? = some (.cells #[.slice a n cap, .int .i64 q] T (0, 0)))
  (h : n = 0 ∨ ∃ b off, a = some ⟨b, off, none⟩ ∧ b < rb ∧ ∀ i : Nat, i < n → ∃ u : Nat, u ≤ 255 ∧ w.cell? ⟨b, off + i, none⟩ = some (.int .u8 u)) : Rdr (w.setCell ⟨rb, 1, none⟩ (.int .i64 ((q : Int) + 1))) rb (p + 1) := by
 refine ⟨a, n, cap, q + 1, T, by omega, hn, by rw [zbf hb]; simp, ?_⟩
 rcases h with h | ⟨b, off, h1, h2, h4⟩
 ·exact .inl h
 ·refine .inr ⟨b, off, h1, h2, fun i hi => ?_⟩
  obtain ⟨u, hu, hc⟩ := h4 i hi
  exact ⟨u, hu, by rw [World.cell?_setCell_other _ _ _ _ (by intro e; simp only [Addr.mk.injEq] at e; omega)]; exact hc⟩
theorem mod_nat {u n : Int} (hu : 0 ≤ u) (hn : 1 ≤ n) : ∃ m : Nat, (m : Int) < n ∧ (u % n) = m :=
 ⟨(u % n).toNat, by have := Int.emod_lt_of_pos u (show 0 < n by omega); have := Int.emod_nonneg u (show n ≠ 0 by omega); omega, by have := Int.emod_nonneg u (show n ≠ 0 by omega); omega⟩
theorem zbp (a b : Nat) (ha : a < 4611686018427387904) (hb : b < 4611686018427387904) : bits .xor .i64 (a : Int) (b : Int) = ((a ^^^ b : Nat) : Int) := by
 have hx : a ^^^ b < 2 ^ 62 := Nat.xor_lt_two_pow (by omega) (by omega)
 have h1 : (BitVec.ofInt 64 (a : Int)).toNat = a := by
  rw [BitVec.ofInt_natCast, BitVec.toNat_ofNat]; exact Nat.mod_eq_of_lt (by omega)
 have h2 : (BitVec.ofInt 64 (b : Int)).toNat = b := by
  rw [BitVec.ofInt_natCast, BitVec.toNat_ofNat]; exact Nat.mod_eq_of_lt (by omega)
 show IntKind.i64.wrap ((BitVec.ofInt 64 (a : Int) ^^^ BitVec.ofInt 64 (b : Int)).toNat : Int) = _
 rw [BitVec.toNat_xor, h1, h2]
 simp [IntKind.wrap, IntKind.bits, IntKind.signed]
 omega
theorem mix_nat {x n : Int} (x0 : 0 ≤ x) (x1 : x < 4611686018427387904) (hn : 1 ≤ n) : ∃ m : Nat, (m : Int) < n ∧ (bits .xor .i64 x (x / 64)).tmod n = m := by
 obtain ⟨k, rfl⟩ := Int.eq_ofNat_of_zero_le x0
 rw [show ((k : Int) / 64) = ((k / 64 : Nat) : Int) from by omega, zbp k (k / 64) (by omega) (by omega)]
 obtain ⟨m, h1, h2⟩ := mod_nat (u := ((k ^^^ k / 64 : Nat) : Int)) (n := n) (by omega) hn
 exact ⟨m, h1, by rw [Int.tmod_eq_emod_of_nonneg (by omega)]; exact h2⟩
theorem Rdr.drewN {w : World} {rb p k : Nat} (h : Rdr w rb p) : Rdr (w.drewN k) rb p := h
theorem Only.drewN {w w' : World} {fp : List Nat} (h : Only fp w w') (k : Nat) : Only fp w (w'.drewN k) := ⟨h.os, h.tape, h.output, h.size, h.block⟩
theorem zS (rb p : Nat) (n : Int) (w : World) (hp : p ≤ 1000000000) (hn : 1 ≤ n) (hn2 : n ≤ 1000000000) (h : Rdr w rb p) :
  Calls Tryd.prog 37 #[.pointer (some ⟨rb, 0, none⟩), .int .i64 n] w fun e w' => (∃ m : Nat, (m : Int) < n ∧ e = .returned (.int .i64 m)) ∧ Rdr w' rb (p + 1) ∧ Only [rb] w w' := by
 obtain ⟨a, len, cap, q, T, hq, hlen, hb, hbs⟩ := h
 have c0 : w.cell? ⟨rb, 0, none⟩ = some (.slice a len cap) := by simp [World.cell?, hb]
 have c1 : w.cell? ⟨rb, 1, none⟩ = some (.int .i64 q) := by simp [World.cell?, hb]
 have hf : w.frozen? ⟨rb, 1, none⟩ = false := by unfold World.frozen?; rw [hb]; simp
 have dn : decide (n < 1) = false := by simp; omega
 have hO := Only.set (fp := [rb]) (w := w) (a := ⟨rb, 1, none⟩) (u := .int .i64 ((q : Int) + 1)) (by simp)
 have hR := Rdr.next hq hlen hb hbs
 rcases hbs with rfl | ⟨b, off, rfl, hrb, hbs⟩
 ·go_enter Tryd.func37, Tryd.ntmps37
  go_wp2_with fail
  go_ret
  exact ⟨⟨0, by omega, rfl⟩, hR, hO⟩
 ·have hne : b ≠ rb := by omega
  have dl : ((len : Int) == 0) = false ∨ len = 0 := by by_cases h : len = 0 <;> simp [h]
  rcases dl with dl | rfl
  rotate_left
  ·go_enter Tryd.func37, Tryd.ntmps37
   go_wp2_with fail
   go_ret
   exact ⟨⟨0, by omega, rfl⟩, hR, hO⟩
  have hl0 : 0 < len := by simp at dl; omega
  by_cases hk : q < len
  ·obtain ⟨u, hu, hc⟩ := hbs q hk
   obtain ⟨m, hm1, hm2⟩ := mod_nat (u := u) (n := n) (by omega) hn
   have HM := Lib.hid hm2
   clear hm2
   go_enter Tryd.func37, Tryd.ntmps37
   go_wp2_with fail
   go_ret
   exact ⟨⟨m, hm1, by rw [HM.out]; rfl⟩, hR, hO⟩
  ·obtain ⟨u, hu, hc⟩ := hbs (q % len) (Nat.mod_lt _ hl0)
   obtain ⟨v, hv, hd⟩ := hbs ((q * 7 + 3) % len) (Nat.mod_lt _ hl0)
   have hlp : (0 : Int) < (len : Int) := by omega
   have hm1 : (0 : Int) ≤ (q : Int) % (len : Int) := Int.emod_nonneg _ (by omega)
   have hm2 : (q : Int) % (len : Int) < (len : Int) := Int.emod_lt_of_pos _ hlp
   have hm3 : (0 : Int) ≤ ((q : Int) * 7 + 3) % (len : Int) := Int.emod_nonneg _ (by omega)
   have hm4 : ((q : Int) * 7 + 3) % (len : Int) < (len : Int) := Int.emod_lt_of_pos _ hlp
   have hq1 : (0 : Int) ≤ (q : Int) / (len : Int) := Int.ediv_nonneg (by omega) (by omega)
   have hq2 : (q : Int) / (len : Int) ≤ (q : Int) := Int.ediv_le_self _ (by omega)
   obtain ⟨m, hx1, hx2⟩ := mix_nat (x := (u : Int) * 131 + (v : Int) * 1117 + (q : Int) * 29 + (q : Int) / (len : Int) * 53) (n := n) (by omega) (by omega) hn
   have HX := Lib.hid hx2
   clear hx2
   go_enter Tryd.func37, Tryd.ntmps37
   go_wp2_with fail
   go_quiet (fail)
   go_wp2_with fail
   go_ret
   exact ⟨⟨m, hx1, by rw [← HX.out]; rfl⟩, hR.drewN, hO.drewN _⟩
end Go.Proofs.YtoehhbkhdddeeaaDoor
end
