/- Parts of the proof: Mark Rdr. -/
import Derived.Test.YtlefdhhnlbpbkaaPb1
import Derived.Deep.QuietTactic
import Derived.BigQuiet
import Derived.Test.YtlefdhhnlbpbkaaPb3
section
namespace Go.Proofs.Ytlefdhhnlbpbkaa
open Go Go.RowKit
set_option linter.unusedVariables false
set_option linter.unusedSimpArgs false
set_option maxRecDepth 100000
set_option maxHeartbeats 16000000
/-- Cells in a row, read. -/
def RdFlat (w : World) (b off : Nat) (ds : List CD) (f : List Nat) : Prop := ∃ vs, CellsAt w b off vs ∧ RdVs w ds vs f
theorem RdFlat.nil (w : World) (b off : Nat) : RdFlat w b off [] [] := ⟨[], fun j v h => by simp at h, by simp [RdVs]⟩
theorem RdFlat.snoc {w : World} {b off : Nat} {ds : List CD} {d : CD} {v : Value} {f g : List Nat} (h : RdFlat w b off ds f) (hc : w.cell? ⟨b, off + ds.length, none⟩ = some v) (hd : Rd w d v g) : RdFlat w b off (ds ++ [d]) (f ++ g) := by
 obtain ⟨vs, h1, h2⟩ := h
 refine ⟨vs ++ [v], fun j u hj => ?_, h2.app (RdVs.single hd)⟩
 have hl := h2.length
 by_cases hjl : j < vs.length
 ·rw [List.getElem?_append_left hjl] at hj; exact h1 j u hj
 ·rw [List.getElem?_append_right (by omega)] at hj
  have : j - vs.length = 0 := by
   rcases Nat.eq_zero_or_pos (j - vs.length) with h | h
   ·exact h
   ·rw [List.getElem?_eq_none (by simp; omega)] at hj; simp at hj
  rw [this] at hj
  simp at hj
  subst hj
  rw [show j = ds.length from by omega]; exact hc
theorem RdFlat.frame {w w' : World} {b off : Nat} {ds : List CD} {f : List Nat} (h : RdFlat w b off ds f) (hc : ∀ j, off ≤ j → j < off + ds.length → w'.cell? ⟨b, j, none⟩ = w.cell? ⟨b, j, none⟩) (hs : SameOn f w w') : RdFlat w' b off ds f := by
 obtain ⟨vs, h1, h2⟩ := h
 refine ⟨vs, fun j u hj => ?_, h2.same _ hs⟩
 have : j < vs.length := (List.getElem?_eq_some_iff.1 hj).1
 rw [hc (off + j) (by omega) (by rw [← h2.length]; omega)]; exact h1 j u hj
theorem RdFlat.set {w : World} {b off o : Nat} {ds : List CD} {f : List Nat} {u : Value} (h : RdFlat w b off ds f) (ho : o < off ∨ off + ds.length ≤ o) (hb : b ∉ f) : RdFlat (w.setCell ⟨b, o, none⟩ u) b off ds f :=
 h.frame (fun j h1 h2 => World.cell?_setCell_other _ _ _ _ (by intro e; simp only [Addr.mk.injEq] at e; omega)) (zt fun x hx e => hb (by subst e; exact hx))
theorem RdFlat.same {w w' : World} {b off : Nat} {ds : List CD} {f : List Nat} (h : RdFlat w b off ds f) (hb : w'.heap[b]? = w.heap[b]?) (hs : SameOn f w w') : RdFlat w' b off ds f :=
 h.frame (fun _ _ _ => World.cell?_of_block (w := w) hb) hs
/-- From w to w' none but the blocks of fp have turned. -/
structure Only (fp : List Nat) (w w' : World) : Prop where
 os : w'.os = w.os
 tape : w'.tape = w.tape
 output : w'.output = w.output
 size : w.heap.size ≤ w'.heap.size
 block : ∀ b, b < w.heap.size → b ∉ fp → w'.heap[b]? = w.heap[b]?
theorem Only.refl (fp : List Nat) (w : World) : Only fp w w := ⟨rfl, rfl, rfl, Nat.le_refl _, fun _ _ _ => rfl⟩
theorem Only.trans {fp : List Nat} {a b c : World} (h : Only fp a b) (h' : Only fp b c) : Only fp a c :=
 ⟨h'.os.trans h.os, h'.tape.trans h.tape, h'.output.trans h.output, Nat.le_trans h.size h'.size, fun k hk hn => (h'.block k (zdZ hk h.size) hn).trans (h.block k hk hn)⟩
theorem Only.mono {fp fq : List Nat} {w w' : World} (h : Only fp w w') (hs : ∀ b ∈ fp, b ∈ fq) : Only fq w w' := ⟨h.os, h.tape, h.output, h.size, fun b hb hn => h.block b hb fun hm => hn (hs b hm)⟩
theorem Only.below {fp : List Nat} {w w' : World} (h : Below w.heap.size w w') : Only fp w w' := ⟨h.os, h.tape, h.output, h.size, fun b hb _ => h.block b hb⟩
theorem Only.set {fp : List Nat} {w : World} {a : Addr} {u : Value} (h : a.block ∈ fp) : Only fp w (w.setCell a u) :=
 ⟨rfl, rfl, rfl, by simp, fun b _ hn => Below.heap_setCell _ _ _ _ (fun e => hn (e ▸ h))⟩
theorem Only.toBelow {fp : List Nat} {w w' : World} {B : Nat} (h : Only fp w w') (hB : B ≤ w.heap.size) (hf : ∀ b ∈ fp, B ≤ b) : Below B w w' :=
 ⟨h.os, h.tape, h.output, h.size, fun b hb => h.block b (by omega) fun hm => by have := hf b hm; omega⟩
theorem Only.same {fp fq : List Nat} {w w' : World} (h : Only fp w w') (hl : ∀ b ∈ fq, b < w.heap.size) (hd : ∀ b ∈ fq, b ∉ fp) : SameOn fq w w' := fun b hb => h.block b (hl b hb) (hd b hb)
/-- Rows of cells that may be written, whatever they hold. -/
def Free (w : World) (fp : List Nat) : Prop := ∀ b ∈ fp, ∃ c e, w.heap[b]? = some (.cells c e (0, 0))
theorem Fresh.free {lo : Nat} {w : World} {fp : List Nat} (h : Fresh lo w fp) : Free w fp := fun b hb => (h.2 b hb).2
theorem Free.same {w w' : World} {fp : List Nat} (h : Free w fp) (hs : SameOn fp w w') : Free w' fp := fun b hb => by obtain ⟨c, e, h1⟩ := h b hb; exact ⟨c, e, (hs b hb).trans h1⟩
theorem Free.frozen {w : World} {fp : List Nat} (h : Free w fp) {b j : Nat} (hb : b ∈ fp) : w.frozen? ⟨b, j, none⟩ = false := by
 obtain ⟨c, e, h1⟩ := h b hb; unfold World.frozen?; rw [h1]; simp
theorem Free.lt {w : World} {fp : List Nat} (h : Free w fp) : ∀ b ∈ fp, b < w.heap.size := fun b hb => by obtain ⟨c, e, h1⟩ := h b hb; exact (Array.getElem?_eq_some_iff.1 h1).1
theorem Free.set {w : World} {fp : List Nat} {a : Addr} {u : Value} (h : Free w fp) (ha : a.spot = none) : Free (w.setCell a u) fp := fun b hb => by
 obtain ⟨c, e, h1⟩ := h b hb
 by_cases hab : b = a.block
 ·subst hab
  refine ⟨c.setIfInBounds a.off u, e, ?_⟩
  simp [World.setCell, Array.getElem?_modify, h1, ha]
 ·exact ⟨c, e, (Below.heap_setCell _ _ _ _ hab).trans h1⟩
/-- In the midst of marking a row: what is done, what is to come. -/
structure MkSt (w : World) (b off : Nat) (done todo : List CD) (f1 f3 : List Nat) : Prop where
 hdone : RdFlat w b off done f1
 htodo : RdFlat w b (off + done.length) todo f3
 free : Free w (b :: (f1 ++ f3))
 nd : (b :: (f1 ++ f3)).Nodup
/-- One slice, marked by a call. -/
theorem MkSt.slice {w w' : World} {b off : Nat} {done ds : List CD} {es es' : List (List CD)} {f1 fe f2 : List Nat} {v : Value} (h : MkSt w b off done (.sl es :: ds) f1 (fe ++ f2)) (hc : w.cell? ⟨b, off + done.length, none⟩ = some v)
  (ht : RdFlat w b (off + done.length + 1) ds f2) (ho : Only fe w w') (hr : Rd w' (.sl es') v fe) (hf : Free w' fe) : MkSt w' b off (done ++ [.sl es']) ds (f1 ++ fe) f2 := by
 have hn := List.nodup_cons.1 h.nd
 have hn2 := List.nodup_append.1 hn.2
 have hn3 := List.nodup_append.1 hn2.2.1
 have hbl : b < w.heap.size := h.free.lt b (by simp)
 have hbe : b ∉ fe := fun hm => hn.1 (List.mem_append_right _ (List.mem_append_left _ hm))
 have hbb := ho.block b hbl hbe
 have s1 : SameOn f1 w w' := ho.same (fun x hx => h.free.lt x (by simp [hx])) fun x hx hm => hn2.2.2 x hx x (List.mem_append_left _ hm) rfl
 have s2 : SameOn f2 w w' := ho.same (fun x hx => h.free.lt x (by simp [hx])) fun x hx hm => hn3.2.2 x hm x hx rfl
 refine ⟨(h.hdone.same hbb s1).snoc (by rw [World.cell?_of_block (w := w) hbb]; exact hc) hr, ?_, ?_, by rw [List.append_assoc]; exact h.nd⟩
 ·rw [zd3, List.length_singleton, ← Nat.add_assoc]
  exact ht.same hbb s2
 ·intro x hx
  rcases zd5.1 hx with rfl | hx
  ·obtain ⟨c, e, h1⟩ := h.free x (by simp); exact ⟨c, e, hbb.trans h1⟩
  ·rcases zd1.1 hx with hx | hx
   ·rcases zd1.1 hx with hx | hx
    ·obtain ⟨c, e, h1⟩ := h.free x (by simp [hx]); exact ⟨c, e, (s1 x hx).trans h1⟩
    ·exact hf x hx
   ·obtain ⟨c, e, h1⟩ := h.free x (by simp [hx]); exact ⟨c, e, (s2 x hx).trans h1⟩
theorem MkSt.below {w w' : World} {b off : Nat} {done todo : List CD} {f1 f3 : List Nat} (h : MkSt w b off done todo f1 f3) (hb : Below w.heap.size w w') : MkSt w' b off done todo f1 f3 := by
 have hl := h.free.lt
 have s : SameOn (b :: (f1 ++ f3)) w w' := zG hb hl
 exact ⟨h.hdone.same (s b (by simp)) (s.mono fun x hx => by simp [hx]), h.htodo.same (s b (by simp)) (s.mono fun x hx => by simp [hx]), h.free.same s, h.nd⟩
/-- A reader in block rb, whose place is at most p: its bytes lie in another block. -/
def Rdr (w : World) (rb p : Nat) : Prop := ∃ (a : Option Addr) (n cap q T : Nat), q ≤ p ∧ n ≤ 2000 ∧ w.heap[rb]? = some (.cells #[.slice a n cap, .int .i64 q] T (0, 0)) ∧
 (n = 0 ∨ ∃ b off, a = some ⟨b, off, none⟩ ∧ b < rb ∧ ∀ i : Nat, i < n → ∃ u : Nat, u ≤ 255 ∧ w.cell? ⟨b, off + i, none⟩ = some (.int .u8 u))
theorem zce {w : World} {b i : Nat} {u : Value} {c : Array Value} {T : Nat} (h : w.heap[b]? = some (.cells c T (0, 0))) : (w.setCell ⟨b, i, none⟩ u).heap[b]? = some (.cells (c.setIfInBounds i u) T (0, 0)) := by
 simp [World.setCell, Array.getElem?_modify, h]
theorem Rdr.next {w : World} {rb p q n cap T : Nat} {a : Option Addr} (hq : q ≤ p) (hn : n ≤ 2000) (hb : w.heap[rb]? = some (.cells #[.slice a n cap, .int .i64 q] T (0, 0)))
  (h : n = 0 ∨ ∃ b off, a = some ⟨b, off, none⟩ ∧ b < rb ∧ ∀ i : Nat, i < n → ∃ u : Nat, u ≤ 255 ∧ w.cell? ⟨b, off + i, none⟩ = some (.int .u8 u)) : Rdr (w.setCell ⟨rb, 1, none⟩ (.int .i64 ((q : Int) + 1))) rb (p + 1) := by
 refine ⟨a, n, cap, q + 1, T, by omega, hn, by rw [zce hb]; simp, ?_⟩
 rcases h with h | ⟨b, off, h1, h2, h4⟩
 ·exact .inl h
 ·refine .inr ⟨b, off, h1, h2, fun i hi => ?_⟩
  obtain ⟨u, hu, hc⟩ := h4 i hi
  exact ⟨u, hu, by rw [World.cell?_setCell_other _ _ _ _ (by intro e; simp only [Addr.mk.injEq] at e; omega)]; exact hc⟩
theorem mod_nat {u n : Int} (hu : 0 ≤ u) (hn : 1 ≤ n) : ∃ m : Nat, (m : Int) < n ∧ (u % n) = m :=
 ⟨(u % n).toNat, by have := Int.emod_lt_of_pos u (show 0 < n by omega); have := Int.emod_nonneg u (show n ≠ 0 by omega); omega, by have := Int.emod_nonneg u (show n ≠ 0 by omega); omega⟩
theorem zcw (a b : Nat) (ha : a < 4611686018427387904) (hb : b < 4611686018427387904) : bits .xor .i64 (a : Int) (b : Int) = ((a ^^^ b : Nat) : Int) := by
 have hx : a ^^^ b < 2 ^ 62 := Nat.xor_lt_two_pow (by omega) (by omega)
 have h1 : (BitVec.ofInt 64 (a : Int)).toNat = a := by
  rw [BitVec.ofInt_natCast, BitVec.toNat_ofNat]; exact Nat.mod_eq_of_lt (by omega)
 have h2 : (BitVec.ofInt 64 (b : Int)).toNat = b := by
  rw [BitVec.ofInt_natCast, BitVec.toNat_ofNat]; exact Nat.mod_eq_of_lt (by omega)
 show IntKind.i64.wrap ((BitVec.ofInt 64 (a : Int) ^^^ BitVec.ofInt 64 (b : Int)).toNat : Int) = _
 rw [BitVec.toNat_xor, h1, h2]
 simp [IntKind.wrap, IntKind.bits, IntKind.signed]
 omega
theorem mix_nat {x n : Int} (x0 : 0 ≤ x) (x1 : x < 4611686018427387904) (hn : 1 ≤ n) : ∃ m : Nat, (m : Int) < n ∧ (bits .xor .i64 x (x / 64)).tmod n = m := by
 obtain ⟨k, rfl⟩ := Int.eq_ofNat_of_zero_le x0
 rw [show ((k : Int) / 64) = ((k / 64 : Nat) : Int) from by omega, zcw k (k / 64) (by omega) (by omega)]
 obtain ⟨m, h1, h2⟩ := mod_nat (u := ((k ^^^ k / 64 : Nat) : Int)) (n := n) (by omega) hn
 exact ⟨m, h1, by rw [Int.tmod_eq_emod_of_nonneg (by omega)]; exact h2⟩
theorem Rdr.drewN {w : World} {rb p k : Nat} (h : Rdr w rb p) : Rdr (w.drewN k) rb p := h
theorem Only.drewN {w w' : World} {fp : List Nat} (h : Only fp w w') (k : Nat) : Only fp w (w'.drewN k) := ⟨h.os, h.tape, h.output, h.size, h.block⟩
theorem zF (rb p : Nat) (n : Int) (w : World) (hp : p ≤ 1000000000) (hn : 1 ≤ n) (hn2 : n ≤ 1000000000) (h : Rdr w rb p) :
  Calls Try.prog 17 #[.pointer (some ⟨rb, 0, none⟩), .int .i64 n] w fun e w' => (∃ m : Nat, (m : Int) < n ∧ e = .returned (.int .i64 m)) ∧ Rdr w' rb (p + 1) ∧ Only [rb] w w' := by
 obtain ⟨a, len, cap, q, T, hq, hlen, hb, hbs⟩ := h
 have c0 : w.cell? ⟨rb, 0, none⟩ = some (.slice a len cap) := by simp [World.cell?, hb]
 have c1 : w.cell? ⟨rb, 1, none⟩ = some (.int .i64 q) := by simp [World.cell?, hb]
 have hf : w.frozen? ⟨rb, 1, none⟩ = false := by unfold World.frozen?; rw [hb]; simp
 have dn : decide (n < 1) = false := by simp; omega
 have hO := Only.set (fp := [rb]) (w := w) (a := ⟨rb, 1, none⟩) (u := .int .i64 ((q : Int) + 1)) (by simp)
 have hR := Rdr.next hq hlen hb hbs
 rcases hbs with rfl | ⟨b, off, rfl, hrb, hbs⟩
 ·go_enter Try.func17, Try.ntmps17
  go_wp2_with fail
  go_ret
  exact ⟨⟨0, by omega, rfl⟩, hR, hO⟩
 ·have hne : b ≠ rb := by omega
  have dl : ((len : Int) == 0) = false ∨ len = 0 := by by_cases h : len = 0 <;> simp [h]
  rcases dl with dl | rfl
  rotate_left
  ·go_enter Try.func17, Try.ntmps17
   go_wp2_with fail
   go_ret
   exact ⟨⟨0, by omega, rfl⟩, hR, hO⟩
  have hl0 : 0 < len := by simp at dl; omega
  by_cases hk : q < len
  ·obtain ⟨u, hu, hc⟩ := hbs q hk
   obtain ⟨m, hm1, hm2⟩ := mod_nat (u := u) (n := n) (by omega) hn
   have HM := Lib.hid hm2
   clear hm2
   go_enter Try.func17, Try.ntmps17
   go_wp2_with fail
   go_ret
   exact ⟨⟨m, hm1, by rw [HM.out]; rfl⟩, hR, hO⟩
  ·obtain ⟨u, hu, hc⟩ := hbs (q % len) (Nat.mod_lt _ hl0)
   obtain ⟨v, hv, hd⟩ := hbs ((q * 7 + 3) % len) (Nat.mod_lt _ hl0)
   have hlp : (0 : Int) < (len : Int) := by omega
   have hm1 : (0 : Int) ≤ (q : Int) % (len : Int) := Int.emod_nonneg _ (by omega)
   have hm2 : (q : Int) % (len : Int) < (len : Int) := Int.emod_lt_of_pos _ hlp
   have hm3 : (0 : Int) ≤ ((q : Int) * 7 + 3) % (len : Int) := Int.emod_nonneg _ (by omega)
   have hm4 : ((q : Int) * 7 + 3) % (len : Int) < (len : Int) := Int.emod_lt_of_pos _ hlp
   have hq1 : (0 : Int) ≤ (q : Int) / (len : Int) := Int.ediv_nonneg (by omega) (by omega)
   have hq2 : (q : Int) / (len : Int) ≤ (q : Int) := Int.ediv_le_self _ (by omega)
   obtain ⟨m, hx1, hx2⟩ := mix_nat (x := (u : Int) * 131 + (v : Int) * 1117 + (q : Int) * 29 + (q : Int) / (len : Int) * 53) (n := n) (by omega) (by omega) hn
   have HX := Lib.hid hx2
   clear hx2
   go_enter Try.func17, Try.ntmps17
   go_wp2_with fail
   go_quiet (fail)
   go_wp2_with fail
   go_ret
   exact ⟨⟨m, hx1, by rw [← HX.out]; rfl⟩, hR.drewN, hO.drewN _⟩
end Go.Proofs.Ytlefdhhnlbpbkaa
end
