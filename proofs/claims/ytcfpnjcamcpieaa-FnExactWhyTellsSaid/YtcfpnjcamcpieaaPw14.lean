/- Parts of the proof: Bx. -/
import Derived.Test.YtcfpnjcamcpieaaPw11
import Derived.Test.YtcfpnjcamcpieaaPw12
import Derived.Test.YtcfpnjcamcpieaaPw13
section
namespace Go.Proofs.Ytcfpnjcamcpieaa
open Go Go.RowKit
set_option linter.unusedVariables false
set_option linter.unusedSimpArgs false
set_option maxRecDepth 100000
set_option maxHeartbeats 16000000
/-- Block b holds vs, and may be written. -/
def Bx (vs : List Value) (b : Nat) (w : World) : Prop := b < w.heap.size ∧ (∀ j u, vs[j]? = some u → w.cell? ⟨b, j, none⟩ = some u) ∧ ∀ j, w.frozen? ⟨b, j, none⟩ = false
theorem Bx.new (w : World) (vs : List Value) (T : TypeId) : Bx vs w.heap.size (w.alloc (.cells vs.toArray T)) := ⟨by simp, fun j u hu => by rw [zp]; simpa using hu, fun j => zO _ _ _ _⟩
theorem Bx.below {w w' : World} {b : Nat} {vs : List Value} (h : Bx vs b w) (hb : Below w.heap.size w w') : Bx vs b w' :=
 ⟨zc4 h.1 hb.size, fun j u hu => zc (h.2.1 j u hu) hb, fun j => (zj (hb.block b h.1)).trans (h.2.2 j)⟩
theorem Bx.alloc {w : World} {b : Nat} {vs : List Value} (h : Bx vs b w) (o : Obj) : Bx vs b (w.alloc o) := h.below (zb w o)
theorem Bx.drew {w : World} {b : Nat} {vs : List Value} (h : Bx vs b w) : Bx vs b w.drew := h
theorem Bx.grown {u u' : World} {b : Nat} {vs : List Value} {row : Option Nat} (h : Bx vs b u) (hg : u.grownBy u' row) (hr : row ≠ some b) : Bx vs b u' :=
 ⟨zc4 h.1 hg.size, fun j x hx => zG hg (h.2.1 j x hx) hr, fun j => zcH hg h.1 (h.2.2 j) hr⟩
theorem Bx.put {u : World} {b : Nat} {vs : List Value} (h : Bx vs b u) {k : Nat} (hk : k < vs.length) (v : Value) : Bx (vs.set k v) b (u.setCell ⟨b, k, none⟩ v) := by
 obtain ⟨h2, h3, h4⟩ := h
 refine ⟨by simpa [World.setCell] using h2, fun j x hx => ?_, fun j => by simp [go_sem, h4 j]⟩
 by_cases e : j = k
 ·subst e
  rw [List.getElem?_set_self hk] at hx
  obtain rfl := Option.some.inj hx
  exact World.cell?_setCell_same u ⟨b, j, none⟩ v (h3 j _ (List.getElem?_eq_getElem hk))
 ·rw [List.getElem?_set_ne (fun h => e h.symm)] at hx
  exact (World.cell?_setCell_other _ _ _ _ (by intro h; simp only [Addr.mk.injEq] at h; omega)).trans (h3 j x hx)
theorem Bx.put_other {u : World} {b c k : Nat} {vs : List Value} (h : Bx vs b u) (hne : b ≠ c) (v : Value) : Bx vs b (u.setCell ⟨c, k, none⟩ v) :=
 ⟨by simpa [World.setCell] using h.1, fun j x hx => (World.cell?_setCell_other _ _ _ _ (by intro h; simp only [Addr.mk.injEq] at h; omega)).trans (h.2.1 j x hx), fun j => by simp [go_sem, h.2.2 j]⟩
section
variable {P : Program} {ops : Array Oper} {Q : Exit → Act → World → Prop} {F : World → Prop} {s0 : Nat}
/-- Each zbu for the one before; none of them has come up; the last is s0. -/
def row (ops : Array Oper) (up : Array Bool) (s0 : Nat) : Nat → List Nat → Bool
 | _, [] => false
 | i, p :: ps => zbu ops p i && !up.getD p true && (if ps.isEmpty then p == s0 else row ops up s0 p ps)
theorem row_mem {up : Array Bool} : ∀ {ps : List Nat} {i : Nat}, row ops up s0 i ps = true → s0 ∈ ps ∧ ∀ p ∈ ps, up.getD p true = false ∧ ∃ q, (q = i ∨ q ∈ ps) ∧ zbu ops p q = true
 | [], _, h => by simp [row] at h
 | p :: ps, i, h => by
  simp only [row, zdc, Bool.not_eq_true'] at h
  obtain ⟨⟨h1, h2⟩, h3⟩ := h
  by_cases he : ps = []
  ·subst he
   simp at h3
   subst h3
   exact ⟨by simp, fun q hq => by rw [List.mem_singleton.1 hq]; exact ⟨h2, i, .inl rfl, h1⟩⟩
  ·rw [if_neg (by simpa using he)] at h3
   obtain ⟨h4, h5⟩ := row_mem h3
   refine ⟨List.mem_cons_of_mem _ h4, fun q hq => ?_⟩
   rcases zda.1 hq with rfl | hq
   ·exact ⟨h2, i, .inl rfl, h1⟩
   ·obtain ⟨h6, r, h7, h8⟩ := h5 q hq
    exact ⟨h6, r, by rcases h7 with rfl | h7 <;> simp [*], h8⟩
theorem Till.earlyP {i : Nat} {oi : Oper} {v : Value} {ps : List Nat} (hi : ops[i]? = some oi) (hsel : ∀ (j : Nat) (o : Oper) cs b, ops[j]? = some o → o.op ≠ .select cs b)
  (hQ : ∀ c a w, Q (.panic c) (a.put oi.dst v) w → Q (.panic c) a w) (hs0 : s0 ∈ ps) (hni : i ∉ ps) (hwt : ∀ p ∈ ps, ∃ q, (q = i ∨ q ∈ ps) ∧ zbu ops p q = true) :
  ∀ (n : Nat) (up : Array Bool) (a : Act) (w : World), (∀ j oj, ops[j]? = some oj → j ≠ i → up.getD j true = false → (∀ e ∈ oj.after, Region.binds .any e = true → e.on ≠ i) → oi.apart ops oj = true) →
   i ∈ Region.ready .any ops up → (∀ p ∈ ps, up.getD p true = false) → YieldsIf P ops F oi v a → F w →
   Till P ops Q F s0 n (up.setIfInBounds i true) (a.put oi.dst v) w → Till P ops Q F s0 (n + 1) up a w
 | 0, up, a, w, _, hr, hs, hy, hF, H => by
  refine ⟨fun h => (by rw [h] at hr; cases hr), fun j hj => ?_⟩
  by_cases hji : j = i
  ·subst hji; exact hy.wpOp hi hF ⟨fun _ => hF, H⟩
  ·have := ready_mono hj hji
   rw [H.1] at this; cases this
 | n + 1, up, a, w, hfree, hr, hs, hy, hF, H => by
  refine ⟨fun h => (by rw [h] at hr; cases hr), fun j hj => ?_⟩
  by_cases hji : j = i
  ·subst hji; exact hy.wpOp hi hF ⟨fun _ => hF, H⟩
  obtain ⟨hjun, oj, hoj, hall⟩ := mem_ready.1 hj
  have hiun : up.getD i true = false := (mem_ready.1 hr).1
  have hno : ∀ q, up.getD q true = false → ∀ e ∈ oj.after, Region.binds .any e = true → e.on ≠ q := fun q hq e he hb heq => by
   have h1 := hall e he hb
   rw [heq] at h1
   rcases Nat.lt_or_ge q up.size with h' | h'
   ·simp [h'] at hq h1; rw [hq] at h1; cases h1
   ·simp [Array.getElem?_eq_none h'] at h1
  have hjp : j ∉ ps := fun h => by
   obtain ⟨q, hq, hw⟩ := hwt j h
   obtain ⟨o, ho, e, he, hb, hon⟩ := zbI hw
   obtain rfl : o = oj := Option.some.inj (ho.symm.trans hoj)
   rcases hq with rfl | hq
   ·exact hno q hiun e he hb hon
   ·exact hno q (hs q hq) e he hb hon
  have hs' : ∀ p ∈ ps, (up.setIfInBounds j true).getD p true = false := fun p hp => by rw [getD_set_ne true (fun h : j = p => hjp (by rw [h]; exact hp))]; exact hs p hp
  have hs'' : ((up.setIfInBounds i true).setIfInBounds j true).getD s0 true = false := by rw [getD_set_ne true (fun h : j = s0 => hjp (by rw [h]; exact hs0)), getD_set_ne true (fun h : i = s0 => hni (by rw [h]; exact hs0))]; exact hs s0 hs0
  refine wpOp_mono (fun b u k => ?_) (wpOp_putIf hoj (hfree j oj hoj hji hjun (hno i hiun)) (fun cs b => hsel i oi cs b hi) (fun cs b => hsel j oj cs b hoj) hQ hy (H.2 j (ready_mono hj hji)))
  obtain ⟨k1, k2, k3⟩ := k
  have kF := k2 hs''
  refine ⟨fun _ => kF, Till.earlyP hi hsel hQ hs0 hni hwt n _ b u (fun m om hm hmi hun hn => hfree m om hm hmi ?_ hn) (ready_mono hr (Ne.symm hji)) hs' k1 kF ?_⟩
  ·by_cases hjm : j = m
   ·subst hjm; exact hjun
   ·rwa [getD_set_ne true hjm] at hun
  ·rw [Array.setIfInBounds_comm _ _ hji]; exact k3
/-- One for which the first write zbu, through others (ps, in their order, s0 the last). -/
theorem Till.takeP {i : Nat} {oi : Oper} {v : Value} {n : Nat} {up : Array Bool} {a : Act} {w : World} (ps : List Nat) (hi : ops[i]? = some oi) (hs : Region.noSelect ops = true) (hf : Region.free .any ops up i = true) (hr : (Region.ready .any ops up).contains i = true)
  (hQ : ∀ c a w, Q (.panic c) (a.put oi.dst v) w → Q (.panic c) a w) (hw : (row ops up s0 i ps && !ps.contains i) = true) (hy : YieldsIf P ops F oi v a) (hF : F w)
  (h : Till P ops Q F s0 n (up.setIfInBounds i true) (a.put oi.dst v) w) : Till P ops Q F s0 (n + 1) up a w := by
 simp only [zdc, Bool.not_eq_true'] at hw
 obtain ⟨h1, h2⟩ := row_mem hw.1
 exact Till.earlyP hi (Region.noSelect_spec hs) hQ h1 (fun h => by simp [h] at hw) (fun p hp => (h2 p hp).2) n up a w (Region.free_spec hi hf) (by simpa using hr) (fun p hp => (h2 p hp).1) hy hF h
/-- Two may come up. -/
theorem Till.two9 {i j : Nat} {o o' : Oper} {n : Nat} {up : Array Bool} {a : Act} {w : World} (hr : Region.ready .any ops up = [i, j]) (ho : ops[i]? = some o) (ho' : ops[j]? = some o')
  (h : ∀ K' : Act → World → Prop, Hid (∀ b u, ((up.setIfInBounds i true).getD s0 true = false → F u) → Till P ops Q F s0 n (up.setIfInBounds i true) b u → K' b u) → if Region.wanted o (yielded ops a.tmps) = true then Oper.wp P o a w K' Q else K' (a.put o.dst undef) w)
  (h' : ∀ K' : Act → World → Prop, Hid (∀ b u, ((up.setIfInBounds j true).getD s0 true = false → F u) → Till P ops Q F s0 n (up.setIfInBounds j true) b u → K' b u) → if Region.wanted o' (yielded ops a.tmps) = true then Oper.wp P o' a w K' Q else K' (a.put o'.dst undef) w) :
  Till P ops Q F s0 (n + 1) up a w := by
 refine ⟨fun h0 => (by rw [hr] at h0; cases h0), fun k hk => ?_⟩
 rw [hr] at hk
 rcases zda.1 hk with rfl | hk
 ·exact wpOp_step ho fun K' hK => h K' (Lib.hid fun b u h1 h2 => hK b u ⟨h1, h2⟩)
 ·obtain rfl := List.mem_singleton.1 hk
  exact wpOp_step ho' fun K' hK => h' K' (Lib.hid fun b u h1 h2 => hK b u ⟨h1, h2⟩)
end
end Go.Proofs.Ytcfpnjcamcpieaa
end
