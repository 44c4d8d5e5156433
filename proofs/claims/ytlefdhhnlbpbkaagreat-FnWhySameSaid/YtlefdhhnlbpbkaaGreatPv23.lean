/- Parts of the proof: Bx TwoR. -/
import Derived.Test.YtlefdhhnlbpbkaaGreatPv8
import Derived.Test.YtlefdhhnlbpbkaaGreatPv9
import Derived.Test.YtlefdhhnlbpbkaaGreatPv22
import Derived.Test.YtlefdhhnlbpbkaaGreatPv7
section
namespace Go.Proofs.YtlefdhhnlbpbkaaGreat
open Go Go.RowKit
set_option linter.unusedVariables false
set_option linter.unusedSimpArgs false
set_option maxRecDepth 100000
set_option maxHeartbeats 16000000
/-- Block b holds vs, and may be written. -/
def Bx (vs : List Value) (b : Nat) (w : World) : Prop := b < w.heap.size ∧ (∀ j u, vs[j]? = some u → w.cell? ⟨b, j, none⟩ = some u) ∧ ∀ j, w.frozen? ⟨b, j, none⟩ = false
theorem Bx.new (w : World) (vs : List Value) (T : TypeId) : Bx vs w.heap.size (w.alloc (.cells vs.toArray T)) := ⟨by simp, fun j u hu => by rw [zv]; simpa using hu, fun j => zJ _ _ _ _⟩
theorem Bx.below {w w' : World} {b : Nat} {vs : List Value} (h : Bx vs b w) (hb : Below w.heap.size w w') : Bx vs b w' :=
 ⟨zep h.1 hb.size, fun j u hu => za (h.2.1 j u hu) hb, fun j => (zc (hb.block b h.1)).trans (h.2.2 j)⟩
theorem Bx.alloc {w : World} {b : Nat} {vs : List Value} (h : Bx vs b w) (o : Obj) : Bx vs b (w.alloc o) := h.below (zb w o)
theorem Bx.drew {w : World} {b : Nat} {vs : List Value} (h : Bx vs b w) : Bx vs b w.drew := h
theorem Bx.grown {u u' : World} {b : Nat} {vs : List Value} {row : Option Nat} (h : Bx vs b u) (hg : u.grownBy u' row) (hr : row ≠ some b) : Bx vs b u' :=
 ⟨zep h.1 hg.size, fun j x hx => zo hg (h.2.1 j x hx) hr, fun j => zao hg h.1 (h.2.2 j) hr⟩
theorem Bx.put {u : World} {b : Nat} {vs : List Value} (h : Bx vs b u) {k : Nat} (hk : k < vs.length) (v : Value) : Bx (vs.set k v) b (u.setCell ⟨b, k, none⟩ v) := by
 obtain ⟨h2, h3, h4⟩ := h
 refine ⟨by simpa [World.setCell] using h2, fun j x hx => ?_, fun j => by simp [go_sem, h4 j]⟩
 by_cases e : j = k
 ·subst e
  rw [List.getElem?_set_self hk] at hx
  obtain rfl := Option.some.inj hx
  exact World.cell?_setCell_same u ⟨b, j, none⟩ v (h3 j _ (List.getElem?_eq_getElem hk))
 ·rw [List.getElem?_set_ne (fun h => e h.symm)] at hx
  exact (World.cell?_setCell_other _ _ _ _ (by intro h; simp only [Addr.mk.injEq] at h; omega)).trans (h3 j x hx)
theorem Bx.put_other {u : World} {b c k : Nat} {vs : List Value} (h : Bx vs b u) (hne : b ≠ c) (v : Value) : Bx vs b (u.setCell ⟨c, k, none⟩ v) :=
 ⟨by simpa [World.setCell] using h.1, fun j x hx => (World.cell?_setCell_other _ _ _ _ (by intro h; simp only [Addr.mk.injEq] at h; omega)).trans (h.2.1 j x hx), fun j => by simp [go_sem, h.2.2 j]⟩
section
variable {P : Program} {ops : Array Oper} {Q : Exit → Act → World → Prop} {F : World → Prop} {s0 : Nat}
/-- Each zbU for the one before; none of them has come up; the last is s0. -/
def row (ops : Array Oper) (up : Array Bool) (s0 : Nat) : Nat → List Nat → Bool
 | _, [] => false
 | i, p :: ps => zbU ops p i && !up.getD p true && (if ps.isEmpty then p == s0 else row ops up s0 p ps)
theorem row_mem {up : Array Bool} : ∀ {ps : List Nat} {i : Nat}, row ops up s0 i ps = true → s0 ∈ ps ∧ ∀ p ∈ ps, up.getD p true = false ∧ ∃ q, (q = i ∨ q ∈ ps) ∧ zbU ops p q = true
 | [], _, h => by simp [row] at h
 | p :: ps, i, h => by
  simp only [row, zex, Bool.not_eq_true'] at h
  obtain ⟨⟨h1, h2⟩, h3⟩ := h
  by_cases he : ps = []
  ·subst he
   simp at h3
   subst h3
   exact ⟨by simp, fun q hq => by rw [List.mem_singleton.1 hq]; exact ⟨h2, i, .inl rfl, h1⟩⟩
  ·rw [if_neg (by simpa using he)] at h3
   obtain ⟨h4, h5⟩ := row_mem h3
   refine ⟨List.mem_cons_of_mem _ h4, fun q hq => ?_⟩
   rcases zev.1 hq with rfl | hq
   ·exact ⟨h2, i, .inl rfl, h1⟩
   ·obtain ⟨h6, r, h7, h8⟩ := h5 q hq
    exact ⟨h6, r, by rcases h7 with rfl | h7 <;> simp [*], h8⟩
theorem Till.earlyP {i : Nat} {oi : Oper} {v : Value} {ps : List Nat} (hi : ops[i]? = some oi) (hsel : ∀ (j : Nat) (o : Oper) cs b, ops[j]? = some o → o.op ≠ .select cs b)
  (hQ : ∀ c a w, Q (.panic c) (a.put oi.dst v) w → Q (.panic c) a w) (hs0 : s0 ∈ ps) (hni : i ∉ ps) (hwt : ∀ p ∈ ps, ∃ q, (q = i ∨ q ∈ ps) ∧ zbU ops p q = true) :
  ∀ (n : Nat) (up : Array Bool) (a : Act) (w : World), (∀ j oj, ops[j]? = some oj → j ≠ i → up.getD j true = false → (∀ e ∈ oj.after, Region.binds .any e = true → e.on ≠ i) → oi.apart ops oj = true) →
   i ∈ Region.ready .any ops up → (∀ p ∈ ps, up.getD p true = false) → YieldsIf P ops F oi v a → F w →
   Till P ops Q F s0 n (up.setIfInBounds i true) (a.put oi.dst v) w → Till P ops Q F s0 (n + 1) up a w
 | 0, up, a, w, _, hr, hs, hy, hF, H => by
  refine ⟨fun h => (by rw [h] at hr; cases hr), fun j hj => ?_⟩
  by_cases hji : j = i
  ·subst hji; exact hy.wpOp hi hF ⟨fun _ => hF, H⟩
  ·have := ready_mono hj hji
   rw [H.1] at this; cases this
 | n + 1, up, a, w, hfree, hr, hs, hy, hF, H => by
  refine ⟨fun h => (by rw [h] at hr; cases hr), fun j hj => ?_⟩
  by_cases hji : j = i
  ·subst hji; exact hy.wpOp hi hF ⟨fun _ => hF, H⟩
  obtain ⟨hjun, oj, hoj, hall⟩ := mem_ready.1 hj
  have hiun : up.getD i true = false := (mem_ready.1 hr).1
  have hno : ∀ q, up.getD q true = false → ∀ e ∈ oj.after, Region.binds .any e = true → e.on ≠ q := fun q hq e he hb heq => by
   have h1 := hall e he hb
   rw [heq] at h1
   rcases Nat.lt_or_ge q up.size with h' | h'
   ·simp [h'] at hq h1; rw [hq] at h1; cases h1
   ·simp [Array.getElem?_eq_none h'] at h1
  have hjp : j ∉ ps := fun h => by
   obtain ⟨q, hq, hw⟩ := hwt j h
   obtain ⟨o, ho, e, he, hb, hon⟩ := zb9 hw
   obtain rfl : o = oj := Option.some.inj (ho.symm.trans hoj)
   rcases hq with rfl | hq
   ·exact hno q hiun e he hb hon
   ·exact hno q (hs q hq) e he hb hon
  have hs' : ∀ p ∈ ps, (up.setIfInBounds j true).getD p true = false := fun p hp => by rw [getD_set_ne true (fun h : j = p => hjp (by rw [h]; exact hp))]; exact hs p hp
  have hs'' : ((up.setIfInBounds i true).setIfInBounds j true).getD s0 true = false := by rw [getD_set_ne true (fun h : j = s0 => hjp (by rw [h]; exact hs0)), getD_set_ne true (fun h : i = s0 => hni (by rw [h]; exact hs0))]; exact hs s0 hs0
  refine wpOp_mono (fun b u k => ?_) (wpOp_putIf hoj (hfree j oj hoj hji hjun (hno i hiun)) (fun cs b => hsel i oi cs b hi) (fun cs b => hsel j oj cs b hoj) hQ hy (H.2 j (ready_mono hj hji)))
  obtain ⟨k1, k2, k3⟩ := k
  have kF := k2 hs''
  refine ⟨fun _ => kF, Till.earlyP hi hsel hQ hs0 hni hwt n _ b u (fun m om hm hmi hun hn => hfree m om hm hmi ?_ hn) (ready_mono hr (Ne.symm hji)) hs' k1 kF ?_⟩
  ·by_cases hjm : j = m
   ·subst hjm; exact hjun
   ·rwa [getD_set_ne true hjm] at hun
  ·rw [Array.setIfInBounds_comm _ _ hji]; exact k3
/-- One for which the first write zbU, through others (ps, in their order, s0 the last). -/
theorem Till.takeP {i : Nat} {oi : Oper} {v : Value} {n : Nat} {up : Array Bool} {a : Act} {w : World} (ps : List Nat) (hi : ops[i]? = some oi) (hs : Region.noSelect ops = true) (hf : Region.free .any ops up i = true) (hr : (Region.ready .any ops up).contains i = true)
  (hQ : ∀ c a w, Q (.panic c) (a.put oi.dst v) w → Q (.panic c) a w) (hw : (row ops up s0 i ps && !ps.contains i) = true) (hy : YieldsIf P ops F oi v a) (hF : F w)
  (h : Till P ops Q F s0 n (up.setIfInBounds i true) (a.put oi.dst v) w) : Till P ops Q F s0 (n + 1) up a w := by
 simp only [zex, Bool.not_eq_true'] at hw
 obtain ⟨h1, h2⟩ := row_mem hw.1
 exact Till.earlyP hi (Region.noSelect_spec hs) hQ h1 (fun h => by simp [h] at hw) (fun p hp => (h2 p hp).2) n up a w (Region.free_spec hi hf) (by simpa using hr) (fun p hp => (h2 p hp).1) hy hF h
/-- Two may come up. -/
theorem Till.two9 {i j : Nat} {o o' : Oper} {n : Nat} {up : Array Bool} {a : Act} {w : World} (hr : Region.ready .any ops up = [i, j]) (ho : ops[i]? = some o) (ho' : ops[j]? = some o')
  (h : ∀ K' : Act → World → Prop, Hid (∀ b u, ((up.setIfInBounds i true).getD s0 true = false → F u) → Till P ops Q F s0 n (up.setIfInBounds i true) b u → K' b u) → if Region.wanted o (yielded ops a.tmps) = true then Oper.wp P o a w K' Q else K' (a.put o.dst undef) w)
  (h' : ∀ K' : Act → World → Prop, Hid (∀ b u, ((up.setIfInBounds j true).getD s0 true = false → F u) → Till P ops Q F s0 n (up.setIfInBounds j true) b u → K' b u) → if Region.wanted o' (yielded ops a.tmps) = true then Oper.wp P o' a w K' Q else K' (a.put o'.dst undef) w) :
  Till P ops Q F s0 (n + 1) up a w := by
 refine ⟨fun h0 => (by rw [hr] at h0; cases h0), fun k hk => ?_⟩
 rw [hr] at hk
 rcases zev.1 hk with rfl | hk
 ·exact wpOp_step ho fun K' hK => h K' (Lib.hid fun b u h1 h2 => hK b u ⟨h1, h2⟩)
 ·obtain rfl := List.mem_singleton.1 hk
  exact wpOp_step ho' fun K' hK => h' K' (Lib.hid fun b u h1 h2 => hK b u ⟨h1, h2⟩)
end
structure TwoR (w : World) (base : Nat) (va vb : Value) (ea eb : List Tm) (fa fb : List Nat) : Prop where
  ha : Own w base 29 2 va (ea.map Tm.cd) fa
  hb : Own w base 29 2 vb (eb.map Tm.cd) fb
  ne : ∀ g, va.ownBlock = some g → vb.ownBlock ≠ some g
  la : ∀ b ∈ fa, b < base
  lb : ∀ b ∈ fb, b < base
  sz : base ≤ w.heap.size
theorem TwoR.nil (w : World) (base : Nat) (h : base ≤ w.heap.size) : TwoR w base (.slice none 0 0) (.slice none 0 0) [] [] [] [] := ⟨Own.nil _ _ _ _, Own.nil _ _ _ _, fun g h => by simp [Value.ownBlock] at h, by simp, by simp, h⟩
theorem TwoR.below {w w' : World} {base : Nat} {va vb : Value} {ea eb : List Tm} {fa fb : List Nat} (h : TwoR w base va vb ea eb fa fb) (hb : Below w.heap.size w w') : TwoR w' base va vb ea eb fa fb :=
  ⟨h.ha.below hb, h.hb.below hb, h.ne, h.la, h.lb, Nat.le_trans h.sz hb.size⟩
theorem TwoR.neA {w : World} {base : Nat} {va vb : Value} {ea eb : List Tm} {fa fb : List Nat} (h : TwoR w base va vb ea eb fa fb) {b : Nat} (hb : b < base) : va.ownBlock ≠ some b := fun e => by have := (h.ha.block e).1; omega
theorem TwoR.neB {w : World} {base : Nat} {va vb : Value} {ea eb : List Tm} {fa fb : List Nat} (h : TwoR w base va vb ea eb fa fb) {b : Nat} (hb : b < base) : vb.ownBlock ≠ some b := fun e => by have := (h.hb.block e).1; omega
theorem TwoR.newA {w : World} {base : Nat} {va vb : Value} {ea eb : List Tm} {fa fb : List Nat} (h : TwoR w base va vb ea eb fa fb) : va.ownBlock ≠ some w.heap.size := fun e => absurd (h.ha.block e).2 (Nat.lt_irrefl _)
theorem TwoR.newB {w : World} {base : Nat} {va vb : Value} {ea eb : List Tm} {fa fb : List Nat} (h : TwoR w base va vb ea eb fa fb) : vb.ownBlock ≠ some w.heap.size := fun e => absurd (h.hb.block e).2 (Nat.lt_irrefl _)
theorem TwoR.appA {w w' : World} {base : Nat} {va vb va' : Value} {ea eb : List Tm} {fa fb nf : List Nat} {t : Tm} (h : TwoR w base va vb ea eb fa fb) (ho : Own w' base 29 2 va' (ea.map Tm.cd ++ [t.cd]) (fa ++ nf)) (hg : w.grownBy w' va.ownBlock)
    (hv : ∀ b, va'.ownBlock = some b → va.ownBlock = some b ∨ w.heap.size ≤ b) (hn : ∀ b ∈ nf, b < base) : TwoR w' base va' vb (ea ++ [t]) eb (fa ++ nf) fb := by
  have hm : Moved w va w' va' := ⟨hg, hv⟩
  have hz := hm.size
  refine ⟨by rw [zeu]; exact ho, h.hb.same (hm.same h.hb.lt fun b hb e => by have := (h.ha.block e).1; have := h.lb b hb; omega) fun b hb => hm.block (h.hb.block hb).2 fun e => h.ne b e hb, fun g hg' e => ?_, fun b hb => ?_, h.lb, Nat.le_trans h.sz hz⟩
  · rcases hv g hg' with h1 | h1
    · exact h.ne g h1 e
    · have := (h.hb.block e).2; omega
  · rcases zer.1 hb with h1 | h1
    · exact h.la b h1
    · exact hn b h1
theorem TwoR.turn {w : World} {base : Nat} {va vb : Value} {ea eb : List Tm} {fa fb : List Nat} (h : TwoR w base va vb ea eb fa fb) : TwoR w base vb va eb ea fb fa := ⟨h.hb, h.ha, fun g h1 h2 => h.ne g h2 h1, h.lb, h.la, h.sz⟩
theorem TwoR.appB {w w' : World} {base : Nat} {va vb vb' : Value} {ea eb : List Tm} {fa fb nf : List Nat} {t : Tm} (h : TwoR w base va vb ea eb fa fb) (ho : Own w' base 29 2 vb' (eb.map Tm.cd ++ [t.cd]) (fb ++ nf)) (hg : w.grownBy w' vb.ownBlock)
    (hv : ∀ b, vb'.ownBlock = some b → vb.ownBlock = some b ∨ w.heap.size ≤ b) (hn : ∀ b ∈ nf, b < base) : TwoR w' base va vb' ea (eb ++ [t]) fa (fb ++ nf) := (h.turn.appA ho hg hv hn).turn
theorem TwoR.put {w : World} {base : Nat} {va vb : Value} {ea eb : List Tm} {fa fb : List Nat} (h : TwoR w base va vb ea eb fa fb) {b k : Nat} (hb : b < base) (ha : b ∉ fa) (hc : b ∉ fb) (u : Value) : TwoR (w.setCell ⟨b, k, none⟩ u) base va vb ea eb fa fb :=
  ⟨h.ha.same (zw (fun x hx e => ha (by simp only at e; rw [← e]; exact hx))) fun x hx => Below.heap_setCell _ _ _ _ (fun e => by have := (h.ha.block hx).1; simp only at e; omega),
   h.hb.same (zw (fun x hx e => hc (by simp only at e; rw [← e]; exact hx))) fun x hx => Below.heap_setCell _ _ _ _ (fun e => by have := (h.hb.block hx).1; simp only at e; omega), h.ne, h.la, h.lb, by simpa [World.setCell] using h.sz⟩
/-- Both rows, read. -/
theorem TwoR.rd {w : World} {base : Nat} {va vb : Value} {ea eb : List Tm} {fa fb : List Nat} (h : TwoR w base va vb ea eb fa fb) : (∃ f, Rd w (.sl (ea.map Tm.cd)) va f ∧ ∀ b ∈ f, b ∈ fa ∨ base ≤ b) ∧ ∃ f, Rd w (.sl (eb.map Tm.cd)) vb f ∧ ∀ b ∈ f, b ∈ fb ∨ base ≤ b := by
  have aux : ∀ {v : Value} {es : List (List CD)} {fp : List Nat}, Own w base 29 2 v es fp → ∃ f, Rd w (.sl es) v f ∧ ∀ b ∈ f, b ∈ fp ∨ base ≤ b := by
    intro v es fp h
    obtain ⟨f, h1, h2⟩ := h.rd
    refine ⟨f, h1, fun b hb => ?_⟩
    rcases h2 with ⟨_, _, rfl⟩ | ⟨g, c, _, rfl, _, h3, _⟩
    · cases hb
    · rcases zev.1 hb with rfl | h4
      · exact .inr h3
      · exact .inl h4
  exact ⟨aux h.ha, aux h.hb⟩
theorem Bx.belowB {w w' : World} {B b : Nat} {vs : List Value} (h : Bx vs b w) (hb : Below B w w') (hlt : b < B) : Bx vs b w' :=
  ⟨zep h.1 hb.size, fun j u hu => zl (hb.block b hlt) (h.2.1 j u hu), fun j => (zc (hb.block b hlt)).trans (h.2.2 j)⟩
theorem Rd.belowB {w w' : World} {B : Nat} {d : CD} {v : Value} {fp : List Nat} (h : Rd w d v fp) (hb : Below B w w') (hf : ∀ b, b ∈ fp → b < B) : Rd w' d v fp := h.same d (zF hb hf)
end Go.Proofs.YtlefdhhnlbpbkaaGreat
end
