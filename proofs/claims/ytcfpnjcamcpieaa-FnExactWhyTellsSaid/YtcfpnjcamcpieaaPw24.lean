/- Parts of the proof: TwoR. -/
import Derived.Test.YtcfpnjcamcpieaaPw14
import Derived.Test.YtcfpnjcamcpieaaPw19
section
namespace Go.Proofs.Ytcfpnjcamcpieaa
open Go Go.RowKit
set_option linter.unusedVariables false
set_option linter.unusedSimpArgs false
set_option maxRecDepth 100000
set_option maxHeartbeats 16000000
structure TwoR (w : World) (base : Nat) (va vb : Value) (ea eb : List Tm) (fa fb : List Nat) : Prop where
  ha : Own w base 37 2 va (ea.map Tm.cd) fa
  hb : Own w base 37 2 vb (eb.map Tm.cd) fb
  ne : ∀ g, va.ownBlock = some g → vb.ownBlock ≠ some g
  la : ∀ b ∈ fa, b < base
  lb : ∀ b ∈ fb, b < base
  sz : base ≤ w.heap.size
theorem TwoR.nil (w : World) (base : Nat) (h : base ≤ w.heap.size) : TwoR w base (.slice none 0 0) (.slice none 0 0) [] [] [] [] := ⟨Own.nil _ _ _ _, Own.nil _ _ _ _, fun g h => by simp [Value.ownBlock] at h, by simp, by simp, h⟩
theorem TwoR.below {w w' : World} {base : Nat} {va vb : Value} {ea eb : List Tm} {fa fb : List Nat} (h : TwoR w base va vb ea eb fa fb) (hb : Below w.heap.size w w') : TwoR w' base va vb ea eb fa fb :=
  ⟨h.ha.below hb, h.hb.below hb, h.ne, h.la, h.lb, Nat.le_trans h.sz hb.size⟩
theorem TwoR.neA {w : World} {base : Nat} {va vb : Value} {ea eb : List Tm} {fa fb : List Nat} (h : TwoR w base va vb ea eb fa fb) {b : Nat} (hb : b < base) : va.ownBlock ≠ some b := fun e => by have := (h.ha.block e).1; omega
theorem TwoR.neB {w : World} {base : Nat} {va vb : Value} {ea eb : List Tm} {fa fb : List Nat} (h : TwoR w base va vb ea eb fa fb) {b : Nat} (hb : b < base) : vb.ownBlock ≠ some b := fun e => by have := (h.hb.block e).1; omega
theorem TwoR.newA {w : World} {base : Nat} {va vb : Value} {ea eb : List Tm} {fa fb : List Nat} (h : TwoR w base va vb ea eb fa fb) : va.ownBlock ≠ some w.heap.size := fun e => absurd (h.ha.block e).2 (Nat.lt_irrefl _)
theorem TwoR.newB {w : World} {base : Nat} {va vb : Value} {ea eb : List Tm} {fa fb : List Nat} (h : TwoR w base va vb ea eb fa fb) : vb.ownBlock ≠ some w.heap.size := fun e => absurd (h.hb.block e).2 (Nat.lt_irrefl _)
theorem TwoR.appA {w w' : World} {base : Nat} {va vb va' : Value} {ea eb : List Tm} {fa fb nf : List Nat} {t : Tm} (h : TwoR w base va vb ea eb fa fb) (ho : Own w' base 37 2 va' (ea.map Tm.cd ++ [t.cd]) (fa ++ nf)) (hg : w.grownBy w' va.ownBlock)
    (hv : ∀ b, va'.ownBlock = some b → va.ownBlock = some b ∨ w.heap.size ≤ b) (hn : ∀ b ∈ nf, b < base) : TwoR w' base va' vb (ea ++ [t]) eb (fa ++ nf) fb := by
  have hm : Moved w va w' va' := ⟨hg, hv⟩
  have hz := hm.size
  refine ⟨by rw [zc9]; exact ho, h.hb.same (hm.same h.hb.lt fun b hb e => by have := (h.ha.block e).1; have := h.lb b hb; omega) fun b hb => hm.block (h.hb.block hb).2 fun e => h.ne b e hb, fun g hg' e => ?_, fun b hb => ?_, h.lb, Nat.le_trans h.sz hz⟩
  · rcases hv g hg' with h1 | h1
    · exact h.ne g h1 e
    · have := (h.hb.block e).2; omega
  · rcases zc6.1 hb with h1 | h1
    · exact h.la b h1
    · exact hn b h1
theorem TwoR.turn {w : World} {base : Nat} {va vb : Value} {ea eb : List Tm} {fa fb : List Nat} (h : TwoR w base va vb ea eb fa fb) : TwoR w base vb va eb ea fb fa := ⟨h.hb, h.ha, fun g h1 h2 => h.ne g h2 h1, h.lb, h.la, h.sz⟩
theorem TwoR.appB {w w' : World} {base : Nat} {va vb vb' : Value} {ea eb : List Tm} {fa fb nf : List Nat} {t : Tm} (h : TwoR w base va vb ea eb fa fb) (ho : Own w' base 37 2 vb' (eb.map Tm.cd ++ [t.cd]) (fb ++ nf)) (hg : w.grownBy w' vb.ownBlock)
    (hv : ∀ b, vb'.ownBlock = some b → vb.ownBlock = some b ∨ w.heap.size ≤ b) (hn : ∀ b ∈ nf, b < base) : TwoR w' base va vb' ea (eb ++ [t]) fa (fb ++ nf) := (h.turn.appA ho hg hv hn).turn
theorem TwoR.put {w : World} {base : Nat} {va vb : Value} {ea eb : List Tm} {fa fb : List Nat} (h : TwoR w base va vb ea eb fa fb) {b k : Nat} (hb : b < base) (ha : b ∉ fa) (hc : b ∉ fb) (u : Value) : TwoR (w.setCell ⟨b, k, none⟩ u) base va vb ea eb fa fb :=
  ⟨h.ha.same (zJ (fun x hx e => ha (by simp only at e; rw [← e]; exact hx))) fun x hx => Below.heap_setCell _ _ _ _ (fun e => by have := (h.ha.block hx).1; simp only at e; omega),
   h.hb.same (zJ (fun x hx e => hc (by simp only at e; rw [← e]; exact hx))) fun x hx => Below.heap_setCell _ _ _ _ (fun e => by have := (h.hb.block hx).1; simp only at e; omega), h.ne, h.la, h.lb, by simpa [World.setCell] using h.sz⟩
/-- Both rows, read. -/
theorem TwoR.rd {w : World} {base : Nat} {va vb : Value} {ea eb : List Tm} {fa fb : List Nat} (h : TwoR w base va vb ea eb fa fb) : (∃ f, Rd w (.sl (ea.map Tm.cd)) va f ∧ ∀ b ∈ f, b ∈ fa ∨ base ≤ b) ∧ ∃ f, Rd w (.sl (eb.map Tm.cd)) vb f ∧ ∀ b ∈ f, b ∈ fb ∨ base ≤ b := by
  have aux : ∀ {v : Value} {es : List (List CD)} {fp : List Nat}, Own w base 37 2 v es fp → ∃ f, Rd w (.sl es) v f ∧ ∀ b ∈ f, b ∈ fp ∨ base ≤ b := by
    intro v es fp h
    obtain ⟨f, h1, h2⟩ := h.rd
    refine ⟨f, h1, fun b hb => ?_⟩
    rcases h2 with ⟨_, _, rfl⟩ | ⟨g, c, _, rfl, _, h3, _⟩
    · cases hb
    · rcases zda.1 hb with rfl | h4
      · exact .inr h3
      · exact .inl h4
  exact ⟨aux h.ha, aux h.hb⟩
theorem Bx.belowB {w w' : World} {B b : Nat} {vs : List Value} (h : Bx vs b w) (hb : Below B w w') (hlt : b < B) : Bx vs b w' :=
  ⟨zc4 h.1 hb.size, fun j u hu => zD (hb.block b hlt) (h.2.1 j u hu), fun j => (zj (hb.block b hlt)).trans (h.2.2 j)⟩
theorem Rd.belowB {w w' : World} {B : Nat} {d : CD} {v : Value} {fp : List Nat} (h : Rd w d v fp) (hb : Below B w w') (hf : ∀ b, b ∈ fp → b < B) : Rd w' d v fp := h.same d (zM hb hf)
end Go.Proofs.Ytcfpnjcamcpieaa
end
