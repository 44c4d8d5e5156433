/- Parts of the proof: Ever. -/
import Derived.Test.YtcfpnjcamcpieaaPw13
section
namespace Go.Proofs.Ytcfpnjcamcpieaa
open Go Go.RowKit
set_option linter.unusedVariables false
set_option linter.unusedSimpArgs false
set_option maxRecDepth 100000
set_option maxHeartbeats 16000000
section
variable {P : Program} {ops : Array Oper} {Q : Exit → Act → World → Prop} {F : World → Prop}
/-- Whatever comes up next; F holds behind it. -/
def Ever (P : Program) (ops : Array Oper) (Q : Exit → Act → World → Prop) (F : World → Prop) : Nat → Array Bool → Act → World → Prop
 | 0, up, a, w => Region.ready .any ops up = [] ∧ Q .normal a w
 | n + 1, up, a, w => (Region.ready .any ops up = [] → Q .normal a w) ∧
   ∀ i, i ∈ Region.ready .any ops up → wpOp P ops Q i (fun b u => F u ∧ Ever P ops Q F n (up.setIfInBounds i true) b u) a w
theorem Ever.drop : ∀ (n : Nat) (up : Array Bool) (a : Act) (w : World), Ever P ops Q F n up a w → wpAny P .any ops Q n up a w
 | 0, _, _, _, h => h
 | n + 1, _, _, _, h => ⟨h.1, fun i hi => wpOp_mono (fun b u k => Ever.drop n _ b u k.2) (h.2 i hi)⟩
theorem Ever.start {id : Nat} {a : Act} {w : World} (hm : P.follows .mixedOrders = true) (h : Ever P ops Q F ops.size (Array.replicate ops.size false) a w.drew) : (Code.region id ops true).wp P Q a w :=
 wp_region_any hm (Ever.drop _ _ _ _ h)
theorem Ever.done {up : Array Bool} {a : Act} {w : World} (hr : Region.ready .any ops up = []) (h : Q .normal a w) : ∀ n, Ever P ops Q F n up a w
 | 0 => ⟨hr, h⟩
 | _ + 1 => ⟨fun _ => h, by rw [hr]; simp⟩
/-- One alone may come up. -/
theorem Ever.one {i : Nat} {o : Oper} {n : Nat} {up : Array Bool} {a : Act} {w : World} (hr : Region.ready .any ops up = [i]) (ho : ops[i]? = some o)
  (h : ∀ K' : Act → World → Prop, Hid (∀ b u, F u → Ever P ops Q F n (up.setIfInBounds i true) b u → K' b u) → if Region.wanted o (yielded ops a.tmps) = true then Oper.wp P o a w K' Q else K' (a.put o.dst undef) w) :
  Ever P ops Q F (n + 1) up a w := by
 refine ⟨fun h0 => (by rw [hr] at h0; cases h0), fun j hj => ?_⟩
 rw [hr] at hj
 obtain rfl := List.mem_singleton.1 hj
 exact wpOp_step ho fun K' hK => h K' (Lib.hid fun b u h1 h2 => hK b u ⟨h1, h2⟩)
/-- Two may come up. -/
theorem Ever.two {i j : Nat} {o o' : Oper} {n : Nat} {up : Array Bool} {a : Act} {w : World} (hr : Region.ready .any ops up = [i, j]) (ho : ops[i]? = some o) (ho' : ops[j]? = some o')
  (h : ∀ K' : Act → World → Prop, Hid (∀ b u, F u → Ever P ops Q F n (up.setIfInBounds i true) b u → K' b u) → if Region.wanted o (yielded ops a.tmps) = true then Oper.wp P o a w K' Q else K' (a.put o.dst undef) w)
  (h' : ∀ K' : Act → World → Prop, Hid (∀ b u, F u → Ever P ops Q F n (up.setIfInBounds j true) b u → K' b u) → if Region.wanted o' (yielded ops a.tmps) = true then Oper.wp P o' a w K' Q else K' (a.put o'.dst undef) w) :
  Ever P ops Q F (n + 1) up a w := by
 refine ⟨fun h0 => (by rw [hr] at h0; cases h0), fun k hk => ?_⟩
 rw [hr] at hk
 rcases zda.1 hk with rfl | hk
 ·exact wpOp_step ho fun K' hK => h K' (Lib.hid fun b u h1 h2 => hK b u ⟨h1, h2⟩)
 ·obtain rfl := List.mem_singleton.1 hk
  exact wpOp_step ho' fun K' hK => h' K' (Lib.hid fun b u h1 h2 => hK b u ⟨h1, h2⟩)
/-- One that only reads is taken first. -/
theorem Ever.early {i : Nat} {oi : Oper} {v : Value} (hi : ops[i]? = some oi) (hsel : ∀ (j : Nat) (o : Oper) cs b, ops[j]? = some o → o.op ≠ .select cs b)
  (hQ : ∀ c a w, Q (.panic c) (a.put oi.dst v) w → Q (.panic c) a w) :
  ∀ (n : Nat) (up : Array Bool) (a : Act) (w : World), (∀ j oj, ops[j]? = some oj → j ≠ i → up.getD j true = false → (∀ e ∈ oj.after, Region.binds .any e = true → e.on ≠ i) → oi.apart ops oj = true) →
   i ∈ Region.ready .any ops up → YieldsIf P ops F oi v a → F w →
   Ever P ops Q F n (up.setIfInBounds i true) (a.put oi.dst v) w → Ever P ops Q F (n + 1) up a w
 | 0, up, a, w, _, hr, hy, hF, H => by
  refine ⟨fun h => (by rw [h] at hr; cases hr), fun j hj => ?_⟩
  by_cases hji : j = i
  ·subst hji; exact hy.wpOp hi hF ⟨hF, H⟩
  ·have := ready_mono hj hji
   rw [H.1] at this; cases this
 | n + 1, up, a, w, hfree, hr, hy, hF, H => by
  refine ⟨fun h => (by rw [h] at hr; cases hr), fun j hj => ?_⟩
  by_cases hji : j = i
  ·subst hji; exact hy.wpOp hi hF ⟨hF, H⟩
  obtain ⟨hjun, oj, hoj, hall⟩ := mem_ready.1 hj
  have hiun : up.getD i true = false := (mem_ready.1 hr).1
  have hnot : ∀ e ∈ oj.after, Region.binds .any e = true → e.on ≠ i := fun e he hb heq => by
   have h1 := hall e he hb
   rw [heq] at h1
   rcases Nat.lt_or_ge i up.size with h' | h'
   ·simp [h'] at hiun h1; rw [hiun] at h1; cases h1
   ·simp [Array.getElem?_eq_none h'] at h1
  refine wpOp_mono (fun b u k => ?_) (wpOp_putIf hoj (hfree j oj hoj hji hjun hnot) (fun cs b => hsel i oi cs b hi) (fun cs b => hsel j oj cs b hoj) hQ hy (H.2 j (ready_mono hj hji)))
  obtain ⟨k1, k2, k3⟩ := k
  refine ⟨k2, Ever.early hi hsel hQ n _ b u (fun m om hm hmi hun hno => hfree m om hm hmi ?_ hno) (ready_mono hr (Ne.symm hji)) k1 k2 ?_⟩
  ·by_cases hjm : j = m
   ·subst hjm; exact hjun
   ·rwa [getD_set_ne true hjm] at hun
  ·rw [Array.setIfInBounds_comm _ _ hji]; exact k3
theorem Ever.take {i : Nat} {oi : Oper} {v : Value} {n : Nat} {up : Array Bool} {a : Act} {w : World} (hi : ops[i]? = some oi) (hs : Region.noSelect ops = true) (hf : Region.free .any ops up i = true) (hr : (Region.ready .any ops up).contains i = true)
  (hQ : ∀ c a w, Q (.panic c) (a.put oi.dst v) w → Q (.panic c) a w) (hy : YieldsIf P ops F oi v a) (hF : F w)
  (h : Ever P ops Q F n (up.setIfInBounds i true) (a.put oi.dst v) w) : Ever P ops Q F (n + 1) up a w :=
 Ever.early hi (Region.noSelect_spec hs) hQ n up a w (Region.free_spec hi hf) (by simpa using hr) hy hF h
end
end Go.Proofs.Ytcfpnjcamcpieaa
end
