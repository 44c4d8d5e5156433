/- Parts of the proof: RegI AtomO CopyL PutB Ever. -/
import Derived.Deep.RegionHeld3
import Derived.StillTail
import Derived.Test.YtbfinjiledfpcaaGreatPT1
import Derived.Test.YtbfinjiledfpcaaGreatPT3
import Derived.Test.YtbfinjiledfpcaaGreatPT7
import Derived.Deep.CutRange
import Derived.BigQuiet
import Derived.Test.YtbfinjiledfpcaaGreatPT4
import Derived.Test.YtbfinjiledfpcaaGreatPT6
section
namespace Go.Proofs.YtbfinjiledfpcaaGreat
open Go Go.RowKit
set_option linter.unusedVariables false
set_option linter.unusedSimpArgs false
set_option maxRecDepth 100000
set_option maxHeartbeats 16000000
section
variable {P : Program} {ops : Array Oper} {Q : Exit → Act → World → Prop} {F : World → Prop} {s0 : Nat}
/-- Whatever comes up next; F holds behind it as long as number s0 has not come up. -/
def Till (P : Program) (ops : Array Oper) (Q : Exit → Act → World → Prop) (F : World → Prop) (s0 : Nat) : Nat → Array Bool → Act → World → Prop
 | 0, up, a, w => Region.ready .any ops up = [] ∧ Q .normal a w
 | n + 1, up, a, w => (Region.ready .any ops up = [] → Q .normal a w) ∧
   ∀ i, i ∈ Region.ready .any ops up → wpOp P ops Q i (fun b u => ((up.setIfInBounds i true).getD s0 true = false → F u) ∧ Till P ops Q F s0 n (up.setIfInBounds i true) b u) a w
theorem Till.drop : ∀ (n : Nat) (up : Array Bool) (a : Act) (w : World), Till P ops Q F s0 n up a w → wpAny P .any ops Q n up a w
 | 0, _, _, _, h => h
 | n + 1, _, _, _, h => ⟨h.1, fun i hi => wpOp_mono (fun b u k => Till.drop n _ b u k.2) (h.2 i hi)⟩
theorem Till.start {id : Nat} {a : Act} {w : World} (hm : P.follows .mixedOrders = true) (h : Till P ops Q F s0 ops.size (Array.replicate ops.size false) a w.drew) : (Code.region id ops true).wp P Q a w :=
 wp_region_any hm (Till.drop _ _ _ _ h)
theorem Till.done {up : Array Bool} {a : Act} {w : World} (hr : Region.ready .any ops up = []) (h : Q .normal a w) : ∀ n, Till P ops Q F s0 n up a w
 | 0 => ⟨hr, h⟩
 | _ + 1 => ⟨fun _ => h, by rw [hr]; simp⟩
/-- One alone may come up. -/
theorem Till.one {i : Nat} {o : Oper} {n : Nat} {up : Array Bool} {a : Act} {w : World} (hr : Region.ready .any ops up = [i]) (ho : ops[i]? = some o)
  (h : ∀ K' : Act → World → Prop, Hid (∀ b u, ((up.setIfInBounds i true).getD s0 true = false → F u) → Till P ops Q F s0 n (up.setIfInBounds i true) b u → K' b u) → if Region.wanted o (yielded ops a.tmps) = true then Oper.wp P o a w K' Q else K' (a.put o.dst undef) w) :
  Till P ops Q F s0 (n + 1) up a w := by
 refine ⟨fun h0 => (by rw [hr] at h0; cases h0), fun j hj => ?_⟩
 rw [hr] at hj; obtain rfl := List.mem_singleton.1 hj; exact wpOp_step ho fun K' hK => h K' (zgn fun b u h1 h2 => hK b u ⟨h1, h2⟩)
def waits (ops : Array Oper) (s0 i : Nat) : Bool := match ops[s0]? with | none => false | some o => o.after.any fun e => Region.binds .any e && e.on == i
theorem zft {i : Nat} (h : waits ops s0 i = true) : ∃ o, ops[s0]? = some o ∧ ∃ e ∈ o.after, Region.binds .any e = true ∧ e.on = i := by
 unfold waits at h
 split at h
 ·cases h
 ·rename_i o ho
  obtain ⟨e, he, h1⟩ := Array.any_eq_true'.1 h; simp only [zgm, beq_iff_eq] at h1; exact ⟨o, ho, e, he, h1.1, h1.2⟩
/-- One for which the first write waits is taken first. -/
theorem Till.early {i : Nat} {oi : Oper} {v : Value} (hi : ops[i]? = some oi) (hsel : ∀ (j : Nat) (o : Oper) cs b, ops[j]? = some o → o.op ≠ .select cs b)
  (hQ : ∀ c a w, Q (.panic c) (a.put oi.dst v) w → Q (.panic c) a w) (hwait : waits ops s0 i = true) (hne : s0 ≠ i) :
  ∀ (n : Nat) (up : Array Bool) (a : Act) (w : World), (∀ j oj, ops[j]? = some oj → j ≠ i → up.getD j true = false → (∀ e ∈ oj.after, Region.binds .any e = true → e.on ≠ i) → oi.apart ops oj = true) →
   i ∈ Region.ready .any ops up → up.getD s0 true = false → YieldsIf P ops F oi v a → F w →
   Till P ops Q F s0 n (up.setIfInBounds i true) (a.put oi.dst v) w → Till P ops Q F s0 (n + 1) up a w
 | 0, up, a, w, _, hr, hs, hy, hF, H => by
  refine ⟨fun h => (by rw [h] at hr; cases hr), fun j hj => ?_⟩
  by_cases hji : j = i
  ·subst hji; exact hy.wpOp hi hF ⟨fun _ => hF, H⟩
  ·have := ready_mono hj hji
   rw [H.1] at this; cases this
 | n + 1, up, a, w, hfree, hr, hs, hy, hF, H => by
  refine ⟨fun h => (by rw [h] at hr; cases hr), fun j hj => ?_⟩
  by_cases hji : j = i
  ·subst hji; exact hy.wpOp hi hF ⟨fun _ => hF, H⟩
  obtain ⟨hjun, oj, hoj, hall⟩ := mem_ready.1 hj; have hiun : up.getD i true = false := (mem_ready.1 hr).1
  have hnot : ∀ e ∈ oj.after, Region.binds .any e = true → e.on ≠ i := fun e he hb heq => by
   have h1 := hall e he hb; rw [heq] at h1
   rcases Nat.lt_or_ge i up.size with h' | h'
   ·simp [h'] at hiun h1; rw [hiun] at h1; cases h1
   ·simp [Array.getElem?_eq_none h'] at h1
  have hjs : j ≠ s0 := by
   rintro rfl; obtain ⟨o, ho, e, he, hb, hon⟩ := zft hwait; obtain rfl : o = oj := zgA (ho.symm.trans hoj); exact hnot e he hb hon
  have hs' : (up.setIfInBounds j true).getD s0 true = false := by rw [getD_set_ne true hjs]; exact hs
  have hs'' : ((up.setIfInBounds i true).setIfInBounds j true).getD s0 true = false := by rw [getD_set_ne true hjs, getD_set_ne true (Ne.symm hne)]; exact hs
  refine wpOp_mono (fun b u k => ?_) (wpOp_putIf hoj (hfree j oj hoj hji hjun hnot) (fun cs b => hsel i oi cs b hi) (fun cs b => hsel j oj cs b hoj) hQ hy (H.2 j (ready_mono hj hji))); obtain ⟨k1, k2, k3⟩ := k; have kF := k2 hs''; refine ⟨fun _ => kF, Till.early hi hsel hQ hwait hne n _ b u (fun m om hm hmi hun hno => hfree m om hm hmi ?_ hno) (ready_mono hr (Ne.symm hji)) hs' k1 kF ?_⟩
  ·by_cases hjm : j = m
   ·subst hjm; exact hjun
   ·rwa [getD_set_ne true hjm] at hun
  ·rw [Array.setIfInBounds_comm _ _ hji]; exact k3
theorem Till.take {i : Nat} {oi : Oper} {v : Value} {n : Nat} {up : Array Bool} {a : Act} {w : World} (hi : ops[i]? = some oi) (hs : Region.noSelect ops = true) (hf : Region.free .any ops up i = true) (hr : (Region.ready .any ops up).contains i = true)
  (hQ : ∀ c a w, Q (.panic c) (a.put oi.dst v) w → Q (.panic c) a w) (hw : (waits ops s0 i && (decide (s0 ≠ i) && !up.getD s0 true)) = true) (hy : YieldsIf P ops F oi v a) (hF : F w)
  (h : Till P ops Q F s0 n (up.setIfInBounds i true) (a.put oi.dst v) w) : Till P ops Q F s0 (n + 1) up a w := by
 simp only [zgm, decide_eq_true_eq, Bool.not_eq_true'] at hw; exact Till.early hi (Region.noSelect_spec hs) hQ hw.1 hw.2.1 n up a w (Region.free_spec hi hf) (by simpa using hr) hw.2.2 hy hF h
/-- One that yields whatever the world is. -/
theorem Till.freely {i : Nat} {oi : Oper} {v : Value} (hi : ops[i]? = some oi) (hsel : ∀ (j : Nat) (o : Oper) cs b, ops[j]? = some o → o.op ≠ .select cs b)
  (hQ : ∀ c a w, Q (.panic c) (a.put oi.dst v) w → Q (.panic c) a w) (hne : s0 ≠ i) :
  ∀ (n : Nat) (up : Array Bool) (a : Act) (w : World), (∀ j oj, ops[j]? = some oj → j ≠ i → up.getD j true = false → (∀ e ∈ oj.after, Region.binds .any e = true → e.on ≠ i) → oi.apart ops oj = true) →
   i ∈ Region.ready .any ops up → YieldsIf P ops (fun _ => True) oi v a → (up.getD s0 true = false → F w) →
   Till P ops Q F s0 n (up.setIfInBounds i true) (a.put oi.dst v) w → Till P ops Q F s0 (n + 1) up a w
 | 0, up, a, w, _, hr, hy, hF, H => by
  refine ⟨fun h => (by rw [h] at hr; cases hr), fun j hj => ?_⟩
  by_cases hji : j = i
  ·subst hji; exact hy.wpOp hi trivial ⟨fun h => hF (by rwa [getD_set_ne true (Ne.symm hne)] at h), H⟩
  ·have := ready_mono hj hji
   rw [H.1] at this; cases this
 | n + 1, up, a, w, hfree, hr, hy, hF, H => by
  refine ⟨fun h => (by rw [h] at hr; cases hr), fun j hj => ?_⟩
  by_cases hji : j = i
  ·subst hji; exact hy.wpOp hi trivial ⟨fun h => hF (by rwa [getD_set_ne true (Ne.symm hne)] at h), H⟩
  obtain ⟨hjun, oj, hoj, hall⟩ := mem_ready.1 hj; have hiun : up.getD i true = false := (mem_ready.1 hr).1
  have hnot : ∀ e ∈ oj.after, Region.binds .any e = true → e.on ≠ i := fun e he hb heq => by
   have h1 := hall e he hb; rw [heq] at h1
   rcases Nat.lt_or_ge i up.size with h' | h'
   ·simp [h'] at hiun h1; rw [hiun] at h1; cases h1
   ·simp [Array.getElem?_eq_none h'] at h1
  refine wpOp_mono (fun b u k => ?_) (wpOp_putIf hoj (hfree j oj hoj hji hjun hnot) (fun cs b => hsel i oi cs b hi) (fun cs b => hsel j oj cs b hoj) hQ hy (H.2 j (ready_mono hj hji))); obtain ⟨k1, k2, k3⟩ := k; have kF : (up.setIfInBounds j true).getD s0 true = false → F u := fun h => k2 (by rw [Array.setIfInBounds_comm _ _ (Ne.symm hji), getD_set_ne true (Ne.symm hne)]; exact h); refine ⟨kF, Till.freely hi hsel hQ hne n _ b u (fun m om hm hmi hun hno => hfree m om hm hmi ?_ hno) (ready_mono hr (Ne.symm hji)) k1 kF ?_⟩
  ·by_cases hjm : j = m
   ·subst hjm; exact hjun
   ·rwa [getD_set_ne true hjm] at hun
  ·rw [Array.setIfInBounds_comm _ _ hji]; exact k3
theorem Till.free {i : Nat} {oi : Oper} {v : Value} {n : Nat} {up : Array Bool} {a : Act} {w : World} (hi : ops[i]? = some oi) (hs : Region.noSelect ops = true) (hf : Region.free .any ops up i = true) (hr : (Region.ready .any ops up).contains i = true)
  (hQ : ∀ c a w, Q (.panic c) (a.put oi.dst v) w → Q (.panic c) a w) (hw : decide (s0 ≠ i) = true) (hy : YieldsIf P ops (fun _ => True) oi v a) (hF : up.getD s0 true = false → F w)
  (h : Till P ops Q F s0 n (up.setIfInBounds i true) (a.put oi.dst v) w) : Till P ops Q F s0 (n + 1) up a w :=
 Till.freely hi (Region.noSelect_spec hs) hQ (of_decide_eq_true hw) n up a w (Region.free_spec hi hf) (by simpa using hr) hy hF h
end
theorem zcB (x : Atm) (vs : List Value) (f : List Nat) (w : World) (hbig : x.small) (hbt : x.T.length ≤ 1048576) (hv : RdVs w x.cd vs f) :
  Calls Tryz.prog 81 #[.agg vs.toArray] w (zbg x.cd w) := by
 obtain ⟨a2, c2, f2, a4, c4, f4, a5, c5, f5, a6, c6, f6, rfl, _, m0, m1, m2, m3, m4, m5, m6, m7⟩ := Atm.open hv; unfold Atm.small at hbig
 have ha : x.a.size ≤ 1000000000 := by omega
 have hb' : x.b.size ≤ 1000000000 := by omega
 have hn : Tm.sizes x.N ≤ 1000000000 := by omega
 have hbb : Below (w.heap.size + 1 + 1) ((w.alloc (.cells (yNa x a2 c2 a4 c4 a5 c5 a6 c6) 31)).alloc (.cells yZa 31)) ((w.alloc (.cells (yNa x a2 c2 a4 c4 a5 c5 a6 c6) 31)).alloc (.cells yZa 31)) := zgz _ _; obtain ⟨hx, hy, hz, hB⟩ := box2 hbb; have hf1 := fun j => (zJ hbb j).1; have hf2 := fun j => (zJ hbb j).2; clear hbb; obtain ⟨W, hW⟩ : ∃ W, W = ((w.alloc (.cells (yNa x a2 c2 a4 c4 a5 c5 a6 c6) 31)).alloc (.cells yZa 31)) := ⟨_, rfl⟩; go_enter Tryz.func81, Tryz.ntmps81; go_wp2_with fail; rw [← hW] at hx hy hz hB hf1 hf2 ⊢; clear hW; have C1 := hx 1; have C2 := hx 2; have C3 := hx 3; have C4 := hx 4; have C5 := hx 5; have C6 := hx 6; simp only [zgd, zgb, zgc] at C1 C2 C3 C4 C5 C6; refine Till.start (F := fun W => W.cell? ⟨w.heap.size, 1, none⟩ = some (.string x.a.name) ∧ W.cell? ⟨w.heap.size, 2, none⟩ = some (.slice a2 x.a.K.length c2) ∧ W.cell? ⟨w.heap.size, 3, none⟩ = some (.string x.b.name) ∧ W.cell? ⟨w.heap.size, 4, none⟩ = some (.slice a4 x.b.K.length c4) ∧ W.cell? ⟨w.heap.size, 5, none⟩ = some (.slice a5 x.N.length c5) ∧ W.cell? ⟨w.heap.size, 6, none⟩ = some (.slice a6 x.T.length c6)) (s0 := 13) (by kernel_rfl) ?_; have hF : (fun W : World => W.cell? ⟨w.heap.size, 1, none⟩ = some (.string x.a.name) ∧ W.cell? ⟨w.heap.size, 2, none⟩ = some (.slice a2 x.a.K.length c2) ∧ W.cell? ⟨w.heap.size, 3, none⟩ = some (.string x.b.name) ∧ W.cell? ⟨w.heap.size, 4, none⟩ = some (.slice a4 x.b.K.length c4) ∧ W.cell? ⟨w.heap.size, 5, none⟩ = some (.slice a5 x.N.length c5) ∧ W.cell? ⟨w.heap.size, 6, none⟩ = some (.slice a6 x.T.length c6)) W.drew := ⟨C1, C2, C3, C4, C5, C6⟩; refine Till.take (i := 0) (v := .pointer (some ⟨w.heap.size, 1, none⟩)) rfl (by kernel_rfl) (by kernel_rfl) (by kernel_rfl) (fun _ _ _ h => h) (by kernel_rfl) (Or.inl ⟨by rfl, fun U hU => ?_⟩) hF ?_
 ·obtain ⟨u1, u2, u3, u4, u5, u6⟩ := hU
  go_simp
 try simp only [zgB]
 refine Till.take (i := 1) (v := .agg #[.string x.a.name, .slice a2 x.a.K.length c2]) rfl (by kernel_rfl) (by kernel_rfl) (by kernel_rfl) (fun _ _ _ h => h) (by kernel_rfl) (Or.inl ⟨by rfl, fun U hU => ?_⟩) hF ?_
 ·obtain ⟨u1, u2, u3, u4, u5, u6⟩ := hU
  go_simp
 try simp only [zgB]
 refine Till.take (i := 3) (v := .pointer (some ⟨w.heap.size, 3, none⟩)) rfl (by kernel_rfl) (by kernel_rfl) (by kernel_rfl) (fun _ _ _ h => h) (by kernel_rfl) (Or.inl ⟨by rfl, fun U hU => ?_⟩) hF ?_
 ·obtain ⟨u1, u2, u3, u4, u5, u6⟩ := hU
  go_simp
 try simp only [zgB]
 refine Till.take (i := 4) (v := .agg #[.string x.b.name, .slice a4 x.b.K.length c4]) rfl (by kernel_rfl) (by kernel_rfl) (by kernel_rfl) (fun _ _ _ h => h) (by kernel_rfl) (Or.inl ⟨by rfl, fun U hU => ?_⟩) hF ?_
 ·obtain ⟨u1, u2, u3, u4, u5, u6⟩ := hU
  go_simp
 try simp only [zgB]
 refine Till.take (i := 6) (v := .pointer (some ⟨w.heap.size, 5, none⟩)) rfl (by kernel_rfl) (by kernel_rfl) (by kernel_rfl) (fun _ _ _ h => h) (by kernel_rfl) (Or.inl ⟨by rfl, fun U hU => ?_⟩) hF ?_
 ·obtain ⟨u1, u2, u3, u4, u5, u6⟩ := hU
  go_simp
 try simp only [zgB]
 refine Till.take (i := 7) (v := .slice a5 x.N.length c5) rfl (by kernel_rfl) (by kernel_rfl) (by kernel_rfl) (fun _ _ _ h => h) (by kernel_rfl) (Or.inl ⟨by rfl, fun U hU => ?_⟩) hF ?_
 ·obtain ⟨u1, u2, u3, u4, u5, u6⟩ := hU
  go_simp
 try simp only [zgB]
 refine Till.take (i := 9) (v := .pointer (some ⟨w.heap.size, 6, none⟩)) rfl (by kernel_rfl) (by kernel_rfl) (by kernel_rfl) (fun _ _ _ h => h) (by kernel_rfl) (Or.inl ⟨by rfl, fun U hU => ?_⟩) hF ?_
 ·obtain ⟨u1, u2, u3, u4, u5, u6⟩ := hU
  go_simp
 try simp only [zgB]
 refine Till.take (i := 10) (v := .slice a6 x.T.length c6) rfl (by kernel_rfl) (by kernel_rfl) (by kernel_rfl) (fun _ _ _ h => h) (by kernel_rfl) (Or.inl ⟨by rfl, fun U hU => ?_⟩) hF ?_
 ·obtain ⟨u1, u2, u3, u4, u5, u6⟩ := hU
  go_simp
 try simp only [zgB]
 refine Till.one (i := 2) (by kernel_rfl) rfl (fun K hK => ?_); go_simp; go_wp2_with (go_at_call 116; refine (za6 _ x.a _ _ (zgo _) ha (by exact (TmR.mk m1 ⟨f2, m2⟩).below (hB.drew))).mono ?_; rintro e wA ⟨kA, fA, rfl, hrA, hfA, hbA⟩); obtain ⟨zA, cA, rfl, hc1A, hc2A⟩ := zg hrA; have hsA : Below W.heap.size W wA := zc hbA; have hBA := hB.trans (hsA.mono hB.size); have C1A := za C1 hsA; have C2A := za C2 hsA; have C3A := za C3 hsA; have C4A := za C4 hsA; have C5A := za C5 hsA; have C6A := za C6 hsA; have hFA : (fun W : World => W.cell? ⟨w.heap.size, 1, none⟩ = some (.string x.a.name) ∧ W.cell? ⟨w.heap.size, 2, none⟩ = some (.slice a2 x.a.K.length c2) ∧ W.cell? ⟨w.heap.size, 3, none⟩ = some (.string x.b.name) ∧ W.cell? ⟨w.heap.size, 4, none⟩ = some (.slice a4 x.b.K.length c4) ∧ W.cell? ⟨w.heap.size, 5, none⟩ = some (.slice a5 x.N.length c5) ∧ W.cell? ⟨w.heap.size, 6, none⟩ = some (.slice a6 x.T.length c6)) wA := ⟨C1A, C2A, C3A, C4A, C5A, C6A⟩; refine hK.out _ _ (fun _ => hFA) ?_; clear hK; refine Till.free (i := 12) (v := .pointer (some ⟨w.heap.size, 1, none⟩)) rfl (by kernel_rfl) (by kernel_rfl) (by kernel_rfl) (fun _ _ _ h => h) (by kernel_rfl) (Or.inl ⟨by rfl, fun U _ => ?_⟩) (fun _ => hFA) ?_
 ·go_simp
 try simp only [zgB]
 refine Till.one (i := 5) (by kernel_rfl) rfl (fun K hK => ?_); go_simp; go_wp2_with (go_at_call 116; refine (za6 _ x.b _ _ (zgo _) hb' (by exact (TmR.mk m3 ⟨f4, m4⟩).below hBA)).mono ?_; rintro e wB ⟨kB, fB, rfl, hrB, hfB, hbB⟩); obtain ⟨zB, cB, rfl, hc1B, hc2B⟩ := zg hrB; have hBB := hBA.trans (hbB.mono hBA.size); have C1B := za C1A hbB; have C2B := za C2A hbB; have C3B := za C3A hbB; have C4B := za C4A hbB; have C5B := za C5A hbB; have C6B := za C6A hbB; have hFB : (fun W : World => W.cell? ⟨w.heap.size, 1, none⟩ = some (.string x.a.name) ∧ W.cell? ⟨w.heap.size, 2, none⟩ = some (.slice a2 x.a.K.length c2) ∧ W.cell? ⟨w.heap.size, 3, none⟩ = some (.string x.b.name) ∧ W.cell? ⟨w.heap.size, 4, none⟩ = some (.slice a4 x.b.K.length c4) ∧ W.cell? ⟨w.heap.size, 5, none⟩ = some (.slice a5 x.N.length c5) ∧ W.cell? ⟨w.heap.size, 6, none⟩ = some (.slice a6 x.T.length c6)) wB := ⟨C1B, C2B, C3B, C4B, C5B, C6B⟩; refine hK.out _ _ (fun _ => hFB) ?_; clear hK; refine Till.one (i := 8) (by kernel_rfl) rfl (fun K hK => ?_); go_simp; go_wp2_with (go_at_call 117; refine (zfr x.N _ _ hn ⟨f5, m5.below hBB⟩).mono ?_; rintro e wN ⟨kN, fN, rfl, hrN, hfN, hbN⟩); obtain ⟨zN, cN, rfl, hc1N, hc2N⟩ := zg hrN; have hBN := hBB.trans (hbN.mono hBB.size); have C1N := za C1B hbN; have C2N := za C2B hbN; have C3N := za C3B hbN; have C4N := za C4B hbN; have C5N := za C5B hbN; have C6N := za C6B hbN; have hFN : (fun W : World => W.cell? ⟨w.heap.size, 1, none⟩ = some (.string x.a.name) ∧ W.cell? ⟨w.heap.size, 2, none⟩ = some (.slice a2 x.a.K.length c2) ∧ W.cell? ⟨w.heap.size, 3, none⟩ = some (.string x.b.name) ∧ W.cell? ⟨w.heap.size, 4, none⟩ = some (.slice a4 x.b.K.length c4) ∧ W.cell? ⟨w.heap.size, 5, none⟩ = some (.slice a5 x.N.length c5) ∧ W.cell? ⟨w.heap.size, 6, none⟩ = some (.slice a6 x.T.length c6)) wN := ⟨C1N, C2N, C3N, C4N, C5N, C6N⟩; refine hK.out _ _ (fun _ => hFN) ?_; clear hK; refine Till.one (i := 11) (by kernel_rfl) rfl (fun K hK => ?_); go_simp; go_wp2_with (go_at_call 118; refine (zcA x.T _ _ _ hbt (by exact m6.below hBN)).mono ?_; rintro e wT ⟨kT, fT, rfl, hrT, hfT, hbT⟩); obtain ⟨zT, cT, rfl, hc1T, hc2T⟩ := zg hrT; have hBT := hBN.trans (hbT.mono hBN.size); have C1T := za C1N hbT; have C2T := za C2N hbT; have C3T := za C3N hbT; have C4T := za C4N hbT; have C5T := za C5N hbT; have C6T := za C6N hbT; have hFT : (fun W : World => W.cell? ⟨w.heap.size, 1, none⟩ = some (.string x.a.name) ∧ W.cell? ⟨w.heap.size, 2, none⟩ = some (.slice a2 x.a.K.length c2) ∧ W.cell? ⟨w.heap.size, 3, none⟩ = some (.string x.b.name) ∧ W.cell? ⟨w.heap.size, 4, none⟩ = some (.slice a4 x.b.K.length c4) ∧ W.cell? ⟨w.heap.size, 5, none⟩ = some (.slice a5 x.N.length c5) ∧ W.cell? ⟨w.heap.size, 6, none⟩ = some (.slice a6 x.T.length c6)) wT := ⟨C1T, C2T, C3T, C4T, C5T, C6T⟩; refine hK.out _ _ (fun _ => hFT) ?_; clear hK
 have hs := hsA.trans (hbB.mono hsA.size) |>.trans (hbN.mono (hsA.trans (hbB.mono hsA.size)).size)
 have hsT := hs.trans (hbT.mono hs.size); have xT := zh hx (show w.heap.size < W.heap.size by omega) hsT; have yT := zh hy (show w.heap.size + 1 < W.heap.size by omega) hsT; have fT1 := zK hf1 (show w.heap.size < W.heap.size by omega) hsT; have fT2 := zK hf2 (show w.heap.size + 1 < W.heap.size by omega) hsT; have G1 := fT1 1; have G2 := fT1 2; have G3 := fT1 3; have G4 := fT1 4; have G5 := fT1 5; have G6 := fT1 6; clear hsA hs; refine Till.one (i := 13) (by kernel_rfl) rfl (fun K hK => ?_); go_simp; refine hK.out _ _ (fun h => absurd h (by decide)) ?_; clear hK
 try simp only [zgB]
 refine Till.one (i := 14) (by kernel_rfl) rfl (fun K hK => ?_); go_simp; refine hK.out _ _ (fun h => absurd h (by decide)) ?_; clear hK
 try simp only [zgB]
 refine Till.one (i := 15) (by kernel_rfl) rfl (fun K hK => ?_); go_simp; refine hK.out _ _ (fun h => absurd h (by decide)) ?_; clear hK
 try simp only [zgB]
 refine Till.one (i := 16) (by kernel_rfl) rfl (fun K hK => ?_); go_simp; refine hK.out _ _ (fun h => absurd h (by decide)) ?_; clear hK
 try simp only [zgB]
 refine Till.one (i := 17) (by kernel_rfl) rfl (fun K hK => ?_); go_simp; refine hK.out _ _ (fun h => absurd h (by decide)) ?_; clear hK
 try simp only [zgB]
 refine Till.one (i := 18) (by kernel_rfl) rfl (fun K hK => ?_); go_simp; refine hK.out _ _ (fun h => absurd h (by decide)) ?_; clear hK
 try simp only [zgB]
 refine Till.one (i := 19) (by kernel_rfl) rfl (fun K hK => ?_); go_simp; refine hK.out _ _ (fun h => absurd h (by decide)) ?_; clear hK
 try simp only [zgB]
 refine Till.done (by kernel_rfl) ?_ _
 -- the readings behind the calls
 have hzA := hsT.size; have hrA' := ((hrA.below hbB).below hbN).below hbT; have hrB' := (hrB.below hbN).below hbT; have hrN' := hrN.below hbT; have hfA0 : Fresh (w.heap.size + 1 + 1) wA fA := hfA.mono (by simpa using hz); have lA := hrA.lt _; have lB := hrB.lt _; have lN := hrN.lt _; have sAB := hbB.size; have sBN := hbN.size; have sWA := (zc hbA).size; have hf1' : Fresh (w.heap.size + 1 + 1) wB (fA ++ fB) := Fresh.app (hfA0.below hbB) lA (by omega) hfB
 have hf2' : Fresh (w.heap.size + 1 + 1) wN ((fA ++ fB) ++ fN) := Fresh.app (hf1'.below hbN) (fun q hq => by
  rcases zgg.1 hq with h | h
  ·have := lA q h; omega
  ·exact lB q h) (by omega) hfN
 have hf3' : Fresh (w.heap.size + 1 + 1) wT (((fA ++ fB) ++ fN) ++ fT) := Fresh.app (hf2'.below hbT) (fun q hq => by
  rcases zgg.1 hq with h | h
  ·rcases zgg.1 h with h | h
   ·have := lA q h; omega
   ·have := lB q h; omega
  ·exact lN q h) (by omega) hfT
 have hrd := Atm.close (x := x) m0 m1 hrA' m3 hrB' hrN' hrT m7
 have e : fA ++ (fB ++ (fN ++ fT)) = ((fA ++ fB) ++ fN) ++ fT := by simp
 rw [e] at hrd; have hBT' := hBT
 -- the world behind the stores, by a name
 have xx := zw (b := w.heap.size) [(1, .string x.a.name), (2, .slice zA x.a.K.length cA), (3, .string x.b.name), (4, .slice zB x.b.K.length cB), (5, .slice zN x.N.length cN), (6, .slice zT x.T.length cT)] xT (by simp); have yx := zaw (b := w.heap.size + 1) (b' := w.heap.size) (by omega) [(1, .string x.a.name), (2, .slice zA x.a.K.length cA), (3, .string x.b.name), (4, .slice zB x.b.K.length cB), (5, .slice zN x.N.length cN), (6, .slice zT x.T.length cT)] yT; have fx := zak (b := w.heap.size + 1) (b' := w.heap.size) [(1, .string x.a.name), (2, .slice zA x.a.K.length cA), (3, .string x.b.name), (4, .slice zB x.b.K.length cB), (5, .slice zN x.N.length cN), (6, .slice zT x.T.length cT)] fT2; have hL := Loc.sets (b := w.heap.size) (lo := w.heap.size) (hi := w.heap.size + 1 + 1) (by omega) (by omega) [(1, .string x.a.name), (2, .slice zA x.a.K.length cA), (3, .string x.b.name), (4, .slice zB x.b.K.length cB), (5, .slice zN x.N.length cN), (6, .slice zT x.T.length cT)] (Loc.refl _ _ wT); have hBx := hBT'.trans (hL.toBelow (B := w.heap.size) (by omega) (zgo _)); have hzx := hL.size; obtain ⟨wx, hwx⟩ : ∃ wx, wx = zi w.heap.size [(1, .string x.a.name), (2, .slice zA x.a.K.length cA), (3, .string x.b.name), (4, .slice zB x.b.K.length cB), (5, .slice zN x.N.length cN), (6, .slice zT x.T.length cT)] wT := ⟨_, rfl⟩
 change Exit.then _ _ _ _ (zi w.heap.size [(1, .string x.a.name), (2, .slice zA x.a.K.length cA), (3, .string x.b.name), (4, .slice zB x.b.K.length cB), (5, .slice zN x.N.length cN), (6, .slice zT x.T.length cT)] wT)
 rw [← hwx] at xx yx fx hL hBx hzx ⊢; clear hwx xT yT fT1 fT2; have hrx := hrd.same _ (hL.same (w0 := w) hf3'); have hfx := hf3'.same (hL.same (w0 := w) hf3'); clear hL hrd hf3' hf2' hf1' hfA0; obtain ⟨X0, X1, X2, X3, X4, X5, X6, X7, X8⟩ := yQ9 xx; obtain ⟨Y0, Y1, Y2, Y3, Y4, Y5, Y6, Y7, Y8⟩ := yQ9 yx; obtain ⟨Z0, Z1, Z2, Z3, Z4, Z5, Z6, Z7, Z8⟩ := yQ9 fx; simp only [zag, zfZ, zga, zgd, zgb, zgc] at X0 Y0 X1 Y1 X2 Y2 X3 Y3 X4 Y4 X5 Y5 X6 Y6 X7 Y7 X8 Y8; have hres := zw (b := w.heap.size + 1) (yNp x zA cA zB cB zN cN zT cT) yx (by simp); obtain ⟨R0, R1, R2, R3, R4, R5, R6, R7, R8⟩ := yQ9 hres; simp only [zi, zag, zfZ, zga, zgd, zgb, zgc] at R0 R1 R2 R3 R4 R5 R6 R7 R8; clear hres xx yx fx; clear C1 C2 C3 C4 C5 C6 C1A C2A C3A C4A C5A C6A C1B C2B C3B C4B C5B C6B C1N C2N C3N C4N C5N C6N C1T C2T C3T C4T C5T C6T G1 G2 G3 G4 G5 G6 hF hFA hFB hFN hFT; have hL2 := Loc.sets (b := w.heap.size + 1) (lo := w.heap.size) (hi := w.heap.size + 1 + 1) (by omega) (by omega) (yNp x zA cA zB cB zN cN zT cT) (Loc.refl _ _ wx); have hB2 := hBx.trans (hL2.toBelow (B := w.heap.size) (by omega) (zgo _)); have hr2 := hrx.same _ (hL2.same (w0 := w) hfx); have hf2x := hfx.same (hL2.same (w0 := w) hfx); simp only [zi] at hB2 hr2 hf2x; clear hL2; go_wp2_with fail; refine bodyPost_ret (v := .agg (yNa x zA cA zB cB zN cN zT cT)) (by simp [results, Tryz.results81, go_sem, R0, R1, R2, R3, R4, R5, R6, R7, R8]) rfl ?_; exact ⟨(yNl x zA cA zB cB zN cN zT cT), _, rfl, hr2, hf2x.mono (by omega), hB2⟩
theorem step_app0 {P : Program} {t e : TypeId} {z : Value} {k bytes : Nat} (hT : SlTy P t e z k bytes) {w : World} {ops : Array Oper} {o : Oper} {a : Act} {K : Act → World → Prop} {Q : Exit → Act → World → Prop} {E : Prop} (hgd : o.guard = none) (s x : Operand)
  (ho : o.op = .call { callee := .builtin .append, args := #[s, x], argTypes := #[t, t] }) (base ao : Option Addr) (n c c' : Nat) (hle : n ≤ c) (hs : a.eval s = .slice base n c) (hx : a.eval x = .slice ao 0 c')
  (h : K (a.put o.dst (.slice base n c)) w) : if Region.wanted o (yielded ops a.tmps) = true then Oper.wp P o a w K Q else E := by
 have hw : Region.wanted o (yielded ops a.tmps) = true := by simp [Region.wanted, hgd]
 rw [if_pos hw]; obtain ⟨i, hi, hz, hsz, hb⟩ := info_parts hT.info
 have hsrc : Src P i.size t (.slice ao 0 c') 0 [] w := by
  cases ao with
  | none => exact Src.ofNil _ hT.und c'
  | some ad => exact Src.ofSlice _ hT.und ad 0 c' [] (by simp) (fun j u h => by simp at h) (by simp)
 have hr := run_append_nothing (P := P) w t t o.type e i hT.und hi base n c hle _ hsrc; unfold Oper.wp execOp; simp only [ho, resolve, invoke, builtin, Sem.run_bind, Sem.run_pure, Result.andThen_ok, List.map_toArray, List.map_cons, List.map_nil, hs, hx, hr]; exact h
theorem zE {P : Program} {t e : TypeId} {z : Value} {k bytes : Nat} (hT : SlTy P t e z k bytes) {w : World} {ops : Array Oper} {o : Oper} {a : Act} {K : Act → World → Prop} {Q : Exit → Act → World → Prop} {E : Prop} (hgd : o.guard = none) (s x : Operand)
  (ho : o.op = .call { callee := .builtin .append, args := #[s, x], argTypes := #[t, t] })
  (base : Nat) (v : Value) (es : List (List CD)) (fp : List Nat) (hs : a.eval s = v) (hown : Own w base e k v es fp)
  (news : List (List CD)) (nv : Value) (nf : List Nat) (hx : a.eval x = nv) (hrd : Rd w (.sl news) nv nf) (hnk : ∀ x ∈ news, x.length = k) (hna : ∀ b ∈ nf, v.ownBlock ≠ some b)
  (hbytes : (es.length + news.length) * bytes ≤ 140737488355328) (hlen : es.length + news.length ≤ 140737488355328) (hbase : base ≤ w.heap.size)
  (h : ∀ v' w' nfp, (∀ b ∈ nfp, b ∈ nf) → Own w' base e k v' (es ++ news) (fp ++ nfp) → w.grownBy w' v.ownBlock → (∀ b, v'.ownBlock = some b → v.ownBlock = some b ∨ w.heap.size ≤ b) → K (a.put o.dst v') w') : if Region.wanted o (yielded ops a.tmps) = true then Oper.wp P o a w K Q else E := by
 obtain ⟨xa, xc, rfl, _, _⟩ := hrd.sl_form
 rcases Nat.eq_zero_or_pos news.length with hz | hne
 ·obtain rfl := List.eq_nil_of_length_eq_zero hz
  obtain ⟨va, vc, rfl, hv1, _⟩ := hown.form; refine step_app0 hT hgd s x ho va xa es.length vc xc hv1 hs hx ?_; exact h _ w [] (by simp) (by simpa using hown) (zaX _ _) (fun b hb => .inl hb)
 ·obtain ⟨b, off, f, rfl, hb, rfl, hr⟩ := hrd.addr hne
  obtain ⟨vs, hc, hvs⟩ := hr.flat
  exact zO hT hgd s x ho base v es fp hs hown ⟨b, off, none⟩ news.length xc news vs f hx rfl hvs hnk (fun j u hj => by simpa [Addr.add_lit] using hc j u hj) (fun y hy => hna y (by simp [hy])) hbytes hlen hbase
   (fun v' w' h1 h2 h3 h4 => h v' w' f (fun y hy => by simp [hy]) h1 h2 h3)
section
variable {P : Program} {ops : Array Oper} {Q : Exit → Act → World → Prop} {F : World → Prop} {s0 : Nat}
/-- What is to be shown of number i, if it comes up. -/
def Step (P : Program) (ops : Array Oper) (Q : Exit → Act → World → Prop) (F : World → Prop) (s0 n : Nat) (up : Array Bool) (a : Act) (w : World) (i : Nat) (o : Oper) : Prop :=
 ∀ K' : Act → World → Prop, Hid (∀ b u, ((up.setIfInBounds i true).getD s0 true = false → F u) → Till P ops Q F s0 n (up.setIfInBounds i true) b u → K' b u) → if Region.wanted o (yielded ops a.tmps) = true then Oper.wp P o a w K' Q else K' (a.put o.dst undef) w
theorem Step.op {i : Nat} {o : Oper} {n : Nat} {up : Array Bool} {a : Act} {w : World} (ho : ops[i]? = some o) (h : Step P ops Q F s0 n up a w i o) :
  wpOp P ops Q i (fun b u => ((up.setIfInBounds i true).getD s0 true = false → F u) ∧ Till P ops Q F s0 n (up.setIfInBounds i true) b u) a w :=
 wpOp_step ho fun K' hK => h K' (zgn fun b u h1 h2 => hK b u ⟨h1, h2⟩)
theorem Till.two {i j : Nat} {oi oj : Oper} {n : Nat} {up : Array Bool} {a : Act} {w : World} (hr : Region.ready .any ops up = [i, j]) (hi : ops[i]? = some oi) (hj : ops[j]? = some oj)
  (si : Step P ops Q F s0 n up a w i oi) (sj : Step P ops Q F s0 n up a w j oj) : Till P ops Q F s0 (n + 1) up a w := by
 refine ⟨fun h0 => (by rw [hr] at h0; cases h0), fun m hm => ?_⟩
 rw [hr] at hm; simp only [zgk, List.not_mem_nil, or_false] at hm
 rcases hm with rfl | rfl
 ·exact si.op hi
 ·exact sj.op hj
theorem Till.three {i j k : Nat} {oi oj ok : Oper} {n : Nat} {up : Array Bool} {a : Act} {w : World} (hr : Region.ready .any ops up = [i, j, k]) (hi : ops[i]? = some oi) (hj : ops[j]? = some oj) (hk : ops[k]? = some ok)
  (si : Step P ops Q F s0 n up a w i oi) (sj : Step P ops Q F s0 n up a w j oj) (sk : Step P ops Q F s0 n up a w k ok) : Till P ops Q F s0 (n + 1) up a w := by
 refine ⟨fun h0 => (by rw [hr] at h0; cases h0), fun m hm => ?_⟩
 rw [hr] at hm; simp only [zgk, List.not_mem_nil, or_false] at hm
 rcases hm with rfl | rfl | rfl
 ·exact si.op hi
 ·exact sj.op hj
 ·exact sk.op hk
end
/-- At the region's end a fact T stands; what follows is shown from T alone. -/
theorem zcD {P : Program} {id : Nat} {ops : Array Oper} {d : Bool} {Q : Exit → Act → World → Prop} {a : Act} {w : World} (T : Act → World → Prop) (hT : ∀ b u, T b u → Q .normal b u)
  (h : (Code.region id ops d).wp P (fun e b u => match e with | .normal => T b u | e => Q e b u) a w) : (Code.region id ops d).wp P Q a w :=
 Code.wp_mono (fun e b u k => by cases e <;> first | exact hT b u k | exact k) h
theorem asz2 (w : World) (o : Obj) : (w.alloc o).heap.size = w.heap.size + 1 := by simp
theorem Fresh.join {lo : Nat} {w : World} {f g : List Nat} (h : Fresh lo w f) (h' : Fresh lo w g) (hd : ∀ b ∈ f, b ∉ g) : Fresh lo w (f ++ g) := by
 refine ⟨List.nodup_append.2 ⟨h.1, h'.1, fun a ha b hb e => hd a ha (e ▸ hb)⟩, fun b hb => ?_⟩
 rcases zgg.1 hb with h1 | h1
 ·exact h.2 b h1
 ·exact h'.2 b h1
theorem Fresh.perm4 {lo : Nat} {w : World} {a b c d : List Nat} (h : Fresh lo w (((a ++ b) ++ c) ++ d)) : Fresh lo w (a ++ (b ++ (d ++ c))) := by
 have hp : (((a ++ b) ++ c) ++ d).Perm (a ++ (b ++ (d ++ c))) := by
  rw [List.append_assoc, List.append_assoc]; exact List.Perm.append_left _ (List.Perm.append_left _ List.perm_append_comm)
 exact ⟨hp.nodup_iff.1 h.1, fun x hx => h.2 x (hp.mem_iff.2 hx)⟩
/-- Small, and right but for the words' arguments. -/
def Tm.good (t : Tm) : Prop := t.size ≤ 100 ∧ Tm.shape t 4 = true
/-- A sum that was put together. -/
def PutOut (x : Atm) (fx ft : List Nat) (w : World) (e : Ending) (w' : World) : Prop := ∃ (y : Atm) (a5 : Option Addr) (c5 : Nat) (a6 : Option Addr) (c6 : Nat) (fn : List Nat), y.kind = x.kind ∧ y.a = .mk ⟨#[]⟩ [] ∧ y.b = .mk ⟨#[]⟩ [] ∧ y.O = x.O ∧ y.N.length ≤ x.N.length + 1 ∧ y.T.length = y.N.length ∧ (∀ u ∈ y.N, u.good) ∧
 e = .returned (.agg #[.int .i64 y.kind, .string ⟨#[]⟩, .slice none 0 0, .string ⟨#[]⟩, .slice none 0 0, .slice a5 y.N.length c5, .slice a6 y.T.length c6, .int .i64 y.O, .bool y.C]) ∧
 Own w' w.heap.size 28 2 (.slice a5 y.N.length c5) (y.N.map Tm.cd) fn ∧ Own w' w.heap.size 3 1 (.slice a6 y.T.length c6) (y.T.map zv) [] ∧ (∀ g, (Value.slice a5 y.N.length c5).ownBlock = some g → (Value.slice a6 y.T.length c6).ownBlock ≠ some g) ∧ (∀ b ∈ fn, (b ∈ fx ∨ b ∈ ft) ∧ b < w.heap.size) ∧ Below w.heap.size w w'
theorem zbj (w : World) {n : Int} (h : I64 n) : RdVs w [.int n] [.int .i64 n] [] := RdVs.single (d := .int n) (by simp only [Rd]; exact ⟨trivial, h, trivial⟩)
theorem zba {u : World} {a : Addr} {v x : Value} (h : u.cell? a = some x) : (u.setCell a v).cell? a = some v := zgu _ _ _ h
theorem so9 {u : World} {b i j : Nat} {v x : Value} (hne : j ≠ i) (h : u.cell? ⟨b, i, none⟩ = some x) : (u.setCell ⟨b, j, none⟩ v).cell? ⟨b, i, none⟩ = some x := (zgt _ _ _ _ (by simp [hne])).trans h
theorem zaF {w : World} {α : Type} {cd : α → List CD} (a : Option Addr) (c : Nat) (hc : c ≤ maxLen) : Rd w (.sl (([] : List α).map cd)) (.slice a 0 c) [] := by
 simp only [List.map_nil, Rd]; exact ⟨a, c, rfl, by simp, hc, by simp⟩
theorem zal {u : World} {b : Nat} (v0 v1 v2 v3 v4 v5 v6 v7 v8 : Value) (hz : ∀ j, j < 9 → ∃ x, u.cell? ⟨b, j, none⟩ = some x) : (zi b [(0, v0), (1, v1), (2, v2), (3, v3), (4, v4), (5, v5), (6, v6), (7, v7), (8, v8)] u).cell? ⟨b, 0, none⟩ = some v0 ∧ (zi b [(0, v0), (1, v1), (2, v2), (3, v3), (4, v4), (5, v5), (6, v6), (7, v7), (8, v8)] u).cell? ⟨b, 1, none⟩ = some v1 ∧ (zi b [(0, v0), (1, v1), (2, v2), (3, v3), (4, v4), (5, v5), (6, v6), (7, v7), (8, v8)] u).cell? ⟨b, 2, none⟩ = some v2 ∧ (zi b [(0, v0), (1, v1), (2, v2), (3, v3), (4, v4), (5, v5), (6, v6), (7, v7), (8, v8)] u).cell? ⟨b, 3, none⟩ = some v3 ∧ (zi b [(0, v0), (1, v1), (2, v2), (3, v3), (4, v4), (5, v5), (6, v6), (7, v7), (8, v8)] u).cell? ⟨b, 4, none⟩ = some v4 ∧ (zi b [(0, v0), (1, v1), (2, v2), (3, v3), (4, v4), (5, v5), (6, v6), (7, v7), (8, v8)] u).cell? ⟨b, 5, none⟩ = some v5 ∧ (zi b [(0, v0), (1, v1), (2, v2), (3, v3), (4, v4), (5, v5), (6, v6), (7, v7), (8, v8)] u).cell? ⟨b, 6, none⟩ = some v6 ∧ (zi b [(0, v0), (1, v1), (2, v2), (3, v3), (4, v4), (5, v5), (6, v6), (7, v7), (8, v8)] u).cell? ⟨b, 7, none⟩ = some v7 ∧ (zi b [(0, v0), (1, v1), (2, v2), (3, v3), (4, v4), (5, v5), (6, v6), (7, v7), (8, v8)] u).cell? ⟨b, 8, none⟩ = some v8 := by
 obtain ⟨x0, h0⟩ := hz 0 (by omega); obtain ⟨x1, h1⟩ := hz 1 (by omega); obtain ⟨x2, h2⟩ := hz 2 (by omega); obtain ⟨x3, h3⟩ := hz 3 (by omega); obtain ⟨x4, h4⟩ := hz 4 (by omega); obtain ⟨x5, h5⟩ := hz 5 (by omega); obtain ⟨x6, h6⟩ := hz 6 (by omega); obtain ⟨x7, h7⟩ := hz 7 (by omega); obtain ⟨x8, h8⟩ := hz 8 (by omega); exact ⟨so9 (fun h => nomatch h) (so9 (fun h => nomatch h) (so9 (fun h => nomatch h) (so9 (fun h => nomatch h) (so9 (fun h => nomatch h) (so9 (fun h => nomatch h) (so9 (fun h => nomatch h) (so9 (fun h => nomatch h) (zba (h0))))))))), so9 (fun h => nomatch h) (so9 (fun h => nomatch h) (so9 (fun h => nomatch h) (so9 (fun h => nomatch h) (so9 (fun h => nomatch h) (so9 (fun h => nomatch h) (so9 (fun h => nomatch h) (zba (so9 (fun h => nomatch h) (h1))))))))), so9 (fun h => nomatch h) (so9 (fun h => nomatch h) (so9 (fun h => nomatch h) (so9 (fun h => nomatch h) (so9 (fun h => nomatch h) (so9 (fun h => nomatch h) (zba (so9 (fun h => nomatch h) (so9 (fun h => nomatch h) (h2))))))))), so9 (fun h => nomatch h) (so9 (fun h => nomatch h) (so9 (fun h => nomatch h) (so9 (fun h => nomatch h) (so9 (fun h => nomatch h) (zba (so9 (fun h => nomatch h) (so9 (fun h => nomatch h) (so9 (fun h => nomatch h) (h3))))))))), so9 (fun h => nomatch h) (so9 (fun h => nomatch h) (so9 (fun h => nomatch h) (so9 (fun h => nomatch h) (zba (so9 (fun h => nomatch h) (so9 (fun h => nomatch h) (so9 (fun h => nomatch h) (so9 (fun h => nomatch h) (h4))))))))), so9 (fun h => nomatch h) (so9 (fun h => nomatch h) (so9 (fun h => nomatch h) (zba (so9 (fun h => nomatch h) (so9 (fun h => nomatch h) (so9 (fun h => nomatch h) (so9 (fun h => nomatch h) (so9 (fun h => nomatch h) (h5))))))))), so9 (fun h => nomatch h) (so9 (fun h => nomatch h) (zba (so9 (fun h => nomatch h) (so9 (fun h => nomatch h) (so9 (fun h => nomatch h) (so9 (fun h => nomatch h) (so9 (fun h => nomatch h) (so9 (fun h => nomatch h) (h6))))))))), so9 (fun h => nomatch h) (zba (so9 (fun h => nomatch h) (so9 (fun h => nomatch h) (so9 (fun h => nomatch h) (so9 (fun h => nomatch h) (so9 (fun h => nomatch h) (so9 (fun h => nomatch h) (so9 (fun h => nomatch h) (h7))))))))), zba (so9 (fun h => nomatch h) (so9 (fun h => nomatch h) (so9 (fun h => nomatch h) (so9 (fun h => nomatch h) (so9 (fun h => nomatch h) (so9 (fun h => nomatch h) (so9 (fun h => nomatch h) (so9 (fun h => nomatch h) (h8)))))))))⟩
theorem put_end {x : Atm} {fx ft : List Nat} {w W3 U : World} {ns : List Tm} {ts : List Int} {fn : List Nat} {a a' : Option Addr} {c c' : Nat} (S : PutSt w W3 U x.kind x.O x.C ns ts (.slice a ns.length c) (.slice a' ts.length c') fn) (hB : Below w.heap.size w U) (h0 : I64 x.kind) (h7 : I64 x.O) (hlen : ns.length = ts.length) (hl : ns.length ≤ x.N.length + 1) (hg : ∀ u ∈ ns, u.good) (hf : ∀ b ∈ fn, b ∈ fx ∨ b ∈ ft) :
  PutOut x fx ft w (.returned (.agg #[.int .i64 x.kind, .string ⟨#[]⟩, .slice none 0 0, .string ⟨#[]⟩, .slice none 0 0, .slice a ns.length c, .slice a' ts.length c', .int .i64 x.O, .bool x.C])) (zi (w.heap.size + 1 + 1) [(0, .int .i64 x.kind), (1, .string ⟨#[]⟩), (2, .slice none 0 0), (3, .string ⟨#[]⟩), (4, .slice none 0 0), (5, .slice a ns.length c), (6, .slice a' ts.length c'), (7, .int .i64 x.O), (8, .bool x.C)] U) := by
 have hL := Loc.sets (b := w.heap.size + 1 + 1) (lo := w.heap.size + 1 + 1) (hi := w.heap.size + 1 + 1 + 1) (by omega) (by omega) [(0, .int .i64 x.kind), (1, .string ⟨#[]⟩), (2, .slice none 0 0), (3, .string ⟨#[]⟩), (4, .slice none 0 0), (5, .slice a ns.length c), (6, .slice a' ts.length c'), (7, .int .i64 x.O), (8, .bool x.C)] (Loc.refl _ _ U); have hfl := S.fl; have o1 := (S.own1.same (fun b hb => hL.block b (by have := hfl b hb; have := S.sz; omega) (.inl (by have := hfl b hb; omega))) (fun b hb => hL.block b (S.own1.block hb).2 (.inr (by have := (S.own1.block hb).1; omega)))).base (base' := w.heap.size) (fun b hb => by have := (S.own1.block hb).1; omega); have o2 := (S.own2.same (fun b hb => by simp at hb) (fun b hb => hL.block b (S.own2.block hb).2 (.inr (by have := (S.own2.block hb).1; omega)))).base (base' := w.heap.size) (fun b hb => by have := (S.own2.block hb).1; omega); exact ⟨⟨x.kind, .mk ⟨#[]⟩ [], .mk ⟨#[]⟩ [], ns, ts, x.O, x.C⟩, a, c, a', c', fn, rfl, rfl, rfl, rfl, hl, hlen.symm, hg, rfl, o1, o2, S.dj, fun b hb => ⟨hf b hb, hfl b hb⟩, hB.trans (hL.toBelow (B := w.heap.size) (by have := S.sz; omega) (by omega))⟩
theorem zbT (x : Atm) (t : Tm) (n : Int) (vs us : List Value) (fx ft : List Nat) (w : World) (hlen : x.N.length = x.T.length) (hl : x.N.length ≤ 20) (hgx : ∀ u ∈ x.N, u.good) (hgt : t.good) (hn : I64 n) (hx : RdVs w x.cd vs fx) (ht : RdVs w t.cd us ft) :
  Calls Tryz.prog 136 #[.agg vs.toArray, .agg us.toArray, .int .i64 n] w (PutOut x fx ft w) := by
 obtain ⟨a2, c2, f2, a4, c4, f4, a5, c5, f5, a6, c6, f6, rfl, rfl, m0, m1, m2, m3, m4, m5, m6, m7⟩ := Atm.open hx; obtain ⟨tk, tc, fk, rfl, rfl, n0, n1⟩ := Tm.open ht
 have hla : x.N.length ≤ x.T.length := by omega
 have hlb : x.T.length ≤ x.N.length := by omega
 clear hlen; have h5l := m5.lt _; have hkl' := n1.lt _; have HGX := zgn hgx; have HGT := zgn hgt
 have hts : t.size ≤ 1100000 := by have := hgt.1; omega
 have htd := Tm.rdv n0 n1; clear hgx hgt; obtain ⟨W3, hW3⟩ : ∃ W, W = ((w.alloc (.cells (yNa x a2 c2 a4 c4 a5 c5 a6 c6) 31)).alloc (.cells #[.string t.name, .slice tk t.K.length tc] 28)).alloc (.cells yZa 31) := ⟨_, rfl⟩
 have hs3 : W3.heap.size = w.heap.size + 1 + 1 + 1 := by rw [hW3]; simp
 have hbox : ∀ {wr : World}, Below (w.heap.size + 1 + 1 + 1) W3 wr → (∀ j u, ((yNl x a2 c2 a4 c4 a5 c5 a6 c6) : List Value)[j]? = some u → wr.cell? ⟨w.heap.size, j, none⟩ = some u) ∧ (∀ j u, ([.string t.name, .slice tk t.K.length tc] : List Value)[j]? = some u → wr.cell? ⟨w.heap.size + 1, j, none⟩ = some u) ∧ (∀ j u, (yZl : List Value)[j]? = some u → wr.cell? ⟨w.heap.size + 1 + 1, j, none⟩ = some u) ∧ (∀ j, wr.frozen? ⟨w.heap.size + 1 + 1, j, none⟩ = false) ∧ w.heap.size + 1 + 1 + 1 ≤ wr.heap.size ∧ Below w.heap.size w wr := fun hb => by
  rw [hW3] at hb; exact zfP hb
 have S0 : PutSt w W3 (W3.alloc (.cells #[.int .i64 x.kind, .string ⟨#[]⟩, .slice none 0 0, .string ⟨#[]⟩, .slice none 0 0, .slice none 0 0, .slice none 0 0, .int .i64 x.O, .bool x.C] 31)) x.kind x.O x.C [] [] (.slice none 0 0) (.slice none 0 0) [] := by
  have hc := zx W3 [.int .i64 x.kind, .string ⟨#[]⟩, .slice none 0 0, .string ⟨#[]⟩, .slice none 0 0, .slice none 0 0, .slice none 0 0, .int .i64 x.O, .bool x.C] 31; have hf := zR W3 #[.int .i64 x.kind, .string ⟨#[]⟩, .slice none 0 0, .string ⟨#[]⟩, .slice none 0 0, .slice none 0 0, .slice none 0 0, .int .i64 x.O, .bool x.C] 31; rw [hs3] at hc hf; exact ⟨(zb _ _).mono (by omega), hc 0 _ rfl, hc 1 _ rfl, hc 2 _ rfl, hc 3 _ rfl, hc 4 _ rfl, hc 5 _ rfl, hc 6 _ rfl, hc 7 _ rfl, hc 8 _ rfl, hf 5, hf 6, Own.nil _ _ _ _, Own.nil _ _ _ _, fun g h => by simp [Value.ownBlock] at h, by simp, by simp [hs3]⟩
 go_enter Tryz.func136, Tryz.ntmps136; go_wp2_with fail; rw [← hW3]
 go_loopw [8, 9] (fun dv iv wr => ∃ (d : Bool) (k : Nat) (ns : List Tm) (ts : List Int) (vn vt : Value) (fn : List Nat), dv = .bool d ∧ iv = .int .i64 k ∧ k ≤ x.N.length ∧ ns.length = ts.length ∧ ns.length ≤ k + d.toNat ∧ Hid (∀ u ∈ ns, u.good) ∧ Hid (∀ i ∈ ts, I64 i) ∧ Hid (∀ b ∈ fn, b ∈ f5 ∨ b ∈ ft) ∧ PutSt w W3 wr x.kind x.O x.C ns ts vn vt fn) (fun _ iv _ => x.N.length - (intOf iv).toNat)
 case atStart => exact ⟨false, 0, [], [], _, _, [], rfl, rfl, zgx _, rfl, by simp, zgn (by simp), zgn (by simp), zgn (by simp), S0⟩
 case round =>
  clear S0; obtain ⟨d, k, ns, ts, vn, vt, fn, rfl, rfl, hkl, hnt, hnk, hgn, hti, hfn, S⟩ := hrel
  have hdn : d.toNat ≤ 1 := by cases d <;> simp
  have hnl : ns.length ≤ 21 := by omega
  have htl : ts.length ≤ 21 := by omega
  have hnta : ns.length ≤ ts.length := by omega
  have hntb : ts.length ≤ ns.length := by omega
  clear hnt; obtain ⟨X, Y, Z, fz, hz3, hB⟩ := hbox S.bel; have x5 := X 5 _ rfl; have x6 := X 6 _ rfl; have y0 := Y 0 _ rfl; have y1 := Y 1 _ rfl
  by_cases hlt : k < x.N.length
  ·obtain ⟨b5, o5, rfl, hb5, hb5m⟩ := zl m5 (by omega)
   obtain ⟨b6, o6, rfl, hb6, hb6m⟩ := zl m6 (by omega); obtain ⟨ua, uc, uf, d0, d1, q0, q1, qsub⟩ := Tm.at (m5.below hB) hlt; obtain ⟨e0, he0⟩ := zan (m6.below hB) (k := k) (by omega); have hgu := HGX.out _ (zgh hlt); have hux := Tm.rdv q0 q1
   have hkx : (k : Int) < (x.N.length : Int) := by omega
   go_wp2_with fail; refine (zaI x.N[k].size x.N[k] 4 _ _ (zgo _) (by have := hgu.1; omega) hgu.2 (by exact TmR.mk q0 ⟨_, q1⟩)).mono ?_; rintro e w2 ⟨rfl, hb2⟩; have S2 := S.below hb2; clear S hB X Y Z fz hz3 x5 x6 y0 y1 hb2 d0 d1 e0 hux q0 q1; obtain ⟨X, Y, Z, fz, hz3, hB⟩ := hbox S2.bel; have y0 := Y 0 _ rfl; have y1 := Y 1 _ rfl; go_upto_region 7 with fail
   go_cut [38] from 31 to 37 (fun sv wx => ∃ b : Bool, sv = .bool b ∧ (b = true → d = false) ∧ PutSt w W3 wx x.kind x.O x.C ns ts vn vt fn)
   case first =>
    cases d
    rotate_left
    ·go_wp2_with fail
     go_meet
     case rel => exact ⟨false, rfl, by simp, S2⟩
    ·go_wp2_with fail
     refine (zaI t.size t 4 _ _ (zgo _) hts HGT.out.2 (by exact TmR.mk n0 ⟨_, n1.below hB⟩)).mono ?_; rintro e w4 ⟨rfl, hb4⟩; have S4 := S2.below hb4; have hge := zdD 9 x.N[k].text t.text
     cases hl : nmLt x.N[k].text t.text
     ·rw [hl] at hge
      simp only [Bool.not_false] at hge; clear hl; go_wp2_with fail
      go_meet
      case rel => exact ⟨true, rfl, by simp, S4⟩
     ·rw [hl] at hge
      simp only [Bool.not_true] at hge; clear hl; go_wp2_with fail
      go_meet
      case rel => exact ⟨false, rfl, by simp, S4⟩
   case rest =>
   obtain ⟨bt, rfl, hbd, S4⟩ := hcut; clear S2 X Y Z fz hz3 hB y0 y1; obtain ⟨X, Y, Z, fz, hz3, hB⟩ := hbox S4.bel; have y0 := Y 0 _ rfl; have y1 := Y 1 _ rfl
   go_upto_if 38 with (fail)
   go_cut [8] from 39 to 50 (fun dv wx => ∃ (d' : Bool) (ns' : List Tm) (ts' : List Int) (vn' vt' : Value) (fn' : List Nat), dv = .bool d' ∧ ns'.length = ts'.length ∧ ns'.length ≤ k + d'.toNat ∧ Hid (∀ u ∈ ns', u.good) ∧ Hid (∀ i ∈ ts', I64 i) ∧ Hid (∀ b ∈ fn', b ∈ f5 ∨ b ∈ ft) ∧ PutSt w W3 wx x.kind x.O x.C ns' ts' vn' vt' fn')
   case first =>
    cases bt
    ·go_wp2_with fail
     go_meet
     case rel => exact ⟨d, ns, ts, vn, vt, fn, rfl, by omega, hnk, hgn, hti, hfn, S4⟩
    ·obtain rfl := hbd rfl
     generalize hw4 : wc = w4 at *; clear hw4; have c5_A := (S4.below (zb w4 (.cells #[.string t.name, .slice tk t.K.length tc] 28))).c5; have z5_A := (S4.below (zb w4 (.cells #[.string t.name, .slice tk t.K.length tc] 28))).z5; have p5_A := S4.c5; have y0 := Y 0 _ rfl; have y1 := Y 1 _ rfl; have SQ := S4.below (zb w4 (.cells #[.string t.name, .slice tk t.K.length tc] 28)); go_upto_region 8 with fail; go_wp2_with (at_builtin; refine zz zaU rfl _ _ rfl (w.heap.size + 1 + 1 + 1 + 1) _ _ _ rfl (by exact SQ.own1) ⟨w4.heap.size, 0, none⟩ 1 1 [t.cd] [.string t.name, .slice tk t.K.length tc] ft rfl rfl ?rdA ?kA ?cellsA ?naA ?bytesA ?lenA ?baseA ?nextA)
     try (case rdA => simpa using (htd.below hB).below (zb _ _))
     try (case kA => simp [Tm.cd_len])
     try (case cellsA => exact zq w4 [.string t.name, .slice tk t.K.length tc] 28)
     try (case naA => intro b hb h; have h1 := hkl' b hb; have h2 := (SQ.own1.block h).1; omega)
     try (case bytesA => (try simp); omega)
     try (case lenA => (try simp); omega)
     try (case baseA => exact SQ.sz)
     case nextA =>
      intro vA wA hownA hgA hvA hsA; obtain ⟨aA, nA, cA, rfl⟩ := hownA.form'
      have SA := SQ.N (ns' := ns ++ [t]) hgA (by rw [zgj]; exact hownA) (by simpa using hvA) (fun b hb => by
       rcases zgg.1 hb with h | h
       ·exact SQ.fl b h
       ·exact hkl' b h)
      have hneA : _ ≠ some (w.heap.size + 1 + 1 + 1) := fun e => by have := (SQ.own1.block e).1; omega
      have e5 := zr hgA SQ.c5 hneA; have e5z := zH hgA (by have := SQ.sz; omega) SQ.z5 hneA; clear hownA hgA hvA hsA SQ; go_upto_region 9 with fail; generalize wA.setCell ⟨w.heap.size + 1 + 1 + 1, 5, none⟩ (.slice aA nA cA) = UA at *; have c6_B := (SA.below (zb UA (.cells #[.int .i64 n] 3))).c6; have p6_B := SA.c6; have SQ := SA.below (zb UA (.cells #[.int .i64 n] 3)); go_wp2_with (at_builtin; refine zz zU rfl _ _ rfl (w.heap.size + 1 + 1 + 1 + 1) _ _ _ rfl (by exact SQ.own2) ⟨UA.heap.size, 0, none⟩ 1 1 [zv n] [.int .i64 n] [] rfl rfl ?rdB ?kB ?cellsB ?naB ?bytesB ?lenB ?baseB ?nextB)
      try (case rdB => exact zbj _ hn)
      try (case kB => simp [zL])
      try (case cellsB => exact zq UA [.int .i64 n] 3)
      try (case naB => simp)
      try (case bytesB => (try simp); omega)
      try (case lenB => (try simp); omega)
      try (case baseB => exact SQ.sz)
      case nextB =>
       intro vB wB hownB hgB hvB hsB; obtain ⟨aB, nB, cB, rfl⟩ := hownB.form'; have SB := SQ.T (ts' := ts ++ [n]) hgB (by rw [zgj]; simpa using hownB) (by simpa using hvB)
       have hneB : _ ≠ some (w.heap.size + 1 + 1 + 1) := fun e => by have := (SQ.own2.block e).1; omega
       have e6 := zr hgB SQ.c6 hneB; have e6z := zH hgB (by have := SQ.sz; omega) SQ.z6 hneB; clear hownB hgB hvB hsB SQ; go_upto_region 10 with fail; generalize wB.setCell ⟨w.heap.size + 1 + 1 + 1, 6, none⟩ (.slice aB nB cB) = UB at *; go_wp2_with fail
       go_meet
       case rel => exact ⟨true, ns ++ [t], ts ++ [n], _, _, fn ++ ft, rfl, by simp; omega, by simp at hnk ⊢; omega, zgn (fun u hu => by rcases zgg.1 hu with h | h; exact hgn.out u h; rw [List.mem_singleton.1 h]; exact HGT.out), zgn (fun i hi => by rcases zgg.1 hi with h | h; exact hti.out i h; rw [List.mem_singleton.1 h]; exact hn), zgn (fun b hb => by rcases zgg.1 hb with h | h; exact hfn.out b h; exact .inr h), SB⟩
   case rest =>
   obtain ⟨d', ns', ts', vn', vt', fn', rfl, hnt', hnk', hgn', hti', hfn', S5⟩ := hcut
   have hdn' : d'.toNat ≤ 1 := by cases d' <;> simp
   have hnl' : ns'.length ≤ 21 := by omega
   have htl' : ts'.length ≤ 21 := by omega
   have hnta' : ns'.length ≤ ts'.length := by omega
   have hntb' : ts'.length ≤ ns'.length := by omega
   clear hnt' X Y Z fz hz3 hB y0 y1 S4; obtain ⟨X, Y, Z, fz, hz3, hB⟩ := hbox S5.bel; have y0 := Y 0 _ rfl; have y1 := Y 1 _ rfl; go_wp2_with fail; refine (zaI t.size t 4 _ _ (zgo _) hts HGT.out.2 (by exact TmR.mk n0 ⟨_, n1.below hB⟩)).mono ?_; rintro e w6 ⟨rfl, hb6⟩; have S6 := S5.below hb6; clear X Y Z fz hz3 hB y0 y1 S5 hb6; go_wp2_with fail
   case roundEnd => exact ⟨⟨d', k + 1, ns', ts', vn', vt', fn', rfl, by go_num, by omega, by omega, by omega, hgn', hti', hfn', S6⟩, by simp [intOf]; omega⟩
   obtain ⟨X, Y, Z, fz, hz3, hB⟩ := hbox S6.bel; have x5 := X 5 _ rfl; have p5 := S6.c5; have z5 := S6.z5; obtain ⟨ua, uc, uf, d0, d1, q0, q1, qsub⟩ := Tm.at (m5.below hB) hlt; have hux := Tm.rdv q0 q1; have hulo := q1.lt _; clear X Y Z fz hz3 hB q0 q1; have B0 := zj w6; have B1 : Below w6.heap.size w6 (w6.alloc (.cells #[.string x.N[k].name, .slice ua x.N[k].K.length uc] 28)).drew := (zb w6 _).trans ((zj _).mono (by simp)); have SQ := S6.below B1; have hb5n : b5 < w.heap.size := h5l b5 hb5m; have hb6n : b6 < w.heap.size := m6.lt _ b6 hb6m; refine Till.start (F := (fun U : World => U.cell? ⟨w.heap.size + 1 + 1 + 1, 5, none⟩ = some (vn') ∧ U.cell? ⟨w.heap.size, 5, none⟩ = some (.slice (some ⟨b5, o5, none⟩) x.N.length c5) ∧ U.cell? ⟨b5, o5 + k * 2, none⟩ = some (.string x.N[k].name) ∧ U.cell? ⟨b5, o5 + k * 2 + 1, none⟩ = some (.slice ua x.N[k].K.length uc))) (s0 := 9) (by kernel_rfl) ?_; have hF : (fun U : World => U.cell? ⟨w.heap.size + 1 + 1 + 1, 5, none⟩ = some (vn') ∧ U.cell? ⟨w.heap.size, 5, none⟩ = some (.slice (some ⟨b5, o5, none⟩) x.N.length c5) ∧ U.cell? ⟨b5, o5 + k * 2, none⟩ = some (.string x.N[k].name) ∧ U.cell? ⟨b5, o5 + k * 2 + 1, none⟩ = some (.slice ua x.N[k].K.length uc)) _ := ⟨za p5 B0, za x5 B0, za d0 B0, za d1 B0⟩; refine Till.take (i := 0) (v := (.pointer (some ⟨w.heap.size + 1 + 1 + 1, 5, none⟩))) rfl (by kernel_rfl) (by kernel_rfl) (by kernel_rfl) (fun _ _ _ h => h) (by kernel_rfl) (Or.inl ⟨by rfl, fun U hU => ?_⟩) hF ?_
   ·obtain ⟨u0F, u1F, u2F, u3F⟩ := hU
    go_simp
   try simp only [zgB]
   refine Till.take (i := 1) (v := vn') rfl (by kernel_rfl) (by kernel_rfl) (by kernel_rfl) (fun _ _ _ h => h) (by kernel_rfl) (Or.inl ⟨by rfl, fun U hU => ?_⟩) hF ?_
   ·obtain ⟨u0F, u1F, u2F, u3F⟩ := hU
    go_simp
   try simp only [zgB]
   refine Till.take (i := 2) (v := (.pointer (some ⟨w.heap.size, 5, none⟩))) rfl (by kernel_rfl) (by kernel_rfl) (by kernel_rfl) (fun _ _ _ h => h) (by kernel_rfl) (Or.inl ⟨by rfl, fun U hU => ?_⟩) hF ?_
   ·obtain ⟨u0F, u1F, u2F, u3F⟩ := hU
    go_simp
   try simp only [zgB]
   refine Till.take (i := 3) (v := (.slice (some ⟨b5, o5, none⟩) x.N.length c5)) rfl (by kernel_rfl) (by kernel_rfl) (by kernel_rfl) (fun _ _ _ h => h) (by kernel_rfl) (Or.inl ⟨by rfl, fun U hU => ?_⟩) hF ?_
   ·obtain ⟨u0F, u1F, u2F, u3F⟩ := hU
    go_simp
   try simp only [zgB]
   refine Till.take (i := 4) (v := (.int .i64 k)) rfl (by kernel_rfl) (by kernel_rfl) (by kernel_rfl) (fun _ _ _ h => h) (by kernel_rfl) (Or.inl ⟨by rfl, fun U hU => ?_⟩) hF ?_
   ·obtain ⟨u0F, u1F, u2F, u3F⟩ := hU
    go_simp
   try simp only [zgB]
   refine Till.take (i := 5) (v := (.pointer (some ⟨b5, o5 + k * 2, none⟩))) rfl (by kernel_rfl) (by kernel_rfl) (by kernel_rfl) (fun _ _ _ h => h) (by kernel_rfl) (Or.inl ⟨by rfl, fun U hU => ?_⟩) hF ?_
   ·obtain ⟨u0F, u1F, u2F, u3F⟩ := hU
    go_simp
   try simp only [zgB]
   refine Till.take (i := 6) (v := (.agg #[.string x.N[k].name, .slice ua x.N[k].K.length uc])) rfl (by kernel_rfl) (by kernel_rfl) (by kernel_rfl) (fun _ _ _ h => h) (by kernel_rfl) (Or.inl ⟨by rfl, fun U hU => ?_⟩) hF ?_
   ·obtain ⟨u0F, u1F, u2F, u3F⟩ := hU
    go_simp
   try simp only [zgB]
   refine Till.one (i := 7) (by kernel_rfl) rfl (fun K hK => ?_); go_simp; refine hK.out _ _ (fun _ => ⟨za p5 B1, za x5 B1, za d0 B1, za d1 B1⟩) ?_; clear hK
   try simp only [zgB]
   refine Till.one (i := 8) (by kernel_rfl) rfl (fun K hK => ?_); refine zO zaU rfl _ _ rfl (w.heap.size + 1 + 1 + 1 + 1) _ _ _ rfl (by exact SQ.own1) ⟨w6.heap.size, 0, none⟩ 1 1 [x.N[k].cd] [.string x.N[k].name, .slice ua x.N[k].K.length uc] uf rfl rfl (by simpa using hux.below B1) (by simp [Tm.cd_len]) (by exact zq w6 [.string x.N[k].name, .slice ua x.N[k].K.length uc] 28) (fun b hb h => by have h1 := h5l b (qsub b hb); have h2 := (SQ.own1.block h).1; omega) (by (try simp); omega) (by (try simp); omega) (by exact SQ.sz) ?_; intro vC wC hownC hgC hvC hsC; obtain ⟨aC, nC, cC, rfl⟩ := hownC.form'
   have SC := SQ.N (ns' := ns' ++ [x.N[k]]) hgC (by rw [zgj]; exact hownC) hvC (fun b hb => by
    rcases zgg.1 hb with h | h
    ·exact SQ.fl b h
    ·exact h5l b (qsub b h))
   have hneC : _ ≠ some (w.heap.size + 1 + 1 + 1) := fun e => by have := (SQ.own1.block e).1; omega
   have e5 := zr hgC SQ.c5 hneC; have e5z := zH hgC (by have := SQ.sz; omega) SQ.z5 hneC; clear hownC hvC hsC hF; refine hK.out _ _ (fun _ => ⟨e5, zr hgC (za x5 B1) (fun e => by have := (SQ.own1.block e).1; omega), zr hgC (za d0 B1) (fun e => by have := (SQ.own1.block e).1; omega), zr hgC (za d1 B1) (fun e => by have := (SQ.own1.block e).1; omega)⟩) ?_; clear hK
   try simp only [zgB]
   refine Till.one (i := 9) (by kernel_rfl) rfl (fun K hK => ?_); go_simp; refine hK.out _ _ (fun h => absurd h (by decide)) ?_; clear hK
   try simp only [zgB]
   refine Till.one (i := 10) (by kernel_rfl) rfl (fun K hK => ?_); go_simp; refine hK.out _ _ (fun h => absurd h (by decide)) ?_; clear hK
   try simp only [zgB]
   refine Till.done (by kernel_rfl) ?_ _
   all_goals
    clear hgC SQ S6 d0 d1 x5 p5 B0 B1 hux; go_wp2_with fail; generalize wC.setCell ⟨w.heap.size + 1 + 1 + 1, 5, none⟩ (.slice aC nC cC) = UC at *; clear e5 e5z z5; obtain ⟨X, Y, Z, fz, hz3, hB⟩ := hbox SC.bel; have x6 := X 6 _ rfl; have p6 := SC.c6
    have hk6 : k < x.T.length := by omega
    have hk6i : (k : Int) < (x.T.length : Int) := by omega
    obtain ⟨d0, hi64⟩ := zan (m6.below hB) (k := k) (by omega); clear X Y Z fz hz3 hB; have B0 := zj UC; have B1 : Below UC.heap.size UC (UC.alloc (.cells #[.int .i64 (x.T[k]'(by omega))] 3)).drew := (zb UC _).trans ((zj _).mono (by simp)); have SQ := SC.below B1; refine Till.start (F := (fun U : World => U.cell? ⟨w.heap.size + 1 + 1 + 1, 6, none⟩ = some (vt') ∧ U.cell? ⟨w.heap.size, 6, none⟩ = some (.slice (some ⟨b6, o6, none⟩) x.T.length c6) ∧ U.cell? ⟨b6, o6 + k, none⟩ = some (.int .i64 (x.T[k]'(by omega))))) (s0 := 9) (by kernel_rfl) ?_; have hF : (fun U : World => U.cell? ⟨w.heap.size + 1 + 1 + 1, 6, none⟩ = some (vt') ∧ U.cell? ⟨w.heap.size, 6, none⟩ = some (.slice (some ⟨b6, o6, none⟩) x.T.length c6) ∧ U.cell? ⟨b6, o6 + k, none⟩ = some (.int .i64 (x.T[k]'(by omega)))) _ := ⟨za p6 B0, za x6 B0, za d0 B0⟩; refine Till.take (i := 0) (v := (.pointer (some ⟨w.heap.size + 1 + 1 + 1, 6, none⟩))) rfl (by kernel_rfl) (by kernel_rfl) (by kernel_rfl) (fun _ _ _ h => h) (by kernel_rfl) (Or.inl ⟨by rfl, fun U hU => ?_⟩) hF ?_
    ·obtain ⟨u0F, u1F, u2F⟩ := hU
     go_simp
    try simp only [zgB]
    refine Till.take (i := 1) (v := vt') rfl (by kernel_rfl) (by kernel_rfl) (by kernel_rfl) (fun _ _ _ h => h) (by kernel_rfl) (Or.inl ⟨by rfl, fun U hU => ?_⟩) hF ?_
    ·obtain ⟨u0F, u1F, u2F⟩ := hU
     go_simp
    try simp only [zgB]
    refine Till.take (i := 2) (v := (.pointer (some ⟨w.heap.size, 6, none⟩))) rfl (by kernel_rfl) (by kernel_rfl) (by kernel_rfl) (fun _ _ _ h => h) (by kernel_rfl) (Or.inl ⟨by rfl, fun U hU => ?_⟩) hF ?_
    ·obtain ⟨u0F, u1F, u2F⟩ := hU
     go_simp
    try simp only [zgB]
    refine Till.take (i := 3) (v := (.slice (some ⟨b6, o6, none⟩) x.T.length c6)) rfl (by kernel_rfl) (by kernel_rfl) (by kernel_rfl) (fun _ _ _ h => h) (by kernel_rfl) (Or.inl ⟨by rfl, fun U hU => ?_⟩) hF ?_
    ·obtain ⟨u0F, u1F, u2F⟩ := hU
     go_simp
    try simp only [zgB]
    refine Till.take (i := 4) (v := (.int .i64 k)) rfl (by kernel_rfl) (by kernel_rfl) (by kernel_rfl) (fun _ _ _ h => h) (by kernel_rfl) (Or.inl ⟨by rfl, fun U hU => ?_⟩) hF ?_
    ·obtain ⟨u0F, u1F, u2F⟩ := hU
     go_simp
    try simp only [zgB]
    refine Till.take (i := 5) (v := (.pointer (some ⟨b6, o6 + k, none⟩))) rfl (by kernel_rfl) (by kernel_rfl) (by kernel_rfl) (fun _ _ _ h => h) (by kernel_rfl) (Or.inl ⟨by rfl, fun U hU => ?_⟩) hF ?_
    ·obtain ⟨u0F, u1F, u2F⟩ := hU
     go_simp
    try simp only [zgB]
    refine Till.take (i := 6) (v := (.int .i64 (x.T[k]'(by omega)))) rfl (by kernel_rfl) (by kernel_rfl) (by kernel_rfl) (fun _ _ _ h => h) (by kernel_rfl) (Or.inl ⟨by rfl, fun U hU => ?_⟩) hF ?_
    ·obtain ⟨u0F, u1F, u2F⟩ := hU
     go_simp
    try simp only [zgB]
    refine Till.one (i := 7) (by kernel_rfl) rfl (fun K hK => ?_); go_simp; refine hK.out _ _ (fun _ => ⟨za p6 B1, za x6 B1, za d0 B1⟩) ?_; clear hK
    try simp only [zgB]
    refine Till.one (i := 8) (by kernel_rfl) rfl (fun K hK => ?_); refine zO zU rfl _ _ rfl (w.heap.size + 1 + 1 + 1 + 1) _ _ _ rfl (by exact SQ.own2) ⟨UC.heap.size, 0, none⟩ 1 1 [zv (x.T[k]'(by omega))] [.int .i64 (x.T[k]'(by omega))] [] rfl rfl (by exact zbj _ hi64) (by simp [zL]) (by exact zq UC [.int .i64 (x.T[k]'(by omega))] 3) (by simp) (by (try simp); omega) (by (try simp); omega) (by exact SQ.sz) ?_; intro vD wD hownD hgD hvD hsD; obtain ⟨aD, nD, cD, rfl⟩ := hownD.form'; have SD := SQ.T (ts' := ts' ++ [x.T[k]'(by omega)]) hgD (by rw [zgj]; exact hownD) hvD
    have hneD : _ ≠ some (w.heap.size + 1 + 1 + 1) := fun e => by have := (SQ.own2.block e).1; omega
    have e6 := zr hgD SQ.c6 hneD; have e6z := zH hgD (by have := SQ.sz; omega) SQ.z6 hneD; clear hownD hvD hsD hF; refine hK.out _ _ (fun _ => ⟨e6, zr hgD (za x6 B1) (fun e => by have := (SQ.own2.block e).1; omega), zr hgD (za d0 B1) (fun e => by have := (SQ.own2.block e).1; omega)⟩) ?_; clear hK
    try simp only [zgB]
    refine Till.one (i := 9) (by kernel_rfl) rfl (fun K hK => ?_); go_simp; refine hK.out _ _ (fun h => absurd h (by decide)) ?_; clear hK
    try simp only [zgB]
    refine Till.one (i := 10) (by kernel_rfl) rfl (fun K hK => ?_); go_simp; refine hK.out _ _ (fun h => absurd h (by decide)) ?_; clear hK
    try simp only [zgB]
    refine Till.done (by kernel_rfl) ?_ _
    all_goals
     clear hgD SQ SC d0 x6 p6 B0 B1; go_wp2_with fail; go_roundw
     case rel => exact ⟨d', k + 1, ns' ++ [x.N[k]], ts' ++ [x.T[k]'(by omega)], _, _, fn' ++ uf, rfl, by go_num, by omega, by simp; omega, by simp; omega, zgn (fun u hu => by rcases zgg.1 hu with h | h; exact hgn'.out u h; rw [List.mem_singleton.1 h]; exact hgu), zgn (fun i hi => by rcases zgg.1 hi with h | h; exact hti'.out i h; rw [List.mem_singleton.1 h]; exact hi64), zgn (fun b hb => by rcases zgg.1 hb with h | h; exact hfn'.out b h; exact .inl (qsub b h)), SD⟩
     case measure => simp [intOf]; omega
  ·have hk : k = x.N.length := by omega
   clear x5 x6 y0 y1
   cases d
   ·have hnk' : ns.length ≤ x.N.length := by simp at hnk; omega
    have hB := hB; have c5_E := (S.below (zb wr (.cells #[.string t.name, .slice tk t.K.length tc] 28))).c5; have z5_E := (S.below (zb wr (.cells #[.string t.name, .slice tk t.K.length tc] 28))).z5; have p5_E := S.c5; have y0 := Y 0 _ rfl; have y1 := Y 1 _ rfl; have SQ := S.below (zb wr (.cells #[.string t.name, .slice tk t.K.length tc] 28)); go_upto_region 15 with fail; go_wp2_with (at_builtin; refine zz zaU rfl _ _ rfl (w.heap.size + 1 + 1 + 1 + 1) _ _ _ rfl (by exact SQ.own1) ⟨wr.heap.size, 0, none⟩ 1 1 [t.cd] [.string t.name, .slice tk t.K.length tc] ft rfl rfl ?rdE ?kE ?cellsE ?naE ?bytesE ?lenE ?baseE ?nextE)
    try (case rdE => simpa using (htd.below hB).below (zb _ _))
    try (case kE => simp [Tm.cd_len])
    try (case cellsE => exact zq wr [.string t.name, .slice tk t.K.length tc] 28)
    try (case naE => intro b hb h; have h1 := hkl' b hb; have h2 := (SQ.own1.block h).1; omega)
    try (case bytesE => (try simp); omega)
    try (case lenE => (try simp); omega)
    try (case baseE => exact SQ.sz)
    case nextE =>
     intro vE wE hownE hgE hvE hsE; obtain ⟨aE, nE, cE, rfl⟩ := hownE.form'
     have SE := SQ.N (ns' := ns ++ [t]) hgE (by rw [zgj]; exact hownE) (by simpa using hvE) (fun b hb => by
      rcases zgg.1 hb with h | h
      ·exact SQ.fl b h
      ·exact hkl' b h)
     have hneE : _ ≠ some (w.heap.size + 1 + 1 + 1) := fun e => by have := (SQ.own1.block e).1; omega
     have e5 := zr hgE SQ.c5 hneE; have e5z := zH hgE (by have := SQ.sz; omega) SQ.z5 hneE; clear hownE hgE hvE hsE SQ; go_upto_region 16 with fail; generalize wE.setCell ⟨w.heap.size + 1 + 1 + 1, 5, none⟩ (.slice aE nE cE) = UE at *; have c6_F := (SE.below (zb UE (.cells #[.int .i64 n] 3))).c6; have p6_F := SE.c6; have SQ := SE.below (zb UE (.cells #[.int .i64 n] 3)); go_wp2_with (at_builtin; refine zz zU rfl _ _ rfl (w.heap.size + 1 + 1 + 1 + 1) _ _ _ rfl (by exact SQ.own2) ⟨UE.heap.size, 0, none⟩ 1 1 [zv n] [.int .i64 n] [] rfl rfl ?rdF ?kF ?cellsF ?naF ?bytesF ?lenF ?baseF ?nextF)
     try (case rdF => exact zbj _ hn)
     try (case kF => simp [zL])
     try (case cellsF => exact zq UE [.int .i64 n] 3)
     try (case naF => simp)
     try (case bytesF => (try simp); omega)
     try (case lenF => (try simp); omega)
     try (case baseF => exact SQ.sz)
     case nextF =>
      intro vF wF hownF hgF hvF hsF; obtain ⟨aF, nF, cF, rfl⟩ := hownF.form'; have SF := SQ.T (ts' := ts ++ [n]) hgF (by rw [zgj]; simpa using hownF) (by simpa using hvF)
      have hneF : _ ≠ some (w.heap.size + 1 + 1 + 1) := fun e => by have := (SQ.own2.block e).1; omega
      have e6 := zr hgF SQ.c6 hneF; have e6z := zH hgF (by have := SQ.sz; omega) SQ.z6 hneF; clear hownF hgF hvF hsF SQ; go_upto_region 17 with fail; generalize wF.setCell ⟨w.heap.size + 1 + 1 + 1, 6, none⟩ (.slice aF nF cF) = UF at *; obtain ⟨N9, hN9⟩ : ∃ N, N = ns ++ [t] := ⟨_, rfl⟩; obtain ⟨T9, hT9⟩ : ∃ N, N = ts ++ [n] := ⟨_, rfl⟩; rw [← hN9, ← hT9] at SF
      have hl9 : N9.length ≤ x.N.length + 1 := by rw [hN9]; simp; omega
      have hla9 : N9.length ≤ T9.length := by rw [hN9, hT9]; simp; omega
      have hlb9 : T9.length ≤ N9.length := by rw [hN9, hT9]; simp; omega
      have HG9 : ∀ u ∈ N9, u.good := by rw [hN9]; exact (fun u hu => by rcases zgg.1 hu with h | h; exact hgn.out u h; rw [List.mem_singleton.1 h]; exact HGT.out)
      clear hN9 hT9 SE; obtain ⟨aG, cG, hvE, _, _⟩ := SF.own1.form; obtain ⟨aH, cH, hvF, _, _⟩ := SF.own2.form; rw [zgl] at hvE hvF; simp only [Value.slice.injEq] at hvE hvF; obtain ⟨rfl, rfl, rfl⟩ := hvE; obtain ⟨rfl, rfl, rfl⟩ := hvF; have b0 := SF.c0; have b1 := SF.c1; have b2 := SF.c2; have b3 := SF.c3; have b4 := SF.c4; have b5' := SF.c5; have b6' := SF.c6; have b7 := SF.c7; have b8 := SF.c8; obtain ⟨X, Y, Z, fz, hz3, hB⟩ := hbox SF.bel; have HO := put_end (fx := f2 ++ (f4 ++ (f5 ++ f6))) (ft := ft) SF hB m0 m7 (by omega) (by omega) HG9 (fun b hb => by rcases zgg.1 hb with h | h; exact (hfn.out b h).elim (fun h => .inl (by simp [h])) .inr; exact .inr h)
      have NS := zal (u := UF) (b := w.heap.size + 1 + 1) (.int .i64 x.kind) (.string ⟨#[]⟩) (.slice none 0 0) (.string ⟨#[]⟩) (.slice none 0 0) (.slice aE (N9).length cE) (.slice aF (T9).length cF) (.int .i64 x.O) (.bool x.C) (fun j hj => by
       rcases j with _ | _ | _ | _ | _ | _ | _ | _ | _ | j
       all_goals first | exact ⟨_, Z _ _ rfl⟩ | omega)
      obtain ⟨R0, R1, R2, R3, R4, R5, R6, R7, R8⟩ := NS; simp only [zi] at R0 R1 R2 R3 R4 R5 R6 R7 R8 HO; obtain ⟨z0, z1, z2, z3, z4, z5, z6, z7, z8⟩ := yR9 Z rfl; obtain ⟨fz0, fz1, fz2, fz3, fz4, fz5, fz6, fz7, fz8⟩ := yQ9 fz; clear X Y Z fz hz3 hB SF; go_wp2_with fail; refine bodyPost_ret (v := .agg #[.int .i64 x.kind, .string ⟨#[]⟩, .slice none 0 0, .string ⟨#[]⟩, .slice none 0 0, .slice aE (N9).length cE, .slice aF (T9).length cF, .int .i64 x.O, .bool x.C]) (by simp [results, Tryz.results136, go_sem, R0, R1, R2, R3, R4, R5, R6, R7, R8]) rfl ?_; exact HO
   ·have hnk' : ns.length ≤ x.N.length + 1 := by simp at hnk; omega
    go_upto_region 17 with fail; generalize hww : wr = W9 at *; clear hww; obtain ⟨aE, cE, hvE, _, _⟩ := S.own1.form; obtain ⟨aF, cF, hvF, _, _⟩ := S.own2.form; rw [zgl] at hvE hvF; subst hvE hvF; have b0 := S.c0; have b1 := S.c1; have b2 := S.c2; have b3 := S.c3; have b4 := S.c4; have b5' := S.c5; have b6' := S.c6; have b7 := S.c7; have b8 := S.c8; obtain ⟨X, Y, Z, fz, hz3, hB⟩ := hbox S.bel; have HO := put_end (fx := f2 ++ (f4 ++ (f5 ++ f6))) (ft := ft) S hB m0 m7 (by (try simp); omega) (by (try simp); omega) (fun u hu => hgn.out u hu) (fun b hb => (hfn.out b hb).elim (fun h => .inl (by simp [h])) .inr)
    have NS := zal (u := W9) (b := w.heap.size + 1 + 1) (.int .i64 x.kind) (.string ⟨#[]⟩) (.slice none 0 0) (.string ⟨#[]⟩) (.slice none 0 0) (.slice aE (ns).length cE) (.slice aF (ts).length cF) (.int .i64 x.O) (.bool x.C) (fun j hj => by
     rcases j with _ | _ | _ | _ | _ | _ | _ | _ | _ | j
     all_goals first | exact ⟨_, Z _ _ rfl⟩ | omega)
    obtain ⟨R0, R1, R2, R3, R4, R5, R6, R7, R8⟩ := NS; simp only [zi] at R0 R1 R2 R3 R4 R5 R6 R7 R8 HO; obtain ⟨z0, z1, z2, z3, z4, z5, z6, z7, z8⟩ := yR9 Z rfl; obtain ⟨fz0, fz1, fz2, fz3, fz4, fz5, fz6, fz7, fz8⟩ := yQ9 fz; clear X Y Z fz hz3 hB S; go_wp2_with fail; refine bodyPost_ret (v := .agg #[.int .i64 x.kind, .string ⟨#[]⟩, .slice none 0 0, .string ⟨#[]⟩, .slice none 0 0, .slice aE (ns).length cE, .slice aF (ts).length cF, .int .i64 x.O, .bool x.C]) (by simp [results, Tryz.results136, go_sem, R0, R1, R2, R3, R4, R5, R6, R7, R8]) rfl ?_; exact HO
section
variable {P : Program} {ops : Array Oper} {Q : Exit → Act → World → Prop} {F : World → Prop}
/-- Whatever comes up next; F holds behind it. -/
def Ever (P : Program) (ops : Array Oper) (Q : Exit → Act → World → Prop) (F : World → Prop) : Nat → Array Bool → Act → World → Prop
 | 0, up, a, w => Region.ready .any ops up = [] ∧ Q .normal a w
 | n + 1, up, a, w => (Region.ready .any ops up = [] → Q .normal a w) ∧
   ∀ i, i ∈ Region.ready .any ops up → wpOp P ops Q i (fun b u => F u ∧ Ever P ops Q F n (up.setIfInBounds i true) b u) a w
theorem Ever.drop : ∀ (n : Nat) (up : Array Bool) (a : Act) (w : World), Ever P ops Q F n up a w → wpAny P .any ops Q n up a w
 | 0, _, _, _, h => h
 | n + 1, _, _, _, h => ⟨h.1, fun i hi => wpOp_mono (fun b u k => Ever.drop n _ b u k.2) (h.2 i hi)⟩
theorem Ever.start {id : Nat} {a : Act} {w : World} (hm : P.follows .mixedOrders = true) (h : Ever P ops Q F ops.size (Array.replicate ops.size false) a w.drew) : (Code.region id ops true).wp P Q a w :=
 wp_region_any hm (Ever.drop _ _ _ _ h)
theorem Ever.done {up : Array Bool} {a : Act} {w : World} (hr : Region.ready .any ops up = []) (h : Q .normal a w) : ∀ n, Ever P ops Q F n up a w
 | 0 => ⟨hr, h⟩
 | _ + 1 => ⟨fun _ => h, by rw [hr]; simp⟩
/-- One alone may come up. -/
theorem Ever.one {i : Nat} {o : Oper} {n : Nat} {up : Array Bool} {a : Act} {w : World} (hr : Region.ready .any ops up = [i]) (ho : ops[i]? = some o)
  (h : ∀ K' : Act → World → Prop, Hid (∀ b u, F u → Ever P ops Q F n (up.setIfInBounds i true) b u → K' b u) → if Region.wanted o (yielded ops a.tmps) = true then Oper.wp P o a w K' Q else K' (a.put o.dst undef) w) :
  Ever P ops Q F (n + 1) up a w := by
 refine ⟨fun h0 => (by rw [hr] at h0; cases h0), fun j hj => ?_⟩
 rw [hr] at hj; obtain rfl := List.mem_singleton.1 hj; exact wpOp_step ho fun K' hK => h K' (zgn fun b u h1 h2 => hK b u ⟨h1, h2⟩)
/-- Two may come up. -/
theorem Ever.two {i j : Nat} {o o' : Oper} {n : Nat} {up : Array Bool} {a : Act} {w : World} (hr : Region.ready .any ops up = [i, j]) (ho : ops[i]? = some o) (ho' : ops[j]? = some o')
  (h : ∀ K' : Act → World → Prop, Hid (∀ b u, F u → Ever P ops Q F n (up.setIfInBounds i true) b u → K' b u) → if Region.wanted o (yielded ops a.tmps) = true then Oper.wp P o a w K' Q else K' (a.put o.dst undef) w)
  (h' : ∀ K' : Act → World → Prop, Hid (∀ b u, F u → Ever P ops Q F n (up.setIfInBounds j true) b u → K' b u) → if Region.wanted o' (yielded ops a.tmps) = true then Oper.wp P o' a w K' Q else K' (a.put o'.dst undef) w) :
  Ever P ops Q F (n + 1) up a w := by
 refine ⟨fun h0 => (by rw [hr] at h0; cases h0), fun k hk => ?_⟩
 rw [hr] at hk
 rcases zgk.1 hk with rfl | hk
 ·exact wpOp_step ho fun K' hK => h K' (zgn fun b u h1 h2 => hK b u ⟨h1, h2⟩)
 ·obtain rfl := List.mem_singleton.1 hk
  exact wpOp_step ho' fun K' hK => h' K' (zgn fun b u h1 h2 => hK b u ⟨h1, h2⟩)
/-- One that only reads is taken first. -/
theorem Ever.early {i : Nat} {oi : Oper} {v : Value} (hi : ops[i]? = some oi) (hsel : ∀ (j : Nat) (o : Oper) cs b, ops[j]? = some o → o.op ≠ .select cs b)
  (hQ : ∀ c a w, Q (.panic c) (a.put oi.dst v) w → Q (.panic c) a w) :
  ∀ (n : Nat) (up : Array Bool) (a : Act) (w : World), (∀ j oj, ops[j]? = some oj → j ≠ i → up.getD j true = false → (∀ e ∈ oj.after, Region.binds .any e = true → e.on ≠ i) → oi.apart ops oj = true) →
   i ∈ Region.ready .any ops up → YieldsIf P ops F oi v a → F w →
   Ever P ops Q F n (up.setIfInBounds i true) (a.put oi.dst v) w → Ever P ops Q F (n + 1) up a w
 | 0, up, a, w, _, hr, hy, hF, H => by
  refine ⟨fun h => (by rw [h] at hr; cases hr), fun j hj => ?_⟩
  by_cases hji : j = i
  ·subst hji; exact hy.wpOp hi hF ⟨hF, H⟩
  ·have := ready_mono hj hji
   rw [H.1] at this; cases this
 | n + 1, up, a, w, hfree, hr, hy, hF, H => by
  refine ⟨fun h => (by rw [h] at hr; cases hr), fun j hj => ?_⟩
  by_cases hji : j = i
  ·subst hji; exact hy.wpOp hi hF ⟨hF, H⟩
  obtain ⟨hjun, oj, hoj, hall⟩ := mem_ready.1 hj; have hiun : up.getD i true = false := (mem_ready.1 hr).1
  have hnot : ∀ e ∈ oj.after, Region.binds .any e = true → e.on ≠ i := fun e he hb heq => by
   have h1 := hall e he hb; rw [heq] at h1
   rcases Nat.lt_or_ge i up.size with h' | h'
   ·simp [h'] at hiun h1; rw [hiun] at h1; cases h1
   ·simp [Array.getElem?_eq_none h'] at h1
  refine wpOp_mono (fun b u k => ?_) (wpOp_putIf hoj (hfree j oj hoj hji hjun hnot) (fun cs b => hsel i oi cs b hi) (fun cs b => hsel j oj cs b hoj) hQ hy (H.2 j (ready_mono hj hji))); obtain ⟨k1, k2, k3⟩ := k; refine ⟨k2, Ever.early hi hsel hQ n _ b u (fun m om hm hmi hun hno => hfree m om hm hmi ?_ hno) (ready_mono hr (Ne.symm hji)) k1 k2 ?_⟩
  ·by_cases hjm : j = m
   ·subst hjm; exact hjun
   ·rwa [getD_set_ne true hjm] at hun
  ·rw [Array.setIfInBounds_comm _ _ hji]; exact k3
theorem Ever.take {i : Nat} {oi : Oper} {v : Value} {n : Nat} {up : Array Bool} {a : Act} {w : World} (hi : ops[i]? = some oi) (hs : Region.noSelect ops = true) (hf : Region.free .any ops up i = true) (hr : (Region.ready .any ops up).contains i = true)
  (hQ : ∀ c a w, Q (.panic c) (a.put oi.dst v) w → Q (.panic c) a w) (hy : YieldsIf P ops F oi v a) (hF : F w)
  (h : Ever P ops Q F n (up.setIfInBounds i true) (a.put oi.dst v) w) : Ever P ops Q F (n + 1) up a w :=
 Ever.early hi (Region.noSelect_spec hs) hQ n up a w (Region.free_spec hi hf) (by simpa using hr) hy hF h
end
end Go.Proofs.YtbfinjiledfpcaaGreat
end
