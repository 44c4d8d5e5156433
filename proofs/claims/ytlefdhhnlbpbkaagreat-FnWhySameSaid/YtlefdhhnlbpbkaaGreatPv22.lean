/- Parts of the proof: RegI Own StepA Rdr6 LawTm. -/
import Derived.Deep.RegionHeld3
import Derived.StillTail
import Derived.Test.YtlefdhhnlbpbkaaGreatPv1
import Derived.Deep.Upon
import Derived.Lib.BufferMore
import Derived.Test.YtlefdhhnlbpbkaaGreatPv8
import Derived.Test.YtlefdhhnlbpbkaaGreatPv20
import Derived.Test.YtlefdhhnlbpbkaaGreatPv13
section
namespace Go.Proofs.YtlefdhhnlbpbkaaGreat
open Go Go.RowKit
set_option linter.unusedVariables false
set_option linter.unusedSimpArgs false
set_option maxRecDepth 100000
set_option maxHeartbeats 16000000
section
variable {P : Program} {ops : Array Oper} {Q : Exit → Act → World → Prop} {F : World → Prop} {s0 : Nat}
/-- Whatever comes up next; F holds behind it as long as number s0 has not come up. -/
def Till (P : Program) (ops : Array Oper) (Q : Exit → Act → World → Prop) (F : World → Prop) (s0 : Nat) : Nat → Array Bool → Act → World → Prop
 | 0, up, a, w => Region.ready .any ops up = [] ∧ Q .normal a w
 | n + 1, up, a, w => (Region.ready .any ops up = [] → Q .normal a w) ∧
   ∀ i, i ∈ Region.ready .any ops up → wpOp P ops Q i (fun b u => ((up.setIfInBounds i true).getD s0 true = false → F u) ∧ Till P ops Q F s0 n (up.setIfInBounds i true) b u) a w
theorem Till.drop : ∀ (n : Nat) (up : Array Bool) (a : Act) (w : World), Till P ops Q F s0 n up a w → wpAny P .any ops Q n up a w
 | 0, _, _, _, h => h
 | n + 1, _, _, _, h => ⟨h.1, fun i hi => wpOp_mono (fun b u k => Till.drop n _ b u k.2) (h.2 i hi)⟩
theorem Till.start {id : Nat} {a : Act} {w : World} (hm : P.follows .mixedOrders = true) (h : Till P ops Q F s0 ops.size (Array.replicate ops.size false) a w.drew) : (Code.region id ops true).wp P Q a w :=
 wp_region_any hm (Till.drop _ _ _ _ h)
theorem Till.done {up : Array Bool} {a : Act} {w : World} (hr : Region.ready .any ops up = []) (h : Q .normal a w) : ∀ n, Till P ops Q F s0 n up a w
 | 0 => ⟨hr, h⟩
 | _ + 1 => ⟨fun _ => h, by rw [hr]; simp⟩
/-- One alone may come up. -/
theorem Till.one {i : Nat} {o : Oper} {n : Nat} {up : Array Bool} {a : Act} {w : World} (hr : Region.ready .any ops up = [i]) (ho : ops[i]? = some o)
  (h : ∀ K' : Act → World → Prop, Hid (∀ b u, ((up.setIfInBounds i true).getD s0 true = false → F u) → Till P ops Q F s0 n (up.setIfInBounds i true) b u → K' b u) → if Region.wanted o (yielded ops a.tmps) = true then Oper.wp P o a w K' Q else K' (a.put o.dst undef) w) :
  Till P ops Q F s0 (n + 1) up a w := by
 refine ⟨fun h0 => (by rw [hr] at h0; cases h0), fun j hj => ?_⟩
 rw [hr] at hj
 obtain rfl := List.mem_singleton.1 hj
 exact wpOp_step ho fun K' hK => h K' (Lib.hid fun b u h1 h2 => hK b u ⟨h1, h2⟩)
def zbU (ops : Array Oper) (s0 i : Nat) : Bool := match ops[s0]? with | none => false | some o => o.after.any fun e => Region.binds .any e && e.on == i
theorem zb9 {i : Nat} (h : zbU ops s0 i = true) : ∃ o, ops[s0]? = some o ∧ ∃ e ∈ o.after, Region.binds .any e = true ∧ e.on = i := by
 unfold zbU at h
 split at h
 ·cases h
 ·rename_i o ho
  obtain ⟨e, he, h1⟩ := Array.any_eq_true'.1 h
  simp only [zex, beq_iff_eq] at h1
  exact ⟨o, ho, e, he, h1.1, h1.2⟩
/-- One for which the first write zbU is taken first. -/
theorem Till.early {i : Nat} {oi : Oper} {v : Value} (hi : ops[i]? = some oi) (hsel : ∀ (j : Nat) (o : Oper) cs b, ops[j]? = some o → o.op ≠ .select cs b)
  (hQ : ∀ c a w, Q (.panic c) (a.put oi.dst v) w → Q (.panic c) a w) (hwait : zbU ops s0 i = true) (hne : s0 ≠ i) :
  ∀ (n : Nat) (up : Array Bool) (a : Act) (w : World), (∀ j oj, ops[j]? = some oj → j ≠ i → up.getD j true = false → (∀ e ∈ oj.after, Region.binds .any e = true → e.on ≠ i) → oi.apart ops oj = true) →
   i ∈ Region.ready .any ops up → up.getD s0 true = false → YieldsIf P ops F oi v a → F w →
   Till P ops Q F s0 n (up.setIfInBounds i true) (a.put oi.dst v) w → Till P ops Q F s0 (n + 1) up a w
 | 0, up, a, w, _, hr, hs, hy, hF, H => by
  refine ⟨fun h => (by rw [h] at hr; cases hr), fun j hj => ?_⟩
  by_cases hji : j = i
  ·subst hji; exact hy.wpOp hi hF ⟨fun _ => hF, H⟩
  ·have := ready_mono hj hji
   rw [H.1] at this; cases this
 | n + 1, up, a, w, hfree, hr, hs, hy, hF, H => by
  refine ⟨fun h => (by rw [h] at hr; cases hr), fun j hj => ?_⟩
  by_cases hji : j = i
  ·subst hji; exact hy.wpOp hi hF ⟨fun _ => hF, H⟩
  obtain ⟨hjun, oj, hoj, hall⟩ := mem_ready.1 hj
  have hiun : up.getD i true = false := (mem_ready.1 hr).1
  have hnot : ∀ e ∈ oj.after, Region.binds .any e = true → e.on ≠ i := fun e he hb heq => by
   have h1 := hall e he hb
   rw [heq] at h1
   rcases Nat.lt_or_ge i up.size with h' | h'
   ·simp [h'] at hiun h1; rw [hiun] at h1; cases h1
   ·simp [Array.getElem?_eq_none h'] at h1
  have hjs : j ≠ s0 := by
   rintro rfl
   obtain ⟨o, ho, e, he, hb, hon⟩ := zb9 hwait
   obtain rfl : o = oj := Option.some.inj (ho.symm.trans hoj)
   exact hnot e he hb hon
  have hs' : (up.setIfInBounds j true).getD s0 true = false := by rw [getD_set_ne true hjs]; exact hs
  have hs'' : ((up.setIfInBounds i true).setIfInBounds j true).getD s0 true = false := by rw [getD_set_ne true hjs, getD_set_ne true (Ne.symm hne)]; exact hs
  refine wpOp_mono (fun b u k => ?_) (wpOp_putIf hoj (hfree j oj hoj hji hjun hnot) (fun cs b => hsel i oi cs b hi) (fun cs b => hsel j oj cs b hoj) hQ hy (H.2 j (ready_mono hj hji)))
  obtain ⟨k1, k2, k3⟩ := k
  have kF := k2 hs''
  refine ⟨fun _ => kF, Till.early hi hsel hQ hwait hne n _ b u (fun m om hm hmi hun hno => hfree m om hm hmi ?_ hno) (ready_mono hr (Ne.symm hji)) hs' k1 kF ?_⟩
  ·by_cases hjm : j = m
   ·subst hjm; exact hjun
   ·rwa [getD_set_ne true hjm] at hun
  ·rw [Array.setIfInBounds_comm _ _ hji]; exact k3
theorem Till.take {i : Nat} {oi : Oper} {v : Value} {n : Nat} {up : Array Bool} {a : Act} {w : World} (hi : ops[i]? = some oi) (hs : Region.noSelect ops = true) (hf : Region.free .any ops up i = true) (hr : (Region.ready .any ops up).contains i = true)
  (hQ : ∀ c a w, Q (.panic c) (a.put oi.dst v) w → Q (.panic c) a w) (hw : (zbU ops s0 i && (decide (s0 ≠ i) && !up.getD s0 true)) = true) (hy : YieldsIf P ops F oi v a) (hF : F w)
  (h : Till P ops Q F s0 n (up.setIfInBounds i true) (a.put oi.dst v) w) : Till P ops Q F s0 (n + 1) up a w := by
 simp only [zex, decide_eq_true_eq, Bool.not_eq_true'] at hw
 exact Till.early hi (Region.noSelect_spec hs) hQ hw.1 hw.2.1 n up a w (Region.free_spec hi hf) (by simpa using hr) hw.2.2 hy hF h
/-- One that yields whatever the world is. -/
theorem Till.freely {i : Nat} {oi : Oper} {v : Value} (hi : ops[i]? = some oi) (hsel : ∀ (j : Nat) (o : Oper) cs b, ops[j]? = some o → o.op ≠ .select cs b)
  (hQ : ∀ c a w, Q (.panic c) (a.put oi.dst v) w → Q (.panic c) a w) (hne : s0 ≠ i) :
  ∀ (n : Nat) (up : Array Bool) (a : Act) (w : World), (∀ j oj, ops[j]? = some oj → j ≠ i → up.getD j true = false → (∀ e ∈ oj.after, Region.binds .any e = true → e.on ≠ i) → oi.apart ops oj = true) →
   i ∈ Region.ready .any ops up → YieldsIf P ops (fun _ => True) oi v a → (up.getD s0 true = false → F w) →
   Till P ops Q F s0 n (up.setIfInBounds i true) (a.put oi.dst v) w → Till P ops Q F s0 (n + 1) up a w
 | 0, up, a, w, _, hr, hy, hF, H => by
  refine ⟨fun h => (by rw [h] at hr; cases hr), fun j hj => ?_⟩
  by_cases hji : j = i
  ·subst hji; exact hy.wpOp hi trivial ⟨fun h => hF (by rwa [getD_set_ne true (Ne.symm hne)] at h), H⟩
  ·have := ready_mono hj hji
   rw [H.1] at this; cases this
 | n + 1, up, a, w, hfree, hr, hy, hF, H => by
  refine ⟨fun h => (by rw [h] at hr; cases hr), fun j hj => ?_⟩
  by_cases hji : j = i
  ·subst hji; exact hy.wpOp hi trivial ⟨fun h => hF (by rwa [getD_set_ne true (Ne.symm hne)] at h), H⟩
  obtain ⟨hjun, oj, hoj, hall⟩ := mem_ready.1 hj
  have hiun : up.getD i true = false := (mem_ready.1 hr).1
  have hnot : ∀ e ∈ oj.after, Region.binds .any e = true → e.on ≠ i := fun e he hb heq => by
   have h1 := hall e he hb
   rw [heq] at h1
   rcases Nat.lt_or_ge i up.size with h' | h'
   ·simp [h'] at hiun h1; rw [hiun] at h1; cases h1
   ·simp [Array.getElem?_eq_none h'] at h1
  refine wpOp_mono (fun b u k => ?_) (wpOp_putIf hoj (hfree j oj hoj hji hjun hnot) (fun cs b => hsel i oi cs b hi) (fun cs b => hsel j oj cs b hoj) hQ hy (H.2 j (ready_mono hj hji)))
  obtain ⟨k1, k2, k3⟩ := k
  have kF : (up.setIfInBounds j true).getD s0 true = false → F u := fun h => k2 (by rw [Array.setIfInBounds_comm _ _ (Ne.symm hji), getD_set_ne true (Ne.symm hne)]; exact h)
  refine ⟨kF, Till.freely hi hsel hQ hne n _ b u (fun m om hm hmi hun hno => hfree m om hm hmi ?_ hno) (ready_mono hr (Ne.symm hji)) k1 kF ?_⟩
  ·by_cases hjm : j = m
   ·subst hjm; exact hjun
   ·rwa [getD_set_ne true hjm] at hun
  ·rw [Array.setIfInBounds_comm _ _ hji]; exact k3
theorem Till.free {i : Nat} {oi : Oper} {v : Value} {n : Nat} {up : Array Bool} {a : Act} {w : World} (hi : ops[i]? = some oi) (hs : Region.noSelect ops = true) (hf : Region.free .any ops up i = true) (hr : (Region.ready .any ops up).contains i = true)
  (hQ : ∀ c a w, Q (.panic c) (a.put oi.dst v) w → Q (.panic c) a w) (hw : decide (s0 ≠ i) = true) (hy : YieldsIf P ops (fun _ => True) oi v a) (hF : up.getD s0 true = false → F w)
  (h : Till P ops Q F s0 n (up.setIfInBounds i true) (a.put oi.dst v) w) : Till P ops Q F s0 (n + 1) up a w :=
 Till.freely hi (Region.noSelect_spec hs) hQ (of_decide_eq_true hw) n up a w (Region.free_spec hi hf) (by simpa using hr) hy hF h
end
end Go.Proofs.YtlefdhhnlbpbkaaGreat
end
namespace Go.Proofs.YtlefdhhnlbpbkaaGreat
open Go Go.RowKit
set_option linter.unusedVariables false
set_option linter.unusedSimpArgs false
set_option maxHeartbeats 1600000
/-- append of nothing, in the walk. -/
theorem zdn {P : Program} {t e : TypeId} {z : Value} {k bytes : Nat} (hT : SlTy P t e z k bytes) {w : World} {ops : Array Oper} {rest : List Oper} {o : Oper} {a : Act} {Q : Exit → Act → World → Prop} (hgd : o.guard = none) (s x : Operand)
  (ho : o.op = .call { callee := .builtin .append, args := #[s, x], argTypes := #[t, t] }) (base ao : Option Addr) (n c c' : Nat) (hle : n ≤ c) (hs : a.eval s = .slice base n c) (hx : a.eval x = .slice ao 0 c')
  (h : wpList P ops Q rest (a.put o.dst (.slice base n c)) w) : wpList P ops Q (o :: rest) a w := by
 obtain ⟨i, hi, hz, hsz, hb⟩ := info_parts hT.info
 have hsrc : Src P i.size t (.slice ao 0 c') 0 [] w := by
  cases ao with
  | none => exact Src.ofNil _ hT.und c'
  | some ad => exact Src.ofSlice _ hT.und ad 0 c' [] (by simp) (fun j u h => by simp at h) (by simp)
 have hr := run_append_nothing (P := P) w t t o.type e i hT.und hi base n c hle _ hsrc
 refine wpList_plain hgd fun K hK => ?_
 unfold Oper.wp execOp
 simp only [ho, resolve, invoke, builtin, Sem.run_bind, Sem.run_pure, Result.andThen_ok, List.map_toArray, List.map_cons, List.map_nil, hs, hx, hr]
 exact hK _ _ h
/-- append of a whole row, read, to a row of the call's own. -/
theorem zq {P : Program} {t e : TypeId} {z : Value} {k bytes : Nat} (hT : SlTy P t e z k bytes) {w : World} {ops : Array Oper} {rest : List Oper} {o : Oper} {a : Act} {Q : Exit → Act → World → Prop} (hgd : o.guard = none) (s x : Operand)
  (ho : o.op = .call { callee := .builtin .append, args := #[s, x], argTypes := #[t, t] })
  (base : Nat) (v : Value) (es : List (List CD)) (fp : List Nat) (hs : a.eval s = v) (hown : Own w base e k v es fp)
  (news : List (List CD)) (nv : Value) (nf : List Nat) (hx : a.eval x = nv) (hrd : Rd w (.sl news) nv nf) (hnk : ∀ x ∈ news, x.length = k) (hna : ∀ b ∈ nf, v.ownBlock ≠ some b)
  (hbytes : (es.length + news.length) * bytes ≤ 140737488355328) (hlen : es.length + news.length ≤ 140737488355328) (hbase : base ≤ w.heap.size)
  (h : ∀ v' w' nfp, (∀ b ∈ nfp, b ∈ nf) → Own w' base e k v' (es ++ news) (fp ++ nfp) → w.grownBy w' v.ownBlock → (∀ b, v'.ownBlock = some b → v.ownBlock = some b ∨ w.heap.size ≤ b) → SameOn (fp ++ nfp) w w' → wpList P ops Q rest (a.put o.dst v') w') : wpList P ops Q (o :: rest) a w := by
 obtain ⟨xa, xc, rfl, _, _⟩ := hrd.sl_form
 rcases Nat.eq_zero_or_pos news.length with hz | hne
 ·obtain rfl := List.eq_nil_of_length_eq_zero hz
  obtain ⟨va, vc, rfl, hv1, _⟩ := hown.form
  refine zdn hT hgd s x ho va xa es.length vc xc hv1 hs hx ?_
  exact h _ w [] (by simp) (by simpa using hown) (zQ _ _) (fun b hb => .inl hb) (SameOn.refl _ _)
 ·obtain ⟨b, off, f, rfl, hb, rfl, hr⟩ := hrd.addr hne
  obtain ⟨vs, hc, hvs⟩ := hr.flat
  exact zp hT hgd s x ho base v es fp hs hown ⟨b, off, none⟩ news.length xc news vs f hx rfl hvs hnk (fun j u hj => by simpa [Addr.add_lit] using hc j u hj) (fun y hy => hna y (by simp [hy])) hbytes hlen hbase
   (fun v' w' h1 h2 h3 h4 => h v' w' f (fun y hy => by simp [hy]) h1 h2 h3 h4)
theorem zcS : ∀ (xs : List Int), NoFp (xs.map zk).flatten
 | [] => fun w vs f h => by simp only [List.map_nil, List.flatten_nil, RdVs] at h; exact h.2
 | x :: xs => NoFp.append zdz (zcS xs)
end Go.Proofs.YtlefdhhnlbpbkaaGreat
section
namespace Go.Proofs.YtlefdhhnlbpbkaaGreat
open Go Go.RowKit
set_option linter.unusedVariables false
set_option linter.unusedSimpArgs false
set_option maxRecDepth 100000
set_option maxHeartbeats 16000000
theorem zd7 {P : Program} {t e : TypeId} {z : Value} {k bytes : Nat} (hT : SlTy P t e z k bytes) {w : World} {ops : Array Oper} {o : Oper} {a : Act} {K : Act → World → Prop} {Q : Exit → Act → World → Prop} {E : Prop} (hgd : o.guard = none) (s x : Operand)
  (ho : o.op = .call { callee := .builtin .append, args := #[s, x], argTypes := #[t, t] }) (base ao : Option Addr) (n c c' : Nat) (hle : n ≤ c) (hs : a.eval s = .slice base n c) (hx : a.eval x = .slice ao 0 c')
  (h : K (a.put o.dst (.slice base n c)) w) : if Region.wanted o (yielded ops a.tmps) = true then Oper.wp P o a w K Q else E := by
 have hw : Region.wanted o (yielded ops a.tmps) = true := by simp [Region.wanted, hgd]
 rw [if_pos hw]
 obtain ⟨i, hi, hz, hsz, hb⟩ := info_parts hT.info
 have hsrc : Src P i.size t (.slice ao 0 c') 0 [] w := by
  cases ao with
  | none => exact Src.ofNil _ hT.und c'
  | some ad => exact Src.ofSlice _ hT.und ad 0 c' [] (by simp) (fun j u h => by simp at h) (by simp)
 have hr := run_append_nothing (P := P) w t t o.type e i hT.und hi base n c hle _ hsrc
 unfold Oper.wp execOp
 simp only [ho, resolve, invoke, builtin, Sem.run_bind, Sem.run_pure, Result.andThen_ok, List.map_toArray, List.map_cons, List.map_nil, hs, hx, hr]
 exact h
theorem step_appW {P : Program} {t e : TypeId} {z : Value} {k bytes : Nat} (hT : SlTy P t e z k bytes) {w : World} {ops : Array Oper} {o : Oper} {a : Act} {K : Act → World → Prop} {Q : Exit → Act → World → Prop} {E : Prop} (hgd : o.guard = none) (s x : Operand)
  (ho : o.op = .call { callee := .builtin .append, args := #[s, x], argTypes := #[t, t] })
  (base : Nat) (v : Value) (es : List (List CD)) (fp : List Nat) (hs : a.eval s = v) (hown : Own w base e k v es fp)
  (news : List (List CD)) (nv : Value) (nf : List Nat) (hx : a.eval x = nv) (hrd : Rd w (.sl news) nv nf) (hnk : ∀ x ∈ news, x.length = k) (hna : ∀ b ∈ nf, v.ownBlock ≠ some b)
  (hbytes : (es.length + news.length) * bytes ≤ 140737488355328) (hlen : es.length + news.length ≤ 140737488355328) (hbase : base ≤ w.heap.size)
  (h : ∀ v' w' nfp, (∀ b ∈ nfp, b ∈ nf) → Own w' base e k v' (es ++ news) (fp ++ nfp) → w.grownBy w' v.ownBlock → (∀ b, v'.ownBlock = some b → v.ownBlock = some b ∨ w.heap.size ≤ b) → K (a.put o.dst v') w') : if Region.wanted o (yielded ops a.tmps) = true then Oper.wp P o a w K Q else E := by
 obtain ⟨xa, xc, rfl, _, _⟩ := hrd.sl_form
 rcases Nat.eq_zero_or_pos news.length with hz | hne
 ·obtain rfl := List.eq_nil_of_length_eq_zero hz
  obtain ⟨va, vc, rfl, hv1, _⟩ := hown.form
  refine zd7 hT hgd s x ho va xa es.length vc xc hv1 hs hx ?_
  exact h _ w [] (by simp) (by simpa using hown) (zQ _ _) (fun b hb => .inl hb)
 ·obtain ⟨b, off, f, rfl, hb, rfl, hr⟩ := hrd.addr hne
  obtain ⟨vs, hc, hvs⟩ := hr.flat
  exact zN hT hgd s x ho base v es fp hs hown ⟨b, off, none⟩ news.length xc news vs f hx rfl hvs hnk (fun j u hj => by simpa [Addr.add_lit] using hc j u hj) (fun y hy => hna y (by simp [hy])) hbytes hlen hbase
   (fun v' w' h1 h2 h3 h4 => h v' w' f (fun y hy => by simp [hy]) h1 h2 h3)
theorem Tm.zero_rd (w : World) : RdVs w (Tm.mk ⟨#[]⟩ []).cd [.string ⟨#[]⟩, .slice none 0 0] [] := Tm.rdvs (t := .mk ⟨#[]⟩ []) (by decide) (by simp only [Tm.kids, List.map_nil, Rd]; exact ⟨none, 0, rfl, by simp, by simp [maxLen], by simp⟩)
theorem RdRows.take {w : World} {b : Nat} : ∀ {es : List (List CD)} {off : Nat} {fp : List Nat}, RdRows w b off es fp → ∀ i, ∃ fq, RdRows w b off (es.take i) fq ∧ ∀ x ∈ fq, x ∈ fp
 | [], off, fp, h, i => ⟨fp, by simpa using h, fun x hx => hx⟩
 | e :: es, off, fp, h, 0 => ⟨[], by simp [RdRows], by simp⟩
 | e :: es, off, fp, h, i + 1 => by
  simp only [RdRows] at h
  obtain ⟨vs, f1, f2, rfl, hc, hv, hr⟩ := h
  obtain ⟨fq, h1, h2⟩ := hr.take i
  refine ⟨f1 ++ fq, by rw [List.take_succ_cons]; simp only [RdRows]; exact ⟨vs, f1, fq, rfl, hc, hv, h1⟩, fun x hx => ?_⟩
  rcases zer.1 hx with hx | hx
  ·exact List.mem_append_left _ hx
  ·exact List.mem_append_right _ (h2 x hx)
/-- What is sliced off at the end. -/
theorem Rd.take {w : World} {es : List (List CD)} {a : Option Addr} {n c : Nat} {fp : List Nat} (h : Rd w (.sl es) (.slice a n c) fp) {i : Nat} (hi : i ≤ es.length) : ∃ fq, Rd w (.sl (es.take i)) (.slice a i c) fq ∧ ∀ x ∈ fq, x ∈ fp := by
 simp only [Rd] at h ⊢
 obtain ⟨a', c', e, h2, h3, h4⟩ := h
 simp only [Value.slice.injEq] at e
 obtain ⟨rfl, rfl, rfl⟩ := e
 have hl : (es.take i).length = i := by rw [List.length_take]; omega
 by_cases h0 : i = 0
 ·subst h0
  exact ⟨[], ⟨a, c, by simp, by simp, h3, .inl ⟨by simp, rfl⟩⟩, by simp⟩
 ·rcases h4 with ⟨rfl, _⟩ | ⟨hne, b, off, f, rfl, hb, rfl, hr⟩
  ·simp at hi; omega
  ·obtain ⟨fq, h5, h6⟩ := hr.take i
   refine ⟨b :: fq, ⟨_, c, by rw [hl], by rw [hl]; omega, h3, .inr ⟨?_, b, off, fq, rfl, hb, rfl, h5⟩⟩, fun x hx => ?_⟩
   ·intro e; rw [e] at hl; simp at hl; omega
   ·rcases zev.1 hx with rfl | hx
    ·simp
    ·exact List.mem_cons_of_mem _ (h6 x hx)
theorem TmsR.take {w : World} {ts : List Tm} {a : Option Addr} {n c : Nat} (h : TmsR w ts (.slice a n c)) {i : Nat} (hi : i ≤ ts.length) : TmsR w (ts.take i) (.slice a i c) := by
 obtain ⟨fp, h⟩ := h
 obtain ⟨fq, h1, _⟩ := h.take (i := i) (by simpa using hi)
 rw [← List.map_take] at h1
 exact ⟨fq, h1⟩
end Go.Proofs.YtlefdhhnlbpbkaaGreat
end
