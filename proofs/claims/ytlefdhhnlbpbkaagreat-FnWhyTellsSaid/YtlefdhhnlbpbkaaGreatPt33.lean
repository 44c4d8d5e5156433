/- Parts of the proof: Own StepA CloP CloN CloM Rdr6 LawTm SmP SmK RdrB. -/
import Derived.Deep.Upon
import Derived.Lib.BufferMore
import Derived.Test.YtlefdhhnlbpbkaaGreatPt6
import Derived.Test.YtlefdhhnlbpbkaaGreatPt10
import Derived.Test.YtlefdhhnlbpbkaaGreatPt32
import Derived.Test.YtlefdhhnlbpbkaaGreatPt13
import Derived.Test.YtlefdhhnlbpbkaaGreatPt14
import Derived.Deep.RegionHeld3
import Derived.BigQuiet
import Derived.Test.YtlefdhhnlbpbkaaGreatPt16
import Derived.Test.YtlefdhhnlbpbkaaGreatPt31
namespace Go.Proofs.YtlefdhhnlbpbkaaGreat
open Go Go.RowKit
set_option linter.unusedVariables false
set_option linter.unusedSimpArgs false
set_option maxHeartbeats 1600000
/-- append of nothing, in the walk. -/
theorem zdw {P : Program} {t e : TypeId} {z : Value} {k bytes : Nat} (hT : SlTy P t e z k bytes) {w : World} {ops : Array Oper} {rest : List Oper} {o : Oper} {a : Act} {Q : Exit → Act → World → Prop} (hgd : o.guard = none) (s x : Operand)
  (ho : o.op = .call { callee := .builtin .append, args := #[s, x], argTypes := #[t, t] }) (base ao : Option Addr) (n c c' : Nat) (hle : n ≤ c) (hs : a.eval s = .slice base n c) (hx : a.eval x = .slice ao 0 c')
  (h : wpList P ops Q rest (a.put o.dst (.slice base n c)) w) : wpList P ops Q (o :: rest) a w := by
 obtain ⟨i, hi, hz, hsz, hb⟩ := info_parts hT.info
 have hsrc : Src P i.size t (.slice ao 0 c') 0 [] w := by
  cases ao with
  | none => exact Src.ofNil _ hT.und c'
  | some ad => exact Src.ofSlice _ hT.und ad 0 c' [] (by simp) (fun j u h => by simp at h) (by simp)
 have hr := run_append_nothing (P := P) w t t o.type e i hT.und hi base n c hle _ hsrc
 refine wpList_plain hgd fun K hK => ?_
 unfold Oper.wp execOp
 simp only [ho, resolve, invoke, builtin, Sem.run_bind, Sem.run_pure, Result.andThen_ok, List.map_toArray, List.map_cons, List.map_nil, hs, hx, hr]
 exact hK _ _ h
/-- append of a whole row, read, to a row of the call's own. -/
theorem zJ {P : Program} {t e : TypeId} {z : Value} {k bytes : Nat} (hT : SlTy P t e z k bytes) {w : World} {ops : Array Oper} {rest : List Oper} {o : Oper} {a : Act} {Q : Exit → Act → World → Prop} (hgd : o.guard = none) (s x : Operand)
  (ho : o.op = .call { callee := .builtin .append, args := #[s, x], argTypes := #[t, t] })
  (base : Nat) (v : Value) (es : List (List CD)) (fp : List Nat) (hs : a.eval s = v) (hown : Own w base e k v es fp)
  (news : List (List CD)) (nv : Value) (nf : List Nat) (hx : a.eval x = nv) (hrd : Rd w (.sl news) nv nf) (hnk : ∀ x ∈ news, x.length = k) (hna : ∀ b ∈ nf, v.ownBlock ≠ some b)
  (hbytes : (es.length + news.length) * bytes ≤ 140737488355328) (hlen : es.length + news.length ≤ 140737488355328) (hbase : base ≤ w.heap.size)
  (h : ∀ v' w' nfp, (∀ b ∈ nfp, b ∈ nf) → Own w' base e k v' (es ++ news) (fp ++ nfp) → w.grownBy w' v.ownBlock → (∀ b, v'.ownBlock = some b → v.ownBlock = some b ∨ w.heap.size ≤ b) → SameOn (fp ++ nfp) w w' → wpList P ops Q rest (a.put o.dst v') w') : wpList P ops Q (o :: rest) a w := by
 obtain ⟨xa, xc, rfl, _, _⟩ := hrd.sl_form
 rcases Nat.eq_zero_or_pos news.length with hz | hne
 ·obtain rfl := List.eq_nil_of_length_eq_zero hz
  obtain ⟨va, vc, rfl, hv1, _⟩ := hown.form
  refine zdw hT hgd s x ho va xa es.length vc xc hv1 hs hx ?_
  exact h _ w [] (by simp) (by simpa using hown) (zV _ _) (fun b hb => .inl hb) (SameOn.refl _ _)
 ·obtain ⟨b, off, f, rfl, hb, rfl, hr⟩ := hrd.addr hne
  obtain ⟨vs, hc, hvs⟩ := hr.flat
  exact zp hT hgd s x ho base v es fp hs hown ⟨b, off, none⟩ news.length xc news vs f hx rfl hvs hnk (fun j u hj => by simpa [Addr.add_lit] using hc j u hj) (fun y hy => hna y (by simp [hy])) hbytes hlen hbase
   (fun v' w' h1 h2 h3 h4 => h v' w' f (fun y hy => by simp [hy]) h1 h2 h3 h4)
theorem zcZ : ∀ (xs : List Int), NoFp (xs.map zv).flatten
 | [] => fun w vs f h => by simp only [List.map_nil, List.flatten_nil, RdVs] at h; exact h.2
 | x :: xs => NoFp.append nofp_int (zcZ xs)
end Go.Proofs.YtlefdhhnlbpbkaaGreat
section
namespace Go.Proofs.YtlefdhhnlbpbkaaGreat
open Go Go.RowKit
set_option linter.unusedVariables false
set_option linter.unusedSimpArgs false
set_option maxRecDepth 100000
set_option maxHeartbeats 16000000
theorem zed {P : Program} {t e : TypeId} {z : Value} {k bytes : Nat} (hT : SlTy P t e z k bytes) {w : World} {ops : Array Oper} {o : Oper} {a : Act} {K : Act → World → Prop} {Q : Exit → Act → World → Prop} {E : Prop} (hgd : o.guard = none) (s x : Operand)
  (ho : o.op = .call { callee := .builtin .append, args := #[s, x], argTypes := #[t, t] }) (base ao : Option Addr) (n c c' : Nat) (hle : n ≤ c) (hs : a.eval s = .slice base n c) (hx : a.eval x = .slice ao 0 c')
  (h : K (a.put o.dst (.slice base n c)) w) : if Region.wanted o (yielded ops a.tmps) = true then Oper.wp P o a w K Q else E := by
 have hw : Region.wanted o (yielded ops a.tmps) = true := by simp [Region.wanted, hgd]
 rw [if_pos hw]
 obtain ⟨i, hi, hz, hsz, hb⟩ := info_parts hT.info
 have hsrc : Src P i.size t (.slice ao 0 c') 0 [] w := by
  cases ao with
  | none => exact Src.ofNil _ hT.und c'
  | some ad => exact Src.ofSlice _ hT.und ad 0 c' [] (by simp) (fun j u h => by simp at h) (by simp)
 have hr := run_append_nothing (P := P) w t t o.type e i hT.und hi base n c hle _ hsrc
 unfold Oper.wp execOp
 simp only [ho, resolve, invoke, builtin, Sem.run_bind, Sem.run_pure, Result.andThen_ok, List.map_toArray, List.map_cons, List.map_nil, hs, hx, hr]
 exact h
theorem step_appW {P : Program} {t e : TypeId} {z : Value} {k bytes : Nat} (hT : SlTy P t e z k bytes) {w : World} {ops : Array Oper} {o : Oper} {a : Act} {K : Act → World → Prop} {Q : Exit → Act → World → Prop} {E : Prop} (hgd : o.guard = none) (s x : Operand)
  (ho : o.op = .call { callee := .builtin .append, args := #[s, x], argTypes := #[t, t] })
  (base : Nat) (v : Value) (es : List (List CD)) (fp : List Nat) (hs : a.eval s = v) (hown : Own w base e k v es fp)
  (news : List (List CD)) (nv : Value) (nf : List Nat) (hx : a.eval x = nv) (hrd : Rd w (.sl news) nv nf) (hnk : ∀ x ∈ news, x.length = k) (hna : ∀ b ∈ nf, v.ownBlock ≠ some b)
  (hbytes : (es.length + news.length) * bytes ≤ 140737488355328) (hlen : es.length + news.length ≤ 140737488355328) (hbase : base ≤ w.heap.size)
  (h : ∀ v' w' nfp, (∀ b ∈ nfp, b ∈ nf) → Own w' base e k v' (es ++ news) (fp ++ nfp) → w.grownBy w' v.ownBlock → (∀ b, v'.ownBlock = some b → v.ownBlock = some b ∨ w.heap.size ≤ b) → K (a.put o.dst v') w') : if Region.wanted o (yielded ops a.tmps) = true then Oper.wp P o a w K Q else E := by
 obtain ⟨xa, xc, rfl, _, _⟩ := hrd.sl_form
 rcases Nat.eq_zero_or_pos news.length with hz | hne
 ·obtain rfl := List.eq_nil_of_length_eq_zero hz
  obtain ⟨va, vc, rfl, hv1, _⟩ := hown.form
  refine zed hT hgd s x ho va xa es.length vc xc hv1 hs hx ?_
  exact h _ w [] (by simp) (by simpa using hown) (zV _ _) (fun b hb => .inl hb)
 ·obtain ⟨b, off, f, rfl, hb, rfl, hr⟩ := hrd.addr hne
  obtain ⟨vs, hc, hvs⟩ := hr.flat
  exact zL hT hgd s x ho base v es fp hs hown ⟨b, off, none⟩ news.length xc news vs f hx rfl hvs hnk (fun j u hj => by simpa [Addr.add_lit] using hc j u hj) (fun y hy => hna y (by simp [hy])) hbytes hlen hbase
   (fun v' w' h1 h2 h3 h4 => h v' w' f (fun y hy => by simp [hy]) h1 h2 h3)
namespace Clo
theorem join_one {n : Nat} {c : List Nat} (h : Good n c) {a b i j : Nat} (hi' : i < n) (hj : j < n) (he : One (join c a b) i j) : One c i j ∨ (One c i a ∧ One c b j) ∨ (One c i b ∧ One c a j) := by
 unfold One at he ⊢
 rw [zar (by rw [h.1]; exact hi'), zar (by rw [h.1]; exact hj)] at he
 unfold hi lo at he
 rcases Nat.le_total (cl c a) (cl c b) with h1 | h1
 ·rw [Nat.max_eq_right h1, Nat.min_eq_left h1] at he
  by_cases h2 : cl c i = cl c b
  ·by_cases h3 : cl c j = cl c b
   ·exact .inl (h2.trans h3.symm)
   ·rw [if_pos h2, if_neg h3] at he
    exact .inr (.inr ⟨h2, he⟩)
  ·by_cases h3 : cl c j = cl c b
   ·rw [if_neg h2, if_pos h3] at he
    exact .inr (.inl ⟨he, h3.symm⟩)
   ·rw [if_neg h2, if_neg h3] at he
    exact .inl he
 ·rw [Nat.max_eq_left h1, Nat.min_eq_right h1] at he
  by_cases h2 : cl c i = cl c a
  ·by_cases h3 : cl c j = cl c a
   ·exact .inl (h2.trans h3.symm)
   ·rw [if_pos h2, if_neg h3] at he
    exact .inr (.inl ⟨h2, he⟩)
  ·by_cases h3 : cl c j = cl c a
   ·rw [if_neg h2, if_pos h3] at he
    exact .inr (.inr ⟨he, h3.symm⟩)
   ·rw [if_neg h2, if_neg h3] at he
    exact .inl he
/-- A congruence on parts. -/
structure Cong (ps : List Tm) (R : Tm → Tm → Prop) : Prop where
 rfl' : ∀ t ∈ ps, R t t
 symm : ∀ t u, R t u → R u t
 trans : ∀ t u v, R t u → R u v → R t v
 cong : ∀ t ∈ ps, ∀ u ∈ ps, t.name = u.name → 0 < t.kids.length → t.kids.length = u.kids.length → (∀ j (h1 : j < t.kids.length) (h2 : j < u.kids.length), R t.kids[j] u.kids[j]) → R t u
/-- What is joined is R. -/
def Under (ps : List Tm) (R : Tm → Tm → Prop) (c : List Nat) : Prop := ∀ i j (hi : i < ps.length) (hj : j < ps.length), One c i j → R ps[i] ps[j]
theorem kidsB_true {ps : List Tm} {c : List Nat} : ∀ {xs ys : List Tm}, kidsB ps c xs ys = true → xs.length = ys.length ∧ ∀ j (h1 : j < xs.length) (h2 : j < ys.length), One c (Tm.pos ps xs[j]) (Tm.pos ps ys[j])
 | [], [], _ => ⟨rfl, fun j h1 => by simp at h1⟩
 | [], _ :: _, h => by simp [kidsB] at h
 | _ :: _, [], h => by simp [kidsB] at h
 | x :: xs, y :: ys, h => by
  simp only [kidsB, zeO, beq_iff_eq] at h
  obtain ⟨h1, h2⟩ := kidsB_true h.2
  refine ⟨by simp [h1], fun j h3 h4 => ?_⟩
  cases j with
  | zero => simpa [One] using h.1
  | succ j => simpa using h2 j (by simpa using h3) (by simpa using h4)
theorem zcD {ps : List Tm} {t : Tm} (h : t ∈ ps) : ∃ hp : Tm.pos ps t < ps.length, ps[Tm.pos ps t] = t := by
 obtain ⟨h1, h2⟩ := Tm.pos_yes h
 exact ⟨h1, by rw [List.getElem?_eq_getElem h1] at h2; exact Option.some.inj h2⟩
theorem Under.at {ps : List Tm} {R : Tm → Tm → Prop} {c : List Nat} (h : Under ps R c) {t u : Tm} (ht : t ∈ ps) (hu : u ∈ ps) (ho : One c (Tm.pos ps t) (Tm.pos ps u)) : R t u := by
 obtain ⟨p1, e1⟩ := zcD ht
 obtain ⟨p2, e2⟩ := zcD hu
 have := h _ _ p1 p2 ho
 rwa [e1, e2] at this
theorem Under.join {ps : List Tm} {R : Tm → Tm → Prop} {c : List Nat} (h : Under ps R c) (hR : Cong ps R) (hg : Good ps.length c) {a b : Nat} (ha : a < ps.length) (hb : b < ps.length) (hab : R ps[a] ps[b]) : Under ps R (Clo.join c a b) := by
 intro i j hi hj he
 rcases join_one hg hi hj he with h1 | ⟨h1, h2⟩ | ⟨h1, h2⟩
 ·exact h i j hi hj h1
 ·exact hR.trans _ _ _ (h i a hi ha h1) (hR.trans _ _ _ hab (h b j hb hj h2))
 ·exact hR.trans _ _ _ (h i b hi hb h1) (hR.trans _ _ _ (hR.symm _ _ hab) (h a j ha hj h2))
end Clo
theorem Clo.least {n : Nat} {c : List Nat} (h : Clo.Good n c) {i j : Nat} (hi : i < n) (hj : j < n) (ho : Clo.One c i j) : Clo.cl c i ≤ j := by
 unfold Clo.One at ho; rw [ho]; exact (h.2 j hj).1
theorem Tm.zero_rd (w : World) : RdVs w (Tm.mk ⟨#[]⟩ []).cd [.string ⟨#[]⟩, .slice none 0 0] [] := Tm.rdvs (t := .mk ⟨#[]⟩ []) (by decide) (by simp only [Tm.kids, List.map_nil, Rd]; exact ⟨none, 0, rfl, by simp, by simp [maxLen], by simp⟩)
theorem RdRows.take {w : World} {b : Nat} : ∀ {es : List (List CD)} {off : Nat} {fp : List Nat}, RdRows w b off es fp → ∀ i, ∃ fq, RdRows w b off (es.take i) fq ∧ ∀ x ∈ fq, x ∈ fp
 | [], off, fp, h, i => ⟨fp, by simpa using h, fun x hx => hx⟩
 | e :: es, off, fp, h, 0 => ⟨[], by simp [RdRows], by simp⟩
 | e :: es, off, fp, h, i + 1 => by
  simp only [RdRows] at h
  obtain ⟨vs, f1, f2, rfl, hc, hv, hr⟩ := h
  obtain ⟨fq, h1, h2⟩ := hr.take i
  refine ⟨f1 ++ fq, by rw [List.take_succ_cons]; simp only [RdRows]; exact ⟨vs, f1, fq, rfl, hc, hv, h1⟩, fun x hx => ?_⟩
  rcases zeI.1 hx with hx | hx
  ·exact List.mem_append_left _ hx
  ·exact List.mem_append_right _ (h2 x hx)
/-- What is sliced off at the end. -/
theorem Rd.take {w : World} {es : List (List CD)} {a : Option Addr} {n c : Nat} {fp : List Nat} (h : Rd w (.sl es) (.slice a n c) fp) {i : Nat} (hi : i ≤ es.length) : ∃ fq, Rd w (.sl (es.take i)) (.slice a i c) fq ∧ ∀ x ∈ fq, x ∈ fp := by
 simp only [Rd] at h ⊢
 obtain ⟨a', c', e, h2, h3, h4⟩ := h
 simp only [Value.slice.injEq] at e
 obtain ⟨rfl, rfl, rfl⟩ := e
 have hl : (es.take i).length = i := by rw [List.length_take]; omega
 by_cases h0 : i = 0
 ·subst h0
  exact ⟨[], ⟨a, c, by simp, by simp, h3, .inl ⟨by simp, rfl⟩⟩, by simp⟩
 ·rcases h4 with ⟨rfl, _⟩ | ⟨hne, b, off, f, rfl, hb, rfl, hr⟩
  ·simp at hi; omega
  ·obtain ⟨fq, h5, h6⟩ := hr.take i
   refine ⟨b :: fq, ⟨_, c, by rw [hl], by rw [hl]; omega, h3, .inr ⟨?_, b, off, fq, rfl, hb, rfl, h5⟩⟩, fun x hx => ?_⟩
   ·intro e; rw [e] at hl; simp at hl; omega
   ·rcases zeM.1 hx with rfl | hx
    ·simp
    ·exact List.mem_cons_of_mem _ (h6 x hx)
theorem TmsR.take {w : World} {ts : List Tm} {a : Option Addr} {n c : Nat} (h : TmsR w ts (.slice a n c)) {i : Nat} (hi : i ≤ ts.length) : TmsR w (ts.take i) (.slice a i c) := by
 obtain ⟨fp, h⟩ := h
 obtain ⟨fq, h1, _⟩ := h.take (i := i) (by simpa using hi)
 rw [← List.map_take] at h1
 exact ⟨fq, h1⟩
namespace Clo
theorem kidsB_symm {ps : List Tm} {c : List Nat} : ∀ {xs ys : List Tm}, kidsB ps c xs ys = true → kidsB ps c ys xs = true
 | [], [], _ => rfl
 | [], _ :: _, h => by simp [kidsB] at h
 | _ :: _, [], h => by simp [kidsB] at h
 | x :: xs, y :: ys, h => by
  simp only [kidsB, zeO, beq_iff_eq] at h ⊢
  exact ⟨h.1.symm, kidsB_symm h.2⟩
/-- What the classes of the closure answer to. -/
structure Ok (ps : List Tm) (es : List Eqn) (c : List Nat) : Prop where
 ord : Tm.Ord ps
 len : c.length = ps.length
 low : ∀ i, i < ps.length → cl c i ≤ i ∧ cl c (cl c i) = cl c i
 alike : ∀ k i (hk : k < i) (hi : i < ps.length), ps[i].name = (ps[k]'(by omega)).name → kidsB ps c ps[i].kids (ps[k]'(by omega)).kids = true → cl c i = cl c k
 given : ∀ e ∈ es, (e.a ∈ ps ∧ e.b ∈ ps) ∧ cl c (Tm.pos ps e.a) = cl c (Tm.pos ps e.b)
end Clo
theorem Tm.eq_of {t u : Tm} (h1 : t.name = u.name) (h2 : t.kids = u.kids) : t = u := by
 cases t; cases u; simp only [Tm.name, Tm.kids] at h1 h2; rw [h1, h2]
theorem cloC_ok (es : List Eqn) (ms : List Tm) : Clo.Ok (zq es ms) es (cloC es ms) := by
 have ho := zaw es ms
 obtain ⟨h1, h2, h3⟩ := Clo.close_made (zab es ms)
 refine ⟨ho, h1.good.1, h1.good.2, fun k i hk hi hn hkids => ?_, fun e he => ⟨zab es ms e he, h2 e he⟩⟩
 have hlt : k < (zq es ms).length := by omega
 by_cases h0 : 0 < ((zq es ms)[k]).kids.length
 ·exact (Clo.none_alike h3 hk hi (by unfold Clo.alikeB; rw [decide_eq_true hn.symm, decide_eq_true h0]; exact Clo.kidsB_symm hkids)).symm
 ·have hl := (Clo.kidsB_true hkids).1
  have e1 : ((zq es ms)[k]).kids = [] := List.eq_nil_of_length_eq_zero (by omega)
  have e2 : ((zq es ms)[i]).kids = [] := List.eq_nil_of_length_eq_zero (by omega)
  have he : (zq es ms)[i] = (zq es ms)[k] := Tm.eq_of hn (e2.trans e1.symm)
  have := (List.getElem_inj (Tm.Ord.nodup ho)).1 he
  omega
/-- How many parts are no first ones. -/
def za8 (c : List Nat) (k : Nat) : Nat := (List.range k).countP fun i => Clo.cl c i != i
theorem zdB (c : List Nat) (k : Nat) : za8 c k ≤ k := by unfold za8; have := List.countP_le_length (p := fun i => Clo.cl c i != i) (l := List.range k); rw [List.length_range] at this; exact this
theorem cloS_ok (es : List Eqn) (ms : List Tm) : za8 (cloC es ms) (zq es ms).length = (cloS es ms).length ∧
  ∀ x ∈ cloS es ms, ∃ a b : Nat, x.a = a ∧ x.b = b ∧ a ≠ b ∧ a < (zq es ms).length ∧ b < (zq es ms).length ∧ Clo.cl (cloC es ms) a = Clo.cl (cloC es ms) b := by
 obtain ⟨h1, h2, h3⟩ := Clo.close_made (zab es ms)
 refine ⟨?_, h1.step⟩
 have hc := h1.count
 have hl := List.length_eq_countP_add_countP (fun i => Clo.cl (cloC es ms) i == i) (l := List.range (zq es ms).length)
 rw [List.length_range] at hl
 have he : za8 (cloC es ms) (zq es ms).length = (List.range (zq es ms).length).countP (fun a => decide ¬(Clo.cl (cloC es ms) a == a) = true) := by
  unfold za8
  congr 1
  funext i
  cases h : (Clo.cl (cloC es ms) i == i) <;> simp [bne, h]
 have hr : Clo.roots (zq es ms).length (cloC es ms) = (List.range (zq es ms).length).countP (fun i => Clo.cl (cloC es ms) i == i) := rfl
 change Clo.roots (zq es ms).length (cloC es ms) + (cloS es ms).length = _ at hc
 omega
theorem nats_at {c : List Nat} {k : Nat} (h : k < (nats c).length) : (nats c)[k] = ((Clo.cl c k : Nat) : Int) := by
 have h' : k < c.length := by simpa [nats] using h
 simp only [nats, List.getElem_map, Clo.cl, List.getD_eq_getElem?_getD, List.getElem?_eq_getElem h', Option.getD_some]
theorem len_of_eq {a b : Nat} (h : a = b) : ((a : Int) == (b : Int)) = true := by rw [h]; simp
/-- Up to k the kids are in one class each. -/
def KidsTo (ps : List Tm) (c : List Nat) (xs ys : List Tm) (k : Nat) : Prop := ∀ j, j < k → ∀ (h1 : j < xs.length) (h2 : j < ys.length), Clo.cl c (Tm.pos ps xs[j]) = Clo.cl c (Tm.pos ps ys[j])
theorem KidsTo.succ {ps : List Tm} {c : List Nat} {xs ys : List Tm} {k : Nat} (h : KidsTo ps c xs ys k) (hk1 : k < xs.length) (hk2 : k < ys.length) (he : Clo.cl c (Tm.pos ps xs[k]) = Clo.cl c (Tm.pos ps ys[k])) : KidsTo ps c xs ys (k + 1) := fun j hj h1 h2 => by
 rcases Nat.lt_or_ge j k with h3 | h3
 ·exact h j h3 h1 h2
 ·obtain rfl : j = k := by omega
  exact he
theorem Only.grownIn {fp : List Nat} {a w w' : World} {r : Option Nat} (h : Only fp a w) (hg : w.grownBy w' r) (hr : ∀ b, r = some b → b ∈ fp ∨ a.heap.size ≤ b) : Only fp a w' :=
 ⟨hg.os.trans h.os, hg.tape.trans h.tape, hg.output.trans h.output, Nat.le_trans h.size hg.size, fun b hb hn => (hg.block b (zeG hb h.size) (fun e => by rcases hr b e.symm with h1 | h1; exact hn h1; omega)).trans (h.block b hb hn)⟩
theorem Only.wide {fp gp : List Nat} {a w : World} (h : Only fp a w) (hs : ∀ b ∈ fp, b ∈ gp) : Only gp a w := ⟨h.os, h.tape, h.output, h.size, fun b hb hn => h.block b hb (fun h1 => hn (hs b h1))⟩
/-- Equations, bent or not: few, small. -/
def BentEqs (B : Nat) (e : Ending) (w' : World) : Prop := ∃ (es : List Eqn) (v : Value) (fp : List Nat), es.length ≤ 13 ∧ (∀ q ∈ es, q.a.size ≤ 45 ∧ q.b.size ≤ 45) ∧ e = .returned v ∧ Rd w' (.sl (es.map Eqn.cd)) v fp ∧ ∀ b ∈ fp, B ≤ b
theorem zbx {w : World} {B : Nat} {v : Value} {es : List Eqn} {fp : List Nat} (h1 : es.length ≤ 13) (h2 : ∀ q ∈ es, q.a.size ≤ 45 ∧ q.b.size ≤ 45) (h : Own w B 36 4 v (es.map Eqn.cd) fp) (hf : ∀ b ∈ fp, B ≤ b) : BentEqs B (.returned v) w := by
 obtain ⟨f', hrw, hff⟩ := h.rd
 refine ⟨es, v, f', h1, h2, rfl, hrw, fun b hb => ?_⟩
 rcases hff with ⟨_, _, rfl⟩ | ⟨b', _, hvb, rfl, _, hBb, _⟩
 ·simp at hb
 ·rcases zeM.1 hb with rfl | hb
  ·exact hBb
  ·exact hf b hb
theorem zem (s : Sg) (es : List Eqn) (vs : List Value) (sf : List Nat) (v : Value) (fp : List Nat) (B rb p g : Nat) (w : World) (hp : p + 100 ≤ 1000000000) (hfew : s.few) (hlen : es.length ≤ 5) (hsz : ∀ q ∈ es, q.a.size ≤ 45 ∧ q.b.size ≤ 45) (hrd : RdVs w s.cd vs sf) (hnr : rb ∉ sf) (hr : Rdr w rb p) (hrb : rb < B) (hB : B ≤ w.heap.size)
  (hown : Own w B 36 4 v (es.map Eqn.cd) fp) (hfp : ∀ b ∈ fp, B ≤ b) (hg : ∀ b, v.ownBlock = some b → b = g) :
  Calls Tryz.prog 73 #[.pointer (some ⟨rb, 0, none⟩), .agg vs.toArray, v] w fun e w' => BentEqs B e w' ∧ Rdr w' rb (p + 60) ∧ Only [rb, g] w w' := by
 obtain ⟨a0, c0, f0, rfl, rfl, m0⟩ := Sg.open hrd
 have hlt := hr.lt
 have HSZ := Lib.hid hsz
 have HFP := Lib.hid hfp
 clear hsz hfp
 obtain ⟨oa, oc, rfl, ho1, ho2⟩ := hown.form
 rw [zeN] at ho1
 have b0 := zb w (.cells #[.slice a0 s.syms.length c0] 25)
 have x0 : (w.alloc (.cells #[.slice a0 s.syms.length c0] 25)).cell? ⟨w.heap.size, 0, none⟩ = some (.slice a0 s.syms.length c0) := zt w _ _ 0
 go_enter Tryz.func73, Tryz.ntmps73
 go_wp2_with fail
 refine (zN rb p 36 _ (by omega) (by omega) (by omega) (hr.below b0)).mono ?_
 rintro e w1 ⟨⟨m, hm, rfl⟩, hr1, ho1'⟩
 have hN1 : Only [rb] w w1 := (Only.below b0).trans ho1'
 have hz1 := hN1.size
 have x1 := ho1'.cellk x0 (by omega)
 have hown1 := hown.only hN1 hrb (fun h => by have := HFP.out _ h; omega)
 have hrow : ∀ q, (Value.slice oa (es.map Eqn.cd).length oc).ownBlock = some q → q = g ∧ B ≤ q ∧ q < w.heap.size := fun q hq => ⟨hg q hq, hown.block hq⟩
 have hrd1 := hrd.only hN1 hnr
 clear x0 b0 ho1' hown hrd hr
 have hl1 := hr1.lt
 rw [zeN] at hown1 hrow
 rw [zeN]
 by_cases hm0 : m = 0
 ·subst hm0
  have hsw := World.block_lt_of_cell? _ _ x1
  go_wp2_with fail
  go_region_held3 (fun U => U.cell? ⟨w.heap.size, 0, none⟩ = some (.slice a0 s.syms.length c0))
   (first | exact x1 | exact h2N.cellk x1 (by omega) | exact h3N.cellk x1 (by omega) | exact zA (h3N.cellk x1 (by omega)) | exact zr hg5 (zA (h3N.cellk x1 (by omega))) (fun e => by have := hrow _ e; omega))
   (first
    | (go_at_call 103; (with_reducible refine (zaN s _ _ rb (p + 1) _ (by omega) hfew ?_ hnr ?_).mono ?_); exact hrd1.below (zj _); exact hr1.below (zj _); rintro e w2 ⟨⟨t1, kv1, fo1, hs1, rfl, hnm1, hown2, hfo1⟩, hr2, ho2'⟩; obtain ⟨ka, kc, hkv, hk1, hk2⟩ := hown2.form; rw [zeN] at hkv hk1; subst hkv; obtain ⟨fa, hra, hfa, _⟩ := hown2.fresh hfo1; have h2N : Only [rb] w1 w2 := (Only.below (zj w1)).trans ho2'; have hl2 := hr2.lt; have hrd2 := hrd1.only h2N hnr)
    | (go_at_call 103; (with_reducible refine (zaN s _ _ rb (p + 1 + 20) _ (by omega) hfew ?_ hnr ?_).mono ?_); exact hrd2; exact hr2; rintro e w3 ⟨⟨t2, kv2, fo2, hs2, rfl, hnm2, hown3, hfo2⟩, hr3, ho3'⟩; obtain ⟨kb, kd, hkv2, hk3, hk4⟩ := hown3.form; rw [zeN] at hkv2 hk3; subst hkv2; obtain ⟨fb, hrb', hfb, _⟩ := hown3.fresh hfo2; have h3M : Only [rb] w2 w3 := ho3'; have h3N := h2N.trans h3M; have hz2 := h2N.size; have hz3 := h3M.size; have hl3 := hr3.lt; have hra3 := hra.only h3M (hfa.notin hl1); have hrv : RdVs w3 (Eqn.mk t1 t2).cd [.string t1.name, .slice ka t1.kids.length kc, .string t2.name, .slice kb t2.kids.length kd] (fa ++ fb) := (Eqn.close (x := ⟨t1, t2⟩) hnm1 hra3 hnm2 hrb'); have hown4 := hown1.only h3N hrb (fun h => by have := HFP.out _ h; omega); have hfab : ∀ b ∈ fa ++ fb, w1.heap.size ≤ b := (fun b hb => by rcases zeI.1 hb with h | h; exact (hfa.2 b h).1; have := (hfb.2 b h).1; omega))
    | (refine zL zI rfl _ _ rfl B _ _ _ rfl (by exact hown4.below (zb _ _)) ⟨w3.heap.size, 0, none⟩ 1 1 [(Eqn.mk t1 t2).cd] [.string t1.name, .slice ka t1.kids.length kc, .string t2.name, .slice kb t2.kids.length kd] (fa ++ fb) rfl rfl (by simpa using hrv.below (zb _ _)) (by simp [Eqn.cd_len]) (by exact zn w3 _ _) (fun b hb h => by have h1 := hfab b hb; have h2 := hrow b h; omega) (by simp; omega) (by simp; omega) (by simp; omega) ?_; intro v5 w5 hown5 hg5 hv5 hs5))
  have hz5 := hg5.size
  rw [World.size_alloc] at hz5
  obtain ⟨qa, qn, qc, rfl⟩ := hown5.form'
  go_wp2_with fail
  go_ret
  refine ⟨zbx (es := es ++ [⟨t1, t2⟩]) (by simp; omega) (fun q hq => ?_) (by rw [zeL]; exact hown5) (fun b hb => ?_), ((hr3.alloc _).grown hg5 (fun q hq => by have := hrow q hq; omega)).mono (by omega), ((((hN1.trans h3N).alloc _).wide (by simp)).grownIn hg5 (fun q hq => by have := (hrow q hq).1; subst this; simp))⟩
  ·rcases zeI.1 hq with h | h
   ·exact HSZ.out q h
   ·rw [List.mem_singleton.1 h]; exact ⟨hs1, hs2⟩
  ·rcases zeI.1 hb with h | h
   ·exact HFP.out b h
   ·have := hfab b h; omega
 have hmb : ((m : Int) == 0) = false := beq_eq_false_iff_ne.2 (by omega)
 by_cases hm1 : m = 1
 ·subst hm1
  go_wp2_with fail
  go_loopw [2] (fun ov wr => ∃ (xs : List Eqn) (fq : List Nat), xs.length ≤ 13 ∧ Own wr B 36 4 ov (xs.map Eqn.cd) fq ∧ Hid (∀ b ∈ fq, B ≤ b) ∧ Hid (∀ q ∈ xs, q.a.size ≤ 45 ∧ q.b.size ≤ 45) ∧ (∀ q, ov.ownBlock = some q → q = g ∨ w.heap.size ≤ q) ∧ Rdr wr rb (p + 1) ∧ Only [rb, g] w wr) (fun ov _ => 14 - zd6 ov)
  case atStart => exact ⟨es, fp, by omega, hown1, HFP, HSZ, fun q hq => .inl (hrow q hq).1, hr1, hN1.wide (by simp)⟩
  case round =>
   clear hown1 hrow hr1 hN1 x1 hrd1 hl1
   obtain ⟨xs, fq, hxl, hown, hfq, hsq, hrow, hr1, hN1⟩ := hrel
   have hz1 := hN1.size
   have hl1 := hr1.lt
   obtain ⟨xa, xc, rfl, hx1, hx2⟩ := hown.form
   rw [zeN] at hx1 hown hrow
   rw [zeN]
   by_cases hx : xs.length ≤ 12
   ·have hxb : decide ((xs.length : Int) ≤ 12) = true := by simp; omega
    have B9 := zb wr (.cells #[.string ⟨#[97]⟩, .slice none 0 0, .string ⟨#[97]⟩, .slice none 0 0] 36)
    have hrv : RdVs wr (Eqn.mk (.mk ⟨#[97]⟩ []) (.mk ⟨#[97]⟩ [])).cd [.string ⟨#[97]⟩, .slice none 0 0, .string ⟨#[97]⟩, .slice none 0 0] ([] ++ []) := Eqn.close (x := ⟨.mk ⟨#[97]⟩ [], .mk ⟨#[97]⟩ []⟩) (by simp only [Tm.name]; decide) (zaz none) (by simp only [Tm.name]; decide) (zaz none)
    go_wp2_with (at_builtin; refine zp zI rfl _ _ rfl B _ _ _ rfl (by exact hown.below B9) ⟨wr.heap.size, 0, none⟩ 1 1 [(Eqn.mk (.mk ⟨#[97]⟩ []) (.mk ⟨#[97]⟩ [])).cd] [.string ⟨#[97]⟩, .slice none 0 0, .string ⟨#[97]⟩, .slice none 0 0] ([] ++ []) rfl rfl ?rd ?k ?cells ?na ?bytes ?len ?base ?next)
    case rd => simpa using hrv.below B9
    case k => simp [Eqn.cd_len]
    case cells => exact zn wr _ _
    case na => simp
    case bytes => simp; omega
    case len => simp; omega
    case base => simp; omega
    case next =>
     intro v8 w8 hown8 hg8 hv8 hs8
     obtain ⟨qa, qc, rfl, _, _⟩ := hown8.form
     go_wp2_with fail
     go_roundw
     case rel =>
      refine ⟨xs ++ [⟨.mk ⟨#[97]⟩ [], .mk ⟨#[97]⟩ []⟩], fq, by simp; omega, by rw [zeL]; simpa using hown8, Lib.hid fun b hb => ?_, Lib.hid fun q hq => ?_, fun q hq => ?_, (hr1.alloc _).grown hg8 (fun q hq => ?_), ((hN1.trans (Only.below B9)).grownIn hg8 (fun q hq => ?_))⟩
      ·exact hfq.out b hb
      ·rcases zeI.1 hq with h | h
       ·exact hsq.out q h
       ·rw [List.mem_singleton.1 h]; simp [Tm.size, Tm.sizes]
      ·rcases hv8 q hq with h | h
       ·exact hrow q h
       ·right; (try rw [World.size_alloc] at h); omega
      ·have := (hown.block hq).1; omega
      ·rcases hrow q hq with h | h
       ·subst h; simp
       ·exact .inr h
     case measure => simp [zd6]; omega
   ·have hxb : decide ((xs.length : Int) ≤ 12) = false := by simp; omega
    go_wp2_with fail
    go_ret
    exact ⟨zbx hxl hsq.out (by simpa using hown) hfq.out, hr1.mono (by omega), hN1⟩
 have hmb1 : ((m : Int) == 1) = false := beq_eq_false_iff_ne.2 (by omega)
 by_cases hm2 : m = 2
 ·subst hm2
  have B9 := zb w1 (.cells #[.string ⟨#[]⟩, .slice none 0 0, .string ⟨#[]⟩, .slice none 0 0] 36)
  have hrv : RdVs w1 (Eqn.mk (.mk ⟨#[]⟩ []) (.mk ⟨#[]⟩ [])).cd [.string ⟨#[]⟩, .slice none 0 0, .string ⟨#[]⟩, .slice none 0 0] ([] ++ []) := Eqn.close (x := ⟨.mk ⟨#[]⟩ [], .mk ⟨#[]⟩ []⟩) (by simp only [Tm.name]; decide) (zaz none) (by simp only [Tm.name]; decide) (zaz none)
  go_wp2_with (at_builtin; refine zp zI rfl _ _ rfl B _ _ _ rfl (by exact hown1.below B9) ⟨w1.heap.size, 0, none⟩ 1 1 [(Eqn.mk (.mk ⟨#[]⟩ []) (.mk ⟨#[]⟩ [])).cd] [.string ⟨#[]⟩, .slice none 0 0, .string ⟨#[]⟩, .slice none 0 0] ([] ++ []) rfl rfl ?rd ?k ?cells ?na ?bytes ?len ?base ?next)
  case rd => simpa using hrv.below B9
  case k => simp [Eqn.cd_len]
  case cells => exact zn w1 _ _
  case na => simp
  case bytes => simp; omega
  case len => simp; omega
  case base => simp; omega
  case next =>
   intro v8 w8 hown8 hg8 hv8 hs8
   obtain ⟨qa, qn, qc, rfl⟩ := hown8.form'
   go_wp2_with fail
   go_ret
   refine ⟨zbx (es := es ++ [⟨.mk ⟨#[]⟩ [], .mk ⟨#[]⟩ []⟩]) (by simp; omega) (fun q hq => ?_) (by rw [zeL]; exact hown8) (fun b hb => HFP.out b (by simpa using hb)), ((hr1.alloc _).grown hg8 (fun q hq => by have := hrow q hq; omega)).mono (by omega), ((hN1.trans (Only.below B9)).wide (by simp)).grownIn hg8 (fun q hq => by have := (hrow q hq).1; subst this; simp)⟩
   rcases zeI.1 hq with h | h
   ·exact HSZ.out q h
   ·rw [List.mem_singleton.1 h]; simp [Tm.size, Tm.sizes]
 have hmb2 : ((m : Int) == 2) = false := beq_eq_false_iff_ne.2 (by omega)
 go_wp2_with fail
 go_ret
 exact ⟨zbx (by omega) HSZ.out (by simpa using hown1) HFP.out, hr1.mono (by omega), hN1.wide (by simp)⟩
end Go.Proofs.YtlefdhhnlbpbkaaGreat
end
