/- Parts of the proof: Own StepA CloQ CloP CloN CloM Rdr6 LawTm SmP SmK. -/
import Derived.Deep.Upon
import Derived.Lib.BufferMore
import Derived.Test.YtlefdhhnlbpbkaaPb10
import Derived.Test.YtlefdhhnlbpbkaaPb13
import Derived.Test.YtlefdhhnlbpbkaaPb19
import Derived.Test.YtlefdhhnlbpbkaaPb23
import Derived.Test.YtlefdhhnlbpbkaaPb15
import Derived.Deep.RegionHeld3
import Derived.BigQuiet
namespace Go.Proofs.Ytlefdhhnlbpbkaa
open Go Go.RowKit
set_option linter.unusedVariables false
set_option linter.unusedSimpArgs false
set_option maxHeartbeats 1600000
/-- append of nothing, in the walk. -/
theorem zc5 {P : Program} {t e : TypeId} {z : Value} {k bytes : Nat} (hT : SlTy P t e z k bytes) {w : World} {ops : Array Oper} {rest : List Oper} {o : Oper} {a : Act} {Q : Exit → Act → World → Prop} (hgd : o.guard = none) (s x : Operand)
  (ho : o.op = .call { callee := .builtin .append, args := #[s, x], argTypes := #[t, t] }) (base ao : Option Addr) (n c c' : Nat) (hle : n ≤ c) (hs : a.eval s = .slice base n c) (hx : a.eval x = .slice ao 0 c')
  (h : wpList P ops Q rest (a.put o.dst (.slice base n c)) w) : wpList P ops Q (o :: rest) a w := by
 obtain ⟨i, hi, hz, hsz, hb⟩ := info_parts hT.info
 have hsrc : Src P i.size t (.slice ao 0 c') 0 [] w := by
  cases ao with
  | none => exact Src.ofNil _ hT.und c'
  | some ad => exact Src.ofSlice _ hT.und ad 0 c' [] (by simp) (fun j u h => by simp at h) (by simp)
 have hr := run_append_nothing (P := P) w t t o.type e i hT.und hi base n c hle _ hsrc
 refine wpList_plain hgd fun K hK => ?_
 unfold Oper.wp execOp
 simp only [ho, resolve, invoke, builtin, Sem.run_bind, Sem.run_pure, Result.andThen_ok, List.map_toArray, List.map_cons, List.map_nil, hs, hx, hr]
 exact hK _ _ h
/-- append of a whole row, read, to a row of the call's own. -/
theorem zS {P : Program} {t e : TypeId} {z : Value} {k bytes : Nat} (hT : SlTy P t e z k bytes) {w : World} {ops : Array Oper} {rest : List Oper} {o : Oper} {a : Act} {Q : Exit → Act → World → Prop} (hgd : o.guard = none) (s x : Operand)
  (ho : o.op = .call { callee := .builtin .append, args := #[s, x], argTypes := #[t, t] })
  (base : Nat) (v : Value) (es : List (List CD)) (fp : List Nat) (hs : a.eval s = v) (hown : Own w base e k v es fp)
  (news : List (List CD)) (nv : Value) (nf : List Nat) (hx : a.eval x = nv) (hrd : Rd w (.sl news) nv nf) (hnk : ∀ x ∈ news, x.length = k) (hna : ∀ b ∈ nf, v.ownBlock ≠ some b)
  (hbytes : (es.length + news.length) * bytes ≤ 140737488355328) (hlen : es.length + news.length ≤ 140737488355328) (hbase : base ≤ w.heap.size)
  (h : ∀ v' w' nfp, (∀ b ∈ nfp, b ∈ nf) → Own w' base e k v' (es ++ news) (fp ++ nfp) → w.grownBy w' v.ownBlock → (∀ b, v'.ownBlock = some b → v.ownBlock = some b ∨ w.heap.size ≤ b) → SameOn (fp ++ nfp) w w' → wpList P ops Q rest (a.put o.dst v') w') : wpList P ops Q (o :: rest) a w := by
 obtain ⟨xa, xc, rfl, _, _⟩ := hrd.sl_form
 rcases Nat.eq_zero_or_pos news.length with hz | hne
 ·obtain rfl := List.eq_nil_of_length_eq_zero hz
  obtain ⟨va, vc, rfl, hv1, _⟩ := hown.form
  refine zc5 hT hgd s x ho va xa es.length vc xc hv1 hs hx ?_
  exact h _ w [] (by simp) (by simpa using hown) (zah _ _) (fun b hb => .inl hb) (SameOn.refl _ _)
 ·obtain ⟨b, off, f, rfl, hb, rfl, hr⟩ := hrd.addr hne
  obtain ⟨vs, hc, hvs⟩ := hr.flat
  exact zp hT hgd s x ho base v es fp hs hown ⟨b, off, none⟩ news.length xc news vs f hx rfl hvs hnk (fun j u hj => by simpa [Addr.add_lit] using hc j u hj) (fun y hy => hna y (by simp [hy])) hbytes hlen hbase
   (fun v' w' h1 h2 h3 h4 => h v' w' f (fun y hy => by simp [hy]) h1 h2 h3 h4)
end Go.Proofs.Ytlefdhhnlbpbkaa
section
namespace Go.Proofs.Ytlefdhhnlbpbkaa
open Go Go.RowKit
set_option linter.unusedVariables false
set_option linter.unusedSimpArgs false
set_option maxRecDepth 100000
set_option maxHeartbeats 16000000
theorem zdG {P : Program} {t e : TypeId} {z : Value} {k bytes : Nat} (hT : SlTy P t e z k bytes) {w : World} {ops : Array Oper} {o : Oper} {a : Act} {K : Act → World → Prop} {Q : Exit → Act → World → Prop} {E : Prop} (hgd : o.guard = none) (s x : Operand)
  (ho : o.op = .call { callee := .builtin .append, args := #[s, x], argTypes := #[t, t] }) (base ao : Option Addr) (n c c' : Nat) (hle : n ≤ c) (hs : a.eval s = .slice base n c) (hx : a.eval x = .slice ao 0 c')
  (h : K (a.put o.dst (.slice base n c)) w) : if Region.wanted o (yielded ops a.tmps) = true then Oper.wp P o a w K Q else E := by
 have hw : Region.wanted o (yielded ops a.tmps) = true := by simp [Region.wanted, hgd]
 rw [if_pos hw]
 obtain ⟨i, hi, hz, hsz, hb⟩ := info_parts hT.info
 have hsrc : Src P i.size t (.slice ao 0 c') 0 [] w := by
  cases ao with
  | none => exact Src.ofNil _ hT.und c'
  | some ad => exact Src.ofSlice _ hT.und ad 0 c' [] (by simp) (fun j u h => by simp at h) (by simp)
 have hr := run_append_nothing (P := P) w t t o.type e i hT.und hi base n c hle _ hsrc
 unfold Oper.wp execOp
 simp only [ho, resolve, invoke, builtin, Sem.run_bind, Sem.run_pure, Result.andThen_ok, List.map_toArray, List.map_cons, List.map_nil, hs, hx, hr]
 exact h
theorem step_appW {P : Program} {t e : TypeId} {z : Value} {k bytes : Nat} (hT : SlTy P t e z k bytes) {w : World} {ops : Array Oper} {o : Oper} {a : Act} {K : Act → World → Prop} {Q : Exit → Act → World → Prop} {E : Prop} (hgd : o.guard = none) (s x : Operand)
  (ho : o.op = .call { callee := .builtin .append, args := #[s, x], argTypes := #[t, t] })
  (base : Nat) (v : Value) (es : List (List CD)) (fp : List Nat) (hs : a.eval s = v) (hown : Own w base e k v es fp)
  (news : List (List CD)) (nv : Value) (nf : List Nat) (hx : a.eval x = nv) (hrd : Rd w (.sl news) nv nf) (hnk : ∀ x ∈ news, x.length = k) (hna : ∀ b ∈ nf, v.ownBlock ≠ some b)
  (hbytes : (es.length + news.length) * bytes ≤ 140737488355328) (hlen : es.length + news.length ≤ 140737488355328) (hbase : base ≤ w.heap.size)
  (h : ∀ v' w' nfp, (∀ b ∈ nfp, b ∈ nf) → Own w' base e k v' (es ++ news) (fp ++ nfp) → w.grownBy w' v.ownBlock → (∀ b, v'.ownBlock = some b → v.ownBlock = some b ∨ w.heap.size ≤ b) → K (a.put o.dst v') w') : if Region.wanted o (yielded ops a.tmps) = true then Oper.wp P o a w K Q else E := by
 obtain ⟨xa, xc, rfl, _, _⟩ := hrd.sl_form
 rcases Nat.eq_zero_or_pos news.length with hz | hne
 ·obtain rfl := List.eq_nil_of_length_eq_zero hz
  obtain ⟨va, vc, rfl, hv1, _⟩ := hown.form
  refine zdG hT hgd s x ho va xa es.length vc xc hv1 hs hx ?_
  exact h _ w [] (by simp) (by simpa using hown) (zah _ _) (fun b hb => .inl hb)
 ·obtain ⟨b, off, f, rfl, hb, rfl, hr⟩ := hrd.addr hne
  obtain ⟨vs, hc, hvs⟩ := hr.flat
  exact zJ hT hgd s x ho base v es fp hs hown ⟨b, off, none⟩ news.length xc news vs f hx rfl hvs hnk (fun j u hj => by simpa [Addr.add_lit] using hc j u hj) (fun y hy => hna y (by simp [hy])) hbytes hlen hbase
   (fun v' w' h1 h2 h3 h4 => h v' w' f (fun y hy => by simp [hy]) h1 h2 h3)
namespace Clo
theorem join_keep {n : Nat} {c : List Nat} (h : Good n c) {a b i j : Nat} (hi : i < n) (hj : j < n) (he : cl c i = cl c j) : cl (join c a b) i = cl (join c a b) j := by
 rw [zal (by rw [h.1]; exact hi), zal (by rw [h.1]; exact hj), he]
theorem join_same {n : Nat} {c : List Nat} (h : Good n c) {a b : Nat} (ha : a < n) (hb : b < n) : cl (join c a b) a = cl (join c a b) b := by
 rw [zal (by rw [h.1]; exact ha), zal (by rw [h.1]; exact hb)]
 unfold hi lo
 rcases Nat.le_total (cl c a) (cl c b) with h1 | h1
 ·rw [Nat.max_eq_right h1, Nat.min_eq_left h1]
  by_cases h2 : cl c a = cl c b
  ·rw [if_pos h2, if_pos rfl]
  ·rw [if_neg h2, if_pos rfl]
 ·rw [Nat.max_eq_left h1, Nat.min_eq_right h1]
  by_cases h2 : cl c b = cl c a
  ·rw [if_pos rfl, if_pos h2]
  ·rw [if_pos rfl, if_neg h2]
/-- The steps that a run of the closure has made, and the classes behind them. -/
structure Made (n : Nat) (c : List Nat) (st : List Stp) : Prop where
 good : Good n c
 count : roots n c + st.length = n
 step : ∀ s ∈ st, ∃ a b : Nat, s.a = a ∧ s.b = b ∧ a ≠ b ∧ a < n ∧ b < n ∧ cl c a = cl c b
theorem Made.start (n : Nat) : Made n (List.range n) [] := ⟨Good.start n, by rw [zcU]; simp, by simp⟩
theorem Made.join {n : Nat} {c : List Nat} {st : List Stp} (h : Made n c st) {a b : Nat} {g : Int} (ha : a < n) (hb : b < n) (hne : cl c a ≠ cl c b) : Made n (Clo.join c a b) (st ++ [⟨a, b, g⟩]) := by
 refine ⟨h.good.join ha hb, ?_, fun s hs => ?_⟩
 ·have := zbS h.good ha hb hne
  have := h.count
  simp only [zd3, List.length_cons, List.length_nil]; omega
 ·rcases zd1.1 hs with hs | hs
  ·obtain ⟨x, y, h1, h2, h3, h4, h5, h6⟩ := h.step s hs
   exact ⟨x, y, h1, h2, h3, h4, h5, join_keep h.good h4 h5 h6⟩
  ·obtain rfl := List.mem_singleton.1 hs
   exact ⟨a, b, rfl, rfl, fun e => hne (by rw [e]), ha, hb, join_same h.good ha hb⟩
/-- Two parts are in one class. -/
def One (c : List Nat) (i j : Nat) : Prop := cl c i = cl c j
end Clo
namespace Clo
theorem join_one {n : Nat} {c : List Nat} (h : Good n c) {a b i j : Nat} (hi' : i < n) (hj : j < n) (he : One (join c a b) i j) : One c i j ∨ (One c i a ∧ One c b j) ∨ (One c i b ∧ One c a j) := by
 unfold One at he ⊢
 rw [zal (by rw [h.1]; exact hi'), zal (by rw [h.1]; exact hj)] at he
 unfold hi lo at he
 rcases Nat.le_total (cl c a) (cl c b) with h1 | h1
 ·rw [Nat.max_eq_right h1, Nat.min_eq_left h1] at he
  by_cases h2 : cl c i = cl c b
  ·by_cases h3 : cl c j = cl c b
   ·exact .inl (h2.trans h3.symm)
   ·rw [if_pos h2, if_neg h3] at he
    exact .inr (.inr ⟨h2, he⟩)
  ·by_cases h3 : cl c j = cl c b
   ·rw [if_neg h2, if_pos h3] at he
    exact .inr (.inl ⟨he, h3.symm⟩)
   ·rw [if_neg h2, if_neg h3] at he
    exact .inl he
 ·rw [Nat.max_eq_left h1, Nat.min_eq_right h1] at he
  by_cases h2 : cl c i = cl c a
  ·by_cases h3 : cl c j = cl c a
   ·exact .inl (h2.trans h3.symm)
   ·rw [if_pos h2, if_neg h3] at he
    exact .inr (.inl ⟨h2, he⟩)
  ·by_cases h3 : cl c j = cl c a
   ·rw [if_neg h2, if_pos h3] at he
    exact .inr (.inr ⟨he, h3.symm⟩)
   ·rw [if_neg h2, if_neg h3] at he
    exact .inl he
/-- A congruence on parts. -/
structure Cong (ps : List Tm) (R : Tm → Tm → Prop) : Prop where
 rfl' : ∀ t ∈ ps, R t t
 symm : ∀ t u, R t u → R u t
 trans : ∀ t u v, R t u → R u v → R t v
 cong : ∀ t ∈ ps, ∀ u ∈ ps, t.name = u.name → 0 < t.kids.length → t.kids.length = u.kids.length → (∀ j (h1 : j < t.kids.length) (h2 : j < u.kids.length), R t.kids[j] u.kids[j]) → R t u
/-- What is joined is R. -/
def Under (ps : List Tm) (R : Tm → Tm → Prop) (c : List Nat) : Prop := ∀ i j (hi : i < ps.length) (hj : j < ps.length), One c i j → R ps[i] ps[j]
theorem pos_get {ps : List Tm} {t : Tm} (h : t ∈ ps) : ∃ hp : Tm.pos ps t < ps.length, ps[Tm.pos ps t] = t := by
 obtain ⟨h1, h2⟩ := Tm.pos_yes h
 exact ⟨h1, by rw [List.getElem?_eq_getElem h1] at h2; exact Option.some.inj h2⟩
theorem Under.at {ps : List Tm} {R : Tm → Tm → Prop} {c : List Nat} (h : Under ps R c) {t u : Tm} (ht : t ∈ ps) (hu : u ∈ ps) (ho : One c (Tm.pos ps t) (Tm.pos ps u)) : R t u := by
 obtain ⟨p1, e1⟩ := pos_get ht
 obtain ⟨p2, e2⟩ := pos_get hu
 have := h _ _ p1 p2 ho
 rwa [e1, e2] at this
theorem Under.join {ps : List Tm} {R : Tm → Tm → Prop} {c : List Nat} (h : Under ps R c) (hR : Cong ps R) (hg : Good ps.length c) {a b : Nat} (ha : a < ps.length) (hb : b < ps.length) (hab : R ps[a] ps[b]) : Under ps R (Clo.join c a b) := by
 intro i j hi hj he
 rcases join_one hg hi hj he with h1 | ⟨h1, h2⟩ | ⟨h1, h2⟩
 ·exact h i j hi hj h1
 ·exact hR.trans _ _ _ (h i a hi ha h1) (hR.trans _ _ _ hab (h b j hb hj h2))
 ·exact hR.trans _ _ _ (h i b hi hb h1) (hR.trans _ _ _ (hR.symm _ _ hab) (h a j ha hj h2))
end Clo
theorem Clo.least {n : Nat} {c : List Nat} (h : Clo.Good n c) {i j : Nat} (hi : i < n) (hj : j < n) (ho : Clo.One c i j) : Clo.cl c i ≤ j := by
 unfold Clo.One at ho; rw [ho]; exact (h.2 j hj).1
theorem Tm.zero_rd (w : World) : RdVs w (Tm.mk ⟨#[]⟩ []).cd [.string ⟨#[]⟩, .slice none 0 0] [] := Tm.rdvs (t := .mk ⟨#[]⟩ []) (by decide) (by simp only [Tm.kids, List.map_nil, Rd]; exact ⟨none, 0, rfl, by simp, by simp [maxLen], by simp⟩)
theorem RdRows.take {w : World} {b : Nat} : ∀ {es : List (List CD)} {off : Nat} {fp : List Nat}, RdRows w b off es fp → ∀ i, ∃ fq, RdRows w b off (es.take i) fq ∧ ∀ x ∈ fq, x ∈ fp
 | [], off, fp, h, i => ⟨fp, by simpa using h, fun x hx => hx⟩
 | e :: es, off, fp, h, 0 => ⟨[], by simp [RdRows], by simp⟩
 | e :: es, off, fp, h, i + 1 => by
  simp only [RdRows] at h
  obtain ⟨vs, f1, f2, rfl, hc, hv, hr⟩ := h
  obtain ⟨fq, h1, h2⟩ := hr.take i
  refine ⟨f1 ++ fq, by rw [List.take_succ_cons]; simp only [RdRows]; exact ⟨vs, f1, fq, rfl, hc, hv, h1⟩, fun x hx => ?_⟩
  rcases zd1.1 hx with hx | hx
  ·exact List.mem_append_left _ hx
  ·exact List.mem_append_right _ (h2 x hx)
/-- What is sliced off at the end. -/
theorem Rd.take {w : World} {es : List (List CD)} {a : Option Addr} {n c : Nat} {fp : List Nat} (h : Rd w (.sl es) (.slice a n c) fp) {i : Nat} (hi : i ≤ es.length) : ∃ fq, Rd w (.sl (es.take i)) (.slice a i c) fq ∧ ∀ x ∈ fq, x ∈ fp := by
 simp only [Rd] at h ⊢
 obtain ⟨a', c', e, h2, h3, h4⟩ := h
 simp only [Value.slice.injEq] at e
 obtain ⟨rfl, rfl, rfl⟩ := e
 have hl : (es.take i).length = i := by rw [List.length_take]; omega
 by_cases h0 : i = 0
 ·subst h0
  exact ⟨[], ⟨a, c, by simp, by simp, h3, .inl ⟨by simp, rfl⟩⟩, by simp⟩
 ·rcases h4 with ⟨rfl, _⟩ | ⟨hne, b, off, f, rfl, hb, rfl, hr⟩
  ·simp at hi; omega
  ·obtain ⟨fq, h5, h6⟩ := hr.take i
   refine ⟨b :: fq, ⟨_, c, by rw [hl], by rw [hl]; omega, h3, .inr ⟨?_, b, off, fq, rfl, hb, rfl, h5⟩⟩, fun x hx => ?_⟩
   ·intro e; rw [e] at hl; simp at hl; omega
   ·rcases zd5.1 hx with rfl | hx
    ·simp
    ·exact List.mem_cons_of_mem _ (h6 x hx)
theorem TmsR.take {w : World} {ts : List Tm} {a : Option Addr} {n c : Nat} (h : TmsR w ts (.slice a n c)) {i : Nat} (hi : i ≤ ts.length) : TmsR w (ts.take i) (.slice a i c) := by
 obtain ⟨fp, h⟩ := h
 obtain ⟨fq, h1, _⟩ := h.take (i := i) (by simpa using hi)
 rw [← List.map_take] at h1
 exact ⟨fq, h1⟩
namespace Clo
end Clo
theorem nats_at {c : List Nat} {k : Nat} (h : k < (nats c).length) : (nats c)[k] = ((Clo.cl c k : Nat) : Int) := by
 have h' : k < c.length := by simpa [nats] using h
 simp only [nats, List.getElem_map, Clo.cl, List.getD_eq_getElem?_getD, List.getElem?_eq_getElem h', Option.getD_some]
theorem len_of_eq {a b : Nat} (h : a = b) : ((a : Int) == (b : Int)) = true := by rw [h]; simp
/-- Up to k the kids are in one class each. -/
def KidsTo (ps : List Tm) (c : List Nat) (xs ys : List Tm) (k : Nat) : Prop := ∀ j, j < k → ∀ (h1 : j < xs.length) (h2 : j < ys.length), Clo.cl c (Tm.pos ps xs[j]) = Clo.cl c (Tm.pos ps ys[j])
theorem KidsTo.succ {ps : List Tm} {c : List Nat} {xs ys : List Tm} {k : Nat} (h : KidsTo ps c xs ys k) (hk1 : k < xs.length) (hk2 : k < ys.length) (he : Clo.cl c (Tm.pos ps xs[k]) = Clo.cl c (Tm.pos ps ys[k])) : KidsTo ps c xs ys (k + 1) := fun j hj h1 h2 => by
 rcases Nat.lt_or_ge j k with h3 | h3
 ·exact h j h3 h1 h2
 ·obtain rfl : j = k := by omega
  exact he
end Go.Proofs.Ytlefdhhnlbpbkaa
end
