/- The closure is the least: what it joins, every congruence joins. Plain. -/
import Derived.Test.YtblbommhodondaaCloQ
namespace Go.Proofs.Ytblbommhodondaa
open Go Go.RowKit
set_option linter.unusedVariables false
set_option linter.unusedSimpArgs false
namespace Clo
theorem join_one {n : Nat} {c : List Nat} (h : Good n c) {a b i j : Nat} (hi' : i < n) (hj : j < n) (he : One (join c a b) i j) : One c i j ∨ (One c i a ∧ One c b j) ∨ (One c i b ∧ One c a j) := by
  unfold One at he ⊢
  rw [cl_join (by rw [h.1]; exact hi'), cl_join (by rw [h.1]; exact hj)] at he
  unfold hi lo at he
  rcases Nat.le_total (cl c a) (cl c b) with h1 | h1
  · rw [Nat.max_eq_right h1, Nat.min_eq_left h1] at he
    by_cases h2 : cl c i = cl c b
    · by_cases h3 : cl c j = cl c b
      · exact .inl (h2.trans h3.symm)
      · rw [if_pos h2, if_neg h3] at he
        exact .inr (.inr ⟨h2, he⟩)
    · by_cases h3 : cl c j = cl c b
      · rw [if_neg h2, if_pos h3] at he
        exact .inr (.inl ⟨he, h3.symm⟩)
      · rw [if_neg h2, if_neg h3] at he
        exact .inl he
  · rw [Nat.max_eq_left h1, Nat.min_eq_right h1] at he
    by_cases h2 : cl c i = cl c a
    · by_cases h3 : cl c j = cl c a
      · exact .inl (h2.trans h3.symm)
      · rw [if_pos h2, if_neg h3] at he
        exact .inr (.inl ⟨h2, he⟩)
    · by_cases h3 : cl c j = cl c a
      · rw [if_neg h2, if_pos h3] at he
        exact .inr (.inr ⟨he, h3.symm⟩)
      · rw [if_neg h2, if_neg h3] at he
        exact .inl he
/-- A congruence on parts. -/
structure Cong (ps : List Tm) (R : Tm → Tm → Prop) : Prop where
  rfl' : ∀ t ∈ ps, R t t
  symm : ∀ t u, R t u → R u t
  trans : ∀ t u v, R t u → R u v → R t v
  cong : ∀ t ∈ ps, ∀ u ∈ ps, t.name = u.name → 0 < t.kids.length → t.kids.length = u.kids.length → (∀ j (h1 : j < t.kids.length) (h2 : j < u.kids.length), R t.kids[j] u.kids[j]) → R t u
/-- What is joined is R. -/
def Under (ps : List Tm) (R : Tm → Tm → Prop) (c : List Nat) : Prop := ∀ i j (hi : i < ps.length) (hj : j < ps.length), One c i j → R ps[i] ps[j]
theorem kidsB_true {ps : List Tm} {c : List Nat} : ∀ {xs ys : List Tm}, kidsB ps c xs ys = true → xs.length = ys.length ∧ ∀ j (h1 : j < xs.length) (h2 : j < ys.length), One c (Tm.pos ps xs[j]) (Tm.pos ps ys[j])
  | [], [], _ => ⟨rfl, fun j h1 => by simp at h1⟩
  | [], _ :: _, h => by simp [kidsB] at h
  | _ :: _, [], h => by simp [kidsB] at h
  | x :: xs, y :: ys, h => by
    simp only [kidsB, Bool.and_eq_true, beq_iff_eq] at h
    obtain ⟨h1, h2⟩ := kidsB_true h.2
    refine ⟨by simp [h1], fun j h3 h4 => ?_⟩
    cases j with
    | zero => simpa [One] using h.1
    | succ j => simpa using h2 j (by simpa using h3) (by simpa using h4)
theorem pos_get {ps : List Tm} {t : Tm} (h : t ∈ ps) : ∃ hp : Tm.pos ps t < ps.length, ps[Tm.pos ps t] = t := by
  obtain ⟨h1, h2⟩ := Tm.pos_yes h
  exact ⟨h1, by rw [List.getElem?_eq_getElem h1] at h2; exact Option.some.inj h2⟩
theorem Under.at {ps : List Tm} {R : Tm → Tm → Prop} {c : List Nat} (h : Under ps R c) {t u : Tm} (ht : t ∈ ps) (hu : u ∈ ps) (ho : One c (Tm.pos ps t) (Tm.pos ps u)) : R t u := by
  obtain ⟨p1, e1⟩ := pos_get ht
  obtain ⟨p2, e2⟩ := pos_get hu
  have := h _ _ p1 p2 ho
  rwa [e1, e2] at this
theorem Under.join {ps : List Tm} {R : Tm → Tm → Prop} {c : List Nat} (h : Under ps R c) (hR : Cong ps R) (hg : Good ps.length c) {a b : Nat} (ha : a < ps.length) (hb : b < ps.length) (hab : R ps[a] ps[b]) : Under ps R (Clo.join c a b) := by
  intro i j hi hj he
  rcases join_one hg hi hj he with h1 | ⟨h1, h2⟩ | ⟨h1, h2⟩
  · exact h i j hi hj h1
  · exact hR.trans _ _ _ (h i a hi ha h1) (hR.trans _ _ _ hab (h b j hb hj h2))
  · exact hR.trans _ _ _ (h i b hi hb h1) (hR.trans _ _ _ (hR.symm _ _ hab) (h a j ha hj h2))
theorem range_one {n i j : Nat} (hi : i < n) (hj : j < n) (h : One (List.range n) i j) : i = j := by
  unfold One cl at h
  rw [List.getD_eq_getElem?_getD, List.getD_eq_getElem?_getD, List.getElem?_range hi, List.getElem?_range hj] at h
  exact h
theorem given_under {ps : List Tm} {R : Tm → Tm → Prop} (hR : Cong ps R) : ∀ (es : List Eqn) (m : Nat) (c : List Nat) (st : List Stp), (∀ e ∈ es, (e.a ∈ ps ∧ e.b ∈ ps) ∧ R e.a e.b) → Good ps.length c → Under ps R c → Under ps R (given ps es m c st).1
  | [], _, _, _, _, _, h => h
  | e :: es, m, c, st, hin, hg, h => by
    have h1 := hin e (by simp)
    have h2 : ∀ x ∈ es, (x.a ∈ ps ∧ x.b ∈ ps) ∧ R x.a x.b := fun x hx => hin x (by simp [hx])
    obtain ⟨p1, e1⟩ := pos_get h1.1.1
    obtain ⟨p2, e2⟩ := pos_get h1.1.2
    unfold given
    split
    · exact given_under hR es _ _ _ h2 hg h
    · exact given_under hR es _ _ _ h2 (hg.join p1 p2) (h.join hR hg p1 p2 (by rw [e1, e2]; exact h1.2))
theorem run_under {ps : List Tm} {R : Tm → Tm → Prop} (hR : Cong ps R) (ho : Tm.Ord ps) : ∀ (f : Nat) (c : List Nat) (st : List Stp), Good ps.length c → Under ps R c → Under ps R (run ps f c st).1
  | 0, _, _, _, h => h
  | f + 1, c, st, hg, h => by
    unfold run
    cases hn : next ps c with
    | none => exact h
    | some p =>
      obtain ⟨k, i⟩ := p
      obtain ⟨h1, h2, h3⟩ := next_spec hn
      have hk : k < ps.length := by omega
      refine run_under hR ho f _ _ (hg.join hk h2) (h.join hR hg hk h2 ?_)
      unfold badB at h3
      rw [List.getElem?_eq_getElem hk, List.getElem?_eq_getElem h2] at h3
      simp only [alikeB, Bool.and_eq_true, decide_eq_true_eq] at h3
      obtain ⟨q1, q2⟩ := kidsB_true h3.2.2
      exact hR.cong _ (List.getElem_mem hk) _ (List.getElem_mem h2) h3.2.1.1 h3.2.1.2 q1 (fun j j1 j2 => h.at (ho.kid hk (List.getElem_mem j1)) (ho.kid h2 (List.getElem_mem j2)) (q2 j j1 j2))
/-- What the closure joins, every congruence that holds the equations joins. -/
theorem close_least {ps : List Tm} {es : List Eqn} {R : Tm → Tm → Prop} (hR : Cong ps R) (ho : Tm.Ord ps) (hin : ∀ e ∈ es, (e.a ∈ ps ∧ e.b ∈ ps) ∧ R e.a e.b) : Under ps R (close ps es).1 := by
  rw [close_eq]
  refine run_under hR ho _ _ _ (given_good _ _ _ _ (fun e he => (hin e he).1) (Good.start _)) (given_under hR es _ _ _ hin (Good.start _) ?_)
  intro i j hi hj h
  obtain rfl := range_one hi hj h
  exact hR.rfl' _ (List.getElem_mem hi)
/-- Two terms, both among the parts, in one class. -/
def Eqv (ps : List Tm) (c : List Nat) (t u : Tm) : Prop := (t ∈ ps ∧ u ∈ ps) ∧ One c (Tm.pos ps t) (Tm.pos ps u)
theorem pos_idx {ps : List Tm} (hn : ps.Nodup) {i : Nat} (hi : i < ps.length) : Tm.pos ps ps[i] = i := by
  obtain ⟨p, e⟩ := pos_get (List.getElem_mem hi)
  exact (List.getElem_inj hn).1 e
/-- Being in one class is a congruence on all smaller lists of parts. -/
theorem eqv_cong {ps qs : List Tm} {c : List Nat} (ho : Tm.Ord ps) (hg : Good ps.length c) (hn : next ps c = none) (hs : ∀ t ∈ qs, t ∈ ps) : Cong qs (Eqv ps c) := by
  refine ⟨fun t ht => ⟨⟨hs t ht, hs t ht⟩, rfl⟩, fun t u h => ⟨⟨h.1.2, h.1.1⟩, h.2.symm⟩, fun t u v h h' => ⟨⟨h.1.1, h'.1.2⟩, h.2.trans h'.2⟩, fun t ht u hu hnm h0 hl hk => ⟨⟨hs t ht, hs u hu⟩, ?_⟩⟩
  have hal : ∀ x y : Tm, x.name = y.name → 0 < x.kids.length → x.kids.length = y.kids.length → (∀ j (h1 : j < x.kids.length) (h2 : j < y.kids.length), Eqv ps c x.kids[j] y.kids[j]) → alikeB ps c x y = true := fun x y e1 e2 e3 e4 => by
    unfold alikeB
    rw [kidsB_all e3 (fun j h1 h2 => (e4 j h1 h2).2)]
    simp [e1, e2]
  obtain ⟨p1, e1⟩ := pos_get (hs t ht)
  obtain ⟨p2, e2⟩ := pos_get (hs u hu)
  rcases Nat.lt_trichotomy (Tm.pos ps t) (Tm.pos ps u) with h | h | h
  · exact none_alike hn h p2 (by rw [e1, e2]; exact hal t u hnm h0 hl hk)
  · unfold One; rw [h]
  · have := none_alike hn h p1 (by rw [e1, e2]; exact hal u t hnm.symm (by omega) hl.symm (fun j h1 h2 => ⟨⟨(hk j h2 h1).1.2, (hk j h2 h1).1.1⟩, (hk j h2 h1).2.symm⟩))
    exact this.symm
/-- With fewer equations and fewer parts no more is joined. -/
theorem close_mono {ps qs : List Tm} {es fs : List Eqn} (ho : Tm.Ord ps) (hq : Tm.Ord qs) (hs : ∀ t ∈ qs, t ∈ ps) (hin : ∀ e ∈ es, e.a ∈ ps ∧ e.b ∈ ps) (hfq : ∀ e ∈ fs, e.a ∈ qs ∧ e.b ∈ qs) (hfe : ∀ e ∈ fs, e ∈ es) {t u : Tm} (ht : t ∈ qs) (hu : u ∈ qs)
    (h : One (close qs fs).1 (Tm.pos qs t) (Tm.pos qs u)) : One (close ps es).1 (Tm.pos ps t) (Tm.pos ps u) := by
  obtain ⟨m1, m2, m3⟩ := close_made hin
  exact ((close_least (eqv_cong ho m1.good m3 hs) hq (fun e he => ⟨hfq e he, ⟨hs _ (hfq e he).1, hs _ (hfq e he).2⟩, m2 e (hfe e he)⟩)).at ht hu h).2
end Clo
end Go.Proofs.Ytblbommhodondaa
