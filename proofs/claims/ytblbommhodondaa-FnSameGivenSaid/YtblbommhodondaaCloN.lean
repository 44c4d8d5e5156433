/- SameIs, plain: symmetric; what a prefix joins all join; sorts agree. -/
import Derived.Test.YtblbommhodondaaCloP
import Derived.Test.YtblbommhodondaaCloW
namespace Go.Proofs.Ytblbommhodondaa
open Go Go.RowKit
set_option linter.unusedVariables false
set_option linter.unusedSimpArgs false
mutual
theorem addP_least {X : List Tm} : ∀ (t : Tm) (l : List Tm), (∀ x ∈ l, x ∈ X) → Tm.allIn X t → ∀ x ∈ Tm.addP l t, x ∈ X
  | .mk n ks, l, h, ha => by
    have h0 := (Tm.allIn_eq _ _).1 ha
    have h1 := addPs_least ks l h h0.2
    simp only [Tm.addP]
    split
    · exact h1
    · intro x hx
      rcases List.mem_append.1 hx with hx | hx
      · exact h1 x hx
      · obtain rfl := List.mem_singleton.1 hx
        exact h0.1
theorem addPs_least {X : List Tm} : ∀ (ts l : List Tm), (∀ x ∈ l, x ∈ X) → Tm.allIns X ts → ∀ x ∈ Tm.addPs l ts, x ∈ X
  | [], l, h, _ => by simpa [Tm.addPs] using h
  | t :: ts, l, h, ha => by
    have h1 := (Tm.allIns_iff X (t :: ts)).1 ha
    simp only [Tm.addPs]
    exact addPs_least ts _ (addP_least t l h (h1 t (by simp))) ((Tm.allIns_iff X ts).2 (fun u hu => h1 u (by simp [hu])))
end
theorem addPs_sub' {ts us : List Tm} (h : ∀ t ∈ ts, t ∈ us) : ∀ x ∈ Tm.addPs [] ts, x ∈ Tm.addPs [] us :=
  addPs_least ts [] (by simp) ((Tm.allIns_iff _ _).2 (fun t ht => (Tm.allIns_iff _ _).1 (Tm.addPs_all us []) t (h t ht)))
theorem nodup_len {α : Type} [DecidableEq α] : ∀ {l m : List α}, l.Nodup → (∀ x ∈ l, x ∈ m) → l.length ≤ m.length
  | [], m, _, _ => by simp
  | x :: l, m, hn, hs => by
    have hx := hs x (by simp)
    have h1 := nodup_len (l := l) (m := m.erase x) (List.nodup_cons.1 hn).2 (fun y hy => by
      have hne : y ≠ x := fun e => (List.nodup_cons.1 hn).1 (e ▸ hy)
      exact (List.mem_erase_of_ne hne).2 (hs y (by simp [hy])))
    rw [List.length_erase_of_mem hx] at h1
    have := List.length_pos_of_mem hx
    simp only [List.length_cons]; omega
theorem moreP_sub {es fs : List Eqn} {ms ns : List Tm} (he : ∀ e ∈ es, e ∈ fs) (hm : ∀ t ∈ ms, t ∈ ns) : ∀ x ∈ moreP es ms, x ∈ moreP fs ns :=
  addPs_sub' (fun t ht => by
    rcases List.mem_append.1 ht with h | h
    · obtain ⟨e, h1, h2⟩ := List.mem_flatMap.1 h
      exact List.mem_append_left _ (List.mem_flatMap.2 ⟨e, he e h1, h2⟩)
    · exact List.mem_append_right _ (hm t h))
theorem moreP_len_le {es fs : List Eqn} {ms ns : List Tm} (he : ∀ e ∈ es, e ∈ fs) (hm : ∀ t ∈ ms, t ∈ ns) : (moreP es ms).length ≤ (moreP fs ns).length :=
  nodup_len (moreP_ord es ms).nodup (moreP_sub he hm)
/-- More terms in another order are as right. -/
theorem moreB_perm {s : Sg} {es : List Eqn} {ms ns : List Tm} (h1 : ∀ t ∈ ms, t ∈ ns) (h2 : ∀ t ∈ ns, t ∈ ms) : moreB s es ms = moreB s es ns := by
  have hl : (moreP es ms).length = (moreP es ns).length := Nat.le_antisymm (moreP_len_le (fun _ h => h) h1) (moreP_len_le (fun _ h => h) h2)
  have ha : ms.all (fun t => (t.tsrt s).isSome) = ns.all (fun t => (t.tsrt s).isSome) := by
    rw [Bool.eq_iff_iff, List.all_eq_true, List.all_eq_true]
    exact ⟨fun h t ht => h t (h2 t ht), fun h t ht => h t (h1 t ht)⟩
  unfold moreB
  unfold moreP at hl
  rw [ha, hl]
theorem sameIs_mono {s : Sg} {es fs : List Eqn} {a b : Tm} (hf : ∀ e ∈ fs, e ∈ es) (h : sameIsB s fs a b = true) (hm : moreB s es [a, b] = true) : sameIsB s es a b = true := by
  unfold sameIsB at h ⊢
  rw [hm, Bool.true_and]
  simp only [Bool.and_eq_true, beq_iff_eq] at h ⊢
  exact Clo.close_mono (moreP_ord es _) (moreP_ord fs _) (moreP_sub hf (fun _ h => h)) (moreP_eqs es _) (moreP_eqs fs _) hf (moreP_mem (List.mem_append_right _ (by simp))) (moreP_mem (List.mem_append_right _ (by simp))) h.2
theorem sameIs_symm (s : Sg) (es : List Eqn) (a b : Tm) : sameIsB s es a b = sameIsB s es b a := by
  have hp : ∀ x y : Tm, moreB s es [x, y] = moreB s es [y, x] := fun x y => moreB_perm (fun t h => by simp only [List.mem_cons, List.not_mem_nil, or_false] at h ⊢; exact h.symm) (fun t h => by simp only [List.mem_cons, List.not_mem_nil, or_false] at h ⊢; exact h.symm)
  have h1 : ∀ x y : Tm, sameIsB s es x y = true → sameIsB s es y x = true := fun x y h => by
    unfold sameIsB at h ⊢
    simp only [Bool.and_eq_true, beq_iff_eq] at h ⊢
    refine ⟨by rw [← hp]; exact h.1, ?_⟩
    have := Clo.close_mono (moreP_ord es [y, x]) (moreP_ord es [x, y]) (moreP_sub (fun _ h => h) (fun t h => by simp only [List.mem_cons, List.not_mem_nil, or_false] at h ⊢; exact h.symm)) (moreP_eqs es _) (moreP_eqs es _) (fun _ h => h) (moreP_mem (List.mem_append_right _ (by simp))) (moreP_mem (List.mem_append_right _ (by simp))) h.2
    exact this.symm
  rw [Bool.eq_iff_iff]
  exact ⟨h1 a b, h1 b a⟩
theorem sameIs_refl {s : Sg} {es : List Eqn} {a : Tm} (h : moreB s es [a, a] = true) : sameIsB s es a a = true := by
  unfold sameIsB; rw [h]; simp
theorem tsrt_srt {s : Sg} {t : Tm} {n : Int} (h : t.tsrt s = some n) : t.srt s = some n := by
  unfold Tm.tsrt at h
  split at h
  · exact h
  · simp at h
theorem srt_kid_some {s : Sg} {t : Tm} (h : (t.srt s).isSome = true) : ∀ k ∈ t.kids, (k.srt s).isSome = true := by
  intro k hk
  rw [Tm.srt_eq] at h
  cases hf : s.find t.name with
  | none => rw [hf] at h; simp at h
  | some x =>
    rw [hf] at h
    simp only at h
    split at h
    · rename_i hs
      obtain ⟨j, hj, rfl⟩ := List.getElem_of_mem hk
      obtain ⟨hl, ha⟩ := (Tm.srts_iff s t.kids x.args).1 hs
      rw [ha j hj (by omega)]; rfl
    · simp at h
theorem srt_name {s : Sg} {t u : Tm} (h : t.name = u.name) (ht : (t.srt s).isSome = true) (hu : (u.srt s).isSome = true) : t.srt s = u.srt s := by
  rw [Tm.srt_eq] at ht hu ⊢
  rw [Tm.srt_eq s u]
  rw [h] at ht ⊢
  cases hf : s.find u.name with
  | none => rfl
  | some x =>
    rw [hf] at ht hu
    simp only at ht hu ⊢
    split at ht
    · rename_i h1
      split at hu
      · rename_i h2
        rw [if_pos h1, if_pos h2]
      · simp at hu
    · simp at ht
theorem eqsB_sort {s : Sg} {es : List Eqn} (h : eqsB s es = true) : ∀ e ∈ es, ∃ n, e.a.srt s = some n ∧ e.b.srt s = some n := by
  simp only [eqsB, Bool.and_eq_true, List.all_eq_true] at h
  intro e he
  have h1 := h.2.2.1 e he
  unfold Eqn.okB at h1
  split at h1
  · rename_i m n hm hn
    have : m = n := by simpa using h1
    subst this
    exact ⟨m, tsrt_srt hm, tsrt_srt hn⟩
  · simp at h1
theorem moreB_sorts {s : Sg} {es : List Eqn} {ms : List Tm} (h : moreB s es ms = true) : ∀ t ∈ moreP es ms, (t.srt s).isSome = true := by
  have h0 := h
  simp only [moreB, Bool.and_eq_true, List.all_eq_true] at h0
  refine Tm.addPs_pred (p := fun t => (t.srt s).isSome = true) (fun t ht k hk => srt_kid_some ht k hk) _ [] (fun t ht => ?_) (by simp)
  rcases List.mem_append.1 ht with ht | ht
  · obtain ⟨e, he, hm⟩ := List.mem_flatMap.1 ht
    obtain ⟨n, h1, h2⟩ := eqsB_sort h0.1 e he
    simp only [List.mem_cons, List.not_mem_nil, or_false] at hm
    rcases hm with rfl | rfl
    · rw [h1]; rfl
    · rw [h2]; rfl
  · have := h0.2.1 t ht
    cases hq : t.tsrt s with
    | none => rw [hq] at this; simp at this
    | some n => rw [tsrt_srt hq]; rfl
/-- What is one has one sort. -/
theorem sameIs_sort {s : Sg} {es : List Eqn} {a b : Tm} (h : sameIsB s es a b = true) : ∃ n, a.tsrt s = some n ∧ b.tsrt s = some n := by
  unfold sameIsB at h
  simp only [Bool.and_eq_true, beq_iff_eq] at h
  obtain ⟨hm, hc⟩ := h
  have hs := moreB_sorts hm
  have h0 := hm
  simp only [moreB, Bool.and_eq_true, List.all_eq_true] at h0
  have hR : Clo.Cong (moreP es [a, b]) (fun t u => (t.srt s).isSome = true ∧ (u.srt s).isSome = true ∧ t.srt s = u.srt s) :=
    ⟨fun t ht => ⟨hs t ht, hs t ht, rfl⟩, fun t u h => ⟨h.2.1, h.1, h.2.2.symm⟩, fun t u v h h' => ⟨h.1, h'.2.1, h.2.2.trans h'.2.2⟩, fun t ht u hu hnm _ _ _ => ⟨hs t ht, hs u hu, srt_name hnm (hs t ht) (hs u hu)⟩⟩
  have hU := Clo.close_least hR (moreP_ord es [a, b]) (fun e he => ⟨moreP_eqs es _ e he, by
    obtain ⟨n, h1, h2⟩ := eqsB_sort h0.1 e he
    exact ⟨by rw [h1]; rfl, by rw [h2]; rfl, by rw [h1, h2]⟩⟩)
  have hma : a ∈ moreP es [a, b] := moreP_mem (List.mem_append_right _ (by simp))
  have hmb : b ∈ moreP es [a, b] := moreP_mem (List.mem_append_right _ (by simp))
  have h1 := (hU.at hma hmb hc).2.2
  have ha := h0.2.1 a (by simp)
  have hb := h0.2.1 b (by simp)
  cases hq : a.tsrt s with
  | none => rw [hq] at ha; simp at ha
  | some n =>
    cases hq2 : b.tsrt s with
    | none => rw [hq2] at hb; simp at hb
    | some m =>
      rw [tsrt_srt hq, tsrt_srt hq2] at h1
      exact ⟨n, rfl, h1.symm⟩
end Go.Proofs.Ytblbommhodondaa
