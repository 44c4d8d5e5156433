/- The closure, plain: idempotent (P5), congruent under one word (P5). -/
import Derived.Test.YtblbommhodondaaCloN
namespace Go.Proofs.Ytblbommhodondaa
open Go Go.RowKit
set_option linter.unusedVariables false
set_option linter.unusedSimpArgs false
theorem Clo.least {n : Nat} {c : List Nat} (h : Clo.Good n c) {i j : Nat} (hi : i < n) (hj : j < n) (ho : Clo.One c i j) : Clo.cl c i ≤ j := by
  unfold Clo.One at ho; rw [ho]; exact (h.2 j hj).1
theorem Clo.class_ext {n : Nat} {c d : List Nat} (hc : Clo.Good n c) (hd : Clo.Good n d) (h1 : ∀ i j, i < n → j < n → Clo.One c i j → Clo.One d i j) (h2 : ∀ i j, i < n → j < n → Clo.One d i j → Clo.One c i j) : c = d := by
  have key : ∀ i, i < n → Clo.cl c i = Clo.cl d i := fun i hi => by
    have ci := hc.2 i hi
    have di := hd.2 i hi
    have e1 : Clo.One d i (Clo.cl c i) := h1 _ _ hi (by omega) (by unfold Clo.One; exact ci.2.symm)
    have e2 : Clo.One c i (Clo.cl d i) := h2 _ _ hi (by omega) (by unfold Clo.One; exact di.2.symm)
    have l1 := Clo.least hd hi (by omega) e1
    have l2 := Clo.least hc hi (by omega) e2
    omega
  refine List.ext_getElem (by rw [hc.1, hd.1]) fun i h3 h4 => ?_
  have := key i (by rw [← hc.1]; exact h3)
  rwa [Clo.cl_get h3, Clo.cl_get h4] at this
theorem moreP_snoc (es : List Eqn) (a b : Tm) : moreP (es ++ [⟨a, b⟩]) [] = moreP es [a, b] := by
  unfold moreP sidesP; simp
/-- With what follows given, nothing more is one. -/
theorem same_more {s : Sg} {es : List Eqn} {a b : Tm} (h : sameIsB s es a b = true) (hl : es.length < 12) : sameCl s es [a, b] = sameCl s (es ++ [⟨a, b⟩]) [] := by
  obtain ⟨n, hna, hnb⟩ := sameIs_sort h
  have h0 := h
  unfold sameIsB at h0
  simp only [Bool.and_eq_true, beq_iff_eq] at h0
  obtain ⟨hm, hc⟩ := h0
  have hm2 : moreB s (es ++ [⟨a, b⟩]) [] = true := by
    have e1 : (Tm.addPs [] (sidesP (es ++ [⟨a, b⟩]))).length ≤ 24 := by
      have := (moreB_yes hm).2
      have e2 := moreP_snoc es a b
      unfold moreP at e2 this
      rw [List.append_nil] at e2
      rw [e2]; exact this
    simp only [moreB, eqsB, Bool.and_eq_true, List.all_eq_true, decide_eq_true_eq] at hm ⊢
    refine ⟨⟨hm.1.1, by simp; omega, fun e he => ?_, e1⟩, by simp, by simpa using e1⟩
    rcases List.mem_append.1 he with he | he
    · exact hm.1.2.2.1 e he
    · obtain rfl := List.mem_singleton.1 he
      rw [Eqn.okB_ab hna hnb]; simp
  rw [sameCl_yes hm, sameCl_yes hm2]
  congr 1
  unfold cloC
  rw [moreP_snoc]
  have i1 := moreP_eqs es [a, b]
  have hma : a ∈ moreP es [a, b] := moreP_mem (List.mem_append_right _ (by simp))
  have hmb : b ∈ moreP es [a, b] := moreP_mem (List.mem_append_right _ (by simp))
  have i2 : ∀ e ∈ es ++ [(⟨a, b⟩ : Eqn)], e.a ∈ moreP es [a, b] ∧ e.b ∈ moreP es [a, b] := fun e he => by
    rcases List.mem_append.1 he with he | he
    · exact i1 e he
    · obtain rfl := List.mem_singleton.1 he; exact ⟨hma, hmb⟩
  have ho := moreP_ord es [a, b]
  obtain ⟨m1, m2, m3⟩ := Clo.close_made i1
  obtain ⟨q1, q2, q3⟩ := Clo.close_made i2
  refine Clo.class_ext m1.good q1.good (fun i j hi hj he => ?_) (fun i j hi hj he => ?_)
  · have := Clo.close_mono (es := es ++ [⟨a, b⟩]) (fs := es) ho ho (fun _ h => h) i2 i1 (fun e he => List.mem_append_left _ he) (List.getElem_mem hi) (List.getElem_mem hj) (by rw [Clo.pos_idx ho.nodup hi, Clo.pos_idx ho.nodup hj]; exact he)
    rwa [Clo.pos_idx ho.nodup hi, Clo.pos_idx ho.nodup hj] at this
  · have hU := Clo.close_least (Clo.eqv_cong ho m1.good m3 (fun _ h => h)) ho (es := es ++ [⟨a, b⟩]) (fun e he => ⟨i2 e he, i2 e he, by
      rcases List.mem_append.1 he with he | he
      · exact m2 e he
      · obtain rfl := List.mem_singleton.1 he; exact hc⟩)
    have := (hU i j hi hj he).2
    rwa [Clo.pos_idx ho.nodup hi, Clo.pos_idx ho.nodup hj] at this
/-- Equal arguments give equal results. -/
theorem same_parts {s : Sg} {es : List Eqn} {a b : Tm} {f : ByteArray} (h : sameIsB s es a b = true) (hm : moreB s es [.mk f [a], .mk f [b]] = true) : sameIsB s es (.mk f [a]) (.mk f [b]) = true := by
  unfold sameIsB at h ⊢
  rw [hm, Bool.true_and]
  simp only [Bool.and_eq_true, beq_iff_eq] at h ⊢
  have hall : ∀ t ∈ sidesP es ++ [Tm.mk f [a], .mk f [b]], Tm.allIn (moreP es [.mk f [a], .mk f [b]]) t := fun t ht => (Tm.allIns_iff _ _).1 (Tm.addPs_all _ _) t ht
  have hpa := (Tm.allIn_eq _ _).1 (hall (.mk f [a]) (List.mem_append_right _ (by simp)))
  have hpb := (Tm.allIn_eq _ _).1 (hall (.mk f [b]) (List.mem_append_right _ (by simp)))
  have haa := (Tm.allIns_iff _ _).1 hpa.2 a (by simp [Tm.kids])
  have hbb := (Tm.allIns_iff _ _).1 hpb.2 b (by simp [Tm.kids])
  have hsub : ∀ t ∈ moreP es [a, b], t ∈ moreP es [.mk f [a], .mk f [b]] := addPs_least _ [] (by simp) ((Tm.allIns_iff _ _).2 (fun t ht => by
    rcases List.mem_append.1 ht with ht | ht
    · exact hall t (List.mem_append_left _ ht)
    · simp only [List.mem_cons, List.not_mem_nil, or_false] at ht
      rcases ht with rfl | rfl
      · exact haa
      · exact hbb))
  have ho := moreP_ord es [.mk f [a], .mk f [b]]
  have i1 := moreP_eqs es [.mk f [a], .mk f [b]]
  obtain ⟨m1, m2, m3⟩ := Clo.close_made i1
  have h1 := Clo.close_mono ho (moreP_ord es [a, b]) hsub i1 (moreP_eqs es [a, b]) (fun _ h => h) (moreP_mem (List.mem_append_right _ (by simp))) (moreP_mem (List.mem_append_right _ (by simp))) h.2
  have hC := Clo.eqv_cong ho m1.good m3 (fun _ h => h)
  have h2 := hC.cong (.mk f [a]) hpa.1 (.mk f [b]) hpb.1 rfl (by simp [Tm.kids]) (by simp [Tm.kids]) (fun j j1 j2 => by
    have : j = 0 := by simp [Tm.kids] at j1; exact j1
    subst this
    exact ⟨⟨((Tm.allIn_eq _ _).1 haa).1, ((Tm.allIn_eq _ _).1 hbb).1⟩, h1⟩)
  exact h2.2
end Go.Proofs.Ytblbommhodondaa
