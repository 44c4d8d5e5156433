/- The laws on terms that are drawn: FnTermTwo, FnTermParts, FnTermKids, FnTermSort. -/
import Derived.Test.YtblbommhodondaaRdr6
import Derived.Test.YtblbommhodondaaOwn
import Derived.Test.YtblbommhodondaaTermL
namespace Go.Proofs.Ytblbommhodondaa
open Go Go.RowKit
set_option linter.unusedVariables false
set_option linter.unusedSimpArgs false

/-- The first place of a term in a list, or -1. -/
def Tm.plc (l : List Tm) (t : Tm) : Int := match l.findIdx? (fun u => u.beq t) with | some k => k | none => -1
theorem Tm.plc_at {l : List Tm} {t : Tm} {k : Nat} (hk : k < l.length) (hn : t ∉ l.take k) (he : l[k] = t) : Tm.plc l t = k := by
  have : l.findIdx? (fun u => u.beq t) = some k := by
    rw [List.findIdx?_eq_some_iff_getElem]
    refine ⟨hk, by rw [he]; exact Tm.beq_self t, fun j hj => ?_⟩
    intro h
    exact hn (List.mem_iff_getElem.2 ⟨j, by rw [List.length_take]; omega, by rw [List.getElem_take]; exact (Tm.beq_iff _ _).1 h⟩)
  unfold Tm.plc; rw [this]
theorem Tm.plc_no {l : List Tm} {t : Tm} (h : t ∉ l) : Tm.plc l t = -1 := by
  have : l.findIdx? (fun u => u.beq t) = none := by
    rw [List.findIdx?_eq_none_iff]
    intro x hx
    cases hb : x.beq t with
    | false => rfl
    | true => exact absurd ((Tm.beq_iff _ _).1 hb ▸ hx) h
  unfold Tm.plc; rw [this]
theorem Tm.plc_yes {l : List Tm} {t : Tm} (h : t ∈ l) : ∃ k : Nat, k < l.length ∧ Tm.plc l t = k ∧ l[k]? = some t := by
  unfold Tm.plc
  split
  · rename_i k hk
    rw [List.findIdx?_eq_some_iff_getElem] at hk
    obtain ⟨hl, hb, _⟩ := hk
    exact ⟨k, hl, rfl, by rw [List.getElem?_eq_getElem hl, (Tm.beq_iff _ _).1 hb]⟩
  · rename_i hn
    rw [List.findIdx?_eq_none_iff] at hn
    have := hn t h
    rw [Tm.beq_self] at this; simp at this
theorem Tm.plc_bd (l : List Tm) (t : Tm) : -1 ≤ Tm.plc l t ∧ Tm.plc l t ≤ l.length := by
  by_cases h : t ∈ l
  · obtain ⟨k, hk, e, _⟩ := Tm.plc_yes h; omega
  · rw [Tm.plc_no h]; omega
theorem RdRows.take {w : World} {b : Nat} : ∀ {es : List (List CD)} {off : Nat} {fp : List Nat}, RdRows w b off es fp → ∀ i, ∃ fq, RdRows w b off (es.take i) fq ∧ ∀ x ∈ fq, x ∈ fp
  | [], off, fp, h, i => ⟨fp, by simpa using h, fun x hx => hx⟩
  | e :: es, off, fp, h, 0 => ⟨[], by simp [RdRows], by simp⟩
  | e :: es, off, fp, h, i + 1 => by
    simp only [RdRows] at h
    obtain ⟨vs, f1, f2, rfl, hc, hv, hr⟩ := h
    obtain ⟨fq, h1, h2⟩ := hr.take i
    refine ⟨f1 ++ fq, by rw [List.take_succ_cons]; simp only [RdRows]; exact ⟨vs, f1, fq, rfl, hc, hv, h1⟩, fun x hx => ?_⟩
    rcases List.mem_append.1 hx with hx | hx
    · exact List.mem_append_left _ hx
    · exact List.mem_append_right _ (h2 x hx)
/-- What is sliced off at the end. -/
theorem Rd.take {w : World} {es : List (List CD)} {a : Option Addr} {n c : Nat} {fp : List Nat} (h : Rd w (.sl es) (.slice a n c) fp) {i : Nat} (hi : i ≤ es.length) : ∃ fq, Rd w (.sl (es.take i)) (.slice a i c) fq ∧ ∀ x ∈ fq, x ∈ fp := by
  simp only [Rd] at h ⊢
  obtain ⟨a', c', e, h2, h3, h4⟩ := h
  simp only [Value.slice.injEq] at e
  obtain ⟨rfl, rfl, rfl⟩ := e
  have hl : (es.take i).length = i := by rw [List.length_take]; omega
  by_cases h0 : i = 0
  · subst h0
    exact ⟨[], ⟨a, c, by simp, by simp, h3, .inl ⟨by simp, rfl⟩⟩, by simp⟩
  · rcases h4 with ⟨rfl, _⟩ | ⟨hne, b, off, f, rfl, hb, rfl, hr⟩
    · simp at hi; omega
    · obtain ⟨fq, h5, h6⟩ := hr.take i
      refine ⟨b :: fq, ⟨_, c, by rw [hl], by rw [hl]; omega, h3, .inr ⟨?_, b, off, fq, rfl, hb, rfl, h5⟩⟩, fun x hx => ?_⟩
      · intro e; rw [e] at hl; simp at hl; omega
      · rcases List.mem_cons.1 hx with rfl | hx
        · simp
        · exact List.mem_cons_of_mem _ (h6 x hx)
theorem TmsR.take {w : World} {ts : List Tm} {a : Option Addr} {n c : Nat} (h : TmsR w ts (.slice a n c)) {i : Nat} (hi : i ≤ ts.length) : TmsR w (ts.take i) (.slice a i c) := by
  obtain ⟨fp, h⟩ := h
  obtain ⟨fq, h1, _⟩ := h.take (i := i) (by simpa using hi)
  rw [← List.map_take] at h1
  exact ⟨fq, h1⟩
theorem Tm.parts_sq (ts : List Tm) : Tm.sizes (Tm.parts ts) ≤ Tm.sizes ts * Tm.sizes ts := by
  unfold Tm.parts
  split
  · have := Tm.addPs_sizes ts []
    simp only [Tm.sizes] at this; omega
  · simp [Tm.sizes]
theorem wpPlace_any (l : List Tm) (t : Tm) (v x : Value) (w : World) (hv : TmsR w l v) (hx : TmR w t x) :
    Calls Try.prog 17 #[v, x] w fun e w' => e = .returned (.int .i64 (Tm.plc l t)) ∧ Below w.heap.size w w' := by
  obtain ⟨kx, rfl, hs, hk⟩ := hx
  obtain ⟨a, cap, rfl, hc1, hc2⟩ := hk.form
  obtain ⟨a', cap', rfl, hc1', hc2'⟩ := hv.form
  go_enter Try.func17, Try.ntmps17
  go_wp2
  go_loopw [5] (fun i wr => ∃ k : Nat, k ≤ l.length ∧ i = .int .i64 k ∧ Hid (t ∉ l.take k) ∧ Below (w.heap.size + 1) (w.alloc (.cells #[.string t.name, .slice a t.kids.length cap] 37)) wr) (fun i _ => l.length - (intOf i).toNat)
  case atStart => exact ⟨0, Nat.zero_le _, rfl, (by simp : t ∉ l.take 0), Below.refl _ _⟩
  case round =>
    obtain ⟨k, hkl, rfl, hall, hb⟩ := hrel
    obtain ⟨hx, hz, hbb⟩ := box1 hb
    have x0 : wr.cell? ⟨w.heap.size, 0, none⟩ = some (.string t.name) := hx 0
    have x1 : wr.cell? ⟨w.heap.size, 1, none⟩ = some (.slice a t.kids.length cap) := hx 1
    clear hx
    by_cases hlt : k < l.length
    · obtain ⟨b, off, rfl, hbs⟩ := hv.addr (by omega)
      obtain ⟨ka, kc, c0, c1, hss, hkk⟩ := (hv.below hbb).at hlt
      have hkw := hk.below hbb
      go_wp2
      have q0 := cell_regrown c0
      have q1 := cell_regrown c1
      have qx := cell_regrown x0
      have qy := cell_regrown x1
      refine wp_region_quiet_below (by kernel_rfl) (by kernel_rfl) ?_
      repeat (quiet_step (refine Calls.regrown_of (termSame_any _ l[k] t _ _ _ (Nat.le_refl _) ((TmR.mk hss hkk).below (below_regrown _ _ _)) ((TmR.mk hs hkw).below (below_regrown _ _ _)))))
      refine wpQuiet_nil ?_
      intro w2 hw2
      obtain ⟨⟨dq, osq⟩, hw2⟩ := hw2
      have hb2 : Below wr.heap.size wr w2 := hw2 ▸ below_regrown wr dq osq
      clear hw2 q0 q1 qx qy
      go_wp2
      · have he : l[k].beq t = true := by assumption
        go_ret
        exact ⟨retI (Tm.plc_at hlt hall.out ((Tm.beq_iff _ _).1 he)).symm, hbb.trans (hb2.mono (by omega))⟩
      · have he : l[k].beq t = false := by assumption
        go_roundw
        case rel => exact ⟨k + 1, by omega, by go_num, notin_succ hlt hall.out (Tm.beq_no he), hb.trans (hb2.mono (by omega))⟩
        case measure => simp [intOf]; omega
    · have he : l.take k = l := List.take_of_length_le (by omega)
      rw [he] at hall
      go_wp2
      go_ret
      exact ⟨retI (Tm.plc_no hall.out).symm, hbb⟩
end Go.Proofs.Ytblbommhodondaa
