/- Parts of the proof: CloU CloQ CloP. -/
import Derived.Deep.RegionHeld3
import Derived.Test.YtlefdhhnlbpbkaaGreatPv15
import Derived.Test.YtlefdhhnlbpbkaaGreatPv16
section
namespace Go.Proofs.YtlefdhhnlbpbkaaGreat
open Go Go.RowKit
set_option linter.unusedVariables false
set_option linter.unusedSimpArgs false
set_option maxRecDepth 100000
set_option maxHeartbeats 16000000
/-- The parts of equations and of terms more. -/
def zx (es : List Eqn) (ms : List Tm) : List Tm := Tm.addPs [] (zj es ++ ms)
theorem zbA (es : List Eqn) (ms : List Tm) : Tm.Ord (zx es ms) := Tm.addPs_ord _ _ Tm.Ord.nil
theorem zas {es : List Eqn} {ms : List Tm} {t : Tm} (h : t ∈ zj es ++ ms) : t ∈ zx es ms := by
 have := (Tm.allIns_iff (zx es ms) (zj es ++ ms)).1 (Tm.addPs_all _ _) t h
 rw [Tm.allIn_eq] at this
 exact this.1
theorem zat (es : List Eqn) (ms : List Tm) : ∀ e ∈ es, e.a ∈ zx es ms ∧ e.b ∈ zx es ms := fun e he =>
 ⟨zas (List.mem_append_left _ (List.mem_flatMap.2 ⟨e, he, by simp⟩)), zas (List.mem_append_left _ (List.mem_flatMap.2 ⟨e, he, by simp⟩))⟩
theorem moreP_len (es : List Eqn) (ms : List Tm) : (zx es ms).length ≤ Tm.sizes (zj es ++ ms) := by
 have := Tm.addPs_len (zj es ++ ms) []
 simpa [zx] using this
namespace Clo
theorem za9 {ps : List Tm} : ∀ (es : List Eqn) (n : Nat) (c : List Nat) (st : List Stp), (∀ e ∈ es, e.a ∈ ps ∧ e.b ∈ ps) → Good ps.length c → Good ps.length (given ps es n c st).1
 | [], _, _, _, _, h => h
 | e :: es, n, c, st, hin, h => by
  have h1 := hin e (by simp)
  have h2 : ∀ x ∈ es, x.a ∈ ps ∧ x.b ∈ ps := fun x hx => hin x (by simp [hx])
  unfold given
  split
  ·exact za9 es _ _ _ h2 h
  ·exact za9 es _ _ _ h2 (h.join (Tm.pos_yes h1.1).1 (Tm.pos_yes h1.2).1)
theorem zdD {ps : List Tm} : ∀ (f : Nat) (c : List Nat) (st : List Stp), Good ps.length c → Good ps.length (run ps f c st).1
 | 0, _, _, h => h
 | f + 1, c, st, h => by
  unfold run
  cases hn : next ps c with
  | none => exact h
  | some p =>
   obtain ⟨k, i⟩ := p
   obtain ⟨h1, h2, h3⟩ := next_spec hn
   exact zdD f _ _ (h.join (by omega) h2)
theorem close_good {ps : List Tm} {es : List Eqn} (hin : ∀ e ∈ es, e.a ∈ ps ∧ e.b ∈ ps) : Good ps.length (close ps es).1 := by
 rw [close_eq]
 exact zdD _ _ _ (za9 _ _ _ _ hin (Good.start _))
end Clo
/-- The classes, the steps. -/
def cloC (es : List Eqn) (ms : List Tm) : List Nat := (Clo.close (zx es ms) es).1
def cloS (es : List Eqn) (ms : List Tm) : List Stp := (Clo.close (zx es ms) es).2
theorem zbB (es : List Eqn) (ms : List Tm) : Clo.Good (zx es ms).length (cloC es ms) := Clo.close_good (zat es ms)
def AllSrt (s : Sg) (ms : List Tm) (k : Nat) : Prop := ∀ j, j < k → ∀ (hj : j < ms.length), (ms[j].tsrt s).isSome = true
theorem AllSrt.succ {s : Sg} {ms : List Tm} {k : Nat} (h : AllSrt s ms k) (hk : k < ms.length) (h' : (ms[k].tsrt s).isSome = true) : AllSrt s ms (k + 1) := fun j hj hl => by
 rcases Nat.lt_or_ge j k with h1 | h1
 ·exact h j h1 hl
 ·obtain rfl : j = k := by omega
  exact h'
theorem AllSrt.all {s : Sg} {ms : List Tm} {k : Nat} (h : AllSrt s ms k) (hk : ms.length ≤ k) : ms.all (fun t => (t.tsrt s).isSome) = true := by
 rw [List.all_eq_true]
 intro t ht
 obtain ⟨j, hj, rfl⟩ := List.getElem_of_mem ht
 exact h j (by omega) hj
theorem moreB_no {s : Sg} {es : List Eqn} {ms : List Tm} {k : Nat} (hk : k < ms.length) (h : (ms[k].tsrt s).isSome = false) : zar s es ms = false := by
 have : ms.all (fun t => (t.tsrt s).isSome) = false := by
  rw [Bool.eq_false_iff]; intro h'; rw [List.all_eq_true] at h'
  have := h' ms[k] (zes hk)
  rw [h] at this; simp at this
 simp [zar, this]
theorem zd1 {s : Sg} {es : List Eqn} {ms : List Tm} {k : Nat} (hk : ms.length ≤ k) (h : AllSrt s ms k) : zar s es ms = (eqsB s es && decide ((zx es ms).length ≤ 24)) := by
 unfold zar zx; rw [h.all hk]; simp
theorem zd2 {s : Sg} {es : List Eqn} (h : eqsB s es = true) : es.length ≤ 12 := by
 simp only [eqsB, zex, decide_eq_true_eq] at h; exact h.2.1
theorem zaC {s : Sg} {es : List Eqn} {ms : List Tm} (h : zar s es ms = true) : es.length ≤ 12 ∧ (zx es ms).length ≤ 24 := by
 simp only [zar, zex, decide_eq_true_eq] at h
 exact ⟨zd2 h.1, h.2.2⟩
theorem zb8 (s : Sg) (es : List Eqn) (ms : List Tm) (vs : List Value) (v v2 : Value) (f f' f2 : List Nat) (w : World) (hbig : Tm.sizes (zj es ++ ms) ≤ 1000000000) (hv : RdVs w s.cd vs f) (hx : Rd w (.sl (es.map Eqn.cd)) v f') (h2 : Rd w (.sl (ms.map Tm.cd)) v2 f2) :
  Calls Tryz.prog 74 #[.agg vs.toArray, v, v2] w fun e w' => e = .returned (.bool (zar s es ms)) ∧ Below w.heap.size w w' := by
 obtain ⟨a0, c0, f0, rfl, _, m0⟩ := Sg.open hv
 obtain ⟨a, cap, rfl, hc1, hc2⟩ := zd hx
 obtain ⟨a2, cap2, rfl, hc3, hc4⟩ := zd h2
 have hbs := hbig
 rw [Tm.sizes_append] at hbs
 go_enter Tryz.func74, Tryz.ntmps74
 go_wp2_with fail
 go_loopw [7] (fun i wq => ∃ k : Nat, k ≤ ms.length ∧ i = .int .i64 k ∧ Hid (AllSrt s ms k) ∧ wq.cell? ⟨w.heap.size, 0, none⟩ = some (.slice a0 s.syms.length c0) ∧ w.heap.size < wq.heap.size ∧ Below w.heap.size w wq) (fun i _ => ms.length - (intOf i).toNat)
 case atStart => exact ⟨0, Nat.zero_le _, rfl, Lib.hid (fun j hj => by omega), by simp, by simp, zb _ _⟩
 case round =>
  obtain ⟨k, hkl, rfl, hall, cx, hz3, hBM⟩ := hrel
  by_cases hlt : k < ms.length
  ·obtain ⟨b, off, rfl, hbs2, _⟩ := zm h2 (by omega)
   have hbz : b < wr.heap.size := by omega
   obtain ⟨b1, e1, g1, d0, d1, t0, t1, _⟩ := Tm.at (h2.below hBM) hlt
   have hvM := hv.below hBM
   have ha1 := Tm.size_mem (zes hlt)
   go_wp2_with fail
   go_region_held3 (fun W => W.cell? ⟨w.heap.size, 0, none⟩ = some (.slice a0 s.syms.length c0) ∧ W.cell? ⟨b, off + k * 2, none⟩ = some (.string ms[k].name) ∧ W.cell? ⟨b, off + k * 2 + 1, none⟩ = some (.slice b1 ms[k].kids.length e1))
    (first | exact ⟨cx, d0, d1⟩ | exact ⟨za cx (zh hb4), za d0 (zh hb4), za d1 (zh hb4)⟩)
    (first | (go_at_call 42; (with_reducible refine (zaf s ms[k] (by omega) _ _ _ _ _ (by exact hvM.below (zi _)) (by exact (Tm.rdv t0 t1).below (zi _))).mono ?_); rintro e w4 ⟨rfl, hb4⟩))
   have hB4 := hBM.trans ((zh hb4).mono hBM.size)
   have hz4 := (zh hb4).size
   have cx4 := za cx (zh hb4)
   have hz5 : w.heap.size < w4.heap.size := by omega
   clear hb4 d0 d1 cx
   cases ho : ms[k].tsrt s with
   | none =>
    have HF := Lib.hid (moreB_no (es := es) hlt (by rw [ho]; rfl))
    clear ho
    simp only [Option.getD_none, Option.isSome_none]
    go_wp2_with fail
    go_ret
    exact ⟨retB HF.out.symm, hB4⟩
   | some m =>
    have HE := Lib.hid (hall.out.succ hlt (by rw [ho]; rfl))
    clear ho
    simp only [Option.getD_some, Option.isSome_some]
    go_wp2_with fail
    go_roundw
    case rel => exact ⟨k + 1, by omega, by go_num, HE, cx4, hz5, hB4⟩
    case measure => simp [intOf]; omega
  ·have HF := Lib.hid (zd1 (es := es) (by omega) hall.out)
   have hlp := moreP_len es ms
   go_wp2_with fail
   refine (za8 s es _ _ _ _ _ (by omega) (hv.below hBM) (hx.below hBM)).mono ?_
   rintro e w4 ⟨rfl, hb4⟩
   have hB4 := hBM.trans (hb4.mono hBM.size)
   clear hb4
   cases h1 : eqsB s es
   ·have HG : Hid (zar s es ms = false) := Lib.hid (by rw [HF.out, h1]; rfl)
    clear h1
    go_wp2_with fail
    go_ret
    exact ⟨retB HG.out.symm, hB4⟩
   have HG : Hid (zar s es ms = decide ((zx es ms).length ≤ 24)) := Lib.hid (by rw [HF.out, h1]; rfl)
   clear h1
   go_wp2_with fail
   refine (zO es ms _ _ _ _ _ hbig (hx.below hB4) (h2.below hB4)).mono ?_
   rintro e w5 ⟨⟨rv, fp, rfl, hr, _⟩, hb5⟩
   have hB5 := hB4.trans (hb5.mono hB4.size)
   change Rd w5 (.sl ((zx es ms).map Tm.cd)) rv fp at hr
   obtain ⟨ra, rc, rfl, hrc1, hrc2⟩ := zd hr
   clear hb5 hr
   go_wp2_with fail
   go_ret
   exact ⟨retB (by rw [HG.out, Bool.eq_iff_iff]; simp only [decide_eq_true_eq]; omega), hB5⟩
namespace Clo
theorem zbH {n : Nat} {c : List Nat} (h : Good n c) {a b i j : Nat} (hi : i < n) (hj : j < n) (he : cl c i = cl c j) : cl (join c a b) i = cl (join c a b) j := by
 rw [zan (by rw [h.1]; exact hi), zan (by rw [h.1]; exact hj), he]
theorem zcX {n : Nat} {c : List Nat} (h : Good n c) {a b : Nat} (ha : a < n) (hb : b < n) : cl (join c a b) a = cl (join c a b) b := by
 rw [zan (by rw [h.1]; exact ha), zan (by rw [h.1]; exact hb)]
 unfold hi lo
 rcases Nat.le_total (cl c a) (cl c b) with h1 | h1
 ·rw [Nat.max_eq_right h1, Nat.min_eq_left h1]
  by_cases h2 : cl c a = cl c b
  ·rw [if_pos h2, if_pos rfl]
  ·rw [if_neg h2, if_pos rfl]
 ·rw [Nat.max_eq_left h1, Nat.min_eq_right h1]
  by_cases h2 : cl c b = cl c a
  ·rw [if_pos rfl, if_pos h2]
  ·rw [if_pos rfl, if_neg h2]
/-- The steps that a run of the closure has made, and the classes behind them. -/
structure Made (n : Nat) (c : List Nat) (st : List Stp) : Prop where
 good : Good n c
 count : roots n c + st.length = n
 step : ∀ s ∈ st, ∃ a b : Nat, s.a = a ∧ s.b = b ∧ a ≠ b ∧ a < n ∧ b < n ∧ cl c a = cl c b
theorem Made.start (n : Nat) : Made n (List.range n) [] := ⟨Good.start n, by rw [zdf]; simp, by simp⟩
theorem Made.join {n : Nat} {c : List Nat} {st : List Stp} (h : Made n c st) {a b : Nat} {g : Int} (ha : a < n) (hb : b < n) (hne : cl c a ≠ cl c b) : Made n (Clo.join c a b) (st ++ [⟨a, b, g⟩]) := by
 refine ⟨h.good.join ha hb, ?_, fun s hs => ?_⟩
 ·have := za7 h.good ha hb hne
  have := h.count
  simp only [zet, List.length_cons, List.length_nil]; omega
 ·rcases zer.1 hs with hs | hs
  ·obtain ⟨x, y, h1, h2, h3, h4, h5, h6⟩ := h.step s hs
   exact ⟨x, y, h1, h2, h3, h4, h5, zbH h.good h4 h5 h6⟩
  ·obtain rfl := List.mem_singleton.1 hs
   exact ⟨a, b, rfl, rfl, fun e => hne (by rw [e]), ha, hb, zcX h.good ha hb⟩
/-- Two parts are in one class. -/
def One (c : List Nat) (i j : Nat) : Prop := cl c i = cl c j
theorem zbc {ps : List Tm} : ∀ (es : List Eqn) (m : Nat) (c : List Nat) (st : List Stp), (∀ e ∈ es, e.a ∈ ps ∧ e.b ∈ ps) → Made ps.length c st →
  Made ps.length (given ps es m c st).1 (given ps es m c st).2 ∧ (∀ i j, i < ps.length → j < ps.length → One c i j → One (given ps es m c st).1 i j) ∧ ∀ e ∈ es, One (given ps es m c st).1 (Tm.pos ps e.a) (Tm.pos ps e.b)
 | [], m, c, st, _, h => ⟨h, fun _ _ _ _ h => h, by simp⟩
 | e :: es, m, c, st, hin, h => by
  have h1 := hin e (by simp)
  have hpa := (Tm.pos_yes h1.1).1
  have hpb := (Tm.pos_yes h1.2).1
  have h2 : ∀ x ∈ es, x.a ∈ ps ∧ x.b ∈ ps := fun x hx => hin x (by simp [hx])
  unfold given
  split
  ·rename_i heq
   obtain ⟨q1, q2, q3⟩ := zbc es (m + 1) c st h2 h
   refine ⟨q1, q2, fun x hx => ?_⟩
   rcases zev.1 hx with rfl | hx
   ·exact q2 _ _ hpa hpb heq
   ·exact q3 x hx
  ·rename_i hne
   obtain ⟨q1, q2, q3⟩ := zbc es (m + 1) (join c (Tm.pos ps e.a) (Tm.pos ps e.b)) (st ++ [⟨Tm.pos ps e.a, Tm.pos ps e.b, m⟩]) h2 (h.join hpa hpb hne)
   refine ⟨q1, fun i j hi hj he => q2 i j hi hj (zbH h.good hi hj he), fun x hx => ?_⟩
   rcases zev.1 hx with rfl | hx
   ·exact q2 _ _ hpa hpb (zcX h.good hpa hpb)
   ·exact q3 x hx
theorem zeb {ps : List Tm} {c : List Nat} (h : ps.length = 0) : next ps c = none := by unfold next; rw [h]; rfl
theorem zdK {ps : List Tm} : ∀ (f : Nat) (c : List Nat) (st : List Stp), roots ps.length c ≤ f → Made ps.length c st →
  Made ps.length (run ps f c st).1 (run ps f c st).2 ∧ (∀ i j, i < ps.length → j < ps.length → One c i j → One (run ps f c st).1 i j) ∧ next ps (run ps f c st).1 = none
 | 0, c, st, hf, h => by
  refine ⟨h, fun _ _ _ _ h => h, ?_⟩
  rcases Nat.eq_zero_or_pos ps.length with h0 | h0
  ·exact zeb h0
  ·have := roots_pos h.good h0; omega
 | f + 1, c, st, hf, h => by
  unfold run
  cases hn : next ps c with
  | none => exact ⟨h, fun _ _ _ _ h => h, hn⟩
  | some p =>
   obtain ⟨k, i⟩ := p
   obtain ⟨h1, h2, h3⟩ := next_spec hn
   have hne := bad_ne h3
   have hr := za7 h.good (by omega : k < ps.length) h2 hne
   obtain ⟨q1, q2, q3⟩ := zdK f (join c k i) (st ++ [⟨k, i, -1⟩]) (by omega) (h.join (by omega) h2 hne)
   exact ⟨q1, fun x y hx hy he => q2 x y hx hy (zbH h.good hx hy he), q3⟩
/-- The closure: made of steps, with the given equations, and with no pair left. -/
theorem close_made {ps : List Tm} {es : List Eqn} (hin : ∀ e ∈ es, e.a ∈ ps ∧ e.b ∈ ps) :
  Made ps.length (close ps es).1 (close ps es).2 ∧ (∀ e ∈ es, One (close ps es).1 (Tm.pos ps e.a) (Tm.pos ps e.b)) ∧ next ps (close ps es).1 = none := by
 obtain ⟨g1, g2, g3⟩ := zbc es 0 (List.range ps.length) [] hin (Made.start _)
 obtain ⟨r1, r2, r3⟩ := zdK ps.length _ _ (roots_le _ _) g1
 rw [close_eq]
 exact ⟨r1, fun e he => r2 _ _ (Tm.pos_yes (hin e he).1).1 (Tm.pos_yes (hin e he).2).1 (g3 e he), r3⟩
end Clo
namespace Clo
theorem join_one {n : Nat} {c : List Nat} (h : Good n c) {a b i j : Nat} (hi' : i < n) (hj : j < n) (he : One (join c a b) i j) : One c i j ∨ (One c i a ∧ One c b j) ∨ (One c i b ∧ One c a j) := by
 unfold One at he ⊢
 rw [zan (by rw [h.1]; exact hi'), zan (by rw [h.1]; exact hj)] at he
 unfold hi lo at he
 rcases Nat.le_total (cl c a) (cl c b) with h1 | h1
 ·rw [Nat.max_eq_right h1, Nat.min_eq_left h1] at he
  by_cases h2 : cl c i = cl c b
  ·by_cases h3 : cl c j = cl c b
   ·exact .inl (h2.trans h3.symm)
   ·rw [if_pos h2, if_neg h3] at he
    exact .inr (.inr ⟨h2, he⟩)
  ·by_cases h3 : cl c j = cl c b
   ·rw [if_neg h2, if_pos h3] at he
    exact .inr (.inl ⟨he, h3.symm⟩)
   ·rw [if_neg h2, if_neg h3] at he
    exact .inl he
 ·rw [Nat.max_eq_left h1, Nat.min_eq_right h1] at he
  by_cases h2 : cl c i = cl c a
  ·by_cases h3 : cl c j = cl c a
   ·exact .inl (h2.trans h3.symm)
   ·rw [if_pos h2, if_neg h3] at he
    exact .inr (.inl ⟨h2, he⟩)
  ·by_cases h3 : cl c j = cl c a
   ·rw [if_neg h2, if_pos h3] at he
    exact .inr (.inr ⟨he, h3.symm⟩)
   ·rw [if_neg h2, if_neg h3] at he
    exact .inl he
/-- A congruence on parts. -/
structure Cong (ps : List Tm) (R : Tm → Tm → Prop) : Prop where
 rfl' : ∀ t ∈ ps, R t t
 symm : ∀ t u, R t u → R u t
 trans : ∀ t u v, R t u → R u v → R t v
 cong : ∀ t ∈ ps, ∀ u ∈ ps, t.name = u.name → 0 < t.kids.length → t.kids.length = u.kids.length → (∀ j (h1 : j < t.kids.length) (h2 : j < u.kids.length), R t.kids[j] u.kids[j]) → R t u
/-- What is joined is R. -/
def Under (ps : List Tm) (R : Tm → Tm → Prop) (c : List Nat) : Prop := ∀ i j (hi : i < ps.length) (hj : j < ps.length), One c i j → R ps[i] ps[j]
theorem pos_get {ps : List Tm} {t : Tm} (h : t ∈ ps) : ∃ hp : Tm.pos ps t < ps.length, ps[Tm.pos ps t] = t := by
 obtain ⟨h1, h2⟩ := Tm.pos_yes h
 exact ⟨h1, by rw [List.getElem?_eq_getElem h1] at h2; exact Option.some.inj h2⟩
theorem Under.at {ps : List Tm} {R : Tm → Tm → Prop} {c : List Nat} (h : Under ps R c) {t u : Tm} (ht : t ∈ ps) (hu : u ∈ ps) (ho : One c (Tm.pos ps t) (Tm.pos ps u)) : R t u := by
 obtain ⟨p1, e1⟩ := pos_get ht
 obtain ⟨p2, e2⟩ := pos_get hu
 have := h _ _ p1 p2 ho
 rwa [e1, e2] at this
theorem Under.join {ps : List Tm} {R : Tm → Tm → Prop} {c : List Nat} (h : Under ps R c) (hR : Cong ps R) (hg : Good ps.length c) {a b : Nat} (ha : a < ps.length) (hb : b < ps.length) (hab : R ps[a] ps[b]) : Under ps R (Clo.join c a b) := by
 intro i j hi hj he
 rcases join_one hg hi hj he with h1 | ⟨h1, h2⟩ | ⟨h1, h2⟩
 ·exact h i j hi hj h1
 ·exact hR.trans _ _ _ (h i a hi ha h1) (hR.trans _ _ _ hab (h b j hb hj h2))
 ·exact hR.trans _ _ _ (h i b hi hb h1) (hR.trans _ _ _ (hR.symm _ _ hab) (h a j ha hj h2))
end Clo
end Go.Proofs.YtlefdhhnlbpbkaaGreat
end
