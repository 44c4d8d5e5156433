/- Parts of the proof: TermW2 ExLib SameLib Sig. -/
import Derived.Lib.QuietBelow
import Derived.Test.YtlhochahokbonaaPa3
import Derived.Test.YtlhochahokbonaaPa2
import Derived.Test.YtlhochahokbonaaPa6
import Derived.Deep.QuietTactic
import Derived.BigQuiet
namespace Go.Proofs.Ytlhochahokbonaa
open Go Go.RowKit
set_option linter.unusedVariables false
set_option linter.unusedSimpArgs false
theorem Tm.ext {t u : Tm} (h : t.name = u.name) (h' : t.kids = u.kids) : t = u := by cases t; cases u; simp_all [Tm.name, Tm.kids]
theorem take_eq_succ {α : Type} {a b : List α} {k : Nat} (h1 : k < a.length) (h2 : k < b.length) (h : a.take k = b.take k) (he : a[k] = b[k]) : a.take (k + 1) = b.take (k + 1) := by
  rw [List.take_succ_eq_append_getElem h1, List.take_succ_eq_append_getElem h2, h, he]
theorem l4TermSame_any (n : Nat) : ∀ (t u : Tm) (v x : Value) (w : World), t.size ≤ n → TmR w t v → TmR w u x →
    Calls Try.prog 115 #[v, x] w fun e w' => e = .returned (.bool (t.beq u)) ∧ Below w.heap.size w w' := by
  induction n with
  | zero => intro t; have := t.size_pos; omega
  | succ n ih =>
    rintro t u v x w hn ⟨kv, rfl, hs, hk⟩ ⟨kx, rfl, hs', hk'⟩
    obtain ⟨a, cap, rfl, hc1, hc2⟩ := hk.form
    obtain ⟨a', cap', rfl, hc1', hc2'⟩ := hk'.form
    by_cases hc : t.name.toList = u.name.toList ∧ t.kids.length = u.kids.length
    · obtain ⟨hnm, hl⟩ := hc
      have hlb : ((t.kids.length : Int) != (u.kids.length : Int)) = false := by rw [hl]; simp
      have HL := Lib.hid hl
      have hl1 : t.kids.length ≤ u.kids.length := by omega
      have hl2 : u.kids.length ≤ t.kids.length := by omega
      have HN := Lib.hid (bytes_inj.1 hnm)
      clear hl
      go_enter Try.func115, Try.ntmps115
      go_wp2
      go_loopw [5] (fun i wr => ∃ k : Nat, k ≤ t.kids.length ∧ i = .int .i64 k ∧ Hid (t.kids.take k = u.kids.take k) ∧ Below (w.heap.size + 1 + 1) ((w.alloc (.cells #[.string t.name, .slice a t.kids.length cap] 28)).alloc (.cells #[.string u.name, .slice a' u.kids.length cap'] 28)) wr) (fun i _ => t.kids.length - (intOf i).toNat)
      case atStart => exact ⟨0, Nat.zero_le _, rfl, rfl, Below.refl _ _⟩
      case round =>
        obtain ⟨k, hkl, rfl, hall, hb⟩ := hrel
        obtain ⟨hx, hy, hz, hbb⟩ := box2 hb
        have x1 : wr.cell? ⟨w.heap.size, 1, none⟩ = some (.slice a t.kids.length cap) := hx 1
        have y1 : wr.cell? ⟨w.heap.size + 1, 1, none⟩ = some (.slice a' u.kids.length cap') := hy 1
        clear hx hy
        by_cases hlt : k < t.kids.length
        · obtain ⟨b, off, rfl, hbs⟩ := hk.addr (by omega)
          obtain ⟨b', off', rfl, hbs'⟩ := hk'.addr (by omega)
          have hlt' : k < u.kids.length := by omega
          obtain ⟨ka, kc, c0, c1, hss, hkk⟩ := (hk.below hbb).at hlt
          obtain ⟨ka', kc', c0', c1', hss', hkk'⟩ := (hk'.below hbb).at hlt'
          have hkn := Tm.size_kid hlt
          go_wp2
          have q0 := cell_regrown c0
          have q1 := cell_regrown c1
          have q0' := cell_regrown c0'
          have q1' := cell_regrown c1'
          have qx := cell_regrown x1
          have qy := cell_regrown y1
          refine wp_region_quiet_below (by kernel_rfl) (by kernel_rfl) ?_
          repeat (quiet_step (refine Calls.regrown_of (ih t.kids[k] u.kids[k] _ _ _ (by omega) ((TmR.mk hss hkk).below (below_regrown _ _ _)) ((TmR.mk hss' hkk').below (below_regrown _ _ _)))))
          refine wpQuiet_nil ?_
          intro w2 hw2
          obtain ⟨⟨dq, osq⟩, hw2⟩ := hw2
          have hb2 : Below wr.heap.size wr w2 := hw2 ▸ below_regrown wr dq osq
          clear hw2 q0 q1 q0' q1' qx qy
          go_wp2
          · have he : t.kids[k].beq u.kids[k] = false := by simpa using ‹(!t.kids[k].beq u.kids[k]) = true›
            go_ret
            refine ⟨retB ?_, hbb.trans (hb2.mono (by omega))⟩
            rw [eq_comm, Bool.eq_false_iff]
            intro h
            rw [Tm.beq_iff] at h
            subst h
            rw [(Tm.beq_iff _ _).2 rfl] at he
            simp at he
          · have he : t.kids[k].beq u.kids[k] = true := by simpa using ‹(!t.kids[k].beq u.kids[k]) = false›
            go_roundw
            case rel => exact ⟨k + 1, by omega, by go_num, take_eq_succ hlt hlt' hall.out ((Tm.beq_iff _ _).1 he), hb.trans (hb2.mono (by omega))⟩
            case measure => simp [intOf]; omega
        · have he : t.kids.take k = t.kids := List.take_of_length_le (by omega)
          have he' : u.kids.take k = u.kids := List.take_of_length_le (by omega)
          rw [he, he'] at hall
          go_wp2
          go_ret
          exact ⟨retB ((Tm.beq_iff _ _).2 (Tm.ext HN.out hall.out)).symm, hbb⟩
    · have hfin : t.beq u = false := by
        rw [Bool.eq_false_iff]; intro h; rw [Tm.beq_iff] at h; subst h; exact hc ⟨rfl, rfl⟩
      have HF := Lib.hid hfin
      have HC := Lib.hid hc
      clear hfin hc
      by_cases hnm : t.name.toList = u.name.toList
      · have hlb : ((t.kids.length : Int) != (u.kids.length : Int)) = true := by
          rw [bne_iff_ne]; intro h; exact HC.out ⟨hnm, by omega⟩
        go_enter Try.func115, Try.ntmps115
        go_wp2
        go_ret
        exact ⟨retB HF.out.symm, ((Below.refl _ _).alloc (Nat.le_refl _) _).alloc (by simp) _⟩
      · go_enter Try.func115, Try.ntmps115
        go_wp2
        all_goals (go_ret; exact ⟨retB HF.out.symm, ((Below.refl _ _).alloc (Nat.le_refl _) _).alloc (by simp) _⟩)
theorem notin_succ {l : List Tm} {t : Tm} {k : Nat} (hk : k < l.length) (h : t ∉ l.take k) (hn : l[k] ≠ t) : t ∉ l.take (k + 1) := by
  rw [List.take_succ_eq_append_getElem hk]; simp only [List.mem_append, List.mem_singleton]; rintro (h' | h')
  · exact h h'
  · exact hn h'.symm
/-- spec.l4Place -/
theorem l4Place_any (l : List Tm) (t : Tm) (v x : Value) (w : World) (hv : TmsR w l v) (hx : TmR w t x) :
    Calls Try.prog 127 #[v, x] w fun e w' => (∃ n, e = .returned (.int .i64 n) ∧ Tm.IsPlace l t n) ∧ Below w.heap.size w w' := by
  obtain ⟨kx, rfl, hs, hk⟩ := hx
  obtain ⟨a, cap, rfl, hc1, hc2⟩ := hk.form
  obtain ⟨a', cap', rfl, hc1', hc2'⟩ := hv.form
  go_enter Try.func127, Try.ntmps127
  go_wp2
  go_loopw [5] (fun i wr => ∃ k : Nat, k ≤ l.length ∧ i = .int .i64 k ∧ Hid (t ∉ l.take k) ∧ Below (w.heap.size + 1) (w.alloc (.cells #[.string t.name, .slice a t.kids.length cap] 28)) wr) (fun i _ => l.length - (intOf i).toNat)
  case atStart => exact ⟨0, Nat.zero_le _, rfl, (by simp : t ∉ l.take 0), Below.refl _ _⟩
  case round =>
    obtain ⟨k, hkl, rfl, hall, hb⟩ := hrel
    obtain ⟨hx, hz, hbb⟩ := box1 hb
    have x0 : wr.cell? ⟨w.heap.size, 0, none⟩ = some (.string t.name) := hx 0
    have x1 : wr.cell? ⟨w.heap.size, 1, none⟩ = some (.slice a t.kids.length cap) := hx 1
    clear hx
    by_cases hlt : k < l.length
    · obtain ⟨b, off, rfl, hbs⟩ := hv.addr (by omega)
      obtain ⟨ka, kc, c0, c1, hss, hkk⟩ := (hv.below hbb).at hlt
      have hkw := hk.below hbb
      go_wp2
      have q0 := cell_regrown c0
      have q1 := cell_regrown c1
      have qx := cell_regrown x0
      have qy := cell_regrown x1
      refine wp_region_quiet_below (by kernel_rfl) (by kernel_rfl) ?_
      repeat (quiet_step (refine Calls.regrown_of (l4TermSame_any _ l[k] t _ _ _ (Nat.le_refl _) ((TmR.mk hss hkk).below (below_regrown _ _ _)) ((TmR.mk hs hkw).below (below_regrown _ _ _)))))
      refine wpQuiet_nil ?_
      intro w2 hw2
      obtain ⟨⟨dq, osq⟩, hw2⟩ := hw2
      have hb2 : Below wr.heap.size wr w2 := hw2 ▸ below_regrown wr dq osq
      clear hw2 q0 q1 qx qy
      go_wp2
      · have he : l[k].beq t = true := by assumption
        go_ret
        exact ⟨⟨k, rfl, .inr ⟨k, hlt, rfl, by rw [List.getElem?_eq_getElem hlt, (Tm.beq_iff _ _).1 he]⟩⟩, hbb.trans (hb2.mono (by omega))⟩
      · have he : l[k].beq t = false := by assumption
        go_roundw
        case rel => exact ⟨k + 1, by omega, by go_num, notin_succ hlt hall.out (Tm.beq_no he), hb.trans (hb2.mono (by omega))⟩
        case measure => simp [intOf]; omega
    · have he : l.take k = l := List.take_of_length_le (by omega)
      rw [he] at hall
      go_wp2
      go_ret
      exact ⟨⟨-1, rfl, .inl ⟨rfl, hall.out⟩⟩, hbb⟩
/-- slices.EqualFunc at terms, over impl.TermSame. -/
theorem equalTerms_any (n : Nat) (ih : ∀ (t u : Tm) (v x : Value) (w : World), t.size ≤ n → TmR w t v → TmR w u x →
      Calls Try.prog 12 #[v, x] w fun e w' => e = .returned (.bool (t.beq u)) ∧ Below w.heap.size w w') :
    ∀ (ts us : List Tm) (v x : Value) (w : World), (∀ t ∈ ts, t.size ≤ n) → TmsR w ts v → TmsR w us x →
    Calls Try.prog 37 #[v, x, .func (.func 12) #[] #[]] w fun e w' => e = .returned (.bool (Tm.beqs ts us)) ∧ Below w.heap.size w w' := by
  intro ts us v x w hn hv hx
  obtain ⟨a, cap, rfl, hc1, hc2⟩ := hv.form
  obtain ⟨a', cap', rfl, hc1', hc2'⟩ := hx.form
  have IH := Lib.hid ih
  clear ih
  by_cases hl : ts.length = us.length
  · have hlb : ((ts.length : Int) != (us.length : Int)) = false := by rw [hl]; simp
    have hl1 : ts.length ≤ us.length := by omega
    have hl2 : us.length ≤ ts.length := by omega
    clear hl
    go_enter Try.func37, Try.ntmps37
    go_wp2_with fail
    go_loopw [17] (fun i wr => ∃ k : Nat, k ≤ ts.length ∧ i = .int .i64 k ∧ Hid (ts.take k = us.take k) ∧ Below w.heap.size w wr) (fun i _ => ts.length - (intOf i).toNat)
    case atStart => exact ⟨0, Nat.zero_le _, rfl, rfl, Below.refl _ _⟩
    case round =>
      obtain ⟨k, hkl, rfl, hall, hb⟩ := hrel
      have hz := hb.size
      by_cases hlt : k < ts.length
      · obtain ⟨b, off, rfl, hbs⟩ := hv.addr (by omega)
        obtain ⟨b', off', rfl, hbs'⟩ := hx.addr (by omega)
        have hlt' : k < us.length := by omega
        obtain ⟨ka, kc, c0, c1, hss, hkk⟩ := (hv.below hb).at hlt
        obtain ⟨ka', kc', c0', c1', hss', hkk'⟩ := (hx.below hb).at hlt'
        have hbz : b' < wr.heap.size := by omega
        go_wp2_with fail
        refine (IH.out ts[k] us[k] _ _ _ (hn _ (List.getElem_mem hlt)) (by exact (TmR.mk hss hkk).below (((Below.refl _ _).alloc (Nat.le_refl _) _).alloc (by simp) _)) (by exact (TmR.mk hss' hkk').below (((Below.refl _ _).alloc (Nat.le_refl _) _).alloc (by simp) _))).mono ?_
        rintro e w2 ⟨rfl, hb2⟩
        have hb3 : Below wr.heap.size wr w2 := (((Below.refl _ _).alloc (Nat.le_refl _) _).alloc (by simp) _).trans (hb2.mono (by simp; omega))
        clear hb2
        go_wp2_with fail
        · have he : ts[k].beq us[k] = false := by simpa using ‹(!ts[k].beq us[k]) = true›
          go_ret
          refine ⟨retB ?_, hb.trans (hb3.mono (by omega))⟩
          rw [eq_comm, Bool.eq_false_iff]
          intro h
          rw [Tm.beqs_iff] at h
          subst h
          exact Tm.beq_no he rfl
        · have he : ts[k].beq us[k] = true := by simpa using ‹(!ts[k].beq us[k]) = false›
          go_roundw
          case rel => exact ⟨k + 1, by omega, by go_num, take_eq_succ hlt hlt' hall.out ((Tm.beq_iff _ _).1 he), hb.trans (hb3.mono (by omega))⟩
          case measure => simp [intOf]; omega
      · have he : ts.take k = ts := List.take_of_length_le (by omega)
        have he' : us.take k = us := List.take_of_length_le (by omega)
        rw [he, he'] at hall
        go_wp2_with fail
        go_ret
        exact ⟨retB ((Tm.beqs_iff _ _).2 hall.out).symm, hb⟩
  · have hlb : ((ts.length : Int) != (us.length : Int)) = true := by rw [bne_iff_ne]; omega
    have hfin : Tm.beqs ts us = false := by
      rw [Bool.eq_false_iff]; intro h; rw [Tm.beqs_iff] at h; exact hl (by rw [h])
    have HF := Lib.hid hfin
    clear hl hfin
    go_enter Try.func37, Try.ntmps37
    go_wp2_with fail
    go_ret
    exact ⟨retB HF.out.symm, Below.refl _ _⟩
theorem termSame_any (n : Nat) : ∀ (t u : Tm) (v x : Value) (w : World), t.size ≤ n → TmR w t v → TmR w u x →
    Calls Try.prog 12 #[v, x] w fun e w' => e = .returned (.bool (t.beq u)) ∧ Below w.heap.size w w' := by
  induction n with
  | zero => intro t; have := t.size_pos; omega
  | succ n ih =>
    rintro t u v x w hn ⟨kv, rfl, hs, hk⟩ ⟨kx, rfl, hs', hk'⟩
    obtain ⟨a, cap, rfl, hc1, hc2⟩ := hk.form
    obtain ⟨a', cap', rfl, hc1', hc2'⟩ := hk'.form
    have HB := Lib.hid (show t.beq u = (decide (t.name = u.name) && Tm.beqs t.kids u.kids) from by cases t; cases u; rfl)
    have HK : Hid (∀ x ∈ t.kids, x.size ≤ n) := fun x hx => by have := Tm.size_kid_mem hx; omega
    have IH := Lib.hid ih
    clear ih
    by_cases hnm : t.name.toList = u.name.toList
    · have HN := Lib.hid (bytes_inj.1 hnm)
      go_enter Try.func12, Try.ntmps12
      go_wp2_with fail
      refine (equalTerms_any n IH.out t.kids u.kids _ _ _ HK.out (hk.below (((Below.refl _ _).alloc (Nat.le_refl _) _).alloc (by simp) _)) (hk'.below (((Below.refl _ _).alloc (Nat.le_refl _) _).alloc (by simp) _))).mono ?_
      rintro e w2 ⟨rfl, hb2⟩
      go_wp2_with fail
      go_ret
      exact ⟨retB (by rw [HB.out, HN.out]; simp), (((Below.refl _ _).alloc (Nat.le_refl _) _).alloc (by simp) _).trans (hb2.mono (by simp; omega))⟩
    · have HN := Lib.hid (fun h => hnm (bytes_inj.2 h))
      go_enter Try.func12, Try.ntmps12
      go_wp2_with fail
      go_ret
      exact ⟨retB (by rw [HB.out, decide_eq_false HN.out]; rfl), ((Below.refl _ _).alloc (Nat.le_refl _) _).alloc (by simp) _⟩
end Go.Proofs.Ytlhochahokbonaa
namespace Go.Proofs.Ytlhochahokbonaa
open Go Go.RowKit
set_option linter.unusedVariables false
set_option linter.unusedSimpArgs false
mutual
def wtC : CD → Nat
  | .str s => s.size
  | .sl es => es.length + wtR es
  | _ => 0
def wtR : List (List CD) → Nat
  | [] => 0
  | e :: es => wtV e + wtR es
def wtV : List CD → Nat
  | [] => 0
  | d :: ds => wtC d + wtV ds
end
mutual
def ndC : CD → Nat
  | .sl es => 1 + ndR es
  | _ => 1
def ndR : List (List CD) → Nat
  | [] => 0
  | e :: es => 1 + ndV e + ndR es
def ndV : List CD → Nat
  | [] => 0
  | d :: ds => ndC d + ndV ds
end
theorem wtV_append : ∀ (a b : List CD), wtV (a ++ b) = wtV a + wtV b
  | [], b => by simp [wtV]
  | d :: ds, b => by simp only [List.cons_append, wtV, wtV_append ds b]; omega
theorem wtR_append : ∀ (a b : List (List CD)), wtR (a ++ b) = wtR a + wtR b
  | [], b => by simp [wtR]
  | d :: ds, b => by simp only [List.cons_append, wtR, wtR_append ds b]; omega
theorem ndR_mem : ∀ {es : List (List CD)} {e : List CD}, e ∈ es → ndV e < ndR es
  | [], e, h => by simp at h
  | d :: ds, e, h => by
    simp only [ndR]
    rcases List.mem_cons.1 h with rfl | h
    · omega
    · have := ndR_mem h; omega
theorem ndV_sl {es : List (List CD)} {ds : List CD} (h : CD.sl es ∈ ds) : ndR es < ndV ds := by
  induction ds with
  | nil => simp at h
  | cons d ds ih =>
    simp only [ndV]
    rcases List.mem_cons.1 h with rfl | h
    · simp only [ndC]; omega
    · have := ih h; omega
theorem wtR_take_succ {α : Type} (f : α → List CD) (ts : List α) (k : Nat) (h : k < ts.length) : wtR ((ts.map f).take (k + 1)) = wtR ((ts.map f).take k) + wtV (f ts[k]) := by
  rw [List.take_succ_eq_append_getElem (by simpa using h), wtR_append]; simp [wtR]
theorem wtR_take_le {α : Type} (f : α → List CD) (ts : List α) (k : Nat) : wtR ((ts.map f).take k) ≤ wtR (ts.map f) := by
  have := wtR_append ((ts.map f).take k) ((ts.map f).drop k); rw [List.take_append_drop] at this; omega
theorem wtR_ints (ns : List Int) : wtR (ns.map intCd) = 0 := by induction ns with
  | nil => rfl
  | cons n ns ih => simp only [List.map_cons, wtR, ih, intCd, wtV, wtC]
theorem wtV_int (n : Int) : wtV [.int n] = 0 := rfl
theorem wtV_bool (n : Bool) : wtV [.bool n] = 0 := rfl
theorem wtV_sl {α : Type} (f : α → List CD) (xs : List α) : wtV [.sl (xs.map f)] = xs.length + wtR (xs.map f) := by simp [wtV, wtC]
theorem cells_later {w1 w2 : World} {b : Nat} {cs : Array Value} (h : ∀ j, w1.cell? ⟨b, j, none⟩ = cs[j]?) (hl : b < w1.heap.size) (hb : Below w1.heap.size w1 w2) : ∀ j, w2.cell? ⟨b, j, none⟩ = cs[j]? :=
  fun j => (hb.cell (p := ⟨b, j, none⟩) hl).trans (h j)
theorem Fm.kid_nd {x k : Fm} (h : k ∈ x.kids) : ndV k.cd < ndV x.cd := by
  have h1 := ndR_mem (List.mem_map_of_mem (f := Fm.cd) h)
  have h2 : ndR (x.kids.map Fm.cd) < ndV x.cd := ndV_sl (by rw [Fm.cd_eq]; simp)
  omega
end Go.Proofs.Ytlhochahokbonaa
namespace Go.Proofs.Ytlhochahokbonaa
open Go Go.RowKit
set_option linter.unusedVariables false
set_option linter.unusedSimpArgs false
mutual
def eqC : CD → CD → Bool
  | .int a, .int b => decide (a = b)
  | .str a, .str b => decide (a = b)
  | .bool a, .bool b => decide (a = b)
  | .sl a, .sl b => eqR a b
  | _, _ => false
def eqR : List (List CD) → List (List CD) → Bool
  | [], [] => true
  | a :: l, b :: l2 => eqV a b && eqR l l2
  | _, _ => false
def eqV : List CD → List CD → Bool
  | [], [] => true
  | a :: l, b :: l2 => eqC a b && eqV l l2
  | _, _ => false
end
mutual
theorem eqC_iff : ∀ (a b : CD), eqC a b = true ↔ a = b
  | .int a, b => by cases b <;> simp [eqC]
  | .str a, b => by cases b <;> simp [eqC]
  | .bool a, b => by cases b <;> simp [eqC]
  | .sl a, b => by cases b <;> simp [eqC, eqR_iff a]
theorem eqR_iff : ∀ (a b : List (List CD)), eqR a b = true ↔ a = b
  | [], b => by cases b <;> simp [eqR]
  | a :: l, b => by cases b <;> simp [eqR, eqV_iff a, eqR_iff l]
theorem eqV_iff : ∀ (a b : List CD), eqV a b = true ↔ a = b
  | [], b => by cases b <;> simp [eqV]
  | a :: l, b => by cases b <;> simp [eqV, eqC_iff a, eqV_iff l]
end
theorem eqV_self (a : List CD) : eqV a a = true := (eqV_iff _ _).2 rfl
theorem eqV_no {a b : List CD} (h : a ≠ b) : eqV a b = false := by rw [Bool.eq_false_iff]; intro h'; exact h ((eqV_iff _ _).1 h')
theorem eqR_no {a b : List (List CD)} (h : a ≠ b) : eqR a b = false := by rw [Bool.eq_false_iff]; intro h'; exact h ((eqR_iff _ _).1 h')
theorem eqV_ne {a b : List CD} (h : eqV a b = false) : a ≠ b := by rintro rfl; rw [eqV_self] at h; simp at h
theorem eqR_len {α : Type} {cd : α → List CD} {xs ys : List α} (h : xs.length ≠ ys.length) : eqR (xs.map cd) (ys.map cd) = false := eqR_no fun e => h (by have := congrArg List.length e; simpa using this)
/-- All up to a place alike. -/
def Alike {α : Type} (cd : α → List CD) (xs ys : List α) (k : Nat) : Prop := (xs.take k).map cd = (ys.take k).map cd
theorem Alike.zero {α : Type} {cd : α → List CD} {xs ys : List α} : Alike cd xs ys 0 := by simp [Alike]
theorem Alike.succ {α : Type} {cd : α → List CD} {xs ys : List α} {k : Nat} (h : Alike cd xs ys k) (h1 : k < xs.length) (h2 : k < ys.length) (he : eqV (cd xs[k]) (cd ys[k]) = true) : Alike cd xs ys (k + 1) := by
  unfold Alike at *
  rw [List.take_succ_eq_append_getElem h1, List.take_succ_eq_append_getElem h2, List.map_append, List.map_append, h, List.map_singleton, List.map_singleton, (eqV_iff _ _).1 he]
theorem Alike.all {α : Type} {cd : α → List CD} {xs ys : List α} {k : Nat} (h : Alike cd xs ys k) (h1 : xs.length ≤ k) (h2 : ys.length ≤ k) : eqR (xs.map cd) (ys.map cd) = true := by
  unfold Alike at h
  rw [List.take_of_length_le h1, List.take_of_length_le h2] at h
  exact (eqR_iff _ _).2 h
theorem unlike_at {α : Type} {cd : α → List CD} {xs ys : List α} {k : Nat} (h1 : k < xs.length) (h2 : k < ys.length) (he : eqV (cd xs[k]) (cd ys[k]) = false) : eqR (xs.map cd) (ys.map cd) = false := eqR_no fun e => by
  have : (xs.map cd)[k]? = (ys.map cd)[k]? := by rw [e]
  simp [h1, h2] at this
  exact eqV_ne he this
theorem eqV_app {a a' b b' : List CD} (h : a.length = a'.length) : eqV (a ++ b) (a' ++ b') = (eqV a a' && eqV b b') := by
  rw [Bool.eq_iff_iff, Bool.and_eq_true, eqV_iff, eqV_iff, eqV_iff]
  exact ⟨fun e => List.append_inj e h, fun ⟨e, e'⟩ => by rw [e, e']⟩
theorem eqV_int (a b : Int) : eqV [.int a] [.int b] = decide (a = b) := by simp [eqV, eqC]
theorem eqV_str (a b : ByteArray) : eqV [.str a] [.str b] = decide (a = b) := by simp [eqV, eqC]
theorem eqV_bool (a b : Bool) : eqV [.bool a] [.bool b] = decide (a = b) := by simp [eqV, eqC]
theorem eqV_sl (a b : List (List CD)) : eqV [.sl a] [.sl b] = eqR a b := by simp [eqV, eqC]
theorem cell_keep {w1 w2 : World} {b j : Nat} {v : Value} (h : w1.cell? ⟨b, j, none⟩ = some v) (hb : Below w1.heap.size w1 w2) : w2.cell? ⟨b, j, none⟩ = some v := (hb.cell (p := ⟨b, j, none⟩) (World.block_lt_of_cell? w1 _ h)).trans h
theorem rd_len {w : World} {α : Type} {cd : α → List CD} {xs : List α} {v : Value} {f : List Nat} (h : Rd w (.sl (xs.map cd)) v f) : xs.length ≤ 9223372036854775807 := by obtain ⟨a, c, _, h1, h2⟩ := rd_sl_inv h; omega
theorem int_beq (a b : Int) : (a == b) = decide (a = b) := rfl
theorem Tm.cd_mk (n : ByteArray) (ks : List Tm) : (Tm.mk n ks).cd = [.str n, .sl (ks.map Tm.cd)] := by rw [Tm.cd_eq]; rfl
mutual
theorem Tm.beq_cd : ∀ t u : Tm, t.beq u = eqV t.cd u.cd
  | .mk n ks, .mk m js => by
    rw [Tm.cd_mk, Tm.cd_mk]
    simp only [Tm.beq, eqV, eqC, Bool.and_true]
    rw [Tm.beqs_cd ks js]
theorem Tm.beqs_cd : ∀ ts us : List Tm, Tm.beqs ts us = eqR (ts.map Tm.cd) (us.map Tm.cd)
  | [], [] => by simp [Tm.beqs, eqR]
  | [], _ :: _ => by simp [Tm.beqs, eqR]
  | _ :: _, [] => by simp [Tm.beqs, eqR]
  | t :: ts, u :: us => by
    simp only [Tm.beqs, List.map_cons, eqR]
    rw [Tm.beq_cd t u, Tm.beqs_cd ts us]
end
end Go.Proofs.Ytlhochahokbonaa
namespace Go.Proofs.Ytlhochahokbonaa
open Go Go.RowKit
set_option linter.unusedVariables false
set_option linter.unusedSimpArgs false
def srtB (n : Int) : Bool := n == 0 || n == 1
def Sy.okB (x : Sy) : Bool := nameB x.name && (decide (x.args.length ≤ 2) && (srtB x.sort && x.args.all srtB))
def nmLt (a b : ByteArray) : Bool := Op.bytesLess a.toList b.toList
def Sg.okAt (s : Sg) (k : Nat) : Bool :=
  match s.syms[k]? with
  | none => true
  | some x => x.okB && (match k with | 0 => true | j + 1 => (match s.syms[j]? with | none => true | some y => nmLt y.name x.name))
def Sg.okB (s : Sg) : Bool := (List.range s.syms.length).all s.okAt && decide (s.syms.length ≤ 7)
theorem Sg.okB_no {s : Sg} {k : Nat} (hk : k < s.syms.length) (h : s.okAt k = false) : s.okB = false := by
  have : (List.range s.syms.length).all s.okAt = false := by rw [List.all_eq_false]; exact ⟨k, by simpa using hk, by simp [h]⟩
  simp [Sg.okB, this]
theorem Sg.okB_all {s : Sg} {k : Nat} (hk : s.syms.length ≤ k) (h : ∀ j, j < k → s.okAt j = true) : s.okB = decide (s.syms.length ≤ 7) := by
  have : (List.range s.syms.length).all s.okAt = true := by rw [List.all_eq_true]; intro j hj; exact h j (by have := List.mem_range.1 hj; omega)
  simp [Sg.okB, this]
theorem Sg.okAt_bad {s : Sg} {k : Nat} (hk : k < s.syms.length) (h : s.syms[k].okB = false) : s.okAt k = false := by simp [Sg.okAt, List.getElem?_eq_getElem hk, h]
theorem Sg.okAt_zero {s : Sg} (hk : 0 < s.syms.length) (h : s.syms[0].okB = true) : s.okAt 0 = true := by simp [Sg.okAt, List.getElem?_eq_getElem hk, h]
theorem Sg.okAt_succ {s : Sg} {k : Nat} (hk : k + 1 < s.syms.length) (h : s.syms[k + 1].okB = true) : s.okAt (k + 1) = nmLt s.syms[k].name s.syms[k + 1].name := by
  simp [Sg.okAt, List.getElem?_eq_getElem hk, List.getElem?_eq_getElem (show k < s.syms.length by omega), h]
theorem l4Sort_any (n : Int) (w : World) : Calls Try.prog 68 #[.int .i64 n] w fun e w' => e = .returned (.bool (srtB n)) ∧ w = w' := by
  cases h0 : (n == 0) <;> cases h1 : (n == 1)
  all_goals
    have HF : Hid (srtB n = ((n == 0) || (n == 1))) := Lib.hid rfl
    go_enter Try.func68, Try.ntmps68
    go_wp2
    go_ret
    exact ⟨retB (by rw [HF.out, h0, h1]; rfl), rfl⟩
theorem all_take_at {p : Int → Bool} {xs : List Int} {k : Nat} (hk : k < xs.length) (h : (xs.take k).all p = true) (h' : p xs[k] = true) : (xs.take (k + 1)).all p = true := by
  rw [List.take_succ_eq_append_getElem hk, List.all_append, h]; simp [h']
theorem all_no_at {p : Int → Bool} {xs : List Int} {k : Nat} (hk : k < xs.length) (h' : p xs[k] = false) : xs.all p = false := by
  rw [List.all_eq_false]; exact ⟨xs[k], List.getElem_mem hk, by simp [h']⟩
end Go.Proofs.Ytlhochahokbonaa
