/- The laws on terms that are drawn: FnTermTwo, FnTermParts, FnTermKids, FnTermSort. -/
import Derived.Test.YtlcfophhjflpdaaRdr6
import Derived.Test.YtlcfophhjflpdaaOwn
import Derived.Test.YtlcfophhjflpdaaTermL
namespace Go.Proofs.Ytlcfophhjflpdaa
open Go Go.RowKit
set_option linter.unusedVariables false
set_option linter.unusedSimpArgs false

/-- The first place of a term in a list, or -1. -/
def Tm.plc (l : List Tm) (t : Tm) : Int := match l.findIdx? (fun u => u.beq t) with | some k => k | none => -1
theorem Tm.plc_at {l : List Tm} {t : Tm} {k : Nat} (hk : k < l.length) (hn : t ∉ l.take k) (he : l[k] = t) : Tm.plc l t = k := by
  have : l.findIdx? (fun u => u.beq t) = some k := by
    rw [List.findIdx?_eq_some_iff_getElem]
    refine ⟨hk, by rw [he]; exact Tm.beq_self t, fun j hj => ?_⟩
    intro h
    exact hn (List.mem_iff_getElem.2 ⟨j, by rw [List.length_take]; omega, by rw [List.getElem_take]; exact (Tm.beq_iff _ _).1 h⟩)
  unfold Tm.plc; rw [this]
theorem Tm.plc_no {l : List Tm} {t : Tm} (h : t ∉ l) : Tm.plc l t = -1 := by
  have : l.findIdx? (fun u => u.beq t) = none := by
    rw [List.findIdx?_eq_none_iff]
    intro x hx
    cases hb : x.beq t with
    | false => rfl
    | true => exact absurd ((Tm.beq_iff _ _).1 hb ▸ hx) h
  unfold Tm.plc; rw [this]
theorem Tm.plc_yes {l : List Tm} {t : Tm} (h : t ∈ l) : ∃ k : Nat, k < l.length ∧ Tm.plc l t = k ∧ l[k]? = some t := by
  unfold Tm.plc
  split
  · rename_i k hk
    rw [List.findIdx?_eq_some_iff_getElem] at hk
    obtain ⟨hl, hb, _⟩ := hk
    exact ⟨k, hl, rfl, by rw [List.getElem?_eq_getElem hl, (Tm.beq_iff _ _).1 hb]⟩
  · rename_i hn
    rw [List.findIdx?_eq_none_iff] at hn
    have := hn t h
    rw [Tm.beq_self] at this; simp at this
theorem Tm.plc_bd (l : List Tm) (t : Tm) : -1 ≤ Tm.plc l t ∧ Tm.plc l t ≤ l.length := by
  by_cases h : t ∈ l
  · obtain ⟨k, hk, e, _⟩ := Tm.plc_yes h; omega
  · rw [Tm.plc_no h]; omega
theorem RdRows.take {w : World} {b : Nat} : ∀ {es : List (List CD)} {off : Nat} {fp : List Nat}, RdRows w b off es fp → ∀ i, ∃ fq, RdRows w b off (es.take i) fq ∧ ∀ x ∈ fq, x ∈ fp
  | [], off, fp, h, i => ⟨fp, by simpa using h, fun x hx => hx⟩
  | e :: es, off, fp, h, 0 => ⟨[], by simp [RdRows], by simp⟩
  | e :: es, off, fp, h, i + 1 => by
    simp only [RdRows] at h
    obtain ⟨vs, f1, f2, rfl, hc, hv, hr⟩ := h
    obtain ⟨fq, h1, h2⟩ := hr.take i
    refine ⟨f1 ++ fq, by rw [List.take_succ_cons]; simp only [RdRows]; exact ⟨vs, f1, fq, rfl, hc, hv, h1⟩, fun x hx => ?_⟩
    rcases List.mem_append.1 hx with hx | hx
    · exact List.mem_append_left _ hx
    · exact List.mem_append_right _ (h2 x hx)
/-- What is sliced off at the end. -/
theorem Rd.take {w : World} {es : List (List CD)} {a : Option Addr} {n c : Nat} {fp : List Nat} (h : Rd w (.sl es) (.slice a n c) fp) {i : Nat} (hi : i ≤ es.length) : ∃ fq, Rd w (.sl (es.take i)) (.slice a i c) fq ∧ ∀ x ∈ fq, x ∈ fp := by
  simp only [Rd] at h ⊢
  obtain ⟨a', c', e, h2, h3, h4⟩ := h
  simp only [Value.slice.injEq] at e
  obtain ⟨rfl, rfl, rfl⟩ := e
  have hl : (es.take i).length = i := by rw [List.length_take]; omega
  by_cases h0 : i = 0
  · subst h0
    exact ⟨[], ⟨a, c, by simp, by simp, h3, .inl ⟨by simp, rfl⟩⟩, by simp⟩
  · rcases h4 with ⟨rfl, _⟩ | ⟨hne, b, off, f, rfl, hb, rfl, hr⟩
    · simp at hi; omega
    · obtain ⟨fq, h5, h6⟩ := hr.take i
      refine ⟨b :: fq, ⟨_, c, by rw [hl], by rw [hl]; omega, h3, .inr ⟨?_, b, off, fq, rfl, hb, rfl, h5⟩⟩, fun x hx => ?_⟩
      · intro e; rw [e] at hl; simp at hl; omega
      · rcases List.mem_cons.1 hx with rfl | hx
        · simp
        · exact List.mem_cons_of_mem _ (h6 x hx)
theorem TmsR.take {w : World} {ts : List Tm} {a : Option Addr} {n c : Nat} (h : TmsR w ts (.slice a n c)) {i : Nat} (hi : i ≤ ts.length) : TmsR w (ts.take i) (.slice a i c) := by
  obtain ⟨fp, h⟩ := h
  obtain ⟨fq, h1, _⟩ := h.take (i := i) (by simpa using hi)
  rw [← List.map_take] at h1
  exact ⟨fq, h1⟩
theorem Tm.parts_sq (ts : List Tm) : Tm.sizes (Tm.parts ts) ≤ Tm.sizes ts * Tm.sizes ts := by
  unfold Tm.parts
  split
  · have := Tm.addPs_sizes ts []
    simp only [Tm.sizes] at this; omega
  · simp [Tm.sizes]
theorem wpPlace_any (l : List Tm) (t : Tm) (v x : Value) (w : World) (hv : TmsR w l v) (hx : TmR w t x) :
    Calls Try.prog 33 #[v, x] w fun e w' => e = .returned (.int .i64 (Tm.plc l t)) ∧ Below w.heap.size w w' := by
  obtain ⟨kx, rfl, hs, hk⟩ := hx
  obtain ⟨a, cap, rfl, hc1, hc2⟩ := hk.form
  obtain ⟨a', cap', rfl, hc1', hc2'⟩ := hv.form
  go_enter Try.func33, Try.ntmps33
  go_wp2
  go_loopw [5] (fun i wr => ∃ k : Nat, k ≤ l.length ∧ i = .int .i64 k ∧ Hid (t ∉ l.take k) ∧ Below (w.heap.size + 1) (w.alloc (.cells #[.string t.name, .slice a t.kids.length cap] 38)) wr) (fun i _ => l.length - (intOf i).toNat)
  case atStart => exact ⟨0, Nat.zero_le _, rfl, (by simp : t ∉ l.take 0), Below.refl _ _⟩
  case round =>
    obtain ⟨k, hkl, rfl, hall, hb⟩ := hrel
    obtain ⟨hx, hz, hbb⟩ := box1 hb
    have x0 : wr.cell? ⟨w.heap.size, 0, none⟩ = some (.string t.name) := hx 0
    have x1 : wr.cell? ⟨w.heap.size, 1, none⟩ = some (.slice a t.kids.length cap) := hx 1
    clear hx
    by_cases hlt : k < l.length
    · obtain ⟨b, off, rfl, hbs⟩ := hv.addr (by omega)
      obtain ⟨ka, kc, c0, c1, hss, hkk⟩ := (hv.below hbb).at hlt
      have hkw := hk.below hbb
      go_wp2
      have q0 := cell_regrown c0
      have q1 := cell_regrown c1
      have qx := cell_regrown x0
      have qy := cell_regrown x1
      refine wp_region_quiet_below (by kernel_rfl) (by kernel_rfl) ?_
      repeat (quiet_step (refine Calls.regrown_of (termSame_any _ l[k] t _ _ _ (Nat.le_refl _) ((TmR.mk hss hkk).below (below_regrown _ _ _)) ((TmR.mk hs hkw).below (below_regrown _ _ _)))))
      refine wpQuiet_nil ?_
      intro w2 hw2
      obtain ⟨⟨dq, osq⟩, hw2⟩ := hw2
      have hb2 : Below wr.heap.size wr w2 := hw2 ▸ below_regrown wr dq osq
      clear hw2 q0 q1 qx qy
      go_wp2
      · have he : l[k].beq t = true := by assumption
        go_ret
        exact ⟨retI (Tm.plc_at hlt hall.out ((Tm.beq_iff _ _).1 he)).symm, hbb.trans (hb2.mono (by omega))⟩
      · have he : l[k].beq t = false := by assumption
        go_roundw
        case rel => exact ⟨k + 1, by omega, by go_num, notin_succ hlt hall.out (Tm.beq_no he), hb.trans (hb2.mono (by omega))⟩
        case measure => simp [intOf]; omega
    · have he : l.take k = l := List.take_of_length_le (by omega)
      rw [he] at hall
      go_wp2
      go_ret
      exact ⟨retI (Tm.plc_no hall.out).symm, hbb⟩
set_option maxHeartbeats 2000000 in
theorem termTwo_walk (v : Value) (w : World) (hv : Byts w v) :
    Calls Try.prog 6 #[v] w fun e w' => e = .returned (.bool true) ∧ Below w.heap.size w w' := by
  have hv0 := hv
  obtain ⟨a, n, cap, rfl, hn1, hn2, _⟩ := hv
  by_cases hlen : n ≤ 1048576
  rotate_left
  · have hlb : decide ((1048576 : Int) < (n : Int)) = true := by simp; omega
    go_enter Try.func6, Try.ntmps6
    go_wp2_with fail
    go_ret
    exact ⟨rfl, Below.refl _ _⟩
  have hlb : decide ((1048576 : Int) < (n : Int)) = false := by simp; omega
  go_enter Try.func6, Try.ntmps6
  go_wp2_with fail
  refine (drawTermParts_any _ _ hv0).mono ?_
  rintro e w1 ⟨⟨ts, rv, fp, hsz, rfl, hrd⟩, hb1⟩
  obtain ⟨ra, rc, rfl, hrc1, hrc2⟩ := tms_form hrd
  have hln := Tm.sizes_len ts
  go_wp2_with fail
  refine (termParts_any ts _ _ (by omega) ⟨fp, hrd⟩).mono ?_
  rintro e w2 ⟨va, fa, rfl, hra, hfa, hb2⟩
  obtain ⟨aa, ac, rfl, hac1, hac2⟩ := tms_form hra
  have hrd2 := hrd.below hb2
  have hB2 := hb1.trans (hb2.mono hb1.size)
  have hba := below_alloc w2 (.cells #[] 38)
  have hB2a := hB2.trans (hba.mono hB2.size)
  go_wp2_with (at_builtin; refine wpList_appAny slTerm rfl _ _ rfl w2.heap.size _ [] [] rfl (Own.empty w2 w2.heap.size _ _ (Nat.le_refl _)) (ts.map Tm.cd) _ fp rfl (by exact hrd2.below hba) ?k ?na ?bytes ?len ?base ?next)
  case k => simp only [List.mem_map]; rintro e ⟨t, _, rfl⟩; exact t.cd_len
  case na => intro b hb h; have h1 := hrd2.lt _ b hb; have h2 : w2.heap.size = b := Option.some.inj h; omega
  case bytes => simp; omega
  case len => simp; omega
  case base => simp
  case next =>
    intro v3 w3 f3 hf3 hown3 hg3 hv3 hs3
    obtain ⟨b3, c3, h3e, _, _⟩ := hown3.form
    try simp only [List.nil_append] at hown3
    try simp only [List.nil_append] at h3e
    rw [List.length_map] at h3e
    subst h3e
    have hB3 := grown_below hB2a hg3 (by simp; have := hB2.size; omega) (fun q hq => by have h2 : w2.heap.size = q := Option.some.inj hq; have := hB2.size; omega)
    have hrd3 : Rd w3 (.sl (ts.map Tm.cd)) (.slice ra ts.length rc) fp := (hrd2.below hba).same _ (fun b hb => hg3.block b (by have := hrd2.lt _ b hb; simp; omega) (fun e => by have h2 : w2.heap.size = b := Option.some.inj e.symm; have := hrd2.lt _ b hb; omega))
    have hra3 : Rd w3 (.sl ((Tm.parts ts).map Tm.cd)) (.slice aa (Tm.parts ts).length ac) fa := (hra.below hba).same _ (fun b hb => hg3.block b (by have := hra.lt _ b hb; simp; omega) (fun e => by have h2 : w2.heap.size = b := Option.some.inj e.symm; have := hra.lt _ b hb; omega))
    have hz3 := hg3.size
    rw [World.size_alloc] at hz3
    go_wp2_with (at_builtin; refine wpList_appAny slTerm rfl _ _ rfl w2.heap.size _ _ _ rfl hown3 (ts.map Tm.cd) _ fp rfl (by exact hrd3) ?k ?na ?bytes ?len ?base ?next)
    case k => simp only [List.mem_map]; rintro e ⟨t, _, rfl⟩; exact t.cd_len
    case na => intro b hb h; have h1 := hrd2.lt _ b hb; have h2 := (hown3.block h).1; omega
    case bytes => simp; omega
    case len => simp; omega
    case base => omega
    case next =>
      intro v4 w4 f4 hf4 hown4 hg4 hv4 hs4
      have hrow : ∀ q, (Value.slice b3 ts.length c3).ownBlock = some q → w2.heap.size ≤ q := fun q hq => (hown3.block hq).1
      have hB4 := grown_below hB3 hg4 hB3.size (fun q hq => by have := hrow q hq; have := hB2.size; omega)
      have hz4 := hg4.size
      have hra4 : Rd w4 (.sl ((Tm.parts ts).map Tm.cd)) (.slice aa (Tm.parts ts).length ac) fa := hra3.same _ (fun b hb => hg4.block b (by have := hra.lt _ b hb; omega) (fun e => by have := hrow b e.symm; have := hra.lt _ b hb; omega))
      have hrd4 : Rd w4 (.sl (ts.map Tm.cd)) (.slice ra ts.length rc) fp := hrd3.same _ (fun b hb => hg4.block b (by have := hrd2.lt _ b hb; omega) (fun e => by have := hrow b e.symm; have := hrd2.lt _ b hb; omega))
      rw [← List.map_append] at hown4
      obtain ⟨g4, hr4⟩ := hown4.rd'
      clear hg3 hg4 hs3 hs4 hown3 hown4 hrd3 hra3 hv3 hv4
      go_wp2_with fail
      refine (termParts_any (ts ++ ts) _ _ (by rw [Tm.sizes_append]; omega) ⟨g4, hr4⟩).mono ?_
      rintro e w5 ⟨vb, fb, rfl, hrb, hfb, hb5⟩
      rw [Tm.parts_twice] at hrb
      obtain ⟨ba, bc, rfl, hbc1, hbc2⟩ := tms_form hrb
      have hB5 := hB4.trans (hb5.mono hB4.size)
      have hrd5 := hrd4.below hb5
      have hra5 := hra4.below hb5
      go_wp2_with fail
      refine (termPartsS_any ts _ _ (by omega) ⟨fp, hrd5⟩).mono ?_
      rintro e w6 ⟨vs, fs, rfl, hrs, hfs, hb6⟩
      obtain ⟨sa, sc, rfl, hsc1, hsc2⟩ := tms_form hrs
      have hB6 := hB5.trans (hb6.mono hB5.size)
      have hra6 : TmsR w6 (Tm.parts ts) (.slice aa (Tm.parts ts).length ac) := ⟨fa, hra5.below hb6⟩
      have hrb6 : TmsR w6 (Tm.parts ts) (.slice ba (Tm.parts ts).length bc) := ⟨fb, hrb.below hb6⟩
      clear hb1 hb2 hb5 hb6 hra hra4 hra5 hrb hrs hrd hrd2 hrd4 hrd5 hr4 hfa hfb hfs hB2 hB2a hB3 hB4 hB5 hba
      generalize Tm.parts ts = ps at *
      go_wp2_with fail
      go_loopw [6] (fun i wr => ∃ k : Nat, k ≤ ps.length ∧ i = .int .i64 k ∧ Below w6.heap.size w6 wr) (fun i _ => ps.length - (intOf i).toNat)
      case atStart => exact ⟨0, Nat.zero_le _, rfl, Below.refl _ _⟩
      case round =>
        obtain ⟨k, hkl, rfl, hb⟩ := hrel
        by_cases hlt : k < ps.length
        · obtain ⟨b1, off1, rfl, hbs1⟩ := hra6.addr (by omega)
          obtain ⟨b2, off2, rfl, hbs2⟩ := hrb6.addr (by omega)
          obtain ⟨ka, kc, c0, c1, hss, hkk⟩ := (hra6.below hb).at hlt
          obtain ⟨ja, jc, d0, d1, hss2, hkk2⟩ := (hrb6.below hb).at hlt
          have hself := Tm.beq_self ps[k]
          have hz := hb.size
          go_wp2_with fail
          have q0 := cell_regrown c0
          have q1 := cell_regrown c1
          have qx := cell_regrown d0
          have qy := cell_regrown d1
          refine wp_region_quiet_below (by kernel_rfl) (by kernel_rfl) ?_
          repeat (quiet_step (refine Calls.regrown_of (termSame_any _ ps[k] ps[k] _ _ _ (Nat.le_refl _) ((TmR.mk hss hkk).below (below_regrown _ _ _)) ((TmR.mk hss2 hkk2).below (below_regrown _ _ _)))))
          refine wpQuiet_nil ?_
          intro w7 hw7
          obtain ⟨⟨dq, osq⟩, hw7⟩ := hw7
          have hb7 : Below wr.heap.size wr w7 := hw7 ▸ below_regrown wr dq osq
          clear hw7 q0 q1 qx qy
          go_wp2_with fail
          go_roundw
          case rel => exact ⟨k + 1, by omega, by go_num, hb.trans (hb7.mono hz)⟩
          case measure => simp [intOf]; omega
        · go_wp2_with fail
          go_ret
          exact ⟨rfl, hB6.trans (hb.mono hB6.size)⟩
set_option maxHeartbeats 4000000 in
theorem termPartsL_walk (v : Value) (w : World) (hv : Byts w v) :
    Calls Try.prog 7 #[v] w fun e w' => e = .returned (.bool true) ∧ Below w.heap.size w w' := by
  have hv0 := hv
  obtain ⟨a, n, cap, rfl, hn1, hn2, _⟩ := hv
  by_cases hlen : n ≤ 1048576
  rotate_left
  · have hlb : decide ((1048576 : Int) < (n : Int)) = true := by simp; omega
    go_enter Try.func7, Try.ntmps7
    go_wp2_with fail
    go_ret
    exact ⟨rfl, Below.refl _ _⟩
  have hlb : decide ((1048576 : Int) < (n : Int)) = false := by simp; omega
  go_enter Try.func7, Try.ntmps7
  go_wp2_with fail
  refine (drawTermParts_any _ _ hv0).mono ?_
  rintro e w1 ⟨⟨ts, rv, fp, hsz, rfl, hrd⟩, hb1⟩
  obtain ⟨ra, rc, rfl, hrc1, hrc2⟩ := tms_form hrd
  have hln := Tm.sizes_len ts
  go_wp2_with fail
  refine (termParts_any ts _ _ (by omega) ⟨fp, hrd⟩).mono ?_
  rintro e w2 ⟨va, fa, rfl, hra, hfa, hb2⟩
  obtain ⟨aa, ac, rfl, hac1, hac2⟩ := tms_form hra
  have hrd2 := hrd.below hb2
  have hB2 := hb1.trans (hb2.mono hb1.size)
  go_wp2_with fail
  refine (termPartsS_any ts _ _ (by omega) ⟨fp, hrd2⟩).mono ?_
  rintro e w6 ⟨vs, fs, rfl, hrs, hfs, hb6⟩
  obtain ⟨sa, sc, rfl, hsc1, hsc2⟩ := tms_form hrs
  have hB6 := hB2.trans (hb6.mono hB2.size)
  have hrd6 : TmsR w6 ts (.slice ra ts.length rc) := ⟨fp, hrd2.below hb6⟩
  have hra6 : TmsR w6 (Tm.parts ts) (.slice aa (Tm.parts ts).length ac) := ⟨fa, hra.below hb6⟩
  have hrs6 : TmsR w6 (Tm.parts ts) (.slice sa (Tm.parts ts).length sc) := ⟨fs, hrs⟩
  have hord := Tm.parts_ord ts
  have hmem := fun h t ht => Tm.parts_mem (ts := ts) h (t := t) ht
  have hag := Tm.parts_again ts
  have hps : Tm.sizes (Tm.parts ts) ≤ 40000 := Nat.le_trans (Tm.parts_sq ts) (Nat.mul_le_mul hsz hsz)
  clear hb1 hb2 hb6 hra hrs hrd hrd2 hfa hfs hB2
  generalize Tm.parts ts = ps at *
  have HORD := Lib.hid hord
  have HMEM := Lib.hid hmem
  have HAG := Lib.hid hag
  clear hord hmem hag
  go_wp2_with fail
  go_loopw [6] (fun i wr => ∃ k : Nat, k ≤ ps.length ∧ i = .int .i64 k ∧ Below w6.heap.size w6 wr) (fun i _ => ps.length - (intOf i).toNat)
  case atStart => exact ⟨0, Nat.zero_le _, rfl, Below.refl _ _⟩
  case round =>
    obtain ⟨k, hkl, rfl, hb⟩ := hrel
    have hz := hb.size
    by_cases hlt : k < ps.length
    · obtain ⟨b1, off1, rfl, hbs1⟩ := hra6.addr (by omega)
      obtain ⟨b2, off2, rfl, hbs2⟩ := hrs6.addr (by omega)
      obtain ⟨ka, kc, c0, c1, hss, hkk⟩ := (hra6.below hb).at hlt
      obtain ⟨ja, jc, d0, d1, hss2, hkk2⟩ := (hrs6.below hb).at hlt
      have hself := Tm.beq_self ps[k]
      have hob := HORD.out k hlt
      have HKID := Lib.hid hob.1
      have HNOT := Lib.hid (Tm.plc_no hob.2)
      clear hob
      have hkb : ps[k].kids.length ≤ 40000 := by have h1 := Tm.sizes_len ps[k].kids; have h2 := Tm.size_eq ps[k]; have h3 := Tm.size_mem (List.getElem_mem hlt); omega
      have hk1 : (k : Int) ≤ (ac : Int) := by omega
      have hk2 : (0 : Int) ≤ (k : Int) := by omega
      have hk3 : ¬ ((ac : Int) < (k : Int)) := by omega
      have hk4 : decide ((k : Int) < 0) = false := by simp
      have hk5 : decide ((ac : Int) < (k : Int)) = false := by simp; omega
      go_wp2_with fail
      have q0 := cell_regrown c0
      have q1 := cell_regrown c1
      have qx := cell_regrown d0
      have qy := cell_regrown d1
      refine wp_region_quiet_below (by kernel_rfl) (by kernel_rfl) ?_
      repeat (quiet_step (refine Calls.regrown_of (termSame_any _ ps[k] ps[k] _ _ _ (Nat.le_refl _) ((TmR.mk hss hkk).below (below_regrown _ _ _)) ((TmR.mk hss2 hkk2).below (below_regrown _ _ _)))))
      refine wpQuiet_nil ?_
      intro w7 hw7
      obtain ⟨⟨dq, osq⟩, hw7⟩ := hw7
      have hb7 : Below wr.heap.size wr w7 := hw7 ▸ below_regrown wr dq osq
      clear hw7 q0 q1 qx qy d0 d1 hss2 hkk2
      have hB7 := hb.trans (hb7.mono hz)
      have hz7 := hB7.size
      have hkk7 := hkk.below hb7
      have c07 := cell_keep c0 hb7
      have c17 := cell_keep c1 hb7
      clear hb hb7 c0 c1 hkk hz
      go_wp2_with fail
      go_loopw [7] (fun i wr => ∃ j : Nat, j ≤ ps[k].kids.length ∧ i = .int .i64 j ∧ Below w7.heap.size w7 wr) (fun i _ => ps[k].kids.length - (intOf i).toNat)
      case atStart => exact ⟨0, Nat.zero_le _, rfl, Below.refl _ _⟩
      case round =>
        obtain ⟨j, hjl, rfl, hb8⟩ := hrel
        have hz8 := hb8.size
        have c0 := cell_keep c07 hb8
        have c1 := cell_keep c17 hb8
        have hB8 := hB7.trans (hb8.mono hz7)
        have hra8 := hra6.below hB8
        by_cases hlj : j < ps[k].kids.length
        · obtain ⟨b3, off3, rfl, hbs3⟩ := hkk7.addr (by omega)
          obtain ⟨la, lc, e0, e1, hss3, hkk3⟩ := (hkk7.below hb8).at hlj
          obtain ⟨pk, hpk, hpe, _⟩ := Tm.plc_yes (HKID.out _ (List.getElem_mem hlj))
          have HPE := Lib.hid hpe
          clear hpe
          have hbs3' : b3 < wr.heap.size := by omega
          have hbs1' : b1 < wr.heap.size := by omega
          have hpd : decide ((pk : Int) < 0) = false := by simp
          go_wp2_with fail
          have q0 := cell_regrown c0
          have q1 := cell_regrown c1
          have qx := cell_regrown e0
          have qy := cell_regrown e1
          refine wp_region_quiet_below (by kernel_rfl) (by kernel_rfl) ?_
          repeat (quiet_step (refine Calls.regrown_of (wpPlace_any (ps.take k) ps[k].kids[j] _ _ _ ((hra8.take (by omega)).below (below_regrown _ _ _)) ((TmR.mk hss3 hkk3).below (below_regrown _ _ _)))))
          refine wpQuiet_nil ?_
          intro w9 hw9
          obtain ⟨⟨dq, osq⟩, hw9⟩ := hw9
          have hb9 : Below wr.heap.size wr w9 := hw9 ▸ below_regrown wr dq osq
          clear hw9 q0 q1 qx qy
          rw [HPE.out]
          go_wp2_with fail
          go_roundw
          case rel => exact ⟨j + 1, by omega, by go_num, hb8.trans (hb9.mono hz8)⟩
          case measure => simp [intOf]; omega
        · have hkkw := hkk7.below hb8
          have hbs1' : b1 < wr.heap.size := by omega
          go_wp2_with fail
          have q0 := cell_regrown c0
          have q1 := cell_regrown c1
          refine wp_region_quiet_below (by kernel_rfl) (by kernel_rfl) ?_
          repeat (quiet_step (refine Calls.regrown_of (wpPlace_any (ps.take k) ps[k] _ _ _ ((hra8.take (by omega)).below (below_regrown _ _ _)) ((TmR.mk hss hkkw).below (below_regrown _ _ _)))))
          refine wpQuiet_nil ?_
          intro w9 hw9
          obtain ⟨⟨dq, osq⟩, hw9⟩ := hw9
          have hb9 : Below wr.heap.size wr w9 := hw9 ▸ below_regrown wr dq osq
          clear hw9 q0 q1
          rw [HNOT.out]
          go_wp2_with fail
          go_roundw
          case rel => exact ⟨k + 1, by omega, by go_num, hB8.trans (hb9.mono hB8.size)⟩
          case measure => simp [intOf]; omega
    · go_wp2_with fail
      go_loopw [8] (fun i wr => ∃ j : Nat, j ≤ ts.length ∧ i = .int .i64 j ∧ Below w6.heap.size w6 wr) (fun i _ => ts.length - (intOf i).toNat)
      case atStart => exact ⟨0, Nat.zero_le _, rfl, hb⟩
      case round =>
        obtain ⟨j, hjl, rfl, hb8⟩ := hrel
        have hz8 := hb8.size
        have hra8 := hra6.below hb8
        by_cases hp0 : 0 < ps.length
        · have hpd : decide ((0 : Int) < (ps.length : Int)) = true := decide_eq_true (by omega)
          by_cases hlj : j < ts.length
          · obtain ⟨b3, off3, rfl, hbs3⟩ := hrd6.addr (by omega)
            obtain ⟨la, lc, e0, e1, hss3, hkk3⟩ := (hrd6.below hb8).at hlj
            obtain ⟨pk, hpk, hpe, _⟩ := Tm.plc_yes (HMEM.out hp0 _ (List.getElem_mem hlj))
            have HPE := Lib.hid hpe
            clear hpe
            have hpd2 : decide ((pk : Int) < 0) = false := by simp
            go_wp2_with fail
            refine (wpPlace_any ps ts[j] _ _ _ hra8 (TmR.mk hss3 hkk3)).mono ?_
            rintro e w9 ⟨rfl, hb9⟩
            rw [HPE.out]
            go_wp2_with fail
            go_roundw
            case rel => exact ⟨j + 1, by omega, by go_num, hb8.trans (hb9.mono hz8)⟩
            case measure => simp [intOf]; omega
          · go_wp2_with fail
            refine (termParts_any ps _ _ (by omega) hra8).mono ?_
            rintro e w9 ⟨vg, fg, rfl, hrg, hfg, hb9⟩
            rw [HAG.out] at hrg
            obtain ⟨ga, gc, rfl, hgc1, hgc2⟩ := tms_form hrg
            go_wp2_with fail
            go_ret
            refine ⟨retB ?_, hB6.trans ((hb8.trans (hb9.mono hz8)).mono hB6.size)⟩
            simp
        · have hpd : decide ((0 : Int) < (ps.length : Int)) = false := decide_eq_false (by omega)
          by_cases hlj : j < ts.length
          all_goals
            go_wp2_with fail
            refine (termParts_any ps _ _ (by omega) hra8).mono ?_
            rintro e w9 ⟨vg, fg, rfl, hrg, hfg, hb9⟩
            rw [HAG.out] at hrg
            obtain ⟨ga, gc, rfl, hgc1, hgc2⟩ := tms_form hrg
            go_wp2_with fail
            go_ret
            refine ⟨retB ?_, hB6.trans ((hb8.trans (hb9.mono hz8)).mono hB6.size)⟩
            simp
end Go.Proofs.Ytlcfophhjflpdaa
