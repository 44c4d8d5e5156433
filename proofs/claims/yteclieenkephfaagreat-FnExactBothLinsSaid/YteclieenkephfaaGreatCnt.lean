import Derived.Test.YteclieenkephfaaGreatExHeld
/- mark and held of struct values: their slices alone. -/
namespace Go.Proofs.YteclieenkephfaaGreat
open Go Go.RowKit
set_option linter.unusedVariables false
set_option linter.unusedSimpArgs false


set_option linter.unusedVariables false

/-- What marking the slices of a value turns it into; its own scalars stay. -/
def mkT : List CD → Int → List CD
  | [], _ => []
  | .sl es :: ds, k => .sl (mkR es k) :: mkT ds (k + cntR es)
  | .int n :: ds, k => .int n :: mkT ds k
  | .str n :: ds, k => .str n :: mkT ds k
  | .bool n :: ds, k => .bool n :: mkT ds k
def cntT : List CD → Nat
  | [] => 0
  | .sl es :: ds => cntR es + cntT ds
  | .int _ :: ds => cntT ds
  | .str _ :: ds => cntT ds
  | .bool _ :: ds => cntT ds
theorem cntT_append : ∀ (a b : List CD), cntT (a ++ b) = cntT a + cntT b
  | [], b => by simp [cntT]
  | .sl es :: a, b => by simp only [List.cons_append, cntT, cntT_append a b]; omega
  | .int _ :: a, b => by simp only [List.cons_append, cntT, cntT_append a b]
  | .str _ :: a, b => by simp only [List.cons_append, cntT, cntT_append a b]
  | .bool _ :: a, b => by simp only [List.cons_append, cntT, cntT_append a b]
theorem mkT_append : ∀ (a b : List CD) (k : Int), mkT (a ++ b) k = mkT a k ++ mkT b (k + cntT a)
  | [], b, k => by simp [mkT, cntT]
  | .sl es :: a, b, k => by simp only [List.cons_append, mkT, cntT, mkT_append a b]; rw [show (k + cntR es + cntT a : Int) = k + ((cntR es + cntT a : Nat) : Int) by omega]
  | .int _ :: a, b, k => by simp only [List.cons_append, mkT, cntT, mkT_append a b]
  | .str _ :: a, b, k => by simp only [List.cons_append, mkT, cntT, mkT_append a b]
  | .bool _ :: a, b, k => by simp only [List.cons_append, mkT, cntT, mkT_append a b]
theorem mkT_len : ∀ (a : List CD) (k : Int), (mkT a k).length = a.length
  | [], k => rfl
  | .sl es :: a, k => by simp only [mkT, List.length_cons, mkT_len a]
  | .int _ :: a, k => by simp only [mkT, List.length_cons, mkT_len a]
  | .str _ :: a, k => by simp only [mkT, List.length_cons, mkT_len a]
  | .bool _ :: a, k => by simp only [mkT, List.length_cons, mkT_len a]
theorem RdVs.cut {w : World} {ds es : List CD} {vs : List Value} {fp : List Nat} (h : RdVs w (ds ++ es) vs fp) {m : Nat} (hm : ds.length = m) : ∃ f g, fp = f ++ g ∧ RdVs w ds (vs.take m) f ∧ RdVs w es (vs.drop m) g := by
  obtain ⟨us, us', f, g, rfl, rfl, h1, h2⟩ := h.split
  have hl := h1.length
  refine ⟨f, g, rfl, ?_, ?_⟩
  · rw [List.take_left' (by omega)]; exact h1
  · rw [List.drop_left' (by omega)]; exact h2
structure MkV (w0 : World) (fp : List Nat) (k0 : Int) (vs : List Value) (w : World) (done todo : List CD) : Prop where
  rd : RdVs w (mkT done k0 ++ todo) vs fp
  free : Free w fp
  nd : fp.Nodup
  only : Only fp w0 w
theorem MkV.start {w : World} {fp : List Nat} {vs : List Value} {ds : List CD} (k : Int) (h : RdVs w ds vs fp) (hf : Free w fp) (hn : fp.Nodup) : MkV w fp k vs w [] ds := ⟨h, hf, hn, Only.refl _ _⟩
theorem MkV.skip {w0 w : World} {fp : List Nat} {k0 : Int} {vs : List Value} {done rest : List CD} {d : CD} (h : MkV w0 fp k0 vs w done ([d] ++ rest)) (hd : ∀ k, mkT [d] k = [d]) : MkV w0 fp k0 vs w (done ++ [d]) rest := by
  obtain ⟨h1, h2, h3, h4⟩ := h
  refine ⟨?_, h2, h3, h4⟩
  rw [mkT_append, hd, List.append_assoc]; exact h1
theorem MkV.last {w0 w : World} {fp : List Nat} {k0 : Int} {vs : List Value} {done ds : List CD} (h : MkV w0 fp k0 vs w done ds) : MkV w0 fp k0 vs w done (ds ++ []) := by rw [List.append_nil]; exact h
theorem MkV.step {w0 w : World} {fp : List Nat} {k0 : Int} {vs : List Value} {done ds rest : List CD} (h : MkV w0 fp k0 vs w done (ds ++ rest)) {n m : Nat} (hn : done.length = n) (hm : ds.length = m) :
    ∃ f, (∀ b ∈ f, b ∈ fp) ∧ RdVs w ds ((vs.drop n).take m) f ∧ Free w f ∧ f.Nodup ∧ ∀ (k : Int) (w' : World), k = k0 + cntT done → RdVs w' (mkT ds k) ((vs.drop n).take m) f → Free w' f → Only f w w' → MkV w0 fp k0 vs w' (done ++ ds) rest := by
  obtain ⟨h1, h2, h3, h4⟩ := h
  obtain ⟨f1, g, rfl, r1, hr⟩ := h1.cut (m := n) (by rw [mkT_len]; exact hn)
  obtain ⟨f2, f3, rfl, r2, r3⟩ := hr.cut hm
  have l1 := r1.lt
  have l2 := r2.lt
  have l3 := r3.lt
  obtain ⟨n1, n23, d1⟩ := List.nodup_append.1 h3
  obtain ⟨n2, n3, d2⟩ := List.nodup_append.1 n23
  refine ⟨f2, fun b hb => by simp [hb], r2, fun b hb => h2 b (by simp [hb]), n2, fun k w' hk q1 q2 q3 => ?_⟩
  have s1 : SameOn f1 w w' := q3.same l1 (fun b hb hb' => d1 b hb b (by simp [hb']) rfl)
  have s3 : SameOn f3 w w' := q3.same l3 (fun b hb hb' => d2 b hb' b hb rfl)
  refine ⟨?_, ?_, h3, h4.trans (q3.mono fun b hb => by simp [hb])⟩
  · rw [mkT_append, ← hk, List.append_assoc]
    have e : vs = vs.take n ++ ((vs.drop n).take m ++ (vs.drop n).drop m) := by rw [List.take_append_drop, List.take_append_drop]
    rw [e]
    exact (r1.same _ s1).app (q1.app (r3.same _ s3))
  · intro b hb
    rcases List.mem_append.1 hb with hb | hb
    · have := h2 b (by simp [hb]); rw [s1 b hb]; exact this
    rcases List.mem_append.1 hb with hb | hb
    · exact q2 b hb
    · have := h2 b (by simp [hb]); rw [s3 b hb]; exact this
theorem MkV.box {w0 w : World} {fp : List Nat} {k0 : Int} {vs : List Value} {todo done : List CD} (h : MkV w0 fp k0 vs w done todo) (cs : Array Value) (T : Nat) : MkV w0 fp k0 vs (w.alloc (.cells cs T)) done todo := by
  obtain ⟨h1, h2, h3, h4⟩ := h
  exact ⟨h1.below (below_alloc _ _), h2.same (below_sameOn (below_alloc _ _) h2.lt), h3, h4.trans (Only.below (below_alloc _ _))⟩
theorem MkV.cells {w w' : World} {f : List Nat} {b : Nat} {cs : Array Value} (ho : Only f w w') (hb : b < w.heap.size) (hn : b ∉ f) (h : ∀ j, w.cell? ⟨b, j, none⟩ = cs[j]?) : ∀ j, w'.cell? ⟨b, j, none⟩ = cs[j]? := fun j => by
  rw [← h j]
  exact World.cell?_of_block (w := w) (a := ⟨b, j, none⟩) (ho.block b hb hn)
def MkOutV (ds : List CD) (k : Int) (vs : List Value) (fp : List Nat) (w : World) (e : Ending) (w' : World) : Prop := e = .returned (.int .i64 (k + cntT ds)) ∧ RdVs w' (mkT ds k) vs fp ∧ Free w' fp ∧ Only fp w w'
theorem MkV.out {w0 w : World} {fp : List Nat} {k0 : Int} {vs : List Value} {done ds : List CD} {r : Int} (h : MkV w0 fp k0 vs w done []) (e : done = ds) (hr : r = k0 + cntT ds) : MkOutV ds k0 vs fp w0 (.returned (.int .i64 r)) w := by
  obtain ⟨h1, h2, h3, h4⟩ := h
  subst e hr
  rw [List.append_nil] at h1
  exact ⟨rfl, h1, h2, h4⟩
theorem RdVs.of_single {w : World} {d : CD} {v : Value} {f : List Nat} (h : RdVs w [d] [v] f) : Rd w d v f := by
  simp only [RdVs] at h
  obtain ⟨v', us, f', g, h1, h2, h3, h4⟩ := h
  simp at h1; obtain ⟨rfl, rfl⟩ := h1; obtain ⟨_, rfl⟩ := h4; rw [h2, List.append_nil]; exact h3
def HeldOutV (ds : List CD) (k : Int) (w : World) (e : Ending) (w' : World) : Prop := e = .returned (.int .i64 (k + cntT ds)) ∧ Below w.heap.size w w'

theorem markSig_x (x : Sg) (vs : List Value) (fp : List Nat) (k : Int) (w : World) (h0 : 0 < k) (h1 : k + cntT x.cd ≤ 200000000000000) (hv : RdVs w x.cd vs fp) (hf : Free w fp) (hnd : fp.Nodup) :
    Calls Tryz.prog 13 #[.agg vs.toArray, .int .i64 k] w (MkOutV x.cd k vs fp w) := by
  have hc : cntT x.cd = cntR (x.syms.map Sy.cd) := by unfold Sg.cd; simp only [cntT_append, cntT]; try omega
  have h2 : MkV w fp k vs w [] x.cd := MkV.start k hv hf hnd
  have hl := hf.lt
  unfold Sg.cd at h2
  obtain ⟨a0, c0, f0, rfl, _, _⟩ := Sg.open hv
  go_enter Tryz.func13, Tryz.ntmps13
  go_wp2_with fail
  replace h2 := h2.box #[.slice a0 x.syms.length c0] 32
  have hx := cell_new w #[.slice a0 x.syms.length c0] 32
  have hb0 : w.heap.size < (w.alloc (.cells #[.slice a0 x.syms.length c0] 32)).heap.size := by simp
  have hbn : w.heap.size ∉ fp := fun h => by have := hl _ h; omega
  replace h2 := h2.last
  obtain ⟨f, hsub, r, hfr, hn, next⟩ := h2.step (n := 0) (m := 1) (by simp [Sy.cd_len, Sg.cd_len, Tm.cd_len, Eqn.cd_len, Stp.cd_len, Wy.cd_len, Atm.cd_len, Lt.cd_len, Fm.cd_len, Cs.cd_len, Lm.cd_len, Pp.cd_len, Stk.cd_len, Cnf.cd_len, Ln.cd_len, Rt.cd_len, Rw.cd_len, Md.cd_len]) (by simp [Sy.cd_len, Sg.cd_len, Tm.cd_len, Eqn.cd_len, Stp.cd_len, Wy.cd_len, Atm.cd_len, Lt.cd_len, Fm.cd_len, Cs.cd_len, Lm.cd_len, Pp.cd_len, Stk.cd_len, Cnf.cd_len, Ln.cd_len, Rt.cd_len, Rw.cd_len, Md.cd_len])
  have hbf : w.heap.size ∉ f := fun h => hbn (hsub _ h)
  clear h2
  refine (markSymS_x x.syms _ _ (k) _ (by omega) (by omega) (RdVs.of_single r) hfr hn).mono ?_
  rintro e w1 ⟨rfl, r', hf', ho⟩
  have h2 := next (k) w1 (by simp only [cntT_append, cntT]; try omega) (RdVs.single r') hf' ho
  replace hx := MkV.cells ho hb0 hbf hx
  replace hb0 := Nat.lt_of_lt_of_le hb0 ho.size
  clear next r r' hf' ho hfr hn hsub hbf f
  go_wp2_with fail
  go_ret
  exact h2.out (by unfold Sg.cd; try simp only [List.nil_append, List.append_assoc]) (by rw [hc]; try omega)
end Go.Proofs.YteclieenkephfaaGreat
/- How many scalars there are, bound by the law's weight. -/
namespace Go.Proofs.YteclieenkephfaaGreat
open Go Go.RowKit
set_option linter.unusedVariables false
set_option linter.unusedSimpArgs false

theorem cntR_wt {α : Type} {f : α → List CD} {xs : List α} (h : ∀ x ∈ xs, cntV (f x) ≤ 16 + 16 * wtV (f x)) : cntR (xs.map f) ≤ 16 * (xs.length + wtR (xs.map f)) := by
  induction xs with
  | nil => simp [cntR]
  | cons x xs ih =>
    have h1 := h x (by simp)
    have h2 := ih (fun y hy => h y (by simp [hy]))
    simp only [List.map_cons, cntR, wtR, List.length_cons]
    omega
theorem intCd_cnt (n : Int) : cntV (intCd n) ≤ 16 + 16 * wtV (intCd n) := by simp [intCd, cntV, cnt]; try omega
theorem boolCd_cnt (n : Bool) : cntV (boolCd n) ≤ 16 + 16 * wtV (boolCd n) := by simp [boolCd, cntV, cnt]; try omega
theorem intsCd_cnt (ns : List Int) : cntV (intsCd ns) ≤ 16 + 16 * wtV (intsCd ns) := by
  have h := cntR_wt (f := intCd) (xs := ns) (fun x _ => intCd_cnt x)
  simp only [intsCd, cntV, cnt, wtV, wtC, List.length_map]
  omega
theorem Sy.cd_cnt (x : Sy) : cntV x.cd ≤ 16 + 16 * wtV x.cd := by
  have h0 := cntR_wt (f := intCd) (xs := x.args) (fun y _ => intCd_cnt y)
  rw [Sy.cd_list]
  simp only [cntV, cnt, wtV, wtC, List.length_map]
  omega
theorem Sy.cdT_cnt (x : Sy) : cntT x.cd ≤ 16 * wtV x.cd := by
  have h0 := cntR_wt (f := intCd) (xs := x.args) (fun y _ => intCd_cnt y)
  rw [Sy.cd_list]
  simp only [cntT, wtV, wtC, List.length_map]
  omega
theorem Sg.cd_cnt (x : Sg) : cntV x.cd ≤ 16 + 16 * wtV x.cd := by
  have h0 := cntR_wt (f := Sy.cd) (xs := x.syms) (fun y _ => Sy.cd_cnt y)
  rw [Sg.cd_list]
  simp only [cntV, cnt, wtV, wtC, List.length_map]
  omega
theorem Sg.cdT_cnt (x : Sg) : cntT x.cd ≤ 16 * wtV x.cd := by
  have h0 := cntR_wt (f := Sy.cd) (xs := x.syms) (fun y _ => Sy.cd_cnt y)
  rw [Sg.cd_list]
  simp only [cntT, wtV, wtC, List.length_map]
  omega
theorem Tm.cd_cnt_n (n : Nat) : ∀ (x : Tm), ndV x.cd ≤ n → cntV x.cd ≤ 16 + 16 * wtV x.cd := by
  induction n with
  | zero => intro x hn; have h : 0 < ndV x.cd := by rw [Tm.cd_eq]; simp [ndV, ndC]; try omega
            omega
  | succ n ih =>
    intro x hn
    have h0 := cntR_wt (f := Tm.cd) (xs := x.kids) (fun y hy => ih y (by have := Tm.kid_nd hy; omega))
    rw [Tm.cd_list]
    simp only [cntV, cnt, wtV, wtC, List.length_map]
    omega
theorem Tm.cd_cnt (x : Tm) : cntV x.cd ≤ 16 + 16 * wtV x.cd := Tm.cd_cnt_n _ x (Nat.le_refl _)
theorem Tm.cdT_cnt (x : Tm) : cntT x.cd ≤ 16 * wtV x.cd := by
  have h0 := cntR_wt (f := Tm.cd) (xs := x.kids) (fun y _ => Tm.cd_cnt y)
  rw [Tm.cd_list]
  simp only [cntT, wtV, wtC, List.length_map]
  omega
theorem Eqn.cd_cnt (x : Eqn) : cntV x.cd ≤ 16 + 16 * wtV x.cd := by
  have h0 := cntR_wt (f := Tm.cd) (xs := x.a.kids) (fun y _ => Tm.cd_cnt y)
  have h1 := cntR_wt (f := Tm.cd) (xs := x.b.kids) (fun y _ => Tm.cd_cnt y)
  rw [Eqn.cd_list]
  simp only [cntV, cnt, wtV, wtC, List.length_map]
  omega
theorem Eqn.cdT_cnt (x : Eqn) : cntT x.cd ≤ 16 * wtV x.cd := by
  have h0 := cntR_wt (f := Tm.cd) (xs := x.a.kids) (fun y _ => Tm.cd_cnt y)
  have h1 := cntR_wt (f := Tm.cd) (xs := x.b.kids) (fun y _ => Tm.cd_cnt y)
  rw [Eqn.cd_list]
  simp only [cntT, wtV, wtC, List.length_map]
  omega
theorem Wy.cd_cnt_n (n : Nat) : ∀ (x : Wy), ndV x.cd ≤ n → cntV x.cd ≤ 16 + 16 * wtV x.cd := by
  induction n with
  | zero => intro x hn; have h : 0 < ndV x.cd := by rw [Wy.cd_eq]; simp [ndV, ndC]; try omega
            omega
  | succ n ih =>
    intro x hn
    have h0 := cntR_wt (f := Tm.cd) (xs := x.t.kids) (fun y _ => Tm.cd_cnt y)
    have h1 := cntR_wt (f := Wy.cd) (xs := x.kids) (fun y hy => ih y (by have := Wy.kid_nd hy; omega))
    rw [Wy.cd_list]
    simp only [cntV, cnt, wtV, wtC, List.length_map]
    omega
theorem Wy.cd_cnt (x : Wy) : cntV x.cd ≤ 16 + 16 * wtV x.cd := Wy.cd_cnt_n _ x (Nat.le_refl _)
theorem Wy.cdT_cnt (x : Wy) : cntT x.cd ≤ 16 * wtV x.cd := by
  have h0 := cntR_wt (f := Tm.cd) (xs := x.t.kids) (fun y _ => Tm.cd_cnt y)
  have h1 := cntR_wt (f := Wy.cd) (xs := x.kids) (fun y _ => Wy.cd_cnt y)
  rw [Wy.cd_list]
  simp only [cntT, wtV, wtC, List.length_map]
  omega
theorem Atm.cd_cnt (x : Atm) : cntV x.cd ≤ 16 + 16 * wtV x.cd := by
  have h0 := cntR_wt (f := Tm.cd) (xs := x.a.kids) (fun y _ => Tm.cd_cnt y)
  have h1 := cntR_wt (f := Tm.cd) (xs := x.b.kids) (fun y _ => Tm.cd_cnt y)
  have h2 := cntR_wt (f := Tm.cd) (xs := x.nums) (fun y _ => Tm.cd_cnt y)
  have h3 := cntR_wt (f := intCd) (xs := x.times) (fun y _ => intCd_cnt y)
  rw [Atm.cd_list]
  simp only [cntV, cnt, wtV, wtC, List.length_map]
  omega
theorem Atm.cdT_cnt (x : Atm) : cntT x.cd ≤ 16 * wtV x.cd := by
  have h0 := cntR_wt (f := Tm.cd) (xs := x.a.kids) (fun y _ => Tm.cd_cnt y)
  have h1 := cntR_wt (f := Tm.cd) (xs := x.b.kids) (fun y _ => Tm.cd_cnt y)
  have h2 := cntR_wt (f := Tm.cd) (xs := x.nums) (fun y _ => Tm.cd_cnt y)
  have h3 := cntR_wt (f := intCd) (xs := x.times) (fun y _ => intCd_cnt y)
  rw [Atm.cd_list]
  simp only [cntT, wtV, wtC, List.length_map]
  omega
theorem Lt.cd_cnt (x : Lt) : cntV x.cd ≤ 16 + 16 * wtV x.cd := by
  have h0 := cntR_wt (f := Tm.cd) (xs := x.atom.a.kids) (fun y _ => Tm.cd_cnt y)
  have h1 := cntR_wt (f := Tm.cd) (xs := x.atom.b.kids) (fun y _ => Tm.cd_cnt y)
  have h2 := cntR_wt (f := Tm.cd) (xs := x.atom.nums) (fun y _ => Tm.cd_cnt y)
  have h3 := cntR_wt (f := intCd) (xs := x.atom.times) (fun y _ => intCd_cnt y)
  rw [Lt.cd_list]
  simp only [cntV, cnt, wtV, wtC, List.length_map]
  omega
theorem Lt.cdT_cnt (x : Lt) : cntT x.cd ≤ 16 * wtV x.cd := by
  have h0 := cntR_wt (f := Tm.cd) (xs := x.atom.a.kids) (fun y _ => Tm.cd_cnt y)
  have h1 := cntR_wt (f := Tm.cd) (xs := x.atom.b.kids) (fun y _ => Tm.cd_cnt y)
  have h2 := cntR_wt (f := Tm.cd) (xs := x.atom.nums) (fun y _ => Tm.cd_cnt y)
  have h3 := cntR_wt (f := intCd) (xs := x.atom.times) (fun y _ => intCd_cnt y)
  rw [Lt.cd_list]
  simp only [cntT, wtV, wtC, List.length_map]
  omega
theorem Fm.cd_cnt_n (n : Nat) : ∀ (x : Fm), ndV x.cd ≤ n → cntV x.cd ≤ 16 + 16 * wtV x.cd := by
  induction n with
  | zero => intro x hn; have h : 0 < ndV x.cd := by rw [Fm.cd_eq]; simp [ndV, ndC]; try omega
            omega
  | succ n ih =>
    intro x hn
    have h0 := cntR_wt (f := Tm.cd) (xs := x.lit.atom.a.kids) (fun y _ => Tm.cd_cnt y)
    have h1 := cntR_wt (f := Tm.cd) (xs := x.lit.atom.b.kids) (fun y _ => Tm.cd_cnt y)
    have h2 := cntR_wt (f := Tm.cd) (xs := x.lit.atom.nums) (fun y _ => Tm.cd_cnt y)
    have h3 := cntR_wt (f := intCd) (xs := x.lit.atom.times) (fun y _ => intCd_cnt y)
    have h4 := cntR_wt (f := Fm.cd) (xs := x.kids) (fun y hy => ih y (by have := Fm.kid_nd hy; omega))
    rw [Fm.cd_list]
    simp only [cntV, cnt, wtV, wtC, List.length_map]
    omega
theorem Fm.cd_cnt (x : Fm) : cntV x.cd ≤ 16 + 16 * wtV x.cd := Fm.cd_cnt_n _ x (Nat.le_refl _)
theorem Fm.cdT_cnt (x : Fm) : cntT x.cd ≤ 16 * wtV x.cd := by
  have h0 := cntR_wt (f := Tm.cd) (xs := x.lit.atom.a.kids) (fun y _ => Tm.cd_cnt y)
  have h1 := cntR_wt (f := Tm.cd) (xs := x.lit.atom.b.kids) (fun y _ => Tm.cd_cnt y)
  have h2 := cntR_wt (f := Tm.cd) (xs := x.lit.atom.nums) (fun y _ => Tm.cd_cnt y)
  have h3 := cntR_wt (f := intCd) (xs := x.lit.atom.times) (fun y _ => intCd_cnt y)
  have h4 := cntR_wt (f := Fm.cd) (xs := x.kids) (fun y _ => Fm.cd_cnt y)
  rw [Fm.cd_list]
  simp only [cntT, wtV, wtC, List.length_map]
  omega
theorem Cs.cd_cnt_n (n : Nat) : ∀ (x : Cs), ndV x.cd ≤ n → cntV x.cd ≤ 16 + 16 * wtV x.cd := by
  induction n with
  | zero => intro x hn; have h : 0 < ndV x.cd := by rw [Cs.cd_eq]; simp [ndV, ndC]; try omega
            omega
  | succ n ih =>
    intro x hn
    have h0 := cntR_wt (f := Tm.cd) (xs := x.why.t.kids) (fun y _ => Tm.cd_cnt y)
    have h1 := cntR_wt (f := Wy.cd) (xs := x.why.kids) (fun y _ => Wy.cd_cnt y)
    have h2 := cntR_wt (f := intCd) (xs := x.times) (fun y _ => intCd_cnt y)
    have h3 := cntR_wt (f := Tm.cd) (xs := x.a.kids) (fun y _ => Tm.cd_cnt y)
    have h4 := cntR_wt (f := Tm.cd) (xs := x.b.kids) (fun y _ => Tm.cd_cnt y)
    have h5 := cntR_wt (f := Cs.cd) (xs := x.kids) (fun y hy => ih y (by have := Cs.kid_nd hy; omega))
    rw [Cs.cd_list]
    simp only [cntV, cnt, wtV, wtC, List.length_map]
    omega
theorem Cs.cd_cnt (x : Cs) : cntV x.cd ≤ 16 + 16 * wtV x.cd := Cs.cd_cnt_n _ x (Nat.le_refl _)
theorem Cs.cdT_cnt (x : Cs) : cntT x.cd ≤ 16 * wtV x.cd := by
  have h0 := cntR_wt (f := Tm.cd) (xs := x.why.t.kids) (fun y _ => Tm.cd_cnt y)
  have h1 := cntR_wt (f := Wy.cd) (xs := x.why.kids) (fun y _ => Wy.cd_cnt y)
  have h2 := cntR_wt (f := intCd) (xs := x.times) (fun y _ => intCd_cnt y)
  have h3 := cntR_wt (f := Tm.cd) (xs := x.a.kids) (fun y _ => Tm.cd_cnt y)
  have h4 := cntR_wt (f := Tm.cd) (xs := x.b.kids) (fun y _ => Tm.cd_cnt y)
  have h5 := cntR_wt (f := Cs.cd) (xs := x.kids) (fun y _ => Cs.cd_cnt y)
  rw [Cs.cd_list]
  simp only [cntT, wtV, wtC, List.length_map]
  omega
theorem Lm.cd_cnt (x : Lm) : cntV x.cd ≤ 16 + 16 * wtV x.cd := by
  have h0 := cntR_wt (f := intCd) (xs := x.marks) (fun y _ => intCd_cnt y)
  have h1 := cntR_wt (f := Tm.cd) (xs := x.case.why.t.kids) (fun y _ => Tm.cd_cnt y)
  have h2 := cntR_wt (f := Wy.cd) (xs := x.case.why.kids) (fun y _ => Wy.cd_cnt y)
  have h3 := cntR_wt (f := intCd) (xs := x.case.times) (fun y _ => intCd_cnt y)
  have h4 := cntR_wt (f := Tm.cd) (xs := x.case.a.kids) (fun y _ => Tm.cd_cnt y)
  have h5 := cntR_wt (f := Tm.cd) (xs := x.case.b.kids) (fun y _ => Tm.cd_cnt y)
  have h6 := cntR_wt (f := Cs.cd) (xs := x.case.kids) (fun y _ => Cs.cd_cnt y)
  rw [Lm.cd_list]
  simp only [cntV, cnt, wtV, wtC, List.length_map]
  omega
theorem Lm.cdT_cnt (x : Lm) : cntT x.cd ≤ 16 * wtV x.cd := by
  have h0 := cntR_wt (f := intCd) (xs := x.marks) (fun y _ => intCd_cnt y)
  have h1 := cntR_wt (f := Tm.cd) (xs := x.case.why.t.kids) (fun y _ => Tm.cd_cnt y)
  have h2 := cntR_wt (f := Wy.cd) (xs := x.case.why.kids) (fun y _ => Wy.cd_cnt y)
  have h3 := cntR_wt (f := intCd) (xs := x.case.times) (fun y _ => intCd_cnt y)
  have h4 := cntR_wt (f := Tm.cd) (xs := x.case.a.kids) (fun y _ => Tm.cd_cnt y)
  have h5 := cntR_wt (f := Tm.cd) (xs := x.case.b.kids) (fun y _ => Tm.cd_cnt y)
  have h6 := cntR_wt (f := Cs.cd) (xs := x.case.kids) (fun y _ => Cs.cd_cnt y)
  rw [Lm.cd_list]
  simp only [cntT, wtV, wtC, List.length_map]
  omega
theorem Pp.cd_cnt (x : Pp) : cntV x.cd ≤ 16 + 16 * wtV x.cd := by
  have h0 := cntR_wt (f := Lm.cd) (xs := x.lemmas) (fun y _ => Lm.cd_cnt y)
  have h1 := cntR_wt (f := intsCd) (xs := x.log) (fun y _ => intsCd_cnt y)
  rw [Pp.cd_list]
  simp only [cntV, cnt, wtV, wtC, List.length_map]
  omega
theorem Pp.cdT_cnt (x : Pp) : cntT x.cd ≤ 16 * wtV x.cd := by
  have h0 := cntR_wt (f := Lm.cd) (xs := x.lemmas) (fun y _ => Lm.cd_cnt y)
  have h1 := cntR_wt (f := intsCd) (xs := x.log) (fun y _ => intsCd_cnt y)
  rw [Pp.cd_list]
  simp only [cntT, wtV, wtC, List.length_map]
  omega
theorem fmsCd_cnt (ns : List Fm) : cntV (fmsCd ns) ≤ 16 + 16 * wtV (fmsCd ns) := by
  have h := cntR_wt (f := Fm.cd) (xs := ns) (fun x _ => Fm.cd_cnt x)
  simp only [fmsCd, cntV, cnt, wtV, wtC, List.length_map]
  omega
theorem Stk.cd_cnt (x : Stk) : cntV x.cd ≤ 16 + 16 * wtV x.cd := by
  have h0 := cntR_wt (f := Sy.cd) (xs := x.sig.syms) (fun y _ => Sy.cd_cnt y)
  have h1 := cntR_wt (f := fmsCd) (xs := x.levels) (fun y _ => fmsCd_cnt y)
  rw [Stk.cd_list]
  simp only [cntV, cnt, wtV, wtC, List.length_map]
  omega
theorem Stk.cdT_cnt (x : Stk) : cntT x.cd ≤ 16 * wtV x.cd := by
  have h0 := cntR_wt (f := Sy.cd) (xs := x.sig.syms) (fun y _ => Sy.cd_cnt y)
  have h1 := cntR_wt (f := fmsCd) (xs := x.levels) (fun y _ => fmsCd_cnt y)
  rw [Stk.cd_list]
  simp only [cntT, wtV, wtC, List.length_map]
  omega
theorem Cnf.cd_cnt (x : Cnf) : cntV x.cd ≤ 16 + 16 * wtV x.cd := by
  have h0 := cntR_wt (f := intsCd) (xs := x.list) (fun y _ => intsCd_cnt y)
  rw [Cnf.cd_list]
  simp only [cntV, cnt, wtV, wtC, List.length_map]
  omega
theorem Cnf.cdT_cnt (x : Cnf) : cntT x.cd ≤ 16 * wtV x.cd := by
  have h0 := cntR_wt (f := intsCd) (xs := x.list) (fun y _ => intsCd_cnt y)
  rw [Cnf.cd_list]
  simp only [cntT, wtV, wtC, List.length_map]
  omega
theorem Ln.cd_cnt (x : Ln) : cntV x.cd ≤ 16 + 16 * wtV x.cd := by
  have h0 := cntR_wt (f := intCd) (xs := x.coefs) (fun y _ => intCd_cnt y)
  rw [Ln.cd_list]
  simp only [cntV, cnt, wtV, wtC, List.length_map]
  omega
theorem Ln.cdT_cnt (x : Ln) : cntT x.cd ≤ 16 * wtV x.cd := by
  have h0 := cntR_wt (f := intCd) (xs := x.coefs) (fun y _ => intCd_cnt y)
  rw [Ln.cd_list]
  simp only [cntT, wtV, wtC, List.length_map]
  omega
theorem Rt.cd_cnt (x : Rt) : cntV x.cd ≤ 16 + 16 * wtV x.cd := by
  rw [Rt.cd_list]
  simp only [cntV, cnt, wtV, wtC, List.length_map]
  omega
theorem Rt.cdT_cnt (x : Rt) : cntT x.cd ≤ 16 * wtV x.cd := by
  rw [Rt.cd_list]
  simp only [cntT, wtV, wtC, List.length_map]
  omega
theorem Rw.cd_cnt (x : Rw) : cntV x.cd ≤ 16 + 16 * wtV x.cd := by
  have h0 := cntR_wt (f := Rt.cd) (xs := x.args) (fun y _ => Rt.cd_cnt y)
  rw [Rw.cd_list]
  simp only [cntV, cnt, wtV, wtC, List.length_map]
  omega
theorem Rw.cdT_cnt (x : Rw) : cntT x.cd ≤ 16 * wtV x.cd := by
  have h0 := cntR_wt (f := Rt.cd) (xs := x.args) (fun y _ => Rt.cd_cnt y)
  rw [Rw.cd_list]
  simp only [cntT, wtV, wtC, List.length_map]
  omega
theorem Md.cd_cnt (x : Md) : cntV x.cd ≤ 16 + 16 * wtV x.cd := by
  have h0 := cntR_wt (f := Rw.cd) (xs := x.rows) (fun y _ => Rw.cd_cnt y)
  rw [Md.cd_list]
  simp only [cntV, cnt, wtV, wtC, List.length_map]
  omega
theorem Md.cdT_cnt (x : Md) : cntT x.cd ≤ 16 * wtV x.cd := by
  have h0 := cntR_wt (f := Rw.cd) (xs := x.rows) (fun y _ => Rw.cd_cnt y)
  rw [Md.cd_list]
  simp only [cntT, wtV, wtC, List.length_map]
  omega
end Go.Proofs.YteclieenkephfaaGreat
