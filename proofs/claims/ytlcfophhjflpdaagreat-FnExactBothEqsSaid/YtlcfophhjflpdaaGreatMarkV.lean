/- mark and held of struct values: their slices alone. -/
import Derived.Test.YtlcfophhjflpdaaGreatExHeld
namespace Go.Proofs.YtlcfophhjflpdaaGreat
open Go Go.RowKit
set_option linter.unusedVariables false
set_option linter.unusedSimpArgs false


set_option linter.unusedVariables false

/-- What marking the slices of a value turns it into; its own scalars stay. -/
def mkT : List CD → Int → List CD
  | [], _ => []
  | .sl es :: ds, k => .sl (mkR es k) :: mkT ds (k + cntR es)
  | .int n :: ds, k => .int n :: mkT ds k
  | .str n :: ds, k => .str n :: mkT ds k
  | .bool n :: ds, k => .bool n :: mkT ds k
def cntT : List CD → Nat
  | [] => 0
  | .sl es :: ds => cntR es + cntT ds
  | .int _ :: ds => cntT ds
  | .str _ :: ds => cntT ds
  | .bool _ :: ds => cntT ds
theorem cntT_append : ∀ (a b : List CD), cntT (a ++ b) = cntT a + cntT b
  | [], b => by simp [cntT]
  | .sl es :: a, b => by simp only [List.cons_append, cntT, cntT_append a b]; omega
  | .int _ :: a, b => by simp only [List.cons_append, cntT, cntT_append a b]
  | .str _ :: a, b => by simp only [List.cons_append, cntT, cntT_append a b]
  | .bool _ :: a, b => by simp only [List.cons_append, cntT, cntT_append a b]
theorem mkT_append : ∀ (a b : List CD) (k : Int), mkT (a ++ b) k = mkT a k ++ mkT b (k + cntT a)
  | [], b, k => by simp [mkT, cntT]
  | .sl es :: a, b, k => by simp only [List.cons_append, mkT, cntT, mkT_append a b]; rw [show (k + cntR es + cntT a : Int) = k + ((cntR es + cntT a : Nat) : Int) by omega]
  | .int _ :: a, b, k => by simp only [List.cons_append, mkT, cntT, mkT_append a b]
  | .str _ :: a, b, k => by simp only [List.cons_append, mkT, cntT, mkT_append a b]
  | .bool _ :: a, b, k => by simp only [List.cons_append, mkT, cntT, mkT_append a b]
theorem mkT_len : ∀ (a : List CD) (k : Int), (mkT a k).length = a.length
  | [], k => rfl
  | .sl es :: a, k => by simp only [mkT, List.length_cons, mkT_len a]
  | .int _ :: a, k => by simp only [mkT, List.length_cons, mkT_len a]
  | .str _ :: a, k => by simp only [mkT, List.length_cons, mkT_len a]
  | .bool _ :: a, k => by simp only [mkT, List.length_cons, mkT_len a]
theorem RdVs.cut {w : World} {ds es : List CD} {vs : List Value} {fp : List Nat} (h : RdVs w (ds ++ es) vs fp) {m : Nat} (hm : ds.length = m) : ∃ f g, fp = f ++ g ∧ RdVs w ds (vs.take m) f ∧ RdVs w es (vs.drop m) g := by
  obtain ⟨us, us', f, g, rfl, rfl, h1, h2⟩ := h.split
  have hl := h1.length
  refine ⟨f, g, rfl, ?_, ?_⟩
  · rw [List.take_left' (by omega)]; exact h1
  · rw [List.drop_left' (by omega)]; exact h2
structure MkV (w0 : World) (fp : List Nat) (k0 : Int) (vs : List Value) (w : World) (done todo : List CD) : Prop where
  rd : RdVs w (mkT done k0 ++ todo) vs fp
  free : Free w fp
  nd : fp.Nodup
  only : Only fp w0 w
theorem MkV.start {w : World} {fp : List Nat} {vs : List Value} {ds : List CD} (k : Int) (h : RdVs w ds vs fp) (hf : Free w fp) (hn : fp.Nodup) : MkV w fp k vs w [] ds := ⟨h, hf, hn, Only.refl _ _⟩
theorem MkV.skip {w0 w : World} {fp : List Nat} {k0 : Int} {vs : List Value} {done rest : List CD} {d : CD} (h : MkV w0 fp k0 vs w done ([d] ++ rest)) (hd : ∀ k, mkT [d] k = [d]) : MkV w0 fp k0 vs w (done ++ [d]) rest := by
  obtain ⟨h1, h2, h3, h4⟩ := h
  refine ⟨?_, h2, h3, h4⟩
  rw [mkT_append, hd, List.append_assoc]; exact h1
theorem MkV.last {w0 w : World} {fp : List Nat} {k0 : Int} {vs : List Value} {done ds : List CD} (h : MkV w0 fp k0 vs w done ds) : MkV w0 fp k0 vs w done (ds ++ []) := by rw [List.append_nil]; exact h
theorem MkV.step {w0 w : World} {fp : List Nat} {k0 : Int} {vs : List Value} {done ds rest : List CD} (h : MkV w0 fp k0 vs w done (ds ++ rest)) {n m : Nat} (hn : done.length = n) (hm : ds.length = m) :
    ∃ f, (∀ b ∈ f, b ∈ fp) ∧ RdVs w ds ((vs.drop n).take m) f ∧ Free w f ∧ f.Nodup ∧ ∀ (k : Int) (w' : World), k = k0 + cntT done → RdVs w' (mkT ds k) ((vs.drop n).take m) f → Free w' f → Only f w w' → MkV w0 fp k0 vs w' (done ++ ds) rest := by
  obtain ⟨h1, h2, h3, h4⟩ := h
  obtain ⟨f1, g, rfl, r1, hr⟩ := h1.cut (m := n) (by rw [mkT_len]; exact hn)
  obtain ⟨f2, f3, rfl, r2, r3⟩ := hr.cut hm
  have l1 := r1.lt
  have l2 := r2.lt
  have l3 := r3.lt
  obtain ⟨n1, n23, d1⟩ := List.nodup_append.1 h3
  obtain ⟨n2, n3, d2⟩ := List.nodup_append.1 n23
  refine ⟨f2, fun b hb => by simp [hb], r2, fun b hb => h2 b (by simp [hb]), n2, fun k w' hk q1 q2 q3 => ?_⟩
  have s1 : SameOn f1 w w' := q3.same l1 (fun b hb hb' => d1 b hb b (by simp [hb']) rfl)
  have s3 : SameOn f3 w w' := q3.same l3 (fun b hb hb' => d2 b hb' b hb rfl)
  refine ⟨?_, ?_, h3, h4.trans (q3.mono fun b hb => by simp [hb])⟩
  · rw [mkT_append, ← hk, List.append_assoc]
    have e : vs = vs.take n ++ ((vs.drop n).take m ++ (vs.drop n).drop m) := by rw [List.take_append_drop, List.take_append_drop]
    rw [e]
    exact (r1.same _ s1).app (q1.app (r3.same _ s3))
  · intro b hb
    rcases List.mem_append.1 hb with hb | hb
    · have := h2 b (by simp [hb]); rw [s1 b hb]; exact this
    rcases List.mem_append.1 hb with hb | hb
    · exact q2 b hb
    · have := h2 b (by simp [hb]); rw [s3 b hb]; exact this
theorem MkV.box {w0 w : World} {fp : List Nat} {k0 : Int} {vs : List Value} {todo done : List CD} (h : MkV w0 fp k0 vs w done todo) (cs : Array Value) (T : Nat) : MkV w0 fp k0 vs (w.alloc (.cells cs T)) done todo := by
  obtain ⟨h1, h2, h3, h4⟩ := h
  exact ⟨h1.below (below_alloc _ _), h2.same (below_sameOn (below_alloc _ _) h2.lt), h3, h4.trans (Only.below (below_alloc _ _))⟩
theorem MkV.cells {w w' : World} {f : List Nat} {b : Nat} {cs : Array Value} (ho : Only f w w') (hb : b < w.heap.size) (hn : b ∉ f) (h : ∀ j, w.cell? ⟨b, j, none⟩ = cs[j]?) : ∀ j, w'.cell? ⟨b, j, none⟩ = cs[j]? := fun j => by
  rw [← h j]
  exact World.cell?_of_block (w := w) (a := ⟨b, j, none⟩) (ho.block b hb hn)
def MkOutV (ds : List CD) (k : Int) (vs : List Value) (fp : List Nat) (w : World) (e : Ending) (w' : World) : Prop := e = .returned (.int .i64 (k + cntT ds)) ∧ RdVs w' (mkT ds k) vs fp ∧ Free w' fp ∧ Only fp w w'
theorem MkV.out {w0 w : World} {fp : List Nat} {k0 : Int} {vs : List Value} {done ds : List CD} {r : Int} (h : MkV w0 fp k0 vs w done []) (e : done = ds) (hr : r = k0 + cntT ds) : MkOutV ds k0 vs fp w0 (.returned (.int .i64 r)) w := by
  obtain ⟨h1, h2, h3, h4⟩ := h
  subst e hr
  rw [List.append_nil] at h1
  exact ⟨rfl, h1, h2, h4⟩
theorem RdVs.of_single {w : World} {d : CD} {v : Value} {f : List Nat} (h : RdVs w [d] [v] f) : Rd w d v f := by
  simp only [RdVs] at h
  obtain ⟨v', us, f', g, h1, h2, h3, h4⟩ := h
  simp at h1; obtain ⟨rfl, rfl⟩ := h1; obtain ⟨_, rfl⟩ := h4; rw [h2, List.append_nil]; exact h3
def HeldOutV (ds : List CD) (k : Int) (w : World) (e : Ending) (w' : World) : Prop := e = .returned (.int .i64 (k + cntT ds)) ∧ Below w.heap.size w w'

theorem markSig_x (x : Sg) (vs : List Value) (fp : List Nat) (k : Int) (w : World) (h0 : 0 < k) (h1 : k + cntT x.cd ≤ 200000000000000) (hv : RdVs w x.cd vs fp) (hf : Free w fp) (hnd : fp.Nodup) :
    Calls Tryz.prog 39 #[.agg vs.toArray, .int .i64 k] w (MkOutV x.cd k vs fp w) := by
  have hc : cntT x.cd = cntR (x.syms.map Sy.cd) := by unfold Sg.cd; simp only [cntT_append, cntT]; try omega
  have h2 : MkV w fp k vs w [] x.cd := MkV.start k hv hf hnd
  have hl := hf.lt
  unfold Sg.cd at h2
  obtain ⟨a0, c0, f0, rfl, _, _⟩ := Sg.open hv
  go_enter Tryz.func39, Tryz.ntmps39
  go_wp2_with fail
  replace h2 := h2.box #[.slice a0 x.syms.length c0] 41
  have hx := cell_new w #[.slice a0 x.syms.length c0] 41
  have hb0 : w.heap.size < (w.alloc (.cells #[.slice a0 x.syms.length c0] 41)).heap.size := by simp
  have hbn : w.heap.size ∉ fp := fun h => by have := hl _ h; omega
  replace h2 := h2.last
  obtain ⟨f, hsub, r, hfr, hn, next⟩ := h2.step (n := 0) (m := 1) (by simp [Sy.cd_len, Sg.cd_len, Tm.cd_len, Eqn.cd_len, Stp.cd_len, Wy.cd_len, Atm.cd_len, Lt.cd_len, Fm.cd_len, Cs.cd_len, Lm.cd_len, Pp.cd_len, Stk.cd_len, Cnf.cd_len, Ln.cd_len, Rt.cd_len, Rw.cd_len, Md.cd_len]) (by simp [Sy.cd_len, Sg.cd_len, Tm.cd_len, Eqn.cd_len, Stp.cd_len, Wy.cd_len, Atm.cd_len, Lt.cd_len, Fm.cd_len, Cs.cd_len, Lm.cd_len, Pp.cd_len, Stk.cd_len, Cnf.cd_len, Ln.cd_len, Rt.cd_len, Rw.cd_len, Md.cd_len])
  have hbf : w.heap.size ∉ f := fun h => hbn (hsub _ h)
  clear h2
  refine (markSymS_x x.syms _ _ (k) _ (by omega) (by omega) (RdVs.of_single r) hfr hn).mono ?_
  rintro e w1 ⟨rfl, r', hf', ho⟩
  have h2 := next (k) w1 (by simp only [cntT_append, cntT]; try omega) (RdVs.single r') hf' ho
  replace hx := MkV.cells ho hb0 hbf hx
  replace hb0 := Nat.lt_of_lt_of_le hb0 ho.size
  clear next r r' hf' ho hfr hn hsub hbf f
  go_wp2_with fail
  go_ret
  exact h2.out (by unfold Sg.cd; try simp only [List.nil_append, List.append_assoc]) (by rw [hc]; try omega)
theorem markStack_x (x : Stk) (vs : List Value) (fp : List Nat) (k : Int) (w : World) (h0 : 0 < k) (h1 : k + cntT x.cd ≤ 200000000000000) (hv : RdVs w x.cd vs fp) (hf : Free w fp) (hnd : fp.Nodup) :
    Calls Tryz.prog 30 #[.agg vs.toArray, .int .i64 k] w (MkOutV x.cd k vs fp w) := by
  have hc : cntT x.cd = cntT x.sig.cd + cntR (x.levels.map fmsCd) := by unfold Stk.cd; simp only [cntT_append, cntT]; try omega
  have h2 : MkV w fp k vs w [] x.cd := MkV.start k hv hf hnd
  have hl := hf.lt
  unfold Stk.cd at h2
  obtain ⟨a0, c0, f0, a1, c1, f1, rfl, _, _, _⟩ := Stk.open hv
  go_enter Tryz.func30, Tryz.ntmps30
  go_wp2_with fail
  replace h2 := h2.box #[.slice a0 x.sig.syms.length c0, .slice a1 x.levels.length c1] 69
  have hx := cell_new w #[.slice a0 x.sig.syms.length c0, .slice a1 x.levels.length c1] 69
  have hb0 : w.heap.size < (w.alloc (.cells #[.slice a0 x.sig.syms.length c0, .slice a1 x.levels.length c1] 69)).heap.size := by simp
  have hbn : w.heap.size ∉ fp := fun h => by have := hl _ h; omega
  obtain ⟨f, hsub, r, hfr, hn, next⟩ := h2.step (n := 0) (m := 1) (by simp [Sy.cd_len, Sg.cd_len, Tm.cd_len, Eqn.cd_len, Stp.cd_len, Wy.cd_len, Atm.cd_len, Lt.cd_len, Fm.cd_len, Cs.cd_len, Lm.cd_len, Pp.cd_len, Stk.cd_len, Cnf.cd_len, Ln.cd_len, Rt.cd_len, Rw.cd_len, Md.cd_len]) (by simp [Sy.cd_len, Sg.cd_len, Tm.cd_len, Eqn.cd_len, Stp.cd_len, Wy.cd_len, Atm.cd_len, Lt.cd_len, Fm.cd_len, Cs.cd_len, Lm.cd_len, Pp.cd_len, Stk.cd_len, Cnf.cd_len, Ln.cd_len, Rt.cd_len, Rw.cd_len, Md.cd_len])
  have hbf : w.heap.size ∉ f := fun h => hbn (hsub _ h)
  clear h2
  refine (markSig_x x.sig _ _ (k) _ (by omega) (by omega) r hfr hn).mono ?_
  rintro e w1 ⟨rfl, r', hf', ho⟩
  have h2 := next (k) w1 (by simp only [cntT_append, cntT]; try omega) r' hf' ho
  replace hx := MkV.cells ho hb0 hbf hx
  replace hb0 := Nat.lt_of_lt_of_le hb0 ho.size
  clear next r r' hf' ho hfr hn hsub hbf f
  have C1 := hx 1
  simp only [List.getElem?_toArray, List.getElem?_cons_zero, List.getElem?_cons_succ] at C1
  replace h2 := h2.last
  obtain ⟨f, hsub, r, hfr, hn, next⟩ := h2.step (n := 1) (m := 1) (by simp [Sy.cd_len, Sg.cd_len, Tm.cd_len, Eqn.cd_len, Stp.cd_len, Wy.cd_len, Atm.cd_len, Lt.cd_len, Fm.cd_len, Cs.cd_len, Lm.cd_len, Pp.cd_len, Stk.cd_len, Cnf.cd_len, Ln.cd_len, Rt.cd_len, Rw.cd_len, Md.cd_len]) (by simp [Sy.cd_len, Sg.cd_len, Tm.cd_len, Eqn.cd_len, Stp.cd_len, Wy.cd_len, Atm.cd_len, Lt.cd_len, Fm.cd_len, Cs.cd_len, Lm.cd_len, Pp.cd_len, Stk.cd_len, Cnf.cd_len, Ln.cd_len, Rt.cd_len, Rw.cd_len, Md.cd_len])
  have hbf : w.heap.size ∉ f := fun h => hbn (hsub _ h)
  clear h2
  go_wp2_with fail
  refine (markFormSS_x x.levels _ _ (k + cntT x.sig.cd) _ (by omega) (by omega) (RdVs.of_single r) hfr hn).mono ?_
  rintro e w2 ⟨rfl, r', hf', ho⟩
  have h2 := next (k + cntT x.sig.cd) w2 (by simp only [cntT_append, cntT]; try omega) (RdVs.single r') hf' ho
  replace hx := MkV.cells ho hb0 hbf hx
  replace hb0 := Nat.lt_of_lt_of_le hb0 ho.size
  clear next r r' hf' ho hfr hn hsub hbf f
  go_wp2_with fail
  go_ret
  exact h2.out (by unfold Stk.cd; try simp only [List.nil_append, List.append_assoc]) (by rw [hc]; try omega)
end Go.Proofs.YtlcfophhjflpdaaGreat
