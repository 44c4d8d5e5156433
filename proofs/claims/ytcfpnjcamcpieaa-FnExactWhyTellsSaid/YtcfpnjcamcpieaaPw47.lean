/- Parts of the proof: Cnt. -/
import Derived.Test.YtcfpnjcamcpieaaPw46
/- mark and held of struct values: their slices alone. -/
namespace Go.Proofs.Ytcfpnjcamcpieaa
open Go Go.RowKit
set_option linter.unusedVariables false
set_option linter.unusedSimpArgs false
set_option linter.unusedVariables false
/-- What marking the slices of a value turns it into; its own scalars stay. -/
def mkT : List CD → Int → List CD
 | [], _ => []
 | .sl es :: ds, k => .sl (mkR es k) :: mkT ds (k + cntR es)
 | .int n :: ds, k => .int n :: mkT ds k
 | .str n :: ds, k => .str n :: mkT ds k
 | .bool n :: ds, k => .bool n :: mkT ds k
def cntT : List CD → Nat
 | [] => 0
 | .sl es :: ds => cntR es + cntT ds
 | .int _ :: ds => cntT ds
 | .str _ :: ds => cntT ds
 | .bool _ :: ds => cntT ds
theorem zw : ∀ (a b : List CD), cntT (a ++ b) = cntT a + cntT b
 | [], b => by simp [cntT]
 | .sl es :: a, b => by simp only [List.cons_append, cntT, zw a b]; omega
 | .int _ :: a, b => by simp only [List.cons_append, cntT, zw a b]
 | .str _ :: a, b => by simp only [List.cons_append, cntT, zw a b]
 | .bool _ :: a, b => by simp only [List.cons_append, cntT, zw a b]
theorem zW : ∀ (a b : List CD) (k : Int), mkT (a ++ b) k = mkT a k ++ mkT b (k + cntT a)
 | [], b, k => by simp [mkT, cntT]
 | .sl es :: a, b, k => by simp only [List.cons_append, mkT, cntT, zW a b]; rw [show (k + cntR es + cntT a : Int) = k + ((cntR es + cntT a : Nat) : Int) by omega]
 | .int _ :: a, b, k => by simp only [List.cons_append, mkT, cntT, zW a b]
 | .str _ :: a, b, k => by simp only [List.cons_append, mkT, cntT, zW a b]
 | .bool _ :: a, b, k => by simp only [List.cons_append, mkT, cntT, zW a b]
theorem zaS : ∀ (a : List CD) (k : Int), (mkT a k).length = a.length
 | [], k => rfl
 | .sl es :: a, k => by simp only [mkT, List.length_cons, zaS a]
 | .int _ :: a, k => by simp only [mkT, List.length_cons, zaS a]
 | .str _ :: a, k => by simp only [mkT, List.length_cons, zaS a]
 | .bool _ :: a, k => by simp only [mkT, List.length_cons, zaS a]
theorem RdVs.cut {w : World} {ds es : List CD} {vs : List Value} {fp : List Nat} (h : RdVs w (ds ++ es) vs fp) {m : Nat} (hm : ds.length = m) : ∃ f g, fp = f ++ g ∧ RdVs w ds (vs.take m) f ∧ RdVs w es (vs.drop m) g := by
 obtain ⟨us, us', f, g, rfl, rfl, h1, h2⟩ := h.split
 have hl := h1.length
 refine ⟨f, g, rfl, ?_, ?_⟩
 ·rw [List.take_left' (by omega)]; exact h1
 ·rw [List.drop_left' (by omega)]; exact h2
structure MkV (w0 : World) (fp : List Nat) (k0 : Int) (vs : List Value) (w : World) (done todo : List CD) : Prop where
 rd : RdVs w (mkT done k0 ++ todo) vs fp
 free : Free w fp
 nd : fp.Nodup
 only : Only fp w0 w
theorem MkV.start {w : World} {fp : List Nat} {vs : List Value} {ds : List CD} (k : Int) (h : RdVs w ds vs fp) (hf : Free w fp) (hn : fp.Nodup) : MkV w fp k vs w [] ds := ⟨h, hf, hn, Only.refl _ _⟩
theorem MkV.skip {w0 w : World} {fp : List Nat} {k0 : Int} {vs : List Value} {done rest : List CD} {d : CD} (h : MkV w0 fp k0 vs w done ([d] ++ rest)) (hd : ∀ k, mkT [d] k = [d]) : MkV w0 fp k0 vs w (done ++ [d]) rest := by
 obtain ⟨h1, h2, h3, h4⟩ := h
 refine ⟨?_, h2, h3, h4⟩
 rw [zW, hd, List.append_assoc]; exact h1
theorem MkV.last {w0 w : World} {fp : List Nat} {k0 : Int} {vs : List Value} {done ds : List CD} (h : MkV w0 fp k0 vs w done ds) : MkV w0 fp k0 vs w done (ds ++ []) := by rw [List.append_nil]; exact h
theorem MkV.step {w0 w : World} {fp : List Nat} {k0 : Int} {vs : List Value} {done ds rest : List CD} (h : MkV w0 fp k0 vs w done (ds ++ rest)) {n m : Nat} (hn : done.length = n) (hm : ds.length = m) :
  ∃ f, (∀ b ∈ f, b ∈ fp) ∧ RdVs w ds ((vs.drop n).take m) f ∧ Free w f ∧ f.Nodup ∧ ∀ (k : Int) (w' : World), k = k0 + cntT done → RdVs w' (mkT ds k) ((vs.drop n).take m) f → Free w' f → Only f w w' → MkV w0 fp k0 vs w' (done ++ ds) rest := by
 obtain ⟨h1, h2, h3, h4⟩ := h
 obtain ⟨f1, g, rfl, r1, hr⟩ := h1.cut (m := n) (by rw [zaS]; exact hn)
 obtain ⟨f2, f3, rfl, r2, r3⟩ := hr.cut hm
 have l1 := r1.lt
 have l2 := r2.lt
 have l3 := r3.lt
 obtain ⟨n1, n23, d1⟩ := List.nodup_append.1 h3
 obtain ⟨n2, n3, d2⟩ := List.nodup_append.1 n23
 refine ⟨f2, fun b hb => by simp [hb], r2, fun b hb => h2 b (by simp [hb]), n2, fun k w' hk q1 q2 q3 => ?_⟩
 have s1 : SameOn f1 w w' := q3.same l1 (fun b hb hb' => d1 b hb b (by simp [hb']) rfl)
 have s3 : SameOn f3 w w' := q3.same l3 (fun b hb hb' => d2 b hb' b hb rfl)
 refine ⟨?_, ?_, h3, h4.trans (q3.mono fun b hb => by simp [hb])⟩
 ·rw [zW, ← hk, List.append_assoc]
  have e : vs = vs.take n ++ ((vs.drop n).take m ++ (vs.drop n).drop m) := by rw [List.take_append_drop, List.take_append_drop]
  rw [e]
  exact (r1.same _ s1).app (q1.app (r3.same _ s3))
 ·intro b hb
  rcases zc6.1 hb with hb | hb
  ·have := h2 b (by simp [hb]); rw [s1 b hb]; exact this
  rcases zc6.1 hb with hb | hb
  ·exact q2 b hb
  ·have := h2 b (by simp [hb]); rw [s3 b hb]; exact this
theorem MkV.box {w0 w : World} {fp : List Nat} {k0 : Int} {vs : List Value} {todo done : List CD} (h : MkV w0 fp k0 vs w done todo) (cs : Array Value) (T : Nat) : MkV w0 fp k0 vs (w.alloc (.cells cs T)) done todo := by
 obtain ⟨h1, h2, h3, h4⟩ := h
 exact ⟨h1.below (zb _ _), h2.same (zM (zb _ _) h2.lt), h3, h4.trans (Only.below (zb _ _))⟩
theorem MkV.cells {w w' : World} {f : List Nat} {b : Nat} {cs : Array Value} (ho : Only f w w') (hb : b < w.heap.size) (hn : b ∉ f) (h : ∀ j, w.cell? ⟨b, j, none⟩ = cs[j]?) : ∀ j, w'.cell? ⟨b, j, none⟩ = cs[j]? := fun j => by
 rw [← h j]
 exact World.cell?_of_block (w := w) (a := ⟨b, j, none⟩) (ho.block b hb hn)
def zcd (ds : List CD) (k : Int) (vs : List Value) (fp : List Nat) (w : World) (e : Ending) (w' : World) : Prop := e = .returned (.int .i64 (k + cntT ds)) ∧ RdVs w' (mkT ds k) vs fp ∧ Free w' fp ∧ Only fp w w'
theorem MkV.out {w0 w : World} {fp : List Nat} {k0 : Int} {vs : List Value} {done ds : List CD} {r : Int} (h : MkV w0 fp k0 vs w done []) (e : done = ds) (hr : r = k0 + cntT ds) : zcd ds k0 vs fp w0 (.returned (.int .i64 r)) w := by
 obtain ⟨h1, h2, h3, h4⟩ := h
 subst e hr
 rw [List.append_nil] at h1
 exact ⟨rfl, h1, h2, h4⟩
theorem RdVs.of_single {w : World} {d : CD} {v : Value} {f : List Nat} (h : RdVs w [d] [v] f) : Rd w d v f := by
 simp only [RdVs] at h
 obtain ⟨v', us, f', g, h1, h2, h3, h4⟩ := h
 simp at h1; obtain ⟨rfl, rfl⟩ := h1; obtain ⟨_, rfl⟩ := h4; rw [h2, List.append_nil]; exact h3
def zcD (ds : List CD) (k : Int) (w : World) (e : Ending) (w' : World) : Prop := e = .returned (.int .i64 (k + cntT ds)) ∧ Below w.heap.size w w'
theorem za7 (x : Tm) (vs : List Value) (fp : List Nat) (k : Int) (w : World) (h0 : 0 < k) (h1 : k + cntT x.cd ≤ 200000000000000) (hv : RdVs w x.cd vs fp) (hf : Free w fp) (hnd : fp.Nodup) :
  Calls Try.prog 41 #[.agg vs.toArray, .int .i64 k] w (zcd x.cd k vs fp w) := by
 have hc : cntT x.cd = cntR (x.kids.map Tm.cd) := by rw [Tm.cd_app]; simp only [zw, cntT]; try omega
 have h2 : MkV w fp k vs w [] x.cd := MkV.start k hv hf hnd
 have hl := hf.lt
 rw [Tm.cd_app] at h2
 obtain ⟨a1, c1, f1, rfl, _, _, _⟩ := Tm.open hv
 go_enter Try.func41, Try.ntmps41
 go_wp2_with fail
 replace h2 := h2.box #[.string x.name, .slice a1 x.kids.length c1] 37
 have hx := zp w #[.string x.name, .slice a1 x.kids.length c1] 37
 have hb0 : w.heap.size < (w.alloc (.cells #[.string x.name, .slice a1 x.kids.length c1] 37)).heap.size := by simp
 have hbn : w.heap.size ∉ fp := fun h => by have := hl _ h; omega
 replace h2 := h2.skip (fun _ => rfl)
 replace h2 := h2.last
 obtain ⟨f, hsub, r, hfr, hn, next⟩ := h2.step (n := 1) (m := 1) (by simp [Sy.cd_len, Sg.cd_len, Tm.cd_len, Eqn.cd_len, Stp.cd_len, Wy.cd_len, Atm.cd_len, Lt.cd_len, Fm.cd_len, Cs.cd_len, Lm.cd_len, Pp.cd_len, Stk.cd_len, Cnf.cd_len, Ln.cd_len, Rt.cd_len, Rw.cd_len, Md.cd_len]) (by simp [Sy.cd_len, Sg.cd_len, Tm.cd_len, Eqn.cd_len, Stp.cd_len, Wy.cd_len, Atm.cd_len, Lt.cd_len, Fm.cd_len, Cs.cd_len, Lm.cd_len, Pp.cd_len, Stk.cd_len, Cnf.cd_len, Ln.cd_len, Rt.cd_len, Rw.cd_len, Md.cd_len])
 have hbf : w.heap.size ∉ f := fun h => hbn (hsub _ h)
 clear h2
 refine (zas x.kids _ _ (k) _ (by omega) (by omega) (RdVs.of_single r) hfr hn).mono ?_
 rintro e w2 ⟨rfl, r', hf', ho⟩
 have h2 := next (k) w2 (by simp only [zw, cntT]; try omega) (RdVs.single r') hf' ho
 replace hx := MkV.cells ho hb0 hbf hx
 replace hb0 := zc4 hb0 ho.size
 clear next r r' hf' ho hfr hn hsub hbf f
 go_wp2_with fail
 go_ret
 exact h2.out (by rw [Tm.cd_app]; try simp only [List.nil_append, List.append_assoc]) (by rw [hc]; try omega)
theorem markSig_x (x : Sg) (vs : List Value) (fp : List Nat) (k : Int) (w : World) (h0 : 0 < k) (h1 : k + cntT x.cd ≤ 200000000000000) (hv : RdVs w x.cd vs fp) (hf : Free w fp) (hnd : fp.Nodup) :
  Calls Try.prog 16 #[.agg vs.toArray, .int .i64 k] w (zcd x.cd k vs fp w) := by
 have hc : cntT x.cd = cntR (x.syms.map Sy.cd) := by unfold Sg.cd; simp only [zw, cntT]; try omega
 have h2 : MkV w fp k vs w [] x.cd := MkV.start k hv hf hnd
 have hl := hf.lt
 unfold Sg.cd at h2
 obtain ⟨a0, c0, f0, rfl, _, _⟩ := Sg.open hv
 go_enter Try.func16, Try.ntmps16
 go_wp2_with fail
 replace h2 := h2.box #[.slice a0 x.syms.length c0] 44
 have hx := zp w #[.slice a0 x.syms.length c0] 44
 have hb0 : w.heap.size < (w.alloc (.cells #[.slice a0 x.syms.length c0] 44)).heap.size := by simp
 have hbn : w.heap.size ∉ fp := fun h => by have := hl _ h; omega
 replace h2 := h2.last
 obtain ⟨f, hsub, r, hfr, hn, next⟩ := h2.step (n := 0) (m := 1) (by simp [Sy.cd_len, Sg.cd_len, Tm.cd_len, Eqn.cd_len, Stp.cd_len, Wy.cd_len, Atm.cd_len, Lt.cd_len, Fm.cd_len, Cs.cd_len, Lm.cd_len, Pp.cd_len, Stk.cd_len, Cnf.cd_len, Ln.cd_len, Rt.cd_len, Rw.cd_len, Md.cd_len]) (by simp [Sy.cd_len, Sg.cd_len, Tm.cd_len, Eqn.cd_len, Stp.cd_len, Wy.cd_len, Atm.cd_len, Lt.cd_len, Fm.cd_len, Cs.cd_len, Lm.cd_len, Pp.cd_len, Stk.cd_len, Cnf.cd_len, Ln.cd_len, Rt.cd_len, Rw.cd_len, Md.cd_len])
 have hbf : w.heap.size ∉ f := fun h => hbn (hsub _ h)
 clear h2
 refine (zcV x.syms _ _ (k) _ (by omega) (by omega) (RdVs.of_single r) hfr hn).mono ?_
 rintro e w1 ⟨rfl, r', hf', ho⟩
 have h2 := next (k) w1 (by simp only [zw, cntT]; try omega) (RdVs.single r') hf' ho
 replace hx := MkV.cells ho hb0 hbf hx
 replace hb0 := zc4 hb0 ho.size
 clear next r r' hf' ho hfr hn hsub hbf f
 go_wp2_with fail
 go_ret
 exact h2.out (by unfold Sg.cd; try simp only [List.nil_append, List.append_assoc]) (by rw [hc]; try omega)
theorem markEq_x (x : Eqn) (vs : List Value) (fp : List Nat) (k : Int) (w : World) (h0 : 0 < k) (h1 : k + cntT x.cd ≤ 200000000000000) (hv : RdVs w x.cd vs fp) (hf : Free w fp) (hnd : fp.Nodup) :
  Calls Try.prog 19 #[.agg vs.toArray, .int .i64 k] w (zcd x.cd k vs fp w) := by
 have hc : cntT x.cd = cntT x.a.cd + cntT x.b.cd := by unfold Eqn.cd; simp only [zw, cntT]; try omega
 have h2 : MkV w fp k vs w [] x.cd := MkV.start k hv hf hnd
 have hl := hf.lt
 unfold Eqn.cd at h2
 obtain ⟨a1, c1, f1, a3, c3, f3, rfl, _, _, _, _, _⟩ := Eqn.open hv
 go_enter Try.func19, Try.ntmps19
 go_wp2_with fail
 replace h2 := h2.box #[.string x.a.name, .slice a1 x.a.kids.length c1, .string x.b.name, .slice a3 x.b.kids.length c3] 39
 have hx := zp w #[.string x.a.name, .slice a1 x.a.kids.length c1, .string x.b.name, .slice a3 x.b.kids.length c3] 39
 have hb0 : w.heap.size < (w.alloc (.cells #[.string x.a.name, .slice a1 x.a.kids.length c1, .string x.b.name, .slice a3 x.b.kids.length c3] 39)).heap.size := by simp
 have hbn : w.heap.size ∉ fp := fun h => by have := hl _ h; omega
 obtain ⟨f, hsub, r, hfr, hn, next⟩ := h2.step (n := 0) (m := 2) (by simp [Sy.cd_len, Sg.cd_len, Tm.cd_len, Eqn.cd_len, Stp.cd_len, Wy.cd_len, Atm.cd_len, Lt.cd_len, Fm.cd_len, Cs.cd_len, Lm.cd_len, Pp.cd_len, Stk.cd_len, Cnf.cd_len, Ln.cd_len, Rt.cd_len, Rw.cd_len, Md.cd_len]) (by simp [Sy.cd_len, Sg.cd_len, Tm.cd_len, Eqn.cd_len, Stp.cd_len, Wy.cd_len, Atm.cd_len, Lt.cd_len, Fm.cd_len, Cs.cd_len, Lm.cd_len, Pp.cd_len, Stk.cd_len, Cnf.cd_len, Ln.cd_len, Rt.cd_len, Rw.cd_len, Md.cd_len])
 have hbf : w.heap.size ∉ f := fun h => hbn (hsub _ h)
 clear h2
 refine (za7 x.a _ _ (k) _ (by omega) (by omega) r hfr hn).mono ?_
 rintro e w1 ⟨rfl, r', hf', ho⟩
 have h2 := next (k) w1 (by simp only [zw, cntT]; try omega) r' hf' ho
 replace hx := MkV.cells ho hb0 hbf hx
 replace hb0 := zc4 hb0 ho.size
 clear next r r' hf' ho hfr hn hsub hbf f
 have C2 := hx 2
 have C3 := hx 3
 simp only [zc3, zc1, zc2] at C2 C3
 replace h2 := h2.last
 obtain ⟨f, hsub, r, hfr, hn, next⟩ := h2.step (n := 2) (m := 2) (by simp [Sy.cd_len, Sg.cd_len, Tm.cd_len, Eqn.cd_len, Stp.cd_len, Wy.cd_len, Atm.cd_len, Lt.cd_len, Fm.cd_len, Cs.cd_len, Lm.cd_len, Pp.cd_len, Stk.cd_len, Cnf.cd_len, Ln.cd_len, Rt.cd_len, Rw.cd_len, Md.cd_len]) (by simp [Sy.cd_len, Sg.cd_len, Tm.cd_len, Eqn.cd_len, Stp.cd_len, Wy.cd_len, Atm.cd_len, Lt.cd_len, Fm.cd_len, Cs.cd_len, Lm.cd_len, Pp.cd_len, Stk.cd_len, Cnf.cd_len, Ln.cd_len, Rt.cd_len, Rw.cd_len, Md.cd_len])
 have hbf : w.heap.size ∉ f := fun h => hbn (hsub _ h)
 clear h2
 go_wp2_with fail
 refine (za7 x.b _ _ (k + cntT x.a.cd) _ (by omega) (by omega) r hfr hn).mono ?_
 rintro e w2 ⟨rfl, r', hf', ho⟩
 have h2 := next (k + cntT x.a.cd) w2 (by simp only [zw, cntT]; try omega) r' hf' ho
 replace hx := MkV.cells ho hb0 hbf hx
 replace hb0 := zc4 hb0 ho.size
 clear next r r' hf' ho hfr hn hsub hbf f
 go_wp2_with fail
 go_ret
 exact h2.out (by unfold Eqn.cd; try simp only [List.nil_append, List.append_assoc]) (by rw [hc]; try omega)
theorem markWhy_x (x : Wy) (vs : List Value) (fp : List Nat) (k : Int) (w : World) (h0 : 0 < k) (h1 : k + cntT x.cd ≤ 200000000000000) (hv : RdVs w x.cd vs fp) (hf : Free w fp) (hnd : fp.Nodup) :
  Calls Try.prog 18 #[.agg vs.toArray, .int .i64 k] w (zcd x.cd k vs fp w) := by
 have hc : cntT x.cd = cntT x.t.cd + cntR (x.kids.map Wy.cd) := by rw [Wy.cd_eq]; simp only [zw, cntT]; try omega
 have h2 : MkV w fp k vs w [] x.cd := MkV.start k hv hf hnd
 have hl := hf.lt
 rw [Wy.cd_eq] at h2
 obtain ⟨a3, c3, f3, a4, c4, f4, rfl, _, _, _, _, _, _⟩ := Wy.open hv
 go_enter Try.func18, Try.ntmps18
 go_wp2_with fail
 replace h2 := h2.box #[.int .i64 x.rule, .int .i64 x.n, .string x.t.name, .slice a3 x.t.kids.length c3, .slice a4 x.kids.length c4] 50
 have hx := zp w #[.int .i64 x.rule, .int .i64 x.n, .string x.t.name, .slice a3 x.t.kids.length c3, .slice a4 x.kids.length c4] 50
 have hb0 : w.heap.size < (w.alloc (.cells #[.int .i64 x.rule, .int .i64 x.n, .string x.t.name, .slice a3 x.t.kids.length c3, .slice a4 x.kids.length c4] 50)).heap.size := by simp
 have hbn : w.heap.size ∉ fp := fun h => by have := hl _ h; omega
 replace h2 := h2.skip (fun _ => rfl)
 replace h2 := h2.skip (fun _ => rfl)
 obtain ⟨f, hsub, r, hfr, hn, next⟩ := h2.step (n := 2) (m := 2) (by simp [Sy.cd_len, Sg.cd_len, Tm.cd_len, Eqn.cd_len, Stp.cd_len, Wy.cd_len, Atm.cd_len, Lt.cd_len, Fm.cd_len, Cs.cd_len, Lm.cd_len, Pp.cd_len, Stk.cd_len, Cnf.cd_len, Ln.cd_len, Rt.cd_len, Rw.cd_len, Md.cd_len]) (by simp [Sy.cd_len, Sg.cd_len, Tm.cd_len, Eqn.cd_len, Stp.cd_len, Wy.cd_len, Atm.cd_len, Lt.cd_len, Fm.cd_len, Cs.cd_len, Lm.cd_len, Pp.cd_len, Stk.cd_len, Cnf.cd_len, Ln.cd_len, Rt.cd_len, Rw.cd_len, Md.cd_len])
 have hbf : w.heap.size ∉ f := fun h => hbn (hsub _ h)
 clear h2
 refine (za7 x.t _ _ (k) _ (by omega) (by omega) r hfr hn).mono ?_
 rintro e w3 ⟨rfl, r', hf', ho⟩
 have h2 := next (k) w3 (by simp only [zw, cntT]; try omega) r' hf' ho
 replace hx := MkV.cells ho hb0 hbf hx
 replace hb0 := zc4 hb0 ho.size
 clear next r r' hf' ho hfr hn hsub hbf f
 have C4 := hx 4
 simp only [zc3, zc1, zc2] at C4
 replace h2 := h2.last
 obtain ⟨f, hsub, r, hfr, hn, next⟩ := h2.step (n := 4) (m := 1) (by simp [Sy.cd_len, Sg.cd_len, Tm.cd_len, Eqn.cd_len, Stp.cd_len, Wy.cd_len, Atm.cd_len, Lt.cd_len, Fm.cd_len, Cs.cd_len, Lm.cd_len, Pp.cd_len, Stk.cd_len, Cnf.cd_len, Ln.cd_len, Rt.cd_len, Rw.cd_len, Md.cd_len]) (by simp [Sy.cd_len, Sg.cd_len, Tm.cd_len, Eqn.cd_len, Stp.cd_len, Wy.cd_len, Atm.cd_len, Lt.cd_len, Fm.cd_len, Cs.cd_len, Lm.cd_len, Pp.cd_len, Stk.cd_len, Cnf.cd_len, Ln.cd_len, Rt.cd_len, Rw.cd_len, Md.cd_len])
 have hbf : w.heap.size ∉ f := fun h => hbn (hsub _ h)
 clear h2
 go_wp2_with fail
 refine (zcX x.kids _ _ (k + cntT x.t.cd) _ (by omega) (by omega) (RdVs.of_single r) hfr hn).mono ?_
 rintro e w4 ⟨rfl, r', hf', ho⟩
 have h2 := next (k + cntT x.t.cd) w4 (by simp only [zw, cntT]; try omega) (RdVs.single r') hf' ho
 replace hx := MkV.cells ho hb0 hbf hx
 replace hb0 := zc4 hb0 ho.size
 clear next r r' hf' ho hfr hn hsub hbf f
 go_wp2_with fail
 go_ret
 exact h2.out (by rw [Wy.cd_eq]; try simp only [List.nil_append, List.append_assoc]) (by rw [hc]; try omega)
theorem zbO (x : Tm) (a1 : Option Addr) (c1 : Nat) (fp : List Nat) (k : Int) (w : World) (h0 : 0 < k) (h1 : k + cntT x.cd ≤ 200000000000000) (hv : RdVs w (mkT x.cd k) [.string x.name, .slice a1 x.kids.length c1] fp) :
  Calls Try.prog 43 #[.agg #[.string x.name, .slice a1 x.kids.length c1], .int .i64 k] w (zcD x.cd k w) := by
 have hc : cntT x.cd = cntR (x.kids.map Tm.cd) := by rw [Tm.cd_app]; simp only [zw, cntT]; try omega
 rw [Tm.cd_app] at hv
 rw [zW] at hv
 obtain ⟨g0, G0, rfl, R0, S0⟩ := hv.cut (m := 1) (by rw [zaS]; simp [Sy.cd_len, Sg.cd_len, Tm.cd_len, Eqn.cd_len, Stp.cd_len, Wy.cd_len, Atm.cd_len, Lt.cd_len, Fm.cd_len, Cs.cd_len, Lm.cd_len, Pp.cd_len, Stk.cd_len, Cnf.cd_len, Ln.cd_len, Rt.cd_len, Rw.cd_len, Md.cd_len])
 rw [show (k + cntT [.str x.name] : Int) = k by simp only [cntT]; try omega] at S0
 have R1 := S0
 go_enter Try.func43, Try.ntmps43
 go_wp2_with fail
 refine (zcv x.kids _ _ (k) _ (by omega) (by omega) ((RdVs.of_single R1).below (zb _ _))).mono ?_
 rintro e w2 ⟨rfl, hb⟩
 obtain ⟨hx, hz, hB⟩ := box1 (w := w) (wr := w2) (cs := #[.string x.name, .slice a1 x.kids.length c1]) (T := 37) (zm hb (by simp))
 clear hb
 have hneg : decide ((k + cntR (x.kids.map Tm.cd) : Int) < 0) = false := by simp; omega
 go_wp2_with fail
 clear hneg
 go_ret
 exact ⟨retI (by rw [hc]; try omega), hB⟩
theorem zcE (x : Eqn) (a1 : Option Addr) (c1 : Nat) (a3 : Option Addr) (c3 : Nat) (fp : List Nat) (k : Int) (w : World) (h0 : 0 < k) (h1 : k + cntT x.cd ≤ 200000000000000) (hv : RdVs w (mkT x.cd k) [.string x.a.name, .slice a1 x.a.kids.length c1, .string x.b.name, .slice a3 x.b.kids.length c3] fp) :
  Calls Try.prog 20 #[.agg #[.string x.a.name, .slice a1 x.a.kids.length c1, .string x.b.name, .slice a3 x.b.kids.length c3], .int .i64 k] w (zcD x.cd k w) := by
 have hc : cntT x.cd = cntT x.a.cd + cntT x.b.cd := by unfold Eqn.cd; simp only [zw, cntT]; try omega
 unfold Eqn.cd at hv
 rw [zW] at hv
 obtain ⟨g0, G0, rfl, R0, S0⟩ := hv.cut (m := 2) (by rw [zaS]; simp [Sy.cd_len, Sg.cd_len, Tm.cd_len, Eqn.cd_len, Stp.cd_len, Wy.cd_len, Atm.cd_len, Lt.cd_len, Fm.cd_len, Cs.cd_len, Lm.cd_len, Pp.cd_len, Stk.cd_len, Cnf.cd_len, Ln.cd_len, Rt.cd_len, Rw.cd_len, Md.cd_len])
 rw [show (k + cntT x.a.cd : Int) = k + cntT x.a.cd by simp only [cntT]; try omega] at S0
 have R1 := S0
 go_enter Try.func20, Try.ntmps20
 go_wp2_with fail
 refine (zbO x.a _ _ _ (k) _ (by omega) (by omega) (R0.below (zb _ _))).mono ?_
 rintro e w1 ⟨rfl, hb⟩
 obtain ⟨hx, hz, hB⟩ := box1 (w := w) (wr := w1) (cs := #[.string x.a.name, .slice a1 x.a.kids.length c1, .string x.b.name, .slice a3 x.b.kids.length c3]) (T := 39) (zm hb (by simp))
 clear hb
 have hneg : decide ((k + cntT x.a.cd : Int) < 0) = false := by simp; omega
 go_wp2_with fail
 clear hneg
 have C2 := hx 2
 have C3 := hx 3
 simp only [zc3, zc1, zc2] at C2 C3
 go_wp2_with fail
 refine (zbO x.b _ _ _ (k + cntT x.a.cd) _ (by omega) (by omega) (R1.below hB)).mono ?_
 rintro e w2 ⟨rfl, hb⟩
 replace hB := hB.trans (hb.mono (by omega))
 replace hx := za hx (by omega) hb
 replace hz := Nat.le_trans hz hb.size
 clear hb
 have hneg : decide ((k + cntT x.a.cd + cntT x.b.cd : Int) < 0) = false := by simp; omega
 go_wp2_with fail
 clear hneg
 go_ret
 exact ⟨retI (by rw [hc]; try omega), hB⟩
end Go.Proofs.Ytcfpnjcamcpieaa
/- How many scalars there are, bound by the law's weight. -/
namespace Go.Proofs.Ytcfpnjcamcpieaa
open Go Go.RowKit
set_option linter.unusedVariables false
set_option linter.unusedSimpArgs false
theorem zaq {α : Type} {f : α → List CD} {xs : List α} (h : ∀ x ∈ xs, cntV (f x) ≤ 16 + 16 * wtV (f x)) : cntR (xs.map f) ≤ 16 * (xs.length + wtR (xs.map f)) := by
 induction xs with
 | nil => simp [cntR]
 | cons x xs ih =>
  have h1 := h x (by simp)
  have h2 := ih (fun y hy => h y (by simp [hy]))
  simp only [List.map_cons, cntR, wtR, List.length_cons]
  omega
theorem intCd_cnt (n : Int) : cntV (zt n) ≤ 16 + 16 * wtV (zt n) := by simp [zt, cntV, cnt]; try omega
theorem Sy.cd_cnt (x : Sy) : cntV x.cd ≤ 16 + 16 * wtV x.cd := by
 have h0 := zaq (f := zt) (xs := x.args) (fun y _ => intCd_cnt y)
 rw [Sy.cd_list]
 simp only [cntV, cnt, wtV, wtC, zdb]
 omega
theorem Sg.cdT_cnt (x : Sg) : cntT x.cd ≤ 16 * wtV x.cd := by
 have h0 := zaq (f := Sy.cd) (xs := x.syms) (fun y _ => Sy.cd_cnt y)
 rw [Sg.cd_list]
 simp only [cntT, wtV, wtC, zdb]
 omega
theorem Tm.cd_cnt_n (n : Nat) : ∀ (x : Tm), ndV x.cd ≤ n → cntV x.cd ≤ 16 + 16 * wtV x.cd := by
 induction n with
 | zero => intro x hn; have h : 0 < ndV x.cd := (by rw [Tm.cd_eq]; simp [ndV, ndC]; try omega); omega
 | succ n ih =>
  intro x hn
  have h0 := zaq (f := Tm.cd) (xs := x.kids) (fun y hy => ih y (by have := Tm.kid_nd hy; omega))
  rw [Tm.cd_list]
  simp only [cntV, cnt, wtV, wtC, zdb]
  omega
theorem Tm.cd_cnt (x : Tm) : cntV x.cd ≤ 16 + 16 * wtV x.cd := Tm.cd_cnt_n _ x (Nat.le_refl _)
theorem Eqn.cd_cnt (x : Eqn) : cntV x.cd ≤ 16 + 16 * wtV x.cd := by
 have h0 := zaq (f := Tm.cd) (xs := x.a.kids) (fun y _ => Tm.cd_cnt y)
 have h1 := zaq (f := Tm.cd) (xs := x.b.kids) (fun y _ => Tm.cd_cnt y)
 rw [Eqn.cd_list]
 simp only [cntV, cnt, wtV, wtC, zdb]
 omega
theorem Wy.cd_cnt_n (n : Nat) : ∀ (x : Wy), ndV x.cd ≤ n → cntV x.cd ≤ 16 + 16 * wtV x.cd := by
 induction n with
 | zero => intro x hn; have h : 0 < ndV x.cd := (by rw [Wy.cd_eq]; simp [ndV, ndC]; try omega); omega
 | succ n ih =>
  intro x hn
  have h0 := zaq (f := Tm.cd) (xs := x.t.kids) (fun y _ => Tm.cd_cnt y)
  have h1 := zaq (f := Wy.cd) (xs := x.kids) (fun y hy => ih y (by have := Wy.kid_nd hy; omega))
  rw [Wy.cd_list]
  simp only [cntV, cnt, wtV, wtC, zdb]
  omega
theorem Wy.cd_cnt (x : Wy) : cntV x.cd ≤ 16 + 16 * wtV x.cd := Wy.cd_cnt_n _ x (Nat.le_refl _)
theorem Wy.cdT_cnt (x : Wy) : cntT x.cd ≤ 16 * wtV x.cd := by
 have h0 := zaq (f := Tm.cd) (xs := x.t.kids) (fun y _ => Tm.cd_cnt y)
 have h1 := zaq (f := Wy.cd) (xs := x.kids) (fun y _ => Wy.cd_cnt y)
 rw [Wy.cd_list]
 simp only [cntT, wtV, wtC, zdb]
 omega
end Go.Proofs.Ytcfpnjcamcpieaa
