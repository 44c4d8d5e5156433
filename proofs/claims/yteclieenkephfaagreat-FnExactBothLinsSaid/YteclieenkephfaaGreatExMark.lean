/- The exact laws' mark functions. -/
import Derived.Test.YteclieenkephfaaGreatMarkTm
import Derived.Test.YteclieenkephfaaGreatExLib
namespace Go.Proofs.YteclieenkephfaaGreat
open Go Go.RowKit
set_option linter.unusedVariables false
set_option linter.unusedSimpArgs false


set_option maxHeartbeats 1600000
set_option maxRecDepth 100000
theorem Sy.cd_list (x : Sy) : x.cd = [.str x.name, .sl (x.args.map intCd), .int x.sort] := by simp [Sy.cd]
theorem Sg.cd_list (x : Sg) : x.cd = [.sl (x.syms.map Sy.cd)] := by simp [Sg.cd]
theorem Tm.cd_list (x : Tm) : x.cd = [.str x.name, .sl (x.kids.map Tm.cd)] := Tm.cd_eq x
theorem Eqn.cd_list (x : Eqn) : x.cd = [.str x.a.name, .sl (x.a.kids.map Tm.cd), .str x.b.name, .sl (x.b.kids.map Tm.cd)] := by simp [Eqn.cd, Tm.cd_eq]
theorem Stp.cd_list (x : Stp) : x.cd = [.int x.a, .int x.b, .int x.given] := by simp [Stp.cd]
theorem Wy.cd_list (x : Wy) : x.cd = [.int x.rule, .int x.n, .str x.t.name, .sl (x.t.kids.map Tm.cd), .sl (x.kids.map Wy.cd)] := by rw [Wy.cd_eq]; simp [Tm.cd_eq]
theorem Atm.cd_list (x : Atm) : x.cd = [.int x.kind, .str x.a.name, .sl (x.a.kids.map Tm.cd), .str x.b.name, .sl (x.b.kids.map Tm.cd), .sl (x.nums.map Tm.cd), .sl (x.times.map intCd), .int x.bound, .bool x.strict] := by simp [Atm.cd, Tm.cd_eq]
theorem Lt.cd_list (x : Lt) : x.cd = [.int x.atom.kind, .str x.atom.a.name, .sl (x.atom.a.kids.map Tm.cd), .str x.atom.b.name, .sl (x.atom.b.kids.map Tm.cd), .sl (x.atom.nums.map Tm.cd), .sl (x.atom.times.map intCd), .int x.atom.bound, .bool x.atom.strict, .bool x.no] := by simp [Atm.cd, Lt.cd, Tm.cd_eq]
theorem Fm.cd_list (x : Fm) : x.cd = [.int x.kind, .int x.lit.atom.kind, .str x.lit.atom.a.name, .sl (x.lit.atom.a.kids.map Tm.cd), .str x.lit.atom.b.name, .sl (x.lit.atom.b.kids.map Tm.cd), .sl (x.lit.atom.nums.map Tm.cd), .sl (x.lit.atom.times.map intCd), .int x.lit.atom.bound, .bool x.lit.atom.strict, .bool x.lit.no, .sl (x.kids.map Fm.cd)] := by rw [Fm.cd_eq]; simp [Atm.cd, Lt.cd, Tm.cd_eq]
theorem Cs.cd_list (x : Cs) : x.cd = [.int x.kind, .int x.n, .int x.why.rule, .int x.why.n, .str x.why.t.name, .sl (x.why.t.kids.map Tm.cd), .sl (x.why.kids.map Wy.cd), .sl (x.times.map intCd), .str x.a.name, .sl (x.a.kids.map Tm.cd), .str x.b.name, .sl (x.b.kids.map Tm.cd), .sl (x.kids.map Cs.cd)] := by rw [Cs.cd_eq]; simp [Tm.cd_eq, Wy.cd_eq]
theorem Lm.cd_list (x : Lm) : x.cd = [.sl (x.marks.map intCd), .int x.case.kind, .int x.case.n, .int x.case.why.rule, .int x.case.why.n, .str x.case.why.t.name, .sl (x.case.why.t.kids.map Tm.cd), .sl (x.case.why.kids.map Wy.cd), .sl (x.case.times.map intCd), .str x.case.a.name, .sl (x.case.a.kids.map Tm.cd), .str x.case.b.name, .sl (x.case.b.kids.map Tm.cd), .sl (x.case.kids.map Cs.cd)] := by simp [Cs.cd_eq, Lm.cd, Tm.cd_eq, Wy.cd_eq]
theorem Pp.cd_list (x : Pp) : x.cd = [.sl (x.lemmas.map Lm.cd), .sl (x.log.map intsCd)] := by simp [Pp.cd]
theorem Stk.cd_list (x : Stk) : x.cd = [.sl (x.sig.syms.map Sy.cd), .sl (x.levels.map fmsCd)] := by simp [Sg.cd, Stk.cd]
theorem Cnf.cd_list (x : Cnf) : x.cd = [.int x.many, .sl (x.list.map intsCd)] := by simp [Cnf.cd]
theorem Ln.cd_list (x : Ln) : x.cd = [.sl (x.coefs.map intCd), .int x.bound, .bool x.strict] := by simp [Ln.cd]
theorem Rt.cd_list (x : Rt) : x.cd = [.int x.n, .int x.d] := by simp [Rt.cd]
theorem Rw.cd_list (x : Rw) : x.cd = [.str x.name, .sl (x.args.map Rt.cd), .int x.val.n, .int x.val.d] := by simp [Rt.cd, Rw.cd]
theorem Md.cd_list (x : Md) : x.cd = [.sl (x.rows.map Rw.cd)] := by simp [Md.cd]
theorem int_nofp {n : Int} : ∀ (w : World) (v : Value) (f : List Nat), Rd w (.int n) v f → f = [] := fun w v f h => (rd_int_inv h).2.2
theorem bool_nofp {n : Bool} : ∀ (w : World) (v : Value) (f : List Nat), Rd w (.bool n) v f → f = [] := fun w v f h => (rd_bool_inv h).2
theorem int_rd (n : Int) (h : 0 ≤ n ∧ n ≤ 400000000000000) (w : World) : Rd w (.int n) (.int .i64 n) [] := by simp only [Rd]; exact ⟨trivial, by unfold I64; omega, trivial⟩
theorem bool_rd (n : Bool) (w : World) : Rd w (.bool n) (.bool n) [] := by simp only [Rd]; exact ⟨trivial, trivial⟩
/-- In the midst of marking a row of the call's own, at the cell o. -/
def MkS (w0 : World) (b off : Nat) (f : List Nat) (w : World) (o : Nat) (done todo : List CD) : Prop :=
  ∃ f1 f3, f = f1 ++ f3 ∧ o = off + done.length ∧ MkSt w b off done todo f1 f3 ∧ Only (b :: f) w0 w
theorem MkS.size {w0 w : World} {b off o : Nat} {f : List Nat} {done todo : List CD} (h : MkS w0 b off f w o done todo) : w0.heap.size ≤ w.heap.size := by
  obtain ⟨f1, f3, _, _, _, h⟩ := h; exact h.size
theorem MkS.cell {w0 w : World} {b off o : Nat} {f : List Nat} {d : CD} {done ds : List CD} (h : MkS w0 b off f w o done (d :: ds)) : ∃ v, w.cell? ⟨b, o, none⟩ = some v ∧ w.frozen? ⟨b, o, none⟩ = false := by
  obtain ⟨f1, f3, _, rfl, h, _⟩ := h
  obtain ⟨v, g1, g2, _, hc, _, _⟩ := h.htodo.head
  exact ⟨v, hc, h.free.frozen (by simp)⟩
theorem MkS.frozen {w0 w : World} {b off o : Nat} {f : List Nat} {done ds : List CD} (h : MkS w0 b off f w o done ds) : ∀ j, w.frozen? ⟨b, j, none⟩ = false := by
  obtain ⟨f1, f3, _, rfl, h, _⟩ := h
  exact fun j => h.free.frozen (by simp)
theorem MkS.scalar {w0 w : World} {b off o : Nat} {f : List Nat} {d : CD} {done ds : List CD} (h : MkS w0 b off f w o done (d :: ds)) (d' : CD) (u : Value) (hd : ∀ w v f, Rd w d v f → f = []) (hu : ∀ w', Rd w' d' u []) :
    MkS w0 b off f (w.setCell ⟨b, o, none⟩ u) (o + 1) (done ++ [d']) ds := by
  obtain ⟨f1, f3, hff, rfl, h, ho⟩ := h
  exact ⟨f1, f3, hff, by simp [Nat.add_assoc], h.scalar (hd w) hu, ho.trans (Only.set (by simp))⟩
theorem MkS.below {w0 w w' : World} {b off o : Nat} {f : List Nat} {done todo : List CD} (h : MkS w0 b off f w o done todo) (hb : Below w.heap.size w w') : MkS w0 b off f w' o done todo := by
  obtain ⟨f1, f3, hff, rfl, h, ho⟩ := h
  exact ⟨f1, f3, hff, rfl, h.below hb, ho.trans (Only.below hb)⟩
theorem MkS.sl {w0 w : World} {b off o : Nat} {f : List Nat} {es : List (List CD)} {done ds : List CD} (h : MkS w0 b off f w o done (.sl es :: ds)) :
    ∃ v fe, w.cell? ⟨b, o, none⟩ = some v ∧ Rd w (.sl es) v fe ∧ Free w fe ∧ fe.Nodup ∧ ∀ w' es', Only fe w w' → Rd w' (.sl es') v fe → Free w' fe → MkS w0 b off f w' (o + 1) (done ++ [.sl es']) ds := by
  obtain ⟨f1, f3, hff, rfl, h, ho⟩ := h
  obtain ⟨v, fe, f2, rfl, hc, hr, ht, hfe, hnd⟩ := h.head
  refine ⟨v, fe, hc, hr, hfe, hnd, fun w' es' h1 h2 h3 => ⟨f1 ++ fe, f2, by rw [hff, List.append_assoc], by simp [Nat.add_assoc], h.slice hc ht h1 h2 h3, ho.trans (h1.mono fun x hx => by rw [hff]; simp [hx])⟩⟩
theorem MkS.cast {w0 w : World} {b off o o' : Nat} {f : List Nat} {done done' todo : List CD} (h : MkS w0 b off f w o done todo) (ho : o' = o) (hd : done' = done) : MkS w0 b off f w o' done' todo := by subst ho; subst hd; exact h
def MkOut (es : List (List CD)) (k : Int) (v : Value) (fp : List Nat) (w : World) (e : Ending) (w' : World) : Prop := e = .returned (.int .i64 (k + cntR es)) ∧ Rd w' (.sl (mkR es k)) v fp ∧ Free w' fp ∧ Only fp w w'
theorem markTermS_x (xs : List Tm) (v : Value) (fp : List Nat) (k : Int) (w : World) (h0 : 0 < k) (h1 : k + cntR (xs.map Tm.cd) ≤ 200000000000000) (hv : Rd w (.sl (xs.map Tm.cd)) v fp) (hf : Free w fp) (hnd : fp.Nodup) :
    Calls Tryz.prog 33 #[v, .int .i64 k] w (MkOut (xs.map Tm.cd) k v fp w) := by
  have h := markTermS_any (Tm.sizes xs) xs v fp k w (Nat.le_refl _) h0 (by rw [← Tm.cntR_cds]; exact h1) hv hf hnd
  rw [← Tm.cntR_cds] at h
  exact h

theorem markIntS_nil (v : Value) (fp : List Nat) (k : Int) (w : World) (hv : Rd w (.sl (([] : List Int).map intCd)) v fp) (hf : Free w fp) :
    Calls Tryz.prog 34 #[v, .int .i64 k] w (MkOut (([] : List Int).map intCd) k v fp w) := by
  obtain ⟨a, cap, rfl, hc1, hc2⟩ := rd_sl_inv hv
  go_enter Tryz.func34, Tryz.ntmps34
  go_wp2_with fail
  refine wp_loop_rounds 1 ?_
  rw [rounds_succ]
  go_wp2_with fail
  go_ret
  exact ⟨retI (by simp [cntR]), by simpa [mkR] using hv, hf, Only.refl _ _⟩
theorem markIntS_x (xs : List Int) (v : Value) (fp : List Nat) (k : Int) (w : World) (h0 : 0 < k) (h1 : k + cntR (xs.map intCd) ≤ 200000000000000) (hv : Rd w (.sl (xs.map intCd)) v fp) (hf : Free w fp) (hnd : fp.Nodup) :
    Calls Tryz.prog 34 #[v, .int .i64 k] w (MkOut (xs.map intCd) k v fp w) := by
  rcases Nat.eq_zero_or_pos xs.length with hz | hne
  · obtain rfl := List.eq_nil_of_length_eq_zero hz
    exact markIntS_nil v fp k w hv hf
  obtain ⟨a, cap, rfl, hc1, hc2⟩ := rd_sl_inv hv
  obtain ⟨b, off, f, rfl, hbs, rfl, hrows⟩ := hv.addr (by simpa using hne)
  go_enter Tryz.func34, Tryz.ntmps34
  go_wp2_with fail
  go_loopw [1, 5] (fun kv iv wr => ∃ (i : Nat) (q : Int), i ≤ xs.length ∧ iv = .int .i64 i ∧ kv = .int .i64 q ∧ q = k + cntR ((xs.map intCd).take i) ∧ MkS w b off f wr (off + i) (mkR ((xs.map intCd).take i) k).flatten ((xs.map intCd).drop i).flatten) (fun _ iv _ => xs.length - (intOf iv).toNat)
  case atStart => exact ⟨0, k, Nat.zero_le _, rfl, rfl, by simp [cntR], [], f, rfl, by simp [mkR], ⟨RdFlat.nil _ _ _, hrows.toFlat, hf, hnd⟩, Only.refl _ _⟩
  case round =>
    obtain ⟨i, q, hil, rfl, rfl, hq, hst⟩ := hrel
    have hcs := cntR_take_le (xs.map intCd) i
    have hsz := hst.size
    have hbl : b < wr.heap.size := by omega
    by_cases hlt : i < xs.length
    · have hc2' := cntR_take_le (xs.map intCd) (i + 1)
      rw [cntR_take_succ _ _ _ hlt] at hc2'
      have hw : cntV (intCd xs[i]) = 1 := by rw [show intCd xs[i] = [.int xs[i]] from rfl]; simp only [cntV, cnt]; try omega
      rw [hw] at hc2'
      have hq0 : 0 < q := by omega
      have hq1 : q + (1 : Nat) ≤ 200000000000000 := by omega
      rw [drop_flat _ _ _ hlt, show intCd xs[i] = [.int xs[i]] from rfl] at hst
      simp only [List.cons_append, List.nil_append] at hst
      have HQ := Lib.hid hq
      have hfz := hst.frozen
      clear hc2' hcs hq
      obtain ⟨v0, c0, _⟩ := hst.cell
      have hst : MkS _ _ _ _ _ (off + i + 1) _ _ := hst.scalar (.int (q)) (.int .i64 (q)) (fun w v f => int_nofp w v f) (fun w' => int_rd _ (by omega) w')
      go_wp2_with fail
      go_roundw
      case rel =>
        refine ⟨i + 1, q + 1, by omega, by go_num, by go_num, ?_, hst.cast (by omega) ?_⟩
        · have hq := HQ.out; rw [cntR_take_succ _ _ _ hlt, hw]; omega
        · rw [mkR_take_succ _ _ _ hlt, ← HQ.out, show intCd xs[i] = [.int xs[i]] from rfl]; simp [mkV, mkC, cnt, Int.add_assoc]
      case measure => simp [intOf]; omega
    · have he : i = xs.length := by omega
      have h1 : (xs.map intCd).take i = (xs.map intCd) := List.take_of_length_le (by simp; omega)
      have h2 : (xs.map intCd).drop i = [] := List.drop_of_length_le (by simp; omega)
      rw [h1] at hst hq
      rw [h2] at hst
      obtain ⟨f1, f3, hff, _, hst, honly⟩ := hst
      obtain rfl := hst.htodo.nil_fp
      have hff' : f = f1 := by rw [hff]; simp
      subst hff'
      clear hff
      have hrd := hst.hdone.sl (n := xs.length) (cap := cap) (k := 1) (by rw [mkR_len]; simpa using hne) (by rw [mkR_len]; simp) (by rw [mkR_len]; simpa using hc1) hc2 (hst.free.lt b (by simp))
      have hfr : Free wr (b :: f) := by simpa using hst.free
      have HC := Lib.hid hq
      clear hq
      go_wp2_with fail
      go_ret
      exact ⟨retI HC.out, hrd, hfr, honly⟩
theorem markSymS_nil (v : Value) (fp : List Nat) (k : Int) (w : World) (hv : Rd w (.sl (([] : List Sy).map Sy.cd)) v fp) (hf : Free w fp) :
    Calls Tryz.prog 31 #[v, .int .i64 k] w (MkOut (([] : List Sy).map Sy.cd) k v fp w) := by
  obtain ⟨a, cap, rfl, hc1, hc2⟩ := rd_sl_inv hv
  go_enter Tryz.func31, Tryz.ntmps31
  go_wp2_with fail
  refine wp_loop_rounds 1 ?_
  rw [rounds_succ]
  go_wp2_with fail
  go_ret
  exact ⟨retI (by simp [cntR]), by simpa [mkR] using hv, hf, Only.refl _ _⟩
theorem markSymS_x (xs : List Sy) (v : Value) (fp : List Nat) (k : Int) (w : World) (h0 : 0 < k) (h1 : k + cntR (xs.map Sy.cd) ≤ 200000000000000) (hv : Rd w (.sl (xs.map Sy.cd)) v fp) (hf : Free w fp) (hnd : fp.Nodup) :
    Calls Tryz.prog 31 #[v, .int .i64 k] w (MkOut (xs.map Sy.cd) k v fp w) := by
  rcases Nat.eq_zero_or_pos xs.length with hz | hne
  · obtain rfl := List.eq_nil_of_length_eq_zero hz
    exact markSymS_nil v fp k w hv hf
  obtain ⟨a, cap, rfl, hc1, hc2⟩ := rd_sl_inv hv
  obtain ⟨b, off, f, rfl, hbs, rfl, hrows⟩ := hv.addr (by simpa using hne)
  go_enter Tryz.func31, Tryz.ntmps31
  go_wp2_with fail
  go_loopw [1, 5] (fun kv iv wr => ∃ (i : Nat) (q : Int), i ≤ xs.length ∧ iv = .int .i64 i ∧ kv = .int .i64 q ∧ q = k + cntR ((xs.map Sy.cd).take i) ∧ MkS w b off f wr (off + i * 3) (mkR ((xs.map Sy.cd).take i) k).flatten ((xs.map Sy.cd).drop i).flatten) (fun _ iv _ => xs.length - (intOf iv).toNat)
  case atStart => exact ⟨0, k, Nat.zero_le _, rfl, rfl, by simp [cntR], [], f, rfl, by simp [mkR], ⟨RdFlat.nil _ _ _, hrows.toFlat, hf, hnd⟩, Only.refl _ _⟩
  case round =>
    obtain ⟨i, q, hil, rfl, rfl, hq, hst⟩ := hrel
    have hcs := cntR_take_le (xs.map Sy.cd) i
    have hsz := hst.size
    have hbl : b < wr.heap.size := by omega
    by_cases hlt : i < xs.length
    · have hc2' := cntR_take_le (xs.map Sy.cd) (i + 1)
      rw [cntR_take_succ _ _ _ hlt] at hc2'
      have hw : cntV (Sy.cd xs[i]) = 1 + cntR (xs[i].args.map intCd) + 1 := by rw [Sy.cd_list]; simp only [cntV, cnt]; try omega
      rw [hw] at hc2'
      have hq0 : 0 < q := by omega
      have hq1 : q + (1 + cntR (xs[i].args.map intCd) + 1 : Nat) ≤ 200000000000000 := by omega
      rw [drop_flat _ _ _ hlt, Sy.cd_list] at hst
      simp only [List.cons_append, List.nil_append] at hst
      have HQ := Lib.hid hq
      have hfz := hst.frozen
      clear hc2' hcs hq
      go_wp2_with fail
      refine (markText_any _ _ (by omega) (by omega)).mono ?_
      rintro e w0 ⟨rfl, hb0⟩
      have hst := hst.below hb0
      have hbl : b < w0.heap.size := Nat.lt_of_lt_of_le hbs hst.size
      have hfz0 := hst.frozen
      obtain ⟨v0, c0, _⟩ := hst.cell
      have hst : MkS _ _ _ _ _ (off + i * 3 + 1) _ _ := hst.scalar (.str (mtx (q))) (.string (mtx (q))) (fun w v f => str_nofp w v f) (fun w' => mtx_rd w' _ (by omega))
      obtain ⟨v1, fe1, c1, hr1, hfe1, hn1, hk1⟩ := hst.sl
      obtain ⟨ka1, kc1, rfl, _⟩ := rd_sl_inv hr1
      go_wp2_with fail
      refine (markIntS_x xs[i].args _ _ _ _ (by omega) (by omega) hr1 hfe1 hn1).mono ?_
      rintro e w1 ⟨rfl, hrm1, hfm1, hom1⟩
      have hst : MkS _ _ _ _ _ (off + i * 3 + 2) _ _ := hk1 _ _ hom1 hrm1 hfm1
      have hbl : b < w1.heap.size := Nat.lt_of_lt_of_le hbs hst.size
      have hfz1 := hst.frozen
      clear hk1 hr1 hfe1 hn1 hrm1 hfm1 hom1
      obtain ⟨v2, c2, _⟩ := hst.cell
      have hst : MkS _ _ _ _ _ (off + i * 3 + 3) _ _ := hst.scalar (.int (q + 1 + cntR (xs[i].args.map intCd))) (.int .i64 (q + 1 + cntR (xs[i].args.map intCd))) (fun w v f => int_nofp w v f) (fun w' => int_rd _ (by omega) w')
      go_wp2_with fail
      go_roundw
      case rel =>
        refine ⟨i + 1, q + 1 + cntR (xs[i].args.map intCd) + 1, by omega, by go_num, by go_num, ?_, hst.cast (by omega) ?_⟩
        · have hq := HQ.out; rw [cntR_take_succ _ _ _ hlt, hw]; omega
        · rw [mkR_take_succ _ _ _ hlt, ← HQ.out, Sy.cd_list]; simp [mkV, mkC, cnt, Int.add_assoc]
      case measure => simp [intOf]; omega
    · have he : i = xs.length := by omega
      have h1 : (xs.map Sy.cd).take i = (xs.map Sy.cd) := List.take_of_length_le (by simp; omega)
      have h2 : (xs.map Sy.cd).drop i = [] := List.drop_of_length_le (by simp; omega)
      rw [h1] at hst hq
      rw [h2] at hst
      obtain ⟨f1, f3, hff, _, hst, honly⟩ := hst
      obtain rfl := hst.htodo.nil_fp
      have hff' : f = f1 := by rw [hff]; simp
      subst hff'
      clear hff
      have hrd := hst.hdone.sl (n := xs.length) (cap := cap) (k := 3) (by rw [mkR_len]; simpa using hne) (by rw [mkR_len]; simp) (by rw [mkR_len]; simpa using hc1) hc2 (hst.free.lt b (by simp))
      have hfr : Free wr (b :: f) := by simpa using hst.free
      have HC := Lib.hid hq
      clear hq
      go_wp2_with fail
      go_ret
      exact ⟨retI HC.out, hrd, hfr, honly⟩
theorem markLitS_nil (v : Value) (fp : List Nat) (k : Int) (w : World) (hv : Rd w (.sl (([] : List Lt).map Lt.cd)) v fp) (hf : Free w fp) :
    Calls Tryz.prog 14 #[v, .int .i64 k] w (MkOut (([] : List Lt).map Lt.cd) k v fp w) := by
  obtain ⟨a, cap, rfl, hc1, hc2⟩ := rd_sl_inv hv
  go_enter Tryz.func14, Tryz.ntmps14
  go_wp2_with fail
  refine wp_loop_rounds 1 ?_
  rw [rounds_succ]
  go_wp2_with fail
  go_ret
  exact ⟨retI (by simp [cntR]), by simpa [mkR] using hv, hf, Only.refl _ _⟩
theorem markLitS_x (xs : List Lt) (v : Value) (fp : List Nat) (k : Int) (w : World) (h0 : 0 < k) (h1 : k + cntR (xs.map Lt.cd) ≤ 200000000000000) (hv : Rd w (.sl (xs.map Lt.cd)) v fp) (hf : Free w fp) (hnd : fp.Nodup) :
    Calls Tryz.prog 14 #[v, .int .i64 k] w (MkOut (xs.map Lt.cd) k v fp w) := by
  rcases Nat.eq_zero_or_pos xs.length with hz | hne
  · obtain rfl := List.eq_nil_of_length_eq_zero hz
    exact markLitS_nil v fp k w hv hf
  obtain ⟨a, cap, rfl, hc1, hc2⟩ := rd_sl_inv hv
  obtain ⟨b, off, f, rfl, hbs, rfl, hrows⟩ := hv.addr (by simpa using hne)
  go_enter Tryz.func14, Tryz.ntmps14
  go_wp2_with fail
  go_loopw [1, 5] (fun kv iv wr => ∃ (i : Nat) (q : Int), i ≤ xs.length ∧ iv = .int .i64 i ∧ kv = .int .i64 q ∧ q = k + cntR ((xs.map Lt.cd).take i) ∧ MkS w b off f wr (off + i * 10) (mkR ((xs.map Lt.cd).take i) k).flatten ((xs.map Lt.cd).drop i).flatten) (fun _ iv _ => xs.length - (intOf iv).toNat)
  case atStart => exact ⟨0, k, Nat.zero_le _, rfl, rfl, by simp [cntR], [], f, rfl, by simp [mkR], ⟨RdFlat.nil _ _ _, hrows.toFlat, hf, hnd⟩, Only.refl _ _⟩
  case round =>
    obtain ⟨i, q, hil, rfl, rfl, hq, hst⟩ := hrel
    have hcs := cntR_take_le (xs.map Lt.cd) i
    have hsz := hst.size
    have hbl : b < wr.heap.size := by omega
    by_cases hlt : i < xs.length
    · have hc2' := cntR_take_le (xs.map Lt.cd) (i + 1)
      rw [cntR_take_succ _ _ _ hlt] at hc2'
      have hw : cntV (Lt.cd xs[i]) = 1 + 1 + cntR (xs[i].atom.a.kids.map Tm.cd) + 1 + cntR (xs[i].atom.b.kids.map Tm.cd) + cntR (xs[i].atom.nums.map Tm.cd) + cntR (xs[i].atom.times.map intCd) + 1 + 1 + 1 := by rw [Lt.cd_list]; simp only [cntV, cnt]; try omega
      rw [hw] at hc2'
      have hq0 : 0 < q := by omega
      have hq1 : q + (1 + 1 + cntR (xs[i].atom.a.kids.map Tm.cd) + 1 + cntR (xs[i].atom.b.kids.map Tm.cd) + cntR (xs[i].atom.nums.map Tm.cd) + cntR (xs[i].atom.times.map intCd) + 1 + 1 + 1 : Nat) ≤ 200000000000000 := by omega
      rw [drop_flat _ _ _ hlt, Lt.cd_list] at hst
      simp only [List.cons_append, List.nil_append] at hst
      have HQ := Lib.hid hq
      have hfz := hst.frozen
      clear hc2' hcs hq
      obtain ⟨v0, c0, _⟩ := hst.cell
      have hst : MkS _ _ _ _ _ (off + i * 10 + 1) _ _ := hst.scalar (.int (q)) (.int .i64 (q)) (fun w v f => int_nofp w v f) (fun w' => int_rd _ (by omega) w')
      go_wp2_with fail
      refine (markText_any _ _ (by omega) (by omega)).mono ?_
      rintro e w1 ⟨rfl, hb1⟩
      have hst := hst.below hb1
      have hbl : b < w1.heap.size := Nat.lt_of_lt_of_le hbs hst.size
      have hfz1 := hst.frozen
      obtain ⟨v1, c1, _⟩ := hst.cell
      have hst : MkS _ _ _ _ _ (off + i * 10 + 2) _ _ := hst.scalar (.str (mtx (q + 1))) (.string (mtx (q + 1))) (fun w v f => str_nofp w v f) (fun w' => mtx_rd w' _ (by omega))
      obtain ⟨v2, fe2, c2, hr2, hfe2, hn2, hk2⟩ := hst.sl
      obtain ⟨ka2, kc2, rfl, _⟩ := rd_sl_inv hr2
      go_wp2_with fail
      refine (markTermS_x xs[i].atom.a.kids _ _ _ _ (by omega) (by omega) hr2 hfe2 hn2).mono ?_
      rintro e w2 ⟨rfl, hrm2, hfm2, hom2⟩
      have hst : MkS _ _ _ _ _ (off + i * 10 + 3) _ _ := hk2 _ _ hom2 hrm2 hfm2
      have hbl : b < w2.heap.size := Nat.lt_of_lt_of_le hbs hst.size
      have hfz2 := hst.frozen
      clear hk2 hr2 hfe2 hn2 hrm2 hfm2 hom2
      go_wp2_with fail
      refine (markText_any _ _ (by omega) (by omega)).mono ?_
      rintro e w3 ⟨rfl, hb3⟩
      have hst := hst.below hb3
      have hbl : b < w3.heap.size := Nat.lt_of_lt_of_le hbs hst.size
      have hfz3 := hst.frozen
      obtain ⟨v3, c3, _⟩ := hst.cell
      have hst : MkS _ _ _ _ _ (off + i * 10 + 4) _ _ := hst.scalar (.str (mtx (q + 1 + 1 + cntR (xs[i].atom.a.kids.map Tm.cd)))) (.string (mtx (q + 1 + 1 + cntR (xs[i].atom.a.kids.map Tm.cd)))) (fun w v f => str_nofp w v f) (fun w' => mtx_rd w' _ (by omega))
      obtain ⟨v4, fe4, c4, hr4, hfe4, hn4, hk4⟩ := hst.sl
      obtain ⟨ka4, kc4, rfl, _⟩ := rd_sl_inv hr4
      go_wp2_with fail
      refine (markTermS_x xs[i].atom.b.kids _ _ _ _ (by omega) (by omega) hr4 hfe4 hn4).mono ?_
      rintro e w4 ⟨rfl, hrm4, hfm4, hom4⟩
      have hst : MkS _ _ _ _ _ (off + i * 10 + 5) _ _ := hk4 _ _ hom4 hrm4 hfm4
      have hbl : b < w4.heap.size := Nat.lt_of_lt_of_le hbs hst.size
      have hfz4 := hst.frozen
      clear hk4 hr4 hfe4 hn4 hrm4 hfm4 hom4
      obtain ⟨v5, fe5, c5, hr5, hfe5, hn5, hk5⟩ := hst.sl
      obtain ⟨ka5, kc5, rfl, _⟩ := rd_sl_inv hr5
      go_wp2_with fail
      refine (markTermS_x xs[i].atom.nums _ _ _ _ (by omega) (by omega) hr5 hfe5 hn5).mono ?_
      rintro e w5 ⟨rfl, hrm5, hfm5, hom5⟩
      have hst : MkS _ _ _ _ _ (off + i * 10 + 6) _ _ := hk5 _ _ hom5 hrm5 hfm5
      have hbl : b < w5.heap.size := Nat.lt_of_lt_of_le hbs hst.size
      have hfz5 := hst.frozen
      clear hk5 hr5 hfe5 hn5 hrm5 hfm5 hom5
      obtain ⟨v6, fe6, c6, hr6, hfe6, hn6, hk6⟩ := hst.sl
      obtain ⟨ka6, kc6, rfl, _⟩ := rd_sl_inv hr6
      go_wp2_with fail
      refine (markIntS_x xs[i].atom.times _ _ _ _ (by omega) (by omega) hr6 hfe6 hn6).mono ?_
      rintro e w6 ⟨rfl, hrm6, hfm6, hom6⟩
      have hst : MkS _ _ _ _ _ (off + i * 10 + 7) _ _ := hk6 _ _ hom6 hrm6 hfm6
      have hbl : b < w6.heap.size := Nat.lt_of_lt_of_le hbs hst.size
      have hfz6 := hst.frozen
      clear hk6 hr6 hfe6 hn6 hrm6 hfm6 hom6
      obtain ⟨v7, c7, _⟩ := hst.cell
      have hst : MkS _ _ _ _ _ (off + i * 10 + 8) _ _ := hst.scalar (.int (q + 1 + 1 + cntR (xs[i].atom.a.kids.map Tm.cd) + 1 + cntR (xs[i].atom.b.kids.map Tm.cd) + cntR (xs[i].atom.nums.map Tm.cd) + cntR (xs[i].atom.times.map intCd))) (.int .i64 (q + 1 + 1 + cntR (xs[i].atom.a.kids.map Tm.cd) + 1 + cntR (xs[i].atom.b.kids.map Tm.cd) + cntR (xs[i].atom.nums.map Tm.cd) + cntR (xs[i].atom.times.map intCd))) (fun w v f => int_nofp w v f) (fun w' => int_rd _ (by omega) w')
      obtain ⟨v8, c8, _⟩ := hst.cell
      have hst : MkS _ _ _ _ _ (off + i * 10 + 9) _ _ := hst.scalar (.bool (decide ((q + 1 + 1 + cntR (xs[i].atom.a.kids.map Tm.cd) + 1 + cntR (xs[i].atom.b.kids.map Tm.cd) + cntR (xs[i].atom.nums.map Tm.cd) + cntR (xs[i].atom.times.map intCd) + 1) % 3 = 0))) (.bool ((q + 1 + 1 + cntR (xs[i].atom.a.kids.map Tm.cd) + 1 + cntR (xs[i].atom.b.kids.map Tm.cd) + cntR (xs[i].atom.nums.map Tm.cd) + cntR (xs[i].atom.times.map intCd) + 1) % 3 == 0)) (fun w v f => bool_nofp w v f) (fun w' => bool_rd _ w')
      obtain ⟨v9, c9, _⟩ := hst.cell
      have hst : MkS _ _ _ _ _ (off + i * 10 + 10) _ _ := hst.scalar (.bool (decide ((q + 1 + 1 + cntR (xs[i].atom.a.kids.map Tm.cd) + 1 + cntR (xs[i].atom.b.kids.map Tm.cd) + cntR (xs[i].atom.nums.map Tm.cd) + cntR (xs[i].atom.times.map intCd) + 1 + 1) % 3 = 0))) (.bool ((q + 1 + 1 + cntR (xs[i].atom.a.kids.map Tm.cd) + 1 + cntR (xs[i].atom.b.kids.map Tm.cd) + cntR (xs[i].atom.nums.map Tm.cd) + cntR (xs[i].atom.times.map intCd) + 1 + 1) % 3 == 0)) (fun w v f => bool_nofp w v f) (fun w' => bool_rd _ w')
      go_wp2_with fail
      go_roundw
      case rel =>
        refine ⟨i + 1, q + 1 + 1 + cntR (xs[i].atom.a.kids.map Tm.cd) + 1 + cntR (xs[i].atom.b.kids.map Tm.cd) + cntR (xs[i].atom.nums.map Tm.cd) + cntR (xs[i].atom.times.map intCd) + 1 + 1 + 1, by omega, by go_num, by go_num, ?_, hst.cast (by omega) ?_⟩
        · have hq := HQ.out; rw [cntR_take_succ _ _ _ hlt, hw]; omega
        · rw [mkR_take_succ _ _ _ hlt, ← HQ.out, Lt.cd_list]; simp [mkV, mkC, cnt, Int.add_assoc]
      case measure => simp [intOf]; omega
    · have he : i = xs.length := by omega
      have h1 : (xs.map Lt.cd).take i = (xs.map Lt.cd) := List.take_of_length_le (by simp; omega)
      have h2 : (xs.map Lt.cd).drop i = [] := List.drop_of_length_le (by simp; omega)
      rw [h1] at hst hq
      rw [h2] at hst
      obtain ⟨f1, f3, hff, _, hst, honly⟩ := hst
      obtain rfl := hst.htodo.nil_fp
      have hff' : f = f1 := by rw [hff]; simp
      subst hff'
      clear hff
      have hrd := hst.hdone.sl (n := xs.length) (cap := cap) (k := 10) (by rw [mkR_len]; simpa using hne) (by rw [mkR_len]; simp) (by rw [mkR_len]; simpa using hc1) hc2 (hst.free.lt b (by simp))
      have hfr : Free wr (b :: f) := by simpa using hst.free
      have HC := Lib.hid hq
      clear hq
      go_wp2_with fail
      go_ret
      exact ⟨retI HC.out, hrd, hfr, honly⟩
theorem markLinS_nil (v : Value) (fp : List Nat) (k : Int) (w : World) (hv : Rd w (.sl (([] : List Ln).map Ln.cd)) v fp) (hf : Free w fp) :
    Calls Tryz.prog 15 #[v, .int .i64 k] w (MkOut (([] : List Ln).map Ln.cd) k v fp w) := by
  obtain ⟨a, cap, rfl, hc1, hc2⟩ := rd_sl_inv hv
  go_enter Tryz.func15, Tryz.ntmps15
  go_wp2_with fail
  refine wp_loop_rounds 1 ?_
  rw [rounds_succ]
  go_wp2_with fail
  go_ret
  exact ⟨retI (by simp [cntR]), by simpa [mkR] using hv, hf, Only.refl _ _⟩
theorem markLinS_x (xs : List Ln) (v : Value) (fp : List Nat) (k : Int) (w : World) (h0 : 0 < k) (h1 : k + cntR (xs.map Ln.cd) ≤ 200000000000000) (hv : Rd w (.sl (xs.map Ln.cd)) v fp) (hf : Free w fp) (hnd : fp.Nodup) :
    Calls Tryz.prog 15 #[v, .int .i64 k] w (MkOut (xs.map Ln.cd) k v fp w) := by
  rcases Nat.eq_zero_or_pos xs.length with hz | hne
  · obtain rfl := List.eq_nil_of_length_eq_zero hz
    exact markLinS_nil v fp k w hv hf
  obtain ⟨a, cap, rfl, hc1, hc2⟩ := rd_sl_inv hv
  obtain ⟨b, off, f, rfl, hbs, rfl, hrows⟩ := hv.addr (by simpa using hne)
  go_enter Tryz.func15, Tryz.ntmps15
  go_wp2_with fail
  go_loopw [1, 5] (fun kv iv wr => ∃ (i : Nat) (q : Int), i ≤ xs.length ∧ iv = .int .i64 i ∧ kv = .int .i64 q ∧ q = k + cntR ((xs.map Ln.cd).take i) ∧ MkS w b off f wr (off + i * 3) (mkR ((xs.map Ln.cd).take i) k).flatten ((xs.map Ln.cd).drop i).flatten) (fun _ iv _ => xs.length - (intOf iv).toNat)
  case atStart => exact ⟨0, k, Nat.zero_le _, rfl, rfl, by simp [cntR], [], f, rfl, by simp [mkR], ⟨RdFlat.nil _ _ _, hrows.toFlat, hf, hnd⟩, Only.refl _ _⟩
  case round =>
    obtain ⟨i, q, hil, rfl, rfl, hq, hst⟩ := hrel
    have hcs := cntR_take_le (xs.map Ln.cd) i
    have hsz := hst.size
    have hbl : b < wr.heap.size := by omega
    by_cases hlt : i < xs.length
    · have hc2' := cntR_take_le (xs.map Ln.cd) (i + 1)
      rw [cntR_take_succ _ _ _ hlt] at hc2'
      have hw : cntV (Ln.cd xs[i]) = cntR (xs[i].coefs.map intCd) + 1 + 1 := by rw [Ln.cd_list]; simp only [cntV, cnt]; try omega
      rw [hw] at hc2'
      have hq0 : 0 < q := by omega
      have hq1 : q + (cntR (xs[i].coefs.map intCd) + 1 + 1 : Nat) ≤ 200000000000000 := by omega
      rw [drop_flat _ _ _ hlt, Ln.cd_list] at hst
      simp only [List.cons_append, List.nil_append] at hst
      have HQ := Lib.hid hq
      have hfz := hst.frozen
      clear hc2' hcs hq
      obtain ⟨v0, fe0, c0, hr0, hfe0, hn0, hk0⟩ := hst.sl
      obtain ⟨ka0, kc0, rfl, _⟩ := rd_sl_inv hr0
      go_wp2_with fail
      refine (markIntS_x xs[i].coefs _ _ _ _ (by omega) (by omega) hr0 hfe0 hn0).mono ?_
      rintro e w0 ⟨rfl, hrm0, hfm0, hom0⟩
      have hst : MkS _ _ _ _ _ (off + i * 3 + 1) _ _ := hk0 _ _ hom0 hrm0 hfm0
      have hbl : b < w0.heap.size := Nat.lt_of_lt_of_le hbs hst.size
      have hfz0 := hst.frozen
      clear hk0 hr0 hfe0 hn0 hrm0 hfm0 hom0
      obtain ⟨v1, c1, _⟩ := hst.cell
      have hst : MkS _ _ _ _ _ (off + i * 3 + 2) _ _ := hst.scalar (.int (q + cntR (xs[i].coefs.map intCd))) (.int .i64 (q + cntR (xs[i].coefs.map intCd))) (fun w v f => int_nofp w v f) (fun w' => int_rd _ (by omega) w')
      obtain ⟨v2, c2, _⟩ := hst.cell
      have hst : MkS _ _ _ _ _ (off + i * 3 + 3) _ _ := hst.scalar (.bool (decide ((q + cntR (xs[i].coefs.map intCd) + 1) % 3 = 0))) (.bool ((q + cntR (xs[i].coefs.map intCd) + 1) % 3 == 0)) (fun w v f => bool_nofp w v f) (fun w' => bool_rd _ w')
      go_wp2_with fail
      go_roundw
      case rel =>
        refine ⟨i + 1, q + cntR (xs[i].coefs.map intCd) + 1 + 1, by omega, by go_num, by go_num, ?_, hst.cast (by omega) ?_⟩
        · have hq := HQ.out; rw [cntR_take_succ _ _ _ hlt, hw]; omega
        · rw [mkR_take_succ _ _ _ hlt, ← HQ.out, Ln.cd_list]; simp [mkV, mkC, cnt, Int.add_assoc]
      case measure => simp [intOf]; omega
    · have he : i = xs.length := by omega
      have h1 : (xs.map Ln.cd).take i = (xs.map Ln.cd) := List.take_of_length_le (by simp; omega)
      have h2 : (xs.map Ln.cd).drop i = [] := List.drop_of_length_le (by simp; omega)
      rw [h1] at hst hq
      rw [h2] at hst
      obtain ⟨f1, f3, hff, _, hst, honly⟩ := hst
      obtain rfl := hst.htodo.nil_fp
      have hff' : f = f1 := by rw [hff]; simp
      subst hff'
      clear hff
      have hrd := hst.hdone.sl (n := xs.length) (cap := cap) (k := 3) (by rw [mkR_len]; simpa using hne) (by rw [mkR_len]; simp) (by rw [mkR_len]; simpa using hc1) hc2 (hst.free.lt b (by simp))
      have hfr : Free wr (b :: f) := by simpa using hst.free
      have HC := Lib.hid hq
      clear hq
      go_wp2_with fail
      go_ret
      exact ⟨retI HC.out, hrd, hfr, honly⟩
end Go.Proofs.YteclieenkephfaaGreat
