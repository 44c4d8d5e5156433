/- Parts of the proof: ExMark. -/
import Derived.Test.YtcfpnjcamcpieaaPw44
import Derived.Test.YtcfpnjcamcpieaaPw10
namespace Go.Proofs.Ytcfpnjcamcpieaa
open Go Go.RowKit
set_option linter.unusedVariables false
set_option linter.unusedSimpArgs false
set_option maxHeartbeats 1600000
set_option maxRecDepth 100000
theorem Sy.cd_list (x : Sy) : x.cd = [.str x.name, .sl (x.args.map zt), .int x.sort] := by simp [Sy.cd]
theorem Sg.cd_list (x : Sg) : x.cd = [.sl (x.syms.map Sy.cd)] := by simp [Sg.cd]
theorem Tm.cd_list (x : Tm) : x.cd = [.str x.name, .sl (x.kids.map Tm.cd)] := Tm.cd_eq x
theorem Eqn.cd_list (x : Eqn) : x.cd = [.str x.a.name, .sl (x.a.kids.map Tm.cd), .str x.b.name, .sl (x.b.kids.map Tm.cd)] := by simp [Eqn.cd, Tm.cd_eq]
theorem Wy.cd_list (x : Wy) : x.cd = [.int x.rule, .int x.n, .str x.t.name, .sl (x.t.kids.map Tm.cd), .sl (x.kids.map Wy.cd)] := by rw [Wy.cd_eq]; simp [Tm.cd_eq]
theorem zbj {n : Int} : ∀ (w : World) (v : Value) (f : List Nat), Rd w (.int n) v f → f = [] := fun w v f h => (zx h).2.2
theorem zcC (n : Int) (h : 0 ≤ n ∧ n ≤ 400000000000000) (w : World) : Rd w (.int n) (.int .i64 n) [] := by simp only [Rd]; exact ⟨trivial, by unfold I64; omega, trivial⟩
/-- In the midst of marking a row of the call's own, at the cell o. -/
def MkS (w0 : World) (b off : Nat) (f : List Nat) (w : World) (o : Nat) (done todo : List CD) : Prop :=
 ∃ f1 f3, f = f1 ++ f3 ∧ o = off + done.length ∧ MkSt w b off done todo f1 f3 ∧ Only (b :: f) w0 w
theorem MkS.size {w0 w : World} {b off o : Nat} {f : List Nat} {done todo : List CD} (h : MkS w0 b off f w o done todo) : w0.heap.size ≤ w.heap.size := by
 obtain ⟨f1, f3, _, _, _, h⟩ := h; exact h.size
theorem MkS.cell {w0 w : World} {b off o : Nat} {f : List Nat} {d : CD} {done ds : List CD} (h : MkS w0 b off f w o done (d :: ds)) : ∃ v, w.cell? ⟨b, o, none⟩ = some v ∧ w.frozen? ⟨b, o, none⟩ = false := by
 obtain ⟨f1, f3, _, rfl, h, _⟩ := h
 obtain ⟨v, g1, g2, _, hc, _, _⟩ := h.htodo.head
 exact ⟨v, hc, h.free.frozen (by simp)⟩
theorem MkS.frozen {w0 w : World} {b off o : Nat} {f : List Nat} {done ds : List CD} (h : MkS w0 b off f w o done ds) : ∀ j, w.frozen? ⟨b, j, none⟩ = false := by
 obtain ⟨f1, f3, _, rfl, h, _⟩ := h
 exact fun j => h.free.frozen (by simp)
theorem MkS.scalar {w0 w : World} {b off o : Nat} {f : List Nat} {d : CD} {done ds : List CD} (h : MkS w0 b off f w o done (d :: ds)) (d' : CD) (u : Value) (hd : ∀ w v f, Rd w d v f → f = []) (hu : ∀ w', Rd w' d' u []) :
  MkS w0 b off f (w.setCell ⟨b, o, none⟩ u) (o + 1) (done ++ [d']) ds := by
 obtain ⟨f1, f3, hff, rfl, h, ho⟩ := h
 exact ⟨f1, f3, hff, by simp [Nat.add_assoc], h.scalar (hd w) hu, ho.trans (Only.set (by simp))⟩
theorem MkS.below {w0 w w' : World} {b off o : Nat} {f : List Nat} {done todo : List CD} (h : MkS w0 b off f w o done todo) (hb : Below w.heap.size w w') : MkS w0 b off f w' o done todo := by
 obtain ⟨f1, f3, hff, rfl, h, ho⟩ := h
 exact ⟨f1, f3, hff, rfl, h.below hb, ho.trans (Only.below hb)⟩
theorem MkS.sl {w0 w : World} {b off o : Nat} {f : List Nat} {es : List (List CD)} {done ds : List CD} (h : MkS w0 b off f w o done (.sl es :: ds)) :
  ∃ v fe, w.cell? ⟨b, o, none⟩ = some v ∧ Rd w (.sl es) v fe ∧ Free w fe ∧ fe.Nodup ∧ ∀ w' es', Only fe w w' → Rd w' (.sl es') v fe → Free w' fe → MkS w0 b off f w' (o + 1) (done ++ [.sl es']) ds := by
 obtain ⟨f1, f3, hff, rfl, h, ho⟩ := h
 obtain ⟨v, fe, f2, rfl, hc, hr, ht, hfe, hnd⟩ := h.head
 refine ⟨v, fe, hc, hr, hfe, hnd, fun w' es' h1 h2 h3 => ⟨f1 ++ fe, f2, by rw [hff, List.append_assoc], by simp [Nat.add_assoc], h.slice hc ht h1 h2 h3, ho.trans (h1.mono fun x hx => by rw [hff]; simp [hx])⟩⟩
theorem MkS.cast {w0 w : World} {b off o o' : Nat} {f : List Nat} {done done' todo : List CD} (h : MkS w0 b off f w o done todo) (ho : o' = o) (hd : done' = done) : MkS w0 b off f w o' done' todo := by subst ho; subst hd; exact h
def zbx (es : List (List CD)) (k : Int) (v : Value) (fp : List Nat) (w : World) (e : Ending) (w' : World) : Prop := e = .returned (.int .i64 (k + cntR es)) ∧ Rd w' (.sl (mkR es k)) v fp ∧ Free w' fp ∧ Only fp w w'
theorem zas (xs : List Tm) (v : Value) (fp : List Nat) (k : Int) (w : World) (h0 : 0 < k) (h1 : k + cntR (xs.map Tm.cd) ≤ 200000000000000) (hv : Rd w (.sl (xs.map Tm.cd)) v fp) (hf : Free w fp) (hnd : fp.Nodup) :
  Calls Try.prog 40 #[v, .int .i64 k] w (zbx (xs.map Tm.cd) k v fp w) := by
 have h := zbX (Tm.sizes xs) xs v fp k w (Nat.le_refl _) h0 (by rw [← Tm.cntR_cds]; exact h1) hv hf hnd
 rw [← Tm.cntR_cds] at h
 exact h
theorem zcb (v : Value) (fp : List Nat) (k : Int) (w : World) (hv : Rd w (.sl (([] : List Int).map zt)) v fp) (hf : Free w fp) :
  Calls Try.prog 65 #[v, .int .i64 k] w (zbx (([] : List Int).map zt) k v fp w) := by
 obtain ⟨a, cap, rfl, hc1, hc2⟩ := ze hv
 go_enter Try.func65, Try.ntmps65
 go_wp2_with fail
 refine wp_loop_rounds 1 ?_
 rw [rounds_succ]
 go_wp2_with fail
 go_ret
 exact ⟨retI (by simp [cntR]), by simpa [mkR] using hv, hf, Only.refl _ _⟩
theorem zcU (xs : List Int) (v : Value) (fp : List Nat) (k : Int) (w : World) (h0 : 0 < k) (h1 : k + cntR (xs.map zt) ≤ 200000000000000) (hv : Rd w (.sl (xs.map zt)) v fp) (hf : Free w fp) (hnd : fp.Nodup) :
  Calls Try.prog 65 #[v, .int .i64 k] w (zbx (xs.map zt) k v fp w) := by
 rcases Nat.eq_zero_or_pos xs.length with hz | hne
 ·obtain rfl := List.eq_nil_of_length_eq_zero hz
  exact zcb v fp k w hv hf
 obtain ⟨a, cap, rfl, hc1, hc2⟩ := ze hv
 obtain ⟨b, off, f, rfl, hbs, rfl, hrows⟩ := hv.addr (by simpa using hne)
 go_enter Try.func65, Try.ntmps65
 go_wp2_with fail
 go_loopw [1, 5] (fun kv iv wr => ∃ (i : Nat) (q : Int), i ≤ xs.length ∧ iv = .int .i64 i ∧ kv = .int .i64 q ∧ q = k + cntR ((xs.map zt).take i) ∧ MkS w b off f wr (off + i) (mkR ((xs.map zt).take i) k).flatten ((xs.map zt).drop i).flatten) (fun _ iv _ => xs.length - (intOf iv).toNat)
 case atStart => exact ⟨0, k, Nat.zero_le _, rfl, rfl, by simp [cntR], [], f, rfl, by simp [mkR], ⟨RdFlat.nil _ _ _, hrows.toFlat, hf, hnd⟩, Only.refl _ _⟩
 case round =>
  obtain ⟨i, q, hil, rfl, rfl, hq, hst⟩ := hrel
  have hcs := zz (xs.map zt) i
  have hsz := hst.size
  have hbl : b < wr.heap.size := by omega
  by_cases hlt : i < xs.length
  ·have hc2' := zz (xs.map zt) (i + 1)
   rw [zv _ _ _ hlt] at hc2'
   have hw : cntV (zt xs[i]) = 1 := by rw [show zt xs[i] = [.int xs[i]] from rfl]; simp only [cntV, cnt]; try omega
   rw [hw] at hc2'
   have hq0 : 0 < q := by omega
   have hq1 : q + (1 : Nat) ≤ 200000000000000 := by omega
   rw [zaC _ _ _ hlt, show zt xs[i] = [.int xs[i]] from rfl] at hst
   simp only [List.cons_append, List.nil_append] at hst
   have HQ := Lib.hid hq
   have hfz := hst.frozen
   clear hc2' hcs hq
   obtain ⟨v0, c0, _⟩ := hst.cell
   have hst : MkS _ _ _ _ _ (off + i + 1) _ _ := hst.scalar (.int (q)) (.int .i64 (q)) (fun w v f => zbj w v f) (fun w' => zcC _ (by omega) w')
   go_wp2_with fail
   go_roundw
   case rel =>
    refine ⟨i + 1, q + 1, by omega, by go_num, by go_num, ?_, hst.cast (by omega) ?_⟩
    ·have hq := HQ.out; rw [zv _ _ _ hlt, hw]; omega
    ·rw [zY _ _ _ hlt, ← HQ.out, show zt xs[i] = [.int xs[i]] from rfl]; simp [mkV, mkC, cnt, Int.add_assoc]
   case measure => simp [intOf]; omega
  ·have he : i = xs.length := by omega
   have h1 : (xs.map zt).take i = (xs.map zt) := List.take_of_length_le (by simp; omega)
   have h2 : (xs.map zt).drop i = [] := List.drop_of_length_le (by simp; omega)
   rw [h1] at hst hq
   rw [h2] at hst
   obtain ⟨f1, f3, hff, _, hst, honly⟩ := hst
   obtain rfl := hst.htodo.nil_fp
   have hff' : f = f1 := by rw [hff]; simp
   subst hff'
   clear hff
   have hrd := hst.hdone.sl (n := xs.length) (cap := cap) (k := 1) (by rw [zI]; simpa using hne) (by rw [zI]; simp) (by rw [zI]; simpa using hc1) hc2 (hst.free.lt b (by simp))
   have hfr : Free wr (b :: f) := by simpa using hst.free
   have HC := Lib.hid hq
   clear hq
   go_wp2_with fail
   go_ret
   exact ⟨retI HC.out, hrd, hfr, honly⟩
theorem zcc (v : Value) (fp : List Nat) (k : Int) (w : World) (hv : Rd w (.sl (([] : List Sy).map Sy.cd)) v fp) (hf : Free w fp) :
  Calls Try.prog 38 #[v, .int .i64 k] w (zbx (([] : List Sy).map Sy.cd) k v fp w) := by
 obtain ⟨a, cap, rfl, hc1, hc2⟩ := ze hv
 go_enter Try.func38, Try.ntmps38
 go_wp2_with fail
 refine wp_loop_rounds 1 ?_
 rw [rounds_succ]
 go_wp2_with fail
 go_ret
 exact ⟨retI (by simp [cntR]), by simpa [mkR] using hv, hf, Only.refl _ _⟩
theorem zcV (xs : List Sy) (v : Value) (fp : List Nat) (k : Int) (w : World) (h0 : 0 < k) (h1 : k + cntR (xs.map Sy.cd) ≤ 200000000000000) (hv : Rd w (.sl (xs.map Sy.cd)) v fp) (hf : Free w fp) (hnd : fp.Nodup) :
  Calls Try.prog 38 #[v, .int .i64 k] w (zbx (xs.map Sy.cd) k v fp w) := by
 rcases Nat.eq_zero_or_pos xs.length with hz | hne
 ·obtain rfl := List.eq_nil_of_length_eq_zero hz
  exact zcc v fp k w hv hf
 obtain ⟨a, cap, rfl, hc1, hc2⟩ := ze hv
 obtain ⟨b, off, f, rfl, hbs, rfl, hrows⟩ := hv.addr (by simpa using hne)
 go_enter Try.func38, Try.ntmps38
 go_wp2_with fail
 go_loopw [1, 5] (fun kv iv wr => ∃ (i : Nat) (q : Int), i ≤ xs.length ∧ iv = .int .i64 i ∧ kv = .int .i64 q ∧ q = k + cntR ((xs.map Sy.cd).take i) ∧ MkS w b off f wr (off + i * 3) (mkR ((xs.map Sy.cd).take i) k).flatten ((xs.map Sy.cd).drop i).flatten) (fun _ iv _ => xs.length - (intOf iv).toNat)
 case atStart => exact ⟨0, k, Nat.zero_le _, rfl, rfl, by simp [cntR], [], f, rfl, by simp [mkR], ⟨RdFlat.nil _ _ _, hrows.toFlat, hf, hnd⟩, Only.refl _ _⟩
 case round =>
  obtain ⟨i, q, hil, rfl, rfl, hq, hst⟩ := hrel
  have hcs := zz (xs.map Sy.cd) i
  have hsz := hst.size
  have hbl : b < wr.heap.size := by omega
  by_cases hlt : i < xs.length
  ·have hc2' := zz (xs.map Sy.cd) (i + 1)
   rw [zv _ _ _ hlt] at hc2'
   have hw : cntV (Sy.cd xs[i]) = 1 + cntR (xs[i].args.map zt) + 1 := by rw [Sy.cd_list]; simp only [cntV, cnt]; try omega
   rw [hw] at hc2'
   have hq0 : 0 < q := by omega
   have hq1 : q + (1 + cntR (xs[i].args.map zt) + 1 : Nat) ≤ 200000000000000 := by omega
   rw [zaC _ _ _ hlt, Sy.cd_list] at hst
   simp only [List.cons_append, List.nil_append] at hst
   have HQ := Lib.hid hq
   have hfz := hst.frozen
   clear hc2' hcs hq
   go_wp2_with fail
   refine (zV _ _ (by omega) (by omega)).mono ?_
   rintro e w0 ⟨rfl, hb0⟩
   have hst := hst.below hb0
   have hbl : b < w0.heap.size := zc4 hbs hst.size
   have hfz0 := hst.frozen
   obtain ⟨v0, c0, _⟩ := hst.cell
   have hst : MkS _ _ _ _ _ (off + i * 3 + 1) _ _ := hst.scalar (.str (mtx (q))) (.string (mtx (q))) (fun w v f => za0 w v f) (fun w' => zb9 w' _ (by omega))
   obtain ⟨v1, fe1, c1, hr1, hfe1, hn1, hk1⟩ := hst.sl
   obtain ⟨ka1, kc1, rfl, _⟩ := ze hr1
   go_wp2_with fail
   refine (zcU xs[i].args _ _ _ _ (by omega) (by omega) hr1 hfe1 hn1).mono ?_
   rintro e w1 ⟨rfl, hrm1, hfm1, hom1⟩
   have hst : MkS _ _ _ _ _ (off + i * 3 + 2) _ _ := hk1 _ _ hom1 hrm1 hfm1
   have hbl : b < w1.heap.size := zc4 hbs hst.size
   have hfz1 := hst.frozen
   clear hk1 hr1 hfe1 hn1 hrm1 hfm1 hom1
   obtain ⟨v2, c2, _⟩ := hst.cell
   have hst : MkS _ _ _ _ _ (off + i * 3 + 3) _ _ := hst.scalar (.int (q + 1 + cntR (xs[i].args.map zt))) (.int .i64 (q + 1 + cntR (xs[i].args.map zt))) (fun w v f => zbj w v f) (fun w' => zcC _ (by omega) w')
   go_wp2_with fail
   go_roundw
   case rel =>
    refine ⟨i + 1, q + 1 + cntR (xs[i].args.map zt) + 1, by omega, by go_num, by go_num, ?_, hst.cast (by omega) ?_⟩
    ·have hq := HQ.out; rw [zv _ _ _ hlt, hw]; omega
    ·rw [zY _ _ _ hlt, ← HQ.out, Sy.cd_list]; simp [mkV, mkC, cnt, Int.add_assoc]
   case measure => simp [intOf]; omega
  ·have he : i = xs.length := by omega
   have h1 : (xs.map Sy.cd).take i = (xs.map Sy.cd) := List.take_of_length_le (by simp; omega)
   have h2 : (xs.map Sy.cd).drop i = [] := List.drop_of_length_le (by simp; omega)
   rw [h1] at hst hq
   rw [h2] at hst
   obtain ⟨f1, f3, hff, _, hst, honly⟩ := hst
   obtain rfl := hst.htodo.nil_fp
   have hff' : f = f1 := by rw [hff]; simp
   subst hff'
   clear hff
   have hrd := hst.hdone.sl (n := xs.length) (cap := cap) (k := 3) (by rw [zI]; simpa using hne) (by rw [zI]; simp) (by rw [zI]; simpa using hc1) hc2 (hst.free.lt b (by simp))
   have hfr : Free wr (b :: f) := by simpa using hst.free
   have HC := Lib.hid hq
   clear hq
   go_wp2_with fail
   go_ret
   exact ⟨retI HC.out, hrd, hfr, honly⟩
theorem zcu (v : Value) (fp : List Nat) (k : Int) (w : World) (hv : Rd w (.sl (([] : List Eqn).map Eqn.cd)) v fp) (hf : Free w fp) :
  Calls Try.prog 17 #[v, .int .i64 k] w (zbx (([] : List Eqn).map Eqn.cd) k v fp w) := by
 obtain ⟨a, cap, rfl, hc1, hc2⟩ := ze hv
 go_enter Try.func17, Try.ntmps17
 go_wp2_with fail
 refine wp_loop_rounds 1 ?_
 rw [rounds_succ]
 go_wp2_with fail
 go_ret
 exact ⟨retI (by simp [cntR]), by simpa [mkR] using hv, hf, Only.refl _ _⟩
theorem markEqS_x (xs : List Eqn) (v : Value) (fp : List Nat) (k : Int) (w : World) (h0 : 0 < k) (h1 : k + cntR (xs.map Eqn.cd) ≤ 200000000000000) (hv : Rd w (.sl (xs.map Eqn.cd)) v fp) (hf : Free w fp) (hnd : fp.Nodup) :
  Calls Try.prog 17 #[v, .int .i64 k] w (zbx (xs.map Eqn.cd) k v fp w) := by
 rcases Nat.eq_zero_or_pos xs.length with hz | hne
 ·obtain rfl := List.eq_nil_of_length_eq_zero hz
  exact zcu v fp k w hv hf
 obtain ⟨a, cap, rfl, hc1, hc2⟩ := ze hv
 obtain ⟨b, off, f, rfl, hbs, rfl, hrows⟩ := hv.addr (by simpa using hne)
 go_enter Try.func17, Try.ntmps17
 go_wp2_with fail
 go_loopw [1, 5] (fun kv iv wr => ∃ (i : Nat) (q : Int), i ≤ xs.length ∧ iv = .int .i64 i ∧ kv = .int .i64 q ∧ q = k + cntR ((xs.map Eqn.cd).take i) ∧ MkS w b off f wr (off + i * 4) (mkR ((xs.map Eqn.cd).take i) k).flatten ((xs.map Eqn.cd).drop i).flatten) (fun _ iv _ => xs.length - (intOf iv).toNat)
 case atStart => exact ⟨0, k, Nat.zero_le _, rfl, rfl, by simp [cntR], [], f, rfl, by simp [mkR], ⟨RdFlat.nil _ _ _, hrows.toFlat, hf, hnd⟩, Only.refl _ _⟩
 case round =>
  obtain ⟨i, q, hil, rfl, rfl, hq, hst⟩ := hrel
  have hcs := zz (xs.map Eqn.cd) i
  have hsz := hst.size
  have hbl : b < wr.heap.size := by omega
  by_cases hlt : i < xs.length
  ·have hc2' := zz (xs.map Eqn.cd) (i + 1)
   rw [zv _ _ _ hlt] at hc2'
   have hw : cntV (Eqn.cd xs[i]) = 1 + cntR (xs[i].a.kids.map Tm.cd) + 1 + cntR (xs[i].b.kids.map Tm.cd) := by rw [Eqn.cd_list]; simp only [cntV, cnt]; try omega
   rw [hw] at hc2'
   have hq0 : 0 < q := by omega
   have hq1 : q + (1 + cntR (xs[i].a.kids.map Tm.cd) + 1 + cntR (xs[i].b.kids.map Tm.cd) : Nat) ≤ 200000000000000 := by omega
   rw [zaC _ _ _ hlt, Eqn.cd_list] at hst
   simp only [List.cons_append, List.nil_append] at hst
   have HQ := Lib.hid hq
   have hfz := hst.frozen
   clear hc2' hcs hq
   go_wp2_with fail
   refine (zV _ _ (by omega) (by omega)).mono ?_
   rintro e w0 ⟨rfl, hb0⟩
   have hst := hst.below hb0
   have hbl : b < w0.heap.size := zc4 hbs hst.size
   have hfz0 := hst.frozen
   obtain ⟨v0, c0, _⟩ := hst.cell
   have hst : MkS _ _ _ _ _ (off + i * 4 + 1) _ _ := hst.scalar (.str (mtx (q))) (.string (mtx (q))) (fun w v f => za0 w v f) (fun w' => zb9 w' _ (by omega))
   obtain ⟨v1, fe1, c1, hr1, hfe1, hn1, hk1⟩ := hst.sl
   obtain ⟨ka1, kc1, rfl, _⟩ := ze hr1
   go_wp2_with fail
   refine (zas xs[i].a.kids _ _ _ _ (by omega) (by omega) hr1 hfe1 hn1).mono ?_
   rintro e w1 ⟨rfl, hrm1, hfm1, hom1⟩
   have hst : MkS _ _ _ _ _ (off + i * 4 + 2) _ _ := hk1 _ _ hom1 hrm1 hfm1
   have hbl : b < w1.heap.size := zc4 hbs hst.size
   have hfz1 := hst.frozen
   clear hk1 hr1 hfe1 hn1 hrm1 hfm1 hom1
   go_wp2_with fail
   refine (zV _ _ (by omega) (by omega)).mono ?_
   rintro e w2 ⟨rfl, hb2⟩
   have hst := hst.below hb2
   have hbl : b < w2.heap.size := zc4 hbs hst.size
   have hfz2 := hst.frozen
   obtain ⟨v2, c2, _⟩ := hst.cell
   have hst : MkS _ _ _ _ _ (off + i * 4 + 3) _ _ := hst.scalar (.str (mtx (q + 1 + cntR (xs[i].a.kids.map Tm.cd)))) (.string (mtx (q + 1 + cntR (xs[i].a.kids.map Tm.cd)))) (fun w v f => za0 w v f) (fun w' => zb9 w' _ (by omega))
   obtain ⟨v3, fe3, c3, hr3, hfe3, hn3, hk3⟩ := hst.sl
   obtain ⟨ka3, kc3, rfl, _⟩ := ze hr3
   go_wp2_with fail
   refine (zas xs[i].b.kids _ _ _ _ (by omega) (by omega) hr3 hfe3 hn3).mono ?_
   rintro e w3 ⟨rfl, hrm3, hfm3, hom3⟩
   have hst : MkS _ _ _ _ _ (off + i * 4 + 4) _ _ := hk3 _ _ hom3 hrm3 hfm3
   have hbl : b < w3.heap.size := zc4 hbs hst.size
   have hfz3 := hst.frozen
   clear hk3 hr3 hfe3 hn3 hrm3 hfm3 hom3
   go_wp2_with fail
   go_roundw
   case rel =>
    refine ⟨i + 1, q + 1 + cntR (xs[i].a.kids.map Tm.cd) + 1 + cntR (xs[i].b.kids.map Tm.cd), by omega, by go_num, by go_num, ?_, hst.cast (by omega) ?_⟩
    ·have hq := HQ.out; rw [zv _ _ _ hlt, hw]; omega
    ·rw [zY _ _ _ hlt, ← HQ.out, Eqn.cd_list]; simp [mkV, mkC, cnt, Int.add_assoc]
   case measure => simp [intOf]; omega
  ·have he : i = xs.length := by omega
   have h1 : (xs.map Eqn.cd).take i = (xs.map Eqn.cd) := List.take_of_length_le (by simp; omega)
   have h2 : (xs.map Eqn.cd).drop i = [] := List.drop_of_length_le (by simp; omega)
   rw [h1] at hst hq
   rw [h2] at hst
   obtain ⟨f1, f3, hff, _, hst, honly⟩ := hst
   obtain rfl := hst.htodo.nil_fp
   have hff' : f = f1 := by rw [hff]; simp
   subst hff'
   clear hff
   have hrd := hst.hdone.sl (n := xs.length) (cap := cap) (k := 4) (by rw [zI]; simpa using hne) (by rw [zI]; simp) (by rw [zI]; simpa using hc1) hc2 (hst.free.lt b (by simp))
   have hfr : Free wr (b :: f) := by simpa using hst.free
   have HC := Lib.hid hq
   clear hq
   go_wp2_with fail
   go_ret
   exact ⟨retI HC.out, hrd, hfr, honly⟩
theorem zbf (v : Value) (fp : List Nat) (k : Int) (w : World) (hv : Rd w (.sl (([] : List Wy).map Wy.cd)) v fp) (hf : Free w fp) :
  Calls Try.prog 42 #[v, .int .i64 k] w (zbx (([] : List Wy).map Wy.cd) k v fp w) := by
 obtain ⟨a, cap, rfl, hc1, hc2⟩ := ze hv
 go_enter Try.func42, Try.ntmps42
 go_wp2_with fail
 refine wp_loop_rounds 1 ?_
 rw [rounds_succ]
 go_wp2_with fail
 go_ret
 exact ⟨retI (by simp [cntR]), by simpa [mkR] using hv, hf, Only.refl _ _⟩
theorem zcW (n : Nat) : ∀ (xs : List Wy) (v : Value) (fp : List Nat) (k : Int) (w : World) (hn : ∀ x ∈ xs, ndV x.cd < n) (h0 : 0 < k) (h1 : k + cntR (xs.map Wy.cd) ≤ 200000000000000) (hv : Rd w (.sl (xs.map Wy.cd)) v fp) (hf : Free w fp) (hnd : fp.Nodup),
  Calls Try.prog 42 #[v, .int .i64 k] w (zbx (xs.map Wy.cd) k v fp w) := by
 induction n with
 | zero =>
  intro xs v fp k w hn h0 h1 hv hf hnd
  cases xs with
  | nil => exact zbf v fp k w hv hf
  | cons x xs => exact absurd (hn x (by simp)) (by omega)
 | succ n ih =>
  intro xs v fp k w hn h0 h1 hv hf hnd
  have IH := Lib.hid ih
  have HN := Lib.hid hn
  clear ih hn
  rcases Nat.eq_zero_or_pos xs.length with hz | hne
  ·obtain rfl := List.eq_nil_of_length_eq_zero hz
   exact zbf v fp k w hv hf
  obtain ⟨a, cap, rfl, hc1, hc2⟩ := ze hv
  obtain ⟨b, off, f, rfl, hbs, rfl, hrows⟩ := hv.addr (by simpa using hne)
  go_enter Try.func42, Try.ntmps42
  go_wp2_with fail
  go_loopw [1, 5] (fun kv iv wr => ∃ (i : Nat) (q : Int), i ≤ xs.length ∧ iv = .int .i64 i ∧ kv = .int .i64 q ∧ q = k + cntR ((xs.map Wy.cd).take i) ∧ MkS w b off f wr (off + i * 5) (mkR ((xs.map Wy.cd).take i) k).flatten ((xs.map Wy.cd).drop i).flatten) (fun _ iv _ => xs.length - (intOf iv).toNat)
  case atStart => exact ⟨0, k, Nat.zero_le _, rfl, rfl, by simp [cntR], [], f, rfl, by simp [mkR], ⟨RdFlat.nil _ _ _, hrows.toFlat, hf, hnd⟩, Only.refl _ _⟩
  case round =>
   obtain ⟨i, q, hil, rfl, rfl, hq, hst⟩ := hrel
   have hcs := zz (xs.map Wy.cd) i
   have hsz := hst.size
   have hbl : b < wr.heap.size := by omega
   by_cases hlt : i < xs.length
   ·have hc2' := zz (xs.map Wy.cd) (i + 1)
    rw [zv _ _ _ hlt] at hc2'
    have hw : cntV (Wy.cd xs[i]) = 1 + 1 + 1 + cntR (xs[i].t.kids.map Tm.cd) + cntR (xs[i].kids.map Wy.cd) := by rw [Wy.cd_list]; simp only [cntV, cnt]; try omega
    rw [hw] at hc2'
    have hq0 : 0 < q := by omega
    have hq1 : q + (1 + 1 + 1 + cntR (xs[i].t.kids.map Tm.cd) + cntR (xs[i].kids.map Wy.cd) : Nat) ≤ 200000000000000 := by omega
    rw [zaC _ _ _ hlt, Wy.cd_list] at hst
    simp only [List.cons_append, List.nil_append] at hst
    have HQ := Lib.hid hq
    have hfz := hst.frozen
    clear hc2' hcs hq
    obtain ⟨v0, c0, _⟩ := hst.cell
    have hst : MkS _ _ _ _ _ (off + i * 5 + 1) _ _ := hst.scalar (.int (q)) (.int .i64 (q)) (fun w v f => zbj w v f) (fun w' => zcC _ (by omega) w')
    obtain ⟨v1, c1, _⟩ := hst.cell
    have hst : MkS _ _ _ _ _ (off + i * 5 + 2) _ _ := hst.scalar (.int (q + 1)) (.int .i64 (q + 1)) (fun w v f => zbj w v f) (fun w' => zcC _ (by omega) w')
    go_wp2_with fail
    refine (zV _ _ (by omega) (by omega)).mono ?_
    rintro e w2 ⟨rfl, hb2⟩
    have hst := hst.below hb2
    have hbl : b < w2.heap.size := zc4 hbs hst.size
    have hfz2 := hst.frozen
    obtain ⟨v2, c2, _⟩ := hst.cell
    have hst : MkS _ _ _ _ _ (off + i * 5 + 3) _ _ := hst.scalar (.str (mtx (q + 1 + 1))) (.string (mtx (q + 1 + 1))) (fun w v f => za0 w v f) (fun w' => zb9 w' _ (by omega))
    obtain ⟨v3, fe3, c3, hr3, hfe3, hn3, hk3⟩ := hst.sl
    obtain ⟨ka3, kc3, rfl, _⟩ := ze hr3
    go_wp2_with fail
    refine (zas xs[i].t.kids _ _ _ _ (by omega) (by omega) hr3 hfe3 hn3).mono ?_
    rintro e w3 ⟨rfl, hrm3, hfm3, hom3⟩
    have hst : MkS _ _ _ _ _ (off + i * 5 + 4) _ _ := hk3 _ _ hom3 hrm3 hfm3
    have hbl : b < w3.heap.size := zc4 hbs hst.size
    have hfz3 := hst.frozen
    clear hk3 hr3 hfe3 hn3 hrm3 hfm3 hom3
    obtain ⟨v4, fe4, c4, hr4, hfe4, hn4, hk4⟩ := hst.sl
    obtain ⟨ka4, kc4, rfl, _⟩ := ze hr4
    go_wp2_with fail
    refine (IH.out xs[i].kids _ _ _ _ (fun y hy => by have := Wy.kid_nd hy; have := HN.out _ (zc7 hlt); omega) (by omega) (by omega) hr4 hfe4 hn4).mono ?_
    rintro e w4 ⟨rfl, hrm4, hfm4, hom4⟩
    have hst : MkS _ _ _ _ _ (off + i * 5 + 5) _ _ := hk4 _ _ hom4 hrm4 hfm4
    have hbl : b < w4.heap.size := zc4 hbs hst.size
    have hfz4 := hst.frozen
    clear hk4 hr4 hfe4 hn4 hrm4 hfm4 hom4
    go_wp2_with fail
    go_roundw
    case rel =>
     refine ⟨i + 1, q + 1 + 1 + 1 + cntR (xs[i].t.kids.map Tm.cd) + cntR (xs[i].kids.map Wy.cd), by omega, by go_num, by go_num, ?_, hst.cast (by omega) ?_⟩
     ·have hq := HQ.out; rw [zv _ _ _ hlt, hw]; omega
     ·rw [zY _ _ _ hlt, ← HQ.out, Wy.cd_list]; simp [mkV, mkC, cnt, Int.add_assoc]
    case measure => simp [intOf]; omega
   ·have he : i = xs.length := by omega
    have h1 : (xs.map Wy.cd).take i = (xs.map Wy.cd) := List.take_of_length_le (by simp; omega)
    have h2 : (xs.map Wy.cd).drop i = [] := List.drop_of_length_le (by simp; omega)
    rw [h1] at hst hq
    rw [h2] at hst
    obtain ⟨f1, f3, hff, _, hst, honly⟩ := hst
    obtain rfl := hst.htodo.nil_fp
    have hff' : f = f1 := by rw [hff]; simp
    subst hff'
    clear hff
    have hrd := hst.hdone.sl (n := xs.length) (cap := cap) (k := 5) (by rw [zI]; simpa using hne) (by rw [zI]; simp) (by rw [zI]; simpa using hc1) hc2 (hst.free.lt b (by simp))
    have hfr : Free wr (b :: f) := by simpa using hst.free
    have HC := Lib.hid hq
    clear hq
    go_wp2_with fail
    go_ret
    exact ⟨retI HC.out, hrd, hfr, honly⟩
theorem zcX (xs : List Wy) (v : Value) (fp : List Nat) (k : Int) (w : World) (h0 : 0 < k) (h1 : k + cntR (xs.map Wy.cd) ≤ 200000000000000) (hv : Rd w (.sl (xs.map Wy.cd)) v fp) (hf : Free w fp) (hnd : fp.Nodup) :
  Calls Try.prog 42 #[v, .int .i64 k] w (zbx (xs.map Wy.cd) k v fp w) :=
 zcW _ xs v fp k w (fun x hx => zbQ (List.mem_map_of_mem hx)) h0 h1 hv hf hnd
end Go.Proofs.Ytcfpnjcamcpieaa
