/- Parts of the proof: Own. -/
import Derived.Deep.Upon
import Derived.Lib.BufferMore
import Derived.Test.YtbfinjiledfpcaaPa14
namespace Go.Proofs.Ytbfinjiledfpcaa
open Go Go.RowKit
set_option linter.unusedVariables false
set_option linter.unusedSimpArgs false
set_option maxHeartbeats 1600000
/-- append of nothing, in the walk. -/
theorem zcn {P : Program} {t e : TypeId} {z : Value} {k bytes : Nat} (hT : SlTy P t e z k bytes) {w : World} {ops : Array Oper} {rest : List Oper} {o : Oper} {a : Act} {Q : Exit → Act → World → Prop} (hgd : o.guard = none) (s x : Operand)
  (ho : o.op = .call { callee := .builtin .append, args := #[s, x], argTypes := #[t, t] }) (base ao : Option Addr) (n c c' : Nat) (hle : n ≤ c) (hs : a.eval s = .slice base n c) (hx : a.eval x = .slice ao 0 c')
  (h : wpList P ops Q rest (a.put o.dst (.slice base n c)) w) : wpList P ops Q (o :: rest) a w := by
 obtain ⟨i, hi, hz, hsz, hb⟩ := info_parts hT.info
 have hsrc : Src P i.size t (.slice ao 0 c') 0 [] w := by
  cases ao with
  | none => exact Src.ofNil _ hT.und c'
  | some ad => exact Src.ofSlice _ hT.und ad 0 c' [] (by simp) (fun j u h => by simp at h) (by simp)
 have hr := run_append_nothing (P := P) w t t o.type e i hT.und hi base n c hle _ hsrc; refine wpList_plain hgd fun K hK => ?_; unfold Oper.wp execOp; simp only [ho, resolve, invoke, builtin, Sem.run_bind, Sem.run_pure, Result.andThen_ok, List.map_toArray, List.map_cons, List.map_nil, hs, hx, hr]; exact hK _ _ h
/-- append of a whole row, read, to a row of the call's own. -/
theorem zaB {P : Program} {t e : TypeId} {z : Value} {k bytes : Nat} (hT : SlTy P t e z k bytes) {w : World} {ops : Array Oper} {rest : List Oper} {o : Oper} {a : Act} {Q : Exit → Act → World → Prop} (hgd : o.guard = none) (s x : Operand)
  (ho : o.op = .call { callee := .builtin .append, args := #[s, x], argTypes := #[t, t] })
  (base : Nat) (v : Value) (es : List (List CD)) (fp : List Nat) (hs : a.eval s = v) (hown : Own w base e k v es fp)
  (news : List (List CD)) (nv : Value) (nf : List Nat) (hx : a.eval x = nv) (hrd : Rd w (.sl news) nv nf) (hnk : ∀ x ∈ news, x.length = k) (hna : ∀ b ∈ nf, v.ownBlock ≠ some b)
  (hbytes : (es.length + news.length) * bytes ≤ 140737488355328) (hlen : es.length + news.length ≤ 140737488355328) (hbase : base ≤ w.heap.size)
  (h : ∀ v' w' nfp, (∀ b ∈ nfp, b ∈ nf) → Own w' base e k v' (es ++ news) (fp ++ nfp) → w.grownBy w' v.ownBlock → (∀ b, v'.ownBlock = some b → v.ownBlock = some b ∨ w.heap.size ≤ b) → SameOn (fp ++ nfp) w w' → wpList P ops Q rest (a.put o.dst v') w') : wpList P ops Q (o :: rest) a w := by
 obtain ⟨xa, xc, rfl, _, _⟩ := hrd.sl_form
 rcases Nat.eq_zero_or_pos news.length with hz | hne
 ·obtain rfl := List.eq_nil_of_length_eq_zero hz
  obtain ⟨va, vc, rfl, hv1, _⟩ := hown.form; refine zcn hT hgd s x ho va xa es.length vc xc hv1 hs hx ?_; exact h _ w [] (by simp) (by simpa using hown) (zaq _ _) (fun b hb => .inl hb) (SameOn.refl _ _)
 ·obtain ⟨b, off, f, rfl, hb, rfl, hr⟩ := hrd.addr hne
  obtain ⟨vs, hc, hvs⟩ := hr.flat
  exact zp hT hgd s x ho base v es fp hs hown ⟨b, off, none⟩ news.length xc news vs f hx rfl hvs hnk (fun j u hj => by simpa [Addr.add_lit] using hc j u hj) (fun y hy => hna y (by simp [hy])) hbytes hlen hbase
   (fun v' w' h1 h2 h3 h4 => h v' w' f (fun y hy => by simp [hy]) h1 h2 h3 h4)
theorem zaJ (n : Nat) (ih : ∀ (x : Tm) (vs : List Value) (fp : List Nat) (w : World), ndV x.cd ≤ n → wtV x.cd ≤ 1048576 → RdVs w x.cd vs fp → Calls Try.prog 77 #[.agg vs.toArray] w (zaI x.cd w))
  (xs : List Tm) (v : Value) (fp0 : List Nat) (w : World) (hn : ∀ x ∈ xs, ndV x.cd ≤ n) (hbig : xs.length + wtR (xs.map Tm.cd) ≤ 1048576) (hv : Rd w (.sl (xs.map Tm.cd)) v fp0) :
  Calls Try.prog 78 #[v] w (zbA (.sl (xs.map Tm.cd)) w) := by
 obtain ⟨a, cap, rfl, hc1, hc2⟩ := zc hv; have IH := zdH ih; have HN := zdH hn; clear ih hn; go_enter Try.func78, Try.ntmps78; go_wp2_with fail
 go_loopw [3, 9] (fun ov i wr => ∃ (k : Nat) (fp : List Nat), k ≤ xs.length ∧ i = .int .i64 k ∧ Own wr w.heap.size 31 2 ov ((xs.take k).map Tm.cd) fp ∧ Fresh w.heap.size wr fp ∧ Below w.heap.size w wr) (fun _ i _ => xs.length - (intOf i).toNat)
 case atStart => first | exact ⟨0, [], zdR _, rfl, Own.nil _ _ _ _, Fresh.nil _ _, zdT _ _⟩ | exact ⟨0, [], zdR _, rfl, by exact Own.empty _ _ _ _ (zdI _), Fresh.nil _ _, (zdT _ _).alloc (zdI _) _⟩
 case round =>
  obtain ⟨k, fp, hkl, rfl, hown, hfr, hb⟩ := hrel; have hz := hb.size
  by_cases hlt : k < xs.length
  ·obtain ⟨b, off, rfl, hbs, _⟩ := zo hv (by omega)
   obtain ⟨a1, c1, f1, d0, d1, m0, m1, _⟩ := Tm.at (hv.below hb) hlt
   have hbz : b < wr.heap.size := by omega
   have hle := zL Tm.cd xs (k + 1); rw [zK Tm.cd xs k hlt] at hle; go_wp2_with fail; refine (IH.out xs[k] _ _ _ (HN.out _ (zdB hlt)) (by omega) (by exact (Tm.close m0 m1).below ((zdT _ _).alloc (zdI _) _))).mono ?_; rintro e w2 ⟨kv, fk, rfl, hrk, hfk, hb2⟩; obtain ⟨b1, e1, g1, rfl, -, n0, n1⟩ := Tm.open hrk; have hbw : Below wr.heap.size wr w2 := ((zdT _ _).alloc (zdI _) _).trans (hb2.mono (by simp)); have hz2 := hbw.size; have hown2 := (hown.below (hbw.alloc hz2 (.cells #[.string xs[k].name, .slice b1 xs[k].K.length e1] 31))); have hrk2 := hrk.below (za w2 (.cells #[.string xs[k].name, .slice b1 xs[k].K.length e1] 31))
   have hl : ((xs.take k).map Tm.cd).length ≤ xs.length := by simp; omega
   go_wp2_with (at_builtin; refine zp slTyTermS rfl _ _ rfl w.heap.size _ _ _ rfl hown2 ⟨w2.heap.size, 0, none⟩ 1 1 [xs[k].cd] [.string xs[k].name, .slice b1 xs[k].K.length e1] fk rfl rfl ?rd ?k ?cells ?na ?bytes ?len ?base ?next)
   case rd => simpa using hrk2
   case k => simp [Tm.cd_len]
   case cells => exact zl _ _ _
   case na => exact hown.away (by simp) hfk
   case bytes => omega
   case len => omega
   case base => simp; omega
   case next =>
    intro v' w4 hown4 hg hv' hs4; go_wp2_with fail; go_roundw
    case rel =>
     refine ⟨k + 1, fp ++ fk, by omega, by go_num, ?_, ?_, ?_⟩
     ·rw [zdz hlt, zdD]; simpa using hown4
     ·exact ((Fresh.app (hfr.below hbw) hfr.lt hz (hfk.mono (by simp))).below (za _ _)).same hs4
     ·exact zh ((hb.trans (hbw.mono hz)).alloc (by omega) _) hg (by simp; omega) (fun k hk => (hown.block hk).1)
    case measure => simp [intOf]; omega
  ·have he : xs.take k = xs := zdK (by omega)
   rw [he] at hown; go_wp2_with fail; go_ret; obtain ⟨fp', h1, h2, _⟩ := hown.fresh hfr; exact ⟨_, fp', rfl, h1, h2, hb⟩
theorem zbl (n : Nat) : ∀ (x : Tm) (vs : List Value) (fp : List Nat) (w : World), ndV x.cd ≤ n → wtV x.cd ≤ 1048576 → RdVs w x.cd vs fp → Calls Try.prog 77 #[.agg vs.toArray] w (zaI x.cd w) := by
 induction n with
 | zero => intro x vs fp w hn; have h : 0 < ndV x.cd := (by rw [Tm.cd_eq]; simp [ndV, ndC]; try omega); omega
 | succ n ih =>
  intro x vs fp w hn hbig hv
  have HK : Hid (∀ k ∈ x.K, ndV k.cd ≤ n) := fun k hk => by have := Tm.kid_nd hk; omega
  have IH := zdH ih; clear ih; obtain ⟨a1, c1, f1, rfl, -, m0, m1⟩ := Tm.open hv
  have hw : wtV x.cd = x.name.size + (x.K.length + wtR (x.K.map Tm.cd)) := by rw [Tm.cd_app]; simp only [zF, zay, zaj, zbz, zaZ]; try omega
  rw [hw] at hbig; clear hw hv; go_enter Try.func77, Try.ntmps77; go_wp2_with fail; refine (zaJ n IH.out x.K _ _ _ HK.out (by omega) (by exact m1.below (((zdT _ _).alloc (zdI _) _).alloc (by simp) _))).mono ?_; rintro e w1 ⟨kv1, g1, rfl, hr1, hf1, hb1⟩; have hbx : Below (w.heap.size + 1 + 1) _ w1 := zs hb1 (by simp); obtain ⟨ho1, hy1, hz1, hB1⟩ := box2 hbx; have fo1 : ∀ j, w1.frozen? ⟨w.heap.size, j, none⟩ = false := fun j => (zv hbx j).1; have fy1 : ∀ j, w1.frozen? ⟨w.heap.size + 1, j, none⟩ = false := fun j => (zv hbx j).2; clear hbx; have hf1 : Fresh (w.heap.size + 1 + 1) w1 g1 := hf1.mono (by simp); have hF1 := hf1; obtain ⟨b1, e1, rfl, _⟩ := zc hr1; clear hb1; go_upto_region 2 with (fail); have hoA := zt (b := w.heap.size) [(1, .slice b1 x.K.length e1)] ho1 (by simp); have hyA := zr (b' := w.heap.size) (by omega) [(1, .slice b1 x.K.length e1)] hy1; have fyA := zu (b' := w.heap.size) [(1, .slice b1 x.K.length e1)] fy1; have foA := zu (b' := w.heap.size) [(1, .slice b1 x.K.length e1)] fo1; have hLA := Loc.sets (b := w.heap.size) (lo := w.heap.size) (hi := w.heap.size + 1 + 1) (by omega) (by omega) [(1, .slice b1 x.K.length e1)] (Loc.refl _ _ w1); simp only [zV, zdt, zdu] at hoA; obtain ⟨wx, hwx⟩ : ∃ wx, wx = zg (w.heap.size) [(1, .slice b1 x.K.length e1)] w1 := ⟨_, rfl⟩
  change Code.wp _ _ _ _ (zg (w.heap.size) [(1, .slice b1 x.K.length e1)] w1)
  rw [← hwx] at hoA hyA fyA foA hLA ⊢; have hsA := hLA.size; clear hwx hy1 ho1 fy1 fo1; go_wp2_with fail; have hres := zt (b := w.heap.size + 1) [(0, .string x.name), (1, .slice b1 x.K.length e1)] hyA (by simp); have hL := Loc.sets (b := w.heap.size + 1) (by omega) (by omega) [(0, .string x.name), (1, .slice b1 x.K.length e1)] hLA; simp only [zg, zV, zdt, zdu] at hres hL; have hr1 := hr1.same _ (hL.same (w0 := w) hf1); have hfin := hF1.same (hL.same (w0 := w) hF1); refine bodyPost_ret (v := .agg #[.string x.name, .slice b1 x.K.length e1]) (by simp [results, Try.results77, go_sem, hres]) rfl ⟨[.string x.name, .slice b1 x.K.length e1], [] ++ g1, rfl, ?_, ?_, hB1.trans (hL.toBelow (by omega) (zdI _))⟩
  ·rw [Tm.cd_app]
   exact ((zbx m0).app (RdVs.single hr1))
  ·have hx := hfin.mono (lo' := w.heap.size) (by omega)
   simpa [List.append_assoc] using hx
theorem zbq (xs : List Tm) (v : Value) (fp0 : List Nat) (w : World) (hbig : xs.length + wtR (xs.map Tm.cd) ≤ 1048576) (hv : Rd w (.sl (xs.map Tm.cd)) v fp0) :
  Calls Try.prog 78 #[v] w (zbA (.sl (xs.map Tm.cd)) w) :=
 zaJ (ndR (xs.map Tm.cd)) (zbl _) xs v fp0 w (fun x hx => Nat.le_of_lt (zby (List.mem_map_of_mem hx))) hbig hv
theorem zbm (x : Tm) (vs : List Value) (fp : List Nat) (w : World) (hbig : wtV x.cd ≤ 1048576) (hv : RdVs w x.cd vs fp) :
  Calls Try.prog 77 #[.agg vs.toArray] w (zaI x.cd w) := zbl _ x vs fp w (zdI _) hbig hv
theorem zaK (n : Nat) (ih : ∀ (x : Fm) (vs : List Value) (fp : List Nat) (w : World), ndV x.cd ≤ n → wtV x.cd ≤ 1048576 → RdVs w x.cd vs fp → Calls Try.prog 19 #[.agg vs.toArray] w (zaI x.cd w))
  (xs : List Fm) (v : Value) (fp0 : List Nat) (w : World) (hn : ∀ x ∈ xs, ndV x.cd ≤ n) (hbig : xs.length + wtR (xs.map Fm.cd) ≤ 1048576) (hv : Rd w (.sl (xs.map Fm.cd)) v fp0) :
  Calls Try.prog 18 #[v] w (zbA (.sl (xs.map Fm.cd)) w) := by
 obtain ⟨a, cap, rfl, hc1, hc2⟩ := zc hv; have IH := zdH ih; have HN := zdH hn; clear ih hn; go_enter Try.func18, Try.ntmps18; go_wp2_with fail
 go_loopw [3, 9] (fun ov i wr => ∃ (k : Nat) (fp : List Nat), k ≤ xs.length ∧ i = .int .i64 k ∧ Own wr w.heap.size 37 12 ov ((xs.take k).map Fm.cd) fp ∧ Fresh w.heap.size wr fp ∧ Below w.heap.size w wr) (fun _ i _ => xs.length - (intOf i).toNat)
 case atStart => first | exact ⟨0, [], zdR _, rfl, Own.nil _ _ _ _, Fresh.nil _ _, zdT _ _⟩ | exact ⟨0, [], zdR _, rfl, by exact Own.empty _ _ _ _ (zdI _), Fresh.nil _ _, (zdT _ _).alloc (zdI _) _⟩
 case round =>
  obtain ⟨k, fp, hkl, rfl, hown, hfr, hb⟩ := hrel; have hz := hb.size
  by_cases hlt : k < xs.length
  ·obtain ⟨b, off, rfl, hbs, _⟩ := zo hv (by omega)
   obtain ⟨a3, c3, f3, a5, c5, f5, a6, c6, f6, a7, c7, f7, a11, c11, f11, d0, d1, d2, d3, d4, d5, d6, d7, d8, d9, d10, d11, m0, m1, m2, m3, m4, m5, m6, m7, m8, m9, _⟩ := Fm.at (hv.below hb) hlt
   have hbz : b < wr.heap.size := by omega
   have hle := zL Fm.cd xs (k + 1); rw [zK Fm.cd xs k hlt] at hle; go_wp2_with fail; refine (IH.out xs[k] _ _ _ (HN.out _ (zdB hlt)) (by omega) (by exact (Fm.close m0 m1 m2 m3 m4 m5 m6 m7 m8 m9).below ((zdT _ _).alloc (zdI _) _))).mono ?_; rintro e w2 ⟨kv, fk, rfl, hrk, hfk, hb2⟩; obtain ⟨b3, e3, g3, b5, e5, g5, b6, e6, g6, b7, e7, g7, b11, e11, g11, rfl, -, n0, n1, n2, n3, n4, n5, n6, n7, n8, n9⟩ := Fm.open hrk; have hbw : Below wr.heap.size wr w2 := ((zdT _ _).alloc (zdI _) _).trans (hb2.mono (by simp)); have hz2 := hbw.size; have hown2 := (hown.below (hbw.alloc hz2 (.cells (yTa xs[k] b3 e3 b5 e5 b6 e6 b7 e7 b11 e11) 37))); have hrk2 := hrk.below (za w2 (.cells (yTa xs[k] b3 e3 b5 e5 b6 e6 b7 e7 b11 e11) 37))
   have hl : ((xs.take k).map Fm.cd).length ≤ xs.length := by simp; omega
   go_wp2_with (at_builtin; refine zp zG rfl _ _ rfl w.heap.size _ _ _ rfl hown2 ⟨w2.heap.size, 0, none⟩ 1 1 [xs[k].cd] (yTl xs[k] b3 e3 b5 e5 b6 e6 b7 e7 b11 e11) fk rfl rfl ?rd ?k ?cells ?na ?bytes ?len ?base ?next)
   case rd => simpa using hrk2
   case k => simp [Fm.cd_len]
   case cells => exact zl _ _ _
   case na => exact hown.away (by simp) hfk
   case bytes => omega
   case len => omega
   case base => simp; omega
   case next =>
    intro v' w4 hown4 hg hv' hs4; go_wp2_with fail; go_roundw
    case rel =>
     refine ⟨k + 1, fp ++ fk, by omega, by go_num, ?_, ?_, ?_⟩
     ·rw [zdz hlt, zdD]; simpa using hown4
     ·exact ((Fresh.app (hfr.below hbw) hfr.lt hz (hfk.mono (by simp))).below (za _ _)).same hs4
     ·exact zh ((hb.trans (hbw.mono hz)).alloc (by omega) _) hg (by simp; omega) (fun k hk => (hown.block hk).1)
    case measure => simp [intOf]; omega
  ·have he : xs.take k = xs := zdK (by omega)
   rw [he] at hown; go_wp2_with fail; go_ret; obtain ⟨fp', h1, h2, _⟩ := hown.fresh hfr; exact ⟨_, fp', rfl, h1, h2, hb⟩
theorem zcX (n : Nat) (ih : ∀ (x : Fm) (vs : List Value) (fp : List Nat) (w : World), ndV x.cd ≤ n → wtV x.cd ≤ 1048576 → RdVs w x.cd vs fp → Calls Try.prog 17 #[.agg vs.toArray] w (zaI x.cd w))
  (xs : List Fm) (v : Value) (fp0 : List Nat) (w : World) (hn : ∀ x ∈ xs, ndV x.cd ≤ n) (hbig : xs.length + wtR (xs.map Fm.cd) ≤ 1048576) (hv : Rd w (.sl (xs.map Fm.cd)) v fp0) :
  Calls Try.prog 35 #[v] w (zbA (.sl (xs.map Fm.cd)) w) := by
 obtain ⟨a, cap, rfl, hc1, hc2⟩ := zc hv; have IH := zdH ih; have HN := zdH hn; clear ih hn; go_enter Try.func35, Try.ntmps35; go_wp2_with fail
 go_loopw [3, 8] (fun ov i wr => ∃ (k : Nat) (fp : List Nat), k ≤ xs.length ∧ i = .int .i64 k ∧ Own wr w.heap.size 37 12 ov ((xs.take k).map Fm.cd) fp ∧ Fresh w.heap.size wr fp ∧ Below w.heap.size w wr) (fun _ i _ => xs.length - (intOf i).toNat)
 case atStart => first | exact ⟨0, [], zdR _, rfl, Own.nil _ _ _ _, Fresh.nil _ _, zdT _ _⟩ | exact ⟨0, [], zdR _, rfl, by exact Own.empty _ _ _ _ (zdI _), Fresh.nil _ _, (zdT _ _).alloc (zdI _) _⟩
 case round =>
  obtain ⟨k, fp, hkl, rfl, hown, hfr, hb⟩ := hrel; have hz := hb.size
  by_cases hlt : k < xs.length
  ·obtain ⟨b, off, rfl, hbs, _⟩ := zo hv (by omega)
   obtain ⟨a3, c3, f3, a5, c5, f5, a6, c6, f6, a7, c7, f7, a11, c11, f11, d0, d1, d2, d3, d4, d5, d6, d7, d8, d9, d10, d11, m0, m1, m2, m3, m4, m5, m6, m7, m8, m9, _⟩ := Fm.at (hv.below hb) hlt
   have hbz : b < wr.heap.size := by omega
   have hle := zL Fm.cd xs (k + 1); rw [zK Fm.cd xs k hlt] at hle; go_wp2_with fail; refine (IH.out xs[k] _ _ _ (HN.out _ (zdB hlt)) (by omega) (by exact (Fm.close m0 m1 m2 m3 m4 m5 m6 m7 m8 m9).below ((zdT _ _).alloc (zdI _) _))).mono ?_; rintro e w2 ⟨kv, fk, rfl, hrk, hfk, hb2⟩; obtain ⟨b3, e3, g3, b5, e5, g5, b6, e6, g6, b7, e7, g7, b11, e11, g11, rfl, -, n0, n1, n2, n3, n4, n5, n6, n7, n8, n9⟩ := Fm.open hrk; have hbw : Below wr.heap.size wr w2 := ((zdT _ _).alloc (zdI _) _).trans (hb2.mono (by simp)); have hz2 := hbw.size; have hown2 := (hown.below (hbw.alloc hz2 (.cells (yTa xs[k] b3 e3 b5 e5 b6 e6 b7 e7 b11 e11) 37))); have hrk2 := hrk.below (za w2 (.cells (yTa xs[k] b3 e3 b5 e5 b6 e6 b7 e7 b11 e11) 37))
   have hl : ((xs.take k).map Fm.cd).length ≤ xs.length := by simp; omega
   go_wp2_with (at_builtin; refine zp zG rfl _ _ rfl w.heap.size _ _ _ rfl hown2 ⟨w2.heap.size, 0, none⟩ 1 1 [xs[k].cd] (yTl xs[k] b3 e3 b5 e5 b6 e6 b7 e7 b11 e11) fk rfl rfl ?rd ?k ?cells ?na ?bytes ?len ?base ?next)
   case rd => simpa using hrk2
   case k => simp [Fm.cd_len]
   case cells => exact zl _ _ _
   case na => exact hown.away (by simp) hfk
   case bytes => omega
   case len => omega
   case base => simp; omega
   case next =>
    intro v' w4 hown4 hg hv' hs4; go_wp2_with fail; go_roundw
    case rel =>
     refine ⟨k + 1, fp ++ fk, by omega, by go_num, ?_, ?_, ?_⟩
     ·rw [zdz hlt, zdD]; simpa using hown4
     ·exact ((Fresh.app (hfr.below hbw) hfr.lt hz (hfk.mono (by simp))).below (za _ _)).same hs4
     ·exact zh ((hb.trans (hbw.mono hz)).alloc (by omega) _) hg (by simp; omega) (fun k hk => (hown.block hk).1)
    case measure => simp [intOf]; omega
  ·have he : xs.take k = xs := zdK (by omega)
   rw [he] at hown; go_wp2_with fail; go_ret; obtain ⟨fp', h1, h2, _⟩ := hown.fresh hfr; exact ⟨_, fp', rfl, h1, h2, hb⟩
theorem za2 : ∀ (xs : List Int), NoFp (xs.map zm).flatten
 | [] => fun w vs f h => by simp only [List.map_nil, List.flatten_nil, RdVs] at h; exact h.2
 | x :: xs => NoFp.append nofp_int (za2 xs)
set_option maxRecDepth 100000 in
theorem zco (xs : List Int) (v : Value) (fp0 : List Nat) (w : World) (hbig : xs.length ≤ 1048576) (hv : Rd w (.sl (xs.map zm)) v fp0) :
  Calls Try.prog 58 #[v] w (zbA (.sl (xs.map zm)) w) := by
 obtain ⟨a, cap, rfl, hc1, hc2⟩ := zc hv
 cases a with
 | none =>
  have hx0 : xs = [] := by
   rcases Nat.eq_zero_or_pos xs.length with h | h
   ·exact List.eq_nil_of_length_eq_zero h
   ·obtain ⟨_, _, h2, _⟩ := zo hv h; simp at h2
  subst hx0; have hnil : ∀ (W : World) (n c : Nat), (binOp .eql 24 (.slice none n c) (.slice none 0 0)).run Try.prog W = .ok (.bool true) W := fun W n c => Lib.run_eql_slice_nil_nil W n c Try.underlying24; go_enter Try.func58, Try.ntmps58; go_wp2_with fail; go_ret; exact ⟨_, [], rfl, by simp only [List.map_nil, Rd]; exact ⟨none, 0, rfl, by simp, by simp [maxLen], by simp⟩, Fresh.nil _ _, zdT _ _⟩
 | some ad =>
  have hnil : ∀ (W : World) (n c : Nat), (binOp .eql 24 (.slice (some ad) n c) (.slice none 0 0)).run Try.prog W = .ok (.bool false) W := fun W n c => Lib.run_eql_slice_some_nil W ad n c Try.underlying24; go_enter Try.func58, Try.ntmps58; go_wp2_with (at_builtin; refine zaB zat rfl _ _ rfl w.heap.size _ [] [] rfl (Own.empty w w.heap.size _ _ (zdI _)) (xs.map zm) (.slice (some ad) xs.length cap) fp0 rfl (by exact hv.below (za _ _)) ?k ?na ?bytes ?len ?base ?next)
  case k => simp only [List.mem_map]; rintro e ⟨t, _, rfl⟩; exact zal t
  case na => intro b hb h; have h1 := hv.lt _ b hb; have h2 : w.heap.size = b := zdU h; omega
  case bytes => simp; omega
  case len => simp; omega
  case base => simp
  case next =>
   intro v' w4 nfp hnf hown4 hg hv' hs4; have hb4 := zh ((zdT w.heap.size w).alloc (zdI _) _) hg (by simp) (fun q hq => by have h2 : w.heap.size = q := zdU hq; omega)
   try simp only [List.nil_append] at hown4
   obtain rfl : nfp = [] := by obtain ⟨ys, _, h, _⟩ := hown4; exact za2 xs _ _ _ h
   clear hg hs4; go_wp2_with fail; go_ret; obtain ⟨fp', h1, h2, _⟩ := hown4.fresh (Fresh.nil _ _); exact ⟨_, fp', rfl, h1, h2, hb4⟩
end Go.Proofs.Ytbfinjiledfpcaa
