/- Parts of the proof: CopyL AtomC FormT FormU StkO. -/
import Derived.Test.YtbfinjiledfpcaaPa12
import Derived.Test.YtbfinjiledfpcaaPa15
import Derived.Test.YtbfinjiledfpcaaPa26
import Derived.Test.YtbfinjiledfpcaaPa33
import Derived.BigQuiet
import Derived.Lib.Hide
import Derived.Test.YtbfinjiledfpcaaPa29
import Derived.Deep.RegionHeld3
import Derived.Test.YtbfinjiledfpcaaPa28
section
namespace Go.Proofs.Ytbfinjiledfpcaa
open Go Go.RowKit
set_option linter.unusedVariables false
set_option linter.unusedSimpArgs false
set_option maxRecDepth 100000
set_option maxHeartbeats 16000000
theorem step_app0 {P : Program} {t e : TypeId} {z : Value} {k bytes : Nat} (hT : SlTy P t e z k bytes) {w : World} {ops : Array Oper} {o : Oper} {a : Act} {K : Act → World → Prop} {Q : Exit → Act → World → Prop} {E : Prop} (hgd : o.guard = none) (s x : Operand)
  (ho : o.op = .call { callee := .builtin .append, args := #[s, x], argTypes := #[t, t] }) (base ao : Option Addr) (n c c' : Nat) (hle : n ≤ c) (hs : a.eval s = .slice base n c) (hx : a.eval x = .slice ao 0 c')
  (h : K (a.put o.dst (.slice base n c)) w) : if Region.wanted o (yielded ops a.tmps) = true then Oper.wp P o a w K Q else E := by
 have hw : Region.wanted o (yielded ops a.tmps) = true := by simp [Region.wanted, hgd]
 rw [if_pos hw]; obtain ⟨i, hi, hz, hsz, hb⟩ := info_parts hT.info
 have hsrc : Src P i.size t (.slice ao 0 c') 0 [] w := by
  cases ao with
  | none => exact Src.ofNil _ hT.und c'
  | some ad => exact Src.ofSlice _ hT.und ad 0 c' [] (by simp) (fun j u h => by simp at h) (by simp)
 have hr := run_append_nothing (P := P) w t t o.type e i hT.und hi base n c hle _ hsrc; unfold Oper.wp execOp; simp only [ho, resolve, invoke, builtin, Sem.run_bind, Sem.run_pure, Result.andThen_ok, List.map_toArray, List.map_cons, List.map_nil, hs, hx, hr]; exact h
theorem zah {P : Program} {t e : TypeId} {z : Value} {k bytes : Nat} (hT : SlTy P t e z k bytes) {w : World} {ops : Array Oper} {o : Oper} {a : Act} {K : Act → World → Prop} {Q : Exit → Act → World → Prop} {E : Prop} (hgd : o.guard = none) (s x : Operand)
  (ho : o.op = .call { callee := .builtin .append, args := #[s, x], argTypes := #[t, t] })
  (base : Nat) (v : Value) (es : List (List CD)) (fp : List Nat) (hs : a.eval s = v) (hown : Own w base e k v es fp)
  (news : List (List CD)) (nv : Value) (nf : List Nat) (hx : a.eval x = nv) (hrd : Rd w (.sl news) nv nf) (hnk : ∀ x ∈ news, x.length = k) (hna : ∀ b ∈ nf, v.ownBlock ≠ some b)
  (hbytes : (es.length + news.length) * bytes ≤ 140737488355328) (hlen : es.length + news.length ≤ 140737488355328) (hbase : base ≤ w.heap.size)
  (h : ∀ v' w' nfp, (∀ b ∈ nfp, b ∈ nf) → Own w' base e k v' (es ++ news) (fp ++ nfp) → w.grownBy w' v.ownBlock → (∀ b, v'.ownBlock = some b → v.ownBlock = some b ∨ w.heap.size ≤ b) → K (a.put o.dst v') w') : if Region.wanted o (yielded ops a.tmps) = true then Oper.wp P o a w K Q else E := by
 obtain ⟨xa, xc, rfl, _, _⟩ := hrd.sl_form
 rcases Nat.eq_zero_or_pos news.length with hz | hne
 ·obtain rfl := List.eq_nil_of_length_eq_zero hz
  obtain ⟨va, vc, rfl, hv1, _⟩ := hown.form; refine step_app0 hT hgd s x ho va xa es.length vc xc hv1 hs hx ?_; exact h _ w [] (by simp) (by simpa using hown) (zaq _ _) (fun b hb => .inl hb)
 ·obtain ⟨b, off, f, rfl, hb, rfl, hr⟩ := hrd.addr hne
  obtain ⟨vs, hc, hvs⟩ := hr.flat
  exact zM hT hgd s x ho base v es fp hs hown ⟨b, off, none⟩ news.length xc news vs f hx rfl hvs hnk (fun j u hj => by simpa [Addr.add_lit] using hc j u hj) (fun y hy => hna y (by simp [hy])) hbytes hlen hbase
   (fun v' w' h1 h2 h3 h4 => h v' w' f (fun y hy => by simp [hy]) h1 h2 h3)
section
variable {P : Program} {ops : Array Oper} {Q : Exit → Act → World → Prop} {F : World → Prop} {s0 : Nat}
/-- What is to be shown of number i, if it comes up. -/
def Step (P : Program) (ops : Array Oper) (Q : Exit → Act → World → Prop) (F : World → Prop) (s0 n : Nat) (up : Array Bool) (a : Act) (w : World) (i : Nat) (o : Oper) : Prop :=
 ∀ K' : Act → World → Prop, Hid (∀ b u, ((up.setIfInBounds i true).getD s0 true = false → F u) → Till P ops Q F s0 n (up.setIfInBounds i true) b u → K' b u) → if Region.wanted o (yielded ops a.tmps) = true then Oper.wp P o a w K' Q else K' (a.put o.dst undef) w
theorem Step.op {i : Nat} {o : Oper} {n : Nat} {up : Array Bool} {a : Act} {w : World} (ho : ops[i]? = some o) (h : Step P ops Q F s0 n up a w i o) :
  wpOp P ops Q i (fun b u => ((up.setIfInBounds i true).getD s0 true = false → F u) ∧ Till P ops Q F s0 n (up.setIfInBounds i true) b u) a w :=
 wpOp_step ho fun K' hK => h K' (zdH fun b u h1 h2 => hK b u ⟨h1, h2⟩)
theorem Till.two {i j : Nat} {oi oj : Oper} {n : Nat} {up : Array Bool} {a : Act} {w : World} (hr : Region.ready .any ops up = [i, j]) (hi : ops[i]? = some oi) (hj : ops[j]? = some oj)
  (si : Step P ops Q F s0 n up a w i oi) (sj : Step P ops Q F s0 n up a w j oj) : Till P ops Q F s0 (n + 1) up a w := by
 refine ⟨fun h0 => (by rw [hr] at h0; cases h0), fun m hm => ?_⟩
 rw [hr] at hm; simp only [zdE, List.not_mem_nil, or_false] at hm
 rcases hm with rfl | rfl
 ·exact si.op hi
 ·exact sj.op hj
end
def CpF (x : Atm) (w : World) (a2 : Option Addr) (c2 : Nat) (a4 : Option Addr) (c4 : Nat) (a5 : Option Addr) (c5 : Nat) (a6 : Option Addr) (c6 : Nat) (U : World) : Prop := U.cell? ⟨w.heap.size, 0, none⟩ = some (.int .i64 x.kind) ∧ U.cell? ⟨w.heap.size, 1, none⟩ = some (.string x.a.name) ∧ U.cell? ⟨w.heap.size, 2, none⟩ = some (.slice a2 x.a.K.length c2) ∧ U.cell? ⟨w.heap.size, 3, none⟩ = some (.string x.b.name) ∧ U.cell? ⟨w.heap.size, 4, none⟩ = some (.slice a4 x.b.K.length c4) ∧ U.cell? ⟨w.heap.size, 5, none⟩ = some (.slice a5 x.N.length c5) ∧ U.cell? ⟨w.heap.size, 6, none⟩ = some (.slice a6 x.T.length c6) ∧ U.cell? ⟨w.heap.size, 7, none⟩ = some (.int .i64 x.O) ∧ U.cell? ⟨w.heap.size, 8, none⟩ = some (.bool x.C)
theorem CpF.keep {x : Atm} {w u u' : World} {a2 a4 a5 a6 : Option Addr} {c2 c4 c5 c6 : Nat} (hF : CpF x w a2 c2 a4 c4 a5 c5 a6 c6 u) (hb : Below u.heap.size u u') : CpF x w a2 c2 a4 c4 a5 c5 a6 c6 u' :=
 ⟨zb hF.1 hb, zb hF.2.1 hb, zb hF.2.2.1 hb, zb hF.2.2.2.1 hb, zb hF.2.2.2.2.1 hb, zb hF.2.2.2.2.2.1 hb, zb hF.2.2.2.2.2.2.1 hb, zb hF.2.2.2.2.2.2.2.1 hb, zb hF.2.2.2.2.2.2.2.2 hb⟩
theorem CpF.same {x : Atm} {w u u' : World} {a2 a4 a5 a6 : Option Addr} {c2 c4 c5 c6 : Nat} (hF : CpF x w a2 c2 a4 c4 a5 c5 a6 c6 u) (h : u'.heap[w.heap.size]? = u.heap[w.heap.size]?) : CpF x w a2 c2 a4 c4 a5 c5 a6 c6 u' :=
 ⟨zq h hF.1, zq h hF.2.1, zq h hF.2.2.1, zq h hF.2.2.2.1, zq h hF.2.2.2.2.1, zq h hF.2.2.2.2.2.1, zq h hF.2.2.2.2.2.2.1, zq h hF.2.2.2.2.2.2.2.1, zq h hF.2.2.2.2.2.2.2.2⟩
theorem zcw (x : Atm) (l : List Atm) (v : Value) (vs : List Value) (g f : List Nat) (w : World) (hl : Rd w (.sl (l.map Atm.cd)) v g) (hx : RdVs w x.cd vs f) :
  Calls Try.prog 82 #[v, .agg vs.toArray] w fun e w' => (∃ n, e = .returned (.int .i64 n) ∧ FirstOf (fun y => eqV y.cd x.cd) l n) ∧ Below w.heap.size w w' := by
 obtain ⟨a, cap, rfl, hc1, hc2⟩ := zc hl; obtain ⟨a2, c2, f2, a4, c4, f4, a5, c5, f5, a6, c6, f6, rfl, -, m0, m1, m2, m3, m4, m5, m6, m7⟩ := Atm.open hx; go_enter Try.func82, Try.ntmps82; go_wp2_with fail
 go_loopw [5] (fun i wr => ∃ k : Nat, k ≤ l.length ∧ i = .int .i64 k ∧ Hid ((l.take k).all (fun t => !eqV t.cd x.cd) = true) ∧ Below (w.heap.size + 1) (w.alloc (.cells (yNa x a2 c2 a4 c4 a5 c5 a6 c6) 33)) wr) (fun i _ => l.length - (intOf i).toNat)
 case atStart => exact ⟨0, zdR _, rfl, zdH (by simp), zdT _ _⟩
 case round =>
  obtain ⟨k, hkl, rfl, hall, hbx⟩ := hrel; obtain ⟨hx', hz1, hb⟩ := box1 (w := w) (wr := wr) (cs := (yNa x a2 c2 a4 c4 a5 c5 a6 c6)) (T := 33) hbx; obtain ⟨C0, C1, C2, C3, C4, C5, C6, C7, C8⟩ := yQ9 hx'; simp only [zdx, zdv, zdw] at C0 C1 C2 C3 C4 C5 C6 C7 C8; have hz := hb.size
  by_cases hlt : k < l.length
  ·obtain ⟨b, off, rfl, hbs, _⟩ := zo hl (by omega)
   have hbx0 := zdH hbx; have HX : Hid (RdVs wr x.cd (yNl x a2 c2 a4 c4 a5 c5 a6 c6) (f2 ++ (f4 ++ (f5 ++ f6)))) := zdH ((Atm.close m0 m1 m2 m3 m4 m5 m6 m7) |>.below hb); obtain ⟨a2y, c2y, f2y, a4y, c4y, f4y, a5y, c5y, f5y, a6y, c6y, f6y, d0y, d1y, d2y, d3y, d4y, d5y, d6y, d7y, d8y, n0y, n1y, n2y, n3y, n4y, n5y, n6y, n7y, hsuby⟩ := Atm.at (hl.below hb) hlt; have HY := zdH (Atm.close n0y n1y n2y n3y n4y n5y n6y n7y)
   have hbz : b < wr.heap.size := by omega
   clear hx' hbx; go_wp2_with fail; have qC0 := cell_regrown C0; have qC1 := cell_regrown C1; have qC2 := cell_regrown C2; have qC3 := cell_regrown C3; have qC4 := cell_regrown C4; have qC5 := cell_regrown C5; have qC6 := cell_regrown C6; have qC7 := cell_regrown C7; have qC8 := cell_regrown C8; have qd0y := cell_regrown d0y; have qd1y := cell_regrown d1y; have qd2y := cell_regrown d2y; have qd3y := cell_regrown d3y; have qd4y := cell_regrown d4y; have qd5y := cell_regrown d5y; have qd6y := cell_regrown d6y; have qd7y := cell_regrown d7y; have qd8y := cell_regrown d8y; clear C0 C1 C2 C3 C4 C5 C6 C7 C8 d0y d1y d2y d3y d4y d5y d6y d7y d8y; refine wp_region_quiet_below (by kernel_rfl) (by kernel_rfl) ?_
   repeat (quiet_step (first | (go_at_call 51; with_reducible refine zdL (zbN l[k] x _ _ _ _ _ (HY.out.below (below_regrown _ _ _)) (HX.out.below (below_regrown _ _ _))))))
   refine wpQuiet_nil ?_; intro w2 hw2; obtain ⟨⟨dq, osq⟩, hw2⟩ := hw2; have hbq : Below (wr).heap.size (wr) w2 := hw2 ▸ below_regrown (wr) dq osq; clear hw2 qC0 qC1 qC2 qC3 qC4 qC5 qC6 qC7 qC8 qd0y qd1y qd2y qd3y qd4y qd5y qd6y qd7y qd8y; have hbx : Below (w.heap.size + 1) (w.alloc (.cells (yNa x a2 c2 a4 c4 a5 c5 a6 c6) 33)) w2 := hbx0.out.trans (hbq.mono (by omega))
   cases he : eqV l[k].cd x.cd
   ·have HE := zdH (FirstOf.succ hlt hall.out he)
    clear he; go_wp2_with fail; go_roundw
    case rel => exact ⟨k + 1, by omega, by go_num, HE, hbx⟩
    case measure => simp [intOf]; omega
   ·have HE : Hid (FirstOf (fun y => eqV y.cd x.cd) l (k : Int)) := zdH (.inr ⟨k, hlt, rfl, he, hall.out⟩)
    clear he; go_wp2_with fail; go_ret; exact ⟨⟨k, rfl, HE.out⟩, hb.trans (hbq.mono hz)⟩
  ·have HE : Hid (FirstOf (fun y => eqV y.cd x.cd) l (-1)) := zdH (.inl ⟨rfl, by have := hall.out; rwa [zdK (by omega)] at this⟩)
   go_wp2_with fail; go_ret; exact ⟨⟨-1, rfl, HE.out⟩, hb⟩
def addA (l : List Atm) (x : Atm) : List Atm := if hasA l x = true then l else l ++ [x]
theorem addA_yes {l : List Atm} {x : Atm} (h : hasA l x = true) : addA l x = l := if_pos h
theorem addA_no {l : List Atm} {x : Atm} (h : hasA l x = false) : addA l x = l ++ [x] := by unfold addA; rw [h]; rfl
def AtmOut (l' : List Atm) (base : Nat) (lv : Value) (fp f : List Nat) (w : World) (e : Ending) (w' : World) : Prop :=
 ∃ lv' fp', e = .returned lv' ∧ Own w' base 33 9 lv' (l'.map Atm.cd) fp' ∧ (∀ y ∈ fp', y ∈ fp ∨ y ∈ f) ∧ Moved w lv w' lv'
theorem za9 (x : Atm) (l : List Atm) (lv : Value) (vs : List Value) (fp f : List Nat) (base : Nat) (w : World) (hbase : base ≤ w.heap.size) (hlen : l.length ≤ 1000000000) (hown : Own w base 33 9 lv (l.map Atm.cd) fp) (hx : RdVs w x.cd vs f) (hna : ∀ y ∈ f, lv.ownBlock ≠ some y) :
  Calls Try.prog 64 #[lv, .agg vs.toArray] w (AtmOut (addA l x) base lv fp f w) := by
 obtain ⟨a2, c2, f2, a4, c4, f4, a5, c5, f5, a6, c6, f6, rfl, rfl, m0, m1, m2, m3, m4, m5, m6, m7⟩ := Atm.open hx; have hat := Atm.close m0 m1 m2 m3 m4 m5 m6 m7; have hff := hat; have hba := za w (.cells (yNa x a2 c2 a4 c4 a5 c5 a6 c6) 33); obtain ⟨fpr, hrd⟩ := hown.rd'; obtain ⟨la, lc, hlv, hl1, hl2⟩ := hown.form; rw [zdF] at hlv hl1; subst hlv; go_enter Try.func64, Try.ntmps64; go_wp2_with fail; refine (zcw x l _ _ _ _ _ (hrd.below hba) (by exact hat.below hba)).mono ?_; rintro e w1 ⟨⟨q, rfl, hq⟩, hb1⟩; obtain ⟨hx', hz1, hB⟩ := box1 (w := w) (wr := w1) (cs := (yNa x a2 c2 a4 c4 a5 c5 a6 c6)) (T := 33) (zs hb1 (by simp)); obtain ⟨C0, C1, C2, C3, C4, C5, C6, C7, C8⟩ := yQ9 hx'; simp only [zdx, zdv, zdw] at C0 C1 C2 C3 C4 C5 C6 C7 C8; clear hb1 hx'; have hbd := hq.bd; have HNEG := zdH hq.neg; clear hq hrd
 by_cases hq0 : q < 0
 ·have HE := zdH (addA_no (HNEG.out.1 hq0))
  have hown3 := hown.below (hB.alloc hB.size (.cells (yNa x a2 c2 a4 c4 a5 c5 a6 c6) 33)); have hr3' := (hat.below hB).below (za w1 (.cells (yNa x a2 c2 a4 c4 a5 c5 a6 c6) 33)); have hzB := hB.size; go_wp2_with (at_builtin; refine zp zai rfl _ _ rfl base _ _ _ rfl hown3 ⟨w1.heap.size, 0, none⟩ 1 1 [x.cd] (yNl x a2 c2 a4 c4 a5 c5 a6 c6) (f2 ++ (f4 ++ (f5 ++ f6))) rfl rfl ?rd ?k ?cells ?na ?bytes ?len ?base ?next)
  case rd => simpa using hr3'
  case k => simp [Atm.cd_len]
  case cells => exact zl _ _ _
  case na => exact hna
  case bytes => (try rw [zdF]); (try simp); omega
  case len => (try rw [zdF]); (try simp); omega
  case base => simp; omega
  case next =>
   intro v' w4 hown4 hg hv' hs4; go_wp2_with fail; go_ret; exact ⟨v', _, rfl, by rw [HE.out]; simpa using hown4, fun y hy => zdA.1 hy, Moved.after (hB.alloc hB.size _) ⟨hg, by simpa using hv'⟩⟩
 ·have HE := zdH (show addA l x = l by
   cases hh : hasA l x
   ·exact absurd (HNEG.out.2 hh) hq0
   ·exact addA_yes hh)
  have hown3 := hown.below hB; go_wp2_with fail; go_ret; exact ⟨_, fp, rfl, by rw [HE.out]; exact hown3, fun y hy => .inl hy, Moved.after hB (Moved.refl _ _)⟩
theorem l9Atoms_n (n : Nat) : ∀ (f : Fm) (l : List Atm) (vs : List Value) (ff : List Nat) (lv : Value) (fp : List Nat) (base : Nat) (w : World), ndV f.cd ≤ n → wtV f.cd ≤ 1048576 → l.length + wtV f.cd ≤ 1000000000 → base ≤ w.heap.size →
   Own w base 33 9 lv (l.map Atm.cd) fp → RdVs w f.cd vs ff → (∀ y ∈ ff, lv.ownBlock ≠ some y) →
  Calls Try.prog 55 #[lv, .agg vs.toArray] w fun e w' => ∃ lv' fp', e = .returned lv' ∧ Own w' base 33 9 lv' ((Fm.tell l f).map Atm.cd) fp' ∧ (∀ y ∈ fp', y ∈ fp ∨ y ∈ ff) ∧ Moved w lv w' lv' := by
 induction n with
 | zero =>
  intro f l vs ff lv fp base w hn; have h : 0 < ndV f.cd := by rw [Fm.cd_eq]; simp [ndV, ndC]; try omega
  omega
 | succ n ih =>
 intro f l vs ff lv fp base w hn hbig hsum hbase hown0 hv hna0
 have HN : Hid (∀ k ∈ f.K, ndV k.cd ≤ n) := fun k hk => by have := Fm.kid_nd hk; omega
 have IH := zdH ih; clear ih; obtain ⟨a3, c3, f3, a5, c5, f5, a6, c6, f6, a7, c7, f7, a11, c11, f11, rfl, hff, m0, m1, m2, m3, m4, m5, m6, m7, m8, m9⟩ := Fm.open hv; have HFF := zdH hff; clear hv hff; have hat := Atm.close (x := f.L.M) m1 m2 m3 m4 m5 m6 m7 m8; have hw := Nat.le_of_eq (Fm.wt_eq f).symm; have hba := za w (.cells (yTa f a3 c3 a5 c5 a6 c6 a7 c7 a11 c11) 37); have hp := zD w (yTa f a3 c3 a5 c5 a6 c6 a7 c7 a11 c11) 37; have hown := hown0.below hba; have HOB : Hid (∀ b, lv.ownBlock = some b → b < w.heap.size) := zdH fun b hb => (hown0.block hb).2; clear hown0; have hk := m9.below hba; have hna : ∀ y ∈ f11, lv.ownBlock ≠ some y := fun y hy => hna0 y (by rw [HFF.out]; simp [hy]); have hE := Fm.tell_eq l f; obtain ⟨la, lc, hlv, hl1, hl2⟩ := hown.form; rw [zdF] at hlv hl1; subst hlv
 by_cases k1 : f.kind = 1
 ·have tk : (f.kind == 1) = true := by simp [k1]
  rw [if_pos k1] at hE; have HE := zdH hE; clear hE k1; go_enter Try.func55, Try.ntmps55; go_wp2_with fail; refine (za9 f.L.M l _ _ _ _ base _ (by simp; omega) (by omega) hown (by exact hat.below hba) (fun y hy => hna0 y (by rw [HFF.out]; simp only [zdA] at hy ⊢; rcases hy with h | h | h | h <;> simp [h]))).mono ?_; rintro e w1 ⟨lv1, fp1, rfl, hown1, hsub1, hm1⟩; go_wp2_with fail; go_ret; refine ⟨_, _, rfl, by rw [HE.out]; exact hown1, fun y hy => ?_, Moved.after hba hm1⟩
  rcases hsub1 y hy with h | h
  ·exact .inl h
  ·right; rw [HFF.out]; simp only [zdA] at h ⊢; rcases h with h | h | h | h <;> simp [h]
 ·have tk : (f.kind == 1) = false := by simp [k1]
  rw [if_neg k1] at hE; have HE := zdH hE; clear hE k1; go_enter Try.func55, Try.ntmps55; go_wp2_with fail
  go_loopw [0, 5] (fun ov i wr => ∃ (k : Nat) (fq : List Nat), k ≤ f.K.length ∧ i = .int .i64 k ∧ Own wr base 33 9 ov ((Fm.tells l (f.K.take k)).map Atm.cd) fq ∧ Hid (∀ y ∈ fq, y ∈ fp ∨ y ∈ f11) ∧ Moved (w.alloc (.cells (yTa f a3 c3 a5 c5 a6 c6 a7 c7 a11 c11) 37)) (.slice la l.length lc) wr ov) (fun _ i _ => f.K.length - (intOf i).toNat)
  case atStart => exact ⟨0, fp, zdR _, rfl, hown, zdH fun y hy => .inl hy, Moved.refl _ _⟩
  case round =>
   clear hown; obtain ⟨k, fq, hkl, rfl, hown, hsub, hm⟩ := hrel; have hz := zdS hba.size hm.size; have hp' := fun j => zbv hm HOB.out j; have C0 := hp' 0; have C11 := hp' 11; simp only [zdx, zdv, zdw] at C0 C11; clear hp'; have hln := Fm.tells_len (f.K.take k) l; have hle := zL Fm.cd f.K k; rw [← List.map_take] at hle
   have hlk : (f.K.take k).length ≤ k := by simp; omega
   by_cases hlt : k < f.K.length
   ·have hkr := hk.same _ (hm.same (hk.lt _) hna)
    have hka := hm.away (hk.lt _) hna; obtain ⟨b, off, rfl, hbs, _⟩ := zo hk (by omega); obtain ⟨b3, e3, g3, b5, e5, g5, b6, e6, g6, b7, e7, g7, b11, e11, g11, d0, d1, d2, d3, d4, d5, d6, d7, d8, d9, d10, d11, n0, n1, n2, n3, n4, n5, n6, n7, n8, n9, hsb⟩ := Fm.at hkr hlt; have hbz : b < wr.heap.size := zdy hbs hm.size; have hle2 := zL Fm.cd f.K (k + 1); rw [zK Fm.cd f.K k hlt, ← List.map_take] at hle2; go_wp2_with fail; refine (IH.out f.K[k] (Fm.tells l (f.K.take k)) _ _ _ fq base _ (HN.out _ (zdB hlt)) (by omega) (by omega) (by omega) hown (by exact (Fm.close n0 n1 n2 n3 n4 n5 n6 n7 n8 n9)) (fun y hy => hka y (hsb y hy))).mono ?_; rintro e w2 ⟨lv2, fp2, rfl, hown2, hsub2, hm2⟩; go_wp2_with fail; go_roundw
    case rel => exact ⟨k + 1, fp2, by omega, by go_num, by rw [Fm.tells_succ _ _ _ hlt]; exact hown2, zdH fun y hy => (hsub2 y hy).elim (fun h => hsub.out y h) (fun h => .inr (hsb y h)), hm.trans hm2⟩
    case measure => simp [intOf]; omega
   ·have he : f.K.take k = f.K := zdK (by omega)
    rw [he] at hown; go_wp2_with fail; go_ret; exact ⟨_, fq, rfl, by rw [HE.out]; exact hown, fun y hy => (hsub.out y hy).elim .inl (fun h => .inr (by rw [HFF.out]; simp [h])), Moved.after hba hm⟩
theorem zcx (f : Fm) (vs : List Value) (ff : List Nat) (w : World) (hbig : wtV f.cd ≤ 1048576) (hv : RdVs w f.cd vs ff) :
  Calls Try.prog 33 #[.agg vs.toArray] w fun e w' => e = .returned (.bool f.okF) ∧ Below w.heap.size w w' := by
 rw [Fm.okF_right]; have hv0 := hv; obtain ⟨a3, c3, f3, a5, c5, f5, a6, c6, f6, a7, c7, f7, a11, c11, f11, rfl, -, m0, m1, m2, m3, m4, m5, m6, m7, m8, m9⟩ := Fm.open hv; clear hv; have hln := Fm.tell_len f []; have hmn := Fm.many_le f 5; go_enter Try.func33, Try.ntmps33; go_wp2_with fail; refine (l9Shape_n _ f 5 _ _ _ (zdI _) hbig (by omega) (by omega) (by exact hv0.below (za _ _))).mono ?_; rintro e w1 ⟨rfl, hb1⟩; have HBX := zdH (zs (n := w.heap.size + 1) hb1 (by simp)); obtain ⟨hx, hz1, hB⟩ := box1 (w := w) (wr := w1) (cs := (yTa f a3 c3 a5 c5 a6 c6 a7 c7 a11 c11)) (T := 37) (zs hb1 (by simp)); obtain ⟨C0, C1, C2, C3, C4, C5, C6, C7, C8, C9, C10, C11⟩ := yQ12 hx; simp only [zdx, zdv, zdw] at C0 C1 C2 C3 C4 C5 C6 C7 C8 C9 C10 C11; clear hb1 hx; have h55 : (5 : Int).toNat = 5 := rfl; rw [h55]; clear h55
 cases hsh : Fm.shape 5 f
 ·have HE := zdH (show f.rightF = false by unfold Fm.rightF; simp [hsh])
  clear hsh; go_wp2_with fail; go_ret; exact ⟨retB HE.out.symm, hB⟩
 ·go_wp2_with fail
  refine (l9Many_n _ f 5 _ _ _ (zdI _) hbig (by omega) (by omega) (by exact hv0.below hB)).mono ?_; rintro e w2 ⟨rfl, hb2⟩; obtain ⟨hx, hz2, hB2⟩ := box1 (w := w) (wr := w2) (cs := (yTa f a3 c3 a5 c5 a6 c6 a7 c7 a11 c11)) (T := 37) (HBX.out.trans (hb2.mono (by omega))); clear C0 C1 C2 C3 C4 C5 C6 C7 C8 C9 C10 C11; obtain ⟨C0, C1, C2, C3, C4, C5, C6, C7, C8, C9, C10, C11⟩ := yQ12 hx; simp only [zdx, zdv, zdw] at C0 C1 C2 C3 C4 C5 C6 C7 C8 C9 C10 C11; have h55 : (5 : Int).toNat = 5 := rfl; rw [h55]; clear h55 hx hB
  by_cases h1 : Fm.many 5 f ≤ 10
  ·have HE0 := zdH (show f.rightF = decide (((Fm.tell [] f).length : Int) ≤ 6) by unfold Fm.rightF; rw [Bool.eq_iff_iff]; simp [hsh, h1]; try omega)
   clear hsh; go_wp2_with fail; refine (l9Atoms_n _ f [] _ _ (.slice none 0 0) [] w2.heap.size _ (zdI _) hbig (by simp; omega) (zdI _) (Own.nil _ _ _ _) (by exact hv0.below hB2) (by simp [Value.ownBlock])).mono ?_; rintro e w3 ⟨lv, fp, rfl, hown, _, hm⟩; obtain ⟨la, lc, rfl, _, _⟩ := hown.form; have hB3 := hB2.trans (hm.toBelow (B := w.heap.size) (by omega) (by simp [Value.ownBlock])); rw [zdF]; clear hm hown; go_wp2_with fail; go_ret; exact ⟨retB HE0.out.symm, hB3⟩
  ·have HE := zdH (show f.rightF = false by unfold Fm.rightF; simp [h1])
   clear hsh; go_wp2_with fail; go_ret; exact ⟨retB HE.out.symm, hB2⟩
end Go.Proofs.Ytbfinjiledfpcaa
end
/- Well-formed forms in a language: both sides. -/
namespace Go.Proofs.Ytbfinjiledfpcaa
open Go Go.RowKit
set_option linter.unusedVariables false
set_option linter.unusedSimpArgs false
def zdl (x : Atm) : Lt := ⟨x, false⟩
def zae (l : List Atm) : List Lt := l.map zdl
theorem zcC (l : List Atm) (k : Nat) (h : k < l.length) : zae (l.take (k + 1)) = zae (l.take k) ++ [zdl l[k]] := by
 unfold zae; rw [zdz h, zdD]; rfl
set_option maxRecDepth 100000 in
set_option maxHeartbeats 1000000 in
theorem zbd (l : List Atm) (v : Value) (g : List Nat) (w : World) (hlen : l.length ≤ 1000000000) (hv : Rd w (.sl (l.map Atm.cd)) v g) :
  Calls Try.prog 63 #[v] w fun e w' => (∃ rv rf, e = .returned rv ∧ Rd w' (.sl ((zae l).map Lt.cd)) rv rf) ∧ Below w.heap.size w w' := by
 obtain ⟨a, cap, rfl, hc1, hc2⟩ := zc hv; have hfl := hv.lt _; go_enter Try.func63, Try.ntmps63; go_wp2_with fail
 go_loopw [3, 4] (fun ov i wr => ∃ (k : Nat) (fp : List Nat), k ≤ l.length ∧ i = .int .i64 k ∧ Own wr w.heap.size 35 10 ov ((zae (l.take k)).map Lt.cd) fp ∧ Below w.heap.size w wr) (fun _ i _ => l.length - (intOf i).toNat)
 case atStart => exact ⟨0, [], zdR _, rfl, Own.empty _ _ _ _ (zdI _), za _ _⟩
 case round =>
  obtain ⟨k, fp, hkl, rfl, hown, hb⟩ := hrel; have hz := hb.size
  by_cases hlt : k < l.length
  ·obtain ⟨b, off, rfl, hbs, _⟩ := zo hv (by omega)
   have hbz : b < wr.heap.size := by omega
   obtain ⟨a2, c2, f2, a4, c4, f4, a5, c5, f5, a6, c6, f6, d0, d1, d2, d3, d4, d5, d6, d7, d8, n0, n1, n2, n3, n4, n5, n6, n7, hsub⟩ := Atm.at (hv.below hb) hlt; have hBA : Below wr.heap.size wr (wr.alloc (.cells #[.int .i64 l[k].kind, .string l[k].a.name, .slice a2 l[k].a.K.length c2, .string l[k].b.name, .slice a4 l[k].b.K.length c4, .slice a5 l[k].N.length c5, .slice a6 l[k].T.length c6, .int .i64 l[k].O, .bool l[k].C, .bool false] 35)) := za _ _; have hB2 := hb.trans (hBA.mono hz)
   have hl : ((zae (l.take k)).map Lt.cd).length = k := by simp [zae]; omega
   have hnews : RdVs wr [(zdl l[k]).cd].flatten [.int .i64 l[k].kind, .string l[k].a.name, .slice a2 l[k].a.K.length c2, .string l[k].b.name, .slice a4 l[k].b.K.length c4, .slice a5 l[k].N.length c5, .slice a6 l[k].T.length c6, .int .i64 l[k].O, .bool l[k].C, .bool false] (f2 ++ (f4 ++ (f5 ++ f6))) := by
    have := Lt.close (x := zdl l[k]) n0 n1 n2 n3 n4 n5 n6 n7
    simpa [zdl] using this
   have hne : ∀ y ∈ f2 ++ (f4 ++ (f5 ++ f6)), u3.ownBlock ≠ some y := fun y hy e => by have h1 := (hown.block e).1; have h2 := hfl y (hsub y hy); omega
   have HT := zdH (zcC l k hlt); go_wp2_with (at_builtin; refine zp slTyLitS rfl _ _ rfl w.heap.size _ _ _ rfl (hown.below hBA) ⟨wr.heap.size, 0, none⟩ 1 1 [(zdl l[k]).cd] [.int .i64 l[k].kind, .string l[k].a.name, .slice a2 l[k].a.K.length c2, .string l[k].b.name, .slice a4 l[k].b.K.length c4, .slice a5 l[k].N.length c5, .slice a6 l[k].T.length c6, .int .i64 l[k].O, .bool l[k].C, .bool false] (f2 ++ (f4 ++ (f5 ++ f6))) rfl rfl (hnews.below hBA) ?k ?cells ?na ?bytes ?len ?base ?next)
   case k => simp [Lt.cd, Atm.cd_len]
   case cells =>
    intro j u hj; have := zl wr [.int .i64 l[k].kind, .string l[k].a.name, .slice a2 l[k].a.K.length c2, .string l[k].b.name, .slice a4 l[k].b.K.length c4, .slice a5 l[k].N.length c5, .slice a6 l[k].T.length c6, .int .i64 l[k].O, .bool l[k].C, .bool false] 35 j u hj
    simpa using this
   case na => exact hne
   case bytes => rw [hl]; omega
   case len => rw [hl]; omega
   case base => simp; omega
   case next =>
    intro v' w4 hown4 hg hv' hs4; have hb4 := zh hB2 hg (by simp; omega) (fun q hq => (hown.block hq).1); clear hl; go_wp2_with fail; go_roundw
    case rel =>
     refine ⟨k + 1, fp ++ (f2 ++ (f4 ++ (f5 ++ f6))), by omega, by go_num, ?_, hb4⟩; rw [HT.out, zdD]; exact hown4
    case measure => simp [intOf]; omega
  ·have he : l.take k = l := zdK (by omega)
   rw [he] at hown; obtain ⟨oa, on, oc, rfl⟩ := hown.form'; obtain ⟨fp', hr⟩ := hown.rd'; clear he; go_wp2_with fail; go_ret; exact ⟨⟨_, fp', rfl, hr⟩, hb⟩
end Go.Proofs.Ytbfinjiledfpcaa
/- StackOk: both sides. -/
namespace Go.Proofs.Ytbfinjiledfpcaa
open Go Go.RowKit
set_option linter.unusedVariables false
set_option linter.unusedSimpArgs false
end Go.Proofs.Ytbfinjiledfpcaa
/- The reference's copies of forms. -/
namespace Go.Proofs.Ytbfinjiledfpcaa
open Go Go.RowKit
set_option linter.unusedVariables false
set_option linter.unusedSimpArgs false
end Go.Proofs.Ytbfinjiledfpcaa
