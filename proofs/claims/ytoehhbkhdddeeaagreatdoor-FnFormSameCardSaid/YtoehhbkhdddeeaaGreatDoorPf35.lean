/- Parts of the proof: CopyL FormB FormS AtomC FormT FormU StkO. -/
import Derived.Test.YtoehhbkhdddeeaaGreatDoorPf7
import Derived.Test.YtoehhbkhdddeeaaGreatDoorPf11
import Derived.Test.YtoehhbkhdddeeaaGreatDoorPf28
import Derived.Test.YtoehhbkhdddeeaaGreatDoorPf32
import Derived.BigQuiet
import Derived.Test.YtoehhbkhdddeeaaGreatDoorPf30
import Derived.Test.YtoehhbkhdddeeaaGreatDoorPf17
import Derived.Test.YtoehhbkhdddeeaaGreatDoorPf27
import Derived.Lib.Hide
import Derived.Test.YtoehhbkhdddeeaaGreatDoorPf34
import Derived.Deep.RegionHeld3
section
namespace Go.Proofs.YtoehhbkhdddeeaaGreatDoor
open Go Go.RowKit
set_option linter.unusedVariables false
set_option linter.unusedSimpArgs false
set_option maxRecDepth 100000
set_option maxHeartbeats 16000000
theorem step_app0 {P : Program} {t e : TypeId} {z : Value} {k bytes : Nat} (hT : SlTy P t e z k bytes) {w : World} {ops : Array Oper} {o : Oper} {a : Act} {K : Act → World → Prop} {Q : Exit → Act → World → Prop} {E : Prop} (hgd : o.guard = none) (s x : Operand)
  (ho : o.op = .call { callee := .builtin .append, args := #[s, x], argTypes := #[t, t] }) (base ao : Option Addr) (n c c' : Nat) (hle : n ≤ c) (hs : a.eval s = .slice base n c) (hx : a.eval x = .slice ao 0 c')
  (h : K (a.put o.dst (.slice base n c)) w) : if Region.wanted o (yielded ops a.tmps) = true then Oper.wp P o a w K Q else E := by
 have hw : Region.wanted o (yielded ops a.tmps) = true := by simp [Region.wanted, hgd]
 rw [if_pos hw]
 obtain ⟨i, hi, hz, hsz, hb⟩ := info_parts hT.info
 have hsrc : Src P i.size t (.slice ao 0 c') 0 [] w := by
  cases ao with
  | none => exact Src.ofNil _ hT.und c'
  | some ad => exact Src.ofSlice _ hT.und ad 0 c' [] (by simp) (fun j u h => by simp at h) (by simp)
 have hr := run_append_nothing (P := P) w t t o.type e i hT.und hi base n c hle _ hsrc
 unfold Oper.wp execOp
 simp only [ho, resolve, invoke, builtin, Sem.run_bind, Sem.run_pure, Result.andThen_ok, List.map_toArray, List.map_cons, List.map_nil, hs, hx, hr]
 exact h
theorem zaf {P : Program} {t e : TypeId} {z : Value} {k bytes : Nat} (hT : SlTy P t e z k bytes) {w : World} {ops : Array Oper} {o : Oper} {a : Act} {K : Act → World → Prop} {Q : Exit → Act → World → Prop} {E : Prop} (hgd : o.guard = none) (s x : Operand)
  (ho : o.op = .call { callee := .builtin .append, args := #[s, x], argTypes := #[t, t] })
  (base : Nat) (v : Value) (es : List (List CD)) (fp : List Nat) (hs : a.eval s = v) (hown : Own w base e k v es fp)
  (news : List (List CD)) (nv : Value) (nf : List Nat) (hx : a.eval x = nv) (hrd : Rd w (.sl news) nv nf) (hnk : ∀ x ∈ news, x.length = k) (hna : ∀ b ∈ nf, v.ownBlock ≠ some b)
  (hbytes : (es.length + news.length) * bytes ≤ 140737488355328) (hlen : es.length + news.length ≤ 140737488355328) (hbase : base ≤ w.heap.size)
  (h : ∀ v' w' nfp, (∀ b ∈ nfp, b ∈ nf) → Own w' base e k v' (es ++ news) (fp ++ nfp) → w.grownBy w' v.ownBlock → (∀ b, v'.ownBlock = some b → v.ownBlock = some b ∨ w.heap.size ≤ b) → K (a.put o.dst v') w') : if Region.wanted o (yielded ops a.tmps) = true then Oper.wp P o a w K Q else E := by
 obtain ⟨xa, xc, rfl, _, _⟩ := hrd.sl_form
 rcases Nat.eq_zero_or_pos news.length with hz | hne
 ·obtain rfl := List.eq_nil_of_length_eq_zero hz
  obtain ⟨va, vc, rfl, hv1, _⟩ := hown.form
  refine step_app0 hT hgd s x ho va xa es.length vc xc hv1 hs hx ?_
  exact h _ w [] (by simp) (by simpa using hown) (zam _ _) (fun b hb => .inl hb)
 ·obtain ⟨b, off, f, rfl, hb, rfl, hr⟩ := hrd.addr hne
  obtain ⟨vs, hc, hvs⟩ := hr.flat
  exact zE hT hgd s x ho base v es fp hs hown ⟨b, off, none⟩ news.length xc news vs f hx rfl hvs hnk (fun j u hj => by simpa [Addr.add_lit] using hc j u hj) (fun y hy => hna y (by simp [hy])) hbytes hlen hbase
   (fun v' w' h1 h2 h3 h4 => h v' w' f (fun y hy => by simp [hy]) h1 h2 h3)
section
variable {P : Program} {ops : Array Oper} {Q : Exit → Act → World → Prop} {F : World → Prop} {s0 : Nat}
/-- What is to be shown of number i, if it comes up. -/
def Step (P : Program) (ops : Array Oper) (Q : Exit → Act → World → Prop) (F : World → Prop) (s0 n : Nat) (up : Array Bool) (a : Act) (w : World) (i : Nat) (o : Oper) : Prop :=
 ∀ K' : Act → World → Prop, Hid (∀ b u, ((up.setIfInBounds i true).getD s0 true = false → F u) → Till P ops Q F s0 n (up.setIfInBounds i true) b u → K' b u) → if Region.wanted o (yielded ops a.tmps) = true then Oper.wp P o a w K' Q else K' (a.put o.dst undef) w
theorem Step.op {i : Nat} {o : Oper} {n : Nat} {up : Array Bool} {a : Act} {w : World} (ho : ops[i]? = some o) (h : Step P ops Q F s0 n up a w i o) :
  wpOp P ops Q i (fun b u => ((up.setIfInBounds i true).getD s0 true = false → F u) ∧ Till P ops Q F s0 n (up.setIfInBounds i true) b u) a w :=
 wpOp_step ho fun K' hK => h K' (Lib.hid fun b u h1 h2 => hK b u ⟨h1, h2⟩)
theorem Till.two {i j : Nat} {oi oj : Oper} {n : Nat} {up : Array Bool} {a : Act} {w : World} (hr : Region.ready .any ops up = [i, j]) (hi : ops[i]? = some oi) (hj : ops[j]? = some oj)
  (si : Step P ops Q F s0 n up a w i oi) (sj : Step P ops Q F s0 n up a w j oj) : Till P ops Q F s0 (n + 1) up a w := by
 refine ⟨fun h0 => (by rw [hr] at h0; cases h0), fun m hm => ?_⟩
 rw [hr] at hm
 simp only [zdW, List.not_mem_nil, or_false] at hm
 rcases hm with rfl | rfl
 ·exact si.op hi
 ·exact sj.op hj
end
theorem Fresh.join {lo : Nat} {w : World} {f g : List Nat} (h : Fresh lo w f) (h' : Fresh lo w g) (hd : ∀ b ∈ f, b ∉ g) : Fresh lo w (f ++ g) := by
 refine ⟨List.nodup_append.2 ⟨h.1, h'.1, fun a ha b hb e => hd a ha (e ▸ hb)⟩, fun b hb => ?_⟩
 rcases zdS.1 hb with h1 | h1
 ·exact h.2 b h1
 ·exact h'.2 b h1
theorem zdB (f : Fm) (vs : List Value) (ff : List Nat) (w : World) (hbig : wtV f.cd ≤ 1048576) (hv : RdVs w f.cd vs ff) :
  Calls Tryz.prog 15 #[.agg vs.toArray] w fun e w' => e = .returned (.bool f.okF) ∧ Below w.heap.size w w' := by
 have hv0 := hv
 obtain ⟨a3, c3, f3, a5, c5, f5, a6, c6, f6, a7, c7, f7, a11, c11, f11, rfl, -, m0, m1, m2, m3, m4, m5, m6, m7, m8, m9⟩ := Fm.open hv
 clear hv
 have hln := Fm.add_len f []
 go_enter Tryz.func15, Tryz.ntmps15
 go_wp2_with fail
 refine (zdA f 1 _ _ _ hbig (by omega) (by omega) (by exact hv0.below (za _ _))).mono ?_
 rintro e w1 ⟨rfl, hb1⟩
 obtain ⟨hx, hz1, hB⟩ := box1 (w := w) (wr := w1) (cs := #[.int .i64 f.kind, .int .i64 f.lit.atom.kind, .string f.lit.atom.a.name, .slice a3 f.lit.atom.a.kids.length c3, .string f.lit.atom.b.name, .slice a5 f.lit.atom.b.kids.length c5, .slice a6 f.lit.atom.nums.length c6, .slice a7 f.lit.atom.times.length c7, .int .i64 f.lit.atom.bound, .bool f.lit.atom.strict, .bool f.lit.no, .slice a11 f.kids.length c11]) (T := 33) (zs hb1 (by simp))
 have C0 := hx 0
 have C1 := hx 1
 have C2 := hx 2
 have C3 := hx 3
 have C4 := hx 4
 have C5 := hx 5
 have C6 := hx 6
 have C7 := hx 7
 have C8 := hx 8
 have C9 := hx 9
 have C10 := hx 10
 have C11 := hx 11
 simp only [zdP, zdN, zdO] at C0 C1 C2 C3 C4 C5 C6 C7 C8 C9 C10 C11
 clear hb1 hx
 have h11 : (1 : Int).toNat = 1 := rfl
 rw [h11]
 clear h11
 by_cases h1 : Fm.sz 1 f ≤ 10
 ·go_wp2_with fail
  refine (zcO _ f [] _ _ (.slice none 0 0) [] w1.heap.size _ (Nat.le_refl _) hbig (by simp; omega) (Nat.le_refl _) (Own.nil _ _ _ _) (Fresh.nil _ _) (by exact hv0.below hB) (by simp [Value.ownBlock])).mono ?_
  rintro e w2 ⟨lv, fp, rfl, hown, _, hm⟩
  obtain ⟨la, lc, rfl, _, _⟩ := hown.form
  have hB2 := hB.trans (hm.toBelow (B := w.heap.size) (by omega) (by simp [Value.ownBlock]))
  rw [zdX]
  clear hm hown
  have HE := Lib.hid (show f.okF = decide (((Fm.add [] f).length : Int) ≤ 6) by unfold Fm.okF; rw [Bool.eq_iff_iff]; simp [h1]; try omega)
  go_wp2_with fail
  go_ret
  exact ⟨retB HE.out.symm, hB2⟩
 ·have HE := Lib.hid (show f.okF = false by unfold Fm.okF; simp [h1])
  go_wp2_with fail
  go_ret
  exact ⟨retB HE.out.symm, hB⟩
theorem zdC (k : Int) (w : World) : Calls Tryz.prog 45 #[.int .i64 k] w fun e w' => e = .returned (.int .i64 (Fm.nk k)) ∧ w = w' := by
 by_cases h1 : k = 1
 ·subst h1
  go_enter Tryz.func45, Tryz.ntmps45
  go_wp2_with fail
  go_ret
  exact ⟨rfl, rfl⟩
 by_cases h2 : k = 2
 ·subst h2
  go_enter Tryz.func45, Tryz.ntmps45
  go_wp2_with fail
  go_ret
  exact ⟨rfl, rfl⟩
 by_cases h3 : k = 3
 ·subst h3
  go_enter Tryz.func45, Tryz.ntmps45
  go_wp2_with fail
  go_ret
  exact ⟨rfl, rfl⟩
 by_cases h4 : k = 4
 ·subst h4
  go_enter Tryz.func45, Tryz.ntmps45
  go_wp2_with fail
  go_ret
  exact ⟨rfl, rfl⟩
 by_cases h5 : k = 5
 ·subst h5
  go_enter Tryz.func45, Tryz.ntmps45
  go_wp2_with fail
  go_ret
  exact ⟨rfl, rfl⟩
 by_cases h6 : k = 6
 ·subst h6
  go_enter Tryz.func45, Tryz.ntmps45
  go_wp2_with fail
  go_ret
  exact ⟨rfl, rfl⟩
 have HN := Lib.hid (show Fm.nk k = -1 by unfold Fm.nk; rw [if_neg h1, if_neg h2, if_neg h3, if_neg h4, if_neg h5, if_neg h6])
 have t1 : (k == 1) = false := by simp [h1]
 have t2 : (k == 2) = false := by simp [h2]
 have t3 : (k == 3) = false := by simp [h3]
 have t4 : (k == 4) = false := by simp [h4]
 have t5 : (k == 5) = false := by simp [h5]
 have t6 : (k == 6) = false := by simp [h6]
 clear h1 h2 h3 h4 h5 h6
 go_enter Tryz.func45, Tryz.ntmps45
 go_wp2_with fail
 go_ret
 exact ⟨retI HN.out.symm, rfl⟩
theorem l9Kids_b (k : Int) (w : World) : Calls Tryz.prog 45 #[.int .i64 k] w fun e w' => e = .returned (.int .i64 (Fm.nk k)) ∧ Below w.heap.size w w' := (zdC k w).mono fun _ _ ⟨h, h'⟩ => ⟨h, h' ▸ Below.refl _ _⟩
def CpF (x : Atm) (w : World) (a2 : Option Addr) (c2 : Nat) (a4 : Option Addr) (c4 : Nat) (a5 : Option Addr) (c5 : Nat) (a6 : Option Addr) (c6 : Nat) (U : World) : Prop := U.cell? ⟨w.heap.size, 0, none⟩ = some (.int .i64 x.kind) ∧ U.cell? ⟨w.heap.size, 1, none⟩ = some (.string x.a.name) ∧ U.cell? ⟨w.heap.size, 2, none⟩ = some (.slice a2 x.a.kids.length c2) ∧ U.cell? ⟨w.heap.size, 3, none⟩ = some (.string x.b.name) ∧ U.cell? ⟨w.heap.size, 4, none⟩ = some (.slice a4 x.b.kids.length c4) ∧ U.cell? ⟨w.heap.size, 5, none⟩ = some (.slice a5 x.nums.length c5) ∧ U.cell? ⟨w.heap.size, 6, none⟩ = some (.slice a6 x.times.length c6) ∧ U.cell? ⟨w.heap.size, 7, none⟩ = some (.int .i64 x.bound) ∧ U.cell? ⟨w.heap.size, 8, none⟩ = some (.bool x.strict)
theorem CpF.keep {x : Atm} {w u u' : World} {a2 : Option Addr} {c2 : Nat} {a4 : Option Addr} {c4 : Nat} {a5 : Option Addr} {c5 : Nat} {a6 : Option Addr} {c6 : Nat} (hF : CpF x w a2 c2 a4 c4 a5 c5 a6 c6 u) (hb : Below u.heap.size u u') : CpF x w a2 c2 a4 c4 a5 c5 a6 c6 u' :=
 ⟨zb hF.1 hb, zb hF.2.1 hb, zb hF.2.2.1 hb, zb hF.2.2.2.1 hb, zb hF.2.2.2.2.1 hb, zb hF.2.2.2.2.2.1 hb, zb hF.2.2.2.2.2.2.1 hb, zb hF.2.2.2.2.2.2.2.1 hb, zb hF.2.2.2.2.2.2.2.2 hb⟩
theorem CpF.same {x : Atm} {w u u' : World} {a2 : Option Addr} {c2 : Nat} {a4 : Option Addr} {c4 : Nat} {a5 : Option Addr} {c5 : Nat} {a6 : Option Addr} {c6 : Nat} (hF : CpF x w a2 c2 a4 c4 a5 c5 a6 c6 u) (h : u'.heap[w.heap.size]? = u.heap[w.heap.size]?) : CpF x w a2 c2 a4 c4 a5 c5 a6 c6 u' :=
 ⟨zo h hF.1, zo h hF.2.1, zo h hF.2.2.1, zo h hF.2.2.2.1, zo h hF.2.2.2.2.1, zo h hF.2.2.2.2.2.1, zo h hF.2.2.2.2.2.2.1, zo h hF.2.2.2.2.2.2.2.1, zo h hF.2.2.2.2.2.2.2.2⟩
theorem zcP (x : Atm) (l : List Atm) (v : Value) (vs : List Value) (g f : List Nat) (w : World) (hl : Rd w (.sl (l.map Atm.cd)) v g) (hx : RdVs w x.cd vs f) :
  Calls Tryz.prog 65 #[v, .agg vs.toArray] w fun e w' => (∃ n, e = .returned (.int .i64 n) ∧ FirstOf (fun y => eqV y.cd x.cd) l n) ∧ Below w.heap.size w w' := by
 obtain ⟨a, cap, rfl, hc1, hc2⟩ := ze hl
 obtain ⟨a2, c2, f2, a4, c4, f4, a5, c5, f5, a6, c6, f6, rfl, -, m0, m1, m2, m3, m4, m5, m6, m7⟩ := Atm.open hx
 go_enter Tryz.func65, Tryz.ntmps65
 go_wp2_with fail
 go_loopw [5] (fun i wr => ∃ k : Nat, k ≤ l.length ∧ i = .int .i64 k ∧ Hid ((l.take k).all (fun t => !eqV t.cd x.cd) = true) ∧ Below (w.heap.size + 1) (w.alloc (.cells #[.int .i64 x.kind, .string x.a.name, .slice a2 x.a.kids.length c2, .string x.b.name, .slice a4 x.b.kids.length c4, .slice a5 x.nums.length c5, .slice a6 x.times.length c6, .int .i64 x.bound, .bool x.strict] 28)) wr) (fun i _ => l.length - (intOf i).toNat)
 case atStart => exact ⟨0, Nat.zero_le _, rfl, Lib.hid (by simp), Below.refl _ _⟩
 case round =>
  obtain ⟨k, hkl, rfl, hall, hbx⟩ := hrel
  obtain ⟨hx', hz1, hb⟩ := box1 (w := w) (wr := wr) (cs := #[.int .i64 x.kind, .string x.a.name, .slice a2 x.a.kids.length c2, .string x.b.name, .slice a4 x.b.kids.length c4, .slice a5 x.nums.length c5, .slice a6 x.times.length c6, .int .i64 x.bound, .bool x.strict]) (T := 28) hbx
  have C0 := hx' 0
  have C1 := hx' 1
  have C2 := hx' 2
  have C3 := hx' 3
  have C4 := hx' 4
  have C5 := hx' 5
  have C6 := hx' 6
  have C7 := hx' 7
  have C8 := hx' 8
  simp only [zdP, zdN, zdO] at C0 C1 C2 C3 C4 C5 C6 C7 C8
  have hz := hb.size
  by_cases hlt : k < l.length
  ·obtain ⟨b, off, rfl, hbs, _⟩ := zl hl (by omega)
   have hbx0 := Lib.hid hbx
   have HX : Hid (RdVs wr x.cd [.int .i64 x.kind, .string x.a.name, .slice a2 x.a.kids.length c2, .string x.b.name, .slice a4 x.b.kids.length c4, .slice a5 x.nums.length c5, .slice a6 x.times.length c6, .int .i64 x.bound, .bool x.strict] (f2 ++ (f4 ++ (f5 ++ f6)))) := Lib.hid ((Atm.close m0 m1 m2 m3 m4 m5 m6 m7) |>.below hb)
   obtain ⟨a2y, c2y, f2y, a4y, c4y, f4y, a5y, c5y, f5y, a6y, c6y, f6y, d0y, d1y, d2y, d3y, d4y, d5y, d6y, d7y, d8y, n0y, n1y, n2y, n3y, n4y, n5y, n6y, n7y, hsuby⟩ := Atm.at (hl.below hb) hlt
   have HY := Lib.hid (Atm.close n0y n1y n2y n3y n4y n5y n6y n7y)
   have hbz : b < wr.heap.size := by omega
   clear hx' hbx
   go_wp2_with fail
   have qC0 := cell_regrown C0
   have qC1 := cell_regrown C1
   have qC2 := cell_regrown C2
   have qC3 := cell_regrown C3
   have qC4 := cell_regrown C4
   have qC5 := cell_regrown C5
   have qC6 := cell_regrown C6
   have qC7 := cell_regrown C7
   have qC8 := cell_regrown C8
   have qd0y := cell_regrown d0y
   have qd1y := cell_regrown d1y
   have qd2y := cell_regrown d2y
   have qd3y := cell_regrown d3y
   have qd4y := cell_regrown d4y
   have qd5y := cell_regrown d5y
   have qd6y := cell_regrown d6y
   have qd7y := cell_regrown d7y
   have qd8y := cell_regrown d8y
   clear C0 C1 C2 C3 C4 C5 C6 C7 C8 d0y d1y d2y d3y d4y d5y d6y d7y d8y
   refine wp_region_quiet_below (by kernel_rfl) (by kernel_rfl) ?_
   repeat (quiet_step (first | (go_at_call 14; with_reducible refine Calls.regrown_of (zbP l[k] x _ _ _ _ _ (HY.out.below (below_regrown _ _ _)) (HX.out.below (below_regrown _ _ _))))))
   refine wpQuiet_nil ?_
   intro w2 hw2
   obtain ⟨⟨dq, osq⟩, hw2⟩ := hw2
   have hbq : Below (wr).heap.size (wr) w2 := hw2 ▸ below_regrown (wr) dq osq
   clear hw2 qC0 qC1 qC2 qC3 qC4 qC5 qC6 qC7 qC8 qd0y qd1y qd2y qd3y qd4y qd5y qd6y qd7y qd8y
   have hbx : Below (w.heap.size + 1) (w.alloc (.cells #[.int .i64 x.kind, .string x.a.name, .slice a2 x.a.kids.length c2, .string x.b.name, .slice a4 x.b.kids.length c4, .slice a5 x.nums.length c5, .slice a6 x.times.length c6, .int .i64 x.bound, .bool x.strict] 28)) w2 := hbx0.out.trans (hbq.mono (by omega))
   cases he : eqV l[k].cd x.cd
   ·have HE := Lib.hid (FirstOf.succ hlt hall.out he)
    clear he
    go_wp2_with fail
    go_roundw
    case rel => exact ⟨k + 1, by omega, by go_num, HE, hbx⟩
    case measure => simp [intOf]; omega
   ·have HE : Hid (FirstOf (fun y => eqV y.cd x.cd) l (k : Int)) := Lib.hid (.inr ⟨k, hlt, rfl, he, hall.out⟩)
    clear he
    go_wp2_with fail
    go_ret
    exact ⟨⟨k, rfl, HE.out⟩, hb.trans (hbq.mono hz)⟩
  ·have HE : Hid (FirstOf (fun y => eqV y.cd x.cd) l (-1)) := Lib.hid (.inl ⟨rfl, by have := hall.out; rwa [List.take_of_length_le (by omega)] at this⟩)
   go_wp2_with fail
   go_ret
   exact ⟨⟨-1, rfl, HE.out⟩, hb⟩
def addA (l : List Atm) (x : Atm) : List Atm := if hasA l x = true then l else l ++ [x]
theorem addA_yes {l : List Atm} {x : Atm} (h : hasA l x = true) : addA l x = l := if_pos h
theorem addA_no {l : List Atm} {x : Atm} (h : hasA l x = false) : addA l x = l ++ [x] := by unfold addA; rw [h]; rfl
def AtmOut (l' : List Atm) (base : Nat) (lv : Value) (fp f : List Nat) (w : World) (e : Ending) (w' : World) : Prop :=
 ∃ lv' fp', e = .returned lv' ∧ Own w' base 28 9 lv' (l'.map Atm.cd) fp' ∧ (∀ y ∈ fp', y ∈ fp ∨ y ∈ f) ∧ Moved w lv w' lv'
theorem zbx (x : Atm) (l : List Atm) (lv : Value) (vs : List Value) (fp f : List Nat) (base : Nat) (w : World) (hbase : base ≤ w.heap.size) (hlen : l.length ≤ 1000000000) (hown : Own w base 28 9 lv (l.map Atm.cd) fp) (hx : RdVs w x.cd vs f) (hna : ∀ y ∈ f, lv.ownBlock ≠ some y) :
  Calls Tryz.prog 48 #[lv, .agg vs.toArray] w (AtmOut (addA l x) base lv fp f w) := by
 obtain ⟨a2, c2, f2, a4, c4, f4, a5, c5, f5, a6, c6, f6, rfl, rfl, m0, m1, m2, m3, m4, m5, m6, m7⟩ := Atm.open hx
 have hat := Atm.close m0 m1 m2 m3 m4 m5 m6 m7
 have hff := hat
 have hba := za w (.cells #[.int .i64 x.kind, .string x.a.name, .slice a2 x.a.kids.length c2, .string x.b.name, .slice a4 x.b.kids.length c4, .slice a5 x.nums.length c5, .slice a6 x.times.length c6, .int .i64 x.bound, .bool x.strict] 28)
 obtain ⟨fpr, hrd⟩ := hown.rd'
 obtain ⟨la, lc, hlv, hl1, hl2⟩ := hown.form
 rw [zdX] at hlv hl1
 subst hlv
 go_enter Tryz.func48, Tryz.ntmps48
 go_wp2_with fail
 refine (zcP x l _ _ _ _ _ (hrd.below hba) (by exact hat.below hba)).mono ?_
 rintro e w1 ⟨⟨q, rfl, hq⟩, hb1⟩
 obtain ⟨hx', hz1, hB⟩ := box1 (w := w) (wr := w1) (cs := #[.int .i64 x.kind, .string x.a.name, .slice a2 x.a.kids.length c2, .string x.b.name, .slice a4 x.b.kids.length c4, .slice a5 x.nums.length c5, .slice a6 x.times.length c6, .int .i64 x.bound, .bool x.strict]) (T := 28) (zs hb1 (by simp))
 have C0 := hx' 0
 have C1 := hx' 1
 have C2 := hx' 2
 have C3 := hx' 3
 have C4 := hx' 4
 have C5 := hx' 5
 have C6 := hx' 6
 have C7 := hx' 7
 have C8 := hx' 8
 simp only [zdP, zdN, zdO] at C0 C1 C2 C3 C4 C5 C6 C7 C8
 clear hb1 hx'
 have hbd := hq.bd
 have HNEG := Lib.hid hq.neg
 clear hq hrd
 by_cases hq0 : q < 0
 ·have HE := Lib.hid (addA_no (HNEG.out.1 hq0))
  have hown3 := hown.below (hB.alloc hB.size (.cells #[.int .i64 x.kind, .string x.a.name, .slice a2 x.a.kids.length c2, .string x.b.name, .slice a4 x.b.kids.length c4, .slice a5 x.nums.length c5, .slice a6 x.times.length c6, .int .i64 x.bound, .bool x.strict] 28))
  have hr3' := (hat.below hB).below (za w1 (.cells #[.int .i64 x.kind, .string x.a.name, .slice a2 x.a.kids.length c2, .string x.b.name, .slice a4 x.b.kids.length c4, .slice a5 x.nums.length c5, .slice a6 x.times.length c6, .int .i64 x.bound, .bool x.strict] 28))
  have hzB := hB.size
  go_wp2_with (at_builtin; refine zq zX rfl _ _ rfl base _ _ _ rfl hown3 ⟨w1.heap.size, 0, none⟩ 1 1 [x.cd] [.int .i64 x.kind, .string x.a.name, .slice a2 x.a.kids.length c2, .string x.b.name, .slice a4 x.b.kids.length c4, .slice a5 x.nums.length c5, .slice a6 x.times.length c6, .int .i64 x.bound, .bool x.strict] (f2 ++ (f4 ++ (f5 ++ f6))) rfl rfl ?rd ?k ?cells ?na ?bytes ?len ?base ?next)
  case rd => simpa using hr3'
  case k => simp [Atm.cd_len]
  case cells => exact zp _ _ _
  case na => exact hna
  case bytes => (try rw [zdX]); (try simp); omega
  case len => (try rw [zdX]); (try simp); omega
  case base => simp; omega
  case next =>
   intro v' w4 hown4 hg hv' hs4
   go_wp2_with fail
   go_ret
   exact ⟨v', _, rfl, by rw [HE.out]; simpa using hown4, fun y hy => zdS.1 hy, Moved.after (hB.alloc hB.size _) ⟨hg, by simpa using hv'⟩⟩
 ·have HE := Lib.hid (show addA l x = l by
   cases hh : hasA l x
   ·exact absurd (HNEG.out.2 hh) hq0
   ·exact addA_yes hh)
  have hown3 := hown.below hB
  go_wp2_with fail
  go_ret
  exact ⟨_, fp, rfl, by rw [HE.out]; exact hown3, fun y hy => .inl hy, Moved.after hB (Moved.refl _ _)⟩
end Go.Proofs.YtoehhbkhdddeeaaGreatDoor
end
/- Well-formed forms in a language: both sides. -/
namespace Go.Proofs.YtoehhbkhdddeeaaGreatDoor
open Go Go.RowKit
set_option linter.unusedVariables false
set_option linter.unusedSimpArgs false
def zdG (x : Atm) : Lt := ⟨x, false⟩
def zab (l : List Atm) : List Lt := l.map zdG
theorem zcU (l : List Atm) (k : Nat) (h : k < l.length) : zab (l.take (k + 1)) = zab (l.take k) ++ [zdG l[k]] := by
 unfold zab; rw [zdR h, zdV]; rfl
set_option maxRecDepth 100000 in
set_option maxHeartbeats 1000000 in
theorem za3 (l : List Atm) (v : Value) (g : List Nat) (w : World) (hlen : l.length ≤ 1000000000) (hv : Rd w (.sl (l.map Atm.cd)) v g) :
  Calls Tryz.prog 47 #[v] w fun e w' => (∃ rv rf, e = .returned rv ∧ Rd w' (.sl ((zab l).map Lt.cd)) rv rf) ∧ Below w.heap.size w w' := by
 obtain ⟨a, cap, rfl, hc1, hc2⟩ := ze hv
 have hfl := hv.lt _
 go_enter Tryz.func47, Tryz.ntmps47
 go_wp2_with fail
 go_loopw [3, 4] (fun ov i wr => ∃ (k : Nat) (fp : List Nat), k ≤ l.length ∧ i = .int .i64 k ∧ Own wr w.heap.size 30 10 ov ((zab (l.take k)).map Lt.cd) fp ∧ Below w.heap.size w wr) (fun _ i _ => l.length - (intOf i).toNat)
 case atStart => exact ⟨0, [], Nat.zero_le _, rfl, Own.empty _ _ _ _ (Nat.le_refl _), za _ _⟩
 case round =>
  obtain ⟨k, fp, hkl, rfl, hown, hb⟩ := hrel
  have hz := hb.size
  by_cases hlt : k < l.length
  ·obtain ⟨b, off, rfl, hbs, _⟩ := zl hv (by omega)
   have hbz : b < wr.heap.size := by omega
   obtain ⟨a2, c2, f2, a4, c4, f4, a5, c5, f5, a6, c6, f6, d0, d1, d2, d3, d4, d5, d6, d7, d8, n0, n1, n2, n3, n4, n5, n6, n7, hsub⟩ := Atm.at (hv.below hb) hlt
   have hBA : Below wr.heap.size wr (wr.alloc (.cells #[.int .i64 l[k].kind, .string l[k].a.name, .slice a2 l[k].a.kids.length c2, .string l[k].b.name, .slice a4 l[k].b.kids.length c4, .slice a5 l[k].nums.length c5, .slice a6 l[k].times.length c6, .int .i64 l[k].bound, .bool l[k].strict, .bool false] 30)) := za _ _
   have hB2 := hb.trans (hBA.mono hz)
   have hl : ((zab (l.take k)).map Lt.cd).length = k := by simp [zab]; omega
   have hnews : RdVs wr [(zdG l[k]).cd].flatten [.int .i64 l[k].kind, .string l[k].a.name, .slice a2 l[k].a.kids.length c2, .string l[k].b.name, .slice a4 l[k].b.kids.length c4, .slice a5 l[k].nums.length c5, .slice a6 l[k].times.length c6, .int .i64 l[k].bound, .bool l[k].strict, .bool false] (f2 ++ (f4 ++ (f5 ++ f6))) := by
    have := Lt.close (x := zdG l[k]) n0 n1 n2 n3 n4 n5 n6 n7
    simpa [zdG] using this
   have hne : ∀ y ∈ f2 ++ (f4 ++ (f5 ++ f6)), u3.ownBlock ≠ some y := fun y hy e => by have h1 := (hown.block e).1; have h2 := hfl y (hsub y hy); omega
   have HT := Lib.hid (zcU l k hlt)
   go_wp2_with (at_builtin; refine zq slTyLitS rfl _ _ rfl w.heap.size _ _ _ rfl (hown.below hBA) ⟨wr.heap.size, 0, none⟩ 1 1 [(zdG l[k]).cd] [.int .i64 l[k].kind, .string l[k].a.name, .slice a2 l[k].a.kids.length c2, .string l[k].b.name, .slice a4 l[k].b.kids.length c4, .slice a5 l[k].nums.length c5, .slice a6 l[k].times.length c6, .int .i64 l[k].bound, .bool l[k].strict, .bool false] (f2 ++ (f4 ++ (f5 ++ f6))) rfl rfl (hnews.below hBA) ?k ?cells ?na ?bytes ?len ?base ?next)
   case k => simp [Lt.cd, Atm.cd_len]
   case cells =>
    intro j u hj
    have := zp wr [.int .i64 l[k].kind, .string l[k].a.name, .slice a2 l[k].a.kids.length c2, .string l[k].b.name, .slice a4 l[k].b.kids.length c4, .slice a5 l[k].nums.length c5, .slice a6 l[k].times.length c6, .int .i64 l[k].bound, .bool l[k].strict, .bool false] 30 j u hj
    simpa using this
   case na => exact hne
   case bytes => rw [hl]; omega
   case len => rw [hl]; omega
   case base => simp; omega
   case next =>
    intro v' w4 hown4 hg hv' hs4
    have hb4 := zk hB2 hg (by simp; omega) (fun q hq => (hown.block hq).1)
    clear hl
    go_wp2_with fail
    go_roundw
    case rel =>
     refine ⟨k + 1, fp ++ (f2 ++ (f4 ++ (f5 ++ f6))), by omega, by go_num, ?_, hb4⟩
     rw [HT.out, zdV]; exact hown4
    case measure => simp [intOf]; omega
  ·have he : l.take k = l := List.take_of_length_le (by omega)
   rw [he] at hown
   obtain ⟨oa, on, oc, rfl⟩ := hown.form'
   obtain ⟨fp', hr⟩ := hown.rd'
   clear he
   go_wp2_with fail
   go_ret
   exact ⟨⟨_, fp', rfl, hr⟩, hb⟩
end Go.Proofs.YtoehhbkhdddeeaaGreatDoor
/- StackOk: both sides. -/
namespace Go.Proofs.YtoehhbkhdddeeaaGreatDoor
open Go Go.RowKit
set_option linter.unusedVariables false
set_option linter.unusedSimpArgs false
end Go.Proofs.YtoehhbkhdddeeaaGreatDoor
/- The reference's copies of forms. -/
namespace Go.Proofs.YtoehhbkhdddeeaaGreatDoor
open Go Go.RowKit
set_option linter.unusedVariables false
set_option linter.unusedSimpArgs false
end Go.Proofs.YtoehhbkhdddeeaaGreatDoor
