/- Parts of the proof: WhyVi WhyB1 WhyB2 WhyB3 WhyB4 WhyB5 WhyB6 WhyS WhyV. -/
import Derived.Test.YtlefdhhnlbpbkaaGreatPv46
import Derived.Test.YtlefdhhnlbpbkaaGreatPv7
import Derived.Deep.RegionHeld3
import Derived.BigQuiet
import Derived.BigRegion
import Derived.Deep.CutRange
import Derived.Test.YtlefdhhnlbpbkaaGreatPv28
section
namespace Go.Proofs.YtlefdhhnlbpbkaaGreat
open Go Go.RowKit
set_option linter.unusedVariables false
set_option linter.unusedSimpArgs false
set_option maxRecDepth 100000
set_option maxHeartbeats 16000000
def Eqn.zero : Eqn := ⟨.mk ⟨#[]⟩ [], .mk ⟨#[]⟩ []⟩
theorem eqs_lit {s : Sg} {es : List Eqn} (h : eqsB s es = true) : ∀ e ∈ es, e.lit := by
 simp only [eqsB, zex, decide_eq_true_eq, List.all_eq_true] at h
 have h1 := zdC (s := s) (es := es) (k := es.length) (Nat.le_refl _) (fun j _ hj => h.2.2.1 _ (zes hj))
 rw [List.all_eq_true] at h1
 exact fun e he => ⟨zba (h1 _ (List.mem_flatMap.2 ⟨e, he, by simp⟩)), zba (h1 _ (List.mem_flatMap.2 ⟨e, he, by simp⟩))⟩
theorem one_big {q : Eqn} (h : q.lit) : Tm.sizes (zj [q]) ≤ 1000000000 := by
 have : zj [q] = [q.a, q.b] := rfl
 have h1 := h.1
 have h2 := h.2
 rw [this]; simp only [Tm.sizes]; omega
/-- What comes back: an equation of the call's own, and whether one is told. -/
def WhyOut (o : Option Eqn) (w : World) (e : Ending) (w' : World) : Prop := ∃ (us : List Value) (fs : List Nat), e = .returned (.tuple #[.agg us.toArray, .bool o.isSome]) ∧ RdVs w' (o.getD Eqn.zero).cd us fs ∧ Fresh w.heap.size w' fs ∧ Below w.heap.size w w'
theorem zero_rd (w : World) : RdVs w Eqn.zero.cd [.string ⟨#[]⟩, .slice none 0 0, .string ⟨#[]⟩, .slice none 0 0] [] := by
 have hz : Rd w (.sl (([] : List Tm).map Tm.cd)) (.slice none 0 0) [] := by
  simp only [List.map_nil, Rd]; exact ⟨none, 0, rfl, by simp, by simp [maxLen], by simp⟩
 exact Eqn.close (x := Eqn.zero) (f1 := []) (f3 := []) (by show (0 : Nat) ≤ maxLen; exact Nat.zero_le _) hz (by show (0 : Nat) ≤ maxLen; exact Nat.zero_le _) hz
theorem why_no {w w' : World} {o : Option Eqn} (h : o = none) (hb : Below w.heap.size w w') : WhyOut o w (.returned (.tuple #[.agg #[.string ⟨#[]⟩, .slice none 0 0, .string ⟨#[]⟩, .slice none 0 0], .bool false])) w' := by
 subst h; exact ⟨_, [], rfl, zero_rd w', Fresh.nil _ _, hb⟩
theorem one_rd9 {W : World} {q : Eqn} {vs : List Value} {f : List Nat} {g : Nat} (h1 : RdVs W q.cd vs f) (hg : g < W.heap.size) (hc : ∀ j u, vs[j]? = some u → W.cell? ⟨g, j, none⟩ = some u) : ∃ fp, Rd W (.sl ([q].map Eqn.cd)) (.slice (some ⟨g, 0, none⟩) 1 1) fp := by
 refine ⟨g :: f, ?_⟩
 simp only [Rd]
 refine ⟨_, 1, rfl, by simp, by simp [maxLen], .inr ⟨by simp, g, 0, f, rfl, hg, rfl, ?_⟩⟩
 refine RdRows.mk (k := 4) (vs := vs) (fun j u hj => by simpa using hc j u hj) ?_
 simpa using h1
theorem zbk (s : Sg) (es : List Eqn) (x : Wy) (sv : List Value) (ev : Value) (xs : List Value) (sf ef xf : List Nat) (w : World) (hbig : Tm.sizes (zj es) ≤ 1000000000) (hel : es.length ≤ 1048576) (hth : x.thin) (hrs : RdVs w s.cd sv sf) (hx : Rd w (.sl (es.map Eqn.cd)) ev ef) (hxr : RdVs w x.cd xs xf) :
  Calls Tryz.prog 6 #[.agg sv.toArray, ev, .agg xs.toArray] w (WhyOut (whyT s es x) w) := by
 obtain ⟨a0, c0, f0, rfl, rfl, m0⟩ := Sg.open hrs
 obtain ⟨ea, ec, rfl, hec1, hec2⟩ := zd hx
 have hxr0 := hxr
 obtain ⟨a3, c3, f3, a4, c4, f4, rfl, rfl, _, _, _, _, _⟩ := Wy.open hxr0
 have helo := hx.lt
 have hxlo := hxr.lt
 clear m0 hxr0
 have hS := ((Bx.new w [.slice a0 s.syms.length c0] 25).alloc (.cells #[.int .i64 x.rule, .int .i64 x.n, .string x.t.name, .slice a3 x.t.kids.length c3, .slice a4 x.kids.length c4] 32)).alloc (.cells #[.string ⟨#[]⟩, .slice none 0 0, .string ⟨#[]⟩, .slice none 0 0] 36)
 have hX := (Bx.new (w.alloc (.cells #[.slice a0 s.syms.length c0] 25)) [.int .i64 x.rule, .int .i64 x.n, .string x.t.name, .slice a3 x.t.kids.length c3, .slice a4 x.kids.length c4] 32).alloc (.cells #[.string ⟨#[]⟩, .slice none 0 0, .string ⟨#[]⟩, .slice none 0 0] 36)
 have hR := Bx.new ((w.alloc (.cells #[.slice a0 s.syms.length c0] 25)).alloc (.cells #[.int .i64 x.rule, .int .i64 x.n, .string x.t.name, .slice a3 x.t.kids.length c3, .slice a4 x.kids.length c4] 32)) [.string ⟨#[]⟩, .slice none 0 0, .string ⟨#[]⟩, .slice none 0 0] 36
 rw [World.size_alloc] at hX hR
 rw [World.size_alloc] at hR
 have hB : Below w.heap.size w (((w.alloc (.cells #[.slice a0 s.syms.length c0] 25)).alloc (.cells #[.int .i64 x.rule, .int .i64 x.n, .string x.t.name, .slice a3 x.t.kids.length c3, .slice a4 x.kids.length c4] 32)).alloc (.cells #[.string ⟨#[]⟩, .slice none 0 0, .string ⟨#[]⟩, .slice none 0 0] 36)) := (((Below.refl _ _).alloc (Nat.le_refl _) _).alloc (by simp) _).alloc (by simp; omega) _
 replace hrs := hrs.below hB
 replace hx := hx.below hB
 replace hxr := hxr.below hB
 go_enter Tryz.func6, Tryz.ntmps6
 go_upto_region 1 with fail
 generalize ((w.alloc (.cells #[.slice a0 s.syms.length c0] 25)).alloc (.cells #[.int .i64 x.rule, .int .i64 x.n, .string x.t.name, .slice a3 x.t.kids.length c3, .slice a4 x.kids.length c4] 32)).alloc (.cells #[.string ⟨#[]⟩, .slice none 0 0, .string ⟨#[]⟩, .slice none 0 0] 36) = W1 at *
 have s0' := hS.2.1 0 _ rfl
 have x0 := hX.2.1 0 _ rfl
 have x1 := hX.2.1 1 _ rfl
 have x2 := hX.2.1 2 _ rfl
 have x3 := hX.2.1 3 _ rfl
 have x4 := hX.2.1 4 _ rfl
 go_wp2_with fail
 refine (zbz s es _ _ _ _ _ hbig hel (by exact hrs) (by exact hx)).mono ?_
 rintro e W2 ⟨rfl, hb⟩
 replace hS := hS.below hb
 replace hX := hX.below hb
 replace hR := hR.below hb
 replace hrs := hrs.below hb
 replace hx := hx.below hb
 replace hxr := hxr.below hb
 replace hB := hB.trans (hb.mono hB.size)
 clear hb
 clear s0' x0 x1 x2 x3 x4
 cases hok : eqsB s es
 ·have HNO : Hid (whyT s es x = none) := Lib.hid (by simp [whyT, hok])
  clear hok
  have r0 := hR.2.1 0 _ rfl; have zz0 := hR.2.2 0
  have r1 := hR.2.1 1 _ rfl; have zz1 := hR.2.2 1
  have r2 := hR.2.1 2 _ rfl; have zz2 := hR.2.2 2
  have r3 := hR.2.1 3 _ rfl; have zz3 := hR.2.2 3
  have gR := (((hR.put (k := 0) (by simp) (.string ⟨#[]⟩)).put (k := 1) (by simp) (.slice none 0 0)).put (k := 2) (by simp) (.string ⟨#[]⟩)).put (k := 3) (by simp) (.slice none 0 0)
  simp only [zek, zel] at gR
  have s0 := gR.2.1 0 _ rfl; have s1 := gR.2.1 1 _ rfl; have s2 := gR.2.1 2 _ rfl; have s3 := gR.2.1 3 _ rfl
  go_wp2_with fail
  refine bodyPost_ret (v := .tuple #[.agg #[.string ⟨#[]⟩, .slice none 0 0, .string ⟨#[]⟩, .slice none 0 0], .bool false]) (by simp [results, Tryz.results6, go_sem, s0, s1, s2, s3]) rfl ?_
  exact why_no HNO.out ((((hB.setCell (by show w.heap.size ≤ w.heap.size + 1 + 1; omega) _).setCell (by show w.heap.size ≤ w.heap.size + 1 + 1; omega) _).setCell (by show w.heap.size ≤ w.heap.size + 1 + 1; omega) _).setCell (by show w.heap.size ≤ w.heap.size + 1 + 1; omega) _)
 have hes := eqs_lit hok
 have HOK := Lib.hid hok
 clear hok
 have s0' := hS.2.1 0 _ rfl
 have x0 := hX.2.1 0 _ rfl
 have x1 := hX.2.1 1 _ rfl
 have x2 := hX.2.1 2 _ rfl
 have x3 := hX.2.1 3 _ rfl
 have x4 := hX.2.1 4 _ rfl
 go_wp2_with fail
 refine (tells_any es _ ef w.heap.size hel helo _ x _ (f3 ++ f4) 400 1 _ (Nat.le_refl _) hth (by omega) (by omega) hB.size (fun b hb => hxlo b hb) (by exact hxr) (by exact hx)).mono ?_
 rintro e W3 ⟨n0, a1, p1, q1, n2, a5, p3, q3, rfl, hq, hb⟩
 replace hS := hS.below hb
 replace hX := hX.below hb
 replace hR := hR.below hb
 replace hrs := hrs.below hb
 replace hx := hx.below hb
 replace hxr := hxr.below hb
 replace hB := hB.trans (hb.mono hB.size)
 have hzb := hb.size
 clear hb
 clear s0' x0 x1 x2 x3 x4
 obtain ⟨o, ho⟩ : ∃ o, o = Wy.tells es 400 x := ⟨_, rfl⟩
 rw [← ho] at hq ⊢
 have HO := Lib.hid ho
 clear ho
 have hR3 := hR.1
 have hba := zb W3 (.cells #[.string n0, .slice a1 p1 q1, .string n2, .slice a5 p3 q3] 36)
 replace hS := hS.below hba
 replace hX := hX.below hba
 replace hR := hR.below hba
 replace hrs := hrs.below hba
 replace hx := hx.below hba
 replace hxr := hxr.below hba
 replace hB := hB.trans (hba.mono hB.size)
 have hE := Bx.new W3 [.string n0, .slice a1 p1 q1, .string n2, .slice a5 p3 q3] 36
 cases o with
 | none =>
  have HNO : Hid (whyT s es x = none) := Lib.hid (by simp [whyT, HOK.out, ← HO.out])
  clear hq hE hba
  go_upto_region 4 with fail
  generalize W3.alloc (.cells #[.string n0, .slice a1 p1 q1, .string n2, .slice a5 p3 q3] 36) = U at *
  have r0 := hR.2.1 0 _ rfl; have zz0 := hR.2.2 0
  have r1 := hR.2.1 1 _ rfl; have zz1 := hR.2.2 1
  have r2 := hR.2.1 2 _ rfl; have zz2 := hR.2.2 2
  have r3 := hR.2.1 3 _ rfl; have zz3 := hR.2.2 3
  have gR := (((hR.put (k := 0) (by simp) (.string ⟨#[]⟩)).put (k := 1) (by simp) (.slice none 0 0)).put (k := 2) (by simp) (.string ⟨#[]⟩)).put (k := 3) (by simp) (.slice none 0 0)
  simp only [zek, zel] at gR
  have s0 := gR.2.1 0 _ rfl; have s1 := gR.2.1 1 _ rfl; have s2 := gR.2.1 2 _ rfl; have s3 := gR.2.1 3 _ rfl
  go_wp2_with fail
  refine bodyPost_ret (v := .tuple #[.agg #[.string ⟨#[]⟩, .slice none 0 0, .string ⟨#[]⟩, .slice none 0 0], .bool false]) (by simp [results, Tryz.results6, go_sem, s0, s1, s2, s3]) rfl ?_
  exact why_no HNO.out ((((hB.setCell (by show w.heap.size ≤ w.heap.size + 1 + 1; omega) _).setCell (by show w.heap.size ≤ w.heap.size + 1 + 1; omega) _).setCell (by show w.heap.size ≤ w.heap.size + 1 + 1; omega) _).setCell (by show w.heap.size ≤ w.heap.size + 1 + 1; omega) _)
 | some q =>
  obtain ⟨f, hrq, hfq⟩ := hq q rfl
  have hql := Wy.tells_lit hes 400 x q HO.out.symm
  replace hrq := hrq.below hba
  clear hq hba
  obtain ⟨k1, e1', fa, k3, e3', fb, hve, _, t0, t1, t2, t3⟩ := Eqn.open hrq
  simp only [List.cons.injEq, Value.string.injEq, Value.slice.injEq, and_true] at hve
  obtain ⟨rfl, ⟨rfl, rfl, rfl⟩, rfl, rfl, rfl, rfl⟩ := hve
  go_upto_region 4 with fail
  have hEz := hE.1
  obtain ⟨EB, hEB⟩ : ∃ B, B = W3.heap.size := ⟨_, rfl⟩
  rw [← hEB] at hE hEz ⊢
  have hER : EB ≠ w.heap.size + 1 + 1 := by omega
  clear hEB
  generalize W3.alloc (.cells #[.string q.a.name, .slice a1 q.a.kids.length q1, .string q.b.name, .slice a5 q.b.kids.length q3] 36) = U at *
  have b0 := zb U (.cells #[.string q.a.name, .slice a1 q.a.kids.length q1, .string q.b.name, .slice a5 q.b.kids.length q3] 36)
  obtain ⟨fr, hrow⟩ : ∃ f, Rd (U.alloc (.cells #[.string q.a.name, .slice a1 q.a.kids.length q1, .string q.b.name, .slice a5 q.b.kids.length q3] 36)) (.sl ([q].map Eqn.cd)) (.slice (some ⟨U.heap.size, 0, none⟩) 1 1) f := one_rd9 (hrq.below b0) (by simp) (fun j u hj => (Bx.new U [.string q.a.name, .slice a1 q.a.kids.length q1, .string q.b.name, .slice a5 q.b.kids.length q3] 36).2.1 j u hj)
  have s0' := hS.2.1 0 _ rfl
  have x0 := hX.2.1 0 _ rfl
  have x1 := hX.2.1 1 _ rfl
  have x2 := hX.2.1 2 _ rfl
  have x3 := hX.2.1 3 _ rfl
  have x4 := hX.2.1 4 _ rfl
  have e0 := hE.2.1 0 _ rfl; have e1 := hE.2.1 1 _ rfl; have e2 := hE.2.1 2 _ rfl; have e3 := hE.2.1 3 _ rfl
  go_wp2_with fail
  refine (zbz s [q] _ _ _ _ _ (one_big hql) (by simp) (by exact hrs.below b0) (by exact hrow)).mono ?_
  rintro e W4 ⟨rfl, hb⟩
  have hb4 := b0.trans (hb.mono b0.size)
  replace hS := hS.below hb4
  replace hX := hX.below hb4
  replace hR := hR.below hb4
  replace hrs := hrs.below hb4
  replace hx := hx.below hb4
  replace hxr := hxr.below hb4
  replace hB := hB.trans (hb4.mono hB.size)
  replace hE := hE.below hb4
  replace hrq := hrq.below hb4
  replace t1 := t1.below hb4
  replace t3 := t3.below hb4
  clear hb hb4 hrow b0 e0 e1 e2 e3
  clear s0' x0 x1 x2 x3 x4
  cases hk : eqsB s [q]
  ·have HNO : Hid (whyT s es x = none) := Lib.hid (by simp [whyT, HOK.out, ← HO.out, hk])
   clear hk
   have r0 := hR.2.1 0 _ rfl; have zz0 := hR.2.2 0
   have r1 := hR.2.1 1 _ rfl; have zz1 := hR.2.2 1
   have r2 := hR.2.1 2 _ rfl; have zz2 := hR.2.2 2
   have r3 := hR.2.1 3 _ rfl; have zz3 := hR.2.2 3
   have gR := (((hR.put (k := 0) (by simp) (.string ⟨#[]⟩)).put (k := 1) (by simp) (.slice none 0 0)).put (k := 2) (by simp) (.string ⟨#[]⟩)).put (k := 3) (by simp) (.slice none 0 0)
   simp only [zek, zel] at gR
   have s0 := gR.2.1 0 _ rfl; have s1 := gR.2.1 1 _ rfl; have s2 := gR.2.1 2 _ rfl; have s3 := gR.2.1 3 _ rfl
   go_wp2_with fail
   refine bodyPost_ret (v := .tuple #[.agg #[.string ⟨#[]⟩, .slice none 0 0, .string ⟨#[]⟩, .slice none 0 0], .bool false]) (by simp [results, Tryz.results6, go_sem, s0, s1, s2, s3]) rfl ?_
   exact why_no HNO.out ((((hB.setCell (by show w.heap.size ≤ w.heap.size + 1 + 1; omega) _).setCell (by show w.heap.size ≤ w.heap.size + 1 + 1; omega) _).setCell (by show w.heap.size ≤ w.heap.size + 1 + 1; omega) _).setCell (by show w.heap.size ≤ w.heap.size + 1 + 1; omega) _)
  have HY : Hid (whyT s es x = some q) := Lib.hid (by simp [whyT, HOK.out, ← HO.out, hk])
  clear hk
  go_upto_region 6 with fail
  have hta := TmR.mk t0 ⟨_, t1⟩
  have htb := TmR.mk t2 ⟨_, t3⟩
  have hqa := hql.1
  have hqb := hql.2
  have hR0 := hR.1
  clear hS hX hrs hx hxr t1 t3
  obtain ⟨v0, rfl⟩ : ∃ v, v = W4 := ⟨_, rfl⟩
  refine Ever.start (F := (fun U : World => U.cell? ⟨EB, 0, none⟩ = some (.string q.a.name) ∧ U.cell? ⟨EB, 1, none⟩ = some (.slice a1 q.a.kids.length q1) ∧ U.cell? ⟨EB, 2, none⟩ = some (.string q.b.name) ∧ U.cell? ⟨EB, 3, none⟩ = some (.slice a5 q.b.kids.length q3))) (by kernel_rfl) ?_
  have hF : (fun U : World => U.cell? ⟨EB, 0, none⟩ = some (.string q.a.name) ∧ U.cell? ⟨EB, 1, none⟩ = some (.slice a1 q.a.kids.length q1) ∧ U.cell? ⟨EB, 2, none⟩ = some (.string q.b.name) ∧ U.cell? ⟨EB, 3, none⟩ = some (.slice a5 q.b.kids.length q3)) _ := ⟨hE.2.1 0 _ rfl, hE.2.1 1 _ rfl, hE.2.1 2 _ rfl, hE.2.1 3 _ rfl⟩
  refine Ever.take (i := 0) (v := (.pointer (some ⟨EB, 0, none⟩))) rfl (by kernel_rfl) (by kernel_rfl) (by kernel_rfl) (fun _ _ _ h => h) (Or.inl ⟨by rfl, fun U hU => ?_⟩) hF ?_
  ·obtain ⟨e0F, e1F, e2F, e3F⟩ := hU
   go_simp
  try simp only [Act.put, zej, zek, zel]
  refine Ever.take (i := 1) (v := (.agg #[.string q.a.name, .slice a1 q.a.kids.length q1])) rfl (by kernel_rfl) (by kernel_rfl) (by kernel_rfl) (fun _ _ _ h => h) (Or.inl ⟨by rfl, fun U hU => ?_⟩) hF ?_
  ·obtain ⟨e0F, e1F, e2F, e3F⟩ := hU
   go_simp
  try simp only [Act.put, zej, zek, zel]
  refine Ever.take (i := 3) (v := (.pointer (some ⟨EB, 2, none⟩))) rfl (by kernel_rfl) (by kernel_rfl) (by kernel_rfl) (fun _ _ _ h => h) (Or.inl ⟨by rfl, fun U hU => ?_⟩) hF ?_
  ·obtain ⟨e0F, e1F, e2F, e3F⟩ := hU
   go_simp
  try simp only [Act.put, zej, zek, zel]
  refine Ever.take (i := 4) (v := (.agg #[.string q.b.name, .slice a5 q.b.kids.length q3])) rfl (by kernel_rfl) (by kernel_rfl) (by kernel_rfl) (fun _ _ _ h => h) (Or.inl ⟨by rfl, fun U hU => ?_⟩) hF ?_
  ·obtain ⟨e0F, e1F, e2F, e3F⟩ := hU
   go_simp
  try simp only [Act.put, zej, zek, zel]
  refine Ever.one (i := 2) (by kernel_rfl) rfl (fun J9 hK => ?_)
  go_simp
  go_wp2_with (go_at_call 26; refine (zaS _ q.a _ _ (Nat.le_refl _) (by omega) (by exact hta.drew)).mono ?_; rintro e v1 ⟨kv, fA, rfl, hrA, hfA, hbu⟩)
  obtain ⟨j1, g1, rfl, _, _⟩ := zd hrA
  replace hbu := zh hbu
  have hfA' : Fresh v0.heap.size v1 fA := hfA
  replace hE := hE.below hbu
  replace hR := hR.below hbu
  replace htb := htb.below hbu
  replace hB := hB.trans (hbu.mono hB.size)
  have hzA := hbu.size
  clear hbu hfA
  replace hF : (fun U : World => U.cell? ⟨EB, 0, none⟩ = some (.string q.a.name) ∧ U.cell? ⟨EB, 1, none⟩ = some (.slice a1 q.a.kids.length q1) ∧ U.cell? ⟨EB, 2, none⟩ = some (.string q.b.name) ∧ U.cell? ⟨EB, 3, none⟩ = some (.slice a5 q.b.kids.length q3)) _ := ⟨hE.2.1 0 _ rfl, hE.2.1 1 _ rfl, hE.2.1 2 _ rfl, hE.2.1 3 _ rfl⟩
  refine hK.out _ _ hF ?_
  clear hK
  try simp only [Act.put, zej, zek, zel]
  refine Ever.one (i := 5) (by kernel_rfl) rfl (fun J9 hK => ?_)
  go_simp
  go_wp2_with (go_at_call 26; refine (zaS _ q.b _ _ (Nat.le_refl _) (by omega) (by exact htb)).mono ?_; rintro e v2 ⟨kv2, fB, rfl, hrB, hfB, hbu⟩)
  obtain ⟨j3, g3, rfl, _, _⟩ := zd hrB
  replace hE := hE.below hbu
  replace hR := hR.below hbu
  replace hrA := hrA.below hbu
  have hfAB := Fresh.app (hfA'.below hbu) hfA'.lt hzA hfB
  replace hB := hB.trans (hbu.mono hB.size)
  clear hbu hfB hfA' htb hta
  replace hF : (fun U : World => U.cell? ⟨EB, 0, none⟩ = some (.string q.a.name) ∧ U.cell? ⟨EB, 1, none⟩ = some (.slice a1 q.a.kids.length q1) ∧ U.cell? ⟨EB, 2, none⟩ = some (.string q.b.name) ∧ U.cell? ⟨EB, 3, none⟩ = some (.slice a5 q.b.kids.length q3)) _ := ⟨hE.2.1 0 _ rfl, hE.2.1 1 _ rfl, hE.2.1 2 _ rfl, hE.2.1 3 _ rfl⟩
  refine hK.out _ _ hF ?_
  clear hK
  try simp only [Act.put, zej, zek, zel]
  refine Ever.take (i := 6) (v := (.agg #[.string q.a.name, .slice j1 q.a.kids.length g1, .string q.b.name, .slice j3 q.b.kids.length g3])) rfl (by kernel_rfl) (by kernel_rfl) (by kernel_rfl) (fun _ _ _ h => h) (Or.inl ⟨by rfl, fun U hU => ?_⟩) hF ?_
  ·obtain ⟨e0F, e1F, e2F, e3F⟩ := hU
   go_simp
  try simp only [Act.put, zej, zek, zel]
  refine Ever.one (i := 7) (by kernel_rfl) rfl (fun J9 hK => ?_)
  have r0 := hR.2.1 0 _ rfl; have zz0 := hR.2.2 0
  have r1 := hR.2.1 1 _ rfl; have zz1 := hR.2.2 1
  have r2 := hR.2.1 2 _ rfl; have zz2 := hR.2.2 2
  have r3 := hR.2.1 3 _ rfl; have zz3 := hR.2.2 3
  go_simp
  have gR := (((hR.put (k := 0) (by simp) (.string q.a.name)).put (k := 1) (by simp) (.slice j1 q.a.kids.length g1)).put (k := 2) (by simp) (.string q.b.name)).put (k := 3) (by simp) (.slice j3 q.b.kids.length g3)
  simp only [zek, zel] at gR
  replace hF : (fun U : World => U.cell? ⟨EB, 0, none⟩ = some (.string q.a.name) ∧ U.cell? ⟨EB, 1, none⟩ = some (.slice a1 q.a.kids.length q1) ∧ U.cell? ⟨EB, 2, none⟩ = some (.string q.b.name) ∧ U.cell? ⟨EB, 3, none⟩ = some (.slice a5 q.b.kids.length q3)) _ := ⟨so4 hER (v0 := .string q.a.name) (v1 := .slice j1 q.a.kids.length g1) (v2 := .string q.b.name) (v3 := .slice j3 q.b.kids.length g3) (hE.2.1 0 _ rfl), so4 hER (v0 := .string q.a.name) (v1 := .slice j1 q.a.kids.length g1) (v2 := .string q.b.name) (v3 := .slice j3 q.b.kids.length g3) (hE.2.1 1 _ rfl), so4 hER (v0 := .string q.a.name) (v1 := .slice j1 q.a.kids.length g1) (v2 := .string q.b.name) (v3 := .slice j3 q.b.kids.length g3) (hE.2.1 2 _ rfl), so4 hER (v0 := .string q.a.name) (v1 := .slice j1 q.a.kids.length g1) (v2 := .string q.b.name) (v3 := .slice j3 q.b.kids.length g3) (hE.2.1 3 _ rfl)⟩
  refine hK.out _ _ hF ?_
  clear hK
  try simp only [Act.put, zej, zek, zel]
  refine Ever.one (i := 8) (by kernel_rfl) rfl (fun J9 hK => ?_)
  go_simp
  refine hK.out _ _ hF ?_
  clear hK
  try simp only [Act.put, zej, zek, zel]
  refine Ever.done (by kernel_rfl) ?_ _
  have s0 := gR.2.1 0 _ rfl; have s1 := gR.2.1 1 _ rfl; have s2 := gR.2.1 2 _ rfl; have s3 := gR.2.1 3 _ rfl
  go_wp2_with fail
  refine bodyPost_ret (v := .tuple #[.agg #[.string q.a.name, .slice j1 q.a.kids.length g1, .string q.b.name, .slice j3 q.b.kids.length g3], .bool true]) (by simp [results, Tryz.results6, go_sem, s0, s1, s2, s3]) rfl ?_
  rw [HY.out]
  have hq := Eqn.close (x := q) t0 hrA t2 hrB
  have hsm : SameOn (fA ++ fB) v2 ((((v2.setCell ⟨w.heap.size + 1 + 1, 0, none⟩ (.string q.a.name)).setCell ⟨w.heap.size + 1 + 1, 1, none⟩ (.slice j1 q.a.kids.length g1)).setCell ⟨w.heap.size + 1 + 1, 2, none⟩ (.string q.b.name)).setCell ⟨w.heap.size + 1 + 1, 3, none⟩ (.slice j3 q.b.kids.length g3)) := fun b hb => zc8 b (by have := (hfAB.2 b hb).1; omega)
  exact ⟨_, _, rfl, hq.same _ hsm, (hfAB.same hsm).mono (by omega), ((((hB.setCell (by show w.heap.size ≤ w.heap.size + 1 + 1; omega) _).setCell (by show w.heap.size ≤ w.heap.size + 1 + 1; omega) _).setCell (by show w.heap.size ≤ w.heap.size + 1 + 1; omega) _).setCell (by show w.heap.size ≤ w.heap.size + 1 + 1; omega) _)⟩
end Go.Proofs.YtlefdhhnlbpbkaaGreat
end
