/- Parts of the proof: WhU. -/
import Derived.Test.YtlefdhhnlbpbkaaGreatPv32
import Derived.Test.YtlefdhhnlbpbkaaGreatPv28
section
namespace Go.Proofs.YtlefdhhnlbpbkaaGreat
open Go Go.RowKit
set_option linter.unusedVariables false
set_option linter.unusedSimpArgs false
set_option maxRecDepth 100000
set_option maxHeartbeats 16000000
def Wy.zero9 : Wy := .mk 0 0 ⟨⟨#[]⟩, []⟩ []
def zag (s : Sg) (es : List Eqn) (a b : Tm) : Wy := if zad s es a b = true then whyW (zx es [a, b]) (cloS es [a, b]) (cloS es [a, b]).length (cloS es [a, b]).length (Tm.pos (zx es [a, b]) a) (Tm.pos (zx es [a, b]) b) else Wy.zero9
def zdq (s : Sg) (es : List Eqn) (a b : Tm) (w : World) (e : Ending) (w' : World) : Prop := ∃ (W : Wy) (a3 : Option Addr) (c3 : Nat) (a4 : Option Addr) (c4 : Nat) (f : List Nat), Hid (W = zag s es a b) ∧ e = .returned (.tuple #[.agg #[.int .i64 W.rule, .int .i64 W.n, .string W.t.name, .slice a3 W.t.kids.length c3, .slice a4 W.kids.length c4], .bool (zad s es a b)]) ∧
 RdVs w' W.cd [.int .i64 W.rule, .int .i64 W.n, .string W.t.name, .slice a3 W.t.kids.length c3, .slice a4 W.kids.length c4] f ∧ (∀ x ∈ f, w.heap.size ≤ x) ∧ Below w.heap.size w w' ∧ KidsOwn w.heap.size w' W (.slice a4 W.kids.length c4)
theorem zdJ {ps : List Tm} : ∀ (f : Nat) (c : List Nat) (st : List Stp), (Clo.run ps f c st).2.length ≤ st.length + f
 | 0, c, st => Nat.le_refl _
 | f + 1, c, st => by
  cases hn : Clo.next ps c with
  | none => rw [Clo.run_none hn]; simp
  | some q =>
   obtain ⟨k, i⟩ := q
   rw [Clo.run_some hn]
   have := zdJ (ps := ps) f (Clo.join c k i) (st ++ [⟨k, i, -1⟩])
   simp only [zet, List.length_singleton] at this
   omega
theorem zbb {ps : List Tm} : ∀ (es : List Eqn) (n : Nat) (c : List Nat) (st : List Stp), (Clo.given ps es n c st).2.length ≤ st.length + es.length
 | [], n, c, st => by simp [Clo.given]
 | e :: es, n, c, st => by
  unfold Clo.given
  split
  ·have := zbb (ps := ps) es (n + 1) c st; simp only [List.length_cons]; omega
  ·have := zbb (ps := ps) es (n + 1) (Clo.join c (Tm.pos ps e.a) (Tm.pos ps e.b)) (st ++ [⟨Tm.pos ps e.a, Tm.pos ps e.b, n⟩])
   simp only [zet, List.length_cons, List.length_nil] at this ⊢
   omega
theorem zea (ps : List Tm) (es : List Eqn) : (Clo.close ps es).2.length ≤ es.length + ps.length := by
 unfold Clo.close
 have h1 := zdJ (ps := ps) ps.length (Clo.given ps es 0 (List.range ps.length) []).1 (Clo.given ps es 0 (List.range ps.length) []).2
 have h2 := zbb (ps := ps) es 0 (List.range ps.length) []
 simp only [List.length_nil] at h2
 simp only
 omega
theorem zdr {s : Sg} {es : List Eqn} {a b : Tm} (h : zad s es a b = true) : zar s es [a, b] = true := by
 unfold zad at h
 simp only [zex] at h
 exact h.1
theorem zcW (s : Sg) (es : List Eqn) (a b : Tm) (vs ua ub : List Value) (v : Value) (f f' fa fb : List Nat) (w : World) (hbig : Tm.sizes (zj es ++ [a, b]) ≤ 1000000000) (hkl : Hid (∀ t ∈ zx es [a, b], t.kids.length ≤ 1048576)) (hsz : Hid (∀ t ∈ zx es [a, b], t.size ≤ 1000000000)) (hv : RdVs w s.cd vs f) (hx : Rd w (.sl (es.map Eqn.cd)) v f') (ha : RdVs w a.cd ua fa) (hb : RdVs w b.cd ub fb) :
  Calls Tryz.prog 21 #[.agg vs.toArray, v, .agg ua.toArray, .agg ub.toArray] w (zdq s es a b w) := by
 obtain ⟨a0, c0, f0, rfl, _, m0⟩ := Sg.open hv
 obtain ⟨ea, ec, rfl, hc1, hc2⟩ := zd hx
 obtain ⟨xa, xc, xf, rfl, _, xs, xk⟩ := Tm.open ha
 obtain ⟨ya, yc, yf, rfl, _, ys, yk⟩ := Tm.open hb
 have hS := (((Box.new w [.slice a0 s.syms.length c0] 25).alloc (.cells #[.string a.name, .slice xa a.kids.length xc] 29)).alloc (.cells #[.string b.name, .slice ya b.kids.length yc] 29)).alloc (.cells #[.int .i64 0, .int .i64 0, .string ⟨#[]⟩, .slice none 0 0, .slice none 0 0] 32)
 have hA := ((Box.new (w.alloc (.cells #[.slice a0 s.syms.length c0] 25)) [.string a.name, .slice xa a.kids.length xc] 29).alloc (.cells #[.string b.name, .slice ya b.kids.length yc] 29)).alloc (.cells #[.int .i64 0, .int .i64 0, .string ⟨#[]⟩, .slice none 0 0, .slice none 0 0] 32)
 have hB := (Box.new ((w.alloc (.cells #[.slice a0 s.syms.length c0] 25)).alloc (.cells #[.string a.name, .slice xa a.kids.length xc] 29)) [.string b.name, .slice ya b.kids.length yc] 29).alloc (.cells #[.int .i64 0, .int .i64 0, .string ⟨#[]⟩, .slice none 0 0, .slice none 0 0] 32)
 have hR := Box.new (((w.alloc (.cells #[.slice a0 s.syms.length c0] 25)).alloc (.cells #[.string a.name, .slice xa a.kids.length xc] 29)).alloc (.cells #[.string b.name, .slice ya b.kids.length yc] 29)) [.int .i64 0, .int .i64 0, .string ⟨#[]⟩, .slice none 0 0, .slice none 0 0] 32
 simp only [World.size_alloc] at hA hB hR
 have hbw : Below w.heap.size w ((((w.alloc (.cells #[.slice a0 s.syms.length c0] 25)).alloc (.cells #[.string a.name, .slice xa a.kids.length xc] 29)).alloc (.cells #[.string b.name, .slice ya b.kids.length yc] 29)).alloc (.cells #[.int .i64 0, .int .i64 0, .string ⟨#[]⟩, .slice none 0 0, .slice none 0 0] 32)) := (((zb _ _).alloc (by simp) _).alloc (by simp; omega) _).alloc (by simp; omega) _
 go_enter Tryz.func21, Tryz.ntmps21
 go_upto_region 1 with fail
 generalize (((w.alloc (.cells #[.slice a0 s.syms.length c0] 25)).alloc (.cells #[.string a.name, .slice xa a.kids.length xc] 29)).alloc (.cells #[.string b.name, .slice ya b.kids.length yc] 29)).alloc (.cells #[.int .i64 0, .int .i64 0, .string ⟨#[]⟩, .slice none 0 0, .slice none 0 0] 32) = w0 at *
 have s0 := hS.2.1 0 _ rfl; have x0 := hA.2.1 0 _ rfl; have x1 := hA.2.1 1 _ rfl; have y0 := hB.2.1 0 _ rfl; have y1 := hB.2.1 1 _ rfl
 go_wp2_with fail
 refine (zdm s es a b _ _ _ _ _ _ _ _ _ hbig (by exact hv.below hbw) (by exact hx.below hbw) (by exact ha.below hbw) (by exact hb.below hbw)).mono ?_
 rintro e w1 ⟨rfl, hb1⟩
 replace hA := hA.below hb1; replace hB := hB.below hb1; replace hR := hR.below hb1
 replace hbw := hbw.trans (hb1.mono hbw.size)
 clear hb1 s0 x0 x1 y0 y1 hS
 cases his : zad s es a b
 ·have HSW : Hid (zag s es a b = Wy.zero9) := Lib.hid (by unfold zag; rw [his]; rfl)
  have HIS := Lib.hid his
  clear his
  have r0 := hR.2.1 0 _ rfl; have r1 := hR.2.1 1 _ rfl; have r2 := hR.2.1 2 _ rfl; have r3 := hR.2.1 3 _ rfl; have r4 := hR.2.1 4 _ rfl
  have z0 := hR.2.2 0; have z1 := hR.2.2 1; have z2 := hR.2.2 2; have z3 := hR.2.2 3; have z4 := hR.2.2 4
  have gR := hR.puts [.int .i64 0, .int .i64 0, .string ⟨#[]⟩, .slice none 0 0, .slice none 0 0] rfl
  have hKK := (Same2.refl (w.heap.size + 1 + 1 + 1) (w.heap.size + 1 + 1 + 1) w1).sets (b := w.heap.size + 1 + 1 + 1) (.inl rfl) (ze 0 [.int .i64 0, .int .i64 0, .string ⟨#[]⟩, .slice none 0 0, .slice none 0 0])
  have hBE := zr (b := w.heap.size + 1 + 1 + 1) (by omega) (ze 0 [.int .i64 0, .int .i64 0, .string ⟨#[]⟩, .slice none 0 0, .slice none 0 0]) hbw
  simp only [zA, ze] at gR hKK hBE
  clear hR
  go_wp2_with fail
  have e0 := gR.2.1 0 _ rfl; have e1 := gR.2.1 1 _ rfl; have e2 := gR.2.1 2 _ rfl; have e3 := gR.2.1 3 _ rfl; have e4 := gR.2.1 4 _ rfl
  refine bodyPost_ret (v := .tuple #[.agg #[.int .i64 0, .int .i64 0, .string ⟨#[]⟩, .slice none 0 0, .slice none 0 0], .bool false]) (by simp [results, Tryz.results21, go_sem, e0, e1, e2, e3, e4]) rfl ?_
  exact ⟨Wy.zero9, none, 0, none, 0, [], Lib.hid HSW.out.symm, by rw [HIS.out]; rfl, zbG ⟨by decide, by decide⟩ ⟨by decide, by decide⟩ (Nat.zero_le _), by simp, hBE, KidsOwn.nil rfl⟩
 ·have HSW : Hid (zag s es a b = whyW (zx es [a, b]) (cloS es [a, b]) (cloS es [a, b]).length (cloS es [a, b]).length (Tm.pos (zx es [a, b]) a) (Tm.pos (zx es [a, b]) b)) := Lib.hid (by unfold zag; rw [if_pos his])
  obtain ⟨hl12, hl24⟩ := zaC (zdr his)
  have HIS := Lib.hid his
  clear his
  have x0 := hA.2.1 0 _ rfl; have x1 := hA.2.1 1 _ rfl; have y0 := hB.2.1 0 _ rfl; have y1 := hB.2.1 1 _ rfl
  have hal := hA.1; have hbl := hB.1
  have hba := zb w1 (.cells #[.string a.name, .slice xa a.kids.length xc, .string b.name, .slice ya b.kids.length yc] 29)
  have hcn := zn w1 [.string a.name, .slice xa a.kids.length xc, .string b.name, .slice ya b.kids.length yc] 29
  have hkl1 : w1.heap.size < (w1.alloc (.cells #[.string a.name, .slice xa a.kids.length xc, .string b.name, .slice ya b.kids.length yc] 29)).heap.size := by simp
  obtain ⟨fm, hm2⟩ := tms2_rd (W := w1.alloc (.cells #[.string a.name, .slice xa a.kids.length xc, .string b.name, .slice ya b.kids.length yc] 29)) (a := a) (b := b) (g := w1.heap.size) (by exact (ha.below hbw).below hba) (by exact (hb.below hbw).below hba) hkl1 (fun j u hj => by have h9 := hcn j u hj; rw [Addr.add_lit, Nat.zero_add] at h9; exact h9)
  go_wp2_with fail
  refine (zO es [a, b] _ _ _ _ _ hbig (by exact (hx.below hbw).below hba) (by exact hm2)).mono ?_
  rintro e w2 ⟨⟨rv, fp, rfl, hr, hfr⟩, hb2⟩
  replace hb2 := hba.trans (hb2.mono (Nat.le_of_lt hkl1))
  change Rd w2 (.sl ((zx es [a, b]).map Tm.cd)) rv fp at hr
  have hp := hr
  clear hr
  obtain ⟨ra, rc, rfl, _, _⟩ := zd hp
  replace hA := hA.below hb2; replace hB := hB.below hb2; replace hR := hR.below hb2
  replace hbw := hbw.trans (hb2.mono hbw.size)
  have hma : a ∈ zx es [a, b] := zas (List.mem_append_right _ (by simp))
  have hmb : b ∈ zx es [a, b] := zas (List.mem_append_right _ (by simp))
  have HO := Lib.hid (zbA es [a, b])
  have HE := Lib.hid (zat es [a, b])
  have HCC : Hid (cloS es [a, b] = (Clo.close (zx es [a, b]) es).2) := Lib.hid rfl
  have HFIT : Hid (∀ q ∈ cloS es [a, b], zax (zx es [a, b]) q) := Lib.hid (close_fit (zat es [a, b]) (by omega))
  have hsl0 : (cloS es [a, b]).length ≤ es.length + (zx es [a, b]).length := zea _ _
  have HSZ := hsz
  have HKL := hkl
  clear hba hcn hm2 hkl1 x0 x1 y0 y1 hal hbl hb2 hsz hkl
  generalize cloS es [a, b] = st at *
  generalize zx es [a, b] = ps at *
  have hsl : st.length ≤ 1000000 := by omega
  have hpl : ps.length ≤ 1000000 := by omega
  have hpa := (Tm.pos_yes hma).1
  have hpb := (Tm.pos_yes hmb).1
  go_wp2_with fail
  refine (zby ps es _ _ _ _ HO.out (by omega) (by omega) HE.out ⟨fp, hp⟩ (hx.below hbw)).mono ?_
  rintro e w4 ⟨sv, cv, rfl, st9⟩
  rw [← HCC.out] at st9
  obtain ⟨sfp, hst⟩ := st9.srow.rd'
  obtain ⟨sa, sc, rfl, _, _⟩ := zd hst
  obtain ⟨ca, cn, cc, rfl⟩ := st9.crow.form'
  have hb4 := st9.bel
  replace hA := hA.below hb4; replace hB := hB.below hb4; replace hR := hR.below hb4
  replace hp := hp.below hb4
  replace hbw := hbw.trans (hb4.mono hbw.size)
  clear hb4 st9 hsl0
  obtain ⟨_, _, _, hae, _, han, hak⟩ := Tm.open (ha.below hbw)
  obtain ⟨_, _, _, hbe, _, hbn, hbk⟩ := Tm.open (hb.below hbw)
  simp only [List.cons.injEq, Value.slice.injEq, and_true, true_and] at hae hbe
  obtain ⟨rfl, rfl⟩ := hae
  obtain ⟨rfl, rfl⟩ := hbe
  have hbd := zi w4
  replace hak := hak.below hbd; replace hbk := hbk.below hbd
  replace hA := hA.below hbd
  replace hB := hB.below hbd
  replace hR := hR.below hbd
  replace hp := hp.below hbd
  replace hst := hst.below hbd
  replace hbw := hbw.trans (hbd.mono hbw.size)
  clear hbd
  go_upto_region 5 with fail
  refine Ever.start (F := (fun U : World => U.cell? ⟨w.heap.size + 1, 0, none⟩ = some (.string a.name) ∧ U.cell? ⟨w.heap.size + 1, 1, none⟩ = some (.slice xa a.kids.length xc) ∧ U.cell? ⟨w.heap.size + 1 + 1, 0, none⟩ = some (.string b.name) ∧ U.cell? ⟨w.heap.size + 1 + 1, 1, none⟩ = some (.slice ya b.kids.length yc))) (by kernel_rfl) ?_
  generalize w4.drew = v0 at *
  have hF9 : (fun U : World => U.cell? ⟨w.heap.size + 1, 0, none⟩ = some (.string a.name) ∧ U.cell? ⟨w.heap.size + 1, 1, none⟩ = some (.slice xa a.kids.length xc) ∧ U.cell? ⟨w.heap.size + 1 + 1, 0, none⟩ = some (.string b.name) ∧ U.cell? ⟨w.heap.size + 1 + 1, 1, none⟩ = some (.slice ya b.kids.length yc)) v0 := ⟨hA.2.1 0 _ rfl, hA.2.1 1 _ rfl, hB.2.1 0 _ rfl, hB.2.1 1 _ rfl⟩
  refine Ever.take (i := 0) (v := (.slice ra ps.length rc)) rfl (by kernel_rfl) (by kernel_rfl) (by kernel_rfl) (fun _ _ _ h => h) (Or.inl ⟨by rfl, fun U hU => ?_⟩) hF9 ?_
  ·obtain ⟨u0F, u1F, u2F, u3F⟩ := hU
   go_simp
  try simp only [Act.put, zej, zek, zel]
  refine Ever.take (i := 1) (v := (.slice sa st.length sc)) rfl (by kernel_rfl) (by kernel_rfl) (by kernel_rfl) (fun _ _ _ h => h) (Or.inl ⟨by rfl, fun U hU => ?_⟩) hF9 ?_
  ·obtain ⟨u0F, u1F, u2F, u3F⟩ := hU
   go_simp
  try simp only [Act.put, zej, zek, zel]
  refine Ever.take (i := 2) (v := (.slice sa st.length sc)) rfl (by kernel_rfl) (by kernel_rfl) (by kernel_rfl) (fun _ _ _ h => h) (Or.inl ⟨by rfl, fun U hU => ?_⟩) hF9 ?_
  ·obtain ⟨u0F, u1F, u2F, u3F⟩ := hU
   go_simp
  try simp only [Act.put, zej, zek, zel]
  refine Ever.take (i := 3) (v := (.int .i64 st.length)) rfl (by kernel_rfl) (by kernel_rfl) (by kernel_rfl) (fun _ _ _ h => h) (Or.inl ⟨by rfl, fun U hU => ?_⟩) hF9 ?_
  ·obtain ⟨u0F, u1F, u2F, u3F⟩ := hU
   go_simp
  try simp only [Act.put, zej, zek, zel]
  refine Ever.take (i := 4) (v := (.slice ra ps.length rc)) rfl (by kernel_rfl) (by kernel_rfl) (by kernel_rfl) (fun _ _ _ h => h) (Or.inl ⟨by rfl, fun U hU => ?_⟩) hF9 ?_
  ·obtain ⟨u0F, u1F, u2F, u3F⟩ := hU
   go_simp
  try simp only [Act.put, zej, zek, zel]
  refine Ever.take (i := 5) (v := (.agg #[.string a.name, .slice xa a.kids.length xc])) rfl (by kernel_rfl) (by kernel_rfl) (by kernel_rfl) (fun _ _ _ h => h) (Or.inl ⟨by rfl, fun U hU => ?_⟩) hF9 ?_
  ·obtain ⟨u0F, u1F, u2F, u3F⟩ := hU
   go_simp
  try simp only [Act.put, zej, zek, zel]
  refine Ever.take (i := 7) (v := (.slice ra ps.length rc)) rfl (by kernel_rfl) (by kernel_rfl) (by kernel_rfl) (fun _ _ _ h => h) (Or.inl ⟨by rfl, fun U hU => ?_⟩) hF9 ?_
  ·obtain ⟨u0F, u1F, u2F, u3F⟩ := hU
   go_simp
  try simp only [Act.put, zej, zek, zel]
  refine Ever.take (i := 8) (v := (.agg #[.string b.name, .slice ya b.kids.length yc])) rfl (by kernel_rfl) (by kernel_rfl) (by kernel_rfl) (fun _ _ _ h => h) (Or.inl ⟨by rfl, fun U hU => ?_⟩) hF9 ?_
  ·obtain ⟨u0F, u1F, u2F, u3F⟩ := hU
   go_simp
  try simp only [Act.put, zej, zek, zel]
  refine Ever.one (i := 6) (by kernel_rfl) rfl (fun J9 hK => ?_)
  go_simp
  go_wp2_with (go_at_call 50; refine (zC ps a _ _ _ HO.out hma ⟨_, hp⟩ (TmR.mk han ⟨_, hak⟩)).mono ?_; rintro e v1 ⟨rfl, hb⟩)
  replace hA := hA.below hb
  replace hB := hB.below hb
  replace hR := hR.below hb
  replace hp := hp.below hb
  replace hst := hst.below hb
  replace hbk := hbk.below hb
  replace hbw := hbw.trans (hb.mono hbw.size)
  clear hb hak
  replace hF9 : (fun U : World => U.cell? ⟨w.heap.size + 1, 0, none⟩ = some (.string a.name) ∧ U.cell? ⟨w.heap.size + 1, 1, none⟩ = some (.slice xa a.kids.length xc) ∧ U.cell? ⟨w.heap.size + 1 + 1, 0, none⟩ = some (.string b.name) ∧ U.cell? ⟨w.heap.size + 1 + 1, 1, none⟩ = some (.slice ya b.kids.length yc)) _ := ⟨hA.2.1 0 _ rfl, hA.2.1 1 _ rfl, hB.2.1 0 _ rfl, hB.2.1 1 _ rfl⟩
  refine hK.out _ _ hF9 ?_
  clear hK
  try simp only [Act.put, zej, zek, zel]
  refine Ever.one (i := 9) (by kernel_rfl) rfl (fun J9 hK => ?_)
  go_simp
  go_wp2_with (go_at_call 50; refine (zC ps b _ _ _ HO.out hmb ⟨_, hp⟩ (TmR.mk hbn ⟨_, hbk⟩)).mono ?_; rintro e v2 ⟨rfl, hb⟩)
  replace hA := hA.below hb
  replace hB := hB.below hb
  replace hR := hR.below hb
  replace hp := hp.below hb
  replace hst := hst.below hb
  replace hbw := hbw.trans (hb.mono hbw.size)
  clear hb hbk
  replace hF9 : (fun U : World => U.cell? ⟨w.heap.size + 1, 0, none⟩ = some (.string a.name) ∧ U.cell? ⟨w.heap.size + 1, 1, none⟩ = some (.slice xa a.kids.length xc) ∧ U.cell? ⟨w.heap.size + 1 + 1, 0, none⟩ = some (.string b.name) ∧ U.cell? ⟨w.heap.size + 1 + 1, 1, none⟩ = some (.slice ya b.kids.length yc)) _ := ⟨hA.2.1 0 _ rfl, hA.2.1 1 _ rfl, hB.2.1 0 _ rfl, hB.2.1 1 _ rfl⟩
  refine hK.out _ _ hF9 ?_
  clear hK
  try simp only [Act.put, zej, zek, zel]
  refine Ever.one (i := 10) (by kernel_rfl) rfl (fun J9 hK => ?_)
  go_simp
  go_wp2_with (go_at_call 49; refine (l5Why_n ps st _ _ HO HFIT hsl hpl HSZ HKL st.length st.length (Nat.le_refl _) (Nat.le_refl _) _ _ _ _ hpa hpb ⟨_, hp⟩ hst).mono ?_; rintro e v3 ⟨a3, c3, a4, c4, wf, rfl, hrw, hwf, hb, hko⟩)
  obtain ⟨W, HW⟩ : ∃ W, Hid (W = whyW ps st st.length st.length (Tm.pos ps a) (Tm.pos ps b)) := ⟨_, Lib.hid rfl⟩
  rw [← HW.out] at hrw hko ⊢
  have hwf2 : ∀ x ∈ wf, w.heap.size + 1 + 1 + 1 < x := fun x hx => by have := hwf x hx; have := hR.1; omega
  replace hko := hko.mono (lo' := w.heap.size + 1 + 1 + 1 + 1) (by have := hR.1; omega)
  replace hA := hA.below hb
  replace hB := hB.below hb
  replace hR := hR.below hb
  replace hbw := hbw.trans (hb.mono hbw.size)
  clear hb hwf hp hst
  replace hF9 : (fun U : World => U.cell? ⟨w.heap.size + 1, 0, none⟩ = some (.string a.name) ∧ U.cell? ⟨w.heap.size + 1, 1, none⟩ = some (.slice xa a.kids.length xc) ∧ U.cell? ⟨w.heap.size + 1 + 1, 0, none⟩ = some (.string b.name) ∧ U.cell? ⟨w.heap.size + 1 + 1, 1, none⟩ = some (.slice ya b.kids.length yc)) _ := ⟨hA.2.1 0 _ rfl, hA.2.1 1 _ rfl, hB.2.1 0 _ rfl, hB.2.1 1 _ rfl⟩
  refine hK.out _ _ hF9 ?_
  clear hK
  try simp only [Act.put, zej, zek, zel]
  refine Ever.one (i := 11) (by kernel_rfl) rfl (fun J9 hK => ?_)
  have r0 := hR.2.1 0 _ rfl; have r1 := hR.2.1 1 _ rfl; have r2 := hR.2.1 2 _ rfl; have r3 := hR.2.1 3 _ rfl; have r4 := hR.2.1 4 _ rfl
  have z0 := hR.2.2 0; have z1 := hR.2.2 1; have z2 := hR.2.2 2; have z3 := hR.2.2 3; have z4 := hR.2.2 4
  go_simp
  have gR := hR.puts [.int .i64 W.rule, .int .i64 W.n, .string W.t.name, .slice a3 W.t.kids.length c3, .slice a4 W.kids.length c4] rfl
  have hKK := (Same2.refl (w.heap.size + 1 + 1 + 1) (w.heap.size + 1 + 1 + 1) v3).sets (b := w.heap.size + 1 + 1 + 1) (.inl rfl) (ze 0 [.int .i64 W.rule, .int .i64 W.n, .string W.t.name, .slice a3 W.t.kids.length c3, .slice a4 W.kids.length c4])
  have hBE := zr (b := w.heap.size + 1 + 1 + 1) (by omega) (ze 0 [.int .i64 W.rule, .int .i64 W.n, .string W.t.name, .slice a3 W.t.kids.length c3, .slice a4 W.kids.length c4]) hbw
  simp only [zA, ze] at gR hKK hBE
  replace hA := hA.sets_other (b := w.heap.size + 1 + 1 + 1) (.inl (by omega)) (ze 0 [.int .i64 W.rule, .int .i64 W.n, .string W.t.name, .slice a3 W.t.kids.length c3, .slice a4 W.kids.length c4])
  replace hB := hB.sets_other (b := w.heap.size + 1 + 1 + 1) (.inl (by omega)) (ze 0 [.int .i64 W.rule, .int .i64 W.n, .string W.t.name, .slice a3 W.t.kids.length c3, .slice a4 W.kids.length c4])
  simp only [zA, ze] at hA hB
  have hrw2 := hrw.same2 hKK (fun x hx => by have := hwf2 x hx; omega)
  have hko2 := (hko.same2 hKK (by omega)).mono (lo' := w.heap.size) (by omega)
  clear hR hrw hko hKK
  replace hF9 : (fun U : World => U.cell? ⟨w.heap.size + 1, 0, none⟩ = some (.string a.name) ∧ U.cell? ⟨w.heap.size + 1, 1, none⟩ = some (.slice xa a.kids.length xc) ∧ U.cell? ⟨w.heap.size + 1 + 1, 0, none⟩ = some (.string b.name) ∧ U.cell? ⟨w.heap.size + 1 + 1, 1, none⟩ = some (.slice ya b.kids.length yc)) _ := ⟨hA.2.1 0 _ rfl, hA.2.1 1 _ rfl, hB.2.1 0 _ rfl, hB.2.1 1 _ rfl⟩
  refine hK.out _ _ hF9 ?_
  clear hK
  try simp only [Act.put, zej, zek, zel]
  refine Ever.one (i := 12) (by kernel_rfl) rfl (fun J9 hK => ?_)
  go_simp
  replace hF9 : (fun U : World => U.cell? ⟨w.heap.size + 1, 0, none⟩ = some (.string a.name) ∧ U.cell? ⟨w.heap.size + 1, 1, none⟩ = some (.slice xa a.kids.length xc) ∧ U.cell? ⟨w.heap.size + 1 + 1, 0, none⟩ = some (.string b.name) ∧ U.cell? ⟨w.heap.size + 1 + 1, 1, none⟩ = some (.slice ya b.kids.length yc)) _ := ⟨hA.2.1 0 _ rfl, hA.2.1 1 _ rfl, hB.2.1 0 _ rfl, hB.2.1 1 _ rfl⟩
  refine hK.out _ _ hF9 ?_
  clear hK
  try simp only [Act.put, zej, zek, zel]
  refine Ever.done (by kernel_rfl) ?_ _
  go_wp2_with fail
  have e0 := gR.2.1 0 _ rfl; have e1 := gR.2.1 1 _ rfl; have e2 := gR.2.1 2 _ rfl; have e3 := gR.2.1 3 _ rfl; have e4 := gR.2.1 4 _ rfl
  refine bodyPost_ret (v := .tuple #[.agg #[.int .i64 W.rule, .int .i64 W.n, .string W.t.name, .slice a3 W.t.kids.length c3, .slice a4 W.kids.length c4], .bool true]) (by simp [results, Tryz.results21, go_sem, e0, e1, e2, e3, e4]) rfl ?_
  exact ⟨W, a3, c3, a4, c4, wf, Lib.hid (by rw [HW.out]; exact HSW.out.symm), by rw [HIS.out], hrw2, fun x hx => by have := hwf2 x hx; omega, hBE, hko2⟩
end Go.Proofs.YtlefdhhnlbpbkaaGreat
end
