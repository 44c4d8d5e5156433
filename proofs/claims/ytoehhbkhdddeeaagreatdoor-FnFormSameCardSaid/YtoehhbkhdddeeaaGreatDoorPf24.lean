/- Parts of the proof: PutB. -/
import Derived.Deep.RegionHeld3
import Derived.Deep.CutRange
import Derived.BigQuiet
import Derived.Test.YtoehhbkhdddeeaaGreatDoorPf11
import Derived.Test.YtoehhbkhdddeeaaGreatDoorPf23
import Derived.Test.YtoehhbkhdddeeaaGreatDoorPf7
section
namespace Go.Proofs.YtoehhbkhdddeeaaGreatDoor
open Go Go.RowKit
set_option linter.unusedVariables false
set_option linter.unusedSimpArgs false
set_option maxRecDepth 100000
set_option maxHeartbeats 16000000
/-- Small, and right but for the words' arguments. -/
def Tm.good (t : Tm) : Prop := t.size ≤ 100 ∧ Tm.shape t 4 = true
/-- A sum that was put together. -/
def PutOut (x : Atm) (fx ft : List Nat) (w : World) (e : Ending) (w' : World) : Prop := ∃ (y : Atm) (a5 : Option Addr) (c5 : Nat) (a6 : Option Addr) (c6 : Nat) (fn : List Nat), y.kind = x.kind ∧ y.a = .mk ⟨#[]⟩ [] ∧ y.b = .mk ⟨#[]⟩ [] ∧ y.bound = x.bound ∧ y.nums.length ≤ x.nums.length + 1 ∧ y.times.length = y.nums.length ∧ (∀ u ∈ y.nums, u.good) ∧
 e = .returned (.agg #[.int .i64 y.kind, .string ⟨#[]⟩, .slice none 0 0, .string ⟨#[]⟩, .slice none 0 0, .slice a5 y.nums.length c5, .slice a6 y.times.length c6, .int .i64 y.bound, .bool y.strict]) ∧
 Own w' w.heap.size 25 2 (.slice a5 y.nums.length c5) (y.nums.map Tm.cd) fn ∧ Own w' w.heap.size 3 1 (.slice a6 y.times.length c6) (y.times.map zm) [] ∧ (∀ g, (Value.slice a5 y.nums.length c5).ownBlock = some g → (Value.slice a6 y.times.length c6).ownBlock ≠ some g) ∧ (∀ b ∈ fn, (b ∈ fx ∨ b ∈ ft) ∧ b < w.heap.size) ∧ Below w.heap.size w w'
theorem zaE (w : World) {n : Int} (h : I64 n) : RdVs w [.int n] [.int .i64 n] [] := RdVs.single (d := .int n) (by simp only [Rd]; exact ⟨trivial, h, trivial⟩)
theorem zav {u : World} {a : Addr} {v x : Value} (h : u.cell? a = some x) : (u.setCell a v).cell? a = some v := World.cell?_setCell_same _ _ _ h
theorem so9 {u : World} {b i j : Nat} {v x : Value} (hne : j ≠ i) (h : u.cell? ⟨b, i, none⟩ = some x) : (u.setCell ⟨b, j, none⟩ v).cell? ⟨b, i, none⟩ = some x := (World.cell?_setCell_other _ _ _ _ (by simp [hne])).trans h
theorem zY {w : World} {α : Type} {cd : α → List CD} (a : Option Addr) (c : Nat) (hc : c ≤ maxLen) : Rd w (.sl (([] : List α).map cd)) (.slice a 0 c) [] := by
 simp only [List.map_nil, Rd]; exact ⟨a, c, rfl, by simp, hc, by simp⟩
theorem zI {u : World} {b : Nat} (v0 v1 v2 v3 v4 v5 v6 v7 v8 : Value) (hz : ∀ j, j < 9 → ∃ x, u.cell? ⟨b, j, none⟩ = some x) : (zi b [(0, v0), (1, v1), (2, v2), (3, v3), (4, v4), (5, v5), (6, v6), (7, v7), (8, v8)] u).cell? ⟨b, 0, none⟩ = some v0 ∧ (zi b [(0, v0), (1, v1), (2, v2), (3, v3), (4, v4), (5, v5), (6, v6), (7, v7), (8, v8)] u).cell? ⟨b, 1, none⟩ = some v1 ∧ (zi b [(0, v0), (1, v1), (2, v2), (3, v3), (4, v4), (5, v5), (6, v6), (7, v7), (8, v8)] u).cell? ⟨b, 2, none⟩ = some v2 ∧ (zi b [(0, v0), (1, v1), (2, v2), (3, v3), (4, v4), (5, v5), (6, v6), (7, v7), (8, v8)] u).cell? ⟨b, 3, none⟩ = some v3 ∧ (zi b [(0, v0), (1, v1), (2, v2), (3, v3), (4, v4), (5, v5), (6, v6), (7, v7), (8, v8)] u).cell? ⟨b, 4, none⟩ = some v4 ∧ (zi b [(0, v0), (1, v1), (2, v2), (3, v3), (4, v4), (5, v5), (6, v6), (7, v7), (8, v8)] u).cell? ⟨b, 5, none⟩ = some v5 ∧ (zi b [(0, v0), (1, v1), (2, v2), (3, v3), (4, v4), (5, v5), (6, v6), (7, v7), (8, v8)] u).cell? ⟨b, 6, none⟩ = some v6 ∧ (zi b [(0, v0), (1, v1), (2, v2), (3, v3), (4, v4), (5, v5), (6, v6), (7, v7), (8, v8)] u).cell? ⟨b, 7, none⟩ = some v7 ∧ (zi b [(0, v0), (1, v1), (2, v2), (3, v3), (4, v4), (5, v5), (6, v6), (7, v7), (8, v8)] u).cell? ⟨b, 8, none⟩ = some v8 := by
 obtain ⟨x0, h0⟩ := hz 0 (by omega)
 obtain ⟨x1, h1⟩ := hz 1 (by omega)
 obtain ⟨x2, h2⟩ := hz 2 (by omega)
 obtain ⟨x3, h3⟩ := hz 3 (by omega)
 obtain ⟨x4, h4⟩ := hz 4 (by omega)
 obtain ⟨x5, h5⟩ := hz 5 (by omega)
 obtain ⟨x6, h6⟩ := hz 6 (by omega)
 obtain ⟨x7, h7⟩ := hz 7 (by omega)
 obtain ⟨x8, h8⟩ := hz 8 (by omega)
 exact ⟨so9 (fun h => nomatch h) (so9 (fun h => nomatch h) (so9 (fun h => nomatch h) (so9 (fun h => nomatch h) (so9 (fun h => nomatch h) (so9 (fun h => nomatch h) (so9 (fun h => nomatch h) (so9 (fun h => nomatch h) (zav (h0))))))))), so9 (fun h => nomatch h) (so9 (fun h => nomatch h) (so9 (fun h => nomatch h) (so9 (fun h => nomatch h) (so9 (fun h => nomatch h) (so9 (fun h => nomatch h) (so9 (fun h => nomatch h) (zav (so9 (fun h => nomatch h) (h1))))))))), so9 (fun h => nomatch h) (so9 (fun h => nomatch h) (so9 (fun h => nomatch h) (so9 (fun h => nomatch h) (so9 (fun h => nomatch h) (so9 (fun h => nomatch h) (zav (so9 (fun h => nomatch h) (so9 (fun h => nomatch h) (h2))))))))), so9 (fun h => nomatch h) (so9 (fun h => nomatch h) (so9 (fun h => nomatch h) (so9 (fun h => nomatch h) (so9 (fun h => nomatch h) (zav (so9 (fun h => nomatch h) (so9 (fun h => nomatch h) (so9 (fun h => nomatch h) (h3))))))))), so9 (fun h => nomatch h) (so9 (fun h => nomatch h) (so9 (fun h => nomatch h) (so9 (fun h => nomatch h) (zav (so9 (fun h => nomatch h) (so9 (fun h => nomatch h) (so9 (fun h => nomatch h) (so9 (fun h => nomatch h) (h4))))))))), so9 (fun h => nomatch h) (so9 (fun h => nomatch h) (so9 (fun h => nomatch h) (zav (so9 (fun h => nomatch h) (so9 (fun h => nomatch h) (so9 (fun h => nomatch h) (so9 (fun h => nomatch h) (so9 (fun h => nomatch h) (h5))))))))), so9 (fun h => nomatch h) (so9 (fun h => nomatch h) (zav (so9 (fun h => nomatch h) (so9 (fun h => nomatch h) (so9 (fun h => nomatch h) (so9 (fun h => nomatch h) (so9 (fun h => nomatch h) (so9 (fun h => nomatch h) (h6))))))))), so9 (fun h => nomatch h) (zav (so9 (fun h => nomatch h) (so9 (fun h => nomatch h) (so9 (fun h => nomatch h) (so9 (fun h => nomatch h) (so9 (fun h => nomatch h) (so9 (fun h => nomatch h) (so9 (fun h => nomatch h) (h7))))))))), zav (so9 (fun h => nomatch h) (so9 (fun h => nomatch h) (so9 (fun h => nomatch h) (so9 (fun h => nomatch h) (so9 (fun h => nomatch h) (so9 (fun h => nomatch h) (so9 (fun h => nomatch h) (so9 (fun h => nomatch h) (h8)))))))))⟩
theorem put_end {x : Atm} {fx ft : List Nat} {w W3 U : World} {ns : List Tm} {ts : List Int} {fn : List Nat} {a a' : Option Addr} {c c' : Nat} (S : PutSt w W3 U x.kind x.bound x.strict ns ts (.slice a ns.length c) (.slice a' ts.length c') fn) (hB : Below w.heap.size w U) (h0 : I64 x.kind) (h7 : I64 x.bound) (hlen : ns.length = ts.length) (hl : ns.length ≤ x.nums.length + 1) (hg : ∀ u ∈ ns, u.good) (hf : ∀ b ∈ fn, b ∈ fx ∨ b ∈ ft) :
  PutOut x fx ft w (.returned (.agg #[.int .i64 x.kind, .string ⟨#[]⟩, .slice none 0 0, .string ⟨#[]⟩, .slice none 0 0, .slice a ns.length c, .slice a' ts.length c', .int .i64 x.bound, .bool x.strict])) (zi (w.heap.size + 1 + 1) [(0, .int .i64 x.kind), (1, .string ⟨#[]⟩), (2, .slice none 0 0), (3, .string ⟨#[]⟩), (4, .slice none 0 0), (5, .slice a ns.length c), (6, .slice a' ts.length c'), (7, .int .i64 x.bound), (8, .bool x.strict)] U) := by
 have hL := Loc.sets (b := w.heap.size + 1 + 1) (lo := w.heap.size + 1 + 1) (hi := w.heap.size + 1 + 1 + 1) (by omega) (by omega) [(0, .int .i64 x.kind), (1, .string ⟨#[]⟩), (2, .slice none 0 0), (3, .string ⟨#[]⟩), (4, .slice none 0 0), (5, .slice a ns.length c), (6, .slice a' ts.length c'), (7, .int .i64 x.bound), (8, .bool x.strict)] (Loc.refl _ _ U)
 have hfl := S.fl
 have o1 := (S.own1.same (fun b hb => hL.block b (by have := hfl b hb; have := S.sz; omega) (.inl (by have := hfl b hb; omega))) (fun b hb => hL.block b (S.own1.block hb).2 (.inr (by have := (S.own1.block hb).1; omega)))).base (base' := w.heap.size) (fun b hb => by have := (S.own1.block hb).1; omega)
 have o2 := (S.own2.same (fun b hb => by simp at hb) (fun b hb => hL.block b (S.own2.block hb).2 (.inr (by have := (S.own2.block hb).1; omega)))).base (base' := w.heap.size) (fun b hb => by have := (S.own2.block hb).1; omega)
 exact ⟨⟨x.kind, .mk ⟨#[]⟩ [], .mk ⟨#[]⟩ [], ns, ts, x.bound, x.strict⟩, a, c, a', c', fn, rfl, rfl, rfl, rfl, hl, hlen.symm, hg, rfl, o1, o2, S.dj, fun b hb => ⟨hf b hb, hfl b hb⟩, hB.trans (hL.toBelow (B := w.heap.size) (by have := S.sz; omega) (by omega))⟩
theorem zaU (x : Atm) (t : Tm) (n : Int) (vs us : List Value) (fx ft : List Nat) (w : World) (hlen : x.nums.length = x.times.length) (hl : x.nums.length ≤ 20) (hgx : ∀ u ∈ x.nums, u.good) (hgt : t.good) (hn : I64 n) (hx : RdVs w x.cd vs fx) (ht : RdVs w t.cd us ft) :
  Calls Tryz.prog 49 #[.agg vs.toArray, .agg us.toArray, .int .i64 n] w (PutOut x fx ft w) := by
 obtain ⟨a2, c2, f2, a4, c4, f4, a5, c5, f5, a6, c6, f6, rfl, rfl, m0, m1, m2, m3, m4, m5, m6, m7⟩ := Atm.open hx
 obtain ⟨tk, tc, fk, rfl, rfl, n0, n1⟩ := Tm.open ht
 have hla : x.nums.length ≤ x.times.length := by omega
 have hlb : x.times.length ≤ x.nums.length := by omega
 clear hlen
 have h5l := m5.lt _
 have hkl' := n1.lt _
 have HGX := Lib.hid hgx
 have HGT := Lib.hid hgt
 have hts : t.size ≤ 1100000 := by have := hgt.1; omega
 have htd := Tm.rdv n0 n1
 clear hgx hgt
 obtain ⟨W3, hW3⟩ : ∃ W, W = ((w.alloc (.cells #[.int .i64 x.kind, .string x.a.name, .slice a2 x.a.kids.length c2, .string x.b.name, .slice a4 x.b.kids.length c4, .slice a5 x.nums.length c5, .slice a6 x.times.length c6, .int .i64 x.bound, .bool x.strict] 28)).alloc (.cells #[.string t.name, .slice tk t.kids.length tc] 25)).alloc (.cells #[.int .i64 0, .string ⟨#[]⟩, .slice none 0 0, .string ⟨#[]⟩, .slice none 0 0, .slice none 0 0, .slice none 0 0, .int .i64 0, .bool false] 28) := ⟨_, rfl⟩
 have hs3 : W3.heap.size = w.heap.size + 1 + 1 + 1 := by rw [hW3]; simp
 have hbox : ∀ {wr : World}, Below (w.heap.size + 1 + 1 + 1) W3 wr → (∀ j u, ([.int .i64 x.kind, .string x.a.name, .slice a2 x.a.kids.length c2, .string x.b.name, .slice a4 x.b.kids.length c4, .slice a5 x.nums.length c5, .slice a6 x.times.length c6, .int .i64 x.bound, .bool x.strict] : List Value)[j]? = some u → wr.cell? ⟨w.heap.size, j, none⟩ = some u) ∧ (∀ j u, ([.string t.name, .slice tk t.kids.length tc] : List Value)[j]? = some u → wr.cell? ⟨w.heap.size + 1, j, none⟩ = some u) ∧ (∀ j u, ([.int .i64 0, .string ⟨#[]⟩, .slice none 0 0, .string ⟨#[]⟩, .slice none 0 0, .slice none 0 0, .slice none 0 0, .int .i64 0, .bool false] : List Value)[j]? = some u → wr.cell? ⟨w.heap.size + 1 + 1, j, none⟩ = some u) ∧ (∀ j, wr.frozen? ⟨w.heap.size + 1 + 1, j, none⟩ = false) ∧ w.heap.size + 1 + 1 + 1 ≤ wr.heap.size ∧ Below w.heap.size w wr := fun hb => by
  rw [hW3] at hb; exact zdp hb
 have S0 : PutSt w W3 (W3.alloc (.cells #[.int .i64 x.kind, .string ⟨#[]⟩, .slice none 0 0, .string ⟨#[]⟩, .slice none 0 0, .slice none 0 0, .slice none 0 0, .int .i64 x.bound, .bool x.strict] 28)) x.kind x.bound x.strict [] [] (.slice none 0 0) (.slice none 0 0) [] := by
  have hc := zj W3 [.int .i64 x.kind, .string ⟨#[]⟩, .slice none 0 0, .string ⟨#[]⟩, .slice none 0 0, .slice none 0 0, .slice none 0 0, .int .i64 x.bound, .bool x.strict] 28
  have hf := zan W3 #[.int .i64 x.kind, .string ⟨#[]⟩, .slice none 0 0, .string ⟨#[]⟩, .slice none 0 0, .slice none 0 0, .slice none 0 0, .int .i64 x.bound, .bool x.strict] 28
  rw [hs3] at hc hf
  exact ⟨(za _ _).mono (by omega), hc 0 _ rfl, hc 1 _ rfl, hc 2 _ rfl, hc 3 _ rfl, hc 4 _ rfl, hc 5 _ rfl, hc 6 _ rfl, hc 7 _ rfl, hc 8 _ rfl, hf 5, hf 6, Own.nil _ _ _ _, Own.nil _ _ _ _, fun g h => by simp [Value.ownBlock] at h, by simp, by simp [hs3]⟩
 go_enter Tryz.func49, Tryz.ntmps49
 go_wp2_with fail
 rw [← hW3]
 go_loopw [8, 9] (fun dv iv wr => ∃ (d : Bool) (k : Nat) (ns : List Tm) (ts : List Int) (vn vt : Value) (fn : List Nat), dv = .bool d ∧ iv = .int .i64 k ∧ k ≤ x.nums.length ∧ ns.length = ts.length ∧ ns.length ≤ k + d.toNat ∧ Hid (∀ u ∈ ns, u.good) ∧ Hid (∀ i ∈ ts, I64 i) ∧ Hid (∀ b ∈ fn, b ∈ f5 ∨ b ∈ ft) ∧ PutSt w W3 wr x.kind x.bound x.strict ns ts vn vt fn) (fun _ iv _ => x.nums.length - (intOf iv).toNat)
 case atStart => exact ⟨false, 0, [], [], _, _, [], rfl, rfl, Nat.zero_le _, rfl, by simp, Lib.hid (by simp), Lib.hid (by simp), Lib.hid (by simp), S0⟩
 case round =>
  clear S0
  obtain ⟨d, k, ns, ts, vn, vt, fn, rfl, rfl, hkl, hnt, hnk, hgn, hti, hfn, S⟩ := hrel
  have hdn : d.toNat ≤ 1 := by cases d <;> simp
  have hnl : ns.length ≤ 21 := by omega
  have htl : ts.length ≤ 21 := by omega
  have hnta : ns.length ≤ ts.length := by omega
  have hntb : ts.length ≤ ns.length := by omega
  clear hnt
  obtain ⟨X, Y, Z, fz, hz3, hB⟩ := hbox S.bel
  have x5 := X 5 _ rfl
  have x6 := X 6 _ rfl
  have y0 := Y 0 _ rfl
  have y1 := Y 1 _ rfl
  by_cases hlt : k < x.nums.length
  ·obtain ⟨b5, o5, rfl, hb5, hb5m⟩ := zl m5 (by omega)
   obtain ⟨b6, o6, rfl, hb6, hb6m⟩ := zl m6 (by omega)
   obtain ⟨ua, uc, uf, d0, d1, q0, q1, qsub⟩ := Tm.at (m5.below hB) hlt
   obtain ⟨e0, he0⟩ := zK (m6.below hB) (k := k) (by omega)
   have hgu := HGX.out _ (zdT hlt)
   have hux := Tm.rdv q0 q1
   have hkx : (k : Int) < (x.nums.length : Int) := by omega
   go_wp2_with fail
   refine (zae x.nums[k].size x.nums[k] 4 _ _ (Nat.le_refl _) (by have := hgu.1; omega) hgu.2 (by exact TmR.mk q0 ⟨_, q1⟩)).mono ?_
   rintro e w2 ⟨rfl, hb2⟩
   have S2 := S.below hb2
   clear S hB X Y Z fz hz3 x5 x6 y0 y1 hb2 d0 d1 e0 hux q0 q1
   obtain ⟨X, Y, Z, fz, hz3, hB⟩ := hbox S2.bel
   have y0 := Y 0 _ rfl
   have y1 := Y 1 _ rfl
   go_upto_region 7 with fail
   go_cut [38] from 31 to 37 (fun sv wx => ∃ b : Bool, sv = .bool b ∧ (b = true → d = false) ∧ PutSt w W3 wx x.kind x.bound x.strict ns ts vn vt fn)
   case first =>
    cases d
    rotate_left
    ·go_wp2_with fail
     go_meet
     case rel => exact ⟨false, rfl, by simp, S2⟩
    ·go_wp2_with fail
     refine (zae t.size t 4 _ _ (Nat.le_refl _) hts HGT.out.2 (by exact TmR.mk n0 ⟨_, n1.below hB⟩)).mono ?_
     rintro e w4 ⟨rfl, hb4⟩
     have S4 := S2.below hb4
     have hge := zbY 9 x.nums[k].text t.text
     cases hl : nmLt x.nums[k].text t.text
     ·rw [hl] at hge
      simp only [Bool.not_false] at hge
      clear hl
      go_wp2_with fail
      go_meet
      case rel => exact ⟨true, rfl, by simp, S4⟩
     ·rw [hl] at hge
      simp only [Bool.not_true] at hge
      clear hl
      go_wp2_with fail
      go_meet
      case rel => exact ⟨false, rfl, by simp, S4⟩
   case rest =>
   obtain ⟨bt, rfl, hbd, S4⟩ := hcut
   clear S2 X Y Z fz hz3 hB y0 y1
   obtain ⟨X, Y, Z, fz, hz3, hB⟩ := hbox S4.bel
   have y0 := Y 0 _ rfl
   have y1 := Y 1 _ rfl
   go_upto_if 38 with (fail)
   go_cut [8] from 39 to 50 (fun dv wx => ∃ (d' : Bool) (ns' : List Tm) (ts' : List Int) (vn' vt' : Value) (fn' : List Nat), dv = .bool d' ∧ ns'.length = ts'.length ∧ ns'.length ≤ k + d'.toNat ∧ Hid (∀ u ∈ ns', u.good) ∧ Hid (∀ i ∈ ts', I64 i) ∧ Hid (∀ b ∈ fn', b ∈ f5 ∨ b ∈ ft) ∧ PutSt w W3 wx x.kind x.bound x.strict ns' ts' vn' vt' fn')
   case first =>
    cases bt
    ·go_wp2_with fail
     go_meet
     case rel => exact ⟨d, ns, ts, vn, vt, fn, rfl, by omega, hnk, hgn, hti, hfn, S4⟩
    ·obtain rfl := hbd rfl
     generalize hw4 : wc = w4 at *
     clear hw4
     have c5_A := (S4.below (za w4 (.cells #[.string t.name, .slice tk t.kids.length tc] 25))).c5
     have z5_A := (S4.below (za w4 (.cells #[.string t.name, .slice tk t.kids.length tc] 25))).z5
     have p5_A := S4.c5
     have y0 := Y 0 _ rfl
     have y1 := Y 1 _ rfl
     have SQ := S4.below (za w4 (.cells #[.string t.name, .slice tk t.kids.length tc] 25))
     go_upto_region 8 with fail
     go_wp2_with (at_builtin; refine zq zaz rfl _ _ rfl (w.heap.size + 1 + 1 + 1 + 1) _ _ _ rfl (by exact SQ.own1) ⟨w4.heap.size, 0, none⟩ 1 1 [t.cd] [.string t.name, .slice tk t.kids.length tc] ft rfl rfl ?rdA ?kA ?cellsA ?naA ?bytesA ?lenA ?baseA ?nextA)
     try (case rdA => simpa using (htd.below hB).below (za _ _))
     try (case kA => simp [Tm.cd_len])
     try (case cellsA => exact zp w4 [.string t.name, .slice tk t.kids.length tc] 25)
     try (case naA => intro b hb h; have h1 := hkl' b hb; have h2 := (SQ.own1.block h).1; omega)
     try (case bytesA => (try simp); omega)
     try (case lenA => (try simp); omega)
     try (case baseA => exact SQ.sz)
     case nextA =>
      intro vA wA hownA hgA hvA hsA
      obtain ⟨aA, nA, cA, rfl⟩ := hownA.form'
      have SA := SQ.nums (ns' := ns ++ [t]) hgA (by rw [zdV]; exact hownA) (by simpa using hvA) (fun b hb => by
       rcases zdS.1 hb with h | h
       ·exact SQ.fl b h
       ·exact hkl' b h)
      have hneA : _ ≠ some (w.heap.size + 1 + 1 + 1) := fun e => by have := (SQ.own1.block e).1; omega
      have e5 := zg hgA SQ.c5 hneA
      have e5z := zt hgA (by have := SQ.sz; omega) SQ.z5 hneA
      clear hownA hgA hvA hsA SQ
      go_upto_region 9 with fail
      generalize wA.setCell ⟨w.heap.size + 1 + 1 + 1, 5, none⟩ (.slice aA nA cA) = UA at *
      have c6_B := (SA.below (za UA (.cells #[.int .i64 n] 3))).c6
      have p6_B := SA.c6
      have SQ := SA.below (za UA (.cells #[.int .i64 n] 3))
      go_wp2_with (at_builtin; refine zq zaF rfl _ _ rfl (w.heap.size + 1 + 1 + 1 + 1) _ _ _ rfl (by exact SQ.own2) ⟨UA.heap.size, 0, none⟩ 1 1 [zm n] [.int .i64 n] [] rfl rfl ?rdB ?kB ?cellsB ?naB ?bytesB ?lenB ?baseB ?nextB)
      try (case rdB => exact zaE _ hn)
      try (case kB => simp [zap])
      try (case cellsB => exact zp UA [.int .i64 n] 3)
      try (case naB => simp)
      try (case bytesB => (try simp); omega)
      try (case lenB => (try simp); omega)
      try (case baseB => exact SQ.sz)
      case nextB =>
       intro vB wB hownB hgB hvB hsB
       obtain ⟨aB, nB, cB, rfl⟩ := hownB.form'
       have SB := SQ.times (ts' := ts ++ [n]) hgB (by rw [zdV]; simpa using hownB) (by simpa using hvB)
       have hneB : _ ≠ some (w.heap.size + 1 + 1 + 1) := fun e => by have := (SQ.own2.block e).1; omega
       have e6 := zg hgB SQ.c6 hneB
       have e6z := zt hgB (by have := SQ.sz; omega) SQ.z6 hneB
       clear hownB hgB hvB hsB SQ
       go_upto_region 10 with fail
       generalize wB.setCell ⟨w.heap.size + 1 + 1 + 1, 6, none⟩ (.slice aB nB cB) = UB at *
       go_wp2_with fail
       go_meet
       case rel => exact ⟨true, ns ++ [t], ts ++ [n], _, _, fn ++ ft, rfl, by simp; omega, by simp at hnk ⊢; omega, Lib.hid (fun u hu => by rcases zdS.1 hu with h | h; exact hgn.out u h; rw [List.mem_singleton.1 h]; exact HGT.out), Lib.hid (fun i hi => by rcases zdS.1 hi with h | h; exact hti.out i h; rw [List.mem_singleton.1 h]; exact hn), Lib.hid (fun b hb => by rcases zdS.1 hb with h | h; exact hfn.out b h; exact .inr h), SB⟩
   case rest =>
   obtain ⟨d', ns', ts', vn', vt', fn', rfl, hnt', hnk', hgn', hti', hfn', S5⟩ := hcut
   have hdn' : d'.toNat ≤ 1 := by cases d' <;> simp
   have hnl' : ns'.length ≤ 21 := by omega
   have htl' : ts'.length ≤ 21 := by omega
   have hnta' : ns'.length ≤ ts'.length := by omega
   have hntb' : ts'.length ≤ ns'.length := by omega
   clear hnt' X Y Z fz hz3 hB y0 y1 S4
   obtain ⟨X, Y, Z, fz, hz3, hB⟩ := hbox S5.bel
   have y0 := Y 0 _ rfl
   have y1 := Y 1 _ rfl
   go_wp2_with fail
   refine (zae t.size t 4 _ _ (Nat.le_refl _) hts HGT.out.2 (by exact TmR.mk n0 ⟨_, n1.below hB⟩)).mono ?_
   rintro e w6 ⟨rfl, hb6⟩
   have S6 := S5.below hb6
   clear X Y Z fz hz3 hB y0 y1 S5 hb6
   go_wp2_with fail
   case roundEnd => exact ⟨⟨d', k + 1, ns', ts', vn', vt', fn', rfl, by go_num, by omega, by omega, by omega, hgn', hti', hfn', S6⟩, by simp [intOf]; omega⟩
   obtain ⟨X, Y, Z, fz, hz3, hB⟩ := hbox S6.bel
   have x5 := X 5 _ rfl
   have p5 := S6.c5
   have z5 := S6.z5
   obtain ⟨ua, uc, uf, d0, d1, q0, q1, qsub⟩ := Tm.at (m5.below hB) hlt
   have hux := Tm.rdv q0 q1
   have hulo := q1.lt _
   clear X Y Z fz hz3 hB q0 q1
   have B0 := zd w6
   have B1 : Below w6.heap.size w6 (w6.alloc (.cells #[.string x.nums[k].name, .slice ua x.nums[k].kids.length uc] 25)).drew := (za w6 _).trans ((zd _).mono (by simp))
   have SQ := S6.below B1
   have hb5n : b5 < w.heap.size := h5l b5 hb5m
   have hb6n : b6 < w.heap.size := m6.lt _ b6 hb6m
   refine Till.start (F := (fun U : World => U.cell? ⟨w.heap.size + 1 + 1 + 1, 5, none⟩ = some (vn') ∧ U.cell? ⟨w.heap.size, 5, none⟩ = some (.slice (some ⟨b5, o5, none⟩) x.nums.length c5) ∧ U.cell? ⟨b5, o5 + k * 2, none⟩ = some (.string x.nums[k].name) ∧ U.cell? ⟨b5, o5 + k * 2 + 1, none⟩ = some (.slice ua x.nums[k].kids.length uc))) (s0 := 9) (by kernel_rfl) ?_
   have hF : (fun U : World => U.cell? ⟨w.heap.size + 1 + 1 + 1, 5, none⟩ = some (vn') ∧ U.cell? ⟨w.heap.size, 5, none⟩ = some (.slice (some ⟨b5, o5, none⟩) x.nums.length c5) ∧ U.cell? ⟨b5, o5 + k * 2, none⟩ = some (.string x.nums[k].name) ∧ U.cell? ⟨b5, o5 + k * 2 + 1, none⟩ = some (.slice ua x.nums[k].kids.length uc)) _ := ⟨zb p5 B0, zb x5 B0, zb d0 B0, zb d1 B0⟩
   refine Till.take (i := 0) (v := (.pointer (some ⟨w.heap.size + 1 + 1 + 1, 5, none⟩))) rfl (by kernel_rfl) (by kernel_rfl) (by kernel_rfl) (fun _ _ _ h => h) (by kernel_rfl) (Or.inl ⟨by rfl, fun U hU => ?_⟩) hF ?_
   ·obtain ⟨u0F, u1F, u2F, u3F⟩ := hU
    go_simp
   try simp only [Act.put, zdK, zdL, zdM]
   refine Till.take (i := 1) (v := vn') rfl (by kernel_rfl) (by kernel_rfl) (by kernel_rfl) (fun _ _ _ h => h) (by kernel_rfl) (Or.inl ⟨by rfl, fun U hU => ?_⟩) hF ?_
   ·obtain ⟨u0F, u1F, u2F, u3F⟩ := hU
    go_simp
   try simp only [Act.put, zdK, zdL, zdM]
   refine Till.take (i := 2) (v := (.pointer (some ⟨w.heap.size, 5, none⟩))) rfl (by kernel_rfl) (by kernel_rfl) (by kernel_rfl) (fun _ _ _ h => h) (by kernel_rfl) (Or.inl ⟨by rfl, fun U hU => ?_⟩) hF ?_
   ·obtain ⟨u0F, u1F, u2F, u3F⟩ := hU
    go_simp
   try simp only [Act.put, zdK, zdL, zdM]
   refine Till.take (i := 3) (v := (.slice (some ⟨b5, o5, none⟩) x.nums.length c5)) rfl (by kernel_rfl) (by kernel_rfl) (by kernel_rfl) (fun _ _ _ h => h) (by kernel_rfl) (Or.inl ⟨by rfl, fun U hU => ?_⟩) hF ?_
   ·obtain ⟨u0F, u1F, u2F, u3F⟩ := hU
    go_simp
   try simp only [Act.put, zdK, zdL, zdM]
   refine Till.take (i := 4) (v := (.int .i64 k)) rfl (by kernel_rfl) (by kernel_rfl) (by kernel_rfl) (fun _ _ _ h => h) (by kernel_rfl) (Or.inl ⟨by rfl, fun U hU => ?_⟩) hF ?_
   ·obtain ⟨u0F, u1F, u2F, u3F⟩ := hU
    go_simp
   try simp only [Act.put, zdK, zdL, zdM]
   refine Till.take (i := 5) (v := (.pointer (some ⟨b5, o5 + k * 2, none⟩))) rfl (by kernel_rfl) (by kernel_rfl) (by kernel_rfl) (fun _ _ _ h => h) (by kernel_rfl) (Or.inl ⟨by rfl, fun U hU => ?_⟩) hF ?_
   ·obtain ⟨u0F, u1F, u2F, u3F⟩ := hU
    go_simp
   try simp only [Act.put, zdK, zdL, zdM]
   refine Till.take (i := 6) (v := (.agg #[.string x.nums[k].name, .slice ua x.nums[k].kids.length uc])) rfl (by kernel_rfl) (by kernel_rfl) (by kernel_rfl) (fun _ _ _ h => h) (by kernel_rfl) (Or.inl ⟨by rfl, fun U hU => ?_⟩) hF ?_
   ·obtain ⟨u0F, u1F, u2F, u3F⟩ := hU
    go_simp
   try simp only [Act.put, zdK, zdL, zdM]
   refine Till.one (i := 7) (by kernel_rfl) rfl (fun K hK => ?_)
   go_simp
   refine hK.out _ _ (fun _ => ⟨zb p5 B1, zb x5 B1, zb d0 B1, zb d1 B1⟩) ?_
   clear hK
   try simp only [Act.put, zdK, zdL, zdM]
   refine Till.one (i := 8) (by kernel_rfl) rfl (fun K hK => ?_)
   refine zE zaz rfl _ _ rfl (w.heap.size + 1 + 1 + 1 + 1) _ _ _ rfl (by exact SQ.own1) ⟨w6.heap.size, 0, none⟩ 1 1 [x.nums[k].cd] [.string x.nums[k].name, .slice ua x.nums[k].kids.length uc] uf rfl rfl (by simpa using hux.below B1) (by simp [Tm.cd_len]) (by exact zp w6 [.string x.nums[k].name, .slice ua x.nums[k].kids.length uc] 25) (fun b hb h => by have h1 := h5l b (qsub b hb); have h2 := (SQ.own1.block h).1; omega) (by (try simp); omega) (by (try simp); omega) (by exact SQ.sz) ?_
   intro vC wC hownC hgC hvC hsC
   obtain ⟨aC, nC, cC, rfl⟩ := hownC.form'
   have SC := SQ.nums (ns' := ns' ++ [x.nums[k]]) hgC (by rw [zdV]; exact hownC) hvC (fun b hb => by
    rcases zdS.1 hb with h | h
    ·exact SQ.fl b h
    ·exact h5l b (qsub b h))
   have hneC : _ ≠ some (w.heap.size + 1 + 1 + 1) := fun e => by have := (SQ.own1.block e).1; omega
   have e5 := zg hgC SQ.c5 hneC
   have e5z := zt hgC (by have := SQ.sz; omega) SQ.z5 hneC
   clear hownC hvC hsC hF
   refine hK.out _ _ (fun _ => ⟨e5, zg hgC (zb x5 B1) (fun e => by have := (SQ.own1.block e).1; omega), zg hgC (zb d0 B1) (fun e => by have := (SQ.own1.block e).1; omega), zg hgC (zb d1 B1) (fun e => by have := (SQ.own1.block e).1; omega)⟩) ?_
   clear hK
   try simp only [Act.put, zdK, zdL, zdM]
   refine Till.one (i := 9) (by kernel_rfl) rfl (fun K hK => ?_)
   go_simp
   refine hK.out _ _ (fun h => absurd h (by decide)) ?_
   clear hK
   try simp only [Act.put, zdK, zdL, zdM]
   refine Till.one (i := 10) (by kernel_rfl) rfl (fun K hK => ?_)
   go_simp
   refine hK.out _ _ (fun h => absurd h (by decide)) ?_
   clear hK
   try simp only [Act.put, zdK, zdL, zdM]
   refine Till.done (by kernel_rfl) ?_ _
   all_goals
    clear hgC SQ S6 d0 d1 x5 p5 B0 B1 hux
    go_wp2_with fail
    generalize wC.setCell ⟨w.heap.size + 1 + 1 + 1, 5, none⟩ (.slice aC nC cC) = UC at *
    clear e5 e5z z5
    obtain ⟨X, Y, Z, fz, hz3, hB⟩ := hbox SC.bel
    have x6 := X 6 _ rfl
    have p6 := SC.c6
    have hk6 : k < x.times.length := by omega
    have hk6i : (k : Int) < (x.times.length : Int) := by omega
    obtain ⟨d0, hi64⟩ := zK (m6.below hB) (k := k) (by omega)
    clear X Y Z fz hz3 hB
    have B0 := zd UC
    have B1 : Below UC.heap.size UC (UC.alloc (.cells #[.int .i64 (x.times[k]'(by omega))] 3)).drew := (za UC _).trans ((zd _).mono (by simp))
    have SQ := SC.below B1
    refine Till.start (F := (fun U : World => U.cell? ⟨w.heap.size + 1 + 1 + 1, 6, none⟩ = some (vt') ∧ U.cell? ⟨w.heap.size, 6, none⟩ = some (.slice (some ⟨b6, o6, none⟩) x.times.length c6) ∧ U.cell? ⟨b6, o6 + k, none⟩ = some (.int .i64 (x.times[k]'(by omega))))) (s0 := 9) (by kernel_rfl) ?_
    have hF : (fun U : World => U.cell? ⟨w.heap.size + 1 + 1 + 1, 6, none⟩ = some (vt') ∧ U.cell? ⟨w.heap.size, 6, none⟩ = some (.slice (some ⟨b6, o6, none⟩) x.times.length c6) ∧ U.cell? ⟨b6, o6 + k, none⟩ = some (.int .i64 (x.times[k]'(by omega)))) _ := ⟨zb p6 B0, zb x6 B0, zb d0 B0⟩
    refine Till.take (i := 0) (v := (.pointer (some ⟨w.heap.size + 1 + 1 + 1, 6, none⟩))) rfl (by kernel_rfl) (by kernel_rfl) (by kernel_rfl) (fun _ _ _ h => h) (by kernel_rfl) (Or.inl ⟨by rfl, fun U hU => ?_⟩) hF ?_
    ·obtain ⟨u0F, u1F, u2F⟩ := hU
     go_simp
    try simp only [Act.put, zdK, zdL, zdM]
    refine Till.take (i := 1) (v := vt') rfl (by kernel_rfl) (by kernel_rfl) (by kernel_rfl) (fun _ _ _ h => h) (by kernel_rfl) (Or.inl ⟨by rfl, fun U hU => ?_⟩) hF ?_
    ·obtain ⟨u0F, u1F, u2F⟩ := hU
     go_simp
    try simp only [Act.put, zdK, zdL, zdM]
    refine Till.take (i := 2) (v := (.pointer (some ⟨w.heap.size, 6, none⟩))) rfl (by kernel_rfl) (by kernel_rfl) (by kernel_rfl) (fun _ _ _ h => h) (by kernel_rfl) (Or.inl ⟨by rfl, fun U hU => ?_⟩) hF ?_
    ·obtain ⟨u0F, u1F, u2F⟩ := hU
     go_simp
    try simp only [Act.put, zdK, zdL, zdM]
    refine Till.take (i := 3) (v := (.slice (some ⟨b6, o6, none⟩) x.times.length c6)) rfl (by kernel_rfl) (by kernel_rfl) (by kernel_rfl) (fun _ _ _ h => h) (by kernel_rfl) (Or.inl ⟨by rfl, fun U hU => ?_⟩) hF ?_
    ·obtain ⟨u0F, u1F, u2F⟩ := hU
     go_simp
    try simp only [Act.put, zdK, zdL, zdM]
    refine Till.take (i := 4) (v := (.int .i64 k)) rfl (by kernel_rfl) (by kernel_rfl) (by kernel_rfl) (fun _ _ _ h => h) (by kernel_rfl) (Or.inl ⟨by rfl, fun U hU => ?_⟩) hF ?_
    ·obtain ⟨u0F, u1F, u2F⟩ := hU
     go_simp
    try simp only [Act.put, zdK, zdL, zdM]
    refine Till.take (i := 5) (v := (.pointer (some ⟨b6, o6 + k, none⟩))) rfl (by kernel_rfl) (by kernel_rfl) (by kernel_rfl) (fun _ _ _ h => h) (by kernel_rfl) (Or.inl ⟨by rfl, fun U hU => ?_⟩) hF ?_
    ·obtain ⟨u0F, u1F, u2F⟩ := hU
     go_simp
    try simp only [Act.put, zdK, zdL, zdM]
    refine Till.take (i := 6) (v := (.int .i64 (x.times[k]'(by omega)))) rfl (by kernel_rfl) (by kernel_rfl) (by kernel_rfl) (fun _ _ _ h => h) (by kernel_rfl) (Or.inl ⟨by rfl, fun U hU => ?_⟩) hF ?_
    ·obtain ⟨u0F, u1F, u2F⟩ := hU
     go_simp
    try simp only [Act.put, zdK, zdL, zdM]
    refine Till.one (i := 7) (by kernel_rfl) rfl (fun K hK => ?_)
    go_simp
    refine hK.out _ _ (fun _ => ⟨zb p6 B1, zb x6 B1, zb d0 B1⟩) ?_
    clear hK
    try simp only [Act.put, zdK, zdL, zdM]
    refine Till.one (i := 8) (by kernel_rfl) rfl (fun K hK => ?_)
    refine zE zaF rfl _ _ rfl (w.heap.size + 1 + 1 + 1 + 1) _ _ _ rfl (by exact SQ.own2) ⟨UC.heap.size, 0, none⟩ 1 1 [zm (x.times[k]'(by omega))] [.int .i64 (x.times[k]'(by omega))] [] rfl rfl (by exact zaE _ hi64) (by simp [zap]) (by exact zp UC [.int .i64 (x.times[k]'(by omega))] 3) (by simp) (by (try simp); omega) (by (try simp); omega) (by exact SQ.sz) ?_
    intro vD wD hownD hgD hvD hsD
    obtain ⟨aD, nD, cD, rfl⟩ := hownD.form'
    have SD := SQ.times (ts' := ts' ++ [x.times[k]'(by omega)]) hgD (by rw [zdV]; exact hownD) hvD
    have hneD : _ ≠ some (w.heap.size + 1 + 1 + 1) := fun e => by have := (SQ.own2.block e).1; omega
    have e6 := zg hgD SQ.c6 hneD
    have e6z := zt hgD (by have := SQ.sz; omega) SQ.z6 hneD
    clear hownD hvD hsD hF
    refine hK.out _ _ (fun _ => ⟨e6, zg hgD (zb x6 B1) (fun e => by have := (SQ.own2.block e).1; omega), zg hgD (zb d0 B1) (fun e => by have := (SQ.own2.block e).1; omega)⟩) ?_
    clear hK
    try simp only [Act.put, zdK, zdL, zdM]
    refine Till.one (i := 9) (by kernel_rfl) rfl (fun K hK => ?_)
    go_simp
    refine hK.out _ _ (fun h => absurd h (by decide)) ?_
    clear hK
    try simp only [Act.put, zdK, zdL, zdM]
    refine Till.one (i := 10) (by kernel_rfl) rfl (fun K hK => ?_)
    go_simp
    refine hK.out _ _ (fun h => absurd h (by decide)) ?_
    clear hK
    try simp only [Act.put, zdK, zdL, zdM]
    refine Till.done (by kernel_rfl) ?_ _
    all_goals
     clear hgD SQ SC d0 x6 p6 B0 B1
     go_wp2_with fail
     go_roundw
     case rel => exact ⟨d', k + 1, ns' ++ [x.nums[k]], ts' ++ [x.times[k]'(by omega)], _, _, fn' ++ uf, rfl, by go_num, by omega, by simp; omega, by simp; omega, Lib.hid (fun u hu => by rcases zdS.1 hu with h | h; exact hgn'.out u h; rw [List.mem_singleton.1 h]; exact hgu), Lib.hid (fun i hi => by rcases zdS.1 hi with h | h; exact hti'.out i h; rw [List.mem_singleton.1 h]; exact hi64), Lib.hid (fun b hb => by rcases zdS.1 hb with h | h; exact hfn'.out b h; exact .inl (qsub b h)), SD⟩
     case measure => simp [intOf]; omega
  ·have hk : k = x.nums.length := by omega
   clear x5 x6 y0 y1
   cases d
   ·have hnk' : ns.length ≤ x.nums.length := by simp at hnk; omega
    have hB := hB
    have c5_E := (S.below (za wr (.cells #[.string t.name, .slice tk t.kids.length tc] 25))).c5
    have z5_E := (S.below (za wr (.cells #[.string t.name, .slice tk t.kids.length tc] 25))).z5
    have p5_E := S.c5
    have y0 := Y 0 _ rfl
    have y1 := Y 1 _ rfl
    have SQ := S.below (za wr (.cells #[.string t.name, .slice tk t.kids.length tc] 25))
    go_upto_region 15 with fail
    go_wp2_with (at_builtin; refine zq zaz rfl _ _ rfl (w.heap.size + 1 + 1 + 1 + 1) _ _ _ rfl (by exact SQ.own1) ⟨wr.heap.size, 0, none⟩ 1 1 [t.cd] [.string t.name, .slice tk t.kids.length tc] ft rfl rfl ?rdE ?kE ?cellsE ?naE ?bytesE ?lenE ?baseE ?nextE)
    try (case rdE => simpa using (htd.below hB).below (za _ _))
    try (case kE => simp [Tm.cd_len])
    try (case cellsE => exact zp wr [.string t.name, .slice tk t.kids.length tc] 25)
    try (case naE => intro b hb h; have h1 := hkl' b hb; have h2 := (SQ.own1.block h).1; omega)
    try (case bytesE => (try simp); omega)
    try (case lenE => (try simp); omega)
    try (case baseE => exact SQ.sz)
    case nextE =>
     intro vE wE hownE hgE hvE hsE
     obtain ⟨aE, nE, cE, rfl⟩ := hownE.form'
     have SE := SQ.nums (ns' := ns ++ [t]) hgE (by rw [zdV]; exact hownE) (by simpa using hvE) (fun b hb => by
      rcases zdS.1 hb with h | h
      ·exact SQ.fl b h
      ·exact hkl' b h)
     have hneE : _ ≠ some (w.heap.size + 1 + 1 + 1) := fun e => by have := (SQ.own1.block e).1; omega
     have e5 := zg hgE SQ.c5 hneE
     have e5z := zt hgE (by have := SQ.sz; omega) SQ.z5 hneE
     clear hownE hgE hvE hsE SQ
     go_upto_region 16 with fail
     generalize wE.setCell ⟨w.heap.size + 1 + 1 + 1, 5, none⟩ (.slice aE nE cE) = UE at *
     have c6_F := (SE.below (za UE (.cells #[.int .i64 n] 3))).c6
     have p6_F := SE.c6
     have SQ := SE.below (za UE (.cells #[.int .i64 n] 3))
     go_wp2_with (at_builtin; refine zq zaF rfl _ _ rfl (w.heap.size + 1 + 1 + 1 + 1) _ _ _ rfl (by exact SQ.own2) ⟨UE.heap.size, 0, none⟩ 1 1 [zm n] [.int .i64 n] [] rfl rfl ?rdF ?kF ?cellsF ?naF ?bytesF ?lenF ?baseF ?nextF)
     try (case rdF => exact zaE _ hn)
     try (case kF => simp [zap])
     try (case cellsF => exact zp UE [.int .i64 n] 3)
     try (case naF => simp)
     try (case bytesF => (try simp); omega)
     try (case lenF => (try simp); omega)
     try (case baseF => exact SQ.sz)
     case nextF =>
      intro vF wF hownF hgF hvF hsF
      obtain ⟨aF, nF, cF, rfl⟩ := hownF.form'
      have SF := SQ.times (ts' := ts ++ [n]) hgF (by rw [zdV]; simpa using hownF) (by simpa using hvF)
      have hneF : _ ≠ some (w.heap.size + 1 + 1 + 1) := fun e => by have := (SQ.own2.block e).1; omega
      have e6 := zg hgF SQ.c6 hneF
      have e6z := zt hgF (by have := SQ.sz; omega) SQ.z6 hneF
      clear hownF hgF hvF hsF SQ
      go_upto_region 17 with fail
      generalize wF.setCell ⟨w.heap.size + 1 + 1 + 1, 6, none⟩ (.slice aF nF cF) = UF at *
      obtain ⟨N9, hN9⟩ : ∃ N, N = ns ++ [t] := ⟨_, rfl⟩
      obtain ⟨T9, hT9⟩ : ∃ N, N = ts ++ [n] := ⟨_, rfl⟩
      rw [← hN9, ← hT9] at SF
      have hl9 : N9.length ≤ x.nums.length + 1 := by rw [hN9]; simp; omega
      have hla9 : N9.length ≤ T9.length := by rw [hN9, hT9]; simp; omega
      have hlb9 : T9.length ≤ N9.length := by rw [hN9, hT9]; simp; omega
      have HG9 : ∀ u ∈ N9, u.good := by rw [hN9]; exact (fun u hu => by rcases zdS.1 hu with h | h; exact hgn.out u h; rw [List.mem_singleton.1 h]; exact HGT.out)
      clear hN9 hT9 SE
      obtain ⟨aG, cG, hvE, _, _⟩ := SF.own1.form
      obtain ⟨aH, cH, hvF, _, _⟩ := SF.own2.form
      rw [zdX] at hvE hvF
      simp only [Value.slice.injEq] at hvE hvF
      obtain ⟨rfl, rfl, rfl⟩ := hvE
      obtain ⟨rfl, rfl, rfl⟩ := hvF
      have b0 := SF.c0
      have b1 := SF.c1
      have b2 := SF.c2
      have b3 := SF.c3
      have b4 := SF.c4
      have b5' := SF.c5
      have b6' := SF.c6
      have b7 := SF.c7
      have b8 := SF.c8
      obtain ⟨X, Y, Z, fz, hz3, hB⟩ := hbox SF.bel
      have HO := put_end (fx := f2 ++ (f4 ++ (f5 ++ f6))) (ft := ft) SF hB m0 m7 (by omega) (by omega) HG9 (fun b hb => by rcases zdS.1 hb with h | h; exact (hfn.out b h).elim (fun h => .inl (by simp [h])) .inr; exact .inr h)
      have NS := zI (u := UF) (b := w.heap.size + 1 + 1) (.int .i64 x.kind) (.string ⟨#[]⟩) (.slice none 0 0) (.string ⟨#[]⟩) (.slice none 0 0) (.slice aE (N9).length cE) (.slice aF (T9).length cF) (.int .i64 x.bound) (.bool x.strict) (fun j hj => by
       rcases j with _ | _ | _ | _ | _ | _ | _ | _ | _ | j
       all_goals first | exact ⟨_, Z _ _ rfl⟩ | omega)
      obtain ⟨R0, R1, R2, R3, R4, R5, R6, R7, R8⟩ := NS
      simp only [zi] at R0 R1 R2 R3 R4 R5 R6 R7 R8 HO
      have z0 := Z 0 _ rfl
      have z1 := Z 1 _ rfl
      have z2 := Z 2 _ rfl
      have z3 := Z 3 _ rfl
      have z4 := Z 4 _ rfl
      have z5 := Z 5 _ rfl
      have z6 := Z 6 _ rfl
      have z7 := Z 7 _ rfl
      have z8 := Z 8 _ rfl
      have fz0 := fz 0
      have fz1 := fz 1
      have fz2 := fz 2
      have fz3 := fz 3
      have fz4 := fz 4
      have fz5 := fz 5
      have fz6 := fz 6
      have fz7 := fz 7
      have fz8 := fz 8
      clear X Y Z fz hz3 hB SF
      go_wp2_with fail
      refine bodyPost_ret (v := .agg #[.int .i64 x.kind, .string ⟨#[]⟩, .slice none 0 0, .string ⟨#[]⟩, .slice none 0 0, .slice aE (N9).length cE, .slice aF (T9).length cF, .int .i64 x.bound, .bool x.strict]) (by simp [results, Tryz.results49, go_sem, R0, R1, R2, R3, R4, R5, R6, R7, R8]) rfl ?_
      exact HO
   ·have hnk' : ns.length ≤ x.nums.length + 1 := by simp at hnk; omega
    go_upto_region 17 with fail
    generalize hww : wr = W9 at *
    clear hww
    obtain ⟨aE, cE, hvE, _, _⟩ := S.own1.form
    obtain ⟨aF, cF, hvF, _, _⟩ := S.own2.form
    rw [zdX] at hvE hvF
    subst hvE hvF
    have b0 := S.c0
    have b1 := S.c1
    have b2 := S.c2
    have b3 := S.c3
    have b4 := S.c4
    have b5' := S.c5
    have b6' := S.c6
    have b7 := S.c7
    have b8 := S.c8
    obtain ⟨X, Y, Z, fz, hz3, hB⟩ := hbox S.bel
    have HO := put_end (fx := f2 ++ (f4 ++ (f5 ++ f6))) (ft := ft) S hB m0 m7 (by (try simp); omega) (by (try simp); omega) (fun u hu => hgn.out u hu) (fun b hb => (hfn.out b hb).elim (fun h => .inl (by simp [h])) .inr)
    have NS := zI (u := W9) (b := w.heap.size + 1 + 1) (.int .i64 x.kind) (.string ⟨#[]⟩) (.slice none 0 0) (.string ⟨#[]⟩) (.slice none 0 0) (.slice aE (ns).length cE) (.slice aF (ts).length cF) (.int .i64 x.bound) (.bool x.strict) (fun j hj => by
     rcases j with _ | _ | _ | _ | _ | _ | _ | _ | _ | j
     all_goals first | exact ⟨_, Z _ _ rfl⟩ | omega)
    obtain ⟨R0, R1, R2, R3, R4, R5, R6, R7, R8⟩ := NS
    simp only [zi] at R0 R1 R2 R3 R4 R5 R6 R7 R8 HO
    have z0 := Z 0 _ rfl
    have z1 := Z 1 _ rfl
    have z2 := Z 2 _ rfl
    have z3 := Z 3 _ rfl
    have z4 := Z 4 _ rfl
    have z5 := Z 5 _ rfl
    have z6 := Z 6 _ rfl
    have z7 := Z 7 _ rfl
    have z8 := Z 8 _ rfl
    have fz0 := fz 0
    have fz1 := fz 1
    have fz2 := fz 2
    have fz3 := fz 3
    have fz4 := fz 4
    have fz5 := fz 5
    have fz6 := fz 6
    have fz7 := fz 7
    have fz8 := fz 8
    clear X Y Z fz hz3 hB S
    go_wp2_with fail
    refine bodyPost_ret (v := .agg #[.int .i64 x.kind, .string ⟨#[]⟩, .slice none 0 0, .string ⟨#[]⟩, .slice none 0 0, .slice aE (ns).length cE, .slice aF (ts).length cF, .int .i64 x.bound, .bool x.strict]) (by simp [results, Tryz.results49, go_sem, R0, R1, R2, R3, R4, R5, R6, R7, R8]) rfl ?_
    exact HO
end Go.Proofs.YtoehhbkhdddeeaaGreatDoor
end
