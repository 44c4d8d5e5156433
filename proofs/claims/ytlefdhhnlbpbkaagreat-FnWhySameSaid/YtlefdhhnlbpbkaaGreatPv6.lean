/- Parts of the proof: Reads. -/
import Derived.Test.YtlefdhhnlbpbkaaGreatPv5
section
namespace Go.Proofs.YtlefdhhnlbpbkaaGreat
open Go Go.RowKit
set_option linter.unusedVariables false
set_option linter.unusedSimpArgs false
set_option maxRecDepth 100000
set_option maxHeartbeats 16000000
theorem RdVs.one_inv {w : World} {d : CD} {vs : List Value} {fp : List Nat} (h : RdVs w [d] vs fp) : ∃ v, vs = [v] ∧ Rd w d v fp := by
 simp only [RdVs] at h
 obtain ⟨v, vs', f1, f2, rfl, rfl, hd, rfl, rfl⟩ := h
 exact ⟨v, rfl, by simpa using hd⟩
theorem zu {w : World} {n : Int} {v : Value} {f : List Nat} (h : Rd w (.int n) v f) : v = .int .i64 n ∧ I64 n ∧ f = [] := by simpa only [Rd] using h
theorem za6 {w : World} {s : ByteArray} {v : Value} {f : List Nat} (h : Rd w (.str s) v f) : v = .string s ∧ s.size ≤ maxLen ∧ f = [] := by simpa only [Rd] using h
theorem zaQ {w : World} {b : Bool} {v : Value} {f : List Nat} (h : Rd w (.bool b) v f) : v = .bool b ∧ f = [] := by simpa only [Rd] using h
theorem zd {w : World} {α : Type} {cd : α → List CD} {xs : List α} {v : Value} {f : List Nat} (h : Rd w (.sl (xs.map cd)) v f) : ∃ a c, v = .slice a xs.length c ∧ xs.length ≤ c ∧ c ≤ 9223372036854775807 := by
 obtain ⟨a, c, h1, h2, h3⟩ := h.sl_form
 exact ⟨a, c, by simpa using h1, by simpa using h2, h3⟩
theorem zH {w : World} {n : Int} (h : I64 n) : RdVs w [.int n] [.int .i64 n] [] := RdVs.single (by simp only [Rd]; exact ⟨trivial, h, trivial⟩)
theorem zcK {w : World} {s : ByteArray} (h : s.size ≤ maxLen) : RdVs w [.str s] [.string s] [] := RdVs.single (by simp only [Rd]; exact ⟨trivial, h, trivial⟩)
theorem zm {w : World} {α : Type} {cd : α → List CD} {xs : List α} {a : Option Addr} {n c : Nat} {f : List Nat} (h : Rd w (.sl (xs.map cd)) (.slice a n c) f) (hne : 0 < xs.length) :
  ∃ b off, a = some ⟨b, off, none⟩ ∧ b < w.heap.size ∧ b ∈ f := by
 obtain ⟨b, off, g, h1, h2, rfl, _⟩ := h.addr (by simpa using hne)
 exact ⟨b, off, h1, h2, by simp⟩
theorem zaz (n : Int) : (zk n).length = 1 := rfl
theorem zL {w : World} {xs : List Int} {b off n cap : Nat} {fp : List Nat} (h : Rd w (.sl (xs.map zk)) (.slice (some ⟨b, off, none⟩) n cap) fp) {k : Nat} (hk : k < xs.length) : w.cell? ⟨b, off + k, none⟩ = some (.int .i64 xs[k]) ∧ I64 xs[k] := by
 obtain ⟨vs, f, h1, h2, h3⟩ := h.row (k := 1) (by simp only [List.mem_map]; rintro e ⟨t, _, rfl⟩; exact zaz t) k (by simpa using hk)
 rw [List.getElem_map] at h2
 obtain ⟨v, rfl, hr⟩ := RdVs.one_inv h2
 have hc := h1 0 v rfl
 rw [Nat.mul_one, Nat.add_zero] at hc
 obtain ⟨rfl, hi, rfl⟩ := zu hr
 exact ⟨hc, hi⟩
theorem Sy.cd_len (x : Sy) : x.cd.length = 3 := by simp [Sy.cd]
theorem Sy.open {w : World} {x : Sy} {vs : List Value} {fp : List Nat} (h : RdVs w x.cd vs fp) : ∃ (a1 : Option Addr) (c1 : Nat) (f1 : List Nat), vs = [.string x.name, .slice a1 x.args.length c1, .int .i64 x.sort] ∧ fp = f1 ∧ x.name.size ≤ maxLen ∧ Rd w (.sl (x.args.map zk)) (.slice a1 x.args.length c1) f1 ∧ I64 x.sort := by
 unfold Sy.cd at h
 obtain ⟨u0, r0, g0, s0, ha, hb, e0, h0⟩ := h.split
 clear h
 subst ha
 subst hb
 obtain ⟨v0, rfl, q0⟩ := RdVs.one_inv e0
 obtain ⟨rfl, i0, rfl⟩ := za6 q0
 obtain ⟨u1, r1, g1, s1, ha, hb, e1, h1⟩ := h0.split
 clear h0
 subst ha
 subst hb
 obtain ⟨v1, rfl, q1⟩ := RdVs.one_inv e1
 obtain ⟨xa1, xc1, rfl, _⟩ := zd q1
 obtain ⟨v2, rfl, q2⟩ := RdVs.one_inv h1
 obtain ⟨rfl, i2, rfl⟩ := zu q2
 exact ⟨_, _, _, rfl, by simp, i0, q1, i2⟩
theorem Sy.close {w : World} {x : Sy} {a1 : Option Addr} {c1 : Nat} {f1 : List Nat} (p0 : x.name.size ≤ maxLen) (p1 : Rd w (.sl (x.args.map zk)) (.slice a1 x.args.length c1) f1) (p2 : I64 x.sort) : RdVs w x.cd [.string x.name, .slice a1 x.args.length c1, .int .i64 x.sort] (f1) := by
 have e : ([] ++ (f1 ++ []) : List Nat) = f1 := by simp
 rw [← e]
 exact ((zcK p0).app ((RdVs.single p1).app (zH p2)))
theorem Sy.at {w : World} {xs : List Sy} {b off n cap : Nat} {fp : List Nat} (h : Rd w (.sl (xs.map Sy.cd)) (.slice (some ⟨b, off, none⟩) n cap) fp) {k : Nat} (hk : k < xs.length) : ∃ (a1 : Option Addr) (c1 : Nat) (f1 : List Nat), w.cell? ⟨b, off + k * 3, none⟩ = some (.string xs[k].name) ∧ w.cell? ⟨b, off + k * 3 + 1, none⟩ = some (.slice a1 xs[k].args.length c1) ∧ w.cell? ⟨b, off + k * 3 + 2, none⟩ = some (.int .i64 xs[k].sort) ∧ xs[k].name.size ≤ maxLen ∧ Rd w (.sl (xs[k].args.map zk)) (.slice a1 xs[k].args.length c1) f1 ∧ I64 xs[k].sort ∧ ∀ y ∈ (f1), y ∈ fp := by
 obtain ⟨vs, f, h1, h2, h3⟩ := h.row (k := 3) (by simp only [List.mem_map]; rintro e ⟨t, _, rfl⟩; exact Sy.cd_len t) k (by simpa using hk)
 rw [List.getElem_map] at h2
 obtain ⟨a1, c1, f1, rfl, hfp, m0, m1, m2⟩ := Sy.open h2
 exact ⟨a1, c1, f1, h1 0 _ rfl, h1 1 _ rfl, h1 2 _ rfl, m0, m1, m2, fun y hy => h3 y (by rw [hfp]; exact hy)⟩
theorem Sg.cd_len (x : Sg) : x.cd.length = 1 := by simp [Sg.cd]
theorem Sg.open {w : World} {x : Sg} {vs : List Value} {fp : List Nat} (h : RdVs w x.cd vs fp) : ∃ (a0 : Option Addr) (c0 : Nat) (f0 : List Nat), vs = [.slice a0 x.syms.length c0] ∧ fp = f0 ∧ Rd w (.sl (x.syms.map Sy.cd)) (.slice a0 x.syms.length c0) f0 := by
 unfold Sg.cd at h
 obtain ⟨v0, rfl, q0⟩ := RdVs.one_inv h
 obtain ⟨xa0, xc0, rfl, _⟩ := zd q0
 exact ⟨_, _, _, rfl, by simp, q0⟩
theorem Sg.close {w : World} {x : Sg} {a0 : Option Addr} {c0 : Nat} {f0 : List Nat} (p0 : Rd w (.sl (x.syms.map Sy.cd)) (.slice a0 x.syms.length c0) f0) : RdVs w x.cd [.slice a0 x.syms.length c0] (f0) := by
 have e : (f0 : List Nat) = f0 := rfl
 rw [← e]
 exact (RdVs.single p0)
theorem Sg.at {w : World} {xs : List Sg} {b off n cap : Nat} {fp : List Nat} (h : Rd w (.sl (xs.map Sg.cd)) (.slice (some ⟨b, off, none⟩) n cap) fp) {k : Nat} (hk : k < xs.length) : ∃ (a0 : Option Addr) (c0 : Nat) (f0 : List Nat), w.cell? ⟨b, off + k * 1, none⟩ = some (.slice a0 xs[k].syms.length c0) ∧ Rd w (.sl (xs[k].syms.map Sy.cd)) (.slice a0 xs[k].syms.length c0) f0 ∧ ∀ y ∈ (f0), y ∈ fp := by
 obtain ⟨vs, f, h1, h2, h3⟩ := h.row (k := 1) (by simp only [List.mem_map]; rintro e ⟨t, _, rfl⟩; exact Sg.cd_len t) k (by simpa using hk)
 rw [List.getElem_map] at h2
 obtain ⟨a0, c0, f0, rfl, hfp, m0⟩ := Sg.open h2
 exact ⟨a0, c0, f0, h1 0 _ rfl, m0, fun y hy => h3 y (by rw [hfp]; exact hy)⟩
theorem Tm.cd_app (x : Tm) : x.cd = [.str x.name] ++ [.sl (x.kids.map Tm.cd)] := Tm.cd_eq x
theorem Tm.open {w : World} {x : Tm} {vs : List Value} {fp : List Nat} (h : RdVs w x.cd vs fp) : ∃ (a1 : Option Addr) (c1 : Nat) (f1 : List Nat), vs = [.string x.name, .slice a1 x.kids.length c1] ∧ fp = f1 ∧ x.name.size ≤ maxLen ∧ Rd w (.sl (x.kids.map Tm.cd)) (.slice a1 x.kids.length c1) f1 := by
 rw [Tm.cd_app] at h
 obtain ⟨u0, r0, g0, s0, ha, hb, e0, h0⟩ := h.split
 clear h
 subst ha
 subst hb
 obtain ⟨v0, rfl, q0⟩ := RdVs.one_inv e0
 obtain ⟨rfl, i0, rfl⟩ := za6 q0
 obtain ⟨v1, rfl, q1⟩ := RdVs.one_inv h0
 obtain ⟨xa1, xc1, rfl, _⟩ := zd q1
 exact ⟨_, _, _, rfl, by simp, i0, q1⟩
theorem Tm.close {w : World} {x : Tm} {a1 : Option Addr} {c1 : Nat} {f1 : List Nat} (p0 : x.name.size ≤ maxLen) (p1 : Rd w (.sl (x.kids.map Tm.cd)) (.slice a1 x.kids.length c1) f1) : RdVs w x.cd [.string x.name, .slice a1 x.kids.length c1] (f1) := by
 have e : ([] ++ f1 : List Nat) = f1 := by simp
 rw [← e]
 rw [Tm.cd_app]
 exact ((zcK p0).app (RdVs.single p1))
theorem Tm.at {w : World} {xs : List Tm} {b off n cap : Nat} {fp : List Nat} (h : Rd w (.sl (xs.map Tm.cd)) (.slice (some ⟨b, off, none⟩) n cap) fp) {k : Nat} (hk : k < xs.length) : ∃ (a1 : Option Addr) (c1 : Nat) (f1 : List Nat), w.cell? ⟨b, off + k * 2, none⟩ = some (.string xs[k].name) ∧ w.cell? ⟨b, off + k * 2 + 1, none⟩ = some (.slice a1 xs[k].kids.length c1) ∧ xs[k].name.size ≤ maxLen ∧ Rd w (.sl (xs[k].kids.map Tm.cd)) (.slice a1 xs[k].kids.length c1) f1 ∧ ∀ y ∈ (f1), y ∈ fp := by
 obtain ⟨vs, f, h1, h2, h3⟩ := h.row (k := 2) (by simp only [List.mem_map]; rintro e ⟨t, _, rfl⟩; exact Tm.cd_len t) k (by simpa using hk)
 rw [List.getElem_map] at h2
 obtain ⟨a1, c1, f1, rfl, hfp, m0, m1⟩ := Tm.open h2
 exact ⟨a1, c1, f1, h1 0 _ rfl, h1 1 _ rfl, m0, m1, fun y hy => h3 y (by rw [hfp]; exact hy)⟩
theorem Eqn.cd_len (x : Eqn) : x.cd.length = 4 := by simp [Eqn.cd, Tm.cd_len]
theorem Eqn.open {w : World} {x : Eqn} {vs : List Value} {fp : List Nat} (h : RdVs w x.cd vs fp) : ∃ (a1 : Option Addr) (c1 : Nat) (f1 : List Nat), ∃ (a3 : Option Addr) (c3 : Nat) (f3 : List Nat), vs = [.string x.a.name, .slice a1 x.a.kids.length c1, .string x.b.name, .slice a3 x.b.kids.length c3] ∧ fp = f1 ++ f3 ∧ x.a.name.size ≤ maxLen ∧ Rd w (.sl (x.a.kids.map Tm.cd)) (.slice a1 x.a.kids.length c1) f1 ∧ x.b.name.size ≤ maxLen ∧ Rd w (.sl (x.b.kids.map Tm.cd)) (.slice a3 x.b.kids.length c3) f3 := by
 unfold Eqn.cd at h
 obtain ⟨u0, r0, g0, s0, ha, hb, e0, h0⟩ := h.split
 clear h
 subst ha
 subst hb
 obtain ⟨n0_0_a, n0_0_c, n0_0_f, rfl, rfl, m0_0, m0_1⟩ := Tm.open e0
 obtain ⟨n1_0_a, n1_0_c, n1_0_f, rfl, rfl, m1_0, m1_1⟩ := Tm.open h0
 exact ⟨_, _, _, _, _, _, rfl, by simp, m0_0, m0_1, m1_0, m1_1⟩
theorem Eqn.close {w : World} {x : Eqn} {a1 : Option Addr} {c1 : Nat} {f1 : List Nat} {a3 : Option Addr} {c3 : Nat} {f3 : List Nat} (p0 : x.a.name.size ≤ maxLen) (p1 : Rd w (.sl (x.a.kids.map Tm.cd)) (.slice a1 x.a.kids.length c1) f1) (p2 : x.b.name.size ≤ maxLen) (p3 : Rd w (.sl (x.b.kids.map Tm.cd)) (.slice a3 x.b.kids.length c3) f3) : RdVs w x.cd [.string x.a.name, .slice a1 x.a.kids.length c1, .string x.b.name, .slice a3 x.b.kids.length c3] (f1 ++ f3) := by
 have e : (f1 ++ f3 : List Nat) = f1 ++ f3 := by simp
 rw [← e]
 exact ((Tm.close p0 p1).app (Tm.close p2 p3))
theorem Eqn.at {w : World} {xs : List Eqn} {b off n cap : Nat} {fp : List Nat} (h : Rd w (.sl (xs.map Eqn.cd)) (.slice (some ⟨b, off, none⟩) n cap) fp) {k : Nat} (hk : k < xs.length) : ∃ (a1 : Option Addr) (c1 : Nat) (f1 : List Nat), ∃ (a3 : Option Addr) (c3 : Nat) (f3 : List Nat), w.cell? ⟨b, off + k * 4, none⟩ = some (.string xs[k].a.name) ∧ w.cell? ⟨b, off + k * 4 + 1, none⟩ = some (.slice a1 xs[k].a.kids.length c1) ∧ w.cell? ⟨b, off + k * 4 + 2, none⟩ = some (.string xs[k].b.name) ∧ w.cell? ⟨b, off + k * 4 + 3, none⟩ = some (.slice a3 xs[k].b.kids.length c3) ∧ xs[k].a.name.size ≤ maxLen ∧ Rd w (.sl (xs[k].a.kids.map Tm.cd)) (.slice a1 xs[k].a.kids.length c1) f1 ∧ xs[k].b.name.size ≤ maxLen ∧ Rd w (.sl (xs[k].b.kids.map Tm.cd)) (.slice a3 xs[k].b.kids.length c3) f3 ∧ ∀ y ∈ (f1 ++ f3), y ∈ fp := by
 obtain ⟨vs, f, h1, h2, h3⟩ := h.row (k := 4) (by simp only [List.mem_map]; rintro e ⟨t, _, rfl⟩; exact Eqn.cd_len t) k (by simpa using hk)
 rw [List.getElem_map] at h2
 obtain ⟨a1, c1, f1, a3, c3, f3, rfl, hfp, m0, m1, m2, m3⟩ := Eqn.open h2
 exact ⟨a1, c1, f1, a3, c3, f3, h1 0 _ rfl, h1 1 _ rfl, h1 2 _ rfl, h1 3 _ rfl, m0, m1, m2, m3, fun y hy => h3 y (by rw [hfp]; exact hy)⟩
theorem Stp.cd_len (x : Stp) : x.cd.length = 3 := by simp [Stp.cd]
theorem Stp.open {w : World} {x : Stp} {vs : List Value} {fp : List Nat} (h : RdVs w x.cd vs fp) : vs = [.int .i64 x.a, .int .i64 x.b, .int .i64 x.given] ∧ fp = ([] : List Nat) ∧ I64 x.a ∧ I64 x.b ∧ I64 x.given := by
 unfold Stp.cd at h
 obtain ⟨u0, r0, g0, s0, ha, hb, e0, h0⟩ := h.split
 clear h
 subst ha
 subst hb
 obtain ⟨v0, rfl, q0⟩ := RdVs.one_inv e0
 obtain ⟨rfl, i0, rfl⟩ := zu q0
 obtain ⟨u1, r1, g1, s1, ha, hb, e1, h1⟩ := h0.split
 clear h0
 subst ha
 subst hb
 obtain ⟨v1, rfl, q1⟩ := RdVs.one_inv e1
 obtain ⟨rfl, i1, rfl⟩ := zu q1
 obtain ⟨v2, rfl, q2⟩ := RdVs.one_inv h1
 obtain ⟨rfl, i2, rfl⟩ := zu q2
 exact ⟨rfl, by simp, i0, i1, i2⟩
theorem Stp.at {w : World} {xs : List Stp} {b off n cap : Nat} {fp : List Nat} (h : Rd w (.sl (xs.map Stp.cd)) (.slice (some ⟨b, off, none⟩) n cap) fp) {k : Nat} (hk : k < xs.length) : w.cell? ⟨b, off + k * 3, none⟩ = some (.int .i64 xs[k].a) ∧ w.cell? ⟨b, off + k * 3 + 1, none⟩ = some (.int .i64 xs[k].b) ∧ w.cell? ⟨b, off + k * 3 + 2, none⟩ = some (.int .i64 xs[k].given) ∧ I64 xs[k].a ∧ I64 xs[k].b ∧ I64 xs[k].given ∧ ∀ y ∈ (([] : List Nat)), y ∈ fp := by
 obtain ⟨vs, f, h1, h2, h3⟩ := h.row (k := 3) (by simp only [List.mem_map]; rintro e ⟨t, _, rfl⟩; exact Stp.cd_len t) k (by simpa using hk)
 rw [List.getElem_map] at h2
 obtain ⟨rfl, hfp, m0, m1, m2⟩ := Stp.open h2
 exact ⟨h1 0 _ rfl, h1 1 _ rfl, h1 2 _ rfl, m0, m1, m2, fun y hy => h3 y (by rw [hfp]; exact hy)⟩
theorem Wy.cd_len (x : Wy) : x.cd.length = 5 := by rw [Wy.cd_eq]; simp [Tm.cd_len]
theorem Wy.open {w : World} {x : Wy} {vs : List Value} {fp : List Nat} (h : RdVs w x.cd vs fp) : ∃ (a3 : Option Addr) (c3 : Nat) (f3 : List Nat), ∃ (a4 : Option Addr) (c4 : Nat) (f4 : List Nat), vs = [.int .i64 x.rule, .int .i64 x.n, .string x.t.name, .slice a3 x.t.kids.length c3, .slice a4 x.kids.length c4] ∧ fp = f3 ++ f4 ∧ I64 x.rule ∧ I64 x.n ∧ x.t.name.size ≤ maxLen ∧ Rd w (.sl (x.t.kids.map Tm.cd)) (.slice a3 x.t.kids.length c3) f3 ∧ Rd w (.sl (x.kids.map Wy.cd)) (.slice a4 x.kids.length c4) f4 := by
 rw [Wy.cd_eq] at h
 obtain ⟨u0, r0, g0, s0, ha, hb, e0, h0⟩ := h.split
 clear h
 subst ha
 subst hb
 obtain ⟨v0, rfl, q0⟩ := RdVs.one_inv e0
 obtain ⟨rfl, i0, rfl⟩ := zu q0
 obtain ⟨u1, r1, g1, s1, ha, hb, e1, h1⟩ := h0.split
 clear h0
 subst ha
 subst hb
 obtain ⟨v1, rfl, q1⟩ := RdVs.one_inv e1
 obtain ⟨rfl, i1, rfl⟩ := zu q1
 obtain ⟨u2, r2, g2, s2, ha, hb, e2, h2⟩ := h1.split
 clear h1
 subst ha
 subst hb
 obtain ⟨n2_0_a, n2_0_c, n2_0_f, rfl, rfl, m2_0, m2_1⟩ := Tm.open e2
 obtain ⟨v3, rfl, q3⟩ := RdVs.one_inv h2
 obtain ⟨xa3, xc3, rfl, _⟩ := zd q3
 exact ⟨_, _, _, _, _, _, rfl, by simp, i0, i1, m2_0, m2_1, q3⟩
theorem Wy.close {w : World} {x : Wy} {a3 : Option Addr} {c3 : Nat} {f3 : List Nat} {a4 : Option Addr} {c4 : Nat} {f4 : List Nat} (p0 : I64 x.rule) (p1 : I64 x.n) (p2 : x.t.name.size ≤ maxLen) (p3 : Rd w (.sl (x.t.kids.map Tm.cd)) (.slice a3 x.t.kids.length c3) f3) (p4 : Rd w (.sl (x.kids.map Wy.cd)) (.slice a4 x.kids.length c4) f4) : RdVs w x.cd [.int .i64 x.rule, .int .i64 x.n, .string x.t.name, .slice a3 x.t.kids.length c3, .slice a4 x.kids.length c4] (f3 ++ f4) := by
 have e : ([] ++ ([] ++ (f3 ++ f4)) : List Nat) = f3 ++ f4 := by simp
 rw [← e]
 rw [Wy.cd_eq]
 exact ((zH p0).app ((zH p1).app ((Tm.close p2 p3).app (RdVs.single p4))))
theorem Wy.at {w : World} {xs : List Wy} {b off n cap : Nat} {fp : List Nat} (h : Rd w (.sl (xs.map Wy.cd)) (.slice (some ⟨b, off, none⟩) n cap) fp) {k : Nat} (hk : k < xs.length) : ∃ (a3 : Option Addr) (c3 : Nat) (f3 : List Nat), ∃ (a4 : Option Addr) (c4 : Nat) (f4 : List Nat), w.cell? ⟨b, off + k * 5, none⟩ = some (.int .i64 xs[k].rule) ∧ w.cell? ⟨b, off + k * 5 + 1, none⟩ = some (.int .i64 xs[k].n) ∧ w.cell? ⟨b, off + k * 5 + 2, none⟩ = some (.string xs[k].t.name) ∧ w.cell? ⟨b, off + k * 5 + 3, none⟩ = some (.slice a3 xs[k].t.kids.length c3) ∧ w.cell? ⟨b, off + k * 5 + 4, none⟩ = some (.slice a4 xs[k].kids.length c4) ∧ I64 xs[k].rule ∧ I64 xs[k].n ∧ xs[k].t.name.size ≤ maxLen ∧ Rd w (.sl (xs[k].t.kids.map Tm.cd)) (.slice a3 xs[k].t.kids.length c3) f3 ∧ Rd w (.sl (xs[k].kids.map Wy.cd)) (.slice a4 xs[k].kids.length c4) f4 ∧ ∀ y ∈ (f3 ++ f4), y ∈ fp := by
 obtain ⟨vs, f, h1, h2, h3⟩ := h.row (k := 5) (by simp only [List.mem_map]; rintro e ⟨t, _, rfl⟩; exact Wy.cd_len t) k (by simpa using hk)
 rw [List.getElem_map] at h2
 obtain ⟨a3, c3, f3, a4, c4, f4, rfl, hfp, m0, m1, m2, m3, m4⟩ := Wy.open h2
 exact ⟨a3, c3, f3, a4, c4, f4, h1 0 _ rfl, h1 1 _ rfl, h1 2 _ rfl, h1 3 _ rfl, h1 4 _ rfl, m0, m1, m2, m3, m4, fun y hy => h3 y (by rw [hfp]; exact hy)⟩
theorem Atm.cd_len (x : Atm) : x.cd.length = 9 := by simp [Atm.cd, Tm.cd_len]
theorem Atm.open {w : World} {x : Atm} {vs : List Value} {fp : List Nat} (h : RdVs w x.cd vs fp) : ∃ (a2 : Option Addr) (c2 : Nat) (f2 : List Nat), ∃ (a4 : Option Addr) (c4 : Nat) (f4 : List Nat), ∃ (a5 : Option Addr) (c5 : Nat) (f5 : List Nat), ∃ (a6 : Option Addr) (c6 : Nat) (f6 : List Nat), vs = [.int .i64 x.kind, .string x.a.name, .slice a2 x.a.kids.length c2, .string x.b.name, .slice a4 x.b.kids.length c4, .slice a5 x.nums.length c5, .slice a6 x.times.length c6, .int .i64 x.bound, .bool x.strict] ∧ fp = f2 ++ (f4 ++ (f5 ++ f6)) ∧ I64 x.kind ∧ x.a.name.size ≤ maxLen ∧ Rd w (.sl (x.a.kids.map Tm.cd)) (.slice a2 x.a.kids.length c2) f2 ∧ x.b.name.size ≤ maxLen ∧ Rd w (.sl (x.b.kids.map Tm.cd)) (.slice a4 x.b.kids.length c4) f4 ∧ Rd w (.sl (x.nums.map Tm.cd)) (.slice a5 x.nums.length c5) f5 ∧ Rd w (.sl (x.times.map zk)) (.slice a6 x.times.length c6) f6 ∧ I64 x.bound := by
 unfold Atm.cd at h
 obtain ⟨u0, r0, g0, s0, ha, hb, e0, h0⟩ := h.split
 clear h
 subst ha
 subst hb
 obtain ⟨v0, rfl, q0⟩ := RdVs.one_inv e0
 obtain ⟨rfl, i0, rfl⟩ := zu q0
 obtain ⟨u1, r1, g1, s1, ha, hb, e1, h1⟩ := h0.split
 clear h0
 subst ha
 subst hb
 obtain ⟨n1_0_a, n1_0_c, n1_0_f, rfl, rfl, m1_0, m1_1⟩ := Tm.open e1
 obtain ⟨u2, r2, g2, s2, ha, hb, e2, h2⟩ := h1.split
 clear h1
 subst ha
 subst hb
 obtain ⟨n2_0_a, n2_0_c, n2_0_f, rfl, rfl, m2_0, m2_1⟩ := Tm.open e2
 obtain ⟨u3, r3, g3, s3, ha, hb, e3, h3⟩ := h2.split
 clear h2
 subst ha
 subst hb
 obtain ⟨v3, rfl, q3⟩ := RdVs.one_inv e3
 obtain ⟨xa3, xc3, rfl, _⟩ := zd q3
 obtain ⟨u4, r4, g4, s4, ha, hb, e4, h4⟩ := h3.split
 clear h3
 subst ha
 subst hb
 obtain ⟨v4, rfl, q4⟩ := RdVs.one_inv e4
 obtain ⟨xa4, xc4, rfl, _⟩ := zd q4
 obtain ⟨u5, r5, g5, s5, ha, hb, e5, h5⟩ := h4.split
 clear h4
 subst ha
 subst hb
 obtain ⟨v5, rfl, q5⟩ := RdVs.one_inv e5
 obtain ⟨rfl, i5, rfl⟩ := zu q5
 obtain ⟨v6, rfl, q6⟩ := RdVs.one_inv h5
 obtain ⟨rfl, rfl⟩ := zaQ q6
 exact ⟨_, _, _, _, _, _, _, _, _, _, _, _, rfl, by simp, i0, m1_0, m1_1, m2_0, m2_1, q3, q4, i5⟩
theorem Atm.at {w : World} {xs : List Atm} {b off n cap : Nat} {fp : List Nat} (h : Rd w (.sl (xs.map Atm.cd)) (.slice (some ⟨b, off, none⟩) n cap) fp) {k : Nat} (hk : k < xs.length) : ∃ (a2 : Option Addr) (c2 : Nat) (f2 : List Nat), ∃ (a4 : Option Addr) (c4 : Nat) (f4 : List Nat), ∃ (a5 : Option Addr) (c5 : Nat) (f5 : List Nat), ∃ (a6 : Option Addr) (c6 : Nat) (f6 : List Nat), w.cell? ⟨b, off + k * 9, none⟩ = some (.int .i64 xs[k].kind) ∧ w.cell? ⟨b, off + k * 9 + 1, none⟩ = some (.string xs[k].a.name) ∧ w.cell? ⟨b, off + k * 9 + 2, none⟩ = some (.slice a2 xs[k].a.kids.length c2) ∧ w.cell? ⟨b, off + k * 9 + 3, none⟩ = some (.string xs[k].b.name) ∧ w.cell? ⟨b, off + k * 9 + 4, none⟩ = some (.slice a4 xs[k].b.kids.length c4) ∧ w.cell? ⟨b, off + k * 9 + 5, none⟩ = some (.slice a5 xs[k].nums.length c5) ∧ w.cell? ⟨b, off + k * 9 + 6, none⟩ = some (.slice a6 xs[k].times.length c6) ∧ w.cell? ⟨b, off + k * 9 + 7, none⟩ = some (.int .i64 xs[k].bound) ∧ w.cell? ⟨b, off + k * 9 + 8, none⟩ = some (.bool xs[k].strict) ∧ I64 xs[k].kind ∧ xs[k].a.name.size ≤ maxLen ∧ Rd w (.sl (xs[k].a.kids.map Tm.cd)) (.slice a2 xs[k].a.kids.length c2) f2 ∧ xs[k].b.name.size ≤ maxLen ∧ Rd w (.sl (xs[k].b.kids.map Tm.cd)) (.slice a4 xs[k].b.kids.length c4) f4 ∧ Rd w (.sl (xs[k].nums.map Tm.cd)) (.slice a5 xs[k].nums.length c5) f5 ∧ Rd w (.sl (xs[k].times.map zk)) (.slice a6 xs[k].times.length c6) f6 ∧ I64 xs[k].bound ∧ ∀ y ∈ (f2 ++ (f4 ++ (f5 ++ f6))), y ∈ fp := by
 obtain ⟨vs, f, h1, h2, h3⟩ := h.row (k := 9) (by simp only [List.mem_map]; rintro e ⟨t, _, rfl⟩; exact Atm.cd_len t) k (by simpa using hk)
 rw [List.getElem_map] at h2
 obtain ⟨a2, c2, f2, a4, c4, f4, a5, c5, f5, a6, c6, f6, rfl, hfp, m0, m1, m2, m3, m4, m5, m6, m7⟩ := Atm.open h2
 exact ⟨a2, c2, f2, a4, c4, f4, a5, c5, f5, a6, c6, f6, h1 0 _ rfl, h1 1 _ rfl, h1 2 _ rfl, h1 3 _ rfl, h1 4 _ rfl, h1 5 _ rfl, h1 6 _ rfl, h1 7 _ rfl, h1 8 _ rfl, m0, m1, m2, m3, m4, m5, m6, m7, fun y hy => h3 y (by rw [hfp]; exact hy)⟩
theorem Lt.cd_len (x : Lt) : x.cd.length = 10 := by simp [Lt.cd, Atm.cd_len]
theorem Lt.open {w : World} {x : Lt} {vs : List Value} {fp : List Nat} (h : RdVs w x.cd vs fp) : ∃ (a2 : Option Addr) (c2 : Nat) (f2 : List Nat), ∃ (a4 : Option Addr) (c4 : Nat) (f4 : List Nat), ∃ (a5 : Option Addr) (c5 : Nat) (f5 : List Nat), ∃ (a6 : Option Addr) (c6 : Nat) (f6 : List Nat), vs = [.int .i64 x.atom.kind, .string x.atom.a.name, .slice a2 x.atom.a.kids.length c2, .string x.atom.b.name, .slice a4 x.atom.b.kids.length c4, .slice a5 x.atom.nums.length c5, .slice a6 x.atom.times.length c6, .int .i64 x.atom.bound, .bool x.atom.strict, .bool x.no] ∧ fp = f2 ++ (f4 ++ (f5 ++ f6)) ∧ I64 x.atom.kind ∧ x.atom.a.name.size ≤ maxLen ∧ Rd w (.sl (x.atom.a.kids.map Tm.cd)) (.slice a2 x.atom.a.kids.length c2) f2 ∧ x.atom.b.name.size ≤ maxLen ∧ Rd w (.sl (x.atom.b.kids.map Tm.cd)) (.slice a4 x.atom.b.kids.length c4) f4 ∧ Rd w (.sl (x.atom.nums.map Tm.cd)) (.slice a5 x.atom.nums.length c5) f5 ∧ Rd w (.sl (x.atom.times.map zk)) (.slice a6 x.atom.times.length c6) f6 ∧ I64 x.atom.bound := by
 unfold Lt.cd at h
 obtain ⟨u0, r0, g0, s0, ha, hb, e0, h0⟩ := h.split
 clear h
 subst ha
 subst hb
 obtain ⟨n0_0_a, n0_0_c, n0_0_f, n0_1_a, n0_1_c, n0_1_f, n0_2_a, n0_2_c, n0_2_f, n0_3_a, n0_3_c, n0_3_f, rfl, rfl, m0_0, m0_1, m0_2, m0_3, m0_4, m0_5, m0_6, m0_7⟩ := Atm.open e0
 obtain ⟨v1, rfl, q1⟩ := RdVs.one_inv h0
 obtain ⟨rfl, rfl⟩ := zaQ q1
 exact ⟨_, _, _, _, _, _, _, _, _, _, _, _, rfl, by simp, m0_0, m0_1, m0_2, m0_3, m0_4, m0_5, m0_6, m0_7⟩
theorem Lt.at {w : World} {xs : List Lt} {b off n cap : Nat} {fp : List Nat} (h : Rd w (.sl (xs.map Lt.cd)) (.slice (some ⟨b, off, none⟩) n cap) fp) {k : Nat} (hk : k < xs.length) : ∃ (a2 : Option Addr) (c2 : Nat) (f2 : List Nat), ∃ (a4 : Option Addr) (c4 : Nat) (f4 : List Nat), ∃ (a5 : Option Addr) (c5 : Nat) (f5 : List Nat), ∃ (a6 : Option Addr) (c6 : Nat) (f6 : List Nat), w.cell? ⟨b, off + k * 10, none⟩ = some (.int .i64 xs[k].atom.kind) ∧ w.cell? ⟨b, off + k * 10 + 1, none⟩ = some (.string xs[k].atom.a.name) ∧ w.cell? ⟨b, off + k * 10 + 2, none⟩ = some (.slice a2 xs[k].atom.a.kids.length c2) ∧ w.cell? ⟨b, off + k * 10 + 3, none⟩ = some (.string xs[k].atom.b.name) ∧ w.cell? ⟨b, off + k * 10 + 4, none⟩ = some (.slice a4 xs[k].atom.b.kids.length c4) ∧ w.cell? ⟨b, off + k * 10 + 5, none⟩ = some (.slice a5 xs[k].atom.nums.length c5) ∧ w.cell? ⟨b, off + k * 10 + 6, none⟩ = some (.slice a6 xs[k].atom.times.length c6) ∧ w.cell? ⟨b, off + k * 10 + 7, none⟩ = some (.int .i64 xs[k].atom.bound) ∧ w.cell? ⟨b, off + k * 10 + 8, none⟩ = some (.bool xs[k].atom.strict) ∧ w.cell? ⟨b, off + k * 10 + 9, none⟩ = some (.bool xs[k].no) ∧ I64 xs[k].atom.kind ∧ xs[k].atom.a.name.size ≤ maxLen ∧ Rd w (.sl (xs[k].atom.a.kids.map Tm.cd)) (.slice a2 xs[k].atom.a.kids.length c2) f2 ∧ xs[k].atom.b.name.size ≤ maxLen ∧ Rd w (.sl (xs[k].atom.b.kids.map Tm.cd)) (.slice a4 xs[k].atom.b.kids.length c4) f4 ∧ Rd w (.sl (xs[k].atom.nums.map Tm.cd)) (.slice a5 xs[k].atom.nums.length c5) f5 ∧ Rd w (.sl (xs[k].atom.times.map zk)) (.slice a6 xs[k].atom.times.length c6) f6 ∧ I64 xs[k].atom.bound ∧ ∀ y ∈ (f2 ++ (f4 ++ (f5 ++ f6))), y ∈ fp := by
 obtain ⟨vs, f, h1, h2, h3⟩ := h.row (k := 10) (by simp only [List.mem_map]; rintro e ⟨t, _, rfl⟩; exact Lt.cd_len t) k (by simpa using hk)
 rw [List.getElem_map] at h2
 obtain ⟨a2, c2, f2, a4, c4, f4, a5, c5, f5, a6, c6, f6, rfl, hfp, m0, m1, m2, m3, m4, m5, m6, m7⟩ := Lt.open h2
 exact ⟨a2, c2, f2, a4, c4, f4, a5, c5, f5, a6, c6, f6, h1 0 _ rfl, h1 1 _ rfl, h1 2 _ rfl, h1 3 _ rfl, h1 4 _ rfl, h1 5 _ rfl, h1 6 _ rfl, h1 7 _ rfl, h1 8 _ rfl, h1 9 _ rfl, m0, m1, m2, m3, m4, m5, m6, m7, fun y hy => h3 y (by rw [hfp]; exact hy)⟩
theorem Fm.cd_len (x : Fm) : x.cd.length = 12 := by rw [Fm.cd_eq]; simp [Lt.cd_len]
theorem Fm.open {w : World} {x : Fm} {vs : List Value} {fp : List Nat} (h : RdVs w x.cd vs fp) : ∃ (a3 : Option Addr) (c3 : Nat) (f3 : List Nat), ∃ (a5 : Option Addr) (c5 : Nat) (f5 : List Nat), ∃ (a6 : Option Addr) (c6 : Nat) (f6 : List Nat), ∃ (a7 : Option Addr) (c7 : Nat) (f7 : List Nat), ∃ (a11 : Option Addr) (c11 : Nat) (f11 : List Nat), vs = [.int .i64 x.kind, .int .i64 x.lit.atom.kind, .string x.lit.atom.a.name, .slice a3 x.lit.atom.a.kids.length c3, .string x.lit.atom.b.name, .slice a5 x.lit.atom.b.kids.length c5, .slice a6 x.lit.atom.nums.length c6, .slice a7 x.lit.atom.times.length c7, .int .i64 x.lit.atom.bound, .bool x.lit.atom.strict, .bool x.lit.no, .slice a11 x.kids.length c11] ∧ fp = f3 ++ (f5 ++ (f6 ++ (f7 ++ f11))) ∧ I64 x.kind ∧ I64 x.lit.atom.kind ∧ x.lit.atom.a.name.size ≤ maxLen ∧ Rd w (.sl (x.lit.atom.a.kids.map Tm.cd)) (.slice a3 x.lit.atom.a.kids.length c3) f3 ∧ x.lit.atom.b.name.size ≤ maxLen ∧ Rd w (.sl (x.lit.atom.b.kids.map Tm.cd)) (.slice a5 x.lit.atom.b.kids.length c5) f5 ∧ Rd w (.sl (x.lit.atom.nums.map Tm.cd)) (.slice a6 x.lit.atom.nums.length c6) f6 ∧ Rd w (.sl (x.lit.atom.times.map zk)) (.slice a7 x.lit.atom.times.length c7) f7 ∧ I64 x.lit.atom.bound ∧ Rd w (.sl (x.kids.map Fm.cd)) (.slice a11 x.kids.length c11) f11 := by
 rw [Fm.cd_eq] at h
 obtain ⟨u0, r0, g0, s0, ha, hb, e0, h0⟩ := h.split
 clear h
 subst ha
 subst hb
 obtain ⟨v0, rfl, q0⟩ := RdVs.one_inv e0
 obtain ⟨rfl, i0, rfl⟩ := zu q0
 obtain ⟨u1, r1, g1, s1, ha, hb, e1, h1⟩ := h0.split
 clear h0
 subst ha
 subst hb
 obtain ⟨n1_0_a, n1_0_c, n1_0_f, n1_1_a, n1_1_c, n1_1_f, n1_2_a, n1_2_c, n1_2_f, n1_3_a, n1_3_c, n1_3_f, rfl, rfl, m1_0, m1_1, m1_2, m1_3, m1_4, m1_5, m1_6, m1_7⟩ := Lt.open e1
 obtain ⟨v2, rfl, q2⟩ := RdVs.one_inv h1
 obtain ⟨xa2, xc2, rfl, _⟩ := zd q2
 exact ⟨_, _, _, _, _, _, _, _, _, _, _, _, _, _, _, rfl, by simp, i0, m1_0, m1_1, m1_2, m1_3, m1_4, m1_5, m1_6, m1_7, q2⟩
theorem Fm.at {w : World} {xs : List Fm} {b off n cap : Nat} {fp : List Nat} (h : Rd w (.sl (xs.map Fm.cd)) (.slice (some ⟨b, off, none⟩) n cap) fp) {k : Nat} (hk : k < xs.length) : ∃ (a3 : Option Addr) (c3 : Nat) (f3 : List Nat), ∃ (a5 : Option Addr) (c5 : Nat) (f5 : List Nat), ∃ (a6 : Option Addr) (c6 : Nat) (f6 : List Nat), ∃ (a7 : Option Addr) (c7 : Nat) (f7 : List Nat), ∃ (a11 : Option Addr) (c11 : Nat) (f11 : List Nat), w.cell? ⟨b, off + k * 12, none⟩ = some (.int .i64 xs[k].kind) ∧ w.cell? ⟨b, off + k * 12 + 1, none⟩ = some (.int .i64 xs[k].lit.atom.kind) ∧ w.cell? ⟨b, off + k * 12 + 2, none⟩ = some (.string xs[k].lit.atom.a.name) ∧ w.cell? ⟨b, off + k * 12 + 3, none⟩ = some (.slice a3 xs[k].lit.atom.a.kids.length c3) ∧ w.cell? ⟨b, off + k * 12 + 4, none⟩ = some (.string xs[k].lit.atom.b.name) ∧ w.cell? ⟨b, off + k * 12 + 5, none⟩ = some (.slice a5 xs[k].lit.atom.b.kids.length c5) ∧ w.cell? ⟨b, off + k * 12 + 6, none⟩ = some (.slice a6 xs[k].lit.atom.nums.length c6) ∧ w.cell? ⟨b, off + k * 12 + 7, none⟩ = some (.slice a7 xs[k].lit.atom.times.length c7) ∧ w.cell? ⟨b, off + k * 12 + 8, none⟩ = some (.int .i64 xs[k].lit.atom.bound) ∧ w.cell? ⟨b, off + k * 12 + 9, none⟩ = some (.bool xs[k].lit.atom.strict) ∧ w.cell? ⟨b, off + k * 12 + 10, none⟩ = some (.bool xs[k].lit.no) ∧ w.cell? ⟨b, off + k * 12 + 11, none⟩ = some (.slice a11 xs[k].kids.length c11) ∧ I64 xs[k].kind ∧ I64 xs[k].lit.atom.kind ∧ xs[k].lit.atom.a.name.size ≤ maxLen ∧ Rd w (.sl (xs[k].lit.atom.a.kids.map Tm.cd)) (.slice a3 xs[k].lit.atom.a.kids.length c3) f3 ∧ xs[k].lit.atom.b.name.size ≤ maxLen ∧ Rd w (.sl (xs[k].lit.atom.b.kids.map Tm.cd)) (.slice a5 xs[k].lit.atom.b.kids.length c5) f5 ∧ Rd w (.sl (xs[k].lit.atom.nums.map Tm.cd)) (.slice a6 xs[k].lit.atom.nums.length c6) f6 ∧ Rd w (.sl (xs[k].lit.atom.times.map zk)) (.slice a7 xs[k].lit.atom.times.length c7) f7 ∧ I64 xs[k].lit.atom.bound ∧ Rd w (.sl (xs[k].kids.map Fm.cd)) (.slice a11 xs[k].kids.length c11) f11 ∧ ∀ y ∈ (f3 ++ (f5 ++ (f6 ++ (f7 ++ f11)))), y ∈ fp := by
 obtain ⟨vs, f, h1, h2, h3⟩ := h.row (k := 12) (by simp only [List.mem_map]; rintro e ⟨t, _, rfl⟩; exact Fm.cd_len t) k (by simpa using hk)
 rw [List.getElem_map] at h2
 obtain ⟨a3, c3, f3, a5, c5, f5, a6, c6, f6, a7, c7, f7, a11, c11, f11, rfl, hfp, m0, m1, m2, m3, m4, m5, m6, m7, m8, m9⟩ := Fm.open h2
 exact ⟨a3, c3, f3, a5, c5, f5, a6, c6, f6, a7, c7, f7, a11, c11, f11, h1 0 _ rfl, h1 1 _ rfl, h1 2 _ rfl, h1 3 _ rfl, h1 4 _ rfl, h1 5 _ rfl, h1 6 _ rfl, h1 7 _ rfl, h1 8 _ rfl, h1 9 _ rfl, h1 10 _ rfl, h1 11 _ rfl, m0, m1, m2, m3, m4, m5, m6, m7, m8, m9, fun y hy => h3 y (by rw [hfp]; exact hy)⟩
theorem Cs.cd_len (x : Cs) : x.cd.length = 13 := by rw [Cs.cd_eq]; simp [Tm.cd_len, Wy.cd_len]
theorem Cs.open {w : World} {x : Cs} {vs : List Value} {fp : List Nat} (h : RdVs w x.cd vs fp) : ∃ (a5 : Option Addr) (c5 : Nat) (f5 : List Nat), ∃ (a6 : Option Addr) (c6 : Nat) (f6 : List Nat), ∃ (a7 : Option Addr) (c7 : Nat) (f7 : List Nat), ∃ (a9 : Option Addr) (c9 : Nat) (f9 : List Nat), ∃ (a11 : Option Addr) (c11 : Nat) (f11 : List Nat), ∃ (a12 : Option Addr) (c12 : Nat) (f12 : List Nat), vs = [.int .i64 x.kind, .int .i64 x.n, .int .i64 x.why.rule, .int .i64 x.why.n, .string x.why.t.name, .slice a5 x.why.t.kids.length c5, .slice a6 x.why.kids.length c6, .slice a7 x.times.length c7, .string x.a.name, .slice a9 x.a.kids.length c9, .string x.b.name, .slice a11 x.b.kids.length c11, .slice a12 x.kids.length c12] ∧ fp = f5 ++ (f6 ++ (f7 ++ (f9 ++ (f11 ++ f12)))) ∧ I64 x.kind ∧ I64 x.n ∧ I64 x.why.rule ∧ I64 x.why.n ∧ x.why.t.name.size ≤ maxLen ∧ Rd w (.sl (x.why.t.kids.map Tm.cd)) (.slice a5 x.why.t.kids.length c5) f5 ∧ Rd w (.sl (x.why.kids.map Wy.cd)) (.slice a6 x.why.kids.length c6) f6 ∧ Rd w (.sl (x.times.map zk)) (.slice a7 x.times.length c7) f7 ∧ x.a.name.size ≤ maxLen ∧ Rd w (.sl (x.a.kids.map Tm.cd)) (.slice a9 x.a.kids.length c9) f9 ∧ x.b.name.size ≤ maxLen ∧ Rd w (.sl (x.b.kids.map Tm.cd)) (.slice a11 x.b.kids.length c11) f11 ∧ Rd w (.sl (x.kids.map Cs.cd)) (.slice a12 x.kids.length c12) f12 := by
 rw [Cs.cd_eq] at h
 obtain ⟨u0, r0, g0, s0, ha, hb, e0, h0⟩ := h.split
 clear h
 subst ha
 subst hb
 obtain ⟨v0, rfl, q0⟩ := RdVs.one_inv e0
 obtain ⟨rfl, i0, rfl⟩ := zu q0
 obtain ⟨u1, r1, g1, s1, ha, hb, e1, h1⟩ := h0.split
 clear h0
 subst ha
 subst hb
 obtain ⟨v1, rfl, q1⟩ := RdVs.one_inv e1
 obtain ⟨rfl, i1, rfl⟩ := zu q1
 obtain ⟨u2, r2, g2, s2, ha, hb, e2, h2⟩ := h1.split
 clear h1
 subst ha
 subst hb
 obtain ⟨n2_0_a, n2_0_c, n2_0_f, n2_1_a, n2_1_c, n2_1_f, rfl, rfl, m2_0, m2_1, m2_2, m2_3, m2_4⟩ := Wy.open e2
 obtain ⟨u3, r3, g3, s3, ha, hb, e3, h3⟩ := h2.split
 clear h2
 subst ha
 subst hb
 obtain ⟨v3, rfl, q3⟩ := RdVs.one_inv e3
 obtain ⟨xa3, xc3, rfl, _⟩ := zd q3
 obtain ⟨u4, r4, g4, s4, ha, hb, e4, h4⟩ := h3.split
 clear h3
 subst ha
 subst hb
 obtain ⟨n4_0_a, n4_0_c, n4_0_f, rfl, rfl, m4_0, m4_1⟩ := Tm.open e4
 obtain ⟨u5, r5, g5, s5, ha, hb, e5, h5⟩ := h4.split
 clear h4
 subst ha
 subst hb
 obtain ⟨n5_0_a, n5_0_c, n5_0_f, rfl, rfl, m5_0, m5_1⟩ := Tm.open e5
 obtain ⟨v6, rfl, q6⟩ := RdVs.one_inv h5
 obtain ⟨xa6, xc6, rfl, _⟩ := zd q6
 exact ⟨_, _, _, _, _, _, _, _, _, _, _, _, _, _, _, _, _, _, rfl, by simp, i0, i1, m2_0, m2_1, m2_2, m2_3, m2_4, q3, m4_0, m4_1, m5_0, m5_1, q6⟩
theorem Cs.at {w : World} {xs : List Cs} {b off n cap : Nat} {fp : List Nat} (h : Rd w (.sl (xs.map Cs.cd)) (.slice (some ⟨b, off, none⟩) n cap) fp) {k : Nat} (hk : k < xs.length) : ∃ (a5 : Option Addr) (c5 : Nat) (f5 : List Nat), ∃ (a6 : Option Addr) (c6 : Nat) (f6 : List Nat), ∃ (a7 : Option Addr) (c7 : Nat) (f7 : List Nat), ∃ (a9 : Option Addr) (c9 : Nat) (f9 : List Nat), ∃ (a11 : Option Addr) (c11 : Nat) (f11 : List Nat), ∃ (a12 : Option Addr) (c12 : Nat) (f12 : List Nat), w.cell? ⟨b, off + k * 13, none⟩ = some (.int .i64 xs[k].kind) ∧ w.cell? ⟨b, off + k * 13 + 1, none⟩ = some (.int .i64 xs[k].n) ∧ w.cell? ⟨b, off + k * 13 + 2, none⟩ = some (.int .i64 xs[k].why.rule) ∧ w.cell? ⟨b, off + k * 13 + 3, none⟩ = some (.int .i64 xs[k].why.n) ∧ w.cell? ⟨b, off + k * 13 + 4, none⟩ = some (.string xs[k].why.t.name) ∧ w.cell? ⟨b, off + k * 13 + 5, none⟩ = some (.slice a5 xs[k].why.t.kids.length c5) ∧ w.cell? ⟨b, off + k * 13 + 6, none⟩ = some (.slice a6 xs[k].why.kids.length c6) ∧ w.cell? ⟨b, off + k * 13 + 7, none⟩ = some (.slice a7 xs[k].times.length c7) ∧ w.cell? ⟨b, off + k * 13 + 8, none⟩ = some (.string xs[k].a.name) ∧ w.cell? ⟨b, off + k * 13 + 9, none⟩ = some (.slice a9 xs[k].a.kids.length c9) ∧ w.cell? ⟨b, off + k * 13 + 10, none⟩ = some (.string xs[k].b.name) ∧ w.cell? ⟨b, off + k * 13 + 11, none⟩ = some (.slice a11 xs[k].b.kids.length c11) ∧ w.cell? ⟨b, off + k * 13 + 12, none⟩ = some (.slice a12 xs[k].kids.length c12) ∧ I64 xs[k].kind ∧ I64 xs[k].n ∧ I64 xs[k].why.rule ∧ I64 xs[k].why.n ∧ xs[k].why.t.name.size ≤ maxLen ∧ Rd w (.sl (xs[k].why.t.kids.map Tm.cd)) (.slice a5 xs[k].why.t.kids.length c5) f5 ∧ Rd w (.sl (xs[k].why.kids.map Wy.cd)) (.slice a6 xs[k].why.kids.length c6) f6 ∧ Rd w (.sl (xs[k].times.map zk)) (.slice a7 xs[k].times.length c7) f7 ∧ xs[k].a.name.size ≤ maxLen ∧ Rd w (.sl (xs[k].a.kids.map Tm.cd)) (.slice a9 xs[k].a.kids.length c9) f9 ∧ xs[k].b.name.size ≤ maxLen ∧ Rd w (.sl (xs[k].b.kids.map Tm.cd)) (.slice a11 xs[k].b.kids.length c11) f11 ∧ Rd w (.sl (xs[k].kids.map Cs.cd)) (.slice a12 xs[k].kids.length c12) f12 ∧ ∀ y ∈ (f5 ++ (f6 ++ (f7 ++ (f9 ++ (f11 ++ f12))))), y ∈ fp := by
 obtain ⟨vs, f, h1, h2, h3⟩ := h.row (k := 13) (by simp only [List.mem_map]; rintro e ⟨t, _, rfl⟩; exact Cs.cd_len t) k (by simpa using hk)
 rw [List.getElem_map] at h2
 obtain ⟨a5, c5, f5, a6, c6, f6, a7, c7, f7, a9, c9, f9, a11, c11, f11, a12, c12, f12, rfl, hfp, m0, m1, m2, m3, m4, m5, m6, m7, m8, m9, m10, m11, m12⟩ := Cs.open h2
 exact ⟨a5, c5, f5, a6, c6, f6, a7, c7, f7, a9, c9, f9, a11, c11, f11, a12, c12, f12, h1 0 _ rfl, h1 1 _ rfl, h1 2 _ rfl, h1 3 _ rfl, h1 4 _ rfl, h1 5 _ rfl, h1 6 _ rfl, h1 7 _ rfl, h1 8 _ rfl, h1 9 _ rfl, h1 10 _ rfl, h1 11 _ rfl, h1 12 _ rfl, m0, m1, m2, m3, m4, m5, m6, m7, m8, m9, m10, m11, m12, fun y hy => h3 y (by rw [hfp]; exact hy)⟩
theorem Lm.cd_len (x : Lm) : x.cd.length = 14 := by simp [Lm.cd, Cs.cd_len]
theorem Lm.open {w : World} {x : Lm} {vs : List Value} {fp : List Nat} (h : RdVs w x.cd vs fp) : ∃ (a0 : Option Addr) (c0 : Nat) (f0 : List Nat), ∃ (a6 : Option Addr) (c6 : Nat) (f6 : List Nat), ∃ (a7 : Option Addr) (c7 : Nat) (f7 : List Nat), ∃ (a8 : Option Addr) (c8 : Nat) (f8 : List Nat), ∃ (a10 : Option Addr) (c10 : Nat) (f10 : List Nat), ∃ (a12 : Option Addr) (c12 : Nat) (f12 : List Nat), ∃ (a13 : Option Addr) (c13 : Nat) (f13 : List Nat), vs = [.slice a0 x.marks.length c0, .int .i64 x.case.kind, .int .i64 x.case.n, .int .i64 x.case.why.rule, .int .i64 x.case.why.n, .string x.case.why.t.name, .slice a6 x.case.why.t.kids.length c6, .slice a7 x.case.why.kids.length c7, .slice a8 x.case.times.length c8, .string x.case.a.name, .slice a10 x.case.a.kids.length c10, .string x.case.b.name, .slice a12 x.case.b.kids.length c12, .slice a13 x.case.kids.length c13] ∧ fp = f0 ++ (f6 ++ (f7 ++ (f8 ++ (f10 ++ (f12 ++ f13))))) ∧ Rd w (.sl (x.marks.map zk)) (.slice a0 x.marks.length c0) f0 ∧ I64 x.case.kind ∧ I64 x.case.n ∧ I64 x.case.why.rule ∧ I64 x.case.why.n ∧ x.case.why.t.name.size ≤ maxLen ∧ Rd w (.sl (x.case.why.t.kids.map Tm.cd)) (.slice a6 x.case.why.t.kids.length c6) f6 ∧ Rd w (.sl (x.case.why.kids.map Wy.cd)) (.slice a7 x.case.why.kids.length c7) f7 ∧ Rd w (.sl (x.case.times.map zk)) (.slice a8 x.case.times.length c8) f8 ∧ x.case.a.name.size ≤ maxLen ∧ Rd w (.sl (x.case.a.kids.map Tm.cd)) (.slice a10 x.case.a.kids.length c10) f10 ∧ x.case.b.name.size ≤ maxLen ∧ Rd w (.sl (x.case.b.kids.map Tm.cd)) (.slice a12 x.case.b.kids.length c12) f12 ∧ Rd w (.sl (x.case.kids.map Cs.cd)) (.slice a13 x.case.kids.length c13) f13 := by
 unfold Lm.cd at h
 obtain ⟨u0, r0, g0, s0, ha, hb, e0, h0⟩ := h.split
 clear h
 subst ha
 subst hb
 obtain ⟨v0, rfl, q0⟩ := RdVs.one_inv e0
 obtain ⟨xa0, xc0, rfl, _⟩ := zd q0
 obtain ⟨n1_0_a, n1_0_c, n1_0_f, n1_1_a, n1_1_c, n1_1_f, n1_2_a, n1_2_c, n1_2_f, n1_3_a, n1_3_c, n1_3_f, n1_4_a, n1_4_c, n1_4_f, n1_5_a, n1_5_c, n1_5_f, rfl, rfl, m1_0, m1_1, m1_2, m1_3, m1_4, m1_5, m1_6, m1_7, m1_8, m1_9, m1_10, m1_11, m1_12⟩ := Cs.open h0
 exact ⟨_, _, _, _, _, _, _, _, _, _, _, _, _, _, _, _, _, _, _, _, _, rfl, by simp, q0, m1_0, m1_1, m1_2, m1_3, m1_4, m1_5, m1_6, m1_7, m1_8, m1_9, m1_10, m1_11, m1_12⟩
theorem Lm.at {w : World} {xs : List Lm} {b off n cap : Nat} {fp : List Nat} (h : Rd w (.sl (xs.map Lm.cd)) (.slice (some ⟨b, off, none⟩) n cap) fp) {k : Nat} (hk : k < xs.length) : ∃ (a0 : Option Addr) (c0 : Nat) (f0 : List Nat), ∃ (a6 : Option Addr) (c6 : Nat) (f6 : List Nat), ∃ (a7 : Option Addr) (c7 : Nat) (f7 : List Nat), ∃ (a8 : Option Addr) (c8 : Nat) (f8 : List Nat), ∃ (a10 : Option Addr) (c10 : Nat) (f10 : List Nat), ∃ (a12 : Option Addr) (c12 : Nat) (f12 : List Nat), ∃ (a13 : Option Addr) (c13 : Nat) (f13 : List Nat), w.cell? ⟨b, off + k * 14, none⟩ = some (.slice a0 xs[k].marks.length c0) ∧ w.cell? ⟨b, off + k * 14 + 1, none⟩ = some (.int .i64 xs[k].case.kind) ∧ w.cell? ⟨b, off + k * 14 + 2, none⟩ = some (.int .i64 xs[k].case.n) ∧ w.cell? ⟨b, off + k * 14 + 3, none⟩ = some (.int .i64 xs[k].case.why.rule) ∧ w.cell? ⟨b, off + k * 14 + 4, none⟩ = some (.int .i64 xs[k].case.why.n) ∧ w.cell? ⟨b, off + k * 14 + 5, none⟩ = some (.string xs[k].case.why.t.name) ∧ w.cell? ⟨b, off + k * 14 + 6, none⟩ = some (.slice a6 xs[k].case.why.t.kids.length c6) ∧ w.cell? ⟨b, off + k * 14 + 7, none⟩ = some (.slice a7 xs[k].case.why.kids.length c7) ∧ w.cell? ⟨b, off + k * 14 + 8, none⟩ = some (.slice a8 xs[k].case.times.length c8) ∧ w.cell? ⟨b, off + k * 14 + 9, none⟩ = some (.string xs[k].case.a.name) ∧ w.cell? ⟨b, off + k * 14 + 10, none⟩ = some (.slice a10 xs[k].case.a.kids.length c10) ∧ w.cell? ⟨b, off + k * 14 + 11, none⟩ = some (.string xs[k].case.b.name) ∧ w.cell? ⟨b, off + k * 14 + 12, none⟩ = some (.slice a12 xs[k].case.b.kids.length c12) ∧ w.cell? ⟨b, off + k * 14 + 13, none⟩ = some (.slice a13 xs[k].case.kids.length c13) ∧ Rd w (.sl (xs[k].marks.map zk)) (.slice a0 xs[k].marks.length c0) f0 ∧ I64 xs[k].case.kind ∧ I64 xs[k].case.n ∧ I64 xs[k].case.why.rule ∧ I64 xs[k].case.why.n ∧ xs[k].case.why.t.name.size ≤ maxLen ∧ Rd w (.sl (xs[k].case.why.t.kids.map Tm.cd)) (.slice a6 xs[k].case.why.t.kids.length c6) f6 ∧ Rd w (.sl (xs[k].case.why.kids.map Wy.cd)) (.slice a7 xs[k].case.why.kids.length c7) f7 ∧ Rd w (.sl (xs[k].case.times.map zk)) (.slice a8 xs[k].case.times.length c8) f8 ∧ xs[k].case.a.name.size ≤ maxLen ∧ Rd w (.sl (xs[k].case.a.kids.map Tm.cd)) (.slice a10 xs[k].case.a.kids.length c10) f10 ∧ xs[k].case.b.name.size ≤ maxLen ∧ Rd w (.sl (xs[k].case.b.kids.map Tm.cd)) (.slice a12 xs[k].case.b.kids.length c12) f12 ∧ Rd w (.sl (xs[k].case.kids.map Cs.cd)) (.slice a13 xs[k].case.kids.length c13) f13 ∧ ∀ y ∈ (f0 ++ (f6 ++ (f7 ++ (f8 ++ (f10 ++ (f12 ++ f13)))))), y ∈ fp := by
 obtain ⟨vs, f, h1, h2, h3⟩ := h.row (k := 14) (by simp only [List.mem_map]; rintro e ⟨t, _, rfl⟩; exact Lm.cd_len t) k (by simpa using hk)
 rw [List.getElem_map] at h2
 obtain ⟨a0, c0, f0, a6, c6, f6, a7, c7, f7, a8, c8, f8, a10, c10, f10, a12, c12, f12, a13, c13, f13, rfl, hfp, m0, m1, m2, m3, m4, m5, m6, m7, m8, m9, m10, m11, m12, m13⟩ := Lm.open h2
 exact ⟨a0, c0, f0, a6, c6, f6, a7, c7, f7, a8, c8, f8, a10, c10, f10, a12, c12, f12, a13, c13, f13, h1 0 _ rfl, h1 1 _ rfl, h1 2 _ rfl, h1 3 _ rfl, h1 4 _ rfl, h1 5 _ rfl, h1 6 _ rfl, h1 7 _ rfl, h1 8 _ rfl, h1 9 _ rfl, h1 10 _ rfl, h1 11 _ rfl, h1 12 _ rfl, h1 13 _ rfl, m0, m1, m2, m3, m4, m5, m6, m7, m8, m9, m10, m11, m12, m13, fun y hy => h3 y (by rw [hfp]; exact hy)⟩
theorem Pp.cd_len (x : Pp) : x.cd.length = 2 := by simp [Pp.cd]
theorem Pp.open {w : World} {x : Pp} {vs : List Value} {fp : List Nat} (h : RdVs w x.cd vs fp) : ∃ (a0 : Option Addr) (c0 : Nat) (f0 : List Nat), ∃ (a1 : Option Addr) (c1 : Nat) (f1 : List Nat), vs = [.slice a0 x.lemmas.length c0, .slice a1 x.log.length c1] ∧ fp = f0 ++ f1 ∧ Rd w (.sl (x.lemmas.map Lm.cd)) (.slice a0 x.lemmas.length c0) f0 ∧ Rd w (.sl (x.log.map zbZ)) (.slice a1 x.log.length c1) f1 := by
 unfold Pp.cd at h
 obtain ⟨u0, r0, g0, s0, ha, hb, e0, h0⟩ := h.split
 clear h
 subst ha
 subst hb
 obtain ⟨v0, rfl, q0⟩ := RdVs.one_inv e0
 obtain ⟨xa0, xc0, rfl, _⟩ := zd q0
 obtain ⟨v1, rfl, q1⟩ := RdVs.one_inv h0
 obtain ⟨xa1, xc1, rfl, _⟩ := zd q1
 exact ⟨_, _, _, _, _, _, rfl, by simp, q0, q1⟩
theorem Pp.at {w : World} {xs : List Pp} {b off n cap : Nat} {fp : List Nat} (h : Rd w (.sl (xs.map Pp.cd)) (.slice (some ⟨b, off, none⟩) n cap) fp) {k : Nat} (hk : k < xs.length) : ∃ (a0 : Option Addr) (c0 : Nat) (f0 : List Nat), ∃ (a1 : Option Addr) (c1 : Nat) (f1 : List Nat), w.cell? ⟨b, off + k * 2, none⟩ = some (.slice a0 xs[k].lemmas.length c0) ∧ w.cell? ⟨b, off + k * 2 + 1, none⟩ = some (.slice a1 xs[k].log.length c1) ∧ Rd w (.sl (xs[k].lemmas.map Lm.cd)) (.slice a0 xs[k].lemmas.length c0) f0 ∧ Rd w (.sl (xs[k].log.map zbZ)) (.slice a1 xs[k].log.length c1) f1 ∧ ∀ y ∈ (f0 ++ f1), y ∈ fp := by
 obtain ⟨vs, f, h1, h2, h3⟩ := h.row (k := 2) (by simp only [List.mem_map]; rintro e ⟨t, _, rfl⟩; exact Pp.cd_len t) k (by simpa using hk)
 rw [List.getElem_map] at h2
 obtain ⟨a0, c0, f0, a1, c1, f1, rfl, hfp, m0, m1⟩ := Pp.open h2
 exact ⟨a0, c0, f0, a1, c1, f1, h1 0 _ rfl, h1 1 _ rfl, m0, m1, fun y hy => h3 y (by rw [hfp]; exact hy)⟩
theorem Stk.cd_len (x : Stk) : x.cd.length = 2 := by simp [Stk.cd, Sg.cd_len]
theorem Stk.open {w : World} {x : Stk} {vs : List Value} {fp : List Nat} (h : RdVs w x.cd vs fp) : ∃ (a0 : Option Addr) (c0 : Nat) (f0 : List Nat), ∃ (a1 : Option Addr) (c1 : Nat) (f1 : List Nat), vs = [.slice a0 x.sig.syms.length c0, .slice a1 x.levels.length c1] ∧ fp = f0 ++ f1 ∧ Rd w (.sl (x.sig.syms.map Sy.cd)) (.slice a0 x.sig.syms.length c0) f0 ∧ Rd w (.sl (x.levels.map fmsCd)) (.slice a1 x.levels.length c1) f1 := by
 unfold Stk.cd at h
 obtain ⟨u0, r0, g0, s0, ha, hb, e0, h0⟩ := h.split
 clear h
 subst ha
 subst hb
 obtain ⟨n0_0_a, n0_0_c, n0_0_f, rfl, rfl, m0_0⟩ := Sg.open e0
 obtain ⟨v1, rfl, q1⟩ := RdVs.one_inv h0
 obtain ⟨xa1, xc1, rfl, _⟩ := zd q1
 exact ⟨_, _, _, _, _, _, rfl, by simp, m0_0, q1⟩
theorem Stk.at {w : World} {xs : List Stk} {b off n cap : Nat} {fp : List Nat} (h : Rd w (.sl (xs.map Stk.cd)) (.slice (some ⟨b, off, none⟩) n cap) fp) {k : Nat} (hk : k < xs.length) : ∃ (a0 : Option Addr) (c0 : Nat) (f0 : List Nat), ∃ (a1 : Option Addr) (c1 : Nat) (f1 : List Nat), w.cell? ⟨b, off + k * 2, none⟩ = some (.slice a0 xs[k].sig.syms.length c0) ∧ w.cell? ⟨b, off + k * 2 + 1, none⟩ = some (.slice a1 xs[k].levels.length c1) ∧ Rd w (.sl (xs[k].sig.syms.map Sy.cd)) (.slice a0 xs[k].sig.syms.length c0) f0 ∧ Rd w (.sl (xs[k].levels.map fmsCd)) (.slice a1 xs[k].levels.length c1) f1 ∧ ∀ y ∈ (f0 ++ f1), y ∈ fp := by
 obtain ⟨vs, f, h1, h2, h3⟩ := h.row (k := 2) (by simp only [List.mem_map]; rintro e ⟨t, _, rfl⟩; exact Stk.cd_len t) k (by simpa using hk)
 rw [List.getElem_map] at h2
 obtain ⟨a0, c0, f0, a1, c1, f1, rfl, hfp, m0, m1⟩ := Stk.open h2
 exact ⟨a0, c0, f0, a1, c1, f1, h1 0 _ rfl, h1 1 _ rfl, m0, m1, fun y hy => h3 y (by rw [hfp]; exact hy)⟩
theorem Cnf.cd_len (x : Cnf) : x.cd.length = 2 := by simp [Cnf.cd]
theorem Cnf.open {w : World} {x : Cnf} {vs : List Value} {fp : List Nat} (h : RdVs w x.cd vs fp) : ∃ (a1 : Option Addr) (c1 : Nat) (f1 : List Nat), vs = [.int .i64 x.many, .slice a1 x.list.length c1] ∧ fp = f1 ∧ I64 x.many ∧ Rd w (.sl (x.list.map zbZ)) (.slice a1 x.list.length c1) f1 := by
 unfold Cnf.cd at h
 obtain ⟨u0, r0, g0, s0, ha, hb, e0, h0⟩ := h.split
 clear h
 subst ha
 subst hb
 obtain ⟨v0, rfl, q0⟩ := RdVs.one_inv e0
 obtain ⟨rfl, i0, rfl⟩ := zu q0
 obtain ⟨v1, rfl, q1⟩ := RdVs.one_inv h0
 obtain ⟨xa1, xc1, rfl, _⟩ := zd q1
 exact ⟨_, _, _, rfl, by simp, i0, q1⟩
theorem Cnf.at {w : World} {xs : List Cnf} {b off n cap : Nat} {fp : List Nat} (h : Rd w (.sl (xs.map Cnf.cd)) (.slice (some ⟨b, off, none⟩) n cap) fp) {k : Nat} (hk : k < xs.length) : ∃ (a1 : Option Addr) (c1 : Nat) (f1 : List Nat), w.cell? ⟨b, off + k * 2, none⟩ = some (.int .i64 xs[k].many) ∧ w.cell? ⟨b, off + k * 2 + 1, none⟩ = some (.slice a1 xs[k].list.length c1) ∧ I64 xs[k].many ∧ Rd w (.sl (xs[k].list.map zbZ)) (.slice a1 xs[k].list.length c1) f1 ∧ ∀ y ∈ (f1), y ∈ fp := by
 obtain ⟨vs, f, h1, h2, h3⟩ := h.row (k := 2) (by simp only [List.mem_map]; rintro e ⟨t, _, rfl⟩; exact Cnf.cd_len t) k (by simpa using hk)
 rw [List.getElem_map] at h2
 obtain ⟨a1, c1, f1, rfl, hfp, m0, m1⟩ := Cnf.open h2
 exact ⟨a1, c1, f1, h1 0 _ rfl, h1 1 _ rfl, m0, m1, fun y hy => h3 y (by rw [hfp]; exact hy)⟩
theorem Ln.cd_len (x : Ln) : x.cd.length = 3 := by simp [Ln.cd]
theorem Ln.open {w : World} {x : Ln} {vs : List Value} {fp : List Nat} (h : RdVs w x.cd vs fp) : ∃ (a0 : Option Addr) (c0 : Nat) (f0 : List Nat), vs = [.slice a0 x.coefs.length c0, .int .i64 x.bound, .bool x.strict] ∧ fp = f0 ∧ Rd w (.sl (x.coefs.map zk)) (.slice a0 x.coefs.length c0) f0 ∧ I64 x.bound := by
 unfold Ln.cd at h
 obtain ⟨u0, r0, g0, s0, ha, hb, e0, h0⟩ := h.split
 clear h
 subst ha
 subst hb
 obtain ⟨v0, rfl, q0⟩ := RdVs.one_inv e0
 obtain ⟨xa0, xc0, rfl, _⟩ := zd q0
 obtain ⟨u1, r1, g1, s1, ha, hb, e1, h1⟩ := h0.split
 clear h0
 subst ha
 subst hb
 obtain ⟨v1, rfl, q1⟩ := RdVs.one_inv e1
 obtain ⟨rfl, i1, rfl⟩ := zu q1
 obtain ⟨v2, rfl, q2⟩ := RdVs.one_inv h1
 obtain ⟨rfl, rfl⟩ := zaQ q2
 exact ⟨_, _, _, rfl, by simp, q0, i1⟩
theorem Ln.at {w : World} {xs : List Ln} {b off n cap : Nat} {fp : List Nat} (h : Rd w (.sl (xs.map Ln.cd)) (.slice (some ⟨b, off, none⟩) n cap) fp) {k : Nat} (hk : k < xs.length) : ∃ (a0 : Option Addr) (c0 : Nat) (f0 : List Nat), w.cell? ⟨b, off + k * 3, none⟩ = some (.slice a0 xs[k].coefs.length c0) ∧ w.cell? ⟨b, off + k * 3 + 1, none⟩ = some (.int .i64 xs[k].bound) ∧ w.cell? ⟨b, off + k * 3 + 2, none⟩ = some (.bool xs[k].strict) ∧ Rd w (.sl (xs[k].coefs.map zk)) (.slice a0 xs[k].coefs.length c0) f0 ∧ I64 xs[k].bound ∧ ∀ y ∈ (f0), y ∈ fp := by
 obtain ⟨vs, f, h1, h2, h3⟩ := h.row (k := 3) (by simp only [List.mem_map]; rintro e ⟨t, _, rfl⟩; exact Ln.cd_len t) k (by simpa using hk)
 rw [List.getElem_map] at h2
 obtain ⟨a0, c0, f0, rfl, hfp, m0, m1⟩ := Ln.open h2
 exact ⟨a0, c0, f0, h1 0 _ rfl, h1 1 _ rfl, h1 2 _ rfl, m0, m1, fun y hy => h3 y (by rw [hfp]; exact hy)⟩
theorem Rt.cd_len (x : Rt) : x.cd.length = 2 := by simp [Rt.cd]
theorem Rt.open {w : World} {x : Rt} {vs : List Value} {fp : List Nat} (h : RdVs w x.cd vs fp) : vs = [.int .i64 x.n, .int .i64 x.d] ∧ fp = ([] : List Nat) ∧ I64 x.n ∧ I64 x.d := by
 unfold Rt.cd at h
 obtain ⟨u0, r0, g0, s0, ha, hb, e0, h0⟩ := h.split
 clear h
 subst ha
 subst hb
 obtain ⟨v0, rfl, q0⟩ := RdVs.one_inv e0
 obtain ⟨rfl, i0, rfl⟩ := zu q0
 obtain ⟨v1, rfl, q1⟩ := RdVs.one_inv h0
 obtain ⟨rfl, i1, rfl⟩ := zu q1
 exact ⟨rfl, by simp, i0, i1⟩
theorem Rt.at {w : World} {xs : List Rt} {b off n cap : Nat} {fp : List Nat} (h : Rd w (.sl (xs.map Rt.cd)) (.slice (some ⟨b, off, none⟩) n cap) fp) {k : Nat} (hk : k < xs.length) : w.cell? ⟨b, off + k * 2, none⟩ = some (.int .i64 xs[k].n) ∧ w.cell? ⟨b, off + k * 2 + 1, none⟩ = some (.int .i64 xs[k].d) ∧ I64 xs[k].n ∧ I64 xs[k].d ∧ ∀ y ∈ (([] : List Nat)), y ∈ fp := by
 obtain ⟨vs, f, h1, h2, h3⟩ := h.row (k := 2) (by simp only [List.mem_map]; rintro e ⟨t, _, rfl⟩; exact Rt.cd_len t) k (by simpa using hk)
 rw [List.getElem_map] at h2
 obtain ⟨rfl, hfp, m0, m1⟩ := Rt.open h2
 exact ⟨h1 0 _ rfl, h1 1 _ rfl, m0, m1, fun y hy => h3 y (by rw [hfp]; exact hy)⟩
theorem Rw.cd_len (x : Rw) : x.cd.length = 4 := by simp [Rw.cd, Rt.cd_len]
theorem Rw.open {w : World} {x : Rw} {vs : List Value} {fp : List Nat} (h : RdVs w x.cd vs fp) : ∃ (a1 : Option Addr) (c1 : Nat) (f1 : List Nat), vs = [.string x.name, .slice a1 x.args.length c1, .int .i64 x.val.n, .int .i64 x.val.d] ∧ fp = f1 ∧ x.name.size ≤ maxLen ∧ Rd w (.sl (x.args.map Rt.cd)) (.slice a1 x.args.length c1) f1 ∧ I64 x.val.n ∧ I64 x.val.d := by
 unfold Rw.cd at h
 obtain ⟨u0, r0, g0, s0, ha, hb, e0, h0⟩ := h.split
 clear h
 subst ha
 subst hb
 obtain ⟨v0, rfl, q0⟩ := RdVs.one_inv e0
 obtain ⟨rfl, i0, rfl⟩ := za6 q0
 obtain ⟨u1, r1, g1, s1, ha, hb, e1, h1⟩ := h0.split
 clear h0
 subst ha
 subst hb
 obtain ⟨v1, rfl, q1⟩ := RdVs.one_inv e1
 obtain ⟨xa1, xc1, rfl, _⟩ := zd q1
 obtain ⟨rfl, rfl, m2_0, m2_1⟩ := Rt.open h1
 exact ⟨_, _, _, rfl, by simp, i0, q1, m2_0, m2_1⟩
theorem Rw.at {w : World} {xs : List Rw} {b off n cap : Nat} {fp : List Nat} (h : Rd w (.sl (xs.map Rw.cd)) (.slice (some ⟨b, off, none⟩) n cap) fp) {k : Nat} (hk : k < xs.length) : ∃ (a1 : Option Addr) (c1 : Nat) (f1 : List Nat), w.cell? ⟨b, off + k * 4, none⟩ = some (.string xs[k].name) ∧ w.cell? ⟨b, off + k * 4 + 1, none⟩ = some (.slice a1 xs[k].args.length c1) ∧ w.cell? ⟨b, off + k * 4 + 2, none⟩ = some (.int .i64 xs[k].val.n) ∧ w.cell? ⟨b, off + k * 4 + 3, none⟩ = some (.int .i64 xs[k].val.d) ∧ xs[k].name.size ≤ maxLen ∧ Rd w (.sl (xs[k].args.map Rt.cd)) (.slice a1 xs[k].args.length c1) f1 ∧ I64 xs[k].val.n ∧ I64 xs[k].val.d ∧ ∀ y ∈ (f1), y ∈ fp := by
 obtain ⟨vs, f, h1, h2, h3⟩ := h.row (k := 4) (by simp only [List.mem_map]; rintro e ⟨t, _, rfl⟩; exact Rw.cd_len t) k (by simpa using hk)
 rw [List.getElem_map] at h2
 obtain ⟨a1, c1, f1, rfl, hfp, m0, m1, m2, m3⟩ := Rw.open h2
 exact ⟨a1, c1, f1, h1 0 _ rfl, h1 1 _ rfl, h1 2 _ rfl, h1 3 _ rfl, m0, m1, m2, m3, fun y hy => h3 y (by rw [hfp]; exact hy)⟩
theorem Md.cd_len (x : Md) : x.cd.length = 1 := by simp [Md.cd]
theorem Md.open {w : World} {x : Md} {vs : List Value} {fp : List Nat} (h : RdVs w x.cd vs fp) : ∃ (a0 : Option Addr) (c0 : Nat) (f0 : List Nat), vs = [.slice a0 x.rows.length c0] ∧ fp = f0 ∧ Rd w (.sl (x.rows.map Rw.cd)) (.slice a0 x.rows.length c0) f0 := by
 unfold Md.cd at h
 obtain ⟨v0, rfl, q0⟩ := RdVs.one_inv h
 obtain ⟨xa0, xc0, rfl, _⟩ := zd q0
 exact ⟨_, _, _, rfl, by simp, q0⟩
theorem Md.at {w : World} {xs : List Md} {b off n cap : Nat} {fp : List Nat} (h : Rd w (.sl (xs.map Md.cd)) (.slice (some ⟨b, off, none⟩) n cap) fp) {k : Nat} (hk : k < xs.length) : ∃ (a0 : Option Addr) (c0 : Nat) (f0 : List Nat), w.cell? ⟨b, off + k * 1, none⟩ = some (.slice a0 xs[k].rows.length c0) ∧ Rd w (.sl (xs[k].rows.map Rw.cd)) (.slice a0 xs[k].rows.length c0) f0 ∧ ∀ y ∈ (f0), y ∈ fp := by
 obtain ⟨vs, f, h1, h2, h3⟩ := h.row (k := 1) (by simp only [List.mem_map]; rintro e ⟨t, _, rfl⟩; exact Md.cd_len t) k (by simpa using hk)
 rw [List.getElem_map] at h2
 obtain ⟨a0, c0, f0, rfl, hfp, m0⟩ := Md.open h2
 exact ⟨a0, c0, f0, h1 0 _ rfl, m0, fun y hy => h3 y (by rw [hfp]; exact hy)⟩
end Go.Proofs.YtlefdhhnlbpbkaaGreat
end
