/- Parts of the proof: Reads. -/
import Derived.Test.YtbfinjiledfpcaaGreatPb2
section
namespace Go.Proofs.YtbfinjiledfpcaaGreat
open Go Go.RowKit
set_option linter.unusedVariables false
set_option linter.unusedSimpArgs false
set_option maxRecDepth 100000
set_option maxHeartbeats 16000000
theorem RdVs.one_inv {w : World} {d : CD} {vs : List Value} {fp : List Nat} (h : RdVs w [d] vs fp) : ∃ v, vs = [v] ∧ Rd w d v fp := by
 simp only [RdVs] at h
 obtain ⟨v, vs', f1, f2, rfl, rfl, hd, rfl, rfl⟩ := h
 exact ⟨v, rfl, by simpa using hd⟩
theorem zaS {w : World} {n : Int} {v : Value} {f : List Nat} (h : Rd w (.int n) v f) : v = .int .i64 n ∧ I64 n ∧ f = [] := by simpa only [Rd] using h
theorem zb1 {w : World} {s : ByteArray} {v : Value} {f : List Nat} (h : Rd w (.str s) v f) : v = .string s ∧ s.size ≤ maxLen ∧ f = [] := by simpa only [Rd] using h
theorem zbu {w : World} {b : Bool} {v : Value} {f : List Nat} (h : Rd w (.bool b) v f) : v = .bool b ∧ f = [] := by simpa only [Rd] using h
theorem zh {w : World} {α : Type} {cd : α → List CD} {xs : List α} {v : Value} {f : List Nat} (h : Rd w (.sl (xs.map cd)) v f) : ∃ a c, v = .slice a xs.length c ∧ xs.length ≤ c ∧ c ≤ 9223372036854775807 := by
 obtain ⟨a, c, h1, h2, h3⟩ := h.sl_form
 exact ⟨a, c, by simpa using h1, by simpa using h2, h3⟩
theorem zaN {w : World} {n : Int} (h : I64 n) : RdVs w [.int n] [.int .i64 n] [] := RdVs.single (by simp only [Rd]; exact ⟨trivial, h, trivial⟩)
theorem zcu {w : World} {s : ByteArray} (h : s.size ≤ maxLen) : RdVs w [.str s] [.string s] [] := RdVs.single (by simp only [Rd]; exact ⟨trivial, h, trivial⟩)
theorem zbj {w : World} {b : Bool} : RdVs w [.bool b] [.bool b] [] := RdVs.single (by simp only [Rd]; exact ⟨trivial, trivial⟩)
theorem zr {w : World} {α : Type} {cd : α → List CD} {xs : List α} {a : Option Addr} {n c : Nat} {f : List Nat} (h : Rd w (.sl (xs.map cd)) (.slice a n c) f) (hne : 0 < xs.length) :
  ∃ b off, a = some ⟨b, off, none⟩ ∧ b < w.heap.size ∧ b ∈ f := by
 obtain ⟨b, off, g, h1, h2, rfl, _⟩ := h.addr (by simpa using hne)
 exact ⟨b, off, h1, h2, by simp⟩
theorem zQ (n : Int) : (zD n).length = 1 := rfl
theorem fmsCd_len (n : List Fm) : (zH n).length = 1 := rfl
theorem zap {w : World} {xs : List Int} {b off n cap : Nat} {fp : List Nat} (h : Rd w (.sl (xs.map zD)) (.slice (some ⟨b, off, none⟩) n cap) fp) {k : Nat} (hk : k < xs.length) : w.cell? ⟨b, off + k, none⟩ = some (.int .i64 xs[k]) ∧ I64 xs[k] := by
 obtain ⟨vs, f, h1, h2, h3⟩ := h.row (k := 1) (by simp only [List.mem_map]; rintro e ⟨t, _, rfl⟩; exact zQ t) k (by simpa using hk)
 rw [List.getElem_map] at h2
 obtain ⟨v, rfl, hr⟩ := RdVs.one_inv h2
 have hc := h1 0 v rfl
 rw [Nat.mul_one, Nat.add_zero] at hc
 obtain ⟨rfl, hi, rfl⟩ := zaS hr
 exact ⟨hc, hi⟩
theorem zaX {w : World} {xs : List (List Fm)} {b off n cap : Nat} {fp : List Nat} (h : Rd w (.sl (xs.map zH)) (.slice (some ⟨b, off, none⟩) n cap) fp) {k : Nat} (hk : k < xs.length) : ∃ a0 c0 f0, w.cell? ⟨b, off + k, none⟩ = some (.slice a0 xs[k].length c0) ∧ Rd w (.sl (xs[k].map Fm.cd)) (.slice a0 xs[k].length c0) f0 ∧ ∀ y ∈ f0, y ∈ fp := by
 obtain ⟨vs, f, h1, h2, h3⟩ := h.row (k := 1) (by simp only [List.mem_map]; rintro e ⟨t, _, rfl⟩; exact fmsCd_len t) k (by simpa using hk)
 rw [List.getElem_map] at h2
 obtain ⟨v, rfl, hr⟩ := RdVs.one_inv h2
 have hc := h1 0 v rfl
 rw [Nat.mul_one, Nat.add_zero] at hc
 obtain ⟨a, c, rfl, _⟩ := zh hr
 exact ⟨a, c, f, hc, hr, h3⟩
theorem Sy.cd_len (x : Sy) : x.cd.length = 3 := by simp [Sy.cd]
theorem Sy.open {w : World} {x : Sy} {vs : List Value} {fp : List Nat} (h : RdVs w x.cd vs fp) : ∃ (a1 : Option Addr) (c1 : Nat) (f1 : List Nat), vs = [.string x.name, .slice a1 x.args.length c1, .int .i64 x.sort] ∧ fp = f1 ∧ x.name.size ≤ maxLen ∧ Rd w (.sl (x.args.map zD)) (.slice a1 x.args.length c1) f1 ∧ I64 x.sort := by
 unfold Sy.cd at h
 obtain ⟨u0, r0, g0, s0, ha, hb, e0, h0⟩ := h.split
 clear h
 subst ha
 subst hb
 obtain ⟨v0, rfl, q0⟩ := RdVs.one_inv e0
 obtain ⟨rfl, i0, rfl⟩ := zb1 q0
 obtain ⟨u1, r1, g1, s1, ha, hb, e1, h1⟩ := h0.split
 clear h0
 subst ha
 subst hb
 obtain ⟨v1, rfl, q1⟩ := RdVs.one_inv e1
 obtain ⟨xa1, xc1, rfl, _⟩ := zh q1
 obtain ⟨v2, rfl, q2⟩ := RdVs.one_inv h1
 obtain ⟨rfl, i2, rfl⟩ := zaS q2
 exact ⟨_, _, _, rfl, by simp, i0, q1, i2⟩
theorem Sy.close {w : World} {x : Sy} {a1 : Option Addr} {c1 : Nat} {f1 : List Nat} (p0 : x.name.size ≤ maxLen) (p1 : Rd w (.sl (x.args.map zD)) (.slice a1 x.args.length c1) f1) (p2 : I64 x.sort) : RdVs w x.cd [.string x.name, .slice a1 x.args.length c1, .int .i64 x.sort] (f1) := by
 have e : ([] ++ (f1 ++ []) : List Nat) = f1 := by simp
 rw [← e]
 exact ((zcu p0).app ((RdVs.single p1).app (zaN p2)))
theorem Sy.at {w : World} {xs : List Sy} {b off n cap : Nat} {fp : List Nat} (h : Rd w (.sl (xs.map Sy.cd)) (.slice (some ⟨b, off, none⟩) n cap) fp) {k : Nat} (hk : k < xs.length) : ∃ (a1 : Option Addr) (c1 : Nat) (f1 : List Nat), w.cell? ⟨b, off + k * 3, none⟩ = some (.string xs[k].name) ∧ w.cell? ⟨b, off + k * 3 + 1, none⟩ = some (.slice a1 xs[k].args.length c1) ∧ w.cell? ⟨b, off + k * 3 + 2, none⟩ = some (.int .i64 xs[k].sort) ∧ xs[k].name.size ≤ maxLen ∧ Rd w (.sl (xs[k].args.map zD)) (.slice a1 xs[k].args.length c1) f1 ∧ I64 xs[k].sort ∧ ∀ y ∈ (f1), y ∈ fp := by
 obtain ⟨vs, f, h1, h2, h3⟩ := h.row (k := 3) (by simp only [List.mem_map]; rintro e ⟨t, _, rfl⟩; exact Sy.cd_len t) k (by simpa using hk)
 rw [List.getElem_map] at h2
 obtain ⟨a1, c1, f1, rfl, hfp, m0, m1, m2⟩ := Sy.open h2
 exact ⟨a1, c1, f1, h1 0 _ rfl, h1 1 _ rfl, h1 2 _ rfl, m0, m1, m2, fun y hy => h3 y (by rw [hfp]; exact hy)⟩
theorem Sg.cd_len (x : Sg) : x.cd.length = 1 := by simp [Sg.cd]
theorem Sg.open {w : World} {x : Sg} {vs : List Value} {fp : List Nat} (h : RdVs w x.cd vs fp) : ∃ (a0 : Option Addr) (c0 : Nat) (f0 : List Nat), vs = [.slice a0 x.syms.length c0] ∧ fp = f0 ∧ Rd w (.sl (x.syms.map Sy.cd)) (.slice a0 x.syms.length c0) f0 := by
 unfold Sg.cd at h
 obtain ⟨v0, rfl, q0⟩ := RdVs.one_inv h
 obtain ⟨xa0, xc0, rfl, _⟩ := zh q0
 exact ⟨_, _, _, rfl, by simp, q0⟩
theorem Sg.close {w : World} {x : Sg} {a0 : Option Addr} {c0 : Nat} {f0 : List Nat} (p0 : Rd w (.sl (x.syms.map Sy.cd)) (.slice a0 x.syms.length c0) f0) : RdVs w x.cd [.slice a0 x.syms.length c0] (f0) := by
 have e : (f0 : List Nat) = f0 := rfl
 rw [← e]
 exact (RdVs.single p0)
theorem Tm.cd_app (x : Tm) : x.cd = [.str x.name] ++ [.sl (x.kids.map Tm.cd)] := Tm.cd_eq x
theorem Tm.open {w : World} {x : Tm} {vs : List Value} {fp : List Nat} (h : RdVs w x.cd vs fp) : ∃ (a1 : Option Addr) (c1 : Nat) (f1 : List Nat), vs = [.string x.name, .slice a1 x.kids.length c1] ∧ fp = f1 ∧ x.name.size ≤ maxLen ∧ Rd w (.sl (x.kids.map Tm.cd)) (.slice a1 x.kids.length c1) f1 := by
 rw [Tm.cd_app] at h
 obtain ⟨u0, r0, g0, s0, ha, hb, e0, h0⟩ := h.split
 clear h
 subst ha
 subst hb
 obtain ⟨v0, rfl, q0⟩ := RdVs.one_inv e0
 obtain ⟨rfl, i0, rfl⟩ := zb1 q0
 obtain ⟨v1, rfl, q1⟩ := RdVs.one_inv h0
 obtain ⟨xa1, xc1, rfl, _⟩ := zh q1
 exact ⟨_, _, _, rfl, by simp, i0, q1⟩
theorem Tm.close {w : World} {x : Tm} {a1 : Option Addr} {c1 : Nat} {f1 : List Nat} (p0 : x.name.size ≤ maxLen) (p1 : Rd w (.sl (x.kids.map Tm.cd)) (.slice a1 x.kids.length c1) f1) : RdVs w x.cd [.string x.name, .slice a1 x.kids.length c1] (f1) := by
 have e : ([] ++ f1 : List Nat) = f1 := by simp
 rw [← e]
 rw [Tm.cd_app]
 exact ((zcu p0).app (RdVs.single p1))
theorem Tm.at {w : World} {xs : List Tm} {b off n cap : Nat} {fp : List Nat} (h : Rd w (.sl (xs.map Tm.cd)) (.slice (some ⟨b, off, none⟩) n cap) fp) {k : Nat} (hk : k < xs.length) : ∃ (a1 : Option Addr) (c1 : Nat) (f1 : List Nat), w.cell? ⟨b, off + k * 2, none⟩ = some (.string xs[k].name) ∧ w.cell? ⟨b, off + k * 2 + 1, none⟩ = some (.slice a1 xs[k].kids.length c1) ∧ xs[k].name.size ≤ maxLen ∧ Rd w (.sl (xs[k].kids.map Tm.cd)) (.slice a1 xs[k].kids.length c1) f1 ∧ ∀ y ∈ (f1), y ∈ fp := by
 obtain ⟨vs, f, h1, h2, h3⟩ := h.row (k := 2) (by simp only [List.mem_map]; rintro e ⟨t, _, rfl⟩; exact Tm.cd_len t) k (by simpa using hk)
 rw [List.getElem_map] at h2
 obtain ⟨a1, c1, f1, rfl, hfp, m0, m1⟩ := Tm.open h2
 exact ⟨a1, c1, f1, h1 0 _ rfl, h1 1 _ rfl, m0, m1, fun y hy => h3 y (by rw [hfp]; exact hy)⟩
theorem Eqn.open {w : World} {x : Eqn} {vs : List Value} {fp : List Nat} (h : RdVs w x.cd vs fp) : ∃ (a1 : Option Addr) (c1 : Nat) (f1 : List Nat), ∃ (a3 : Option Addr) (c3 : Nat) (f3 : List Nat), vs = [.string x.a.name, .slice a1 x.a.kids.length c1, .string x.b.name, .slice a3 x.b.kids.length c3] ∧ fp = f1 ++ f3 ∧ x.a.name.size ≤ maxLen ∧ Rd w (.sl (x.a.kids.map Tm.cd)) (.slice a1 x.a.kids.length c1) f1 ∧ x.b.name.size ≤ maxLen ∧ Rd w (.sl (x.b.kids.map Tm.cd)) (.slice a3 x.b.kids.length c3) f3 := by
 unfold Eqn.cd at h
 obtain ⟨u0, r0, g0, s0, ha, hb, e0, h0⟩ := h.split
 clear h
 subst ha
 subst hb
 obtain ⟨n0_0_a, n0_0_c, n0_0_f, rfl, rfl, m0_0, m0_1⟩ := Tm.open e0
 obtain ⟨n1_0_a, n1_0_c, n1_0_f, rfl, rfl, m1_0, m1_1⟩ := Tm.open h0
 exact ⟨_, _, _, _, _, _, rfl, by simp, m0_0, m0_1, m1_0, m1_1⟩
theorem Eqn.close {w : World} {x : Eqn} {a1 : Option Addr} {c1 : Nat} {f1 : List Nat} {a3 : Option Addr} {c3 : Nat} {f3 : List Nat} (p0 : x.a.name.size ≤ maxLen) (p1 : Rd w (.sl (x.a.kids.map Tm.cd)) (.slice a1 x.a.kids.length c1) f1) (p2 : x.b.name.size ≤ maxLen) (p3 : Rd w (.sl (x.b.kids.map Tm.cd)) (.slice a3 x.b.kids.length c3) f3) : RdVs w x.cd [.string x.a.name, .slice a1 x.a.kids.length c1, .string x.b.name, .slice a3 x.b.kids.length c3] (f1 ++ f3) := by
 have e : (f1 ++ f3 : List Nat) = f1 ++ f3 := by simp
 rw [← e]
 exact ((Tm.close p0 p1).app (Tm.close p2 p3))
theorem Atm.cd_len (x : Atm) : x.cd.length = 9 := by simp [Atm.cd, Tm.cd_len]
theorem Atm.open {w : World} {x : Atm} {vs : List Value} {fp : List Nat} (h : RdVs w x.cd vs fp) : ∃ (a2 : Option Addr) (c2 : Nat) (f2 : List Nat), ∃ (a4 : Option Addr) (c4 : Nat) (f4 : List Nat), ∃ (a5 : Option Addr) (c5 : Nat) (f5 : List Nat), ∃ (a6 : Option Addr) (c6 : Nat) (f6 : List Nat), vs = [.int .i64 x.kind, .string x.a.name, .slice a2 x.a.kids.length c2, .string x.b.name, .slice a4 x.b.kids.length c4, .slice a5 x.nums.length c5, .slice a6 x.times.length c6, .int .i64 x.bound, .bool x.strict] ∧ fp = f2 ++ (f4 ++ (f5 ++ f6)) ∧ I64 x.kind ∧ x.a.name.size ≤ maxLen ∧ Rd w (.sl (x.a.kids.map Tm.cd)) (.slice a2 x.a.kids.length c2) f2 ∧ x.b.name.size ≤ maxLen ∧ Rd w (.sl (x.b.kids.map Tm.cd)) (.slice a4 x.b.kids.length c4) f4 ∧ Rd w (.sl (x.nums.map Tm.cd)) (.slice a5 x.nums.length c5) f5 ∧ Rd w (.sl (x.times.map zD)) (.slice a6 x.times.length c6) f6 ∧ I64 x.bound := by
 unfold Atm.cd at h
 obtain ⟨u0, r0, g0, s0, ha, hb, e0, h0⟩ := h.split
 clear h
 subst ha
 subst hb
 obtain ⟨v0, rfl, q0⟩ := RdVs.one_inv e0
 obtain ⟨rfl, i0, rfl⟩ := zaS q0
 obtain ⟨u1, r1, g1, s1, ha, hb, e1, h1⟩ := h0.split
 clear h0
 subst ha
 subst hb
 obtain ⟨n1_0_a, n1_0_c, n1_0_f, rfl, rfl, m1_0, m1_1⟩ := Tm.open e1
 obtain ⟨u2, r2, g2, s2, ha, hb, e2, h2⟩ := h1.split
 clear h1
 subst ha
 subst hb
 obtain ⟨n2_0_a, n2_0_c, n2_0_f, rfl, rfl, m2_0, m2_1⟩ := Tm.open e2
 obtain ⟨u3, r3, g3, s3, ha, hb, e3, h3⟩ := h2.split
 clear h2
 subst ha
 subst hb
 obtain ⟨v3, rfl, q3⟩ := RdVs.one_inv e3
 obtain ⟨xa3, xc3, rfl, _⟩ := zh q3
 obtain ⟨u4, r4, g4, s4, ha, hb, e4, h4⟩ := h3.split
 clear h3
 subst ha
 subst hb
 obtain ⟨v4, rfl, q4⟩ := RdVs.one_inv e4
 obtain ⟨xa4, xc4, rfl, _⟩ := zh q4
 obtain ⟨u5, r5, g5, s5, ha, hb, e5, h5⟩ := h4.split
 clear h4
 subst ha
 subst hb
 obtain ⟨v5, rfl, q5⟩ := RdVs.one_inv e5
 obtain ⟨rfl, i5, rfl⟩ := zaS q5
 obtain ⟨v6, rfl, q6⟩ := RdVs.one_inv h5
 obtain ⟨rfl, rfl⟩ := zbu q6
 exact ⟨_, _, _, _, _, _, _, _, _, _, _, _, rfl, by simp, i0, m1_0, m1_1, m2_0, m2_1, q3, q4, i5⟩
theorem Atm.close {w : World} {x : Atm} {a2 : Option Addr} {c2 : Nat} {f2 : List Nat} {a4 : Option Addr} {c4 : Nat} {f4 : List Nat} {a5 : Option Addr} {c5 : Nat} {f5 : List Nat} {a6 : Option Addr} {c6 : Nat} {f6 : List Nat} (p0 : I64 x.kind) (p1 : x.a.name.size ≤ maxLen) (p2 : Rd w (.sl (x.a.kids.map Tm.cd)) (.slice a2 x.a.kids.length c2) f2) (p3 : x.b.name.size ≤ maxLen) (p4 : Rd w (.sl (x.b.kids.map Tm.cd)) (.slice a4 x.b.kids.length c4) f4) (p5 : Rd w (.sl (x.nums.map Tm.cd)) (.slice a5 x.nums.length c5) f5) (p6 : Rd w (.sl (x.times.map zD)) (.slice a6 x.times.length c6) f6) (p7 : I64 x.bound) : RdVs w x.cd [.int .i64 x.kind, .string x.a.name, .slice a2 x.a.kids.length c2, .string x.b.name, .slice a4 x.b.kids.length c4, .slice a5 x.nums.length c5, .slice a6 x.times.length c6, .int .i64 x.bound, .bool x.strict] (f2 ++ (f4 ++ (f5 ++ f6))) := by
 have e : ([] ++ (f2 ++ (f4 ++ (f5 ++ (f6 ++ ([] ++ []))))) : List Nat) = f2 ++ (f4 ++ (f5 ++ f6)) := by simp
 rw [← e]
 exact ((zaN p0).app ((Tm.close p1 p2).app ((Tm.close p3 p4).app ((RdVs.single p5).app ((RdVs.single p6).app ((zaN p7).app zbj))))))
theorem Atm.at {w : World} {xs : List Atm} {b off n cap : Nat} {fp : List Nat} (h : Rd w (.sl (xs.map Atm.cd)) (.slice (some ⟨b, off, none⟩) n cap) fp) {k : Nat} (hk : k < xs.length) : ∃ (a2 : Option Addr) (c2 : Nat) (f2 : List Nat), ∃ (a4 : Option Addr) (c4 : Nat) (f4 : List Nat), ∃ (a5 : Option Addr) (c5 : Nat) (f5 : List Nat), ∃ (a6 : Option Addr) (c6 : Nat) (f6 : List Nat), w.cell? ⟨b, off + k * 9, none⟩ = some (.int .i64 xs[k].kind) ∧ w.cell? ⟨b, off + k * 9 + 1, none⟩ = some (.string xs[k].a.name) ∧ w.cell? ⟨b, off + k * 9 + 2, none⟩ = some (.slice a2 xs[k].a.kids.length c2) ∧ w.cell? ⟨b, off + k * 9 + 3, none⟩ = some (.string xs[k].b.name) ∧ w.cell? ⟨b, off + k * 9 + 4, none⟩ = some (.slice a4 xs[k].b.kids.length c4) ∧ w.cell? ⟨b, off + k * 9 + 5, none⟩ = some (.slice a5 xs[k].nums.length c5) ∧ w.cell? ⟨b, off + k * 9 + 6, none⟩ = some (.slice a6 xs[k].times.length c6) ∧ w.cell? ⟨b, off + k * 9 + 7, none⟩ = some (.int .i64 xs[k].bound) ∧ w.cell? ⟨b, off + k * 9 + 8, none⟩ = some (.bool xs[k].strict) ∧ I64 xs[k].kind ∧ xs[k].a.name.size ≤ maxLen ∧ Rd w (.sl (xs[k].a.kids.map Tm.cd)) (.slice a2 xs[k].a.kids.length c2) f2 ∧ xs[k].b.name.size ≤ maxLen ∧ Rd w (.sl (xs[k].b.kids.map Tm.cd)) (.slice a4 xs[k].b.kids.length c4) f4 ∧ Rd w (.sl (xs[k].nums.map Tm.cd)) (.slice a5 xs[k].nums.length c5) f5 ∧ Rd w (.sl (xs[k].times.map zD)) (.slice a6 xs[k].times.length c6) f6 ∧ I64 xs[k].bound ∧ ∀ y ∈ (f2 ++ (f4 ++ (f5 ++ f6))), y ∈ fp := by
 obtain ⟨vs, f, h1, h2, h3⟩ := h.row (k := 9) (by simp only [List.mem_map]; rintro e ⟨t, _, rfl⟩; exact Atm.cd_len t) k (by simpa using hk)
 rw [List.getElem_map] at h2
 obtain ⟨a2, c2, f2, a4, c4, f4, a5, c5, f5, a6, c6, f6, rfl, hfp, m0, m1, m2, m3, m4, m5, m6, m7⟩ := Atm.open h2
 exact ⟨a2, c2, f2, a4, c4, f4, a5, c5, f5, a6, c6, f6, h1 0 _ rfl, h1 1 _ rfl, h1 2 _ rfl, h1 3 _ rfl, h1 4 _ rfl, h1 5 _ rfl, h1 6 _ rfl, h1 7 _ rfl, h1 8 _ rfl, m0, m1, m2, m3, m4, m5, m6, m7, fun y hy => h3 y (by rw [hfp]; exact hy)⟩
theorem Lt.cd_len (x : Lt) : x.cd.length = 10 := by simp [Lt.cd, Atm.cd_len]
theorem Lt.open {w : World} {x : Lt} {vs : List Value} {fp : List Nat} (h : RdVs w x.cd vs fp) : ∃ (a2 : Option Addr) (c2 : Nat) (f2 : List Nat), ∃ (a4 : Option Addr) (c4 : Nat) (f4 : List Nat), ∃ (a5 : Option Addr) (c5 : Nat) (f5 : List Nat), ∃ (a6 : Option Addr) (c6 : Nat) (f6 : List Nat), vs = [.int .i64 x.atom.kind, .string x.atom.a.name, .slice a2 x.atom.a.kids.length c2, .string x.atom.b.name, .slice a4 x.atom.b.kids.length c4, .slice a5 x.atom.nums.length c5, .slice a6 x.atom.times.length c6, .int .i64 x.atom.bound, .bool x.atom.strict, .bool x.no] ∧ fp = f2 ++ (f4 ++ (f5 ++ f6)) ∧ I64 x.atom.kind ∧ x.atom.a.name.size ≤ maxLen ∧ Rd w (.sl (x.atom.a.kids.map Tm.cd)) (.slice a2 x.atom.a.kids.length c2) f2 ∧ x.atom.b.name.size ≤ maxLen ∧ Rd w (.sl (x.atom.b.kids.map Tm.cd)) (.slice a4 x.atom.b.kids.length c4) f4 ∧ Rd w (.sl (x.atom.nums.map Tm.cd)) (.slice a5 x.atom.nums.length c5) f5 ∧ Rd w (.sl (x.atom.times.map zD)) (.slice a6 x.atom.times.length c6) f6 ∧ I64 x.atom.bound := by
 unfold Lt.cd at h
 obtain ⟨u0, r0, g0, s0, ha, hb, e0, h0⟩ := h.split
 clear h
 subst ha
 subst hb
 obtain ⟨n0_0_a, n0_0_c, n0_0_f, n0_1_a, n0_1_c, n0_1_f, n0_2_a, n0_2_c, n0_2_f, n0_3_a, n0_3_c, n0_3_f, rfl, rfl, m0_0, m0_1, m0_2, m0_3, m0_4, m0_5, m0_6, m0_7⟩ := Atm.open e0
 obtain ⟨v1, rfl, q1⟩ := RdVs.one_inv h0
 obtain ⟨rfl, rfl⟩ := zbu q1
 exact ⟨_, _, _, _, _, _, _, _, _, _, _, _, rfl, by simp, m0_0, m0_1, m0_2, m0_3, m0_4, m0_5, m0_6, m0_7⟩
theorem Lt.close {w : World} {x : Lt} {a2 : Option Addr} {c2 : Nat} {f2 : List Nat} {a4 : Option Addr} {c4 : Nat} {f4 : List Nat} {a5 : Option Addr} {c5 : Nat} {f5 : List Nat} {a6 : Option Addr} {c6 : Nat} {f6 : List Nat} (p0 : I64 x.atom.kind) (p1 : x.atom.a.name.size ≤ maxLen) (p2 : Rd w (.sl (x.atom.a.kids.map Tm.cd)) (.slice a2 x.atom.a.kids.length c2) f2) (p3 : x.atom.b.name.size ≤ maxLen) (p4 : Rd w (.sl (x.atom.b.kids.map Tm.cd)) (.slice a4 x.atom.b.kids.length c4) f4) (p5 : Rd w (.sl (x.atom.nums.map Tm.cd)) (.slice a5 x.atom.nums.length c5) f5) (p6 : Rd w (.sl (x.atom.times.map zD)) (.slice a6 x.atom.times.length c6) f6) (p7 : I64 x.atom.bound) : RdVs w x.cd [.int .i64 x.atom.kind, .string x.atom.a.name, .slice a2 x.atom.a.kids.length c2, .string x.atom.b.name, .slice a4 x.atom.b.kids.length c4, .slice a5 x.atom.nums.length c5, .slice a6 x.atom.times.length c6, .int .i64 x.atom.bound, .bool x.atom.strict, .bool x.no] (f2 ++ (f4 ++ (f5 ++ f6))) := by
 have e : ((f2 ++ (f4 ++ (f5 ++ f6))) ++ [] : List Nat) = f2 ++ (f4 ++ (f5 ++ f6)) := by simp
 rw [← e]
 exact ((Atm.close p0 p1 p2 p3 p4 p5 p6 p7).app zbj)
theorem Lt.at {w : World} {xs : List Lt} {b off n cap : Nat} {fp : List Nat} (h : Rd w (.sl (xs.map Lt.cd)) (.slice (some ⟨b, off, none⟩) n cap) fp) {k : Nat} (hk : k < xs.length) : ∃ (a2 : Option Addr) (c2 : Nat) (f2 : List Nat), ∃ (a4 : Option Addr) (c4 : Nat) (f4 : List Nat), ∃ (a5 : Option Addr) (c5 : Nat) (f5 : List Nat), ∃ (a6 : Option Addr) (c6 : Nat) (f6 : List Nat), w.cell? ⟨b, off + k * 10, none⟩ = some (.int .i64 xs[k].atom.kind) ∧ w.cell? ⟨b, off + k * 10 + 1, none⟩ = some (.string xs[k].atom.a.name) ∧ w.cell? ⟨b, off + k * 10 + 2, none⟩ = some (.slice a2 xs[k].atom.a.kids.length c2) ∧ w.cell? ⟨b, off + k * 10 + 3, none⟩ = some (.string xs[k].atom.b.name) ∧ w.cell? ⟨b, off + k * 10 + 4, none⟩ = some (.slice a4 xs[k].atom.b.kids.length c4) ∧ w.cell? ⟨b, off + k * 10 + 5, none⟩ = some (.slice a5 xs[k].atom.nums.length c5) ∧ w.cell? ⟨b, off + k * 10 + 6, none⟩ = some (.slice a6 xs[k].atom.times.length c6) ∧ w.cell? ⟨b, off + k * 10 + 7, none⟩ = some (.int .i64 xs[k].atom.bound) ∧ w.cell? ⟨b, off + k * 10 + 8, none⟩ = some (.bool xs[k].atom.strict) ∧ w.cell? ⟨b, off + k * 10 + 9, none⟩ = some (.bool xs[k].no) ∧ I64 xs[k].atom.kind ∧ xs[k].atom.a.name.size ≤ maxLen ∧ Rd w (.sl (xs[k].atom.a.kids.map Tm.cd)) (.slice a2 xs[k].atom.a.kids.length c2) f2 ∧ xs[k].atom.b.name.size ≤ maxLen ∧ Rd w (.sl (xs[k].atom.b.kids.map Tm.cd)) (.slice a4 xs[k].atom.b.kids.length c4) f4 ∧ Rd w (.sl (xs[k].atom.nums.map Tm.cd)) (.slice a5 xs[k].atom.nums.length c5) f5 ∧ Rd w (.sl (xs[k].atom.times.map zD)) (.slice a6 xs[k].atom.times.length c6) f6 ∧ I64 xs[k].atom.bound ∧ ∀ y ∈ (f2 ++ (f4 ++ (f5 ++ f6))), y ∈ fp := by
 obtain ⟨vs, f, h1, h2, h3⟩ := h.row (k := 10) (by simp only [List.mem_map]; rintro e ⟨t, _, rfl⟩; exact Lt.cd_len t) k (by simpa using hk)
 rw [List.getElem_map] at h2
 obtain ⟨a2, c2, f2, a4, c4, f4, a5, c5, f5, a6, c6, f6, rfl, hfp, m0, m1, m2, m3, m4, m5, m6, m7⟩ := Lt.open h2
 exact ⟨a2, c2, f2, a4, c4, f4, a5, c5, f5, a6, c6, f6, h1 0 _ rfl, h1 1 _ rfl, h1 2 _ rfl, h1 3 _ rfl, h1 4 _ rfl, h1 5 _ rfl, h1 6 _ rfl, h1 7 _ rfl, h1 8 _ rfl, h1 9 _ rfl, m0, m1, m2, m3, m4, m5, m6, m7, fun y hy => h3 y (by rw [hfp]; exact hy)⟩
theorem Fm.cd_len (x : Fm) : x.cd.length = 12 := by rw [Fm.cd_eq]; simp [Lt.cd_len]
theorem Fm.open {w : World} {x : Fm} {vs : List Value} {fp : List Nat} (h : RdVs w x.cd vs fp) : ∃ (a3 : Option Addr) (c3 : Nat) (f3 : List Nat), ∃ (a5 : Option Addr) (c5 : Nat) (f5 : List Nat), ∃ (a6 : Option Addr) (c6 : Nat) (f6 : List Nat), ∃ (a7 : Option Addr) (c7 : Nat) (f7 : List Nat), ∃ (a11 : Option Addr) (c11 : Nat) (f11 : List Nat), vs = [.int .i64 x.kind, .int .i64 x.lit.atom.kind, .string x.lit.atom.a.name, .slice a3 x.lit.atom.a.kids.length c3, .string x.lit.atom.b.name, .slice a5 x.lit.atom.b.kids.length c5, .slice a6 x.lit.atom.nums.length c6, .slice a7 x.lit.atom.times.length c7, .int .i64 x.lit.atom.bound, .bool x.lit.atom.strict, .bool x.lit.no, .slice a11 x.kids.length c11] ∧ fp = f3 ++ (f5 ++ (f6 ++ (f7 ++ f11))) ∧ I64 x.kind ∧ I64 x.lit.atom.kind ∧ x.lit.atom.a.name.size ≤ maxLen ∧ Rd w (.sl (x.lit.atom.a.kids.map Tm.cd)) (.slice a3 x.lit.atom.a.kids.length c3) f3 ∧ x.lit.atom.b.name.size ≤ maxLen ∧ Rd w (.sl (x.lit.atom.b.kids.map Tm.cd)) (.slice a5 x.lit.atom.b.kids.length c5) f5 ∧ Rd w (.sl (x.lit.atom.nums.map Tm.cd)) (.slice a6 x.lit.atom.nums.length c6) f6 ∧ Rd w (.sl (x.lit.atom.times.map zD)) (.slice a7 x.lit.atom.times.length c7) f7 ∧ I64 x.lit.atom.bound ∧ Rd w (.sl (x.kids.map Fm.cd)) (.slice a11 x.kids.length c11) f11 := by
 rw [Fm.cd_eq] at h
 obtain ⟨u0, r0, g0, s0, ha, hb, e0, h0⟩ := h.split
 clear h
 subst ha
 subst hb
 obtain ⟨v0, rfl, q0⟩ := RdVs.one_inv e0
 obtain ⟨rfl, i0, rfl⟩ := zaS q0
 obtain ⟨u1, r1, g1, s1, ha, hb, e1, h1⟩ := h0.split
 clear h0
 subst ha
 subst hb
 obtain ⟨n1_0_a, n1_0_c, n1_0_f, n1_1_a, n1_1_c, n1_1_f, n1_2_a, n1_2_c, n1_2_f, n1_3_a, n1_3_c, n1_3_f, rfl, rfl, m1_0, m1_1, m1_2, m1_3, m1_4, m1_5, m1_6, m1_7⟩ := Lt.open e1
 obtain ⟨v2, rfl, q2⟩ := RdVs.one_inv h1
 obtain ⟨xa2, xc2, rfl, _⟩ := zh q2
 exact ⟨_, _, _, _, _, _, _, _, _, _, _, _, _, _, _, rfl, by simp, i0, m1_0, m1_1, m1_2, m1_3, m1_4, m1_5, m1_6, m1_7, q2⟩
theorem Fm.close {w : World} {x : Fm} {a3 : Option Addr} {c3 : Nat} {f3 : List Nat} {a5 : Option Addr} {c5 : Nat} {f5 : List Nat} {a6 : Option Addr} {c6 : Nat} {f6 : List Nat} {a7 : Option Addr} {c7 : Nat} {f7 : List Nat} {a11 : Option Addr} {c11 : Nat} {f11 : List Nat} (p0 : I64 x.kind) (p1 : I64 x.lit.atom.kind) (p2 : x.lit.atom.a.name.size ≤ maxLen) (p3 : Rd w (.sl (x.lit.atom.a.kids.map Tm.cd)) (.slice a3 x.lit.atom.a.kids.length c3) f3) (p4 : x.lit.atom.b.name.size ≤ maxLen) (p5 : Rd w (.sl (x.lit.atom.b.kids.map Tm.cd)) (.slice a5 x.lit.atom.b.kids.length c5) f5) (p6 : Rd w (.sl (x.lit.atom.nums.map Tm.cd)) (.slice a6 x.lit.atom.nums.length c6) f6) (p7 : Rd w (.sl (x.lit.atom.times.map zD)) (.slice a7 x.lit.atom.times.length c7) f7) (p8 : I64 x.lit.atom.bound) (p9 : Rd w (.sl (x.kids.map Fm.cd)) (.slice a11 x.kids.length c11) f11) : RdVs w x.cd [.int .i64 x.kind, .int .i64 x.lit.atom.kind, .string x.lit.atom.a.name, .slice a3 x.lit.atom.a.kids.length c3, .string x.lit.atom.b.name, .slice a5 x.lit.atom.b.kids.length c5, .slice a6 x.lit.atom.nums.length c6, .slice a7 x.lit.atom.times.length c7, .int .i64 x.lit.atom.bound, .bool x.lit.atom.strict, .bool x.lit.no, .slice a11 x.kids.length c11] (f3 ++ (f5 ++ (f6 ++ (f7 ++ f11)))) := by
 have e : ([] ++ ((f3 ++ (f5 ++ (f6 ++ f7))) ++ f11) : List Nat) = f3 ++ (f5 ++ (f6 ++ (f7 ++ f11))) := by simp
 rw [← e]
 rw [Fm.cd_eq]
 exact ((zaN p0).app ((Lt.close p1 p2 p3 p4 p5 p6 p7 p8).app (RdVs.single p9)))
theorem Fm.at {w : World} {xs : List Fm} {b off n cap : Nat} {fp : List Nat} (h : Rd w (.sl (xs.map Fm.cd)) (.slice (some ⟨b, off, none⟩) n cap) fp) {k : Nat} (hk : k < xs.length) : ∃ (a3 : Option Addr) (c3 : Nat) (f3 : List Nat), ∃ (a5 : Option Addr) (c5 : Nat) (f5 : List Nat), ∃ (a6 : Option Addr) (c6 : Nat) (f6 : List Nat), ∃ (a7 : Option Addr) (c7 : Nat) (f7 : List Nat), ∃ (a11 : Option Addr) (c11 : Nat) (f11 : List Nat), w.cell? ⟨b, off + k * 12, none⟩ = some (.int .i64 xs[k].kind) ∧ w.cell? ⟨b, off + k * 12 + 1, none⟩ = some (.int .i64 xs[k].lit.atom.kind) ∧ w.cell? ⟨b, off + k * 12 + 2, none⟩ = some (.string xs[k].lit.atom.a.name) ∧ w.cell? ⟨b, off + k * 12 + 3, none⟩ = some (.slice a3 xs[k].lit.atom.a.kids.length c3) ∧ w.cell? ⟨b, off + k * 12 + 4, none⟩ = some (.string xs[k].lit.atom.b.name) ∧ w.cell? ⟨b, off + k * 12 + 5, none⟩ = some (.slice a5 xs[k].lit.atom.b.kids.length c5) ∧ w.cell? ⟨b, off + k * 12 + 6, none⟩ = some (.slice a6 xs[k].lit.atom.nums.length c6) ∧ w.cell? ⟨b, off + k * 12 + 7, none⟩ = some (.slice a7 xs[k].lit.atom.times.length c7) ∧ w.cell? ⟨b, off + k * 12 + 8, none⟩ = some (.int .i64 xs[k].lit.atom.bound) ∧ w.cell? ⟨b, off + k * 12 + 9, none⟩ = some (.bool xs[k].lit.atom.strict) ∧ w.cell? ⟨b, off + k * 12 + 10, none⟩ = some (.bool xs[k].lit.no) ∧ w.cell? ⟨b, off + k * 12 + 11, none⟩ = some (.slice a11 xs[k].kids.length c11) ∧ I64 xs[k].kind ∧ I64 xs[k].lit.atom.kind ∧ xs[k].lit.atom.a.name.size ≤ maxLen ∧ Rd w (.sl (xs[k].lit.atom.a.kids.map Tm.cd)) (.slice a3 xs[k].lit.atom.a.kids.length c3) f3 ∧ xs[k].lit.atom.b.name.size ≤ maxLen ∧ Rd w (.sl (xs[k].lit.atom.b.kids.map Tm.cd)) (.slice a5 xs[k].lit.atom.b.kids.length c5) f5 ∧ Rd w (.sl (xs[k].lit.atom.nums.map Tm.cd)) (.slice a6 xs[k].lit.atom.nums.length c6) f6 ∧ Rd w (.sl (xs[k].lit.atom.times.map zD)) (.slice a7 xs[k].lit.atom.times.length c7) f7 ∧ I64 xs[k].lit.atom.bound ∧ Rd w (.sl (xs[k].kids.map Fm.cd)) (.slice a11 xs[k].kids.length c11) f11 ∧ ∀ y ∈ (f3 ++ (f5 ++ (f6 ++ (f7 ++ f11)))), y ∈ fp := by
 obtain ⟨vs, f, h1, h2, h3⟩ := h.row (k := 12) (by simp only [List.mem_map]; rintro e ⟨t, _, rfl⟩; exact Fm.cd_len t) k (by simpa using hk)
 rw [List.getElem_map] at h2
 obtain ⟨a3, c3, f3, a5, c5, f5, a6, c6, f6, a7, c7, f7, a11, c11, f11, rfl, hfp, m0, m1, m2, m3, m4, m5, m6, m7, m8, m9⟩ := Fm.open h2
 exact ⟨a3, c3, f3, a5, c5, f5, a6, c6, f6, a7, c7, f7, a11, c11, f11, h1 0 _ rfl, h1 1 _ rfl, h1 2 _ rfl, h1 3 _ rfl, h1 4 _ rfl, h1 5 _ rfl, h1 6 _ rfl, h1 7 _ rfl, h1 8 _ rfl, h1 9 _ rfl, h1 10 _ rfl, h1 11 _ rfl, m0, m1, m2, m3, m4, m5, m6, m7, m8, m9, fun y hy => h3 y (by rw [hfp]; exact hy)⟩
theorem Stk.open {w : World} {x : Stk} {vs : List Value} {fp : List Nat} (h : RdVs w x.cd vs fp) : ∃ (a0 : Option Addr) (c0 : Nat) (f0 : List Nat), ∃ (a1 : Option Addr) (c1 : Nat) (f1 : List Nat), vs = [.slice a0 x.sig.syms.length c0, .slice a1 x.levels.length c1] ∧ fp = f0 ++ f1 ∧ Rd w (.sl (x.sig.syms.map Sy.cd)) (.slice a0 x.sig.syms.length c0) f0 ∧ Rd w (.sl (x.levels.map zH)) (.slice a1 x.levels.length c1) f1 := by
 unfold Stk.cd at h
 obtain ⟨u0, r0, g0, s0, ha, hb, e0, h0⟩ := h.split
 clear h
 subst ha
 subst hb
 obtain ⟨n0_0_a, n0_0_c, n0_0_f, rfl, rfl, m0_0⟩ := Sg.open e0
 obtain ⟨v1, rfl, q1⟩ := RdVs.one_inv h0
 obtain ⟨xa1, xc1, rfl, _⟩ := zh q1
 exact ⟨_, _, _, _, _, _, rfl, by simp, m0_0, q1⟩
end Go.Proofs.YtbfinjiledfpcaaGreat
end
