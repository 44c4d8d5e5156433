/- Parts of the proof: RdrK. -/
import Derived.Test.YtoehhbkhdddeeaaGreatDoorPf41
import Derived.Test.YtoehhbkhdddeeaaGreatDoorPf19
section
namespace Go.Proofs.YtoehhbkhdddeeaaGreatDoor
open Go Go.RowKit
set_option linter.unusedVariables false
set_option linter.unusedSimpArgs false
set_option maxRecDepth 100000
set_option maxHeartbeats 16000000
theorem fm_kind {w : World} {f : Fm} {b3 : Option Addr} {d3 : Nat} {b5 : Option Addr} {d5 : Nat} {b6 : Option Addr} {d6 : Nat} {b7 : Option Addr} {d7 : Nat} {b11 : Option Addr} {d11 : Nat} {ff : List Nat} (h : RdVs w f.cd [.int .i64 f.kind, .int .i64 f.lit.atom.kind, .string f.lit.atom.a.name, .slice b3 f.lit.atom.a.kids.length d3, .string f.lit.atom.b.name, .slice b5 f.lit.atom.b.kids.length d5, .slice b6 f.lit.atom.nums.length d6, .slice b7 f.lit.atom.times.length d7, .int .i64 f.lit.atom.bound, .bool f.lit.atom.strict, .bool f.lit.no, .slice b11 f.kids.length d11] ff) {k : Int} (hk : I64 k) : RdVs w (Fm.mk k f.lit f.kids).cd [.int .i64 k, .int .i64 f.lit.atom.kind, .string f.lit.atom.a.name, .slice b3 f.lit.atom.a.kids.length d3, .string f.lit.atom.b.name, .slice b5 f.lit.atom.b.kids.length d5, .slice b6 f.lit.atom.nums.length d6, .slice b7 f.lit.atom.times.length d7, .int .i64 f.lit.atom.bound, .bool f.lit.atom.strict, .bool f.lit.no, .slice b11 f.kids.length d11] ff := by
 obtain ⟨_, _, f3, _, _, f5, _, _, f6, _, _, f7, _, _, f11, hv, rfl, m0, m1, m2, m3, m4, m5, m6, m7, m8, m9⟩ := Fm.open h
 simp only [List.cons.injEq, Value.slice.injEq, and_true, true_and] at hv
 obtain ⟨⟨rfl, rfl⟩, ⟨rfl, rfl⟩, ⟨rfl, rfl⟩, ⟨rfl, rfl⟩, rfl, rfl⟩ := hv
 exact Fm.close (x := Fm.mk k f.lit f.kids) hk m1 m2 m3 m4 m5 m6 m7 m8 m9
theorem fm_row {w : World} {f : Fm} {b3 : Option Addr} {d3 : Nat} {b5 : Option Addr} {d5 : Nat} {b6 : Option Addr} {d6 : Nat} {b7 : Option Addr} {d7 : Nat} {b11 : Option Addr} {d11 : Nat} {ff : List Nat} (h : RdVs w f.cd [.int .i64 f.kind, .int .i64 f.lit.atom.kind, .string f.lit.atom.a.name, .slice b3 f.lit.atom.a.kids.length d3, .string f.lit.atom.b.name, .slice b5 f.lit.atom.b.kids.length d5, .slice b6 f.lit.atom.nums.length d6, .slice b7 f.lit.atom.times.length d7, .int .i64 f.lit.atom.bound, .bool f.lit.atom.strict, .bool f.lit.no, .slice b11 f.kids.length d11] ff) : ∃ g, Rd w (.sl (f.kids.map Fm.cd)) (.slice b11 f.kids.length d11) g ∧ ∀ b ∈ g, b ∈ ff := by
 obtain ⟨_, _, f3, _, _, f5, _, _, f6, _, _, f7, _, _, f11, hv, rfl, m0, m1, m2, m3, m4, m5, m6, m7, m8, m9⟩ := Fm.open h
 simp only [List.cons.injEq, Value.slice.injEq, and_true, true_and] at hv
 obtain ⟨⟨rfl, rfl⟩, ⟨rfl, rfl⟩, ⟨rfl, rfl⟩, ⟨rfl, rfl⟩, rfl, rfl⟩ := hv
 exact ⟨f11, m9, fun b hb => by simp [hb]⟩
theorem zb5 {w : World} {f : Fm} {b3 : Option Addr} {d3 : Nat} {b5 : Option Addr} {d5 : Nat} {b6 : Option Addr} {d6 : Nat} {b7 : Option Addr} {d7 : Nat} {b11 : Option Addr} {d11 : Nat} {ff fk : List Nat} {ks : List Fm} {xa : Option Addr} {xc : Nat} (h : RdVs w f.cd [.int .i64 f.kind, .int .i64 f.lit.atom.kind, .string f.lit.atom.a.name, .slice b3 f.lit.atom.a.kids.length d3, .string f.lit.atom.b.name, .slice b5 f.lit.atom.b.kids.length d5, .slice b6 f.lit.atom.nums.length d6, .slice b7 f.lit.atom.times.length d7, .int .i64 f.lit.atom.bound, .bool f.lit.atom.strict, .bool f.lit.no, .slice b11 f.kids.length d11] ff) (hk : Rd w (.sl (ks.map Fm.cd)) (.slice xa ks.length xc) fk) :
  ∃ ff', RdVs w (Fm.mk f.kind f.lit ks).cd [.int .i64 f.kind, .int .i64 f.lit.atom.kind, .string f.lit.atom.a.name, .slice b3 f.lit.atom.a.kids.length d3, .string f.lit.atom.b.name, .slice b5 f.lit.atom.b.kids.length d5, .slice b6 f.lit.atom.nums.length d6, .slice b7 f.lit.atom.times.length d7, .int .i64 f.lit.atom.bound, .bool f.lit.atom.strict, .bool f.lit.no, .slice xa ks.length xc] ff' ∧ ∀ b ∈ ff', b ∈ ff ∨ b ∈ fk := by
 obtain ⟨_, _, f3, _, _, f5, _, _, f6, _, _, f7, _, _, f11, hv, rfl, m0, m1, m2, m3, m4, m5, m6, m7, m8, m9⟩ := Fm.open h
 simp only [List.cons.injEq, Value.slice.injEq, and_true, true_and] at hv
 obtain ⟨⟨rfl, rfl⟩, ⟨rfl, rfl⟩, ⟨rfl, rfl⟩, ⟨rfl, rfl⟩, rfl, rfl⟩ := hv
 exact ⟨_, Fm.close (x := Fm.mk f.kind f.lit ks) m0 m1 m2 m3 m4 m5 m6 m7 m8 hk, fun b hb => by
  simp only [zdS] at hb ⊢
  rcases hb with h | h | h | h | h
  ·exact .inl (.inl h)
  ·exact .inl (.inr (.inl h))
  ·exact .inl (.inr (.inr (.inl h)))
  ·exact .inl (.inr (.inr (.inr (.inl h))))
  ·exact .inr h⟩
theorem fm_lit {w : World} {f : Fm} {y : Atm} {b3 : Option Addr} {d3 : Nat} {b5 : Option Addr} {d5 : Nat} {b6 : Option Addr} {d6 : Nat} {b7 : Option Addr} {d7 : Nat} {b11 : Option Addr} {d11 : Nat} {a2 : Option Addr} {c2 : Nat} {a4 : Option Addr} {c4 : Nat} {a5 : Option Addr} {c5 : Nat} {a6 : Option Addr} {c6 : Nat} {ff fy : List Nat} (h : RdVs w f.cd [.int .i64 f.kind, .int .i64 f.lit.atom.kind, .string f.lit.atom.a.name, .slice b3 f.lit.atom.a.kids.length d3, .string f.lit.atom.b.name, .slice b5 f.lit.atom.b.kids.length d5, .slice b6 f.lit.atom.nums.length d6, .slice b7 f.lit.atom.times.length d7, .int .i64 f.lit.atom.bound, .bool f.lit.atom.strict, .bool f.lit.no, .slice b11 f.kids.length d11] ff) (hy : RdVs w y.cd [.int .i64 y.kind, .string y.a.name, .slice a2 y.a.kids.length c2, .string y.b.name, .slice a4 y.b.kids.length c4, .slice a5 y.nums.length c5, .slice a6 y.times.length c6, .int .i64 y.bound, .bool y.strict] fy) :
  ∃ ff', RdVs w (Fm.mk f.kind ⟨y, false⟩ f.kids).cd [.int .i64 f.kind, .int .i64 y.kind, .string y.a.name, .slice a2 y.a.kids.length c2, .string y.b.name, .slice a4 y.b.kids.length c4, .slice a5 y.nums.length c5, .slice a6 y.times.length c6, .int .i64 y.bound, .bool y.strict, .bool false, .slice b11 f.kids.length d11] ff' ∧ ∀ b ∈ ff', b ∈ ff ∨ b ∈ fy := by
 obtain ⟨_, _, f3, _, _, f5, _, _, f6, _, _, f7, _, _, f11, hv, rfl, m0, m1, m2, m3, m4, m5, m6, m7, m8, m9⟩ := Fm.open h
 simp only [List.cons.injEq, Value.slice.injEq, and_true, true_and] at hv
 obtain ⟨⟨rfl, rfl⟩, ⟨rfl, rfl⟩, ⟨rfl, rfl⟩, ⟨rfl, rfl⟩, rfl, rfl⟩ := hv
 obtain ⟨_, _, g2, _, _, g4, _, _, g5, _, _, g6, hv, rfl, n0, n1, n2, n3, n4, n5, n6, n7⟩ := Atm.open hy
 simp only [List.cons.injEq, Value.slice.injEq, and_true, true_and] at hv
 obtain ⟨⟨rfl, rfl⟩, ⟨rfl, rfl⟩, ⟨rfl, rfl⟩, rfl, rfl⟩ := hv
 exact ⟨_, Fm.close (x := Fm.mk f.kind ⟨y, false⟩ f.kids) m0 n0 n1 n2 n3 n4 n5 n6 n7 m9, fun b hb => by
  simp only [zdS] at hb ⊢
  rcases hb with h | h | h | h | h
  ·exact .inr (.inl h)
  ·exact .inr (.inr (.inl h))
  ·exact .inr (.inr (.inr (.inl h)))
  ·exact .inr (.inr (.inr (.inr h)))
  ·exact .inl (.inr (.inr (.inr (.inr h))))⟩
theorem zbS (k : Int) (f : Fm) : wtV (Fm.mk k f.lit f.kids).cd = wtV f.cd := by rw [Fm.wt_eq, Fm.wt_eq f]; rfl
theorem za4 (f : Fm) : wtV (Fm.mk f.kind f.lit (f.kids ++ [f])).cd = 2 * wtV f.cd + 1 := by
 rw [Fm.wt_eq]
 have h := Fm.wt_eq f
 simp only [Fm.lit, Fm.kids, zdV, zah, zdU, List.map_cons, List.map_nil, wtR, List.length_cons, List.length_nil] at h ⊢
 omega
theorem fm_lit_wt (f : Fm) (y : Atm) : wtV (Fm.mk f.kind ⟨y, false⟩ f.kids).cd ≤ wtV f.cd + wtV y.cd := by
 rw [Fm.wt_eq, Fm.wt_eq f]
 show wtV (Lt.mk y false).cd + (f.kids.length + wtR (f.kids.map Fm.cd)) ≤ _
 rw [lt_wt9]; omega
/-- Words and a form that are drawn, one in sixteen bent. -/
def DrawnSG (w : World) (e : Ending) (w' : World) : Prop := ∃ (s : Sg) (f : Fm) (a0 : Option Addr) (c0 : Nat) (b3 : Option Addr) (d3 : Nat) (b5 : Option Addr) (d5 : Nat) (b6 : Option Addr) (d6 : Nat) (b7 : Option Addr) (d7 : Nat) (b11 : Option Addr) (d11 : Nat) (sf ff : List Nat), (s.syms.length ≤ 21 ∧ ∀ x ∈ s.syms, x.args.length ≤ 4) ∧ wtV f.cd ≤ 160000 ∧
 e = .returned (.tuple #[.agg #[.slice a0 s.syms.length c0], .agg #[.int .i64 f.kind, .int .i64 f.lit.atom.kind, .string f.lit.atom.a.name, .slice b3 f.lit.atom.a.kids.length d3, .string f.lit.atom.b.name, .slice b5 f.lit.atom.b.kids.length d5, .slice b6 f.lit.atom.nums.length d6, .slice b7 f.lit.atom.times.length d7, .int .i64 f.lit.atom.bound, .bool f.lit.atom.strict, .bool f.lit.no, .slice b11 f.kids.length d11]]) ∧ RdVs w' s.cd [.slice a0 s.syms.length c0] sf ∧ RdVs w' f.cd [.int .i64 f.kind, .int .i64 f.lit.atom.kind, .string f.lit.atom.a.name, .slice b3 f.lit.atom.a.kids.length d3, .string f.lit.atom.b.name, .slice b5 f.lit.atom.b.kids.length d5, .slice b6 f.lit.atom.nums.length d6, .slice b7 f.lit.atom.times.length d7, .int .i64 f.lit.atom.bound, .bool f.lit.atom.strict, .bool f.lit.no, .slice b11 f.kids.length d11] ff ∧ (∀ b ∈ sf, w.heap.size ≤ b) ∧ ∀ b ∈ ff, w.heap.size ≤ b
theorem zbT (rb p : Nat) (w : World) (hp : p + 1000 ≤ 1000000000) (hr : Rdr w rb p) :
  Calls Tryz.prog 9 #[.pointer (some ⟨rb, 0, none⟩)] w fun e w' => DrawnSG w e w' ∧ Rdr w' rb (p + 1000) ∧ Only [rb] w w' := by
 have hlt := hr.lt
 have hA0 := (Box.new w [.slice none 0 0] 43).alloc (.cells #[.int .i64 0, .int .i64 0, .string ⟨#[]⟩, .slice none 0 0, .string ⟨#[]⟩, .slice none 0 0, .slice none 0 0, .slice none 0 0, .int .i64 0, .bool false, .bool false, .slice none 0 0] 33)
 have hB0 := Box.new (w.alloc (.cells #[.slice none 0 0] 43)) [.int .i64 0, .int .i64 0, .string ⟨#[]⟩, .slice none 0 0, .string ⟨#[]⟩, .slice none 0 0, .slice none 0 0, .slice none 0 0, .int .i64 0, .bool false, .bool false, .slice none 0 0] 33
 rw [World.size_alloc] at hB0
 have hbn : Below w.heap.size w ((w.alloc (.cells #[.slice none 0 0] 43)).alloc (.cells #[.int .i64 0, .int .i64 0, .string ⟨#[]⟩, .slice none 0 0, .string ⟨#[]⟩, .slice none 0 0, .slice none 0 0, .slice none 0 0, .int .i64 0, .bool false, .bool false, .slice none 0 0] 33)) := ((Below.refl _ _).alloc (Nat.le_refl _) _).alloc (by simp) _
 go_enter Tryz.func9, Tryz.ntmps9
 go_upto_region 1 with fail
 generalize (w.alloc (.cells #[.slice none 0 0] 43)).alloc (.cells #[.int .i64 0, .int .i64 0, .string ⟨#[]⟩, .slice none 0 0, .string ⟨#[]⟩, .slice none 0 0, .slice none 0 0, .slice none 0 0, .int .i64 0, .bool false, .bool false, .slice none 0 0] 33) = W0 at *
 have hN0 : Only [rb] w W0 := Only.below hbn
 have hr0 := hr.below hbn
 clear hbn hr
 go_wp2_with fail
 refine (zdI rb p _ (by omega) hr0).mono ?_
 rintro e w1 ⟨⟨s, f, a0, c0, b3, d3, b5, d5, b6, d6, b7, d7, b11, d11, sf, ff, ⟨hfew, hnice⟩, hwf, rfl, hrs, hrf, hsf, hff⟩, hr1, ho1⟩
 have hw4 : fcap 4 = 75030 := rfl
 rw [hw4] at hwf
 clear hw4
 have hzB := hB0.1
 have hnr : rb ∉ sf := fun h => by have := hsf _ h; omega
 have hnf : rb ∉ ff := fun h => by have := hff _ h; omega
 have hz1 := ho1.size
 have hsl := hrs.lt
 have hflt := hrf.lt
 obtain ⟨S, hS⟩ : ∃ S, S = w1.heap.size := ⟨_, rfl⟩
 obtain ⟨V, hVS⟩ : ∃ V, V = S + 1 := ⟨_, rfl⟩
 have hSz : w.heap.size + 1 < S := by omega
 replace hsf : ∀ b ∈ sf, w.heap.size + 1 < b ∧ b ≠ S ∧ b ≠ V := fun b hb => by have h1 := hsf b hb; have h2 := hsl b hb; omega
 replace hff : ∀ b ∈ ff, w.heap.size + 1 < b ∧ b ≠ S ∧ b ≠ V := fun b hb => by have h1 := hff b hb; have h2 := hflt b hb; omega
 replace hA0 := hA0.only ho1 (by omega)
 replace hB0 := hB0.only ho1 (by omega)
 replace hN0 := hN0.trans ho1
 clear hr0 ho1 hsl hflt
 have hX1 := (Box.new w1 [.slice a0 s.syms.length c0] 43).alloc (.cells #[.int .i64 f.kind, .int .i64 f.lit.atom.kind, .string f.lit.atom.a.name, .slice b3 f.lit.atom.a.kids.length d3, .string f.lit.atom.b.name, .slice b5 f.lit.atom.b.kids.length d5, .slice b6 f.lit.atom.nums.length d6, .slice b7 f.lit.atom.times.length d7, .int .i64 f.lit.atom.bound, .bool f.lit.atom.strict, .bool f.lit.no, .slice b11 f.kids.length d11] 33)
 have hX2 := Box.new (w1.alloc (.cells #[.slice a0 s.syms.length c0] 43)) [.int .i64 f.kind, .int .i64 f.lit.atom.kind, .string f.lit.atom.a.name, .slice b3 f.lit.atom.a.kids.length d3, .string f.lit.atom.b.name, .slice b5 f.lit.atom.b.kids.length d5, .slice b6 f.lit.atom.nums.length d6, .slice b7 f.lit.atom.times.length d7, .int .i64 f.lit.atom.bound, .bool f.lit.atom.strict, .bool f.lit.no, .slice b11 f.kids.length d11] 33
 rw [World.size_alloc] at hX2
 rw [← hS] at hX1 hX2
 rw [← hVS] at hX2
 go_upto_region 2 with fail
 rw [← hS]
 try rw [← hVS]
 have hba : Below w1.heap.size w1 ((w1.alloc (.cells #[.slice a0 s.syms.length c0] 43)).alloc (.cells #[.int .i64 f.kind, .int .i64 f.lit.atom.kind, .string f.lit.atom.a.name, .slice b3 f.lit.atom.a.kids.length d3, .string f.lit.atom.b.name, .slice b5 f.lit.atom.b.kids.length d5, .slice b6 f.lit.atom.nums.length d6, .slice b7 f.lit.atom.times.length d7, .int .i64 f.lit.atom.bound, .bool f.lit.atom.strict, .bool f.lit.no, .slice b11 f.kids.length d11] 33)) := ((Below.refl _ _).alloc (Nat.le_refl _) _).alloc (by simp) _
 replace hA0 := hA0.below hba
 replace hB0 := hB0.below hba
 replace hN0 := hN0.trans (Only.below hba)
 replace hr1 := hr1.below hba
 replace hrs := hrs.below hba
 replace hrf := hrf.below hba
 have hVlt : S < V := by omega
 clear hba hS hzB hz1 hVS
 generalize (w1.alloc (.cells #[.slice a0 s.syms.length c0] 43)).alloc (.cells #[.int .i64 f.kind, .int .i64 f.lit.atom.kind, .string f.lit.atom.a.name, .slice b3 f.lit.atom.a.kids.length d3, .string f.lit.atom.b.name, .slice b5 f.lit.atom.b.kids.length d5, .slice b6 f.lit.atom.nums.length d6, .slice b7 f.lit.atom.times.length d7, .int .i64 f.lit.atom.bound, .bool f.lit.atom.strict, .bool f.lit.no, .slice b11 f.kids.length d11] 33) = w2 at *
 go_wp2_with fail
 refine (zz rb (p + 700) 64 _ (by omega) (by omega) (by omega) hr1).mono ?_
 rintro e w3 ⟨⟨d, hd, rfl⟩, hr3, ho3⟩
 have hA3 := hA0.only ho3 (by omega)
 have hB3 := hB0.only ho3 (by omega)
 have hS3 := hX1.only ho3 (by omega)
 have hV3 := hX2.only ho3 (by omega)
 have hN3 := hN0.trans ho3
 have hrs3 := hrs.only ho3 hnr
 have hrf3 := hrf.only ho3 hnf
 clear hA0 hB0 hX1 hX2 hN0 hrs hrf ho3 hr1 hd
 by_cases nd0 : d = 0
 ·subst nd0
  go_wp2_with fail
  refine (zar 5 [0, 7, 1, 2, 3] [.int .i64 0, .int .i64 7, .int .i64 1, .int .i64 2, .int .i64 3] rfl rfl rb (p + 700 + 1) _ _ (by omega) (by simp) (by simp) (by exact Lst.new hr3.lt _ _) (hr3.below (za _ _))).mono ?_
  rintro e w4 ⟨⟨k, hk, rfl⟩, hRd0, ho4⟩
  have hk64 : I64 k := by simp at hk; unfold I64; omega
  have hbn := za w3 (.cells #[.int .i64 0, .int .i64 7, .int .i64 1, .int .i64 2, .int .i64 3] 3)
  have hA4 := (hA3.below hbn).only ho4 (by omega)
  have hB4 := (hB3.below hbn).only ho4 (by omega)
  have hS4 := (hS3.below hbn).only ho4 (by omega)
  have hV4 := (hV3.below hbn).only ho4 (by omega)
  have hN4 := (hN3.trans (Only.below hbn)).trans ho4
  have hrs4 := (hrs3.below hbn).only ho4 hnr
  have hrf4 := (hrf3.below hbn).only ho4 hnf
  clear hA3 hB3 hS3 hV3 hN3 hrs3 hrf3 hr3 hbn ho4 hk
  have k0 := hV4.2.1 0 _ rfl; have k1 := hV4.2.2 0
  go_upto_region 12 with fail
  have hA := hA4.sets_other (b := V) (by omega) [(0, .int .i64 k)]
  have hB := hB4.sets_other (b := V) (by omega) [(0, .int .i64 k)]
  have hXS := hS4.sets_other (b := V) (by omega) [(0, .int .i64 k)]
  have hXV : Box [.int .i64 k, .int .i64 f.lit.atom.kind, .string f.lit.atom.a.name, .slice b3 f.lit.atom.a.kids.length d3, .string f.lit.atom.b.name, .slice b5 f.lit.atom.b.kids.length d5, .slice b6 f.lit.atom.nums.length d6, .slice b7 f.lit.atom.times.length d7, .int .i64 f.lit.atom.bound, .bool f.lit.atom.strict, .bool f.lit.no, .slice b11 f.kids.length d11] V (w4.setCell ⟨V, 0, none⟩ (.int .i64 k)) := hV4.put (k := 0) (by simp) _
  have hN := Only.setsR (b := V) (by omega) [(0, .int .i64 k)] hN4
  have hRd := Rdr.sets (b := V) (by omega) [(0, .int .i64 k)] hRd0
  have hK9 := (Same2.refl V V w4).sets (b := V) (.inl rfl) [(0, .int .i64 k)]
  have hrs9 := hrs4.same2 hK9 (fun b hb => by have := hsf b hb; omega)
  have hrf9 := (fm_kind hrf4 hk64).same2 hK9 (fun b hb => by have := hff b hb; omega)
  have hsf9 := hsf; have hff9 := hff
  simp only [zi] at hA hB hXS hN hRd hrs9 hrf9
  clear hA4 hB4 hS4 hV4 hN4 hrs4 hrf4 hRd0 hK9 k0 k1
  generalize w4.setCell ⟨V, 0, none⟩ (.int .i64 k) = W at *
  have hs1 : s.syms.length ≤ 21 := by have := hfew.1; omega
  have hs2 : ∀ x ∈ s.syms, x.args.length ≤ 4 := fun x hx => by have := hfew.2 x hx; omega
  refine Till.start (F := (fun U : World => Box [.slice a0 s.syms.length c0] S U ∧ Box [.int .i64 k, .int .i64 f.lit.atom.kind, .string f.lit.atom.a.name, .slice b3 f.lit.atom.a.kids.length d3, .string f.lit.atom.b.name, .slice b5 f.lit.atom.b.kids.length d5, .slice b6 f.lit.atom.nums.length d6, .slice b7 f.lit.atom.times.length d7, .int .i64 f.lit.atom.bound, .bool f.lit.atom.strict, .bool f.lit.no, .slice b11 f.kids.length d11] V U)) (s0 := 3) (by kernel_rfl) ?_
  have hWd := zd W
  have hF : (fun U : World => Box [.slice a0 s.syms.length c0] S U ∧ Box [.int .i64 k, .int .i64 f.lit.atom.kind, .string f.lit.atom.a.name, .slice b3 f.lit.atom.a.kids.length d3, .string f.lit.atom.b.name, .slice b5 f.lit.atom.b.kids.length d5, .slice b6 f.lit.atom.nums.length d6, .slice b7 f.lit.atom.times.length d7, .int .i64 f.lit.atom.bound, .bool f.lit.atom.strict, .bool f.lit.no, .slice b11 f.kids.length d11] V U) W.drew := ⟨hXS.below hWd, hXV.below hWd⟩
  have hA' := hA.below hWd
  have hB' := hB.below hWd
  have hR' := hRd.below hWd
  have hN' := hN.trans (Only.below hWd)
  have Tab := zax [.slice a0 s.syms.length c0] [.int .i64 k, .int .i64 f.lit.atom.kind, .string f.lit.atom.a.name, .slice b3 f.lit.atom.a.kids.length d3, .string f.lit.atom.b.name, .slice b5 f.lit.atom.b.kids.length d5, .slice b6 f.lit.atom.nums.length d6, .slice b7 f.lit.atom.times.length d7, .int .i64 f.lit.atom.bound, .bool f.lit.atom.strict, .bool f.lit.no, .slice b11 f.kids.length d11] hA' hB' (by omega) rfl rfl
  have hK0 : Same2 w.heap.size (w.heap.size + 1) W W.drew := fun b hb _ _ => hWd.block b hb
  have hKs := hWd.size
  have hO5 := Only.setsR (b := w.heap.size + 1) (by omega) (zc 0 [.int .i64 k, .int .i64 f.lit.atom.kind, .string f.lit.atom.a.name, .slice b3 f.lit.atom.a.kids.length d3, .string f.lit.atom.b.name, .slice b5 f.lit.atom.b.kids.length d5, .slice b6 f.lit.atom.nums.length d6, .slice b7 f.lit.atom.times.length d7, .int .i64 f.lit.atom.bound, .bool f.lit.atom.strict, .bool f.lit.no, .slice b11 f.kids.length d11]) (Only.setsR (b := w.heap.size) (Nat.le_refl _) (zc 0 [.slice a0 s.syms.length c0]) hN')
  have hR9 := Rdr.sets (b := w.heap.size + 1) (by omega) (zc 0 [.int .i64 k, .int .i64 f.lit.atom.kind, .string f.lit.atom.a.name, .slice b3 f.lit.atom.a.kids.length d3, .string f.lit.atom.b.name, .slice b5 f.lit.atom.b.kids.length d5, .slice b6 f.lit.atom.nums.length d6, .slice b7 f.lit.atom.times.length d7, .int .i64 f.lit.atom.bound, .bool f.lit.atom.strict, .bool f.lit.no, .slice b11 f.kids.length d11]) (Rdr.sets (b := w.heap.size) (by omega) (zc 0 [.slice a0 s.syms.length c0]) hR')
  simp only [zc, zi, Nat.zero_add, Nat.reduceAdd] at Tab hO5 hR9
  clear hA hB hXS hXV hWd hRd hN hR' hN'
  generalize W.drew = W1 at *
  refine Till.take (i := 0) (v := (.agg #[.slice a0 s.syms.length c0])) rfl (by kernel_rfl) (by kernel_rfl) (by kernel_rfl) (fun _ _ _ h => h) (by kernel_rfl) (Or.inl ⟨by rfl, fun U hU => ?_⟩) hF ?_
  ·have u0 := hU.1.2.1 0 _ rfl; clear hU; go_simp
  try simp only [Act.put, zdK, zdL, zdM]
  refine Till.take (i := 1) (v := (.agg #[.int .i64 k, .int .i64 f.lit.atom.kind, .string f.lit.atom.a.name, .slice b3 f.lit.atom.a.kids.length d3, .string f.lit.atom.b.name, .slice b5 f.lit.atom.b.kids.length d5, .slice b6 f.lit.atom.nums.length d6, .slice b7 f.lit.atom.times.length d7, .int .i64 f.lit.atom.bound, .bool f.lit.atom.strict, .bool f.lit.no, .slice b11 f.kids.length d11])) rfl (by kernel_rfl) (by kernel_rfl) (by kernel_rfl) (fun _ _ _ h => h) (by kernel_rfl) (Or.inl ⟨by rfl, fun U hU => ?_⟩) hF ?_
  ·have u0 := hU.2.2.1 0 _ rfl; have u1 := hU.2.2.1 1 _ rfl; have u2 := hU.2.2.1 2 _ rfl; have u3 := hU.2.2.1 3 _ rfl; have u4 := hU.2.2.1 4 _ rfl; have u5 := hU.2.2.1 5 _ rfl; have u6 := hU.2.2.1 6 _ rfl; have u7 := hU.2.2.1 7 _ rfl; have u8 := hU.2.2.1 8 _ rfl; have u9 := hU.2.2.1 9 _ rfl; have u10 := hU.2.2.1 10 _ rfl; have u11 := hU.2.2.1 11 _ rfl; clear hU; go_simp
  try simp only [Act.put, zdK, zdL, zdM]
  refine Till.one (i := 2) (by kernel_rfl) rfl (fun K hK => ?_)
  have zc0 := hA'.2.1 0 _ rfl; have zf0 := hA'.2.2 0
  go_simp
  have hB2 := hB'.sets_other (b := w.heap.size) (by omega) [(0, .slice a0 s.syms.length c0)]
  have hF2 : (fun U : World => Box [.slice a0 s.syms.length c0] S U ∧ Box [.int .i64 k, .int .i64 f.lit.atom.kind, .string f.lit.atom.a.name, .slice b3 f.lit.atom.a.kids.length d3, .string f.lit.atom.b.name, .slice b5 f.lit.atom.b.kids.length d5, .slice b6 f.lit.atom.nums.length d6, .slice b7 f.lit.atom.times.length d7, .int .i64 f.lit.atom.bound, .bool f.lit.atom.strict, .bool f.lit.no, .slice b11 f.kids.length d11] V U) _ := ⟨hF.1.sets_other (b := w.heap.size) (by omega) [(0, .slice a0 s.syms.length c0)], hF.2.sets_other (b := w.heap.size) (by omega) [(0, .slice a0 s.syms.length c0)]⟩
  simp only [zi] at hB2 hF2
  refine hK.out _ _ (fun _ => hF2) ?_
  clear hK hF hF2 hA' hB' zc0 zf0
  try simp only [Act.put, zdK, zdL, zdM]
  refine Till.one (i := 3) (by kernel_rfl) rfl (fun K hK => ?_)
  have zc0 := hB2.2.1 0 _ rfl; have zf0 := hB2.2.2 0
  have zc1 := hB2.2.1 1 _ rfl; have zf1 := hB2.2.2 1
  have zc2 := hB2.2.1 2 _ rfl; have zf2 := hB2.2.2 2
  have zc3 := hB2.2.1 3 _ rfl; have zf3 := hB2.2.2 3
  have zc4 := hB2.2.1 4 _ rfl; have zf4 := hB2.2.2 4
  have zc5 := hB2.2.1 5 _ rfl; have zf5 := hB2.2.2 5
  have zc6 := hB2.2.1 6 _ rfl; have zf6 := hB2.2.2 6
  have zc7 := hB2.2.1 7 _ rfl; have zf7 := hB2.2.2 7
  have zc8 := hB2.2.1 8 _ rfl; have zf8 := hB2.2.2 8
  have zc9 := hB2.2.1 9 _ rfl; have zf9 := hB2.2.2 9
  have zc10 := hB2.2.1 10 _ rfl; have zf10 := hB2.2.2 10
  have zc11 := hB2.2.1 11 _ rfl; have zf11 := hB2.2.2 11
  go_simp
  refine hK.out _ _ (fun h => absurd h (by decide)) ?_
  clear hK hB2 zc0 zf0 zc1 zf1 zc2 zf2 zc3 zf3 zc4 zf4 zc5 zf5 zc6 zf6 zc7 zf7 zc8 zf8 zc9 zf9 zc10 zf10 zc11 zf11
  try simp only [Act.put, zdK, zdL, zdM]
  refine Till.done (by kernel_rfl) ?_ _
  obtain ⟨g1, g2, hK1⟩ := Tab
  have hK : Same2 w.heap.size (w.heap.size + 1) W _ := hK0.trans hK1 hKs
  have ra0 := g1.2.1 0 _ rfl
  have rx0 := g2.2.1 0 _ rfl
  have rx1 := g2.2.1 1 _ rfl
  have rx2 := g2.2.1 2 _ rfl
  have rx3 := g2.2.1 3 _ rfl
  have rx4 := g2.2.1 4 _ rfl
  have rx5 := g2.2.1 5 _ rfl
  have rx6 := g2.2.1 6 _ rfl
  have rx7 := g2.2.1 7 _ rfl
  have rx8 := g2.2.1 8 _ rfl
  have rx9 := g2.2.1 9 _ rfl
  have rx10 := g2.2.1 10 _ rfl
  have rx11 := g2.2.1 11 _ rfl
  clear g1 g2
  go_wp2_with fail
  refine bodyPost_ret (v := .tuple #[.agg #[.slice a0 s.syms.length c0], .agg #[.int .i64 k, .int .i64 f.lit.atom.kind, .string f.lit.atom.a.name, .slice b3 f.lit.atom.a.kids.length d3, .string f.lit.atom.b.name, .slice b5 f.lit.atom.b.kids.length d5, .slice b6 f.lit.atom.nums.length d6, .slice b7 f.lit.atom.times.length d7, .int .i64 f.lit.atom.bound, .bool f.lit.atom.strict, .bool f.lit.no, .slice b11 f.kids.length d11]]) (by simp [results, Tryz.results9, go_sem, ra0, rx0, rx1, rx2, rx3, rx4, rx5, rx6, rx7, rx8, rx9, rx10, rx11]) rfl ?_
  exact ⟨⟨s, Fm.mk k f.lit f.kids, _, _, _, _, _, _, _, _, _, _, _, _, _, _, ⟨hs1, hs2⟩, by rw [zbS]; omega, rfl, hrs9.same2 hK (fun b hb => by have := hsf9 b hb; omega), hrf9.same2 hK (fun b hb => by have := hff9 b hb; omega), fun b hb => by have := hsf9 b hb; omega, fun b hb => by have := hff9 b hb; omega⟩, hR9.mono (by omega), hO5⟩
 have e0 : ((d : Int) == 0) = false := by simpa using (by omega : ¬ ((d : Int) = 0))
 by_cases nd1 : d = 1
 ·subst nd1
  have q0 := hV3.2.1 0 _ rfl; have q1 := hV3.2.1 1 _ rfl; have q2 := hV3.2.1 2 _ rfl; have q3 := hV3.2.1 3 _ rfl; have q4 := hV3.2.1 4 _ rfl; have q5 := hV3.2.1 5 _ rfl; have q6 := hV3.2.1 6 _ rfl; have q7 := hV3.2.1 7 _ rfl; have q8 := hV3.2.1 8 _ rfl; have q9 := hV3.2.1 9 _ rfl; have q10 := hV3.2.1 10 _ rfl; have q11 := hV3.2.1 11 _ rfl
  go_upto_region 7 with fail
  obtain ⟨X, hX⟩ : ∃ X, X = w3.heap.size := ⟨_, rfl⟩
  have hXX := Box.new w3 [.int .i64 f.kind, .int .i64 f.lit.atom.kind, .string f.lit.atom.a.name, .slice b3 f.lit.atom.a.kids.length d3, .string f.lit.atom.b.name, .slice b5 f.lit.atom.b.kids.length d5, .slice b6 f.lit.atom.nums.length d6, .slice b7 f.lit.atom.times.length d7, .int .i64 f.lit.atom.bound, .bool f.lit.atom.strict, .bool f.lit.no, .slice b11 f.kids.length d11] 33
  rw [← hX] at hXX ⊢
  have hVX : V < X := by have := hV3.1; omega
  have hbn := za w3 (.cells #[.int .i64 f.kind, .int .i64 f.lit.atom.kind, .string f.lit.atom.a.name, .slice b3 f.lit.atom.a.kids.length d3, .string f.lit.atom.b.name, .slice b5 f.lit.atom.b.kids.length d5, .slice b6 f.lit.atom.nums.length d6, .slice b7 f.lit.atom.times.length d7, .int .i64 f.lit.atom.bound, .bool f.lit.atom.strict, .bool f.lit.no, .slice b11 f.kids.length d11] 33)
  replace hA3 := hA3.below hbn
  replace hB3 := hB3.below hbn
  replace hS3 := hS3.below hbn
  replace hV3 := hV3.below hbn
  replace hN3 := hN3.trans (Only.below hbn)
  replace hr3 := hr3.below hbn
  replace hrs3 := hrs3.below hbn
  replace hrf3 := hrf3.below hbn
  clear hbn hX q0 q1 q2 q3 q4 q5 q6 q7 q8 q9 q10 q11
  generalize w3.alloc (.cells #[.int .i64 f.kind, .int .i64 f.lit.atom.kind, .string f.lit.atom.a.name, .slice b3 f.lit.atom.a.kids.length d3, .string f.lit.atom.b.name, .slice b5 f.lit.atom.b.kids.length d5, .slice b6 f.lit.atom.nums.length d6, .slice b7 f.lit.atom.times.length d7, .int .i64 f.lit.atom.bound, .bool f.lit.atom.strict, .bool f.lit.no, .slice b11 f.kids.length d11] 33) = w4 at *
  refine Till.start (F := (fun U : World => Box [.int .i64 f.kind, .int .i64 f.lit.atom.kind, .string f.lit.atom.a.name, .slice b3 f.lit.atom.a.kids.length d3, .string f.lit.atom.b.name, .slice b5 f.lit.atom.b.kids.length d5, .slice b6 f.lit.atom.nums.length d6, .slice b7 f.lit.atom.times.length d7, .int .i64 f.lit.atom.bound, .bool f.lit.atom.strict, .bool f.lit.no, .slice b11 f.kids.length d11] X U)) (s0 := 8) (by kernel_rfl) ?_
  have hbd := zd w4
  have hF : (fun U : World => Box [.int .i64 f.kind, .int .i64 f.lit.atom.kind, .string f.lit.atom.a.name, .slice b3 f.lit.atom.a.kids.length d3, .string f.lit.atom.b.name, .slice b5 f.lit.atom.b.kids.length d5, .slice b6 f.lit.atom.nums.length d6, .slice b7 f.lit.atom.times.length d7, .int .i64 f.lit.atom.bound, .bool f.lit.atom.strict, .bool f.lit.no, .slice b11 f.kids.length d11] X U) w4.drew := hXX.below hbd
  have hA0 := hA3.below hbd
  have hB0 := hB3.below hbd
  have hXS0 := hS3.below hbd
  have hXV0 := hV3.below hbd
  have hN0 := hN3.trans (Only.below hbd)
  have hRd0 := hr3.below hbd
  have hrs0 := hrs3.below hbd
  have hrf0 := hrf3.below hbd
  clear hA3 hB3 hS3 hV3 hN3 hr3 hrs3 hrf3 hXX hbd
  generalize w4.drew = v0 at *
  have hfl := hrf0.lt
  obtain ⟨g11, hkr, hgs⟩ := fm_row hrf0
  have hgl := hkr.lt
  have hkl : f.kids.length ≤ 80000 := by have h1 := Fm.wt_eq f; have h2 : fcap 4 = 75030 := rfl; omega
  have hb : Below v0.heap.size v0 v0 := Below.refl _ _
  have hXz := hF.1
  refine Till.take (i := 1) (v := (.pointer (some ⟨X, 11, none⟩))) rfl (by kernel_rfl) (by kernel_rfl) (by kernel_rfl) (fun _ _ _ h => h) (by kernel_rfl) (Or.inl ⟨by rfl, fun U hU => ?_⟩) hF ?_
  ·clear hU; go_simp
  try simp only [Act.put, zdK, zdL, zdM]
  refine Till.take (i := 2) (v := (.slice b11 f.kids.length d11)) rfl (by kernel_rfl) (by kernel_rfl) (by kernel_rfl) (fun _ _ _ h => h) (by kernel_rfl) (Or.inl ⟨by rfl, fun U hU => ?_⟩) hF ?_
  ·have u11 := hU.2.1 11 _ rfl; clear hU; go_simp
  try simp only [Act.put, zdK, zdL, zdM]
  refine Till.take (i := 4) (v := (.agg #[.int .i64 f.kind, .int .i64 f.lit.atom.kind, .string f.lit.atom.a.name, .slice b3 f.lit.atom.a.kids.length d3, .string f.lit.atom.b.name, .slice b5 f.lit.atom.b.kids.length d5, .slice b6 f.lit.atom.nums.length d6, .slice b7 f.lit.atom.times.length d7, .int .i64 f.lit.atom.bound, .bool f.lit.atom.strict, .bool f.lit.no, .slice b11 f.kids.length d11])) rfl (by kernel_rfl) (by kernel_rfl) (by kernel_rfl) (fun _ _ _ h => h) (by kernel_rfl) (Or.inl ⟨by rfl, fun U hU => ?_⟩) hF ?_
  ·have u0 := hU.2.1 0 _ rfl; have u1 := hU.2.1 1 _ rfl; have u2 := hU.2.1 2 _ rfl; have u3 := hU.2.1 3 _ rfl; have u4 := hU.2.1 4 _ rfl; have u5 := hU.2.1 5 _ rfl; have u6 := hU.2.1 6 _ rfl; have u7 := hU.2.1 7 _ rfl; have u8 := hU.2.1 8 _ rfl; have u9 := hU.2.1 9 _ rfl; have u10 := hU.2.1 10 _ rfl; have u11 := hU.2.1 11 _ rfl; clear hU; go_simp
  try simp only [Act.put, zdK, zdL, zdM]
  refine Till.two (i := 0) (j := 5) (by kernel_rfl) rfl rfl (fun K hK => ?_) (fun K hK => ?_)
  ·skip
   go_simp
   obtain ⟨e0, he0⟩ : ∃ e0, e0 = v0.heap.size := ⟨_, rfl⟩
   have hE := Own.empty v0 v0.heap.size 33 12 (Nat.le_refl _)
   rw [← he0] at hE ⊢
   have hez : v0.heap.size ≤ e0 := by have := hb.size; omega
   have hbn := za v0 (.cells #[] 33)
   replace hb := hb.alloc hb.size (.cells #[] 33)
   replace hF : (fun U : World => Box [.int .i64 f.kind, .int .i64 f.lit.atom.kind, .string f.lit.atom.a.name, .slice b3 f.lit.atom.a.kids.length d3, .string f.lit.atom.b.name, .slice b5 f.lit.atom.b.kids.length d5, .slice b6 f.lit.atom.nums.length d6, .slice b7 f.lit.atom.times.length d7, .int .i64 f.lit.atom.bound, .bool f.lit.atom.strict, .bool f.lit.no, .slice b11 f.kids.length d11] X U) _ := hF.alloc (.cells #[] 33)
   clear hbn
   have hes : e0 < (v0.alloc (.cells #[] 33)).heap.size := by rw [World.size_alloc]; omega
   clear he0
   generalize v0.alloc (.cells #[] 33) = v1 at *
   refine hK.out _ _ (fun _ => hF) ?_
   clear hK
   try simp only [Act.put, zdK, zdL, zdM]
   refine Till.two (i := 3) (j := 5) (by kernel_rfl) rfl rfl (fun K hK => ?_) (fun K hK => ?_)
   ·skip
    have hsz2 := hb.size
    refine zaf zag rfl _ _ rfl e0 _ [] [] rfl (by exact hE) (f.kids.map Fm.cd) (.slice b11 f.kids.length d11) g11 rfl (hkr.below hb) (by simp only [List.mem_map]; rintro e ⟨t, _, rfl⟩; exact t.cd_len) (fun b hm e => by have := hgl b hm; have e2 : e0 = b := Option.some.inj e; omega) (by simp; omega) (by simp; omega) (by omega) ?_
    intro rv3 v2 nf3 hnf3 hE3 hg3 hv3
    clear hE
    have hE := hE3
    clear hE3
    have hgn : ∀ q, (Value.slice (some ⟨e0, 0, none⟩) 0 0).ownBlock = some q → q = e0 := fun q hq => (Option.some.inj hq).symm
    replace hb := zk hb hg3 hb.size (fun q hq => by have := hgn q hq; omega)
    replace hF : (fun U : World => Box [.int .i64 f.kind, .int .i64 f.lit.atom.kind, .string f.lit.atom.a.name, .slice b3 f.lit.atom.a.kids.length d3, .string f.lit.atom.b.name, .slice b5 f.lit.atom.b.kids.length d5, .slice b6 f.lit.atom.nums.length d6, .slice b7 f.lit.atom.times.length d7, .int .i64 f.lit.atom.bound, .bool f.lit.atom.strict, .bool f.lit.no, .slice b11 f.kids.length d11] X U) _ := hF.grownB hg3 (fun q hq => by have := hgn q hq; omega)
    replace hes : e0 < v2.heap.size := zdQ hes hg3.size
    have h3n : ∀ b ∈ ff, rv3.ownBlock ≠ some b := fun b hm e => by
     rcases hv3 b e with h | h
     ·have := hgn b h; have := hfl b hm; omega
     ·have := hfl b hm; have := hb.size; omega
    obtain ⟨x3, y3, z3, rfl⟩ := hE.form'
    clear hg3 hv3 hgn
    refine hK.out _ _ (fun _ => hF) ?_
    clear hK
    try simp only [Act.put, zdK, zdL, zdM]
    refine Till.one (i := 5) (by kernel_rfl) rfl (fun K hK => ?_)
    go_simp
    obtain ⟨cb, hcb⟩ : ∃ cb, cb = v2.heap.size := ⟨_, rfl⟩
    have hcl := zj v2 [.int .i64 f.kind, .int .i64 f.lit.atom.kind, .string f.lit.atom.a.name, .slice b3 f.lit.atom.a.kids.length d3, .string f.lit.atom.b.name, .slice b5 f.lit.atom.b.kids.length d5, .slice b6 f.lit.atom.nums.length d6, .slice b7 f.lit.atom.times.length d7, .int .i64 f.lit.atom.bound, .bool f.lit.atom.strict, .bool f.lit.no, .slice b11 f.kids.length d11] 33
    rw [← hcb] at hcl ⊢
    have hcz : v0.heap.size ≤ cb := by have := hb.size; omega
    have hbn := za v2 (.cells #[.int .i64 f.kind, .int .i64 f.lit.atom.kind, .string f.lit.atom.a.name, .slice b3 f.lit.atom.a.kids.length d3, .string f.lit.atom.b.name, .slice b5 f.lit.atom.b.kids.length d5, .slice b6 f.lit.atom.nums.length d6, .slice b7 f.lit.atom.times.length d7, .int .i64 f.lit.atom.bound, .bool f.lit.atom.strict, .bool f.lit.no, .slice b11 f.kids.length d11] 33)
    replace hE := hE.below hbn
    have hce : e0 < cb := by omega
    replace hes : e0 < (v2.alloc (.cells #[.int .i64 f.kind, .int .i64 f.lit.atom.kind, .string f.lit.atom.a.name, .slice b3 f.lit.atom.a.kids.length d3, .string f.lit.atom.b.name, .slice b5 f.lit.atom.b.kids.length d5, .slice b6 f.lit.atom.nums.length d6, .slice b7 f.lit.atom.times.length d7, .int .i64 f.lit.atom.bound, .bool f.lit.atom.strict, .bool f.lit.no, .slice b11 f.kids.length d11] 33)).heap.size := by rw [World.size_alloc]; omega
    replace hb := hb.alloc hb.size (.cells #[.int .i64 f.kind, .int .i64 f.lit.atom.kind, .string f.lit.atom.a.name, .slice b3 f.lit.atom.a.kids.length d3, .string f.lit.atom.b.name, .slice b5 f.lit.atom.b.kids.length d5, .slice b6 f.lit.atom.nums.length d6, .slice b7 f.lit.atom.times.length d7, .int .i64 f.lit.atom.bound, .bool f.lit.atom.strict, .bool f.lit.no, .slice b11 f.kids.length d11] 33)
    replace hF : (fun U : World => Box [.int .i64 f.kind, .int .i64 f.lit.atom.kind, .string f.lit.atom.a.name, .slice b3 f.lit.atom.a.kids.length d3, .string f.lit.atom.b.name, .slice b5 f.lit.atom.b.kids.length d5, .slice b6 f.lit.atom.nums.length d6, .slice b7 f.lit.atom.times.length d7, .int .i64 f.lit.atom.bound, .bool f.lit.atom.strict, .bool f.lit.no, .slice b11 f.kids.length d11] X U) _ := hF.alloc (.cells #[.int .i64 f.kind, .int .i64 f.lit.atom.kind, .string f.lit.atom.a.name, .slice b3 f.lit.atom.a.kids.length d3, .string f.lit.atom.b.name, .slice b5 f.lit.atom.b.kids.length d5, .slice b6 f.lit.atom.nums.length d6, .slice b7 f.lit.atom.times.length d7, .int .i64 f.lit.atom.bound, .bool f.lit.atom.strict, .bool f.lit.no, .slice b11 f.kids.length d11] 33)
    clear hbn
    have hcs : cb < (v2.alloc (.cells #[.int .i64 f.kind, .int .i64 f.lit.atom.kind, .string f.lit.atom.a.name, .slice b3 f.lit.atom.a.kids.length d3, .string f.lit.atom.b.name, .slice b5 f.lit.atom.b.kids.length d5, .slice b6 f.lit.atom.nums.length d6, .slice b7 f.lit.atom.times.length d7, .int .i64 f.lit.atom.bound, .bool f.lit.atom.strict, .bool f.lit.no, .slice b11 f.kids.length d11] 33)).heap.size := by rw [World.size_alloc]; omega
    clear hcb
    generalize v2.alloc (.cells #[.int .i64 f.kind, .int .i64 f.lit.atom.kind, .string f.lit.atom.a.name, .slice b3 f.lit.atom.a.kids.length d3, .string f.lit.atom.b.name, .slice b5 f.lit.atom.b.kids.length d5, .slice b6 f.lit.atom.nums.length d6, .slice b7 f.lit.atom.times.length d7, .int .i64 f.lit.atom.bound, .bool f.lit.atom.strict, .bool f.lit.no, .slice b11 f.kids.length d11] 33) = v3 at *
    refine hK.out _ _ (fun _ => hF) ?_
    clear hK
    try simp only [Act.put, zdK, zdL, zdM]
    refine Till.one (i := 6) (by kernel_rfl) rfl (fun K hK => ?_)
    have hsz4 := hb.size
    refine zE zag rfl _ _ rfl e0 _ _ _ rfl (by exact hE) ⟨cb, 0, none⟩ 1 1 [f.cd] [.int .i64 f.kind, .int .i64 f.lit.atom.kind, .string f.lit.atom.a.name, .slice b3 f.lit.atom.a.kids.length d3, .string f.lit.atom.b.name, .slice b5 f.lit.atom.b.kids.length d5, .slice b6 f.lit.atom.nums.length d6, .slice b7 f.lit.atom.times.length d7, .int .i64 f.lit.atom.bound, .bool f.lit.atom.strict, .bool f.lit.no, .slice b11 f.kids.length d11] ff rfl rfl (by simpa using hrf0.below hb) (by simp [Fm.cd_len]) (fun j u h => by rw [Addr.add_lit]; simpa using hcl j u h) h3n (by simp; omega) (by simp; omega) (by omega) ?_
    intro rv6 v4 hE6 hg6 hv6 hs6
    have hrow : ∀ q, (Value.slice x3 y3 z3).ownBlock = some q → e0 ≤ q := fun q hq => (hE.block hq).1
    replace hb := zk hb hg6 hb.size (fun q hq => by have := hrow q hq; omega)
    replace hF : (fun U : World => Box [.int .i64 f.kind, .int .i64 f.lit.atom.kind, .string f.lit.atom.a.name, .slice b3 f.lit.atom.a.kids.length d3, .string f.lit.atom.b.name, .slice b5 f.lit.atom.b.kids.length d5, .slice b6 f.lit.atom.nums.length d6, .slice b7 f.lit.atom.times.length d7, .int .i64 f.lit.atom.bound, .bool f.lit.atom.strict, .bool f.lit.no, .slice b11 f.kids.length d11] X U) _ := hF.grownB hg6 (fun q hq => by have := hrow q hq; omega)
    obtain ⟨fz, hz6, hq6⟩ := hE6.rd
    have hfz : ∀ b ∈ fz, b ∈ g11 ∨ b ∈ ff ∨ v0.heap.size ≤ b := fun b hm => by
     rcases hq6 with ⟨_, _, rfl⟩ | ⟨b', _, _, rfl, _, h2, _⟩
     ·simp at hm
     ·rcases zdW.1 hm with rfl | hm
      ·exact .inr (.inr (by omega))
      ·rcases zdS.1 hm with h | h
       ·exact .inl (hnf3 b (by simpa using h))
       ·exact .inr (.inl h)
    obtain ⟨ks, hks⟩ : ∃ ks, ks = f.kids ++ [f] := ⟨_, rfl⟩
    have hz7 : Rd v4 (.sl (ks.map Fm.cd)) rv6 fz := by rw [hks]; simpa using hz6
    have HKS := Lib.hid hks
    clear hks
    obtain ⟨x6, z6, rfl, _, _⟩ := ze hz7
    clear hE6 hg6 hv6 hs6 hrow hE hz6 h3n hcl hq6 hnf3
    refine hK.out _ _ (fun _ => hF) ?_
    clear hK
    try simp only [Act.put, zdK, zdL, zdM]
    refine Till.one (i := 7) (by kernel_rfl) rfl (fun K hK => ?_)
    go_simp
    refine hK.out _ _ (fun _ => hF) ?_
    clear hK
    try simp only [Act.put, zdK, zdL, zdM]
    refine Till.one (i := 8) (by kernel_rfl) rfl (fun K hK => ?_)
    have hXVw := hXV0.below hb
    have k0 := hXVw.2.1 11 _ rfl; have k1 := hXVw.2.2 11
    go_simp
    clear k0 k1
    refine hK.out _ _ (fun h => absurd h (by decide)) ?_
    clear hK
    try simp only [Act.put, zdK, zdL, zdM]
    refine Till.done (by kernel_rfl) ?_ _
    have hXVw := hXV0.below hb
    have hA := (hA0.below hb).sets_other (b := V) (by omega) [(11, .slice x6 ks.length z6)]
    have hB := (hB0.below hb).sets_other (b := V) (by omega) [(11, .slice x6 ks.length z6)]
    have hXS := (hXS0.below hb).sets_other (b := V) (by omega) [(11, .slice x6 ks.length z6)]
    have hXV : Box [.int .i64 f.kind, .int .i64 f.lit.atom.kind, .string f.lit.atom.a.name, .slice b3 f.lit.atom.a.kids.length d3, .string f.lit.atom.b.name, .slice b5 f.lit.atom.b.kids.length d5, .slice b6 f.lit.atom.nums.length d6, .slice b7 f.lit.atom.times.length d7, .int .i64 f.lit.atom.bound, .bool f.lit.atom.strict, .bool f.lit.no, .slice x6 ks.length z6] V (v4.setCell ⟨V, 11, none⟩ (.slice x6 ks.length z6)) := hXVw.put (k := 11) (by simp) _
    have hN := Only.setsR (b := V) (by omega) [(11, .slice x6 ks.length z6)] (hN0.trans (Only.below hb))
    have hRd := Rdr.sets (b := V) (by omega) [(11, .slice x6 ks.length z6)] (hRd0.below hb)
    have hK9 := (Same2.refl V V v4).sets (b := V) (.inl rfl) [(11, .slice x6 ks.length z6)]
    obtain ⟨ff9, hrf8, hf9⟩ := zb5 (hrf0.below hb) hz7
    have hff9 : ∀ b ∈ ff9, w.heap.size + 1 < b ∧ b ≠ S ∧ b ≠ V := fun b hm => by
     rcases hf9 b hm with h | h
     ·exact hff b h
     ·rcases hfz b h with h | h | h
      ·exact hff b (hgs b h)
      ·exact hff b h
      ·omega
    have hrs9 := (hrs0.below hb).same2 hK9 (fun b hm => by have := hsf b hm; omega)
    have hrf9 := hrf8.same2 hK9 (fun b hm => by have := hff9 b hm; omega)
    have hsf9 := hsf
    simp only [zi] at hA hB hXS hN hRd hrs9 hrf9
    clear hF hXVw hb hA0 hB0 hXS0 hXV0 hN0 hRd0 hrf0 hrs0 hz7 hfz hrf8 hf9 hK9 hkr
    go_upto_region 12 with fail
    generalize v4.setCell ⟨V, 11, none⟩ (.slice x6 ks.length z6) = W at *
    have hs1 : s.syms.length ≤ 21 := by have := hfew.1; omega
    have hs2 : ∀ x ∈ s.syms, x.args.length ≤ 4 := fun x hx => by have := hfew.2 x hx; omega
    refine Till.start (F := (fun U : World => Box [.slice a0 s.syms.length c0] S U ∧ Box [.int .i64 f.kind, .int .i64 f.lit.atom.kind, .string f.lit.atom.a.name, .slice b3 f.lit.atom.a.kids.length d3, .string f.lit.atom.b.name, .slice b5 f.lit.atom.b.kids.length d5, .slice b6 f.lit.atom.nums.length d6, .slice b7 f.lit.atom.times.length d7, .int .i64 f.lit.atom.bound, .bool f.lit.atom.strict, .bool f.lit.no, .slice x6 ks.length z6] V U)) (s0 := 3) (by kernel_rfl) ?_
    have hWd := zd W
    have hF : (fun U : World => Box [.slice a0 s.syms.length c0] S U ∧ Box [.int .i64 f.kind, .int .i64 f.lit.atom.kind, .string f.lit.atom.a.name, .slice b3 f.lit.atom.a.kids.length d3, .string f.lit.atom.b.name, .slice b5 f.lit.atom.b.kids.length d5, .slice b6 f.lit.atom.nums.length d6, .slice b7 f.lit.atom.times.length d7, .int .i64 f.lit.atom.bound, .bool f.lit.atom.strict, .bool f.lit.no, .slice x6 ks.length z6] V U) W.drew := ⟨hXS.below hWd, hXV.below hWd⟩
    have hA' := hA.below hWd
    have hB' := hB.below hWd
    have hR' := hRd.below hWd
    have hN' := hN.trans (Only.below hWd)
    have Tab := zax [.slice a0 s.syms.length c0] [.int .i64 f.kind, .int .i64 f.lit.atom.kind, .string f.lit.atom.a.name, .slice b3 f.lit.atom.a.kids.length d3, .string f.lit.atom.b.name, .slice b5 f.lit.atom.b.kids.length d5, .slice b6 f.lit.atom.nums.length d6, .slice b7 f.lit.atom.times.length d7, .int .i64 f.lit.atom.bound, .bool f.lit.atom.strict, .bool f.lit.no, .slice x6 ks.length z6] hA' hB' (by omega) rfl rfl
    have hK0 : Same2 w.heap.size (w.heap.size + 1) W W.drew := fun b hb _ _ => hWd.block b hb
    have hKs := hWd.size
    have hO5 := Only.setsR (b := w.heap.size + 1) (by omega) (zc 0 [.int .i64 f.kind, .int .i64 f.lit.atom.kind, .string f.lit.atom.a.name, .slice b3 f.lit.atom.a.kids.length d3, .string f.lit.atom.b.name, .slice b5 f.lit.atom.b.kids.length d5, .slice b6 f.lit.atom.nums.length d6, .slice b7 f.lit.atom.times.length d7, .int .i64 f.lit.atom.bound, .bool f.lit.atom.strict, .bool f.lit.no, .slice x6 ks.length z6]) (Only.setsR (b := w.heap.size) (Nat.le_refl _) (zc 0 [.slice a0 s.syms.length c0]) hN')
    have hR9 := Rdr.sets (b := w.heap.size + 1) (by omega) (zc 0 [.int .i64 f.kind, .int .i64 f.lit.atom.kind, .string f.lit.atom.a.name, .slice b3 f.lit.atom.a.kids.length d3, .string f.lit.atom.b.name, .slice b5 f.lit.atom.b.kids.length d5, .slice b6 f.lit.atom.nums.length d6, .slice b7 f.lit.atom.times.length d7, .int .i64 f.lit.atom.bound, .bool f.lit.atom.strict, .bool f.lit.no, .slice x6 ks.length z6]) (Rdr.sets (b := w.heap.size) (by omega) (zc 0 [.slice a0 s.syms.length c0]) hR')
    simp only [zc, zi, Nat.zero_add, Nat.reduceAdd] at Tab hO5 hR9
    clear hA hB hXS hXV hWd hRd hN hR' hN'
    generalize W.drew = W1 at *
    refine Till.take (i := 0) (v := (.agg #[.slice a0 s.syms.length c0])) rfl (by kernel_rfl) (by kernel_rfl) (by kernel_rfl) (fun _ _ _ h => h) (by kernel_rfl) (Or.inl ⟨by rfl, fun U hU => ?_⟩) hF ?_
    ·have u0 := hU.1.2.1 0 _ rfl; clear hU; go_simp
    try simp only [Act.put, zdK, zdL, zdM]
    refine Till.take (i := 1) (v := (.agg #[.int .i64 f.kind, .int .i64 f.lit.atom.kind, .string f.lit.atom.a.name, .slice b3 f.lit.atom.a.kids.length d3, .string f.lit.atom.b.name, .slice b5 f.lit.atom.b.kids.length d5, .slice b6 f.lit.atom.nums.length d6, .slice b7 f.lit.atom.times.length d7, .int .i64 f.lit.atom.bound, .bool f.lit.atom.strict, .bool f.lit.no, .slice x6 ks.length z6])) rfl (by kernel_rfl) (by kernel_rfl) (by kernel_rfl) (fun _ _ _ h => h) (by kernel_rfl) (Or.inl ⟨by rfl, fun U hU => ?_⟩) hF ?_
    ·have u0 := hU.2.2.1 0 _ rfl; have u1 := hU.2.2.1 1 _ rfl; have u2 := hU.2.2.1 2 _ rfl; have u3 := hU.2.2.1 3 _ rfl; have u4 := hU.2.2.1 4 _ rfl; have u5 := hU.2.2.1 5 _ rfl; have u6 := hU.2.2.1 6 _ rfl; have u7 := hU.2.2.1 7 _ rfl; have u8 := hU.2.2.1 8 _ rfl; have u9 := hU.2.2.1 9 _ rfl; have u10 := hU.2.2.1 10 _ rfl; have u11 := hU.2.2.1 11 _ rfl; clear hU; go_simp
    try simp only [Act.put, zdK, zdL, zdM]
    refine Till.one (i := 2) (by kernel_rfl) rfl (fun K hK => ?_)
    have zc0 := hA'.2.1 0 _ rfl; have zf0 := hA'.2.2 0
    go_simp
    have hB2 := hB'.sets_other (b := w.heap.size) (by omega) [(0, .slice a0 s.syms.length c0)]
    have hF2 : (fun U : World => Box [.slice a0 s.syms.length c0] S U ∧ Box [.int .i64 f.kind, .int .i64 f.lit.atom.kind, .string f.lit.atom.a.name, .slice b3 f.lit.atom.a.kids.length d3, .string f.lit.atom.b.name, .slice b5 f.lit.atom.b.kids.length d5, .slice b6 f.lit.atom.nums.length d6, .slice b7 f.lit.atom.times.length d7, .int .i64 f.lit.atom.bound, .bool f.lit.atom.strict, .bool f.lit.no, .slice x6 ks.length z6] V U) _ := ⟨hF.1.sets_other (b := w.heap.size) (by omega) [(0, .slice a0 s.syms.length c0)], hF.2.sets_other (b := w.heap.size) (by omega) [(0, .slice a0 s.syms.length c0)]⟩
    simp only [zi] at hB2 hF2
    refine hK.out _ _ (fun _ => hF2) ?_
    clear hK hF hF2 hA' hB' zc0 zf0
    try simp only [Act.put, zdK, zdL, zdM]
    refine Till.one (i := 3) (by kernel_rfl) rfl (fun K hK => ?_)
    have zc0 := hB2.2.1 0 _ rfl; have zf0 := hB2.2.2 0
    have zc1 := hB2.2.1 1 _ rfl; have zf1 := hB2.2.2 1
    have zc2 := hB2.2.1 2 _ rfl; have zf2 := hB2.2.2 2
    have zc3 := hB2.2.1 3 _ rfl; have zf3 := hB2.2.2 3
    have zc4 := hB2.2.1 4 _ rfl; have zf4 := hB2.2.2 4
    have zc5 := hB2.2.1 5 _ rfl; have zf5 := hB2.2.2 5
    have zc6 := hB2.2.1 6 _ rfl; have zf6 := hB2.2.2 6
    have zc7 := hB2.2.1 7 _ rfl; have zf7 := hB2.2.2 7
    have zc8 := hB2.2.1 8 _ rfl; have zf8 := hB2.2.2 8
    have zc9 := hB2.2.1 9 _ rfl; have zf9 := hB2.2.2 9
    have zc10 := hB2.2.1 10 _ rfl; have zf10 := hB2.2.2 10
    have zc11 := hB2.2.1 11 _ rfl; have zf11 := hB2.2.2 11
    go_simp
    refine hK.out _ _ (fun h => absurd h (by decide)) ?_
    clear hK hB2 zc0 zf0 zc1 zf1 zc2 zf2 zc3 zf3 zc4 zf4 zc5 zf5 zc6 zf6 zc7 zf7 zc8 zf8 zc9 zf9 zc10 zf10 zc11 zf11
    try simp only [Act.put, zdK, zdL, zdM]
    refine Till.done (by kernel_rfl) ?_ _
    obtain ⟨g1, g2, hK1⟩ := Tab
    have hK : Same2 w.heap.size (w.heap.size + 1) W _ := hK0.trans hK1 hKs
    have ra0 := g1.2.1 0 _ rfl
    have rx0 := g2.2.1 0 _ rfl
    have rx1 := g2.2.1 1 _ rfl
    have rx2 := g2.2.1 2 _ rfl
    have rx3 := g2.2.1 3 _ rfl
    have rx4 := g2.2.1 4 _ rfl
    have rx5 := g2.2.1 5 _ rfl
    have rx6 := g2.2.1 6 _ rfl
    have rx7 := g2.2.1 7 _ rfl
    have rx8 := g2.2.1 8 _ rfl
    have rx9 := g2.2.1 9 _ rfl
    have rx10 := g2.2.1 10 _ rfl
    have rx11 := g2.2.1 11 _ rfl
    clear g1 g2
    go_wp2_with fail
    refine bodyPost_ret (v := .tuple #[.agg #[.slice a0 s.syms.length c0], .agg #[.int .i64 f.kind, .int .i64 f.lit.atom.kind, .string f.lit.atom.a.name, .slice b3 f.lit.atom.a.kids.length d3, .string f.lit.atom.b.name, .slice b5 f.lit.atom.b.kids.length d5, .slice b6 f.lit.atom.nums.length d6, .slice b7 f.lit.atom.times.length d7, .int .i64 f.lit.atom.bound, .bool f.lit.atom.strict, .bool f.lit.no, .slice x6 ks.length z6]]) (by simp [results, Tryz.results9, go_sem, ra0, rx0, rx1, rx2, rx3, rx4, rx5, rx6, rx7, rx8, rx9, rx10, rx11]) rfl ?_
    exact ⟨⟨s, Fm.mk f.kind f.lit ks, _, _, _, _, _, _, _, _, _, _, _, _, _, _, ⟨hs1, hs2⟩, by rw [HKS.out, za4]; omega, rfl, hrs9.same2 hK (fun b hb => by have := hsf9 b hb; omega), hrf9.same2 hK (fun b hb => by have := hff9 b hb; omega), fun b hb => by have := hsf9 b hb; omega, fun b hb => by have := hff9 b hb; omega⟩, hR9.mono (by omega), hO5⟩
   ·skip
    go_simp
    obtain ⟨cb, hcb⟩ : ∃ cb, cb = v1.heap.size := ⟨_, rfl⟩
    have hcl := zj v1 [.int .i64 f.kind, .int .i64 f.lit.atom.kind, .string f.lit.atom.a.name, .slice b3 f.lit.atom.a.kids.length d3, .string f.lit.atom.b.name, .slice b5 f.lit.atom.b.kids.length d5, .slice b6 f.lit.atom.nums.length d6, .slice b7 f.lit.atom.times.length d7, .int .i64 f.lit.atom.bound, .bool f.lit.atom.strict, .bool f.lit.no, .slice b11 f.kids.length d11] 33
    rw [← hcb] at hcl ⊢
    have hcz : v0.heap.size ≤ cb := by have := hb.size; omega
    have hbn := za v1 (.cells #[.int .i64 f.kind, .int .i64 f.lit.atom.kind, .string f.lit.atom.a.name, .slice b3 f.lit.atom.a.kids.length d3, .string f.lit.atom.b.name, .slice b5 f.lit.atom.b.kids.length d5, .slice b6 f.lit.atom.nums.length d6, .slice b7 f.lit.atom.times.length d7, .int .i64 f.lit.atom.bound, .bool f.lit.atom.strict, .bool f.lit.no, .slice b11 f.kids.length d11] 33)
    replace hE := hE.below hbn
    have hce : e0 < cb := by omega
    replace hes : e0 < (v1.alloc (.cells #[.int .i64 f.kind, .int .i64 f.lit.atom.kind, .string f.lit.atom.a.name, .slice b3 f.lit.atom.a.kids.length d3, .string f.lit.atom.b.name, .slice b5 f.lit.atom.b.kids.length d5, .slice b6 f.lit.atom.nums.length d6, .slice b7 f.lit.atom.times.length d7, .int .i64 f.lit.atom.bound, .bool f.lit.atom.strict, .bool f.lit.no, .slice b11 f.kids.length d11] 33)).heap.size := by rw [World.size_alloc]; omega
    replace hb := hb.alloc hb.size (.cells #[.int .i64 f.kind, .int .i64 f.lit.atom.kind, .string f.lit.atom.a.name, .slice b3 f.lit.atom.a.kids.length d3, .string f.lit.atom.b.name, .slice b5 f.lit.atom.b.kids.length d5, .slice b6 f.lit.atom.nums.length d6, .slice b7 f.lit.atom.times.length d7, .int .i64 f.lit.atom.bound, .bool f.lit.atom.strict, .bool f.lit.no, .slice b11 f.kids.length d11] 33)
    replace hF : (fun U : World => Box [.int .i64 f.kind, .int .i64 f.lit.atom.kind, .string f.lit.atom.a.name, .slice b3 f.lit.atom.a.kids.length d3, .string f.lit.atom.b.name, .slice b5 f.lit.atom.b.kids.length d5, .slice b6 f.lit.atom.nums.length d6, .slice b7 f.lit.atom.times.length d7, .int .i64 f.lit.atom.bound, .bool f.lit.atom.strict, .bool f.lit.no, .slice b11 f.kids.length d11] X U) _ := hF.alloc (.cells #[.int .i64 f.kind, .int .i64 f.lit.atom.kind, .string f.lit.atom.a.name, .slice b3 f.lit.atom.a.kids.length d3, .string f.lit.atom.b.name, .slice b5 f.lit.atom.b.kids.length d5, .slice b6 f.lit.atom.nums.length d6, .slice b7 f.lit.atom.times.length d7, .int .i64 f.lit.atom.bound, .bool f.lit.atom.strict, .bool f.lit.no, .slice b11 f.kids.length d11] 33)
    clear hbn
    have hcs : cb < (v1.alloc (.cells #[.int .i64 f.kind, .int .i64 f.lit.atom.kind, .string f.lit.atom.a.name, .slice b3 f.lit.atom.a.kids.length d3, .string f.lit.atom.b.name, .slice b5 f.lit.atom.b.kids.length d5, .slice b6 f.lit.atom.nums.length d6, .slice b7 f.lit.atom.times.length d7, .int .i64 f.lit.atom.bound, .bool f.lit.atom.strict, .bool f.lit.no, .slice b11 f.kids.length d11] 33)).heap.size := by rw [World.size_alloc]; omega
    clear hcb
    generalize v1.alloc (.cells #[.int .i64 f.kind, .int .i64 f.lit.atom.kind, .string f.lit.atom.a.name, .slice b3 f.lit.atom.a.kids.length d3, .string f.lit.atom.b.name, .slice b5 f.lit.atom.b.kids.length d5, .slice b6 f.lit.atom.nums.length d6, .slice b7 f.lit.atom.times.length d7, .int .i64 f.lit.atom.bound, .bool f.lit.atom.strict, .bool f.lit.no, .slice b11 f.kids.length d11] 33) = v2 at *
    refine hK.out _ _ (fun _ => hF) ?_
    clear hK
    try simp only [Act.put, zdK, zdL, zdM]
    refine Till.one (i := 3) (by kernel_rfl) rfl (fun K hK => ?_)
    have hsz3 := hb.size
    refine zaf zag rfl _ _ rfl e0 _ [] [] rfl (by exact hE) (f.kids.map Fm.cd) (.slice b11 f.kids.length d11) g11 rfl (hkr.below hb) (by simp only [List.mem_map]; rintro e ⟨t, _, rfl⟩; exact t.cd_len) (fun b hm e => by have := hgl b hm; have e2 : e0 = b := Option.some.inj e; omega) (by simp; omega) (by simp; omega) (by omega) ?_
    intro rv3 v3 nf3 hnf3 hE3 hg3 hv3
    clear hE
    have hE := hE3
    clear hE3
    have hgn : ∀ q, (Value.slice (some ⟨e0, 0, none⟩) 0 0).ownBlock = some q → q = e0 := fun q hq => (Option.some.inj hq).symm
    replace hb := zk hb hg3 hb.size (fun q hq => by have := hgn q hq; omega)
    replace hF : (fun U : World => Box [.int .i64 f.kind, .int .i64 f.lit.atom.kind, .string f.lit.atom.a.name, .slice b3 f.lit.atom.a.kids.length d3, .string f.lit.atom.b.name, .slice b5 f.lit.atom.b.kids.length d5, .slice b6 f.lit.atom.nums.length d6, .slice b7 f.lit.atom.times.length d7, .int .i64 f.lit.atom.bound, .bool f.lit.atom.strict, .bool f.lit.no, .slice b11 f.kids.length d11] X U) _ := hF.grownB hg3 (fun q hq => by have := hgn q hq; omega)
    replace hcl := fun j u h => zg hg3 (hcl j u h) (fun e => by have := hgn _ e; omega)
    replace hcs : cb < v3.heap.size := zdQ hcs hg3.size
    replace hes : e0 < v3.heap.size := zdQ hes hg3.size
    have h3n : ∀ b ∈ ff, rv3.ownBlock ≠ some b := fun b hm e => by
     rcases hv3 b e with h | h
     ·have := hgn b h; have := hfl b hm; omega
     ·have := hfl b hm; have := hb.size; omega
    obtain ⟨x3, y3, z3, rfl⟩ := hE.form'
    clear hg3 hv3 hgn
    refine hK.out _ _ (fun _ => hF) ?_
    clear hK
    try simp only [Act.put, zdK, zdL, zdM]
    refine Till.one (i := 6) (by kernel_rfl) rfl (fun K hK => ?_)
    have hsz4 := hb.size
    refine zE zag rfl _ _ rfl e0 _ _ _ rfl (by exact hE) ⟨cb, 0, none⟩ 1 1 [f.cd] [.int .i64 f.kind, .int .i64 f.lit.atom.kind, .string f.lit.atom.a.name, .slice b3 f.lit.atom.a.kids.length d3, .string f.lit.atom.b.name, .slice b5 f.lit.atom.b.kids.length d5, .slice b6 f.lit.atom.nums.length d6, .slice b7 f.lit.atom.times.length d7, .int .i64 f.lit.atom.bound, .bool f.lit.atom.strict, .bool f.lit.no, .slice b11 f.kids.length d11] ff rfl rfl (by simpa using hrf0.below hb) (by simp [Fm.cd_len]) (fun j u h => by rw [Addr.add_lit]; simpa using hcl j u h) h3n (by simp; omega) (by simp; omega) (by omega) ?_
    intro rv6 v4 hE6 hg6 hv6 hs6
    have hrow : ∀ q, (Value.slice x3 y3 z3).ownBlock = some q → e0 ≤ q := fun q hq => (hE.block hq).1
    replace hb := zk hb hg6 hb.size (fun q hq => by have := hrow q hq; omega)
    replace hF : (fun U : World => Box [.int .i64 f.kind, .int .i64 f.lit.atom.kind, .string f.lit.atom.a.name, .slice b3 f.lit.atom.a.kids.length d3, .string f.lit.atom.b.name, .slice b5 f.lit.atom.b.kids.length d5, .slice b6 f.lit.atom.nums.length d6, .slice b7 f.lit.atom.times.length d7, .int .i64 f.lit.atom.bound, .bool f.lit.atom.strict, .bool f.lit.no, .slice b11 f.kids.length d11] X U) _ := hF.grownB hg6 (fun q hq => by have := hrow q hq; omega)
    obtain ⟨fz, hz6, hq6⟩ := hE6.rd
    have hfz : ∀ b ∈ fz, b ∈ g11 ∨ b ∈ ff ∨ v0.heap.size ≤ b := fun b hm => by
     rcases hq6 with ⟨_, _, rfl⟩ | ⟨b', _, _, rfl, _, h2, _⟩
     ·simp at hm
     ·rcases zdW.1 hm with rfl | hm
      ·exact .inr (.inr (by omega))
      ·rcases zdS.1 hm with h | h
       ·exact .inl (hnf3 b (by simpa using h))
       ·exact .inr (.inl h)
    obtain ⟨ks, hks⟩ : ∃ ks, ks = f.kids ++ [f] := ⟨_, rfl⟩
    have hz7 : Rd v4 (.sl (ks.map Fm.cd)) rv6 fz := by rw [hks]; simpa using hz6
    have HKS := Lib.hid hks
    clear hks
    obtain ⟨x6, z6, rfl, _, _⟩ := ze hz7
    clear hE6 hg6 hv6 hs6 hrow hE hz6 h3n hcl hq6 hnf3
    refine hK.out _ _ (fun _ => hF) ?_
    clear hK
    try simp only [Act.put, zdK, zdL, zdM]
    refine Till.one (i := 7) (by kernel_rfl) rfl (fun K hK => ?_)
    go_simp
    refine hK.out _ _ (fun _ => hF) ?_
    clear hK
    try simp only [Act.put, zdK, zdL, zdM]
    refine Till.one (i := 8) (by kernel_rfl) rfl (fun K hK => ?_)
    have hXVw := hXV0.below hb
    have k0 := hXVw.2.1 11 _ rfl; have k1 := hXVw.2.2 11
    go_simp
    clear k0 k1
    refine hK.out _ _ (fun h => absurd h (by decide)) ?_
    clear hK
    try simp only [Act.put, zdK, zdL, zdM]
    refine Till.done (by kernel_rfl) ?_ _
    have hXVw := hXV0.below hb
    have hA := (hA0.below hb).sets_other (b := V) (by omega) [(11, .slice x6 ks.length z6)]
    have hB := (hB0.below hb).sets_other (b := V) (by omega) [(11, .slice x6 ks.length z6)]
    have hXS := (hXS0.below hb).sets_other (b := V) (by omega) [(11, .slice x6 ks.length z6)]
    have hXV : Box [.int .i64 f.kind, .int .i64 f.lit.atom.kind, .string f.lit.atom.a.name, .slice b3 f.lit.atom.a.kids.length d3, .string f.lit.atom.b.name, .slice b5 f.lit.atom.b.kids.length d5, .slice b6 f.lit.atom.nums.length d6, .slice b7 f.lit.atom.times.length d7, .int .i64 f.lit.atom.bound, .bool f.lit.atom.strict, .bool f.lit.no, .slice x6 ks.length z6] V (v4.setCell ⟨V, 11, none⟩ (.slice x6 ks.length z6)) := hXVw.put (k := 11) (by simp) _
    have hN := Only.setsR (b := V) (by omega) [(11, .slice x6 ks.length z6)] (hN0.trans (Only.below hb))
    have hRd := Rdr.sets (b := V) (by omega) [(11, .slice x6 ks.length z6)] (hRd0.below hb)
    have hK9 := (Same2.refl V V v4).sets (b := V) (.inl rfl) [(11, .slice x6 ks.length z6)]
    obtain ⟨ff9, hrf8, hf9⟩ := zb5 (hrf0.below hb) hz7
    have hff9 : ∀ b ∈ ff9, w.heap.size + 1 < b ∧ b ≠ S ∧ b ≠ V := fun b hm => by
     rcases hf9 b hm with h | h
     ·exact hff b h
     ·rcases hfz b h with h | h | h
      ·exact hff b (hgs b h)
      ·exact hff b h
      ·omega
    have hrs9 := (hrs0.below hb).same2 hK9 (fun b hm => by have := hsf b hm; omega)
    have hrf9 := hrf8.same2 hK9 (fun b hm => by have := hff9 b hm; omega)
    have hsf9 := hsf
    simp only [zi] at hA hB hXS hN hRd hrs9 hrf9
    clear hF hXVw hb hA0 hB0 hXS0 hXV0 hN0 hRd0 hrf0 hrs0 hz7 hfz hrf8 hf9 hK9 hkr
    go_upto_region 12 with fail
    generalize v4.setCell ⟨V, 11, none⟩ (.slice x6 ks.length z6) = W at *
    have hs1 : s.syms.length ≤ 21 := by have := hfew.1; omega
    have hs2 : ∀ x ∈ s.syms, x.args.length ≤ 4 := fun x hx => by have := hfew.2 x hx; omega
    refine Till.start (F := (fun U : World => Box [.slice a0 s.syms.length c0] S U ∧ Box [.int .i64 f.kind, .int .i64 f.lit.atom.kind, .string f.lit.atom.a.name, .slice b3 f.lit.atom.a.kids.length d3, .string f.lit.atom.b.name, .slice b5 f.lit.atom.b.kids.length d5, .slice b6 f.lit.atom.nums.length d6, .slice b7 f.lit.atom.times.length d7, .int .i64 f.lit.atom.bound, .bool f.lit.atom.strict, .bool f.lit.no, .slice x6 ks.length z6] V U)) (s0 := 3) (by kernel_rfl) ?_
    have hWd := zd W
    have hF : (fun U : World => Box [.slice a0 s.syms.length c0] S U ∧ Box [.int .i64 f.kind, .int .i64 f.lit.atom.kind, .string f.lit.atom.a.name, .slice b3 f.lit.atom.a.kids.length d3, .string f.lit.atom.b.name, .slice b5 f.lit.atom.b.kids.length d5, .slice b6 f.lit.atom.nums.length d6, .slice b7 f.lit.atom.times.length d7, .int .i64 f.lit.atom.bound, .bool f.lit.atom.strict, .bool f.lit.no, .slice x6 ks.length z6] V U) W.drew := ⟨hXS.below hWd, hXV.below hWd⟩
    have hA' := hA.below hWd
    have hB' := hB.below hWd
    have hR' := hRd.below hWd
    have hN' := hN.trans (Only.below hWd)
    have Tab := zax [.slice a0 s.syms.length c0] [.int .i64 f.kind, .int .i64 f.lit.atom.kind, .string f.lit.atom.a.name, .slice b3 f.lit.atom.a.kids.length d3, .string f.lit.atom.b.name, .slice b5 f.lit.atom.b.kids.length d5, .slice b6 f.lit.atom.nums.length d6, .slice b7 f.lit.atom.times.length d7, .int .i64 f.lit.atom.bound, .bool f.lit.atom.strict, .bool f.lit.no, .slice x6 ks.length z6] hA' hB' (by omega) rfl rfl
    have hK0 : Same2 w.heap.size (w.heap.size + 1) W W.drew := fun b hb _ _ => hWd.block b hb
    have hKs := hWd.size
    have hO5 := Only.setsR (b := w.heap.size + 1) (by omega) (zc 0 [.int .i64 f.kind, .int .i64 f.lit.atom.kind, .string f.lit.atom.a.name, .slice b3 f.lit.atom.a.kids.length d3, .string f.lit.atom.b.name, .slice b5 f.lit.atom.b.kids.length d5, .slice b6 f.lit.atom.nums.length d6, .slice b7 f.lit.atom.times.length d7, .int .i64 f.lit.atom.bound, .bool f.lit.atom.strict, .bool f.lit.no, .slice x6 ks.length z6]) (Only.setsR (b := w.heap.size) (Nat.le_refl _) (zc 0 [.slice a0 s.syms.length c0]) hN')
    have hR9 := Rdr.sets (b := w.heap.size + 1) (by omega) (zc 0 [.int .i64 f.kind, .int .i64 f.lit.atom.kind, .string f.lit.atom.a.name, .slice b3 f.lit.atom.a.kids.length d3, .string f.lit.atom.b.name, .slice b5 f.lit.atom.b.kids.length d5, .slice b6 f.lit.atom.nums.length d6, .slice b7 f.lit.atom.times.length d7, .int .i64 f.lit.atom.bound, .bool f.lit.atom.strict, .bool f.lit.no, .slice x6 ks.length z6]) (Rdr.sets (b := w.heap.size) (by omega) (zc 0 [.slice a0 s.syms.length c0]) hR')
    simp only [zc, zi, Nat.zero_add, Nat.reduceAdd] at Tab hO5 hR9
    clear hA hB hXS hXV hWd hRd hN hR' hN'
    generalize W.drew = W1 at *
    refine Till.take (i := 0) (v := (.agg #[.slice a0 s.syms.length c0])) rfl (by kernel_rfl) (by kernel_rfl) (by kernel_rfl) (fun _ _ _ h => h) (by kernel_rfl) (Or.inl ⟨by rfl, fun U hU => ?_⟩) hF ?_
    ·have u0 := hU.1.2.1 0 _ rfl; clear hU; go_simp
    try simp only [Act.put, zdK, zdL, zdM]
    refine Till.take (i := 1) (v := (.agg #[.int .i64 f.kind, .int .i64 f.lit.atom.kind, .string f.lit.atom.a.name, .slice b3 f.lit.atom.a.kids.length d3, .string f.lit.atom.b.name, .slice b5 f.lit.atom.b.kids.length d5, .slice b6 f.lit.atom.nums.length d6, .slice b7 f.lit.atom.times.length d7, .int .i64 f.lit.atom.bound, .bool f.lit.atom.strict, .bool f.lit.no, .slice x6 ks.length z6])) rfl (by kernel_rfl) (by kernel_rfl) (by kernel_rfl) (fun _ _ _ h => h) (by kernel_rfl) (Or.inl ⟨by rfl, fun U hU => ?_⟩) hF ?_
    ·have u0 := hU.2.2.1 0 _ rfl; have u1 := hU.2.2.1 1 _ rfl; have u2 := hU.2.2.1 2 _ rfl; have u3 := hU.2.2.1 3 _ rfl; have u4 := hU.2.2.1 4 _ rfl; have u5 := hU.2.2.1 5 _ rfl; have u6 := hU.2.2.1 6 _ rfl; have u7 := hU.2.2.1 7 _ rfl; have u8 := hU.2.2.1 8 _ rfl; have u9 := hU.2.2.1 9 _ rfl; have u10 := hU.2.2.1 10 _ rfl; have u11 := hU.2.2.1 11 _ rfl; clear hU; go_simp
    try simp only [Act.put, zdK, zdL, zdM]
    refine Till.one (i := 2) (by kernel_rfl) rfl (fun K hK => ?_)
    have zc0 := hA'.2.1 0 _ rfl; have zf0 := hA'.2.2 0
    go_simp
    have hB2 := hB'.sets_other (b := w.heap.size) (by omega) [(0, .slice a0 s.syms.length c0)]
    have hF2 : (fun U : World => Box [.slice a0 s.syms.length c0] S U ∧ Box [.int .i64 f.kind, .int .i64 f.lit.atom.kind, .string f.lit.atom.a.name, .slice b3 f.lit.atom.a.kids.length d3, .string f.lit.atom.b.name, .slice b5 f.lit.atom.b.kids.length d5, .slice b6 f.lit.atom.nums.length d6, .slice b7 f.lit.atom.times.length d7, .int .i64 f.lit.atom.bound, .bool f.lit.atom.strict, .bool f.lit.no, .slice x6 ks.length z6] V U) _ := ⟨hF.1.sets_other (b := w.heap.size) (by omega) [(0, .slice a0 s.syms.length c0)], hF.2.sets_other (b := w.heap.size) (by omega) [(0, .slice a0 s.syms.length c0)]⟩
    simp only [zi] at hB2 hF2
    refine hK.out _ _ (fun _ => hF2) ?_
    clear hK hF hF2 hA' hB' zc0 zf0
    try simp only [Act.put, zdK, zdL, zdM]
    refine Till.one (i := 3) (by kernel_rfl) rfl (fun K hK => ?_)
    have zc0 := hB2.2.1 0 _ rfl; have zf0 := hB2.2.2 0
    have zc1 := hB2.2.1 1 _ rfl; have zf1 := hB2.2.2 1
    have zc2 := hB2.2.1 2 _ rfl; have zf2 := hB2.2.2 2
    have zc3 := hB2.2.1 3 _ rfl; have zf3 := hB2.2.2 3
    have zc4 := hB2.2.1 4 _ rfl; have zf4 := hB2.2.2 4
    have zc5 := hB2.2.1 5 _ rfl; have zf5 := hB2.2.2 5
    have zc6 := hB2.2.1 6 _ rfl; have zf6 := hB2.2.2 6
    have zc7 := hB2.2.1 7 _ rfl; have zf7 := hB2.2.2 7
    have zc8 := hB2.2.1 8 _ rfl; have zf8 := hB2.2.2 8
    have zc9 := hB2.2.1 9 _ rfl; have zf9 := hB2.2.2 9
    have zc10 := hB2.2.1 10 _ rfl; have zf10 := hB2.2.2 10
    have zc11 := hB2.2.1 11 _ rfl; have zf11 := hB2.2.2 11
    go_simp
    refine hK.out _ _ (fun h => absurd h (by decide)) ?_
    clear hK hB2 zc0 zf0 zc1 zf1 zc2 zf2 zc3 zf3 zc4 zf4 zc5 zf5 zc6 zf6 zc7 zf7 zc8 zf8 zc9 zf9 zc10 zf10 zc11 zf11
    try simp only [Act.put, zdK, zdL, zdM]
    refine Till.done (by kernel_rfl) ?_ _
    obtain ⟨g1, g2, hK1⟩ := Tab
    have hK : Same2 w.heap.size (w.heap.size + 1) W _ := hK0.trans hK1 hKs
    have ra0 := g1.2.1 0 _ rfl
    have rx0 := g2.2.1 0 _ rfl
    have rx1 := g2.2.1 1 _ rfl
    have rx2 := g2.2.1 2 _ rfl
    have rx3 := g2.2.1 3 _ rfl
    have rx4 := g2.2.1 4 _ rfl
    have rx5 := g2.2.1 5 _ rfl
    have rx6 := g2.2.1 6 _ rfl
    have rx7 := g2.2.1 7 _ rfl
    have rx8 := g2.2.1 8 _ rfl
    have rx9 := g2.2.1 9 _ rfl
    have rx10 := g2.2.1 10 _ rfl
    have rx11 := g2.2.1 11 _ rfl
    clear g1 g2
    go_wp2_with fail
    refine bodyPost_ret (v := .tuple #[.agg #[.slice a0 s.syms.length c0], .agg #[.int .i64 f.kind, .int .i64 f.lit.atom.kind, .string f.lit.atom.a.name, .slice b3 f.lit.atom.a.kids.length d3, .string f.lit.atom.b.name, .slice b5 f.lit.atom.b.kids.length d5, .slice b6 f.lit.atom.nums.length d6, .slice b7 f.lit.atom.times.length d7, .int .i64 f.lit.atom.bound, .bool f.lit.atom.strict, .bool f.lit.no, .slice x6 ks.length z6]]) (by simp [results, Tryz.results9, go_sem, ra0, rx0, rx1, rx2, rx3, rx4, rx5, rx6, rx7, rx8, rx9, rx10, rx11]) rfl ?_
    exact ⟨⟨s, Fm.mk f.kind f.lit ks, _, _, _, _, _, _, _, _, _, _, _, _, _, _, ⟨hs1, hs2⟩, by rw [HKS.out, za4]; omega, rfl, hrs9.same2 hK (fun b hb => by have := hsf9 b hb; omega), hrf9.same2 hK (fun b hb => by have := hff9 b hb; omega), fun b hb => by have := hsf9 b hb; omega, fun b hb => by have := hff9 b hb; omega⟩, hR9.mono (by omega), hO5⟩
  ·skip
   go_simp
   obtain ⟨cb, hcb⟩ : ∃ cb, cb = v0.heap.size := ⟨_, rfl⟩
   have hcl := zj v0 [.int .i64 f.kind, .int .i64 f.lit.atom.kind, .string f.lit.atom.a.name, .slice b3 f.lit.atom.a.kids.length d3, .string f.lit.atom.b.name, .slice b5 f.lit.atom.b.kids.length d5, .slice b6 f.lit.atom.nums.length d6, .slice b7 f.lit.atom.times.length d7, .int .i64 f.lit.atom.bound, .bool f.lit.atom.strict, .bool f.lit.no, .slice b11 f.kids.length d11] 33
   rw [← hcb] at hcl ⊢
   have hcz : v0.heap.size ≤ cb := by have := hb.size; omega
   have hbn := za v0 (.cells #[.int .i64 f.kind, .int .i64 f.lit.atom.kind, .string f.lit.atom.a.name, .slice b3 f.lit.atom.a.kids.length d3, .string f.lit.atom.b.name, .slice b5 f.lit.atom.b.kids.length d5, .slice b6 f.lit.atom.nums.length d6, .slice b7 f.lit.atom.times.length d7, .int .i64 f.lit.atom.bound, .bool f.lit.atom.strict, .bool f.lit.no, .slice b11 f.kids.length d11] 33)
   replace hb := hb.alloc hb.size (.cells #[.int .i64 f.kind, .int .i64 f.lit.atom.kind, .string f.lit.atom.a.name, .slice b3 f.lit.atom.a.kids.length d3, .string f.lit.atom.b.name, .slice b5 f.lit.atom.b.kids.length d5, .slice b6 f.lit.atom.nums.length d6, .slice b7 f.lit.atom.times.length d7, .int .i64 f.lit.atom.bound, .bool f.lit.atom.strict, .bool f.lit.no, .slice b11 f.kids.length d11] 33)
   replace hF : (fun U : World => Box [.int .i64 f.kind, .int .i64 f.lit.atom.kind, .string f.lit.atom.a.name, .slice b3 f.lit.atom.a.kids.length d3, .string f.lit.atom.b.name, .slice b5 f.lit.atom.b.kids.length d5, .slice b6 f.lit.atom.nums.length d6, .slice b7 f.lit.atom.times.length d7, .int .i64 f.lit.atom.bound, .bool f.lit.atom.strict, .bool f.lit.no, .slice b11 f.kids.length d11] X U) _ := hF.alloc (.cells #[.int .i64 f.kind, .int .i64 f.lit.atom.kind, .string f.lit.atom.a.name, .slice b3 f.lit.atom.a.kids.length d3, .string f.lit.atom.b.name, .slice b5 f.lit.atom.b.kids.length d5, .slice b6 f.lit.atom.nums.length d6, .slice b7 f.lit.atom.times.length d7, .int .i64 f.lit.atom.bound, .bool f.lit.atom.strict, .bool f.lit.no, .slice b11 f.kids.length d11] 33)
   clear hbn
   have hcs : cb < (v0.alloc (.cells #[.int .i64 f.kind, .int .i64 f.lit.atom.kind, .string f.lit.atom.a.name, .slice b3 f.lit.atom.a.kids.length d3, .string f.lit.atom.b.name, .slice b5 f.lit.atom.b.kids.length d5, .slice b6 f.lit.atom.nums.length d6, .slice b7 f.lit.atom.times.length d7, .int .i64 f.lit.atom.bound, .bool f.lit.atom.strict, .bool f.lit.no, .slice b11 f.kids.length d11] 33)).heap.size := by rw [World.size_alloc]; omega
   clear hcb
   generalize v0.alloc (.cells #[.int .i64 f.kind, .int .i64 f.lit.atom.kind, .string f.lit.atom.a.name, .slice b3 f.lit.atom.a.kids.length d3, .string f.lit.atom.b.name, .slice b5 f.lit.atom.b.kids.length d5, .slice b6 f.lit.atom.nums.length d6, .slice b7 f.lit.atom.times.length d7, .int .i64 f.lit.atom.bound, .bool f.lit.atom.strict, .bool f.lit.no, .slice b11 f.kids.length d11] 33) = v1 at *
   refine hK.out _ _ (fun _ => hF) ?_
   clear hK
   try simp only [Act.put, zdK, zdL, zdM]
   refine Till.one (i := 0) (by kernel_rfl) rfl (fun K hK => ?_)
   go_simp
   obtain ⟨e0, he0⟩ : ∃ e0, e0 = v1.heap.size := ⟨_, rfl⟩
   have hE := Own.empty v1 v1.heap.size 33 12 (Nat.le_refl _)
   rw [← he0] at hE ⊢
   have hez : v0.heap.size ≤ e0 := by have := hb.size; omega
   have hbn := za v1 (.cells #[] 33)
   replace hcl := fun j u h => zb (hcl j u h) hbn
   have hce : cb < e0 := by omega
   replace hcs := zdQ hcs hbn.size
   replace hb := hb.alloc hb.size (.cells #[] 33)
   replace hF : (fun U : World => Box [.int .i64 f.kind, .int .i64 f.lit.atom.kind, .string f.lit.atom.a.name, .slice b3 f.lit.atom.a.kids.length d3, .string f.lit.atom.b.name, .slice b5 f.lit.atom.b.kids.length d5, .slice b6 f.lit.atom.nums.length d6, .slice b7 f.lit.atom.times.length d7, .int .i64 f.lit.atom.bound, .bool f.lit.atom.strict, .bool f.lit.no, .slice b11 f.kids.length d11] X U) _ := hF.alloc (.cells #[] 33)
   clear hbn
   have hes : e0 < (v1.alloc (.cells #[] 33)).heap.size := by rw [World.size_alloc]; omega
   clear he0
   generalize v1.alloc (.cells #[] 33) = v2 at *
   refine hK.out _ _ (fun _ => hF) ?_
   clear hK
   try simp only [Act.put, zdK, zdL, zdM]
   refine Till.one (i := 3) (by kernel_rfl) rfl (fun K hK => ?_)
   have hsz3 := hb.size
   refine zaf zag rfl _ _ rfl e0 _ [] [] rfl (by exact hE) (f.kids.map Fm.cd) (.slice b11 f.kids.length d11) g11 rfl (hkr.below hb) (by simp only [List.mem_map]; rintro e ⟨t, _, rfl⟩; exact t.cd_len) (fun b hm e => by have := hgl b hm; have e2 : e0 = b := Option.some.inj e; omega) (by simp; omega) (by simp; omega) (by omega) ?_
   intro rv3 v3 nf3 hnf3 hE3 hg3 hv3
   clear hE
   have hE := hE3
   clear hE3
   have hgn : ∀ q, (Value.slice (some ⟨e0, 0, none⟩) 0 0).ownBlock = some q → q = e0 := fun q hq => (Option.some.inj hq).symm
   replace hb := zk hb hg3 hb.size (fun q hq => by have := hgn q hq; omega)
   replace hF : (fun U : World => Box [.int .i64 f.kind, .int .i64 f.lit.atom.kind, .string f.lit.atom.a.name, .slice b3 f.lit.atom.a.kids.length d3, .string f.lit.atom.b.name, .slice b5 f.lit.atom.b.kids.length d5, .slice b6 f.lit.atom.nums.length d6, .slice b7 f.lit.atom.times.length d7, .int .i64 f.lit.atom.bound, .bool f.lit.atom.strict, .bool f.lit.no, .slice b11 f.kids.length d11] X U) _ := hF.grownB hg3 (fun q hq => by have := hgn q hq; omega)
   replace hcl := fun j u h => zg hg3 (hcl j u h) (fun e => by have := hgn _ e; omega)
   replace hcs : cb < v3.heap.size := zdQ hcs hg3.size
   replace hes : e0 < v3.heap.size := zdQ hes hg3.size
   have h3n : ∀ b ∈ ff, rv3.ownBlock ≠ some b := fun b hm e => by
    rcases hv3 b e with h | h
    ·have := hgn b h; have := hfl b hm; omega
    ·have := hfl b hm; have := hb.size; omega
   obtain ⟨x3, y3, z3, rfl⟩ := hE.form'
   clear hg3 hv3 hgn
   refine hK.out _ _ (fun _ => hF) ?_
   clear hK
   try simp only [Act.put, zdK, zdL, zdM]
   refine Till.one (i := 6) (by kernel_rfl) rfl (fun K hK => ?_)
   have hsz4 := hb.size
   refine zE zag rfl _ _ rfl e0 _ _ _ rfl (by exact hE) ⟨cb, 0, none⟩ 1 1 [f.cd] [.int .i64 f.kind, .int .i64 f.lit.atom.kind, .string f.lit.atom.a.name, .slice b3 f.lit.atom.a.kids.length d3, .string f.lit.atom.b.name, .slice b5 f.lit.atom.b.kids.length d5, .slice b6 f.lit.atom.nums.length d6, .slice b7 f.lit.atom.times.length d7, .int .i64 f.lit.atom.bound, .bool f.lit.atom.strict, .bool f.lit.no, .slice b11 f.kids.length d11] ff rfl rfl (by simpa using hrf0.below hb) (by simp [Fm.cd_len]) (fun j u h => by rw [Addr.add_lit]; simpa using hcl j u h) h3n (by simp; omega) (by simp; omega) (by omega) ?_
   intro rv6 v4 hE6 hg6 hv6 hs6
   have hrow : ∀ q, (Value.slice x3 y3 z3).ownBlock = some q → e0 ≤ q := fun q hq => (hE.block hq).1
   replace hb := zk hb hg6 hb.size (fun q hq => by have := hrow q hq; omega)
   replace hF : (fun U : World => Box [.int .i64 f.kind, .int .i64 f.lit.atom.kind, .string f.lit.atom.a.name, .slice b3 f.lit.atom.a.kids.length d3, .string f.lit.atom.b.name, .slice b5 f.lit.atom.b.kids.length d5, .slice b6 f.lit.atom.nums.length d6, .slice b7 f.lit.atom.times.length d7, .int .i64 f.lit.atom.bound, .bool f.lit.atom.strict, .bool f.lit.no, .slice b11 f.kids.length d11] X U) _ := hF.grownB hg6 (fun q hq => by have := hrow q hq; omega)
   obtain ⟨fz, hz6, hq6⟩ := hE6.rd
   have hfz : ∀ b ∈ fz, b ∈ g11 ∨ b ∈ ff ∨ v0.heap.size ≤ b := fun b hm => by
    rcases hq6 with ⟨_, _, rfl⟩ | ⟨b', _, _, rfl, _, h2, _⟩
    ·simp at hm
    ·rcases zdW.1 hm with rfl | hm
     ·exact .inr (.inr (by omega))
     ·rcases zdS.1 hm with h | h
      ·exact .inl (hnf3 b (by simpa using h))
      ·exact .inr (.inl h)
   obtain ⟨ks, hks⟩ : ∃ ks, ks = f.kids ++ [f] := ⟨_, rfl⟩
   have hz7 : Rd v4 (.sl (ks.map Fm.cd)) rv6 fz := by rw [hks]; simpa using hz6
   have HKS := Lib.hid hks
   clear hks
   obtain ⟨x6, z6, rfl, _, _⟩ := ze hz7
   clear hE6 hg6 hv6 hs6 hrow hE hz6 h3n hcl hq6 hnf3
   refine hK.out _ _ (fun _ => hF) ?_
   clear hK
   try simp only [Act.put, zdK, zdL, zdM]
   refine Till.one (i := 7) (by kernel_rfl) rfl (fun K hK => ?_)
   go_simp
   refine hK.out _ _ (fun _ => hF) ?_
   clear hK
   try simp only [Act.put, zdK, zdL, zdM]
   refine Till.one (i := 8) (by kernel_rfl) rfl (fun K hK => ?_)
   have hXVw := hXV0.below hb
   have k0 := hXVw.2.1 11 _ rfl; have k1 := hXVw.2.2 11
   go_simp
   clear k0 k1
   refine hK.out _ _ (fun h => absurd h (by decide)) ?_
   clear hK
   try simp only [Act.put, zdK, zdL, zdM]
   refine Till.done (by kernel_rfl) ?_ _
   have hXVw := hXV0.below hb
   have hA := (hA0.below hb).sets_other (b := V) (by omega) [(11, .slice x6 ks.length z6)]
   have hB := (hB0.below hb).sets_other (b := V) (by omega) [(11, .slice x6 ks.length z6)]
   have hXS := (hXS0.below hb).sets_other (b := V) (by omega) [(11, .slice x6 ks.length z6)]
   have hXV : Box [.int .i64 f.kind, .int .i64 f.lit.atom.kind, .string f.lit.atom.a.name, .slice b3 f.lit.atom.a.kids.length d3, .string f.lit.atom.b.name, .slice b5 f.lit.atom.b.kids.length d5, .slice b6 f.lit.atom.nums.length d6, .slice b7 f.lit.atom.times.length d7, .int .i64 f.lit.atom.bound, .bool f.lit.atom.strict, .bool f.lit.no, .slice x6 ks.length z6] V (v4.setCell ⟨V, 11, none⟩ (.slice x6 ks.length z6)) := hXVw.put (k := 11) (by simp) _
   have hN := Only.setsR (b := V) (by omega) [(11, .slice x6 ks.length z6)] (hN0.trans (Only.below hb))
   have hRd := Rdr.sets (b := V) (by omega) [(11, .slice x6 ks.length z6)] (hRd0.below hb)
   have hK9 := (Same2.refl V V v4).sets (b := V) (.inl rfl) [(11, .slice x6 ks.length z6)]
   obtain ⟨ff9, hrf8, hf9⟩ := zb5 (hrf0.below hb) hz7
   have hff9 : ∀ b ∈ ff9, w.heap.size + 1 < b ∧ b ≠ S ∧ b ≠ V := fun b hm => by
    rcases hf9 b hm with h | h
    ·exact hff b h
    ·rcases hfz b h with h | h | h
     ·exact hff b (hgs b h)
     ·exact hff b h
     ·omega
   have hrs9 := (hrs0.below hb).same2 hK9 (fun b hm => by have := hsf b hm; omega)
   have hrf9 := hrf8.same2 hK9 (fun b hm => by have := hff9 b hm; omega)
   have hsf9 := hsf
   simp only [zi] at hA hB hXS hN hRd hrs9 hrf9
   clear hF hXVw hb hA0 hB0 hXS0 hXV0 hN0 hRd0 hrf0 hrs0 hz7 hfz hrf8 hf9 hK9 hkr
   go_upto_region 12 with fail
   generalize v4.setCell ⟨V, 11, none⟩ (.slice x6 ks.length z6) = W at *
   have hs1 : s.syms.length ≤ 21 := by have := hfew.1; omega
   have hs2 : ∀ x ∈ s.syms, x.args.length ≤ 4 := fun x hx => by have := hfew.2 x hx; omega
   refine Till.start (F := (fun U : World => Box [.slice a0 s.syms.length c0] S U ∧ Box [.int .i64 f.kind, .int .i64 f.lit.atom.kind, .string f.lit.atom.a.name, .slice b3 f.lit.atom.a.kids.length d3, .string f.lit.atom.b.name, .slice b5 f.lit.atom.b.kids.length d5, .slice b6 f.lit.atom.nums.length d6, .slice b7 f.lit.atom.times.length d7, .int .i64 f.lit.atom.bound, .bool f.lit.atom.strict, .bool f.lit.no, .slice x6 ks.length z6] V U)) (s0 := 3) (by kernel_rfl) ?_
   have hWd := zd W
   have hF : (fun U : World => Box [.slice a0 s.syms.length c0] S U ∧ Box [.int .i64 f.kind, .int .i64 f.lit.atom.kind, .string f.lit.atom.a.name, .slice b3 f.lit.atom.a.kids.length d3, .string f.lit.atom.b.name, .slice b5 f.lit.atom.b.kids.length d5, .slice b6 f.lit.atom.nums.length d6, .slice b7 f.lit.atom.times.length d7, .int .i64 f.lit.atom.bound, .bool f.lit.atom.strict, .bool f.lit.no, .slice x6 ks.length z6] V U) W.drew := ⟨hXS.below hWd, hXV.below hWd⟩
   have hA' := hA.below hWd
   have hB' := hB.below hWd
   have hR' := hRd.below hWd
   have hN' := hN.trans (Only.below hWd)
   have Tab := zax [.slice a0 s.syms.length c0] [.int .i64 f.kind, .int .i64 f.lit.atom.kind, .string f.lit.atom.a.name, .slice b3 f.lit.atom.a.kids.length d3, .string f.lit.atom.b.name, .slice b5 f.lit.atom.b.kids.length d5, .slice b6 f.lit.atom.nums.length d6, .slice b7 f.lit.atom.times.length d7, .int .i64 f.lit.atom.bound, .bool f.lit.atom.strict, .bool f.lit.no, .slice x6 ks.length z6] hA' hB' (by omega) rfl rfl
   have hK0 : Same2 w.heap.size (w.heap.size + 1) W W.drew := fun b hb _ _ => hWd.block b hb
   have hKs := hWd.size
   have hO5 := Only.setsR (b := w.heap.size + 1) (by omega) (zc 0 [.int .i64 f.kind, .int .i64 f.lit.atom.kind, .string f.lit.atom.a.name, .slice b3 f.lit.atom.a.kids.length d3, .string f.lit.atom.b.name, .slice b5 f.lit.atom.b.kids.length d5, .slice b6 f.lit.atom.nums.length d6, .slice b7 f.lit.atom.times.length d7, .int .i64 f.lit.atom.bound, .bool f.lit.atom.strict, .bool f.lit.no, .slice x6 ks.length z6]) (Only.setsR (b := w.heap.size) (Nat.le_refl _) (zc 0 [.slice a0 s.syms.length c0]) hN')
   have hR9 := Rdr.sets (b := w.heap.size + 1) (by omega) (zc 0 [.int .i64 f.kind, .int .i64 f.lit.atom.kind, .string f.lit.atom.a.name, .slice b3 f.lit.atom.a.kids.length d3, .string f.lit.atom.b.name, .slice b5 f.lit.atom.b.kids.length d5, .slice b6 f.lit.atom.nums.length d6, .slice b7 f.lit.atom.times.length d7, .int .i64 f.lit.atom.bound, .bool f.lit.atom.strict, .bool f.lit.no, .slice x6 ks.length z6]) (Rdr.sets (b := w.heap.size) (by omega) (zc 0 [.slice a0 s.syms.length c0]) hR')
   simp only [zc, zi, Nat.zero_add, Nat.reduceAdd] at Tab hO5 hR9
   clear hA hB hXS hXV hWd hRd hN hR' hN'
   generalize W.drew = W1 at *
   refine Till.take (i := 0) (v := (.agg #[.slice a0 s.syms.length c0])) rfl (by kernel_rfl) (by kernel_rfl) (by kernel_rfl) (fun _ _ _ h => h) (by kernel_rfl) (Or.inl ⟨by rfl, fun U hU => ?_⟩) hF ?_
   ·have u0 := hU.1.2.1 0 _ rfl; clear hU; go_simp
   try simp only [Act.put, zdK, zdL, zdM]
   refine Till.take (i := 1) (v := (.agg #[.int .i64 f.kind, .int .i64 f.lit.atom.kind, .string f.lit.atom.a.name, .slice b3 f.lit.atom.a.kids.length d3, .string f.lit.atom.b.name, .slice b5 f.lit.atom.b.kids.length d5, .slice b6 f.lit.atom.nums.length d6, .slice b7 f.lit.atom.times.length d7, .int .i64 f.lit.atom.bound, .bool f.lit.atom.strict, .bool f.lit.no, .slice x6 ks.length z6])) rfl (by kernel_rfl) (by kernel_rfl) (by kernel_rfl) (fun _ _ _ h => h) (by kernel_rfl) (Or.inl ⟨by rfl, fun U hU => ?_⟩) hF ?_
   ·have u0 := hU.2.2.1 0 _ rfl; have u1 := hU.2.2.1 1 _ rfl; have u2 := hU.2.2.1 2 _ rfl; have u3 := hU.2.2.1 3 _ rfl; have u4 := hU.2.2.1 4 _ rfl; have u5 := hU.2.2.1 5 _ rfl; have u6 := hU.2.2.1 6 _ rfl; have u7 := hU.2.2.1 7 _ rfl; have u8 := hU.2.2.1 8 _ rfl; have u9 := hU.2.2.1 9 _ rfl; have u10 := hU.2.2.1 10 _ rfl; have u11 := hU.2.2.1 11 _ rfl; clear hU; go_simp
   try simp only [Act.put, zdK, zdL, zdM]
   refine Till.one (i := 2) (by kernel_rfl) rfl (fun K hK => ?_)
   have zc0 := hA'.2.1 0 _ rfl; have zf0 := hA'.2.2 0
   go_simp
   have hB2 := hB'.sets_other (b := w.heap.size) (by omega) [(0, .slice a0 s.syms.length c0)]
   have hF2 : (fun U : World => Box [.slice a0 s.syms.length c0] S U ∧ Box [.int .i64 f.kind, .int .i64 f.lit.atom.kind, .string f.lit.atom.a.name, .slice b3 f.lit.atom.a.kids.length d3, .string f.lit.atom.b.name, .slice b5 f.lit.atom.b.kids.length d5, .slice b6 f.lit.atom.nums.length d6, .slice b7 f.lit.atom.times.length d7, .int .i64 f.lit.atom.bound, .bool f.lit.atom.strict, .bool f.lit.no, .slice x6 ks.length z6] V U) _ := ⟨hF.1.sets_other (b := w.heap.size) (by omega) [(0, .slice a0 s.syms.length c0)], hF.2.sets_other (b := w.heap.size) (by omega) [(0, .slice a0 s.syms.length c0)]⟩
   simp only [zi] at hB2 hF2
   refine hK.out _ _ (fun _ => hF2) ?_
   clear hK hF hF2 hA' hB' zc0 zf0
   try simp only [Act.put, zdK, zdL, zdM]
   refine Till.one (i := 3) (by kernel_rfl) rfl (fun K hK => ?_)
   have zc0 := hB2.2.1 0 _ rfl; have zf0 := hB2.2.2 0
   have zc1 := hB2.2.1 1 _ rfl; have zf1 := hB2.2.2 1
   have zc2 := hB2.2.1 2 _ rfl; have zf2 := hB2.2.2 2
   have zc3 := hB2.2.1 3 _ rfl; have zf3 := hB2.2.2 3
   have zc4 := hB2.2.1 4 _ rfl; have zf4 := hB2.2.2 4
   have zc5 := hB2.2.1 5 _ rfl; have zf5 := hB2.2.2 5
   have zc6 := hB2.2.1 6 _ rfl; have zf6 := hB2.2.2 6
   have zc7 := hB2.2.1 7 _ rfl; have zf7 := hB2.2.2 7
   have zc8 := hB2.2.1 8 _ rfl; have zf8 := hB2.2.2 8
   have zc9 := hB2.2.1 9 _ rfl; have zf9 := hB2.2.2 9
   have zc10 := hB2.2.1 10 _ rfl; have zf10 := hB2.2.2 10
   have zc11 := hB2.2.1 11 _ rfl; have zf11 := hB2.2.2 11
   go_simp
   refine hK.out _ _ (fun h => absurd h (by decide)) ?_
   clear hK hB2 zc0 zf0 zc1 zf1 zc2 zf2 zc3 zf3 zc4 zf4 zc5 zf5 zc6 zf6 zc7 zf7 zc8 zf8 zc9 zf9 zc10 zf10 zc11 zf11
   try simp only [Act.put, zdK, zdL, zdM]
   refine Till.done (by kernel_rfl) ?_ _
   obtain ⟨g1, g2, hK1⟩ := Tab
   have hK : Same2 w.heap.size (w.heap.size + 1) W _ := hK0.trans hK1 hKs
   have ra0 := g1.2.1 0 _ rfl
   have rx0 := g2.2.1 0 _ rfl
   have rx1 := g2.2.1 1 _ rfl
   have rx2 := g2.2.1 2 _ rfl
   have rx3 := g2.2.1 3 _ rfl
   have rx4 := g2.2.1 4 _ rfl
   have rx5 := g2.2.1 5 _ rfl
   have rx6 := g2.2.1 6 _ rfl
   have rx7 := g2.2.1 7 _ rfl
   have rx8 := g2.2.1 8 _ rfl
   have rx9 := g2.2.1 9 _ rfl
   have rx10 := g2.2.1 10 _ rfl
   have rx11 := g2.2.1 11 _ rfl
   clear g1 g2
   go_wp2_with fail
   refine bodyPost_ret (v := .tuple #[.agg #[.slice a0 s.syms.length c0], .agg #[.int .i64 f.kind, .int .i64 f.lit.atom.kind, .string f.lit.atom.a.name, .slice b3 f.lit.atom.a.kids.length d3, .string f.lit.atom.b.name, .slice b5 f.lit.atom.b.kids.length d5, .slice b6 f.lit.atom.nums.length d6, .slice b7 f.lit.atom.times.length d7, .int .i64 f.lit.atom.bound, .bool f.lit.atom.strict, .bool f.lit.no, .slice x6 ks.length z6]]) (by simp [results, Tryz.results9, go_sem, ra0, rx0, rx1, rx2, rx3, rx4, rx5, rx6, rx7, rx8, rx9, rx10, rx11]) rfl ?_
   exact ⟨⟨s, Fm.mk f.kind f.lit ks, _, _, _, _, _, _, _, _, _, _, _, _, _, _, ⟨hs1, hs2⟩, by rw [HKS.out, za4]; omega, rfl, hrs9.same2 hK (fun b hb => by have := hsf9 b hb; omega), hrf9.same2 hK (fun b hb => by have := hff9 b hb; omega), fun b hb => by have := hsf9 b hb; omega, fun b hb => by have := hff9 b hb; omega⟩, hR9.mono (by omega), hO5⟩
 have e1 : ((d : Int) == 1) = false := by simpa using (by omega : ¬ ((d : Int) = 1))
 by_cases nd2 : d = 2
 ·subst nd2
  have x3 := hS3.2.1 0 _ rfl
  go_wp2_with fail
  refine (zdx s _ sf rb (p + 700 + 1) _ (by omega) hfew hnice (by exact hrs3) hnr hr3).mono ?_
  rintro e w4 ⟨⟨y, vy, fy, ht, rfl, hry, hfy⟩, hRd0, ho4⟩
  obtain ⟨a2, c2, _, a4, c4, _, a5, c5, _, a6, c6, _, rfl, _, m0, m1, m2, m3, m4, m5, m6, m7⟩ := Atm.open hry
  clear m0 m1 m2 m3 m4 m5 m6 m7
  have hV3z := hV3.1
  have hA4 := hA3.only ho4 (by omega)
  have hB4 := hB3.only ho4 (by omega)
  have hS4 := hS3.only ho4 (by omega)
  have hV4 := hV3.only ho4 (by omega)
  have hN4 := hN3.trans ho4
  have hrs4 := hrs3.only ho4 hnr
  have hrf4 := hrf3.only ho4 hnf
  have hz3 := hN3.size
  replace hfy : ∀ b ∈ fy, w.heap.size + 1 < b ∧ b ≠ S ∧ b ≠ V := fun b hm => by have := hfy b hm; omega
  clear hA3 hB3 hS3 hV3 hN3 hrs3 hrf3 hr3 ho4 x3
  have q1 := hV4.2.1 1 _ rfl; have r1 := hV4.2.2 1; have q2 := hV4.2.1 2 _ rfl; have r2 := hV4.2.2 2; have q3 := hV4.2.1 3 _ rfl; have r3 := hV4.2.2 3; have q4 := hV4.2.1 4 _ rfl; have r4 := hV4.2.2 4; have q5 := hV4.2.1 5 _ rfl; have r5 := hV4.2.2 5; have q6 := hV4.2.1 6 _ rfl; have r6 := hV4.2.2 6; have q7 := hV4.2.1 7 _ rfl; have r7 := hV4.2.2 7; have q8 := hV4.2.1 8 _ rfl; have r8 := hV4.2.2 8; have q9 := hV4.2.1 9 _ rfl; have r9 := hV4.2.2 9; have q10 := hV4.2.1 10 _ rfl; have r10 := hV4.2.2 10
  go_upto_region 12 with fail
  have hA := hA4.sets_other (b := V) (by omega) [(1, .int .i64 y.kind), (2, .string y.a.name), (3, .slice a2 y.a.kids.length c2), (4, .string y.b.name), (5, .slice a4 y.b.kids.length c4), (6, .slice a5 y.nums.length c5), (7, .slice a6 y.times.length c6), (8, .int .i64 y.bound), (9, .bool y.strict), (10, .bool false)]
  have hB := hB4.sets_other (b := V) (by omega) [(1, .int .i64 y.kind), (2, .string y.a.name), (3, .slice a2 y.a.kids.length c2), (4, .string y.b.name), (5, .slice a4 y.b.kids.length c4), (6, .slice a5 y.nums.length c5), (7, .slice a6 y.times.length c6), (8, .int .i64 y.bound), (9, .bool y.strict), (10, .bool false)]
  have hXS := hS4.sets_other (b := V) (by omega) [(1, .int .i64 y.kind), (2, .string y.a.name), (3, .slice a2 y.a.kids.length c2), (4, .string y.b.name), (5, .slice a4 y.b.kids.length c4), (6, .slice a5 y.nums.length c5), (7, .slice a6 y.times.length c6), (8, .int .i64 y.bound), (9, .bool y.strict), (10, .bool false)]
  have hXV := (((((((((hV4.put (k := 1) (by simp) (.int .i64 y.kind)).put (k := 2) (by simp) (.string y.a.name)).put (k := 3) (by simp) (.slice a2 y.a.kids.length c2)).put (k := 4) (by simp) (.string y.b.name)).put (k := 5) (by simp) (.slice a4 y.b.kids.length c4)).put (k := 6) (by simp) (.slice a5 y.nums.length c5)).put (k := 7) (by simp) (.slice a6 y.times.length c6)).put (k := 8) (by simp) (.int .i64 y.bound)).put (k := 9) (by simp) (.bool y.strict)).put (k := 10) (by simp) (.bool false)
  have hN := Only.setsR (b := V) (by omega) [(1, .int .i64 y.kind), (2, .string y.a.name), (3, .slice a2 y.a.kids.length c2), (4, .string y.b.name), (5, .slice a4 y.b.kids.length c4), (6, .slice a5 y.nums.length c5), (7, .slice a6 y.times.length c6), (8, .int .i64 y.bound), (9, .bool y.strict), (10, .bool false)] hN4
  have hRd := Rdr.sets (b := V) (by omega) [(1, .int .i64 y.kind), (2, .string y.a.name), (3, .slice a2 y.a.kids.length c2), (4, .string y.b.name), (5, .slice a4 y.b.kids.length c4), (6, .slice a5 y.nums.length c5), (7, .slice a6 y.times.length c6), (8, .int .i64 y.bound), (9, .bool y.strict), (10, .bool false)] hRd0
  have hK9 := (Same2.refl V V w4).sets (b := V) (.inl rfl) [(1, .int .i64 y.kind), (2, .string y.a.name), (3, .slice a2 y.a.kids.length c2), (4, .string y.b.name), (5, .slice a4 y.b.kids.length c4), (6, .slice a5 y.nums.length c5), (7, .slice a6 y.times.length c6), (8, .int .i64 y.bound), (9, .bool y.strict), (10, .bool false)]
  obtain ⟨ff9, hrf8, hf9⟩ := fm_lit hrf4 hry
  have hff9 : ∀ b ∈ ff9, w.heap.size + 1 < b ∧ b ≠ S ∧ b ≠ V := fun b hm => by
   rcases hf9 b hm with h | h
   ·exact hff b h
   ·exact hfy b h
  have hrs9 := hrs4.same2 hK9 (fun b hb => by have := hsf b hb; omega)
  have hrf9 := hrf8.same2 hK9 (fun b hb => by have := hff9 b hb; omega)
  have hsf9 := hsf
  simp only [zi] at hA hB hXS hN hRd hrs9 hrf9
  simp only [zdL, zdM] at hXV
  clear hA4 hB4 hS4 hV4 hN4 hrs4 hrf4 hRd0 hK9 hrf8 hf9 q1 r1 q2 r2 q3 r3 q4 r4 q5 r5 q6 r6 q7 r7 q8 r8 q9 r9 q10 r10
  generalize ((((((((((w4.setCell ⟨V, 1, none⟩ (.int .i64 y.kind)).setCell ⟨V, 2, none⟩ (.string y.a.name)).setCell ⟨V, 3, none⟩ (.slice a2 y.a.kids.length c2)).setCell ⟨V, 4, none⟩ (.string y.b.name)).setCell ⟨V, 5, none⟩ (.slice a4 y.b.kids.length c4)).setCell ⟨V, 6, none⟩ (.slice a5 y.nums.length c5)).setCell ⟨V, 7, none⟩ (.slice a6 y.times.length c6)).setCell ⟨V, 8, none⟩ (.int .i64 y.bound)).setCell ⟨V, 9, none⟩ (.bool y.strict)).setCell ⟨V, 10, none⟩ (.bool false)) = W at *
  have hs1 : s.syms.length ≤ 21 := by have := hfew.1; omega
  have hs2 : ∀ x ∈ s.syms, x.args.length ≤ 4 := fun x hx => by have := hfew.2 x hx; omega
  refine Till.start (F := (fun U : World => Box [.slice a0 s.syms.length c0] S U ∧ Box [.int .i64 f.kind, .int .i64 y.kind, .string y.a.name, .slice a2 y.a.kids.length c2, .string y.b.name, .slice a4 y.b.kids.length c4, .slice a5 y.nums.length c5, .slice a6 y.times.length c6, .int .i64 y.bound, .bool y.strict, .bool false, .slice b11 f.kids.length d11] V U)) (s0 := 3) (by kernel_rfl) ?_
  have hWd := zd W
  have hF : (fun U : World => Box [.slice a0 s.syms.length c0] S U ∧ Box [.int .i64 f.kind, .int .i64 y.kind, .string y.a.name, .slice a2 y.a.kids.length c2, .string y.b.name, .slice a4 y.b.kids.length c4, .slice a5 y.nums.length c5, .slice a6 y.times.length c6, .int .i64 y.bound, .bool y.strict, .bool false, .slice b11 f.kids.length d11] V U) W.drew := ⟨hXS.below hWd, hXV.below hWd⟩
  have hA' := hA.below hWd
  have hB' := hB.below hWd
  have hR' := hRd.below hWd
  have hN' := hN.trans (Only.below hWd)
  have Tab := zax [.slice a0 s.syms.length c0] [.int .i64 f.kind, .int .i64 y.kind, .string y.a.name, .slice a2 y.a.kids.length c2, .string y.b.name, .slice a4 y.b.kids.length c4, .slice a5 y.nums.length c5, .slice a6 y.times.length c6, .int .i64 y.bound, .bool y.strict, .bool false, .slice b11 f.kids.length d11] hA' hB' (by omega) rfl rfl
  have hK0 : Same2 w.heap.size (w.heap.size + 1) W W.drew := fun b hb _ _ => hWd.block b hb
  have hKs := hWd.size
  have hO5 := Only.setsR (b := w.heap.size + 1) (by omega) (zc 0 [.int .i64 f.kind, .int .i64 y.kind, .string y.a.name, .slice a2 y.a.kids.length c2, .string y.b.name, .slice a4 y.b.kids.length c4, .slice a5 y.nums.length c5, .slice a6 y.times.length c6, .int .i64 y.bound, .bool y.strict, .bool false, .slice b11 f.kids.length d11]) (Only.setsR (b := w.heap.size) (Nat.le_refl _) (zc 0 [.slice a0 s.syms.length c0]) hN')
  have hR9 := Rdr.sets (b := w.heap.size + 1) (by omega) (zc 0 [.int .i64 f.kind, .int .i64 y.kind, .string y.a.name, .slice a2 y.a.kids.length c2, .string y.b.name, .slice a4 y.b.kids.length c4, .slice a5 y.nums.length c5, .slice a6 y.times.length c6, .int .i64 y.bound, .bool y.strict, .bool false, .slice b11 f.kids.length d11]) (Rdr.sets (b := w.heap.size) (by omega) (zc 0 [.slice a0 s.syms.length c0]) hR')
  simp only [zc, zi, Nat.zero_add, Nat.reduceAdd] at Tab hO5 hR9
  clear hA hB hXS hXV hWd hRd hN hR' hN'
  generalize W.drew = W1 at *
  refine Till.take (i := 0) (v := (.agg #[.slice a0 s.syms.length c0])) rfl (by kernel_rfl) (by kernel_rfl) (by kernel_rfl) (fun _ _ _ h => h) (by kernel_rfl) (Or.inl ⟨by rfl, fun U hU => ?_⟩) hF ?_
  ·have u0 := hU.1.2.1 0 _ rfl; clear hU; go_simp
  try simp only [Act.put, zdK, zdL, zdM]
  refine Till.take (i := 1) (v := (.agg #[.int .i64 f.kind, .int .i64 y.kind, .string y.a.name, .slice a2 y.a.kids.length c2, .string y.b.name, .slice a4 y.b.kids.length c4, .slice a5 y.nums.length c5, .slice a6 y.times.length c6, .int .i64 y.bound, .bool y.strict, .bool false, .slice b11 f.kids.length d11])) rfl (by kernel_rfl) (by kernel_rfl) (by kernel_rfl) (fun _ _ _ h => h) (by kernel_rfl) (Or.inl ⟨by rfl, fun U hU => ?_⟩) hF ?_
  ·have u0 := hU.2.2.1 0 _ rfl; have u1 := hU.2.2.1 1 _ rfl; have u2 := hU.2.2.1 2 _ rfl; have u3 := hU.2.2.1 3 _ rfl; have u4 := hU.2.2.1 4 _ rfl; have u5 := hU.2.2.1 5 _ rfl; have u6 := hU.2.2.1 6 _ rfl; have u7 := hU.2.2.1 7 _ rfl; have u8 := hU.2.2.1 8 _ rfl; have u9 := hU.2.2.1 9 _ rfl; have u10 := hU.2.2.1 10 _ rfl; have u11 := hU.2.2.1 11 _ rfl; clear hU; go_simp
  try simp only [Act.put, zdK, zdL, zdM]
  refine Till.one (i := 2) (by kernel_rfl) rfl (fun K hK => ?_)
  have zc0 := hA'.2.1 0 _ rfl; have zf0 := hA'.2.2 0
  go_simp
  have hB2 := hB'.sets_other (b := w.heap.size) (by omega) [(0, .slice a0 s.syms.length c0)]
  have hF2 : (fun U : World => Box [.slice a0 s.syms.length c0] S U ∧ Box [.int .i64 f.kind, .int .i64 y.kind, .string y.a.name, .slice a2 y.a.kids.length c2, .string y.b.name, .slice a4 y.b.kids.length c4, .slice a5 y.nums.length c5, .slice a6 y.times.length c6, .int .i64 y.bound, .bool y.strict, .bool false, .slice b11 f.kids.length d11] V U) _ := ⟨hF.1.sets_other (b := w.heap.size) (by omega) [(0, .slice a0 s.syms.length c0)], hF.2.sets_other (b := w.heap.size) (by omega) [(0, .slice a0 s.syms.length c0)]⟩
  simp only [zi] at hB2 hF2
  refine hK.out _ _ (fun _ => hF2) ?_
  clear hK hF hF2 hA' hB' zc0 zf0
  try simp only [Act.put, zdK, zdL, zdM]
  refine Till.one (i := 3) (by kernel_rfl) rfl (fun K hK => ?_)
  have zc0 := hB2.2.1 0 _ rfl; have zf0 := hB2.2.2 0
  have zc1 := hB2.2.1 1 _ rfl; have zf1 := hB2.2.2 1
  have zc2 := hB2.2.1 2 _ rfl; have zf2 := hB2.2.2 2
  have zc3 := hB2.2.1 3 _ rfl; have zf3 := hB2.2.2 3
  have zc4 := hB2.2.1 4 _ rfl; have zf4 := hB2.2.2 4
  have zc5 := hB2.2.1 5 _ rfl; have zf5 := hB2.2.2 5
  have zc6 := hB2.2.1 6 _ rfl; have zf6 := hB2.2.2 6
  have zc7 := hB2.2.1 7 _ rfl; have zf7 := hB2.2.2 7
  have zc8 := hB2.2.1 8 _ rfl; have zf8 := hB2.2.2 8
  have zc9 := hB2.2.1 9 _ rfl; have zf9 := hB2.2.2 9
  have zc10 := hB2.2.1 10 _ rfl; have zf10 := hB2.2.2 10
  have zc11 := hB2.2.1 11 _ rfl; have zf11 := hB2.2.2 11
  go_simp
  refine hK.out _ _ (fun h => absurd h (by decide)) ?_
  clear hK hB2 zc0 zf0 zc1 zf1 zc2 zf2 zc3 zf3 zc4 zf4 zc5 zf5 zc6 zf6 zc7 zf7 zc8 zf8 zc9 zf9 zc10 zf10 zc11 zf11
  try simp only [Act.put, zdK, zdL, zdM]
  refine Till.done (by kernel_rfl) ?_ _
  obtain ⟨g1, g2, hK1⟩ := Tab
  have hK : Same2 w.heap.size (w.heap.size + 1) W _ := hK0.trans hK1 hKs
  have ra0 := g1.2.1 0 _ rfl
  have rx0 := g2.2.1 0 _ rfl
  have rx1 := g2.2.1 1 _ rfl
  have rx2 := g2.2.1 2 _ rfl
  have rx3 := g2.2.1 3 _ rfl
  have rx4 := g2.2.1 4 _ rfl
  have rx5 := g2.2.1 5 _ rfl
  have rx6 := g2.2.1 6 _ rfl
  have rx7 := g2.2.1 7 _ rfl
  have rx8 := g2.2.1 8 _ rfl
  have rx9 := g2.2.1 9 _ rfl
  have rx10 := g2.2.1 10 _ rfl
  have rx11 := g2.2.1 11 _ rfl
  clear g1 g2
  go_wp2_with fail
  refine bodyPost_ret (v := .tuple #[.agg #[.slice a0 s.syms.length c0], .agg #[.int .i64 f.kind, .int .i64 y.kind, .string y.a.name, .slice a2 y.a.kids.length c2, .string y.b.name, .slice a4 y.b.kids.length c4, .slice a5 y.nums.length c5, .slice a6 y.times.length c6, .int .i64 y.bound, .bool y.strict, .bool false, .slice b11 f.kids.length d11]]) (by simp [results, Tryz.results9, go_sem, ra0, rx0, rx1, rx2, rx3, rx4, rx5, rx6, rx7, rx8, rx9, rx10, rx11]) rfl ?_
  exact ⟨⟨s, Fm.mk f.kind ⟨y, false⟩ f.kids, _, _, _, _, _, _, _, _, _, _, _, _, _, _, ⟨hs1, hs2⟩, by have h1 := fm_lit_wt f y; have := ht.2.2.2.2.2; omega, rfl, hrs9.same2 hK (fun b hb => by have := hsf9 b hb; omega), hrf9.same2 hK (fun b hb => by have := hff9 b hb; omega), fun b hb => by have := hsf9 b hb; omega, fun b hb => by have := hff9 b hb; omega⟩, hR9.mono (by omega), hO5⟩
 have e2 : ((d : Int) == 2) = false := by simpa using (by omega : ¬ ((d : Int) = 2))
 by_cases nd3 : d = 3
 ·subst nd3
  have x3 := hS3.2.1 0 _ rfl
  go_wp2_with fail
  refine (zbR 5 2 s _ sf rb (p + 700 + 1) _ (by omega) (by omega) (by omega) hfew.1 hfew.2 (by exact hrs3) hnr hr3).mono ?_
  rintro e u5 ⟨⟨s5, v5, f5, hs5, ha5, rfl, hrd5, hf5⟩, hu5, ho5⟩
  obtain ⟨a5', c5', _, rfl, rfl, m5⟩ := Sg.open hrd5
  have hz5 := ho5.size
  have hS3z := hV3.1
  have hr3z := hr3.lt
  go_wp2_with fail
  refine (zbR (5 + 8) (2 + 1) s5 _ f5 rb (p + 700 + 1 + 20) _ (by omega) (by omega) (by omega) hs5 ha5 (by exact hrd5) (fun h => by have := hf5 _ h; omega) hu5).mono ?_
  rintro e w4 ⟨⟨s9, v6, f9, hs1, hs2, rfl, hrd9, hf9⟩, hRd0, ho6⟩
  obtain ⟨a9, c9, _, rfl, rfl, m6⟩ := Sg.open hrd9
  have ho4 := ho5.trans ho6
  have hA4 := hA3.only ho4 (by omega)
  have hB4 := hB3.only ho4 (by omega)
  have hS4 := hS3.only ho4 (by omega)
  have hV4 := hV3.only ho4 (by omega)
  have hN4 := hN3.trans ho4
  have hrf4 := hrf3.only ho4 hnf
  have hsf9 : ∀ b ∈ f9, w.heap.size + 1 < b ∧ b ≠ S ∧ b ≠ V := fun b hb => by have := hf9 b hb; omega
  clear hA3 hB3 hS3 hV3 hN3 hrs3 hrf3 hr3 ho5 ho6 ho4 hrd5 hu5 m5 m6 x3
  have k0 := hS4.2.1 0 _ rfl; have k1 := hS4.2.2 0
  go_upto_region 12 with fail
  have hA := hA4.sets_other (b := S) (by omega) [(0, .slice a9 s9.syms.length c9)]
  have hB := hB4.sets_other (b := S) (by omega) [(0, .slice a9 s9.syms.length c9)]
  have hXV := hV4.sets_other (b := S) (by omega) [(0, .slice a9 s9.syms.length c9)]
  have hXS : Box [.slice a9 s9.syms.length c9] S (w4.setCell ⟨S, 0, none⟩ (.slice a9 s9.syms.length c9)) := hS4.put (k := 0) (by simp) _
  have hN := Only.setsR (b := S) (by omega) [(0, .slice a9 s9.syms.length c9)] hN4
  have hRd := Rdr.sets (b := S) (by omega) [(0, .slice a9 s9.syms.length c9)] hRd0
  have hK9 := (Same2.refl S S w4).sets (b := S) (.inl rfl) [(0, .slice a9 s9.syms.length c9)]
  have hrs9 := hrd9.same2 hK9 (fun b hb => by have := hsf9 b hb; omega)
  have hrf9 := hrf4.same2 hK9 (fun b hb => by have := hff b hb; omega)
  have hff9 := hff
  simp only [zi] at hA hB hXV hN hRd hrs9 hrf9
  clear hA4 hB4 hS4 hV4 hN4 hrd9 hrf4 hRd0 hK9 k0 k1
  generalize w4.setCell ⟨S, 0, none⟩ (.slice a9 s9.syms.length c9) = W at *
  refine Till.start (F := (fun U : World => Box [.slice a9 s9.syms.length c9] S U ∧ Box [.int .i64 f.kind, .int .i64 f.lit.atom.kind, .string f.lit.atom.a.name, .slice b3 f.lit.atom.a.kids.length d3, .string f.lit.atom.b.name, .slice b5 f.lit.atom.b.kids.length d5, .slice b6 f.lit.atom.nums.length d6, .slice b7 f.lit.atom.times.length d7, .int .i64 f.lit.atom.bound, .bool f.lit.atom.strict, .bool f.lit.no, .slice b11 f.kids.length d11] V U)) (s0 := 3) (by kernel_rfl) ?_
  have hWd := zd W
  have hF : (fun U : World => Box [.slice a9 s9.syms.length c9] S U ∧ Box [.int .i64 f.kind, .int .i64 f.lit.atom.kind, .string f.lit.atom.a.name, .slice b3 f.lit.atom.a.kids.length d3, .string f.lit.atom.b.name, .slice b5 f.lit.atom.b.kids.length d5, .slice b6 f.lit.atom.nums.length d6, .slice b7 f.lit.atom.times.length d7, .int .i64 f.lit.atom.bound, .bool f.lit.atom.strict, .bool f.lit.no, .slice b11 f.kids.length d11] V U) W.drew := ⟨hXS.below hWd, hXV.below hWd⟩
  have hA' := hA.below hWd
  have hB' := hB.below hWd
  have hR' := hRd.below hWd
  have hN' := hN.trans (Only.below hWd)
  have Tab := zax [.slice a9 s9.syms.length c9] [.int .i64 f.kind, .int .i64 f.lit.atom.kind, .string f.lit.atom.a.name, .slice b3 f.lit.atom.a.kids.length d3, .string f.lit.atom.b.name, .slice b5 f.lit.atom.b.kids.length d5, .slice b6 f.lit.atom.nums.length d6, .slice b7 f.lit.atom.times.length d7, .int .i64 f.lit.atom.bound, .bool f.lit.atom.strict, .bool f.lit.no, .slice b11 f.kids.length d11] hA' hB' (by omega) rfl rfl
  have hK0 : Same2 w.heap.size (w.heap.size + 1) W W.drew := fun b hb _ _ => hWd.block b hb
  have hKs := hWd.size
  have hO5 := Only.setsR (b := w.heap.size + 1) (by omega) (zc 0 [.int .i64 f.kind, .int .i64 f.lit.atom.kind, .string f.lit.atom.a.name, .slice b3 f.lit.atom.a.kids.length d3, .string f.lit.atom.b.name, .slice b5 f.lit.atom.b.kids.length d5, .slice b6 f.lit.atom.nums.length d6, .slice b7 f.lit.atom.times.length d7, .int .i64 f.lit.atom.bound, .bool f.lit.atom.strict, .bool f.lit.no, .slice b11 f.kids.length d11]) (Only.setsR (b := w.heap.size) (Nat.le_refl _) (zc 0 [.slice a9 s9.syms.length c9]) hN')
  have hR9 := Rdr.sets (b := w.heap.size + 1) (by omega) (zc 0 [.int .i64 f.kind, .int .i64 f.lit.atom.kind, .string f.lit.atom.a.name, .slice b3 f.lit.atom.a.kids.length d3, .string f.lit.atom.b.name, .slice b5 f.lit.atom.b.kids.length d5, .slice b6 f.lit.atom.nums.length d6, .slice b7 f.lit.atom.times.length d7, .int .i64 f.lit.atom.bound, .bool f.lit.atom.strict, .bool f.lit.no, .slice b11 f.kids.length d11]) (Rdr.sets (b := w.heap.size) (by omega) (zc 0 [.slice a9 s9.syms.length c9]) hR')
  simp only [zc, zi, Nat.zero_add, Nat.reduceAdd] at Tab hO5 hR9
  clear hA hB hXS hXV hWd hRd hN hR' hN'
  generalize W.drew = W1 at *
  refine Till.take (i := 0) (v := (.agg #[.slice a9 s9.syms.length c9])) rfl (by kernel_rfl) (by kernel_rfl) (by kernel_rfl) (fun _ _ _ h => h) (by kernel_rfl) (Or.inl ⟨by rfl, fun U hU => ?_⟩) hF ?_
  ·have u0 := hU.1.2.1 0 _ rfl; clear hU; go_simp
  try simp only [Act.put, zdK, zdL, zdM]
  refine Till.take (i := 1) (v := (.agg #[.int .i64 f.kind, .int .i64 f.lit.atom.kind, .string f.lit.atom.a.name, .slice b3 f.lit.atom.a.kids.length d3, .string f.lit.atom.b.name, .slice b5 f.lit.atom.b.kids.length d5, .slice b6 f.lit.atom.nums.length d6, .slice b7 f.lit.atom.times.length d7, .int .i64 f.lit.atom.bound, .bool f.lit.atom.strict, .bool f.lit.no, .slice b11 f.kids.length d11])) rfl (by kernel_rfl) (by kernel_rfl) (by kernel_rfl) (fun _ _ _ h => h) (by kernel_rfl) (Or.inl ⟨by rfl, fun U hU => ?_⟩) hF ?_
  ·have u0 := hU.2.2.1 0 _ rfl; have u1 := hU.2.2.1 1 _ rfl; have u2 := hU.2.2.1 2 _ rfl; have u3 := hU.2.2.1 3 _ rfl; have u4 := hU.2.2.1 4 _ rfl; have u5 := hU.2.2.1 5 _ rfl; have u6 := hU.2.2.1 6 _ rfl; have u7 := hU.2.2.1 7 _ rfl; have u8 := hU.2.2.1 8 _ rfl; have u9 := hU.2.2.1 9 _ rfl; have u10 := hU.2.2.1 10 _ rfl; have u11 := hU.2.2.1 11 _ rfl; clear hU; go_simp
  try simp only [Act.put, zdK, zdL, zdM]
  refine Till.one (i := 2) (by kernel_rfl) rfl (fun K hK => ?_)
  have zc0 := hA'.2.1 0 _ rfl; have zf0 := hA'.2.2 0
  go_simp
  have hB2 := hB'.sets_other (b := w.heap.size) (by omega) [(0, .slice a9 s9.syms.length c9)]
  have hF2 : (fun U : World => Box [.slice a9 s9.syms.length c9] S U ∧ Box [.int .i64 f.kind, .int .i64 f.lit.atom.kind, .string f.lit.atom.a.name, .slice b3 f.lit.atom.a.kids.length d3, .string f.lit.atom.b.name, .slice b5 f.lit.atom.b.kids.length d5, .slice b6 f.lit.atom.nums.length d6, .slice b7 f.lit.atom.times.length d7, .int .i64 f.lit.atom.bound, .bool f.lit.atom.strict, .bool f.lit.no, .slice b11 f.kids.length d11] V U) _ := ⟨hF.1.sets_other (b := w.heap.size) (by omega) [(0, .slice a9 s9.syms.length c9)], hF.2.sets_other (b := w.heap.size) (by omega) [(0, .slice a9 s9.syms.length c9)]⟩
  simp only [zi] at hB2 hF2
  refine hK.out _ _ (fun _ => hF2) ?_
  clear hK hF hF2 hA' hB' zc0 zf0
  try simp only [Act.put, zdK, zdL, zdM]
  refine Till.one (i := 3) (by kernel_rfl) rfl (fun K hK => ?_)
  have zc0 := hB2.2.1 0 _ rfl; have zf0 := hB2.2.2 0
  have zc1 := hB2.2.1 1 _ rfl; have zf1 := hB2.2.2 1
  have zc2 := hB2.2.1 2 _ rfl; have zf2 := hB2.2.2 2
  have zc3 := hB2.2.1 3 _ rfl; have zf3 := hB2.2.2 3
  have zc4 := hB2.2.1 4 _ rfl; have zf4 := hB2.2.2 4
  have zc5 := hB2.2.1 5 _ rfl; have zf5 := hB2.2.2 5
  have zc6 := hB2.2.1 6 _ rfl; have zf6 := hB2.2.2 6
  have zc7 := hB2.2.1 7 _ rfl; have zf7 := hB2.2.2 7
  have zc8 := hB2.2.1 8 _ rfl; have zf8 := hB2.2.2 8
  have zc9 := hB2.2.1 9 _ rfl; have zf9 := hB2.2.2 9
  have zc10 := hB2.2.1 10 _ rfl; have zf10 := hB2.2.2 10
  have zc11 := hB2.2.1 11 _ rfl; have zf11 := hB2.2.2 11
  go_simp
  refine hK.out _ _ (fun h => absurd h (by decide)) ?_
  clear hK hB2 zc0 zf0 zc1 zf1 zc2 zf2 zc3 zf3 zc4 zf4 zc5 zf5 zc6 zf6 zc7 zf7 zc8 zf8 zc9 zf9 zc10 zf10 zc11 zf11
  try simp only [Act.put, zdK, zdL, zdM]
  refine Till.done (by kernel_rfl) ?_ _
  obtain ⟨g1, g2, hK1⟩ := Tab
  have hK : Same2 w.heap.size (w.heap.size + 1) W _ := hK0.trans hK1 hKs
  have ra0 := g1.2.1 0 _ rfl
  have rx0 := g2.2.1 0 _ rfl
  have rx1 := g2.2.1 1 _ rfl
  have rx2 := g2.2.1 2 _ rfl
  have rx3 := g2.2.1 3 _ rfl
  have rx4 := g2.2.1 4 _ rfl
  have rx5 := g2.2.1 5 _ rfl
  have rx6 := g2.2.1 6 _ rfl
  have rx7 := g2.2.1 7 _ rfl
  have rx8 := g2.2.1 8 _ rfl
  have rx9 := g2.2.1 9 _ rfl
  have rx10 := g2.2.1 10 _ rfl
  have rx11 := g2.2.1 11 _ rfl
  clear g1 g2
  go_wp2_with fail
  refine bodyPost_ret (v := .tuple #[.agg #[.slice a9 s9.syms.length c9], .agg #[.int .i64 f.kind, .int .i64 f.lit.atom.kind, .string f.lit.atom.a.name, .slice b3 f.lit.atom.a.kids.length d3, .string f.lit.atom.b.name, .slice b5 f.lit.atom.b.kids.length d5, .slice b6 f.lit.atom.nums.length d6, .slice b7 f.lit.atom.times.length d7, .int .i64 f.lit.atom.bound, .bool f.lit.atom.strict, .bool f.lit.no, .slice b11 f.kids.length d11]]) (by simp [results, Tryz.results9, go_sem, ra0, rx0, rx1, rx2, rx3, rx4, rx5, rx6, rx7, rx8, rx9, rx10, rx11]) rfl ?_
  exact ⟨⟨s9, f, _, _, _, _, _, _, _, _, _, _, _, _, _, _, ⟨hs1, hs2⟩, by omega, rfl, hrs9.same2 hK (fun b hb => by have := hsf9 b hb; omega), hrf9.same2 hK (fun b hb => by have := hff9 b hb; omega), fun b hb => by have := hsf9 b hb; omega, fun b hb => by have := hff9 b hb; omega⟩, hR9.mono (by omega), hO5⟩
 have e3 : ((d : Int) == 3) = false := by simpa using (by omega : ¬ ((d : Int) = 3))
 go_upto_region 12 with fail
 have hA := hA3; have hB := hB3; have hXS := hS3; have hXV := hV3; have hN := hN3; have hRd := hr3; have hrs9 := hrs3; have hrf9 := hrf3; have hsf9 := hsf; have hff9 := hff
 clear hA3 hB3 hS3 hV3 hN3 hr3 hrs3 hrf3
 have hs1 : s.syms.length ≤ 21 := by have := hfew.1; omega
 have hs2 : ∀ x ∈ s.syms, x.args.length ≤ 4 := fun x hx => by have := hfew.2 x hx; omega
 refine Till.start (F := (fun U : World => Box [.slice a0 s.syms.length c0] S U ∧ Box [.int .i64 f.kind, .int .i64 f.lit.atom.kind, .string f.lit.atom.a.name, .slice b3 f.lit.atom.a.kids.length d3, .string f.lit.atom.b.name, .slice b5 f.lit.atom.b.kids.length d5, .slice b6 f.lit.atom.nums.length d6, .slice b7 f.lit.atom.times.length d7, .int .i64 f.lit.atom.bound, .bool f.lit.atom.strict, .bool f.lit.no, .slice b11 f.kids.length d11] V U)) (s0 := 3) (by kernel_rfl) ?_
 have hWd := zd w3
 have hF : (fun U : World => Box [.slice a0 s.syms.length c0] S U ∧ Box [.int .i64 f.kind, .int .i64 f.lit.atom.kind, .string f.lit.atom.a.name, .slice b3 f.lit.atom.a.kids.length d3, .string f.lit.atom.b.name, .slice b5 f.lit.atom.b.kids.length d5, .slice b6 f.lit.atom.nums.length d6, .slice b7 f.lit.atom.times.length d7, .int .i64 f.lit.atom.bound, .bool f.lit.atom.strict, .bool f.lit.no, .slice b11 f.kids.length d11] V U) w3.drew := ⟨hXS.below hWd, hXV.below hWd⟩
 have hA' := hA.below hWd
 have hB' := hB.below hWd
 have hR' := hRd.below hWd
 have hN' := hN.trans (Only.below hWd)
 have Tab := zax [.slice a0 s.syms.length c0] [.int .i64 f.kind, .int .i64 f.lit.atom.kind, .string f.lit.atom.a.name, .slice b3 f.lit.atom.a.kids.length d3, .string f.lit.atom.b.name, .slice b5 f.lit.atom.b.kids.length d5, .slice b6 f.lit.atom.nums.length d6, .slice b7 f.lit.atom.times.length d7, .int .i64 f.lit.atom.bound, .bool f.lit.atom.strict, .bool f.lit.no, .slice b11 f.kids.length d11] hA' hB' (by omega) rfl rfl
 have hK0 : Same2 w.heap.size (w.heap.size + 1) w3 w3.drew := fun b hb _ _ => hWd.block b hb
 have hKs := hWd.size
 have hO5 := Only.setsR (b := w.heap.size + 1) (by omega) (zc 0 [.int .i64 f.kind, .int .i64 f.lit.atom.kind, .string f.lit.atom.a.name, .slice b3 f.lit.atom.a.kids.length d3, .string f.lit.atom.b.name, .slice b5 f.lit.atom.b.kids.length d5, .slice b6 f.lit.atom.nums.length d6, .slice b7 f.lit.atom.times.length d7, .int .i64 f.lit.atom.bound, .bool f.lit.atom.strict, .bool f.lit.no, .slice b11 f.kids.length d11]) (Only.setsR (b := w.heap.size) (Nat.le_refl _) (zc 0 [.slice a0 s.syms.length c0]) hN')
 have hR9 := Rdr.sets (b := w.heap.size + 1) (by omega) (zc 0 [.int .i64 f.kind, .int .i64 f.lit.atom.kind, .string f.lit.atom.a.name, .slice b3 f.lit.atom.a.kids.length d3, .string f.lit.atom.b.name, .slice b5 f.lit.atom.b.kids.length d5, .slice b6 f.lit.atom.nums.length d6, .slice b7 f.lit.atom.times.length d7, .int .i64 f.lit.atom.bound, .bool f.lit.atom.strict, .bool f.lit.no, .slice b11 f.kids.length d11]) (Rdr.sets (b := w.heap.size) (by omega) (zc 0 [.slice a0 s.syms.length c0]) hR')
 simp only [zc, zi, Nat.zero_add, Nat.reduceAdd] at Tab hO5 hR9
 clear hA hB hXS hXV hWd hRd hN hR' hN'
 generalize w3.drew = W1 at *
 refine Till.take (i := 0) (v := (.agg #[.slice a0 s.syms.length c0])) rfl (by kernel_rfl) (by kernel_rfl) (by kernel_rfl) (fun _ _ _ h => h) (by kernel_rfl) (Or.inl ⟨by rfl, fun U hU => ?_⟩) hF ?_
 ·have u0 := hU.1.2.1 0 _ rfl; clear hU; go_simp
 try simp only [Act.put, zdK, zdL, zdM]
 refine Till.take (i := 1) (v := (.agg #[.int .i64 f.kind, .int .i64 f.lit.atom.kind, .string f.lit.atom.a.name, .slice b3 f.lit.atom.a.kids.length d3, .string f.lit.atom.b.name, .slice b5 f.lit.atom.b.kids.length d5, .slice b6 f.lit.atom.nums.length d6, .slice b7 f.lit.atom.times.length d7, .int .i64 f.lit.atom.bound, .bool f.lit.atom.strict, .bool f.lit.no, .slice b11 f.kids.length d11])) rfl (by kernel_rfl) (by kernel_rfl) (by kernel_rfl) (fun _ _ _ h => h) (by kernel_rfl) (Or.inl ⟨by rfl, fun U hU => ?_⟩) hF ?_
 ·have u0 := hU.2.2.1 0 _ rfl; have u1 := hU.2.2.1 1 _ rfl; have u2 := hU.2.2.1 2 _ rfl; have u3 := hU.2.2.1 3 _ rfl; have u4 := hU.2.2.1 4 _ rfl; have u5 := hU.2.2.1 5 _ rfl; have u6 := hU.2.2.1 6 _ rfl; have u7 := hU.2.2.1 7 _ rfl; have u8 := hU.2.2.1 8 _ rfl; have u9 := hU.2.2.1 9 _ rfl; have u10 := hU.2.2.1 10 _ rfl; have u11 := hU.2.2.1 11 _ rfl; clear hU; go_simp
 try simp only [Act.put, zdK, zdL, zdM]
 refine Till.one (i := 2) (by kernel_rfl) rfl (fun K hK => ?_)
 have zc0 := hA'.2.1 0 _ rfl; have zf0 := hA'.2.2 0
 go_simp
 have hB2 := hB'.sets_other (b := w.heap.size) (by omega) [(0, .slice a0 s.syms.length c0)]
 have hF2 : (fun U : World => Box [.slice a0 s.syms.length c0] S U ∧ Box [.int .i64 f.kind, .int .i64 f.lit.atom.kind, .string f.lit.atom.a.name, .slice b3 f.lit.atom.a.kids.length d3, .string f.lit.atom.b.name, .slice b5 f.lit.atom.b.kids.length d5, .slice b6 f.lit.atom.nums.length d6, .slice b7 f.lit.atom.times.length d7, .int .i64 f.lit.atom.bound, .bool f.lit.atom.strict, .bool f.lit.no, .slice b11 f.kids.length d11] V U) _ := ⟨hF.1.sets_other (b := w.heap.size) (by omega) [(0, .slice a0 s.syms.length c0)], hF.2.sets_other (b := w.heap.size) (by omega) [(0, .slice a0 s.syms.length c0)]⟩
 simp only [zi] at hB2 hF2
 refine hK.out _ _ (fun _ => hF2) ?_
 clear hK hF hF2 hA' hB' zc0 zf0
 try simp only [Act.put, zdK, zdL, zdM]
 refine Till.one (i := 3) (by kernel_rfl) rfl (fun K hK => ?_)
 have zc0 := hB2.2.1 0 _ rfl; have zf0 := hB2.2.2 0
 have zc1 := hB2.2.1 1 _ rfl; have zf1 := hB2.2.2 1
 have zc2 := hB2.2.1 2 _ rfl; have zf2 := hB2.2.2 2
 have zc3 := hB2.2.1 3 _ rfl; have zf3 := hB2.2.2 3
 have zc4 := hB2.2.1 4 _ rfl; have zf4 := hB2.2.2 4
 have zc5 := hB2.2.1 5 _ rfl; have zf5 := hB2.2.2 5
 have zc6 := hB2.2.1 6 _ rfl; have zf6 := hB2.2.2 6
 have zc7 := hB2.2.1 7 _ rfl; have zf7 := hB2.2.2 7
 have zc8 := hB2.2.1 8 _ rfl; have zf8 := hB2.2.2 8
 have zc9 := hB2.2.1 9 _ rfl; have zf9 := hB2.2.2 9
 have zc10 := hB2.2.1 10 _ rfl; have zf10 := hB2.2.2 10
 have zc11 := hB2.2.1 11 _ rfl; have zf11 := hB2.2.2 11
 go_simp
 refine hK.out _ _ (fun h => absurd h (by decide)) ?_
 clear hK hB2 zc0 zf0 zc1 zf1 zc2 zf2 zc3 zf3 zc4 zf4 zc5 zf5 zc6 zf6 zc7 zf7 zc8 zf8 zc9 zf9 zc10 zf10 zc11 zf11
 try simp only [Act.put, zdK, zdL, zdM]
 refine Till.done (by kernel_rfl) ?_ _
 obtain ⟨g1, g2, hK1⟩ := Tab
 have hK : Same2 w.heap.size (w.heap.size + 1) w3 _ := hK0.trans hK1 hKs
 have ra0 := g1.2.1 0 _ rfl
 have rx0 := g2.2.1 0 _ rfl
 have rx1 := g2.2.1 1 _ rfl
 have rx2 := g2.2.1 2 _ rfl
 have rx3 := g2.2.1 3 _ rfl
 have rx4 := g2.2.1 4 _ rfl
 have rx5 := g2.2.1 5 _ rfl
 have rx6 := g2.2.1 6 _ rfl
 have rx7 := g2.2.1 7 _ rfl
 have rx8 := g2.2.1 8 _ rfl
 have rx9 := g2.2.1 9 _ rfl
 have rx10 := g2.2.1 10 _ rfl
 have rx11 := g2.2.1 11 _ rfl
 clear g1 g2
 go_wp2_with fail
 refine bodyPost_ret (v := .tuple #[.agg #[.slice a0 s.syms.length c0], .agg #[.int .i64 f.kind, .int .i64 f.lit.atom.kind, .string f.lit.atom.a.name, .slice b3 f.lit.atom.a.kids.length d3, .string f.lit.atom.b.name, .slice b5 f.lit.atom.b.kids.length d5, .slice b6 f.lit.atom.nums.length d6, .slice b7 f.lit.atom.times.length d7, .int .i64 f.lit.atom.bound, .bool f.lit.atom.strict, .bool f.lit.no, .slice b11 f.kids.length d11]]) (by simp [results, Tryz.results9, go_sem, ra0, rx0, rx1, rx2, rx3, rx4, rx5, rx6, rx7, rx8, rx9, rx10, rx11]) rfl ?_
 exact ⟨⟨s, f, _, _, _, _, _, _, _, _, _, _, _, _, _, _, ⟨hs1, hs2⟩, by omega, rfl, hrs9.same2 hK (fun b hb => by have := hsf9 b hb; omega), hrf9.same2 hK (fun b hb => by have := hff9 b hb; omega), fun b hb => by have := hsf9 b hb; omega, fun b hb => by have := hff9 b hb; omega⟩, hR9.mono (by omega), hO5⟩
end Go.Proofs.YtoehhbkhdddeeaaGreatDoor
end
