/- Parts of the proof: FormD. -/
import Derived.Test.YtoehhbkhdddeeaaGreatDoorPf42
import Derived.Test.YtoehhbkhdddeeaaGreatDoorPf7
import Derived.Test.YtoehhbkhdddeeaaGreatDoorPf39
section
namespace Go.Proofs.YtoehhbkhdddeeaaGreatDoor
open Go Go.RowKit
set_option linter.unusedVariables false
set_option linter.unusedSimpArgs false
set_option maxRecDepth 100000
set_option maxHeartbeats 16000000
theorem Own.row0 {w : World} {base e k : Nat} {v : Value} {es : List (List CD)} {fp : List Nat} (h : Own w base e k v es fp) (hne : es ≠ []) : ∃ g cap, v = .slice (some ⟨g, 0, none⟩) es.length cap ∧ base ≤ g ∧ g < w.heap.size := by
 obtain ⟨xs, ⟨_, ⟨rfl, h0⟩ | ⟨g, cap, cur, rfl, hbg, hg, _⟩⟩, _⟩ := h
 ·exact absurd (List.eq_nil_of_length_eq_zero h0) hne
 ·exact ⟨g, cap, rfl, hbg, (Array.getElem?_eq_some_iff.1 hg).1⟩
/-- The kind of a row's first form is set. -/
theorem kid0_put {w : World} {base T g n cap : Nat} {k1 : Fm} {ks : List Fm} {fp : List Nat} (h : Own w base T 12 (.slice (some ⟨g, 0, none⟩) n cap) ((k1 :: ks).map Fm.cd) fp) {k : Int} (hk : I64 k) :
  w.cell? ⟨g, 0, none⟩ = some (.int .i64 k1.kind) ∧ w.frozen? ⟨g, 0, none⟩ = false ∧ ∃ f', Rd (w.setCell ⟨g, 0, none⟩ (.int .i64 k)) (.sl ((Fm.mk k k1.lit k1.kids :: ks).map Fm.cd)) (.slice (some ⟨g, 0, none⟩) n cap) f' ∧ ∀ b ∈ f', b = g ∨ b ∈ fp := by
 have hfree := fun j => h.free j
 obtain ⟨fp', h1, h2⟩ := h.rd
 rcases h2 with ⟨h2, _⟩ | ⟨b, c, hb, rfl, hnf, hbase, hh⟩
 ·simp at h2
 obtain rfl : g = b := by simpa [Value.ownBlock] using hb
 simp only [Rd] at h1
 obtain ⟨a', c', e1, hc1, hc2, e2 | ⟨_, b', off', f, rfl, hbl, hfe, hr⟩⟩ := h1
 ·simp at e2
 simp only [Value.slice.injEq, Option.some.injEq, Addr.mk.injEq, and_true] at e1
 obtain ⟨⟨rfl, rfl⟩, rfl, rfl⟩ := e1
 obtain rfl : fp = f := by simpa using hfe
 obtain ⟨xs, hcells, hvs⟩ := hr.flat
 have hbox : Box xs g w := ⟨hbl, fun j v hv => by have := hcells j v hv; simpa [Addr.add_lit] using this, hfree⟩
 rw [List.map_cons, List.flatten_cons, Fm.cd_eq] at hvs
 simp only [List.cons_append, List.nil_append, RdVs, Rd] at hvs
 obtain ⟨v, vs', f1, f2, rfl, rfl, ⟨rfl, _, rfl⟩, hrest⟩ := hvs
 have hs : SameOn ([] ++ f2) w (w.setCell ⟨g, 0, none⟩ (.int .i64 k)) := zy (fun b hb (e : b = g) => hnf (e ▸ hb))
 have hb2 := hbox.put (k := 0) (by simp) (.int .i64 k)
 refine ⟨hbox.2.1 0 _ rfl, hfree 0, g :: ([] ++ f2), ?_, fun b hb => by simpa using hb⟩
 simp only [Rd]
 refine ⟨_, cap, by simp, by simpa using hc1, hc2, .inr ⟨by simp, g, 0, [] ++ f2, rfl, hb2.1, rfl, ?_⟩⟩
 refine RdRows.mk (k := 12) (vs := .int .i64 k :: vs') (fun j v hv => ?_) ?_
 ·have := hb2.2.1 j v (by simpa using hv)
  simpa [Addr.add_lit] using this
 ·rw [List.map_cons, List.flatten_cons, Fm.cd_eq]
  simp only [List.cons_append, List.nil_append, RdVs, Rd]
  exact ⟨_, _, [], f2, rfl, rfl, ⟨rfl, hk, rfl⟩, RdVs.same _ hrest (by simpa using hs)⟩
theorem kid0_wt {f k1 : Fm} {ks : List Fm} {k : Int} (h : f.kids = k1 :: ks) : wtV (Fm.mk f.kind f.lit (Fm.mk k k1.lit k1.kids :: ks)).cd = wtV f.cd := by
 have h1 : (Fm.mk f.kind f.lit (Fm.mk k k1.lit k1.kids :: ks)).lit = f.lit := rfl
 have h2 : (Fm.mk f.kind f.lit (Fm.mk k k1.lit k1.kids :: ks)).kids = Fm.mk k k1.lit k1.kids :: ks := rfl
 rw [Fm.wt_eq, Fm.wt_eq f, h, h1, h2]
 simp only [List.map_cons, wtR, List.length_cons]
 rw [zbS]
def DrawnFF (e : Ending) (w' : World) : Prop := ∃ (f g : Fm) (b3 : Option Addr) (d3 : Nat) (b5 : Option Addr) (d5 : Nat) (b6 : Option Addr) (d6 : Nat) (b7 : Option Addr) (d7 : Nat) (b11 : Option Addr) (d11 : Nat) (p3 : Option Addr) (q3 : Nat) (p5 : Option Addr) (q5 : Nat) (p6 : Option Addr) (q6 : Nat) (p7 : Option Addr) (q7 : Nat) (p11 : Option Addr) (q11 : Nat) (ff gf : List Nat), wtV f.cd ≤ 160000 ∧ wtV g.cd ≤ 160000 ∧
 e = .returned (.tuple #[.agg #[.int .i64 f.kind, .int .i64 f.lit.atom.kind, .string f.lit.atom.a.name, .slice b3 f.lit.atom.a.kids.length d3, .string f.lit.atom.b.name, .slice b5 f.lit.atom.b.kids.length d5, .slice b6 f.lit.atom.nums.length d6, .slice b7 f.lit.atom.times.length d7, .int .i64 f.lit.atom.bound, .bool f.lit.atom.strict, .bool f.lit.no, .slice b11 f.kids.length d11], .agg #[.int .i64 g.kind, .int .i64 g.lit.atom.kind, .string g.lit.atom.a.name, .slice p3 g.lit.atom.a.kids.length q3, .string g.lit.atom.b.name, .slice p5 g.lit.atom.b.kids.length q5, .slice p6 g.lit.atom.nums.length q6, .slice p7 g.lit.atom.times.length q7, .int .i64 g.lit.atom.bound, .bool g.lit.atom.strict, .bool g.lit.no, .slice p11 g.kids.length q11]]) ∧ RdVs w' f.cd [.int .i64 f.kind, .int .i64 f.lit.atom.kind, .string f.lit.atom.a.name, .slice b3 f.lit.atom.a.kids.length d3, .string f.lit.atom.b.name, .slice b5 f.lit.atom.b.kids.length d5, .slice b6 f.lit.atom.nums.length d6, .slice b7 f.lit.atom.times.length d7, .int .i64 f.lit.atom.bound, .bool f.lit.atom.strict, .bool f.lit.no, .slice b11 f.kids.length d11] ff ∧ RdVs w' g.cd [.int .i64 g.kind, .int .i64 g.lit.atom.kind, .string g.lit.atom.a.name, .slice p3 g.lit.atom.a.kids.length q3, .string g.lit.atom.b.name, .slice p5 g.lit.atom.b.kids.length q5, .slice p6 g.lit.atom.nums.length q6, .slice p7 g.lit.atom.times.length q7, .int .i64 g.lit.atom.bound, .bool g.lit.atom.strict, .bool g.lit.no, .slice p11 g.kids.length q11] gf
theorem zbh (v : Value) (w : World) (hv : Byts w v) :
  Calls Tryz.prog 4 #[v] w fun e w' => DrawnFF e w' ∧ Below w.heap.size w w' := by
 have hB0 : Below w.heap.size w ((w.alloc (.cells #[.int .i64 0, .int .i64 0, .string ⟨#[]⟩, .slice none 0 0, .string ⟨#[]⟩, .slice none 0 0, .slice none 0 0, .slice none 0 0, .int .i64 0, .bool false, .bool false, .slice none 0 0] 33)).alloc (.cells #[.int .i64 0, .int .i64 0, .string ⟨#[]⟩, .slice none 0 0, .string ⟨#[]⟩, .slice none 0 0, .slice none 0 0, .slice none 0 0, .int .i64 0, .bool false, .bool false, .slice none 0 0] 33)) := ((Below.refl _ _).alloc (Nat.le_refl _) _).alloc (by simp) _
 have hA := (Box.new w [.int .i64 0, .int .i64 0, .string ⟨#[]⟩, .slice none 0 0, .string ⟨#[]⟩, .slice none 0 0, .slice none 0 0, .slice none 0 0, .int .i64 0, .bool false, .bool false, .slice none 0 0] 33).alloc (.cells #[.int .i64 0, .int .i64 0, .string ⟨#[]⟩, .slice none 0 0, .string ⟨#[]⟩, .slice none 0 0, .slice none 0 0, .slice none 0 0, .int .i64 0, .bool false, .bool false, .slice none 0 0] 33)
 have hB := Box.new (w.alloc (.cells #[.int .i64 0, .int .i64 0, .string ⟨#[]⟩, .slice none 0 0, .string ⟨#[]⟩, .slice none 0 0, .slice none 0 0, .slice none 0 0, .int .i64 0, .bool false, .bool false, .slice none 0 0] 33)) [.int .i64 0, .int .i64 0, .string ⟨#[]⟩, .slice none 0 0, .string ⟨#[]⟩, .slice none 0 0, .slice none 0 0, .slice none 0 0, .int .i64 0, .bool false, .bool false, .slice none 0 0] 33
 rw [World.size_alloc] at hB
 have hs0 : ((w.alloc (.cells #[.int .i64 0, .int .i64 0, .string ⟨#[]⟩, .slice none 0 0, .string ⟨#[]⟩, .slice none 0 0, .slice none 0 0, .slice none 0 0, .int .i64 0, .bool false, .bool false, .slice none 0 0] 33)).alloc (.cells #[.int .i64 0, .int .i64 0, .string ⟨#[]⟩, .slice none 0 0, .string ⟨#[]⟩, .slice none 0 0, .slice none 0 0, .slice none 0 0, .int .i64 0, .bool false, .bool false, .slice none 0 0] 33)).heap.size = w.heap.size + 1 + 1 := by simp
 go_enter Tryz.func4, Tryz.ntmps4
 go_upto_region 1 with fail
 generalize ((w.alloc (.cells #[.int .i64 0, .int .i64 0, .string ⟨#[]⟩, .slice none 0 0, .string ⟨#[]⟩, .slice none 0 0, .slice none 0 0, .slice none 0 0, .int .i64 0, .bool false, .bool false, .slice none 0 0] 33)).alloc (.cells #[.int .i64 0, .int .i64 0, .string ⟨#[]⟩, .slice none 0 0, .string ⟨#[]⟩, .slice none 0 0, .slice none 0 0, .slice none 0 0, .int .i64 0, .bool false, .bool false, .slice none 0 0] 33)) = W00 at *
 go_wp2_with fail
 refine (zcC v _ (by exact hv.below hB0)).mono ?_
 rintro e u1 ⟨rfl, hu1, hb1⟩
 rw [hs0] at hu1 ⊢
 replace hA := hA.below hb1
 replace hB := hB.below hb1
 have hBW := hB0.trans (hb1.mono (by omega))
 have hzu := hb1.size
 rw [hs0] at hzu
 obtain ⟨rb, hrb⟩ : ∃ rb, rb = w.heap.size + 1 + 1 := ⟨_, rfl⟩
 rw [← hrb] at hu1 ⊢
 have hrw1 : rb ≤ w.heap.size + 1 + 1 := by omega
 have hrw2 : w.heap.size + 1 + 1 ≤ rb := by omega
 clear hrb hb1 hs0 hB0
 have hl1 := hu1.lt
 go_wp2_with fail
 refine (zbT rb 0 _ (by omega) hu1).mono ?_
 rintro e w1 ⟨⟨s, f, a0, c0, b3, d3, b5, d5, b6, d6, b7, d7, b11, d11, sf, ff, _, hwf, rfl, hrs, hrf, hsf, hff⟩, hRd, ho1⟩
 have hz1 := ho1.size
 have hnf : rb ∉ ff := fun h => by have := hff _ h; omega
 replace hff : ∀ b ∈ ff, w.heap.size + 1 < b := fun b hb => by have := hff b hb; omega
 replace hA := hA.only ho1 (by omega)
 replace hB := hB.only ho1 (by omega)
 replace hBW := hBW.trans (ho1.toBelow (B := w.heap.size) (by omega) (fun b hb => by simp at hb; omega))
 clear ho1 hrs hsf hu1
 obtain ⟨V, hVe⟩ : ∃ V, V = w1.heap.size + 1 := ⟨_, rfl⟩
 have hX := Box.new (w1.alloc (.cells #[.slice a0 s.syms.length c0] 43)) [.int .i64 f.kind, .int .i64 f.lit.atom.kind, .string f.lit.atom.a.name, .slice b3 f.lit.atom.a.kids.length d3, .string f.lit.atom.b.name, .slice b5 f.lit.atom.b.kids.length d5, .slice b6 f.lit.atom.nums.length d6, .slice b7 f.lit.atom.times.length d7, .int .i64 f.lit.atom.bound, .bool f.lit.atom.strict, .bool f.lit.no, .slice b11 f.kids.length d11] 33
 rw [World.size_alloc, ← hVe] at hX
 have hrV : rb < V := by omega
 have hfV : ∀ b ∈ ff, b < V := fun b hb => by have := hrf.lt _ b hb; omega
 go_upto_region 3 with fail
 try rw [← hVe]
 have hba : Below w1.heap.size w1 ((w1.alloc (.cells #[.slice a0 s.syms.length c0] 43)).alloc (.cells #[.int .i64 f.kind, .int .i64 f.lit.atom.kind, .string f.lit.atom.a.name, .slice b3 f.lit.atom.a.kids.length d3, .string f.lit.atom.b.name, .slice b5 f.lit.atom.b.kids.length d5, .slice b6 f.lit.atom.nums.length d6, .slice b7 f.lit.atom.times.length d7, .int .i64 f.lit.atom.bound, .bool f.lit.atom.strict, .bool f.lit.no, .slice b11 f.kids.length d11] 33)) := ((Below.refl _ _).alloc (Nat.le_refl _) _).alloc (by simp) _
 replace hA := hA.below hba
 replace hB := hB.below hba
 replace hrf := hrf.below hba
 replace hRd := hRd.below hba
 replace hBW := hBW.trans (hba.mono (by have := hBW.size; omega))
 clear hba hVe hz1 hzu hl1
 generalize (w1.alloc (.cells #[.slice a0 s.syms.length c0] 43)).alloc (.cells #[.int .i64 f.kind, .int .i64 f.lit.atom.kind, .string f.lit.atom.a.name, .slice b3 f.lit.atom.a.kids.length d3, .string f.lit.atom.b.name, .slice b5 f.lit.atom.b.kids.length d5, .slice b6 f.lit.atom.nums.length d6, .slice b7 f.lit.atom.times.length d7, .int .i64 f.lit.atom.bound, .bool f.lit.atom.strict, .bool f.lit.no, .slice b11 f.kids.length d11] 33) = w2 at *
 go_wp2_with fail
 refine (zz rb (0 + 1000) 2 _ (by omega) (by omega) (by omega) hRd).mono ?_
 rintro e w5 ⟨⟨m, hm, rfl⟩, hRn, ho⟩
 replace hA := hA.only ho (by omega)
 replace hB := hB.only ho (by omega)
 replace hX := hX.only ho (by omega)
 replace hrf := hrf.only ho hnf
 replace hBW := hBW.trans (ho.toBelow (B := w.heap.size) (by have := hBW.size; omega) (fun b hb => by simp at hb; omega))
 clear hRd ho
 have hRd := hRn
 clear hRn hm
 by_cases hm0 : m = 0
 ·have tk : ((m : Int) == 0) = true := by subst hm0; rfl
  go_wp2_with fail
  refine (zbT rb (0 + 1000 + 1) _ (by omega) hRd).mono ?_
  rintro e w6 ⟨⟨s2, g, e0, i0, p3, q3, p5, q5, p6, q6, p7, q7, p11, q11, sg, gf, _, hwg, rfl, hrs2, hrg, hsg, hgf⟩, hRn, ho⟩
  have hz6 := ho.size
  have hXl := hX.1
  have hz5 := hBW.size
  replace hgf : ∀ b ∈ gf, w.heap.size + 1 < b := fun b hb => by have := hgf b hb; omega
  replace hA := hA.only ho (by omega)
  replace hB := hB.only ho (by omega)
  replace hX := hX.only ho (by omega)
  replace hrf := hrf.only ho hnf
  replace hBW := hBW.trans (ho.toBelow (B := w.heap.size) (by have := hBW.size; omega) (fun b hb => by simp at hb; omega))
  clear hRd ho hRn hrs2 hsg
  obtain ⟨V2, hVe⟩ : ∃ V2, V2 = w6.heap.size + 1 := ⟨_, rfl⟩
  have hXV := Box.new (w6.alloc (.cells #[.slice e0 s2.syms.length i0] 43)) [.int .i64 g.kind, .int .i64 g.lit.atom.kind, .string g.lit.atom.a.name, .slice p3 g.lit.atom.a.kids.length q3, .string g.lit.atom.b.name, .slice p5 g.lit.atom.b.kids.length q5, .slice p6 g.lit.atom.nums.length q6, .slice p7 g.lit.atom.times.length q7, .int .i64 g.lit.atom.bound, .bool g.lit.atom.strict, .bool g.lit.no, .slice p11 g.kids.length q11] 33
  rw [World.size_alloc, ← hVe] at hXV
  have hVV : V < V2 := by omega
  go_upto_region 5 with fail
  try rw [← hVe]
  have hba : Below w6.heap.size w6 ((w6.alloc (.cells #[.slice e0 s2.syms.length i0] 43)).alloc (.cells #[.int .i64 g.kind, .int .i64 g.lit.atom.kind, .string g.lit.atom.a.name, .slice p3 g.lit.atom.a.kids.length q3, .string g.lit.atom.b.name, .slice p5 g.lit.atom.b.kids.length q5, .slice p6 g.lit.atom.nums.length q6, .slice p7 g.lit.atom.times.length q7, .int .i64 g.lit.atom.bound, .bool g.lit.atom.strict, .bool g.lit.no, .slice p11 g.kids.length q11] 33)) := ((Below.refl _ _).alloc (Nat.le_refl _) _).alloc (by simp) _
  replace hA := hA.below hba
  replace hB := hB.below hba
  replace hX := hX.below hba
  replace hrf := hrf.below hba
  replace hrg := hrg.below hba
  replace hBW := hBW.trans (hba.mono (by have := hBW.size; omega))
  clear hba hVe
  have hXS := hX
  clear hX
  generalize (w6.alloc (.cells #[.slice e0 s2.syms.length i0] 43)).alloc (.cells #[.int .i64 g.kind, .int .i64 g.lit.atom.kind, .string g.lit.atom.a.name, .slice p3 g.lit.atom.a.kids.length q3, .string g.lit.atom.b.name, .slice p5 g.lit.atom.b.kids.length q5, .slice p6 g.lit.atom.nums.length q6, .slice p7 g.lit.atom.times.length q7, .int .i64 g.lit.atom.bound, .bool g.lit.atom.strict, .bool g.lit.no, .slice p11 g.kids.length q11] 33) = W at *
  refine Till.start (F := (fun U : World => Box [.int .i64 f.kind, .int .i64 f.lit.atom.kind, .string f.lit.atom.a.name, .slice b3 f.lit.atom.a.kids.length d3, .string f.lit.atom.b.name, .slice b5 f.lit.atom.b.kids.length d5, .slice b6 f.lit.atom.nums.length d6, .slice b7 f.lit.atom.times.length d7, .int .i64 f.lit.atom.bound, .bool f.lit.atom.strict, .bool f.lit.no, .slice b11 f.kids.length d11] V U ∧ Box [.int .i64 g.kind, .int .i64 g.lit.atom.kind, .string g.lit.atom.a.name, .slice p3 g.lit.atom.a.kids.length q3, .string g.lit.atom.b.name, .slice p5 g.lit.atom.b.kids.length q5, .slice p6 g.lit.atom.nums.length q6, .slice p7 g.lit.atom.times.length q7, .int .i64 g.lit.atom.bound, .bool g.lit.atom.strict, .bool g.lit.no, .slice p11 g.kids.length q11] V2 U)) (s0 := 3) (by kernel_rfl) ?_
  have hF : (fun U : World => Box [.int .i64 f.kind, .int .i64 f.lit.atom.kind, .string f.lit.atom.a.name, .slice b3 f.lit.atom.a.kids.length d3, .string f.lit.atom.b.name, .slice b5 f.lit.atom.b.kids.length d5, .slice b6 f.lit.atom.nums.length d6, .slice b7 f.lit.atom.times.length d7, .int .i64 f.lit.atom.bound, .bool f.lit.atom.strict, .bool f.lit.no, .slice b11 f.kids.length d11] V U ∧ Box [.int .i64 g.kind, .int .i64 g.lit.atom.kind, .string g.lit.atom.a.name, .slice p3 g.lit.atom.a.kids.length q3, .string g.lit.atom.b.name, .slice p5 g.lit.atom.b.kids.length q5, .slice p6 g.lit.atom.nums.length q6, .slice p7 g.lit.atom.times.length q7, .int .i64 g.lit.atom.bound, .bool g.lit.atom.strict, .bool g.lit.no, .slice p11 g.kids.length q11] V2 U) W.drew := ⟨hXS, hXV⟩
  have hA' : Box _ _ W.drew := hA
  have hB' : Box _ _ W.drew := hB
  have hWd : Below W.heap.size W W.drew := zd W
  have Tab' := zdj [.int .i64 f.kind, .int .i64 f.lit.atom.kind, .string f.lit.atom.a.name, .slice b3 f.lit.atom.a.kids.length d3, .string f.lit.atom.b.name, .slice b5 f.lit.atom.b.kids.length d5, .slice b6 f.lit.atom.nums.length d6, .slice b7 f.lit.atom.times.length d7, .int .i64 f.lit.atom.bound, .bool f.lit.atom.strict, .bool f.lit.no, .slice b11 f.kids.length d11] [.int .i64 g.kind, .int .i64 g.lit.atom.kind, .string g.lit.atom.a.name, .slice p3 g.lit.atom.a.kids.length q3, .string g.lit.atom.b.name, .slice p5 g.lit.atom.b.kids.length q5, .slice p6 g.lit.atom.nums.length q6, .slice p7 g.lit.atom.times.length q7, .int .i64 g.lit.atom.bound, .bool g.lit.atom.strict, .bool g.lit.no, .slice p11 g.kids.length q11] hA' hB' (by omega) rfl rfl (hBW.trans (hWd.mono (by have := hBW.size; omega))) (by omega)
  have hK0 : Same2 w.heap.size (w.heap.size + 1) W W.drew := fun b hb _ _ => hWd.block b hb
  have hKs := hWd.size
  clear hA hB hBW hXS hXV hWd
  generalize W.drew = W1 at *
  refine Till.take (i := 0) (v := (.agg #[.int .i64 f.kind, .int .i64 f.lit.atom.kind, .string f.lit.atom.a.name, .slice b3 f.lit.atom.a.kids.length d3, .string f.lit.atom.b.name, .slice b5 f.lit.atom.b.kids.length d5, .slice b6 f.lit.atom.nums.length d6, .slice b7 f.lit.atom.times.length d7, .int .i64 f.lit.atom.bound, .bool f.lit.atom.strict, .bool f.lit.no, .slice b11 f.kids.length d11])) rfl (by kernel_rfl) (by kernel_rfl) (by kernel_rfl) (fun _ _ _ h => h) (by kernel_rfl) (Or.inl ⟨by rfl, fun U hU => ?_⟩) hF ?_
  ·have u0 := hU.1.2.1 0 _ rfl; have u1 := hU.1.2.1 1 _ rfl; have u2 := hU.1.2.1 2 _ rfl; have u3 := hU.1.2.1 3 _ rfl; have u4 := hU.1.2.1 4 _ rfl; have u5 := hU.1.2.1 5 _ rfl; have u6 := hU.1.2.1 6 _ rfl; have u7 := hU.1.2.1 7 _ rfl; have u8 := hU.1.2.1 8 _ rfl; have u9 := hU.1.2.1 9 _ rfl; have u10 := hU.1.2.1 10 _ rfl; have u11 := hU.1.2.1 11 _ rfl; clear hU; go_simp
  try simp only [Act.put, zdK, zdL, zdM]
  refine Till.take (i := 1) (v := (.agg #[.int .i64 g.kind, .int .i64 g.lit.atom.kind, .string g.lit.atom.a.name, .slice p3 g.lit.atom.a.kids.length q3, .string g.lit.atom.b.name, .slice p5 g.lit.atom.b.kids.length q5, .slice p6 g.lit.atom.nums.length q6, .slice p7 g.lit.atom.times.length q7, .int .i64 g.lit.atom.bound, .bool g.lit.atom.strict, .bool g.lit.no, .slice p11 g.kids.length q11])) rfl (by kernel_rfl) (by kernel_rfl) (by kernel_rfl) (fun _ _ _ h => h) (by kernel_rfl) (Or.inl ⟨by rfl, fun U hU => ?_⟩) hF ?_
  ·have u0 := hU.2.2.1 0 _ rfl; have u1 := hU.2.2.1 1 _ rfl; have u2 := hU.2.2.1 2 _ rfl; have u3 := hU.2.2.1 3 _ rfl; have u4 := hU.2.2.1 4 _ rfl; have u5 := hU.2.2.1 5 _ rfl; have u6 := hU.2.2.1 6 _ rfl; have u7 := hU.2.2.1 7 _ rfl; have u8 := hU.2.2.1 8 _ rfl; have u9 := hU.2.2.1 9 _ rfl; have u10 := hU.2.2.1 10 _ rfl; have u11 := hU.2.2.1 11 _ rfl; clear hU; go_simp
  try simp only [Act.put, zdK, zdL, zdM]
  refine Till.one (i := 2) (by kernel_rfl) rfl (fun K hK => ?_)
  have c0 := hA'.2.1 0 _ rfl; have f0 := hA'.2.2 0
  have c1 := hA'.2.1 1 _ rfl; have f1 := hA'.2.2 1
  have c2 := hA'.2.1 2 _ rfl; have f2 := hA'.2.2 2
  have c3 := hA'.2.1 3 _ rfl; have f3 := hA'.2.2 3
  have c4 := hA'.2.1 4 _ rfl; have f4 := hA'.2.2 4
  have c5 := hA'.2.1 5 _ rfl; have f5 := hA'.2.2 5
  have c6 := hA'.2.1 6 _ rfl; have f6 := hA'.2.2 6
  have c7 := hA'.2.1 7 _ rfl; have f7 := hA'.2.2 7
  have c8 := hA'.2.1 8 _ rfl; have f8 := hA'.2.2 8
  have c9 := hA'.2.1 9 _ rfl; have f9 := hA'.2.2 9
  have c10 := hA'.2.1 10 _ rfl; have f10 := hA'.2.2 10
  have c11 := hA'.2.1 11 _ rfl; have f11 := hA'.2.2 11
  go_simp
  have hB2 := hB'.sets_other (b := w.heap.size) (by omega) [(0, .int .i64 f.kind), (1, .int .i64 f.lit.atom.kind), (2, .string f.lit.atom.a.name), (3, .slice b3 f.lit.atom.a.kids.length d3), (4, .string f.lit.atom.b.name), (5, .slice b5 f.lit.atom.b.kids.length d5), (6, .slice b6 f.lit.atom.nums.length d6), (7, .slice b7 f.lit.atom.times.length d7), (8, .int .i64 f.lit.atom.bound), (9, .bool f.lit.atom.strict), (10, .bool f.lit.no), (11, .slice b11 f.kids.length d11)]
  have hF2 : (fun U : World => Box [.int .i64 f.kind, .int .i64 f.lit.atom.kind, .string f.lit.atom.a.name, .slice b3 f.lit.atom.a.kids.length d3, .string f.lit.atom.b.name, .slice b5 f.lit.atom.b.kids.length d5, .slice b6 f.lit.atom.nums.length d6, .slice b7 f.lit.atom.times.length d7, .int .i64 f.lit.atom.bound, .bool f.lit.atom.strict, .bool f.lit.no, .slice b11 f.kids.length d11] V U ∧ Box [.int .i64 g.kind, .int .i64 g.lit.atom.kind, .string g.lit.atom.a.name, .slice p3 g.lit.atom.a.kids.length q3, .string g.lit.atom.b.name, .slice p5 g.lit.atom.b.kids.length q5, .slice p6 g.lit.atom.nums.length q6, .slice p7 g.lit.atom.times.length q7, .int .i64 g.lit.atom.bound, .bool g.lit.atom.strict, .bool g.lit.no, .slice p11 g.kids.length q11] V2 U) _ := ⟨hF.1.sets_other (b := w.heap.size) (by omega) [(0, .int .i64 f.kind), (1, .int .i64 f.lit.atom.kind), (2, .string f.lit.atom.a.name), (3, .slice b3 f.lit.atom.a.kids.length d3), (4, .string f.lit.atom.b.name), (5, .slice b5 f.lit.atom.b.kids.length d5), (6, .slice b6 f.lit.atom.nums.length d6), (7, .slice b7 f.lit.atom.times.length d7), (8, .int .i64 f.lit.atom.bound), (9, .bool f.lit.atom.strict), (10, .bool f.lit.no), (11, .slice b11 f.kids.length d11)], hF.2.sets_other (b := w.heap.size) (by omega) [(0, .int .i64 f.kind), (1, .int .i64 f.lit.atom.kind), (2, .string f.lit.atom.a.name), (3, .slice b3 f.lit.atom.a.kids.length d3), (4, .string f.lit.atom.b.name), (5, .slice b5 f.lit.atom.b.kids.length d5), (6, .slice b6 f.lit.atom.nums.length d6), (7, .slice b7 f.lit.atom.times.length d7), (8, .int .i64 f.lit.atom.bound), (9, .bool f.lit.atom.strict), (10, .bool f.lit.no), (11, .slice b11 f.kids.length d11)]⟩
  simp only [zi] at hB2 hF2
  refine hK.out _ _ (fun _ => hF2) ?_
  clear hK hF hF2 hA' hB' c0 f0 c1 f1 c2 f2 c3 f3 c4 f4 c5 f5 c6 f6 c7 f7 c8 f8 c9 f9 c10 f10 c11 f11
  try simp only [Act.put, zdK, zdL, zdM]
  refine Till.one (i := 3) (by kernel_rfl) rfl (fun K hK => ?_)
  have c0 := hB2.2.1 0 _ rfl; have f0 := hB2.2.2 0
  have c1 := hB2.2.1 1 _ rfl; have f1 := hB2.2.2 1
  have c2 := hB2.2.1 2 _ rfl; have f2 := hB2.2.2 2
  have c3 := hB2.2.1 3 _ rfl; have f3 := hB2.2.2 3
  have c4 := hB2.2.1 4 _ rfl; have f4 := hB2.2.2 4
  have c5 := hB2.2.1 5 _ rfl; have f5 := hB2.2.2 5
  have c6 := hB2.2.1 6 _ rfl; have f6 := hB2.2.2 6
  have c7 := hB2.2.1 7 _ rfl; have f7 := hB2.2.2 7
  have c8 := hB2.2.1 8 _ rfl; have f8 := hB2.2.2 8
  have c9 := hB2.2.1 9 _ rfl; have f9 := hB2.2.2 9
  have c10 := hB2.2.1 10 _ rfl; have f10 := hB2.2.2 10
  have c11 := hB2.2.1 11 _ rfl; have f11 := hB2.2.2 11
  go_simp
  refine hK.out _ _ (fun h => absurd h (by decide)) ?_
  clear hK hB2 c0 f0 c1 f1 c2 f2 c3 f3 c4 f4 c5 f5 c6 f6 c7 f7 c8 f8 c9 f9 c10 f10 c11 f11
  try simp only [Act.put, zdK, zdL, zdM]
  refine Till.done (by kernel_rfl) ?_ _
  simp only [zc, zi, Nat.zero_add, Nat.reduceAdd] at Tab'
  obtain ⟨g1, g2, hWA, hK1⟩ := Tab'
  have hK : Same2 w.heap.size (w.heap.size + 1) W _ := hK0.trans hK1 hKs
  have ra0 := g1.2.1 0 _ rfl
  have ra1 := g1.2.1 1 _ rfl
  have ra2 := g1.2.1 2 _ rfl
  have ra3 := g1.2.1 3 _ rfl
  have ra4 := g1.2.1 4 _ rfl
  have ra5 := g1.2.1 5 _ rfl
  have ra6 := g1.2.1 6 _ rfl
  have ra7 := g1.2.1 7 _ rfl
  have ra8 := g1.2.1 8 _ rfl
  have ra9 := g1.2.1 9 _ rfl
  have ra10 := g1.2.1 10 _ rfl
  have ra11 := g1.2.1 11 _ rfl
  have rb0 := g2.2.1 0 _ rfl
  have rb1 := g2.2.1 1 _ rfl
  have rb2 := g2.2.1 2 _ rfl
  have rb3 := g2.2.1 3 _ rfl
  have rb4 := g2.2.1 4 _ rfl
  have rb5 := g2.2.1 5 _ rfl
  have rb6 := g2.2.1 6 _ rfl
  have rb7 := g2.2.1 7 _ rfl
  have rb8 := g2.2.1 8 _ rfl
  have rb9 := g2.2.1 9 _ rfl
  have rb10 := g2.2.1 10 _ rfl
  have rb11 := g2.2.1 11 _ rfl
  go_wp2_with fail
  refine bodyPost_ret (v := .tuple #[.agg #[.int .i64 f.kind, .int .i64 f.lit.atom.kind, .string f.lit.atom.a.name, .slice b3 f.lit.atom.a.kids.length d3, .string f.lit.atom.b.name, .slice b5 f.lit.atom.b.kids.length d5, .slice b6 f.lit.atom.nums.length d6, .slice b7 f.lit.atom.times.length d7, .int .i64 f.lit.atom.bound, .bool f.lit.atom.strict, .bool f.lit.no, .slice b11 f.kids.length d11], .agg #[.int .i64 g.kind, .int .i64 g.lit.atom.kind, .string g.lit.atom.a.name, .slice p3 g.lit.atom.a.kids.length q3, .string g.lit.atom.b.name, .slice p5 g.lit.atom.b.kids.length q5, .slice p6 g.lit.atom.nums.length q6, .slice p7 g.lit.atom.times.length q7, .int .i64 g.lit.atom.bound, .bool g.lit.atom.strict, .bool g.lit.no, .slice p11 g.kids.length q11]]) (by simp [results, Tryz.results4, go_sem, ra0, ra1, ra2, ra3, ra4, ra5, ra6, ra7, ra8, ra9, ra10, ra11, rb0, rb1, rb2, rb3, rb4, rb5, rb6, rb7, rb8, rb9, rb10, rb11]) rfl ?_
  exact ⟨⟨f, g, _, _, _, _, _, _, _, _, _, _, _, _, _, _, _, _, _, _, _, _, _, _, hwf, hwg, rfl, hrf.same2 hK (fun b hb => by have := hff b hb; omega), hrg.same2 hK (fun b hb => by have := hgf b hb; omega)⟩, hWA⟩
 ·have tk : ((m : Int) == 0) = false := by simpa using hm0
  have q0 := hX.2.1 0 _ rfl; have q1 := hX.2.1 1 _ rfl; have q2 := hX.2.1 2 _ rfl; have q3 := hX.2.1 3 _ rfl; have q4 := hX.2.1 4 _ rfl; have q5 := hX.2.1 5 _ rfl; have q6 := hX.2.1 6 _ rfl; have q7 := hX.2.1 7 _ rfl; have q8 := hX.2.1 8 _ rfl; have q9 := hX.2.1 9 _ rfl; have q10 := hX.2.1 10 _ rfl; have q11 := hX.2.1 11 _ rfl
  obtain ⟨V3, hVe⟩ : ∃ V3, V3 = w5.heap.size := ⟨_, rfl⟩
  have hY := Box.new w5 [.int .i64 f.kind, .int .i64 f.lit.atom.kind, .string f.lit.atom.a.name, .slice b3 f.lit.atom.a.kids.length d3, .string f.lit.atom.b.name, .slice b5 f.lit.atom.b.kids.length d5, .slice b6 f.lit.atom.nums.length d6, .slice b7 f.lit.atom.times.length d7, .int .i64 f.lit.atom.bound, .bool f.lit.atom.strict, .bool f.lit.no, .slice b11 f.kids.length d11] 33
  rw [← hVe] at hY
  have hVV : V < V3 := by have := hX.1; omega
  go_upto_region 7 with fail
  try rw [← hVe]
  have hba := za w5 (.cells #[.int .i64 f.kind, .int .i64 f.lit.atom.kind, .string f.lit.atom.a.name, .slice b3 f.lit.atom.a.kids.length d3, .string f.lit.atom.b.name, .slice b5 f.lit.atom.b.kids.length d5, .slice b6 f.lit.atom.nums.length d6, .slice b7 f.lit.atom.times.length d7, .int .i64 f.lit.atom.bound, .bool f.lit.atom.strict, .bool f.lit.no, .slice b11 f.kids.length d11] 33)
  replace hA := hA.below hba
  replace hB := hB.below hba
  replace hX := hX.below hba
  replace hrf := hrf.below hba
  replace hRd := hRd.below hba
  replace hBW := hBW.trans (hba.mono (by have := hBW.size; omega))
  clear hba hVe q0 q1 q2 q3 q4 q5 q6 q7 q8 q9 q10 q11
  generalize w5.alloc (.cells #[.int .i64 f.kind, .int .i64 f.lit.atom.kind, .string f.lit.atom.a.name, .slice b3 f.lit.atom.a.kids.length d3, .string f.lit.atom.b.name, .slice b5 f.lit.atom.b.kids.length d5, .slice b6 f.lit.atom.nums.length d6, .slice b7 f.lit.atom.times.length d7, .int .i64 f.lit.atom.bound, .bool f.lit.atom.strict, .bool f.lit.no, .slice b11 f.kids.length d11] 33) = w7 at *
  have q11 := hX.2.1 11 _ rfl
  by_cases hk0 : f.kids.length = 0
  ·have tk2 : decide (0 < f.kids.length) = false := by simp [hk0]
   have tk22 : ¬ (0 < f.kids.length) := by omega
   have hk0' := Lib.hid hk0
   clear hk0
   go_upto_region 10 with fail
   have hXS := hX; have hXV := hY
   clear hX hY hRd q11
   obtain ⟨W, rfl⟩ : ∃ W, W = w7 := ⟨_, rfl⟩
   refine Till.start (F := (fun U : World => Box [.int .i64 f.kind, .int .i64 f.lit.atom.kind, .string f.lit.atom.a.name, .slice b3 f.lit.atom.a.kids.length d3, .string f.lit.atom.b.name, .slice b5 f.lit.atom.b.kids.length d5, .slice b6 f.lit.atom.nums.length d6, .slice b7 f.lit.atom.times.length d7, .int .i64 f.lit.atom.bound, .bool f.lit.atom.strict, .bool f.lit.no, .slice b11 f.kids.length d11] V U ∧ Box [.int .i64 f.kind, .int .i64 f.lit.atom.kind, .string f.lit.atom.a.name, .slice b3 f.lit.atom.a.kids.length d3, .string f.lit.atom.b.name, .slice b5 f.lit.atom.b.kids.length d5, .slice b6 f.lit.atom.nums.length d6, .slice b7 f.lit.atom.times.length d7, .int .i64 f.lit.atom.bound, .bool f.lit.atom.strict, .bool f.lit.no, .slice b11 f.kids.length d11] V3 U)) (s0 := 3) (by kernel_rfl) ?_
   have hF : (fun U : World => Box [.int .i64 f.kind, .int .i64 f.lit.atom.kind, .string f.lit.atom.a.name, .slice b3 f.lit.atom.a.kids.length d3, .string f.lit.atom.b.name, .slice b5 f.lit.atom.b.kids.length d5, .slice b6 f.lit.atom.nums.length d6, .slice b7 f.lit.atom.times.length d7, .int .i64 f.lit.atom.bound, .bool f.lit.atom.strict, .bool f.lit.no, .slice b11 f.kids.length d11] V U ∧ Box [.int .i64 f.kind, .int .i64 f.lit.atom.kind, .string f.lit.atom.a.name, .slice b3 f.lit.atom.a.kids.length d3, .string f.lit.atom.b.name, .slice b5 f.lit.atom.b.kids.length d5, .slice b6 f.lit.atom.nums.length d6, .slice b7 f.lit.atom.times.length d7, .int .i64 f.lit.atom.bound, .bool f.lit.atom.strict, .bool f.lit.no, .slice b11 f.kids.length d11] V3 U) W.drew := ⟨hXS, hXV⟩
   have hA' : Box _ _ W.drew := hA
   have hB' : Box _ _ W.drew := hB
   have hWd : Below W.heap.size W W.drew := zd W
   have Tab' := zdj [.int .i64 f.kind, .int .i64 f.lit.atom.kind, .string f.lit.atom.a.name, .slice b3 f.lit.atom.a.kids.length d3, .string f.lit.atom.b.name, .slice b5 f.lit.atom.b.kids.length d5, .slice b6 f.lit.atom.nums.length d6, .slice b7 f.lit.atom.times.length d7, .int .i64 f.lit.atom.bound, .bool f.lit.atom.strict, .bool f.lit.no, .slice b11 f.kids.length d11] [.int .i64 f.kind, .int .i64 f.lit.atom.kind, .string f.lit.atom.a.name, .slice b3 f.lit.atom.a.kids.length d3, .string f.lit.atom.b.name, .slice b5 f.lit.atom.b.kids.length d5, .slice b6 f.lit.atom.nums.length d6, .slice b7 f.lit.atom.times.length d7, .int .i64 f.lit.atom.bound, .bool f.lit.atom.strict, .bool f.lit.no, .slice b11 f.kids.length d11] hA' hB' (by omega) rfl rfl (hBW.trans (hWd.mono (by have := hBW.size; omega))) (by omega)
   have hK0 : Same2 w.heap.size (w.heap.size + 1) W W.drew := fun b hb _ _ => hWd.block b hb
   have hKs := hWd.size
   clear hA hB hBW hXS hXV hWd
   generalize W.drew = W1 at *
   refine Till.take (i := 0) (v := (.agg #[.int .i64 f.kind, .int .i64 f.lit.atom.kind, .string f.lit.atom.a.name, .slice b3 f.lit.atom.a.kids.length d3, .string f.lit.atom.b.name, .slice b5 f.lit.atom.b.kids.length d5, .slice b6 f.lit.atom.nums.length d6, .slice b7 f.lit.atom.times.length d7, .int .i64 f.lit.atom.bound, .bool f.lit.atom.strict, .bool f.lit.no, .slice b11 f.kids.length d11])) rfl (by kernel_rfl) (by kernel_rfl) (by kernel_rfl) (fun _ _ _ h => h) (by kernel_rfl) (Or.inl ⟨by rfl, fun U hU => ?_⟩) hF ?_
   ·have u0 := hU.1.2.1 0 _ rfl; have u1 := hU.1.2.1 1 _ rfl; have u2 := hU.1.2.1 2 _ rfl; have u3 := hU.1.2.1 3 _ rfl; have u4 := hU.1.2.1 4 _ rfl; have u5 := hU.1.2.1 5 _ rfl; have u6 := hU.1.2.1 6 _ rfl; have u7 := hU.1.2.1 7 _ rfl; have u8 := hU.1.2.1 8 _ rfl; have u9 := hU.1.2.1 9 _ rfl; have u10 := hU.1.2.1 10 _ rfl; have u11 := hU.1.2.1 11 _ rfl; clear hU; go_simp
   try simp only [Act.put, zdK, zdL, zdM]
   refine Till.take (i := 1) (v := (.agg #[.int .i64 f.kind, .int .i64 f.lit.atom.kind, .string f.lit.atom.a.name, .slice b3 f.lit.atom.a.kids.length d3, .string f.lit.atom.b.name, .slice b5 f.lit.atom.b.kids.length d5, .slice b6 f.lit.atom.nums.length d6, .slice b7 f.lit.atom.times.length d7, .int .i64 f.lit.atom.bound, .bool f.lit.atom.strict, .bool f.lit.no, .slice b11 f.kids.length d11])) rfl (by kernel_rfl) (by kernel_rfl) (by kernel_rfl) (fun _ _ _ h => h) (by kernel_rfl) (Or.inl ⟨by rfl, fun U hU => ?_⟩) hF ?_
   ·have u0 := hU.2.2.1 0 _ rfl; have u1 := hU.2.2.1 1 _ rfl; have u2 := hU.2.2.1 2 _ rfl; have u3 := hU.2.2.1 3 _ rfl; have u4 := hU.2.2.1 4 _ rfl; have u5 := hU.2.2.1 5 _ rfl; have u6 := hU.2.2.1 6 _ rfl; have u7 := hU.2.2.1 7 _ rfl; have u8 := hU.2.2.1 8 _ rfl; have u9 := hU.2.2.1 9 _ rfl; have u10 := hU.2.2.1 10 _ rfl; have u11 := hU.2.2.1 11 _ rfl; clear hU; go_simp
   try simp only [Act.put, zdK, zdL, zdM]
   refine Till.one (i := 2) (by kernel_rfl) rfl (fun K hK => ?_)
   have c0 := hA'.2.1 0 _ rfl; have f0 := hA'.2.2 0
   have c1 := hA'.2.1 1 _ rfl; have f1 := hA'.2.2 1
   have c2 := hA'.2.1 2 _ rfl; have f2 := hA'.2.2 2
   have c3 := hA'.2.1 3 _ rfl; have f3 := hA'.2.2 3
   have c4 := hA'.2.1 4 _ rfl; have f4 := hA'.2.2 4
   have c5 := hA'.2.1 5 _ rfl; have f5 := hA'.2.2 5
   have c6 := hA'.2.1 6 _ rfl; have f6 := hA'.2.2 6
   have c7 := hA'.2.1 7 _ rfl; have f7 := hA'.2.2 7
   have c8 := hA'.2.1 8 _ rfl; have f8 := hA'.2.2 8
   have c9 := hA'.2.1 9 _ rfl; have f9 := hA'.2.2 9
   have c10 := hA'.2.1 10 _ rfl; have f10 := hA'.2.2 10
   have c11 := hA'.2.1 11 _ rfl; have f11 := hA'.2.2 11
   go_simp
   have hB2 := hB'.sets_other (b := w.heap.size) (by omega) [(0, .int .i64 f.kind), (1, .int .i64 f.lit.atom.kind), (2, .string f.lit.atom.a.name), (3, .slice b3 f.lit.atom.a.kids.length d3), (4, .string f.lit.atom.b.name), (5, .slice b5 f.lit.atom.b.kids.length d5), (6, .slice b6 f.lit.atom.nums.length d6), (7, .slice b7 f.lit.atom.times.length d7), (8, .int .i64 f.lit.atom.bound), (9, .bool f.lit.atom.strict), (10, .bool f.lit.no), (11, .slice b11 f.kids.length d11)]
   have hF2 : (fun U : World => Box [.int .i64 f.kind, .int .i64 f.lit.atom.kind, .string f.lit.atom.a.name, .slice b3 f.lit.atom.a.kids.length d3, .string f.lit.atom.b.name, .slice b5 f.lit.atom.b.kids.length d5, .slice b6 f.lit.atom.nums.length d6, .slice b7 f.lit.atom.times.length d7, .int .i64 f.lit.atom.bound, .bool f.lit.atom.strict, .bool f.lit.no, .slice b11 f.kids.length d11] V U ∧ Box [.int .i64 f.kind, .int .i64 f.lit.atom.kind, .string f.lit.atom.a.name, .slice b3 f.lit.atom.a.kids.length d3, .string f.lit.atom.b.name, .slice b5 f.lit.atom.b.kids.length d5, .slice b6 f.lit.atom.nums.length d6, .slice b7 f.lit.atom.times.length d7, .int .i64 f.lit.atom.bound, .bool f.lit.atom.strict, .bool f.lit.no, .slice b11 f.kids.length d11] V3 U) _ := ⟨hF.1.sets_other (b := w.heap.size) (by omega) [(0, .int .i64 f.kind), (1, .int .i64 f.lit.atom.kind), (2, .string f.lit.atom.a.name), (3, .slice b3 f.lit.atom.a.kids.length d3), (4, .string f.lit.atom.b.name), (5, .slice b5 f.lit.atom.b.kids.length d5), (6, .slice b6 f.lit.atom.nums.length d6), (7, .slice b7 f.lit.atom.times.length d7), (8, .int .i64 f.lit.atom.bound), (9, .bool f.lit.atom.strict), (10, .bool f.lit.no), (11, .slice b11 f.kids.length d11)], hF.2.sets_other (b := w.heap.size) (by omega) [(0, .int .i64 f.kind), (1, .int .i64 f.lit.atom.kind), (2, .string f.lit.atom.a.name), (3, .slice b3 f.lit.atom.a.kids.length d3), (4, .string f.lit.atom.b.name), (5, .slice b5 f.lit.atom.b.kids.length d5), (6, .slice b6 f.lit.atom.nums.length d6), (7, .slice b7 f.lit.atom.times.length d7), (8, .int .i64 f.lit.atom.bound), (9, .bool f.lit.atom.strict), (10, .bool f.lit.no), (11, .slice b11 f.kids.length d11)]⟩
   simp only [zi] at hB2 hF2
   refine hK.out _ _ (fun _ => hF2) ?_
   clear hK hF hF2 hA' hB' c0 f0 c1 f1 c2 f2 c3 f3 c4 f4 c5 f5 c6 f6 c7 f7 c8 f8 c9 f9 c10 f10 c11 f11
   try simp only [Act.put, zdK, zdL, zdM]
   refine Till.one (i := 3) (by kernel_rfl) rfl (fun K hK => ?_)
   have c0 := hB2.2.1 0 _ rfl; have f0 := hB2.2.2 0
   have c1 := hB2.2.1 1 _ rfl; have f1 := hB2.2.2 1
   have c2 := hB2.2.1 2 _ rfl; have f2 := hB2.2.2 2
   have c3 := hB2.2.1 3 _ rfl; have f3 := hB2.2.2 3
   have c4 := hB2.2.1 4 _ rfl; have f4 := hB2.2.2 4
   have c5 := hB2.2.1 5 _ rfl; have f5 := hB2.2.2 5
   have c6 := hB2.2.1 6 _ rfl; have f6 := hB2.2.2 6
   have c7 := hB2.2.1 7 _ rfl; have f7 := hB2.2.2 7
   have c8 := hB2.2.1 8 _ rfl; have f8 := hB2.2.2 8
   have c9 := hB2.2.1 9 _ rfl; have f9 := hB2.2.2 9
   have c10 := hB2.2.1 10 _ rfl; have f10 := hB2.2.2 10
   have c11 := hB2.2.1 11 _ rfl; have f11 := hB2.2.2 11
   go_simp
   refine hK.out _ _ (fun h => absurd h (by decide)) ?_
   clear hK hB2 c0 f0 c1 f1 c2 f2 c3 f3 c4 f4 c5 f5 c6 f6 c7 f7 c8 f8 c9 f9 c10 f10 c11 f11
   try simp only [Act.put, zdK, zdL, zdM]
   refine Till.done (by kernel_rfl) ?_ _
   simp only [zc, zi, Nat.zero_add, Nat.reduceAdd] at Tab'
   obtain ⟨g1, g2, hWA, hK1⟩ := Tab'
   have hK : Same2 w.heap.size (w.heap.size + 1) W _ := hK0.trans hK1 hKs
   have ra0 := g1.2.1 0 _ rfl
   have ra1 := g1.2.1 1 _ rfl
   have ra2 := g1.2.1 2 _ rfl
   have ra3 := g1.2.1 3 _ rfl
   have ra4 := g1.2.1 4 _ rfl
   have ra5 := g1.2.1 5 _ rfl
   have ra6 := g1.2.1 6 _ rfl
   have ra7 := g1.2.1 7 _ rfl
   have ra8 := g1.2.1 8 _ rfl
   have ra9 := g1.2.1 9 _ rfl
   have ra10 := g1.2.1 10 _ rfl
   have ra11 := g1.2.1 11 _ rfl
   have rb0 := g2.2.1 0 _ rfl
   have rb1 := g2.2.1 1 _ rfl
   have rb2 := g2.2.1 2 _ rfl
   have rb3 := g2.2.1 3 _ rfl
   have rb4 := g2.2.1 4 _ rfl
   have rb5 := g2.2.1 5 _ rfl
   have rb6 := g2.2.1 6 _ rfl
   have rb7 := g2.2.1 7 _ rfl
   have rb8 := g2.2.1 8 _ rfl
   have rb9 := g2.2.1 9 _ rfl
   have rb10 := g2.2.1 10 _ rfl
   have rb11 := g2.2.1 11 _ rfl
   go_wp2_with fail
   refine bodyPost_ret (v := .tuple #[.agg #[.int .i64 f.kind, .int .i64 f.lit.atom.kind, .string f.lit.atom.a.name, .slice b3 f.lit.atom.a.kids.length d3, .string f.lit.atom.b.name, .slice b5 f.lit.atom.b.kids.length d5, .slice b6 f.lit.atom.nums.length d6, .slice b7 f.lit.atom.times.length d7, .int .i64 f.lit.atom.bound, .bool f.lit.atom.strict, .bool f.lit.no, .slice b11 f.kids.length d11], .agg #[.int .i64 f.kind, .int .i64 f.lit.atom.kind, .string f.lit.atom.a.name, .slice b3 f.lit.atom.a.kids.length d3, .string f.lit.atom.b.name, .slice b5 f.lit.atom.b.kids.length d5, .slice b6 f.lit.atom.nums.length d6, .slice b7 f.lit.atom.times.length d7, .int .i64 f.lit.atom.bound, .bool f.lit.atom.strict, .bool f.lit.no, .slice b11 f.kids.length d11]]) (by simp [results, Tryz.results4, go_sem, ra0, ra1, ra2, ra3, ra4, ra5, ra6, ra7, ra8, ra9, ra10, ra11, rb0, rb1, rb2, rb3, rb4, rb5, rb6, rb7, rb8, rb9, rb10, rb11]) rfl ?_
   exact ⟨⟨f, f, _, _, _, _, _, _, _, _, _, _, _, _, _, _, _, _, _, _, _, _, _, _, hwf, hwf, rfl, hrf.same2 hK (fun b hb => by have := hff b hb; omega), hrf.same2 hK (fun b hb => by have := hff b hb; omega)⟩, hWA⟩
  ·have tk2 : decide (0 < f.kids.length) = true := by simp; omega
   have tk22 : 0 < f.kids.length := by omega
   go_wp2_with fail
   refine (zz rb (0 + 1000 + 1) 2 _ (by omega) (by omega) (by omega) hRd).mono ?_
   rintro e w9 ⟨⟨m2, hm2, rfl⟩, hRn, ho⟩
   replace hA := hA.only ho (by omega)
   replace hB := hB.only ho (by omega)
   replace hX := hX.only ho (by omega)
   replace hY := hY.only ho (by omega)
   replace hrf := hrf.only ho hnf
   replace hBW := hBW.trans (ho.toBelow (B := w.heap.size) (by have := hBW.size; omega) (fun b hb => by simp at hb; omega))
   clear hRd ho q11
   have hRd := hRn
   clear hRn hm2
   by_cases hm3 : m2 = 0
   rotate_left
   ·have tk3 : ((m2 : Int) == 0) = false := by simpa using hm3
    go_upto_region 10 with fail
    have hXS := hX; have hXV := hY
    clear hX hY hRd
    obtain ⟨W, rfl⟩ : ∃ W, W = w9 := ⟨_, rfl⟩
    refine Till.start (F := (fun U : World => Box [.int .i64 f.kind, .int .i64 f.lit.atom.kind, .string f.lit.atom.a.name, .slice b3 f.lit.atom.a.kids.length d3, .string f.lit.atom.b.name, .slice b5 f.lit.atom.b.kids.length d5, .slice b6 f.lit.atom.nums.length d6, .slice b7 f.lit.atom.times.length d7, .int .i64 f.lit.atom.bound, .bool f.lit.atom.strict, .bool f.lit.no, .slice b11 f.kids.length d11] V U ∧ Box [.int .i64 f.kind, .int .i64 f.lit.atom.kind, .string f.lit.atom.a.name, .slice b3 f.lit.atom.a.kids.length d3, .string f.lit.atom.b.name, .slice b5 f.lit.atom.b.kids.length d5, .slice b6 f.lit.atom.nums.length d6, .slice b7 f.lit.atom.times.length d7, .int .i64 f.lit.atom.bound, .bool f.lit.atom.strict, .bool f.lit.no, .slice b11 f.kids.length d11] V3 U)) (s0 := 3) (by kernel_rfl) ?_
    have hF : (fun U : World => Box [.int .i64 f.kind, .int .i64 f.lit.atom.kind, .string f.lit.atom.a.name, .slice b3 f.lit.atom.a.kids.length d3, .string f.lit.atom.b.name, .slice b5 f.lit.atom.b.kids.length d5, .slice b6 f.lit.atom.nums.length d6, .slice b7 f.lit.atom.times.length d7, .int .i64 f.lit.atom.bound, .bool f.lit.atom.strict, .bool f.lit.no, .slice b11 f.kids.length d11] V U ∧ Box [.int .i64 f.kind, .int .i64 f.lit.atom.kind, .string f.lit.atom.a.name, .slice b3 f.lit.atom.a.kids.length d3, .string f.lit.atom.b.name, .slice b5 f.lit.atom.b.kids.length d5, .slice b6 f.lit.atom.nums.length d6, .slice b7 f.lit.atom.times.length d7, .int .i64 f.lit.atom.bound, .bool f.lit.atom.strict, .bool f.lit.no, .slice b11 f.kids.length d11] V3 U) W.drew := ⟨hXS, hXV⟩
    have hA' : Box _ _ W.drew := hA
    have hB' : Box _ _ W.drew := hB
    have hWd : Below W.heap.size W W.drew := zd W
    have Tab' := zdj [.int .i64 f.kind, .int .i64 f.lit.atom.kind, .string f.lit.atom.a.name, .slice b3 f.lit.atom.a.kids.length d3, .string f.lit.atom.b.name, .slice b5 f.lit.atom.b.kids.length d5, .slice b6 f.lit.atom.nums.length d6, .slice b7 f.lit.atom.times.length d7, .int .i64 f.lit.atom.bound, .bool f.lit.atom.strict, .bool f.lit.no, .slice b11 f.kids.length d11] [.int .i64 f.kind, .int .i64 f.lit.atom.kind, .string f.lit.atom.a.name, .slice b3 f.lit.atom.a.kids.length d3, .string f.lit.atom.b.name, .slice b5 f.lit.atom.b.kids.length d5, .slice b6 f.lit.atom.nums.length d6, .slice b7 f.lit.atom.times.length d7, .int .i64 f.lit.atom.bound, .bool f.lit.atom.strict, .bool f.lit.no, .slice b11 f.kids.length d11] hA' hB' (by omega) rfl rfl (hBW.trans (hWd.mono (by have := hBW.size; omega))) (by omega)
    have hK0 : Same2 w.heap.size (w.heap.size + 1) W W.drew := fun b hb _ _ => hWd.block b hb
    have hKs := hWd.size
    clear hA hB hBW hXS hXV hWd
    generalize W.drew = W1 at *
    refine Till.take (i := 0) (v := (.agg #[.int .i64 f.kind, .int .i64 f.lit.atom.kind, .string f.lit.atom.a.name, .slice b3 f.lit.atom.a.kids.length d3, .string f.lit.atom.b.name, .slice b5 f.lit.atom.b.kids.length d5, .slice b6 f.lit.atom.nums.length d6, .slice b7 f.lit.atom.times.length d7, .int .i64 f.lit.atom.bound, .bool f.lit.atom.strict, .bool f.lit.no, .slice b11 f.kids.length d11])) rfl (by kernel_rfl) (by kernel_rfl) (by kernel_rfl) (fun _ _ _ h => h) (by kernel_rfl) (Or.inl ⟨by rfl, fun U hU => ?_⟩) hF ?_
    ·have u0 := hU.1.2.1 0 _ rfl; have u1 := hU.1.2.1 1 _ rfl; have u2 := hU.1.2.1 2 _ rfl; have u3 := hU.1.2.1 3 _ rfl; have u4 := hU.1.2.1 4 _ rfl; have u5 := hU.1.2.1 5 _ rfl; have u6 := hU.1.2.1 6 _ rfl; have u7 := hU.1.2.1 7 _ rfl; have u8 := hU.1.2.1 8 _ rfl; have u9 := hU.1.2.1 9 _ rfl; have u10 := hU.1.2.1 10 _ rfl; have u11 := hU.1.2.1 11 _ rfl; clear hU; go_simp
    try simp only [Act.put, zdK, zdL, zdM]
    refine Till.take (i := 1) (v := (.agg #[.int .i64 f.kind, .int .i64 f.lit.atom.kind, .string f.lit.atom.a.name, .slice b3 f.lit.atom.a.kids.length d3, .string f.lit.atom.b.name, .slice b5 f.lit.atom.b.kids.length d5, .slice b6 f.lit.atom.nums.length d6, .slice b7 f.lit.atom.times.length d7, .int .i64 f.lit.atom.bound, .bool f.lit.atom.strict, .bool f.lit.no, .slice b11 f.kids.length d11])) rfl (by kernel_rfl) (by kernel_rfl) (by kernel_rfl) (fun _ _ _ h => h) (by kernel_rfl) (Or.inl ⟨by rfl, fun U hU => ?_⟩) hF ?_
    ·have u0 := hU.2.2.1 0 _ rfl; have u1 := hU.2.2.1 1 _ rfl; have u2 := hU.2.2.1 2 _ rfl; have u3 := hU.2.2.1 3 _ rfl; have u4 := hU.2.2.1 4 _ rfl; have u5 := hU.2.2.1 5 _ rfl; have u6 := hU.2.2.1 6 _ rfl; have u7 := hU.2.2.1 7 _ rfl; have u8 := hU.2.2.1 8 _ rfl; have u9 := hU.2.2.1 9 _ rfl; have u10 := hU.2.2.1 10 _ rfl; have u11 := hU.2.2.1 11 _ rfl; clear hU; go_simp
    try simp only [Act.put, zdK, zdL, zdM]
    refine Till.one (i := 2) (by kernel_rfl) rfl (fun K hK => ?_)
    have c0 := hA'.2.1 0 _ rfl; have f0 := hA'.2.2 0
    have c1 := hA'.2.1 1 _ rfl; have f1 := hA'.2.2 1
    have c2 := hA'.2.1 2 _ rfl; have f2 := hA'.2.2 2
    have c3 := hA'.2.1 3 _ rfl; have f3 := hA'.2.2 3
    have c4 := hA'.2.1 4 _ rfl; have f4 := hA'.2.2 4
    have c5 := hA'.2.1 5 _ rfl; have f5 := hA'.2.2 5
    have c6 := hA'.2.1 6 _ rfl; have f6 := hA'.2.2 6
    have c7 := hA'.2.1 7 _ rfl; have f7 := hA'.2.2 7
    have c8 := hA'.2.1 8 _ rfl; have f8 := hA'.2.2 8
    have c9 := hA'.2.1 9 _ rfl; have f9 := hA'.2.2 9
    have c10 := hA'.2.1 10 _ rfl; have f10 := hA'.2.2 10
    have c11 := hA'.2.1 11 _ rfl; have f11 := hA'.2.2 11
    go_simp
    have hB2 := hB'.sets_other (b := w.heap.size) (by omega) [(0, .int .i64 f.kind), (1, .int .i64 f.lit.atom.kind), (2, .string f.lit.atom.a.name), (3, .slice b3 f.lit.atom.a.kids.length d3), (4, .string f.lit.atom.b.name), (5, .slice b5 f.lit.atom.b.kids.length d5), (6, .slice b6 f.lit.atom.nums.length d6), (7, .slice b7 f.lit.atom.times.length d7), (8, .int .i64 f.lit.atom.bound), (9, .bool f.lit.atom.strict), (10, .bool f.lit.no), (11, .slice b11 f.kids.length d11)]
    have hF2 : (fun U : World => Box [.int .i64 f.kind, .int .i64 f.lit.atom.kind, .string f.lit.atom.a.name, .slice b3 f.lit.atom.a.kids.length d3, .string f.lit.atom.b.name, .slice b5 f.lit.atom.b.kids.length d5, .slice b6 f.lit.atom.nums.length d6, .slice b7 f.lit.atom.times.length d7, .int .i64 f.lit.atom.bound, .bool f.lit.atom.strict, .bool f.lit.no, .slice b11 f.kids.length d11] V U ∧ Box [.int .i64 f.kind, .int .i64 f.lit.atom.kind, .string f.lit.atom.a.name, .slice b3 f.lit.atom.a.kids.length d3, .string f.lit.atom.b.name, .slice b5 f.lit.atom.b.kids.length d5, .slice b6 f.lit.atom.nums.length d6, .slice b7 f.lit.atom.times.length d7, .int .i64 f.lit.atom.bound, .bool f.lit.atom.strict, .bool f.lit.no, .slice b11 f.kids.length d11] V3 U) _ := ⟨hF.1.sets_other (b := w.heap.size) (by omega) [(0, .int .i64 f.kind), (1, .int .i64 f.lit.atom.kind), (2, .string f.lit.atom.a.name), (3, .slice b3 f.lit.atom.a.kids.length d3), (4, .string f.lit.atom.b.name), (5, .slice b5 f.lit.atom.b.kids.length d5), (6, .slice b6 f.lit.atom.nums.length d6), (7, .slice b7 f.lit.atom.times.length d7), (8, .int .i64 f.lit.atom.bound), (9, .bool f.lit.atom.strict), (10, .bool f.lit.no), (11, .slice b11 f.kids.length d11)], hF.2.sets_other (b := w.heap.size) (by omega) [(0, .int .i64 f.kind), (1, .int .i64 f.lit.atom.kind), (2, .string f.lit.atom.a.name), (3, .slice b3 f.lit.atom.a.kids.length d3), (4, .string f.lit.atom.b.name), (5, .slice b5 f.lit.atom.b.kids.length d5), (6, .slice b6 f.lit.atom.nums.length d6), (7, .slice b7 f.lit.atom.times.length d7), (8, .int .i64 f.lit.atom.bound), (9, .bool f.lit.atom.strict), (10, .bool f.lit.no), (11, .slice b11 f.kids.length d11)]⟩
    simp only [zi] at hB2 hF2
    refine hK.out _ _ (fun _ => hF2) ?_
    clear hK hF hF2 hA' hB' c0 f0 c1 f1 c2 f2 c3 f3 c4 f4 c5 f5 c6 f6 c7 f7 c8 f8 c9 f9 c10 f10 c11 f11
    try simp only [Act.put, zdK, zdL, zdM]
    refine Till.one (i := 3) (by kernel_rfl) rfl (fun K hK => ?_)
    have c0 := hB2.2.1 0 _ rfl; have f0 := hB2.2.2 0
    have c1 := hB2.2.1 1 _ rfl; have f1 := hB2.2.2 1
    have c2 := hB2.2.1 2 _ rfl; have f2 := hB2.2.2 2
    have c3 := hB2.2.1 3 _ rfl; have f3 := hB2.2.2 3
    have c4 := hB2.2.1 4 _ rfl; have f4 := hB2.2.2 4
    have c5 := hB2.2.1 5 _ rfl; have f5 := hB2.2.2 5
    have c6 := hB2.2.1 6 _ rfl; have f6 := hB2.2.2 6
    have c7 := hB2.2.1 7 _ rfl; have f7 := hB2.2.2 7
    have c8 := hB2.2.1 8 _ rfl; have f8 := hB2.2.2 8
    have c9 := hB2.2.1 9 _ rfl; have f9 := hB2.2.2 9
    have c10 := hB2.2.1 10 _ rfl; have f10 := hB2.2.2 10
    have c11 := hB2.2.1 11 _ rfl; have f11 := hB2.2.2 11
    go_simp
    refine hK.out _ _ (fun h => absurd h (by decide)) ?_
    clear hK hB2 c0 f0 c1 f1 c2 f2 c3 f3 c4 f4 c5 f5 c6 f6 c7 f7 c8 f8 c9 f9 c10 f10 c11 f11
    try simp only [Act.put, zdK, zdL, zdM]
    refine Till.done (by kernel_rfl) ?_ _
    simp only [zc, zi, Nat.zero_add, Nat.reduceAdd] at Tab'
    obtain ⟨g1, g2, hWA, hK1⟩ := Tab'
    have hK : Same2 w.heap.size (w.heap.size + 1) W _ := hK0.trans hK1 hKs
    have ra0 := g1.2.1 0 _ rfl
    have ra1 := g1.2.1 1 _ rfl
    have ra2 := g1.2.1 2 _ rfl
    have ra3 := g1.2.1 3 _ rfl
    have ra4 := g1.2.1 4 _ rfl
    have ra5 := g1.2.1 5 _ rfl
    have ra6 := g1.2.1 6 _ rfl
    have ra7 := g1.2.1 7 _ rfl
    have ra8 := g1.2.1 8 _ rfl
    have ra9 := g1.2.1 9 _ rfl
    have ra10 := g1.2.1 10 _ rfl
    have ra11 := g1.2.1 11 _ rfl
    have rb0 := g2.2.1 0 _ rfl
    have rb1 := g2.2.1 1 _ rfl
    have rb2 := g2.2.1 2 _ rfl
    have rb3 := g2.2.1 3 _ rfl
    have rb4 := g2.2.1 4 _ rfl
    have rb5 := g2.2.1 5 _ rfl
    have rb6 := g2.2.1 6 _ rfl
    have rb7 := g2.2.1 7 _ rfl
    have rb8 := g2.2.1 8 _ rfl
    have rb9 := g2.2.1 9 _ rfl
    have rb10 := g2.2.1 10 _ rfl
    have rb11 := g2.2.1 11 _ rfl
    go_wp2_with fail
    refine bodyPost_ret (v := .tuple #[.agg #[.int .i64 f.kind, .int .i64 f.lit.atom.kind, .string f.lit.atom.a.name, .slice b3 f.lit.atom.a.kids.length d3, .string f.lit.atom.b.name, .slice b5 f.lit.atom.b.kids.length d5, .slice b6 f.lit.atom.nums.length d6, .slice b7 f.lit.atom.times.length d7, .int .i64 f.lit.atom.bound, .bool f.lit.atom.strict, .bool f.lit.no, .slice b11 f.kids.length d11], .agg #[.int .i64 f.kind, .int .i64 f.lit.atom.kind, .string f.lit.atom.a.name, .slice b3 f.lit.atom.a.kids.length d3, .string f.lit.atom.b.name, .slice b5 f.lit.atom.b.kids.length d5, .slice b6 f.lit.atom.nums.length d6, .slice b7 f.lit.atom.times.length d7, .int .i64 f.lit.atom.bound, .bool f.lit.atom.strict, .bool f.lit.no, .slice b11 f.kids.length d11]]) (by simp [results, Tryz.results4, go_sem, ra0, ra1, ra2, ra3, ra4, ra5, ra6, ra7, ra8, ra9, ra10, ra11, rb0, rb1, rb2, rb3, rb4, rb5, rb6, rb7, rb8, rb9, rb10, rb11]) rfl ?_
    exact ⟨⟨f, f, _, _, _, _, _, _, _, _, _, _, _, _, _, _, _, _, _, _, _, _, _, _, hwf, hwf, rfl, hrf.same2 hK (fun b hb => by have := hff b hb; omega), hrf.same2 hK (fun b hb => by have := hff b hb; omega)⟩, hWA⟩
   ·have tk3 : ((m2 : Int) == 0) = true := by subst hm3; rfl
    obtain ⟨k1, ks, hkk⟩ : ∃ k1 ks, f.kids = k1 :: ks := by
     cases h : f.kids with
     | nil => rw [h] at hk0; simp at hk0
     | cons a l => exact ⟨a, l, rfl⟩
    have HKK := Lib.hid hkk
    clear hkk
    obtain ⟨fk, hrk, hfk⟩ := fm_row hrf
    have hkl : f.kids.length ≤ 1048576 := by have := Fm.wt_eq f; omega
    have q11 := hX.2.1 11 _ rfl
    have hba := za w9 (.cells #[] 33)
    have hyl := hY.1
    have hxl := hX.1
    go_wp2_with (at_builtin; refine zau zag rfl _ _ rfl w9.heap.size _ [] [] rfl (Own.empty w9 w9.heap.size _ _ (Nat.le_refl _)) (f.kids.map Fm.cd) _ fk rfl (by exact hrk.below hba) ?k ?na ?bytes ?len ?base ?next)
    case k => simp only [List.mem_map]; rintro e ⟨t, _, rfl⟩; exact t.cd_len
    case na => intro b hb h; have h1 := hfV b (hfk b hb); have h2 : w9.heap.size = b := Option.some.inj h; omega
    case bytes => simp; omega
    case len => simp; omega
    case base => simp
    case next =>
     intro v5 w8 f5 hf5 hO hg5 hv5 hs5
     have hb5 : Below w9.heap.size w9 w8 := zk hba hg5 (by simp) (fun q hq => by have h2 : w9.heap.size = q := Option.some.inj hq; omega)
     simp only [List.nil_append, HKK.out] at hO
     obtain ⟨gb, gc, rfl, hgb, hgs⟩ := hO.row0 (by simp)
     rw [zdX, List.length_cons] at hO ⊢
     have hnfk : ∀ b ∈ f5, b ∈ ff := fun b hb => hfk b (hf5 b hb)
     replace hA := hA.below hb5
     replace hB := hB.below hb5
     replace hX := hX.below hb5
     replace hY := hY.below hb5
     replace hrf := hrf.below hb5
     replace hRd := hRd.below hb5
     replace hBW := hBW.trans (hb5.mono (by have := hBW.size; omega))
     clear hb5 hg5 hv5 hs5 hba hrk q11
     have k0 := hY.2.1 11 _ rfl; have kz := hY.2.2 11
     go_upto_region 9 with fail
     have gA := hA.sets_other (b := V3) (by omega) [(11, .slice (some ⟨gb, 0, none⟩) (ks.length + 1) gc)]
     have gB := hB.sets_other (b := V3) (by omega) [(11, .slice (some ⟨gb, 0, none⟩) (ks.length + 1) gc)]
     have gX := hX.sets_other (b := V3) (by omega) [(11, .slice (some ⟨gb, 0, none⟩) (ks.length + 1) gc)]
     have gY := hY.put (k := 11) (by simp) (.slice (some ⟨gb, 0, none⟩) (ks.length + 1) gc)
     have gR := Rdr.sets (b := V3) (by omega) [(11, .slice (some ⟨gb, 0, none⟩) (ks.length + 1) gc)] hRd
     have hK9 := (Same2.refl V3 V3 w8).sets (b := V3) (.inl rfl) [(11, .slice (some ⟨gb, 0, none⟩) (ks.length + 1) gc)]
     have grf := hrf.same2 hK9 (fun b hb => by have := hfV b hb; omega)
     have gO := hO.same (fun b hb => hK9 b (hO.lt b hb) (by have := hfV b (hnfk b hb); omega) (by have := hfV b (hnfk b hb); omega)) (fun b hb => by have h2 : gb = b := Option.some.inj hb; exact hK9 b (by omega) (by omega) (by omega))
     have gBW := zak (b := V3) (by omega) [(11, .slice (some ⟨gb, 0, none⟩) (ks.length + 1) gc)] hBW
     simp only [zi] at gA gB gX gR grf gO gBW
     simp only [List.set] at gY
     clear hA hB hX hY hRd hrf hO hBW hK9 k0 kz
     have hA := gA; have hB := gB; have hX := gX; have hY := gY; have hRd := gR; have hrf := grf; have hO := gO; have hBW := gBW
     have hVg : V3 < gb := by omega
     clear gA gB gX gY gR grf gO gBW hgs hyl hf5
     generalize w8.setCell ⟨V3, 11, none⟩ (.slice (some ⟨gb, 0, none⟩) (ks.length + 1) gc) = w8 at *
     have hbd := zd w8
     replace hA := hA.below hbd
     replace hB := hB.below hbd
     replace hX := hX.below hbd
     replace hY := hY.below hbd
     replace hrf := hrf.below hbd
     replace hRd := hRd.below hbd
     replace hO := hO.below hbd
     replace hBW := hBW.trans (hbd.mono (by have := hBW.size; omega))
     clear hbd
     refine Ever.start (F := (fun U : World => U.cell? ⟨V3, 11, none⟩ = some (.slice (some ⟨gb, 0, none⟩) (ks.length + 1) gc))) (by kernel_rfl) ?_
     generalize w8.drew = y0 at *
     have hF9 : (fun U : World => U.cell? ⟨V3, 11, none⟩ = some (.slice (some ⟨gb, 0, none⟩) (ks.length + 1) gc)) _ := hY.2.1 11 _ rfl
     refine Ever.take (i := 0) (v := (.pointer (some ⟨V3, 11, none⟩))) rfl (by kernel_rfl) (by kernel_rfl) (by kernel_rfl) (fun _ _ _ h => h) (Or.inl ⟨by rfl, fun U hU => ?_⟩) hF9 ?_
     ·skip
      go_simp
     try simp only [Act.put, zdK, zdL, zdM]
     refine Ever.take (i := 1) (v := (.slice (some ⟨gb, 0, none⟩) (ks.length + 1) gc)) rfl (by kernel_rfl) (by kernel_rfl) (by kernel_rfl) (fun _ _ _ h => h) (Or.inl ⟨by rfl, fun U hU => ?_⟩) hF9 ?_
     ·have u1 := hU
      go_simp
     try simp only [Act.put, zdK, zdL, zdM]
     refine Ever.take (i := 2) (v := (.pointer (some ⟨rb, 0, none⟩))) rfl (by kernel_rfl) (by kernel_rfl) (by kernel_rfl) (fun _ _ _ h => h) (Or.inl ⟨by rfl, fun U hU => ?_⟩) hF9 ?_
     ·skip
      go_simp
     try simp only [Act.put, zdK, zdL, zdM]
     refine Ever.one (i := 3) (by kernel_rfl) rfl (fun J9 hK => ?_)
     go_simp
     have hba := za y0 (.cells #[.int .i64 1, .int .i64 2, .int .i64 3] 3)
     have hlst := Lst.new hRd.lt [.int .i64 1, .int .i64 2, .int .i64 3] 3
     replace hA := hA.below hba
     replace hB := hB.below hba
     replace hX := hX.below hba
     replace hY := hY.below hba
     replace hrf := hrf.below hba
     replace hRd := hRd.below hba
     replace hO := hO.below hba
     replace hBW := hBW.trans (hba.mono (by have := hBW.size; omega))
     clear hba
     replace hF9 : (fun U : World => U.cell? ⟨V3, 11, none⟩ = some (.slice (some ⟨gb, 0, none⟩) (ks.length + 1) gc)) _ := hY.2.1 11 _ rfl
     refine hK.out _ _ hF9 ?_
     clear hK
     try simp only [Act.put, zdK, zdL, zdM]
     refine Ever.one (i := 4) (by kernel_rfl) rfl (fun J9 hK => ?_)
     go_simp
     go_wp2_with (go_at_call 11; refine (zar 3 [1, 2, 3] [.int .i64 1, .int .i64 2, .int .i64 3] rfl rfl rb (0 + 1000 + 1 + 1) _ _ (by omega) (by simp) (by simp) (by exact hlst) hRd).mono ?_; rintro e y1 ⟨⟨k, hk, rfl⟩, hRn, ho⟩)
     have hk64 : I64 k := by simp at hk; unfold I64; omega
     replace hA := hA.only ho (by omega)
     replace hB := hB.only ho (by omega)
     replace hX := hX.only ho (by omega)
     replace hY := hY.only ho (by omega)
     replace hrf := hrf.only ho hnf
     replace hBW := hBW.trans (ho.toBelow (B := w.heap.size) (by have := hBW.size; omega) (fun b hb => by simp at hb; omega))
     replace hO := hO.only ho (by omega) (fun h => hnf (hnfk _ h))
     clear hRn hRd ho hlst hk
     replace hF9 : (fun U : World => U.cell? ⟨V3, 11, none⟩ = some (.slice (some ⟨gb, 0, none⟩) (ks.length + 1) gc)) _ := hY.2.1 11 _ rfl
     refine hK.out _ _ hF9 ?_
     clear hK
     try simp only [Act.put, zdK, zdL, zdM]
     refine Ever.take (i := 5) (v := (.pointer (some ⟨gb, 0, none⟩))) rfl (by kernel_rfl) (by kernel_rfl) (by kernel_rfl) (fun _ _ _ h => h) (Or.inl ⟨by rfl, fun U hU => ?_⟩) hF9 ?_
     ·skip
      go_simp
     try simp only [Act.put, zdK, zdL, zdM]
     refine Ever.take (i := 6) (v := (.pointer (some ⟨gb, 0, none⟩))) rfl (by kernel_rfl) (by kernel_rfl) (by kernel_rfl) (fun _ _ _ h => h) (Or.inl ⟨by rfl, fun U hU => ?_⟩) hF9 ?_
     ·skip
      go_simp
     try simp only [Act.put, zdK, zdL, zdM]
     refine Ever.one (i := 7) (by kernel_rfl) rfl (fun J9 hK => ?_)
     obtain ⟨hz0, hz1, mf, hrk9, hmk⟩ := kid0_put hO hk64
     go_simp
     have gA := hA.sets_other (b := gb) (by omega) [(0, .int .i64 k)]
     have gB := hB.sets_other (b := gb) (by omega) [(0, .int .i64 k)]
     have hXS := hX.sets_other (b := gb) (by omega) [(0, .int .i64 k)]
     have hXV := hY.sets_other (b := gb) (by omega) [(0, .int .i64 k)]
     have hK9 := (Same2.refl gb gb y1).sets (b := gb) (.inl rfl) [(0, .int .i64 k)]
     have hrf9 := hrf.same2 hK9 (fun b hb => by have := hfV b hb; omega)
     have hBE := zak (b := gb) (by omega) [(0, .int .i64 k)] hBW
     simp only [zi] at gA gB hXS hXV hrf9 hBE
     clear hA hB hX hY hrf hBW hK9 hO hz0 hz1
     replace hF9 : (fun U : World => U.cell? ⟨V3, 11, none⟩ = some (.slice (some ⟨gb, 0, none⟩) (ks.length + 1) gc)) _ := hXV.2.1 11 _ rfl
     refine hK.out _ _ hF9 ?_
     clear hK
     try simp only [Act.put, zdK, zdL, zdM]
     refine Ever.done (by kernel_rfl) ?_ _
     obtain ⟨mg, hrm, hmf0⟩ := zb5 (ks := Fm.mk k k1.lit k1.kids :: ks) hrf9 (by exact hrk9)
     have hmf : ∀ b ∈ mg, w.heap.size + 1 < b := fun b hb => by
      rcases hmf0 b hb with h | h
      ·exact hff b h
      ·rcases hmk b h with h | h
       ·omega
       ·exact hff b (hnfk b h)
     have hwm : wtV (Fm.mk f.kind f.lit (Fm.mk k k1.lit k1.kids :: ks)).cd ≤ 160000 := by rw [kid0_wt HKK.out]; exact hwf
     go_upto_region 10 with fail
     have hA := gA; have hB := gB; have hBW := hBE; have hrf := hrf9
     clear gA gB hBE hrf9 hF9 hrk9 hmf0
     generalize y1.setCell ⟨gb, 0, none⟩ (.int .i64 k) = W at *
     refine Till.start (F := (fun U : World => Box [.int .i64 f.kind, .int .i64 f.lit.atom.kind, .string f.lit.atom.a.name, .slice b3 f.lit.atom.a.kids.length d3, .string f.lit.atom.b.name, .slice b5 f.lit.atom.b.kids.length d5, .slice b6 f.lit.atom.nums.length d6, .slice b7 f.lit.atom.times.length d7, .int .i64 f.lit.atom.bound, .bool f.lit.atom.strict, .bool f.lit.no, .slice b11 f.kids.length d11] V U ∧ Box [.int .i64 f.kind, .int .i64 f.lit.atom.kind, .string f.lit.atom.a.name, .slice b3 f.lit.atom.a.kids.length d3, .string f.lit.atom.b.name, .slice b5 f.lit.atom.b.kids.length d5, .slice b6 f.lit.atom.nums.length d6, .slice b7 f.lit.atom.times.length d7, .int .i64 f.lit.atom.bound, .bool f.lit.atom.strict, .bool f.lit.no, .slice (some ⟨gb, 0, none⟩) (ks.length + 1) gc] V3 U)) (s0 := 3) (by kernel_rfl) ?_
     have hF : (fun U : World => Box [.int .i64 f.kind, .int .i64 f.lit.atom.kind, .string f.lit.atom.a.name, .slice b3 f.lit.atom.a.kids.length d3, .string f.lit.atom.b.name, .slice b5 f.lit.atom.b.kids.length d5, .slice b6 f.lit.atom.nums.length d6, .slice b7 f.lit.atom.times.length d7, .int .i64 f.lit.atom.bound, .bool f.lit.atom.strict, .bool f.lit.no, .slice b11 f.kids.length d11] V U ∧ Box [.int .i64 f.kind, .int .i64 f.lit.atom.kind, .string f.lit.atom.a.name, .slice b3 f.lit.atom.a.kids.length d3, .string f.lit.atom.b.name, .slice b5 f.lit.atom.b.kids.length d5, .slice b6 f.lit.atom.nums.length d6, .slice b7 f.lit.atom.times.length d7, .int .i64 f.lit.atom.bound, .bool f.lit.atom.strict, .bool f.lit.no, .slice (some ⟨gb, 0, none⟩) (ks.length + 1) gc] V3 U) W.drew := ⟨hXS, hXV⟩
     have hA' : Box _ _ W.drew := hA
     have hB' : Box _ _ W.drew := hB
     have hWd : Below W.heap.size W W.drew := zd W
     have Tab' := zdj [.int .i64 f.kind, .int .i64 f.lit.atom.kind, .string f.lit.atom.a.name, .slice b3 f.lit.atom.a.kids.length d3, .string f.lit.atom.b.name, .slice b5 f.lit.atom.b.kids.length d5, .slice b6 f.lit.atom.nums.length d6, .slice b7 f.lit.atom.times.length d7, .int .i64 f.lit.atom.bound, .bool f.lit.atom.strict, .bool f.lit.no, .slice b11 f.kids.length d11] [.int .i64 f.kind, .int .i64 f.lit.atom.kind, .string f.lit.atom.a.name, .slice b3 f.lit.atom.a.kids.length d3, .string f.lit.atom.b.name, .slice b5 f.lit.atom.b.kids.length d5, .slice b6 f.lit.atom.nums.length d6, .slice b7 f.lit.atom.times.length d7, .int .i64 f.lit.atom.bound, .bool f.lit.atom.strict, .bool f.lit.no, .slice (some ⟨gb, 0, none⟩) (ks.length + 1) gc] hA' hB' (by omega) rfl rfl (hBW.trans (hWd.mono (by have := hBW.size; omega))) (by omega)
     have hK0 : Same2 w.heap.size (w.heap.size + 1) W W.drew := fun b hb _ _ => hWd.block b hb
     have hKs := hWd.size
     clear hA hB hBW hXS hXV hWd
     generalize W.drew = W1 at *
     refine Till.take (i := 0) (v := (.agg #[.int .i64 f.kind, .int .i64 f.lit.atom.kind, .string f.lit.atom.a.name, .slice b3 f.lit.atom.a.kids.length d3, .string f.lit.atom.b.name, .slice b5 f.lit.atom.b.kids.length d5, .slice b6 f.lit.atom.nums.length d6, .slice b7 f.lit.atom.times.length d7, .int .i64 f.lit.atom.bound, .bool f.lit.atom.strict, .bool f.lit.no, .slice b11 f.kids.length d11])) rfl (by kernel_rfl) (by kernel_rfl) (by kernel_rfl) (fun _ _ _ h => h) (by kernel_rfl) (Or.inl ⟨by rfl, fun U hU => ?_⟩) hF ?_
     ·have u0 := hU.1.2.1 0 _ rfl; have u1 := hU.1.2.1 1 _ rfl; have u2 := hU.1.2.1 2 _ rfl; have u3 := hU.1.2.1 3 _ rfl; have u4 := hU.1.2.1 4 _ rfl; have u5 := hU.1.2.1 5 _ rfl; have u6 := hU.1.2.1 6 _ rfl; have u7 := hU.1.2.1 7 _ rfl; have u8 := hU.1.2.1 8 _ rfl; have u9 := hU.1.2.1 9 _ rfl; have u10 := hU.1.2.1 10 _ rfl; have u11 := hU.1.2.1 11 _ rfl; clear hU; go_simp
     try simp only [Act.put, zdK, zdL, zdM]
     refine Till.take (i := 1) (v := (.agg #[.int .i64 f.kind, .int .i64 f.lit.atom.kind, .string f.lit.atom.a.name, .slice b3 f.lit.atom.a.kids.length d3, .string f.lit.atom.b.name, .slice b5 f.lit.atom.b.kids.length d5, .slice b6 f.lit.atom.nums.length d6, .slice b7 f.lit.atom.times.length d7, .int .i64 f.lit.atom.bound, .bool f.lit.atom.strict, .bool f.lit.no, .slice (some ⟨gb, 0, none⟩) (ks.length + 1) gc])) rfl (by kernel_rfl) (by kernel_rfl) (by kernel_rfl) (fun _ _ _ h => h) (by kernel_rfl) (Or.inl ⟨by rfl, fun U hU => ?_⟩) hF ?_
     ·have u0 := hU.2.2.1 0 _ rfl; have u1 := hU.2.2.1 1 _ rfl; have u2 := hU.2.2.1 2 _ rfl; have u3 := hU.2.2.1 3 _ rfl; have u4 := hU.2.2.1 4 _ rfl; have u5 := hU.2.2.1 5 _ rfl; have u6 := hU.2.2.1 6 _ rfl; have u7 := hU.2.2.1 7 _ rfl; have u8 := hU.2.2.1 8 _ rfl; have u9 := hU.2.2.1 9 _ rfl; have u10 := hU.2.2.1 10 _ rfl; have u11 := hU.2.2.1 11 _ rfl; clear hU; go_simp
     try simp only [Act.put, zdK, zdL, zdM]
     refine Till.one (i := 2) (by kernel_rfl) rfl (fun K hK => ?_)
     have c0 := hA'.2.1 0 _ rfl; have f0 := hA'.2.2 0
     have c1 := hA'.2.1 1 _ rfl; have f1 := hA'.2.2 1
     have c2 := hA'.2.1 2 _ rfl; have f2 := hA'.2.2 2
     have c3 := hA'.2.1 3 _ rfl; have f3 := hA'.2.2 3
     have c4 := hA'.2.1 4 _ rfl; have f4 := hA'.2.2 4
     have c5 := hA'.2.1 5 _ rfl; have f5 := hA'.2.2 5
     have c6 := hA'.2.1 6 _ rfl; have f6 := hA'.2.2 6
     have c7 := hA'.2.1 7 _ rfl; have f7 := hA'.2.2 7
     have c8 := hA'.2.1 8 _ rfl; have f8 := hA'.2.2 8
     have c9 := hA'.2.1 9 _ rfl; have f9 := hA'.2.2 9
     have c10 := hA'.2.1 10 _ rfl; have f10 := hA'.2.2 10
     have c11 := hA'.2.1 11 _ rfl; have f11 := hA'.2.2 11
     go_simp
     have hB2 := hB'.sets_other (b := w.heap.size) (by omega) [(0, .int .i64 f.kind), (1, .int .i64 f.lit.atom.kind), (2, .string f.lit.atom.a.name), (3, .slice b3 f.lit.atom.a.kids.length d3), (4, .string f.lit.atom.b.name), (5, .slice b5 f.lit.atom.b.kids.length d5), (6, .slice b6 f.lit.atom.nums.length d6), (7, .slice b7 f.lit.atom.times.length d7), (8, .int .i64 f.lit.atom.bound), (9, .bool f.lit.atom.strict), (10, .bool f.lit.no), (11, .slice b11 f.kids.length d11)]
     have hF2 : (fun U : World => Box [.int .i64 f.kind, .int .i64 f.lit.atom.kind, .string f.lit.atom.a.name, .slice b3 f.lit.atom.a.kids.length d3, .string f.lit.atom.b.name, .slice b5 f.lit.atom.b.kids.length d5, .slice b6 f.lit.atom.nums.length d6, .slice b7 f.lit.atom.times.length d7, .int .i64 f.lit.atom.bound, .bool f.lit.atom.strict, .bool f.lit.no, .slice b11 f.kids.length d11] V U ∧ Box [.int .i64 f.kind, .int .i64 f.lit.atom.kind, .string f.lit.atom.a.name, .slice b3 f.lit.atom.a.kids.length d3, .string f.lit.atom.b.name, .slice b5 f.lit.atom.b.kids.length d5, .slice b6 f.lit.atom.nums.length d6, .slice b7 f.lit.atom.times.length d7, .int .i64 f.lit.atom.bound, .bool f.lit.atom.strict, .bool f.lit.no, .slice (some ⟨gb, 0, none⟩) (ks.length + 1) gc] V3 U) _ := ⟨hF.1.sets_other (b := w.heap.size) (by omega) [(0, .int .i64 f.kind), (1, .int .i64 f.lit.atom.kind), (2, .string f.lit.atom.a.name), (3, .slice b3 f.lit.atom.a.kids.length d3), (4, .string f.lit.atom.b.name), (5, .slice b5 f.lit.atom.b.kids.length d5), (6, .slice b6 f.lit.atom.nums.length d6), (7, .slice b7 f.lit.atom.times.length d7), (8, .int .i64 f.lit.atom.bound), (9, .bool f.lit.atom.strict), (10, .bool f.lit.no), (11, .slice b11 f.kids.length d11)], hF.2.sets_other (b := w.heap.size) (by omega) [(0, .int .i64 f.kind), (1, .int .i64 f.lit.atom.kind), (2, .string f.lit.atom.a.name), (3, .slice b3 f.lit.atom.a.kids.length d3), (4, .string f.lit.atom.b.name), (5, .slice b5 f.lit.atom.b.kids.length d5), (6, .slice b6 f.lit.atom.nums.length d6), (7, .slice b7 f.lit.atom.times.length d7), (8, .int .i64 f.lit.atom.bound), (9, .bool f.lit.atom.strict), (10, .bool f.lit.no), (11, .slice b11 f.kids.length d11)]⟩
     simp only [zi] at hB2 hF2
     refine hK.out _ _ (fun _ => hF2) ?_
     clear hK hF hF2 hA' hB' c0 f0 c1 f1 c2 f2 c3 f3 c4 f4 c5 f5 c6 f6 c7 f7 c8 f8 c9 f9 c10 f10 c11 f11
     try simp only [Act.put, zdK, zdL, zdM]
     refine Till.one (i := 3) (by kernel_rfl) rfl (fun K hK => ?_)
     have c0 := hB2.2.1 0 _ rfl; have f0 := hB2.2.2 0
     have c1 := hB2.2.1 1 _ rfl; have f1 := hB2.2.2 1
     have c2 := hB2.2.1 2 _ rfl; have f2 := hB2.2.2 2
     have c3 := hB2.2.1 3 _ rfl; have f3 := hB2.2.2 3
     have c4 := hB2.2.1 4 _ rfl; have f4 := hB2.2.2 4
     have c5 := hB2.2.1 5 _ rfl; have f5 := hB2.2.2 5
     have c6 := hB2.2.1 6 _ rfl; have f6 := hB2.2.2 6
     have c7 := hB2.2.1 7 _ rfl; have f7 := hB2.2.2 7
     have c8 := hB2.2.1 8 _ rfl; have f8 := hB2.2.2 8
     have c9 := hB2.2.1 9 _ rfl; have f9 := hB2.2.2 9
     have c10 := hB2.2.1 10 _ rfl; have f10 := hB2.2.2 10
     have c11 := hB2.2.1 11 _ rfl; have f11 := hB2.2.2 11
     go_simp
     refine hK.out _ _ (fun h => absurd h (by decide)) ?_
     clear hK hB2 c0 f0 c1 f1 c2 f2 c3 f3 c4 f4 c5 f5 c6 f6 c7 f7 c8 f8 c9 f9 c10 f10 c11 f11
     try simp only [Act.put, zdK, zdL, zdM]
     refine Till.done (by kernel_rfl) ?_ _
     simp only [zc, zi, Nat.zero_add, Nat.reduceAdd] at Tab'
     obtain ⟨g1, g2, hWA, hK1⟩ := Tab'
     have hK : Same2 w.heap.size (w.heap.size + 1) W _ := hK0.trans hK1 hKs
     have ra0 := g1.2.1 0 _ rfl
     have ra1 := g1.2.1 1 _ rfl
     have ra2 := g1.2.1 2 _ rfl
     have ra3 := g1.2.1 3 _ rfl
     have ra4 := g1.2.1 4 _ rfl
     have ra5 := g1.2.1 5 _ rfl
     have ra6 := g1.2.1 6 _ rfl
     have ra7 := g1.2.1 7 _ rfl
     have ra8 := g1.2.1 8 _ rfl
     have ra9 := g1.2.1 9 _ rfl
     have ra10 := g1.2.1 10 _ rfl
     have ra11 := g1.2.1 11 _ rfl
     have rb0 := g2.2.1 0 _ rfl
     have rb1 := g2.2.1 1 _ rfl
     have rb2 := g2.2.1 2 _ rfl
     have rb3 := g2.2.1 3 _ rfl
     have rb4 := g2.2.1 4 _ rfl
     have rb5 := g2.2.1 5 _ rfl
     have rb6 := g2.2.1 6 _ rfl
     have rb7 := g2.2.1 7 _ rfl
     have rb8 := g2.2.1 8 _ rfl
     have rb9 := g2.2.1 9 _ rfl
     have rb10 := g2.2.1 10 _ rfl
     have rb11 := g2.2.1 11 _ rfl
     go_wp2_with fail
     refine bodyPost_ret (v := .tuple #[.agg #[.int .i64 f.kind, .int .i64 f.lit.atom.kind, .string f.lit.atom.a.name, .slice b3 f.lit.atom.a.kids.length d3, .string f.lit.atom.b.name, .slice b5 f.lit.atom.b.kids.length d5, .slice b6 f.lit.atom.nums.length d6, .slice b7 f.lit.atom.times.length d7, .int .i64 f.lit.atom.bound, .bool f.lit.atom.strict, .bool f.lit.no, .slice b11 f.kids.length d11], .agg #[.int .i64 f.kind, .int .i64 f.lit.atom.kind, .string f.lit.atom.a.name, .slice b3 f.lit.atom.a.kids.length d3, .string f.lit.atom.b.name, .slice b5 f.lit.atom.b.kids.length d5, .slice b6 f.lit.atom.nums.length d6, .slice b7 f.lit.atom.times.length d7, .int .i64 f.lit.atom.bound, .bool f.lit.atom.strict, .bool f.lit.no, .slice (some ⟨gb, 0, none⟩) (ks.length + 1) gc]]) (by simp [results, Tryz.results4, go_sem, ra0, ra1, ra2, ra3, ra4, ra5, ra6, ra7, ra8, ra9, ra10, ra11, rb0, rb1, rb2, rb3, rb4, rb5, rb6, rb7, rb8, rb9, rb10, rb11]) rfl ?_
     exact ⟨⟨f, (Fm.mk f.kind f.lit (Fm.mk k k1.lit k1.kids :: ks)), _, _, _, _, _, _, _, _, _, _, _, _, _, _, _, _, _, _, _, _, _, _, hwf, hwm, rfl, hrf.same2 hK (fun b hb => by have := hff b hb; omega), hrm.same2 hK (fun b hb => by have := hmf b hb; omega)⟩, hWA⟩
end Go.Proofs.YtoehhbkhdddeeaaGreatDoor
end
