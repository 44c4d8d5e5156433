/- Parts of the proof: TakeL RdrO. -/
import Derived.Test.YtbfinjiledfpcaaGreatPa1
import Derived.Test.YtbfinjiledfpcaaGreatPa49
import Derived.Test.YtbfinjiledfpcaaGreatPa45
namespace Go.Proofs.YtbfinjiledfpcaaGreat
open Go Go.RowKit
set_option linter.unusedVariables false
set_option linter.unusedSimpArgs false
theorem RdRows.take8 {w : World} {b : Nat} : ∀ {es : List (List CD)} {off : Nat} {fp : List Nat}, RdRows w b off es fp → ∀ i, ∃ fq, RdRows w b off (es.take i) fq ∧ ∀ x ∈ fq, x ∈ fp
 | [], off, fp, h, i => ⟨fp, by simpa using h, fun x hx => hx⟩
 | e :: es, off, fp, h, 0 => ⟨[], by simp [RdRows], by simp⟩
 | e :: es, off, fp, h, i + 1 => by
  simp only [RdRows] at h
  obtain ⟨vs, f1, f2, rfl, hc, hv, hr⟩ := h
  obtain ⟨fq, h1, h2⟩ := hr.take8 i
  refine ⟨f1 ++ fq, by rw [List.take_succ_cons]; simp only [RdRows]; exact ⟨vs, f1, fq, rfl, hc, hv, h1⟩, fun x hx => ?_⟩
  rcases zfj.1 hx with hx | hx
  ·exact List.mem_append_left _ hx
  ·exact List.mem_append_right _ (h2 x hx)
/-- What is sliced off at the end. -/
theorem Rd.take8 {w : World} {es : List (List CD)} {a : Option Addr} {n c : Nat} {fp : List Nat} (h : Rd w (.sl es) (.slice a n c) fp) {i : Nat} (hi : i ≤ es.length) : ∃ fq, Rd w (.sl (es.take i)) (.slice a i c) fq ∧ ∀ x ∈ fq, x ∈ fp := by
 simp only [Rd] at h ⊢
 obtain ⟨a', c', e, h2, h3, h4⟩ := h
 simp only [Value.slice.injEq] at e
 obtain ⟨rfl, rfl, rfl⟩ := e
 have hl : (es.take i).length = i := by rw [List.length_take]; omega
 by_cases h0 : i = 0
 ·subst h0
  exact ⟨[], ⟨a, c, by simp, by simp, h3, .inl ⟨by simp, rfl⟩⟩, by simp⟩
 ·rcases h4 with ⟨rfl, _⟩ | ⟨hne, b, off, f, rfl, hb, rfl, hr⟩
  ·simp at hi; omega
  ·obtain ⟨fq, h5, h6⟩ := hr.take8 i
   refine ⟨b :: fq, ⟨_, c, by rw [hl], by rw [hl]; omega, h3, .inr ⟨?_, b, off, fq, rfl, hb, rfl, h5⟩⟩, fun x hx => ?_⟩
   ·intro e; rw [e] at hl; simp at hl; omega
   ·rcases zfn.1 hx with rfl | hx
    ·simp
    ·exact List.mem_cons_of_mem _ (h6 x hx)
end Go.Proofs.YtbfinjiledfpcaaGreat
namespace Go.Proofs.YtbfinjiledfpcaaGreat
open Go Go.RowKit
set_option linter.unusedVariables false
set_option linter.unusedSimpArgs false
def DrawnSLs (e : Ending) (w' : World) : Prop := ∃ (s : Sg) (fs : List Fm) (a0 : Option Addr) (c0 : Nat) (b : Option Addr) (n c : Nat) (sf fp : List Nat), fs.length ≤ 7 ∧ zel fs 700000 ∧
 e = .returned (.tuple #[.agg #[.slice a0 s.syms.length c0], .slice b n c]) ∧ RdVs w' s.cd [.slice a0 s.syms.length c0] sf ∧ Rd w' (.sl (fs.map Fm.cd)) (.slice b n c) fp
def DrawnSGs (e : Ending) (w' : World) : Prop := ∃ (s : Sg) (f : Fm) (a0 : Option Addr) (c0 : Nat) (b3 : Option Addr) (d3 : Nat) (b5 : Option Addr) (d5 : Nat) (b6 : Option Addr) (d6 : Nat) (b7 : Option Addr) (d7 : Nat) (b11 : Option Addr) (d11 : Nat) (sf ff : List Nat), wtV f.cd ≤ 160000 ∧
 e = .returned (.tuple #[.agg #[.slice a0 s.syms.length c0], .agg #[.int .i64 f.kind, .int .i64 f.lit.atom.kind, .string f.lit.atom.a.name, .slice b3 f.lit.atom.a.kids.length d3, .string f.lit.atom.b.name, .slice b5 f.lit.atom.b.kids.length d5, .slice b6 f.lit.atom.nums.length d6, .slice b7 f.lit.atom.times.length d7, .int .i64 f.lit.atom.bound, .bool f.lit.atom.strict, .bool f.lit.no, .slice b11 f.kids.length d11]]) ∧ RdVs w' s.cd [.slice a0 s.syms.length c0] sf ∧ RdVs w' f.cd [.int .i64 f.kind, .int .i64 f.lit.atom.kind, .string f.lit.atom.a.name, .slice b3 f.lit.atom.a.kids.length d3, .string f.lit.atom.b.name, .slice b5 f.lit.atom.b.kids.length d5, .slice b6 f.lit.atom.nums.length d6, .slice b7 f.lit.atom.times.length d7, .int .i64 f.lit.atom.bound, .bool f.lit.atom.strict, .bool f.lit.no, .slice b11 f.kids.length d11] ff
set_option maxRecDepth 100000 in
set_option maxHeartbeats 8000000 in
theorem zcr (v : Value) (w : World) (hv : Byts w v) :
  Calls Tryz.prog 16 #[v] w fun e w' => DrawnSLs e w' ∧ Below w.heap.size w w' := by
 have hA := Box.new w [.slice none 0 0] 25
 have hbn := zc w (.cells #[.slice none 0 0] 25)
 have hs0 : (w.alloc (.cells #[.slice none 0 0] 25)).heap.size = w.heap.size + 1 := by simp
 go_enter Tryz.func16, Tryz.ntmps16
 go_upto_region 1 with fail
 generalize w.alloc (.cells #[.slice none 0 0] 25) = W0 at *
 go_wp2_with fail
 refine (zb8 v _ (by exact hv.below hbn)).mono ?_
 rintro e u1 ⟨rfl, hu1, hb1⟩
 rw [hs0] at hu1 ⊢
 replace hA := hA.below hb1
 have hBW := hbn.trans (hb1.mono (by omega))
 have hzu := hb1.size
 rw [hs0] at hzu
 obtain ⟨rb, hrb⟩ : ∃ rb, rb = w.heap.size + 1 := ⟨_, rfl⟩
 rw [← hrb] at hu1 ⊢
 have hrw1 : rb ≤ w.heap.size + 1 := by omega
 have hrw2 : w.heap.size + 1 ≤ rb := by omega
 clear hrb hb1 hs0 hbn
 have hl1 := hu1.lt
 go_wp2_with fail
 refine (zem rb 0 _ (by omega) hu1).mono ?_
 rintro e w1 ⟨⟨s, fs, a0, c0, v1, sf, fp, hfew, hln, hli, rfl, hrs, hO, _, hsf, hfp⟩, hr1, ho1⟩
 replace hA := hA.only ho1 (by omega)
 replace hBW := hBW.trans (ho1.toBelow (B := w.heap.size) (by omega) (fun b hb => by simp at hb; omega))
 obtain ⟨b1, n1, c1, rfl⟩ := hO.form'
 have x0 := hA.2.1 0 _ rfl; have y0 := hA.2.2 0
 have g1 := hA.put (k := 0) (by simp) (.slice a0 s.syms.length c0)
 have r0 := g1.2.1 0 _ rfl
 have hrs2 := hrs.same _ (zI (a := ⟨w.heap.size, 0, none⟩) (v := .slice a0 s.syms.length c0) (fun b hb (e : b = w.heap.size) => by have := hsf b hb; omega))
 obtain ⟨fq, hrd⟩ := (hO.set_ne (b := w.heap.size) (j := 0) (u := .slice a0 s.syms.length c0) (fun h => by have := hfp _ h; omega) (fun e => by have := (hO.block e).1; omega)).rd'
 have hBE := hBW.setCell (p := ⟨w.heap.size, 0, none⟩) (by simp) (.slice a0 s.syms.length c0)
 clear g1 ho1 hr1 hO hrs hBW hA
 go_wp2_with fail
 refine bodyPost_ret (v := .tuple #[.agg #[.slice a0 s.syms.length c0], .slice b1 n1 c1]) (by simp [results, Tryz.results16, go_sem, r0]) rfl ?_
 exact ⟨⟨s, fs, _, _, _, _, _, _, _, hln, hli, rfl, hrs2, hrd⟩, hBE⟩
set_option maxRecDepth 100000 in
set_option maxHeartbeats 8000000 in
theorem zcy (v : Value) (w : World) (hv : Byts w v) :
  Calls Tryz.prog 9 #[v] w fun e w' => DrawnSGs e w' ∧ Below w.heap.size w w' := by
 have hA := (Box.new w [.slice none 0 0] 25).alloc (.cells #[.int .i64 0, .int .i64 0, .string ⟨#[]⟩, .slice none 0 0, .string ⟨#[]⟩, .slice none 0 0, .slice none 0 0, .slice none 0 0, .int .i64 0, .bool false, .bool false, .slice none 0 0] 36)
 have hC := Box.new (w.alloc (.cells #[.slice none 0 0] 25)) [.int .i64 0, .int .i64 0, .string ⟨#[]⟩, .slice none 0 0, .string ⟨#[]⟩, .slice none 0 0, .slice none 0 0, .slice none 0 0, .int .i64 0, .bool false, .bool false, .slice none 0 0] 36
 rw [World.size_alloc] at hC
 have hbn : Below w.heap.size w ((w.alloc (.cells #[.slice none 0 0] 25)).alloc (.cells #[.int .i64 0, .int .i64 0, .string ⟨#[]⟩, .slice none 0 0, .string ⟨#[]⟩, .slice none 0 0, .slice none 0 0, .slice none 0 0, .int .i64 0, .bool false, .bool false, .slice none 0 0] 36)) := ((Below.refl _ _).alloc (Nat.le_refl _) _).alloc (by simp) _
 have hs0 : ((w.alloc (.cells #[.slice none 0 0] 25)).alloc (.cells #[.int .i64 0, .int .i64 0, .string ⟨#[]⟩, .slice none 0 0, .string ⟨#[]⟩, .slice none 0 0, .slice none 0 0, .slice none 0 0, .int .i64 0, .bool false, .bool false, .slice none 0 0] 36)).heap.size = w.heap.size + 2 := by simp
 go_enter Tryz.func9, Tryz.ntmps9
 go_upto_region 1 with fail
 generalize (w.alloc (.cells #[.slice none 0 0] 25)).alloc (.cells #[.int .i64 0, .int .i64 0, .string ⟨#[]⟩, .slice none 0 0, .string ⟨#[]⟩, .slice none 0 0, .slice none 0 0, .slice none 0 0, .int .i64 0, .bool false, .bool false, .slice none 0 0] 36) = W0 at *
 go_wp2_with fail
 refine (zb8 v _ (by exact hv.below hbn)).mono ?_
 rintro e u1 ⟨rfl, hu1, hb1⟩
 rw [hs0] at hu1 ⊢
 replace hA := hA.below hb1
 replace hC := hC.below hb1
 have hBW := hbn.trans (hb1.mono (by omega))
 have hzu := hb1.size
 rw [hs0] at hzu
 obtain ⟨rb, hrb⟩ : ∃ rb, rb = w.heap.size + 2 := ⟨_, rfl⟩
 rw [← hrb] at hu1 ⊢
 have hrw1 : rb ≤ w.heap.size + 2 := by omega
 have hrw2 : w.heap.size + 2 ≤ rb := by omega
 clear hrb hb1 hs0 hbn
 have hl1 := hu1.lt
 go_wp2_with fail
 refine (zcQ rb 0 _ (by omega) hu1).mono ?_
 rintro e w1 ⟨⟨s, f, a0, c0, b3, d3, b5, d5, b6, d6, b7, d7, b11, d11, sf, ff, _, hwf, rfl, hrs, hrf, hsf, hff⟩, hr1, ho1⟩
 replace hA := hA.only ho1 (by omega)
 replace hC := hC.only ho1 (by omega)
 replace hBW := hBW.trans (ho1.toBelow (B := w.heap.size) (by omega) (fun b hb => by simp at hb; omega))
 clear ho1 hr1
 have x0 := hA.2.1 0 _ rfl; have y0 := hA.2.2 0
 have z0 := hC.2.1 0 _ rfl; have z1 := hC.2.1 1 _ rfl; have z2 := hC.2.1 2 _ rfl; have z3 := hC.2.1 3 _ rfl; have z4 := hC.2.1 4 _ rfl; have z5 := hC.2.1 5 _ rfl; have z6 := hC.2.1 6 _ rfl; have z7 := hC.2.1 7 _ rfl; have z8 := hC.2.1 8 _ rfl; have z9 := hC.2.1 9 _ rfl; have z10 := hC.2.1 10 _ rfl; have z11 := hC.2.1 11 _ rfl; have g0 := hC.2.2 0; have g1 := hC.2.2 1; have g2 := hC.2.2 2; have g3 := hC.2.2 3; have g4 := hC.2.2 4; have g5 := hC.2.2 5; have g6 := hC.2.2 6; have g7 := hC.2.2 7; have g8 := hC.2.2 8; have g9 := hC.2.2 9; have g10 := hC.2.2 10; have g11 := hC.2.2 11
 have g1 := hA.put (k := 0) (by simp) (.slice a0 s.syms.length c0)
 have g2 := (hC.sets_other (b := w.heap.size) (by omega) [(0, .slice a0 s.syms.length c0)]).puts [.int .i64 f.kind, .int .i64 f.lit.atom.kind, .string f.lit.atom.a.name, .slice b3 f.lit.atom.a.kids.length d3, .string f.lit.atom.b.name, .slice b5 f.lit.atom.b.kids.length d5, .slice b6 f.lit.atom.nums.length d6, .slice b7 f.lit.atom.times.length d7, .int .i64 f.lit.atom.bound, .bool f.lit.atom.strict, .bool f.lit.no, .slice b11 f.kids.length d11] rfl
 have hK := ((Same2.refl w.heap.size (w.heap.size + 1) w1).sets (b := w.heap.size) (.inl rfl) [(0, .slice a0 s.syms.length c0)]).sets (b := w.heap.size + 1) (.inr rfl) (zh 0 [.int .i64 f.kind, .int .i64 f.lit.atom.kind, .string f.lit.atom.a.name, .slice b3 f.lit.atom.a.kids.length d3, .string f.lit.atom.b.name, .slice b5 f.lit.atom.b.kids.length d5, .slice b6 f.lit.atom.nums.length d6, .slice b7 f.lit.atom.times.length d7, .int .i64 f.lit.atom.bound, .bool f.lit.atom.strict, .bool f.lit.no, .slice b11 f.kids.length d11])
 have hBE := zbq (b := w.heap.size + 1) (by omega) (zh 0 [.int .i64 f.kind, .int .i64 f.lit.atom.kind, .string f.lit.atom.a.name, .slice b3 f.lit.atom.a.kids.length d3, .string f.lit.atom.b.name, .slice b5 f.lit.atom.b.kids.length d5, .slice b6 f.lit.atom.nums.length d6, .slice b7 f.lit.atom.times.length d7, .int .i64 f.lit.atom.bound, .bool f.lit.atom.strict, .bool f.lit.no, .slice b11 f.kids.length d11]) (zbq (b := w.heap.size) (by omega) [(0, .slice a0 s.syms.length c0)] hBW)
 replace g1 := g1.sets_other (b := w.heap.size + 1) (by omega) (zh 0 [.int .i64 f.kind, .int .i64 f.lit.atom.kind, .string f.lit.atom.a.name, .slice b3 f.lit.atom.a.kids.length d3, .string f.lit.atom.b.name, .slice b5 f.lit.atom.b.kids.length d5, .slice b6 f.lit.atom.nums.length d6, .slice b7 f.lit.atom.times.length d7, .int .i64 f.lit.atom.bound, .bool f.lit.atom.strict, .bool f.lit.no, .slice b11 f.kids.length d11])
 simp only [zl, zh] at g1 g2 hK hBE
 have r0 := g1.2.1 0 _ rfl
 have e0 := g2.2.1 0 _ rfl; have e1 := g2.2.1 1 _ rfl; have e2 := g2.2.1 2 _ rfl; have e3 := g2.2.1 3 _ rfl; have e4 := g2.2.1 4 _ rfl; have e5 := g2.2.1 5 _ rfl; have e6 := g2.2.1 6 _ rfl; have e7 := g2.2.1 7 _ rfl; have e8 := g2.2.1 8 _ rfl; have e9 := g2.2.1 9 _ rfl; have e10 := g2.2.1 10 _ rfl; have e11 := g2.2.1 11 _ rfl
 have hrs2 := hrs.same2 hK (fun b hb => by have := hsf b hb; omega)
 have hrf2 := hrf.same2 hK (fun b hb => by have := hff b hb; omega)
 clear g1 g2 hK hBW hA hC hrs hrf
 go_wp2_with fail
 refine bodyPost_ret (v := .tuple #[.agg #[.slice a0 s.syms.length c0], .agg #[.int .i64 f.kind, .int .i64 f.lit.atom.kind, .string f.lit.atom.a.name, .slice b3 f.lit.atom.a.kids.length d3, .string f.lit.atom.b.name, .slice b5 f.lit.atom.b.kids.length d5, .slice b6 f.lit.atom.nums.length d6, .slice b7 f.lit.atom.times.length d7, .int .i64 f.lit.atom.bound, .bool f.lit.atom.strict, .bool f.lit.no, .slice b11 f.kids.length d11]]) (by simp [results, Tryz.results9, go_sem, r0, e0, e1, e2, e3, e4, e5, e6, e7, e8, e9, e10, e11]) rfl ?_
 exact ⟨⟨s, f, _, _, _, _, _, _, _, _, _, _, _, _, _, _, hwf, rfl, hrs2, hrf2⟩, hBE⟩
end Go.Proofs.YtbfinjiledfpcaaGreat
