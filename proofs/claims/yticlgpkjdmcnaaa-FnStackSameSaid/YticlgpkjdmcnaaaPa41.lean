/- Parts of the proof: StkT. -/
import Derived.Test.YticlgpkjdmcnaaaPa38
import Derived.Test.YticlgpkjdmcnaaaPa40
import Derived.Test.YticlgpkjdmcnaaaPa7
import Derived.Test.YticlgpkjdmcnaaaPa29
import Derived.Test.YticlgpkjdmcnaaaPa11
section
namespace Go.Proofs.Yticlgpkjdmcnaaa
open Go Go.RowKit
set_option linter.unusedVariables false
set_option linter.unusedSimpArgs false
set_option maxRecDepth 100000
set_option maxHeartbeats 16000000
def Stk.told (k : Stk) (f : Fm) : Stk := ⟨k.sig, k.levels.dropLast ++ [k.levels.getLastD [] ++ [f]]⟩
def Stk.tell (k : Stk) (f : Fm) : Stk × Bool := if k.okK = true then (if (k.told f).okK = true then (k.told f, true) else (k, false)) else (⟨⟨[]⟩, []⟩, false)
theorem Stk.tell_no {k : Stk} {f : Fm} (h : k.okK = false) : k.tell f = (⟨⟨[]⟩, []⟩, false) := by unfold Stk.tell; rw [h]; rfl
theorem Stk.tell_bad {k : Stk} {f : Fm} (h : k.okK = true) (h4 : (k.told f).okK = false) : k.tell f = (k, false) := by unfold Stk.tell; rw [if_pos h, h4]; rfl
theorem Stk.tell_yes {k : Stk} {f : Fm} (h : k.okK = true) (h4 : (k.told f).okK = true) : k.tell f = (k.told f, true) := by unfold Stk.tell; rw [if_pos h, if_pos h4]
theorem Stk.told_eq {k : Stk} {a : List (List Fm)} {l : List Fm} {f : Fm} (h : k.levels = a ++ [l]) : k.told f = ⟨k.sig, a ++ [l ++ [f]]⟩ := by
 unfold Stk.told; rw [h, List.dropLast_concat]
 congr 3
 rw [List.getLastD_eq_getLast?, List.getLast?_concat]; rfl
theorem zS (s : Sg) (ls : List (List Fm)) : wtV (Stk.mk s ls).cd = wtV s.cd + (ls.length + wtR (ls.map zx)) := by unfold Stk.cd; simp only [zF, zao, zea]; try omega
theorem zc9 {k : Stk} {a : List (List Fm)} {l : List Fm} {f : Fm} (h : k.levels = a ++ [l]) : wtV (k.told f).cd = wtV k.cd + (wtV f.cd + 1) := by
 have h1 : k = ⟨k.sig, a ++ [l]⟩ := by cases k; simp only at h; rw [h]
 rw [Stk.told_eq h]
 conv => rhs; rw [h1]
 rw [zS, zS]
 simp only [zd8, List.map_cons, List.map_nil, zU, zZ, wtR, zx, wtV, wtC, zd7, List.length_cons, List.length_nil, zea]
 omega
def Fm.zero9 : Fm := .mk 0 ⟨Atm.zero, false⟩ []
theorem zaw : Fm.zero9.cd = zz := by
 rw [Fm.cd_eq]
 simp [Fm.zero9, Fm.kind, Fm.lit, Fm.kids, Lt.cd, Atm.cd, Atm.zero, Tm.cd_mk, zz]
/-- One level's row has turned, in place. -/
theorem Lvs.put {w w2 : World} {lo : Nat} {lv : Value} {L1 L2 : List Lv} {t : Lv} {fs' : List Fm} {g' : List Nat} (h : Lvs w lo lv (L1 ++ t :: L2)) (hm : Moved w t.v w2 t.v) (ho : Own w2 lo 52 12 t.v (fs'.map Fm.cd) g')
  (hg : ∀ b ∈ g', b ∈ t.g ∨ (lv.ownBlock ≠ some b ∧ ∀ u ∈ L1 ++ t :: L2, u.v.ownBlock ≠ some b)) : Lvs w2 lo lv (L1 ++ ⟨t.v, fs', g'⟩ :: L2) := by
 have hl := h.lt
 have ht0 : t ∈ L1 ++ t :: L2 := by simp
 have h2 := List.pairwise_append.1 h.two
 have h3 := List.pairwise_cons.1 h2.2.1
 have hoff : ∀ u ∈ L1 ++ L2, ∀ b, t.v.ownBlock = some b → u.v.ownBlock ≠ some b := fun u hu b hb e => by
  rcases zd5.1 hu with hu | hu
  ·exact h2.2.2 u hu t (by simp) b e hb
  ·exact h3.1 u hu b hb e
 have hsub : ∀ u ∈ L1 ++ L2, u ∈ L1 ++ t :: L2 := fun u hu => by
  rcases zd5.1 hu with hu | hu
  ·exact List.mem_append_left _ hu
  ·exact List.mem_append_right _ (List.mem_cons_of_mem _ hu)
 have hmem : ∀ u ∈ L1 ++ (⟨t.v, fs', g'⟩ : Lv) :: L2, u ∈ L1 ++ L2 ∨ u = ⟨t.v, fs', g'⟩ := fun u hu => by
  rcases zd5.1 hu with hu | hu
  ·exact .inl (List.mem_append_left _ hu)
  ·rcases zd9.1 hu with hu | hu
   ·exact .inr hu
   ·exact .inl (List.mem_append_right _ hu)
 refine ⟨?_, fun u hu' => ?_, ?_, ?_, ?_⟩
 ·have e2 : (L1 ++ (⟨t.v, fs', g'⟩ : Lv) :: L2).length = (L1 ++ t :: L2).length := by simp
  have e3 : List.map Lv.v (L1 ++ (⟨t.v, fs', g'⟩ : Lv) :: L2) = List.map Lv.v (L1 ++ t :: L2) := by simp
  rw [e2, e3]
  refine ⟨h.row.1, ?_⟩
  rcases h.row.2 with hn | ⟨g0, cap, cur, e, hg0, hh, rest⟩
  ·exact .inl hn
  ·exact .inr ⟨g0, cap, cur, e, hg0, (hm.block (hl.1 g0 (by rw [e]; rfl)).2 (fun e9 => (h.nr t ht0).1 g0 e9 (by rw [e]; rfl))).trans hh, rest⟩
 ·rcases hmem u hu' with h9 | rfl
  ·have hl2 := hl.2 u (hsub u h9)
   exact (h.own u (hsub u h9)).same (hm.same hl2.2 (fun b hb e => h.far t ht0 u (hsub u h9) b e hb)) (fun b hb => hm.block (hl2.1 b hb).2 (fun e => hoff u h9 b e hb))
  ·exact ho
 ·refine List.pairwise_append.2 ⟨h2.1, List.pairwise_cons.2 ⟨fun u hu' b hb => hoff u (List.mem_append_right _ hu') b hb, h3.2⟩, fun u hu' x hx b hb e => ?_⟩
  rcases zd9.1 hx with rfl | hx
  ·exact hoff u (List.mem_append_left _ hu') b e hb
  ·exact h2.2.2 u hu' x (by simp [hx]) b hb e
 ·intro u hu' x hx b hb
  rcases hmem u hu' with h9 | rfl <;> rcases hmem x hx with h8 | rfl
  ·exact h.far u (hsub u h9) x (hsub x h8) b hb
  ·intro hbg
   rcases hg b hbg with h7 | h7
   ·exact h.far u (hsub u h9) t ht0 b hb h7
   ·exact h7.2 u (hsub u h9) hb
  ·exact h.far t ht0 x (hsub x h8) b hb
  ·intro hbg
   obtain ⟨_, _, _, _, h4⟩ := ho
   exact h4 b hbg hb
 ·intro u hu'
  rcases hmem u hu' with h9 | rfl
  ·exact h.nr u (hsub u h9)
  ·refine ⟨(h.nr t ht0).1, fun b hb e => ?_⟩
   rcases hg b hb with h7 | h7
   ·exact (h.nr t ht0).2 b h7 e
   ·exact h7.1 e
theorem StkW.turn {w w2 : World} {ob lo base : Nat} {s : Sg} {sv lv : Value} {fs : List Nat} {L L' : List Lv} (h : StkW w ob lo base s sv lv fs L) (hrow : Lvs w2 base lv L') (hob : w2.heap[ob]? = w.heap[ob]?) (hs : SameOn fs w w2) :
  w2.cell? ⟨ob, 0, none⟩ = some sv ∧ w2.cell? ⟨ob, 1, none⟩ = some lv ∧ ∃ fq, RdVs w2 (Stk.mk s (L'.map Lv.fs)).cd [sv, lv] fq ∧ ∀ b ∈ fq, lo ≤ b ∨ ∃ t ∈ L', b ∈ t.g := by
 obtain ⟨fq, h1, h2⟩ := hrow.rd
 refine ⟨zg hob h.c0, zg hob h.c1, fs ++ fq, ?_, fun b hb => ?_⟩
 ·unfold Stk.cd
  exact (h.sg.same _ hs).app (RdVs.single h1)
 ·have hl := hrow.lt
  have := h.lb
  rcases zd5.1 hb with hb | hb
  ·exact .inl (h.sl b hb)
  ·rcases h2 b hb with h3 | ⟨t, ht, h3 | h3⟩
   ·have := (hl.1 b h3).1; exact .inl (by omega)
   ·have := ((hl.2 t ht).1 b h3).1; exact .inl (by omega)
   ·exact .inr ⟨t, ht, h3⟩
theorem stkTwo_rd {k : Stk} {w' : World} {sv lv : Value} {fs : List Nat} {base lo : Nat} {L : List Lv} (hL : L.map Lv.fs = k.levels) (hsg : RdVs w' k.sig.cd [sv] fs) (hfs : ∀ b ∈ fs, lo ≤ b ∧ b < base) (hlb : lo ≤ base) (hrow : Lvs w' base lv L) (hlg : ∀ t ∈ L, ∀ b ∈ t.g, base ≤ b) :
  ∃ fq, RdVs w' k.cd [sv, lv] fq ∧ ∀ b ∈ fq, lo ≤ b := by
 obtain ⟨fq, h1, h2⟩ := hrow.rd
 rw [hL] at h1
 refine ⟨fs ++ fq, ?_, fun b hb => ?_⟩
 ·unfold Stk.cd
  exact hsg.app (RdVs.single h1)
 ·have hl := hrow.lt
  rcases zd5.1 hb with hb | hb
  ·exact (hfs b hb).1
  ·rcases h2 b hb with h3 | ⟨t, ht, h3 | h3⟩
   ·have := (hl.1 b h3).1; omega
   ·have := ((hl.2 t ht).1 b h3).1; omega
   ·have := hlg t ht b h3; omega
/-- What the telling has turned: the row of levels, one level's row, nothing else that was there. -/
structure Turned (u w9 : World) (q : Nat) (v : Value) : Prop where
 keep : ∀ b, b < u.heap.size → b ≠ q → v.ownBlock ≠ some b → w9.heap[b]? = u.heap[b]?
 size : u.heap.size ≤ w9.heap.size
 bel : ∀ B, B ≤ u.heap.size → B ≤ q → (∀ b, v.ownBlock = some b → B ≤ b) → Below B u w9
theorem Turned.tell {u w6 : World} {q n : Nat} {v v' : Value} (hm : Moved u v w6 v') : Turned u (w6.setCell ⟨q, n, none⟩ v') q v :=
 ⟨fun b hb hq hv => (Below.heap_setCell _ _ _ _ (by simpa using hq)).trans (hm.block hb hv), by rw [World.size_setCell]; exact hm.size, fun B h1 h2 h3 => (hm.toBelow h1 h3).setCell h2 _⟩
theorem Turned.put {u w6 w7 : World} {q g : Nat} {v v' : Value} (h : Turned u w6 q v) (hv : v'.ownBlock = some g) (hg : v.ownBlock = some g ∨ u.heap.size ≤ g) (hm : Moved w6 v' w7 v') : Turned u w7 q v := by
 have hz := h.size
 refine ⟨fun b hb hq hv' => (hm.block (by omega) (fun e => ?_)).trans (h.keep b hb hq hv'), Nat.le_trans hz hm.size, fun B h1 h2 h3 => (h.bel B h1 h2 h3).trans (hm.toBelow (by omega) (fun b e => ?_))⟩
 ·rw [hv, Option.some.injEq] at e
  subst e
  rcases hg with h9 | h9
  ·exact hv' h9
  ·omega
 ·rw [hv, Option.some.injEq] at e
  subst e
  rcases hg with h9 | h9
  ·exact h3 g h9
  ·omega
theorem Own.addr {w : World} {base e k n c : Nat} {a : Option Addr} {es : List (List CD)} {fp : List Nat} (h : Own w base e k (.slice a n c) es fp) (hn : 0 < es.length) : ∃ g, a = some ⟨g, 0, none⟩ := by
 obtain ⟨xs, ⟨_, ⟨h1, h2⟩ | ⟨g, cap, cur, h1, _⟩⟩, _⟩ := h
 ·omega
 ·simp only [Value.slice.injEq] at h1; exact ⟨g, h1.1⟩
theorem za6 (k : Stk) (f : Fm) (vs us : List Value) (gk ff : List Nat) (w : World) (hbig : wtV k.cd + (wtV f.cd + 1) ≤ 1048576) (hv : RdVs w k.cd vs gk) (hf : RdVs w f.cd us ff) :
  Calls Try.prog 11 #[.agg vs.toArray, .agg us.toArray] w (BackOut (k.tell f) w) := by
 have hv0 := hv
 have hf0 := hf
 obtain ⟨a0, c0, f0, a1, c1, f1, rfl, _, m0, m1⟩ := Stk.open hv0
 obtain ⟨b3, d3, _, b5, d5, _, b6, d6, _, b7, d7, _, b11, d11, _, rfl, -, n0, n1, n2, n3, n4, n5, n6, n7, n8, n9⟩ := Fm.open hf0
 clear hv0 hf0 m0 m1 n0 n1 n2 n3 n4 n5 n6 n7 n8 n9
 have hfl := hf.lt
 have hP := ((Box.new w [.slice a0 k.sig.syms.length c0, .slice a1 k.levels.length c1] 28).alloc (.cells #[.int .i64 f.kind, .int .i64 f.lit.atom.kind, .string f.lit.atom.a.name, .slice b3 f.lit.atom.a.kids.length d3, .string f.lit.atom.b.name, .slice b5 f.lit.atom.b.kids.length d5, .slice b6 f.lit.atom.nums.length d6, .slice b7 f.lit.atom.times.length d7, .int .i64 f.lit.atom.bound, .bool f.lit.atom.strict, .bool f.lit.no, .slice b11 f.kids.length d11] 52)).alloc (.cells #[.slice none 0 0, .slice none 0 0] 28)
 have hF := (Box.new (w.alloc (.cells #[.slice a0 k.sig.syms.length c0, .slice a1 k.levels.length c1] 28)) [.int .i64 f.kind, .int .i64 f.lit.atom.kind, .string f.lit.atom.a.name, .slice b3 f.lit.atom.a.kids.length d3, .string f.lit.atom.b.name, .slice b5 f.lit.atom.b.kids.length d5, .slice b6 f.lit.atom.nums.length d6, .slice b7 f.lit.atom.times.length d7, .int .i64 f.lit.atom.bound, .bool f.lit.atom.strict, .bool f.lit.no, .slice b11 f.kids.length d11] 52).alloc (.cells #[.slice none 0 0, .slice none 0 0] 28)
 have hR := Box.new ((w.alloc (.cells #[.slice a0 k.sig.syms.length c0, .slice a1 k.levels.length c1] 28)).alloc (.cells #[.int .i64 f.kind, .int .i64 f.lit.atom.kind, .string f.lit.atom.a.name, .slice b3 f.lit.atom.a.kids.length d3, .string f.lit.atom.b.name, .slice b5 f.lit.atom.b.kids.length d5, .slice b6 f.lit.atom.nums.length d6, .slice b7 f.lit.atom.times.length d7, .int .i64 f.lit.atom.bound, .bool f.lit.atom.strict, .bool f.lit.no, .slice b11 f.kids.length d11] 52)) [.slice none 0 0, .slice none 0 0] 28
 rw [World.size_alloc] at hF
 rw [World.size_alloc, World.size_alloc] at hR
 have hB : Below w.heap.size w (((w.alloc (.cells #[.slice a0 k.sig.syms.length c0, .slice a1 k.levels.length c1] 28)).alloc (.cells #[.int .i64 f.kind, .int .i64 f.lit.atom.kind, .string f.lit.atom.a.name, .slice b3 f.lit.atom.a.kids.length d3, .string f.lit.atom.b.name, .slice b5 f.lit.atom.b.kids.length d5, .slice b6 f.lit.atom.nums.length d6, .slice b7 f.lit.atom.times.length d7, .int .i64 f.lit.atom.bound, .bool f.lit.atom.strict, .bool f.lit.no, .slice b11 f.kids.length d11] 52)).alloc (.cells #[.slice none 0 0, .slice none 0 0] 28)) := (((Below.refl _ _).alloc (Nat.le_refl _) _).alloc (by simp) _).alloc (by simp; omega) _
 have hz0 : w.heap.size + 1 + 1 + 1 ≤ (((w.alloc (.cells #[.slice a0 k.sig.syms.length c0, .slice a1 k.levels.length c1] 28)).alloc (.cells #[.int .i64 f.kind, .int .i64 f.lit.atom.kind, .string f.lit.atom.a.name, .slice b3 f.lit.atom.a.kids.length d3, .string f.lit.atom.b.name, .slice b5 f.lit.atom.b.kids.length d5, .slice b6 f.lit.atom.nums.length d6, .slice b7 f.lit.atom.times.length d7, .int .i64 f.lit.atom.bound, .bool f.lit.atom.strict, .bool f.lit.no, .slice b11 f.kids.length d11] 52)).alloc (.cells #[.slice none 0 0, .slice none 0 0] 28)).heap.size := by simp
 go_enter Try.func11, Try.ntmps11
 go_upto_region 1 with fail
 generalize ((w.alloc (.cells #[.slice a0 k.sig.syms.length c0, .slice a1 k.levels.length c1] 28)).alloc (.cells #[.int .i64 f.kind, .int .i64 f.lit.atom.kind, .string f.lit.atom.a.name, .slice b3 f.lit.atom.a.kids.length d3, .string f.lit.atom.b.name, .slice b5 f.lit.atom.b.kids.length d5, .slice b6 f.lit.atom.nums.length d6, .slice b7 f.lit.atom.times.length d7, .int .i64 f.lit.atom.bound, .bool f.lit.atom.strict, .bool f.lit.no, .slice b11 f.kids.length d11] 52)).alloc (.cells #[.slice none 0 0, .slice none 0 0] 28) = w0 at *
 have x0 := hP.2.1 0 _ rfl
 have x1 := hP.2.1 1 _ rfl
 go_wp2_with fail
 refine (zaJ k _ _ _ (by omega) (by exact hv.below hB)).mono ?_
 rintro e w1 ⟨rfl, hb1⟩
 replace hP := hP.below hb1
 replace hF := hF.below hb1
 replace hR := hR.below hb1
 replace hB := hB.trans (hb1.mono (by omega))
 have hz1 := hb1.size
 clear hb1 x0 x1
 cases hok : k.okK
 ·have HM := Lib.hid (Stk.tell_no (f := f) hok)
  clear hok
  have hro := zck w1
  have hlo : ∀ b ∈ ([] : List Nat), w1.heap.size ≤ b := by simp
  have yr0 := hR.2.1 0 _ rfl; have yr1 := hR.2.1 1 _ rfl; have zr0 := hR.2.2 0; have zr1 := hR.2.2 1
  have gR := hR.puts [.slice none 0 0, .slice none 0 0] rfl
  have hBE := zO (b := w.heap.size + 1 + 1) (by omega) (ze 0 [.slice none 0 0, .slice none 0 0]) hB
  have hKK := (Same2.refl (w.heap.size + 1 + 1) (w.heap.size + 1 + 1) w1).sets (b := w.heap.size + 1 + 1) (.inl rfl) (ze 0 [.slice none 0 0, .slice none 0 0])
  simp only [zo, ze] at gR hBE hKK
  have r0 := gR.2.1 0 _ rfl
  have r1 := gR.2.1 1 _ rfl
  have hro2 := hro.same2 hKK (fun b hb => by have := hlo b hb; omega)
  clear gR hKK hB hro
  go_wp2_with fail
  (try simp only [Exit.inBlock, Exit.then])
  refine bodyPost_ret (v := .tuple #[.agg #[.slice none 0 0, .slice none 0 0], .bool false]) (by simp [results, Try.results11, go_sem, r0, r1]) rfl ?_
  exact ⟨[_, _], _, by rw [HM.out], by rw [HM.out]; exact hro2, fun b hb => by have := hlo b hb; omega, hBE⟩
 have hlen := Stk.okK_len hok
 have HOK := Lib.hid hok
 clear hok
 have x0 := hP.2.1 0 _ rfl
 have x1 := hP.2.1 1 _ rfl
 go_wp2_with fail
 refine (zbe k _ _ _ (by omega) (by exact hv.below hB)).mono ?_
 rintro e w2 ⟨sv, lv, fs, base, L, rfl, hL, hsg, hfs, hlb, hbz, hrow, hlg, hb2⟩
 obtain ⟨sa, sc, sf, hsv, _, _⟩ := Sg.open hsg
 obtain rfl := (List.cons.inj hsv).1
 clear hsv
 obtain ⟨L1, t, rfl⟩ : ∃ L1 t, L = L1 ++ [t] := by
  rcases List.eq_nil_or_concat L with h | ⟨L1, t, h⟩
  ·rw [h] at hL; have := hlen.1; rw [← hL] at this; simp at this
  ·exact ⟨L1, t, by rw [h, List.concat_eq_append]⟩
 rw [zd8] at hL
 have HL : Hid (k.levels = L1.map Lv.fs ++ [t.fs]) := Lib.hid (by rw [← hL]; rfl)
 obtain ⟨q, lc, rfl⟩ : ∃ q c, lv = .slice (some ⟨q, 0, none⟩) (L1 ++ [t]).length c := by
  rcases hrow.row.2 with ⟨_, h0⟩ | ⟨g, cap, cur, e, _⟩
  ·simp at h0
  ·exact ⟨g, cap, e⟩
 obtain ⟨n1, hn1⟩ : ∃ n, n = (L1 ++ [t]).length := ⟨_, rfl⟩
 have hn2 : n1 ≤ L1.length + 1 := by rw [hn1]; simp
 have hn3 : L1.length + 1 ≤ n1 := by rw [hn1]; simp
 rw [← hn1] at hrow ⊢
 clear hn1 hL
 obtain ⟨tv, tfs, tg⟩ := t
 obtain ⟨ta, tn, tc, rfl⟩ : ∃ a n c, tv = .slice a n c := (hrow.own _ (List.mem_append_right _ (List.mem_singleton.2 rfl))).form'
 have hLn : L1.length ≤ 4 := by
  have h9 := congrArg List.length HL.out
  rw [zd7, zea, List.length_singleton] at h9; omega
 have hml : tfs.length ≤ 1048576 := by
  have h9 : wtV k.cd = wtV k.sig.cd + (k.levels.length + wtR (k.levels.map zx)) := zS k.sig k.levels
  rw [HL.out] at h9
  simp only [zd8, List.map_cons, List.map_nil, zU, zZ, wtR, zx, zao, zd7, List.length_cons, List.length_nil] at h9
  omega
 have st0 := StkW.box hsg hfs hlb hrow hlg
 have hba := zb w2 (.cells #[.slice sa k.sig.syms.length sc, .slice (some ⟨q, 0, none⟩) n1 lc] 28)
 have hz2 := hb2.size
 replace hP := (hP.below hb2).below hba
 replace hF := (hF.below hb2).below hba
 replace hR := (hR.below hb2).below hba
 replace hB := (hB.trans (hb2.mono (by omega))).trans (hba.mono (by omega))
 have hz3 := hba.size
 clear hsg hfs hrow hlg hb2 hba x0 x1
 go_upto_region 4 with fail
 generalize w2.alloc (.cells #[.slice sa k.sig.syms.length sc, .slice (some ⟨q, 0, none⟩) n1 lc] 28) = wb at *
 obtain ⟨ob, hob⟩ : ∃ ob, ob = w2.heap.size := ⟨_, rfl⟩
 rw [← hob] at st0 ⊢
 have hob1 : base ≤ ob := by omega
 clear hob
 have s1 := st0.c1
 have hM : ((n1 : Int) - 1) = (L1.length : Int) := by omega
 have hix : (L1.length : Int) < (n1 : Int) := by omega
 have hix2 : L1.length < n1 := by omega
 go_upto_region 5 with fail
 go_cut [19] from 18 to 19 (fun bv wx => ∃ b : Bool, bv = .bool b ∧ Below wb.heap.size wb wx)
 case first =>
  go_region
  all_goals
   go_wp2_with fail
   go_meet
   case rel => exact ⟨_, rfl, (zb wb _).drew⟩
 case rest =>
 obtain ⟨bt, rfl, hbc⟩ := hcut
 have st := st0.below hbc
 replace hP := hP.below hbc
 replace hF := hF.below hbc
 replace hR := hR.below hbc
 replace hB := hB.trans (hbc.mono (by omega))
 have hzc := hbc.size
 clear st0 s1
 generalize wc = u at *
 have s1 := st.c1
 have hrow := st.row
 have htm : (⟨.slice ta tn tc, tfs, tg⟩ : Lv) ∈ L1 ++ [⟨.slice ta tn tc, tfs, tg⟩] := by simp
 have t1 := (hrow.cell (k := L1.length) (by simp)).1
 have tz1 := (hrow.cell (k := L1.length) (by simp)).2
 rw [List.getElem_append_right (Nat.le_refl _)] at t1
 simp only [Nat.sub_self, List.getElem_cons_zero] at t1
 have hlt0 : ∀ b, (Value.slice ta tn tc).ownBlock = some b → base ≤ b ∧ b < u.heap.size := ((hrow.lt.2 _ htm).1)
 have hqb := hrow.lt.1 q rfl
 have hown0 := hrow.own _ htm
 have hoq : ∀ b, (Value.slice ta tn tc).ownBlock = some b → b ≠ q := fun b hb e => (hrow.nr _ htm).1 b hb (by rw [e]; rfl)
 have hgl0 := (hrow.lt.2 _ htm).2
 obtain ⟨tn1, tn2⟩ : tn ≤ tfs.length ∧ tfs.length ≤ tn := by
  obtain ⟨_, _, hve, _, _⟩ := hown0.form
  rw [zea] at hve
  simp only [Value.slice.injEq] at hve
  omega
 have f0 := hF.2.1 0 _ rfl
 have f1 := hF.2.1 1 _ rfl
 have f2 := hF.2.1 2 _ rfl
 have f3 := hF.2.1 3 _ rfl
 have f4 := hF.2.1 4 _ rfl
 have f5 := hF.2.1 5 _ rfl
 have f6 := hF.2.1 6 _ rfl
 have f7 := hF.2.1 7 _ rfl
 have f8 := hF.2.1 8 _ rfl
 have f9 := hF.2.1 9 _ rfl
 have f10 := hF.2.1 10 _ rfl
 have f11 := hF.2.1 11 _ rfl
 have hFl : w.heap.size + 1 < u.heap.size := hF.1
 have hFn : (Value.slice ta tn tc).ownBlock ≠ some (w.heap.size + 1) := fun e => by have := (hlt0 _ e).1; omega
 clear hF
 have BX := zm u
 go_upto_if 19 with (fail)
 go_cut [19] from 20 to 44 (fun bv wx => ∃ t9 : Lv, bv = .bool bt ∧ t9.fs = tfs ++ [f] ∧ Lvs wx base (.slice (some ⟨q, 0, none⟩) n1 lc) (L1 ++ [t9]) ∧ Turned u wx q (.slice ta tn tc) ∧ ∀ x ∈ L1 ++ [t9], ∀ b ∈ x.g, w1.heap.size ≤ b)
 case first =>
  cases bt
  ·go_upto_region 8 with fail
   refine Till.start (F := (fun U : World => U.cell? ⟨ob, 1, none⟩ = some (.slice (some ⟨q, 0, none⟩) n1 lc) ∧ U.cell? ⟨q, L1.length, none⟩ = some (.slice ta tn tc) ∧ U.cell? ⟨w.heap.size + 1, 0, none⟩ = some (.int .i64 f.kind) ∧ U.cell? ⟨w.heap.size + 1, 1, none⟩ = some (.int .i64 f.lit.atom.kind) ∧ U.cell? ⟨w.heap.size + 1, 2, none⟩ = some (.string f.lit.atom.a.name) ∧ U.cell? ⟨w.heap.size + 1, 3, none⟩ = some (.slice b3 f.lit.atom.a.kids.length d3) ∧ U.cell? ⟨w.heap.size + 1, 4, none⟩ = some (.string f.lit.atom.b.name) ∧ U.cell? ⟨w.heap.size + 1, 5, none⟩ = some (.slice b5 f.lit.atom.b.kids.length d5) ∧ U.cell? ⟨w.heap.size + 1, 6, none⟩ = some (.slice b6 f.lit.atom.nums.length d6) ∧ U.cell? ⟨w.heap.size + 1, 7, none⟩ = some (.slice b7 f.lit.atom.times.length d7) ∧ U.cell? ⟨w.heap.size + 1, 8, none⟩ = some (.int .i64 f.lit.atom.bound) ∧ U.cell? ⟨w.heap.size + 1, 9, none⟩ = some (.bool f.lit.atom.strict) ∧ U.cell? ⟨w.heap.size + 1, 10, none⟩ = some (.bool f.lit.no) ∧ U.cell? ⟨w.heap.size + 1, 11, none⟩ = some (.slice b11 f.kids.length d11))) (s0 := 12) (by kernel_rfl) ?_
   have hF : (fun U : World => U.cell? ⟨ob, 1, none⟩ = some (.slice (some ⟨q, 0, none⟩) n1 lc) ∧ U.cell? ⟨q, L1.length, none⟩ = some (.slice ta tn tc) ∧ U.cell? ⟨w.heap.size + 1, 0, none⟩ = some (.int .i64 f.kind) ∧ U.cell? ⟨w.heap.size + 1, 1, none⟩ = some (.int .i64 f.lit.atom.kind) ∧ U.cell? ⟨w.heap.size + 1, 2, none⟩ = some (.string f.lit.atom.a.name) ∧ U.cell? ⟨w.heap.size + 1, 3, none⟩ = some (.slice b3 f.lit.atom.a.kids.length d3) ∧ U.cell? ⟨w.heap.size + 1, 4, none⟩ = some (.string f.lit.atom.b.name) ∧ U.cell? ⟨w.heap.size + 1, 5, none⟩ = some (.slice b5 f.lit.atom.b.kids.length d5) ∧ U.cell? ⟨w.heap.size + 1, 6, none⟩ = some (.slice b6 f.lit.atom.nums.length d6) ∧ U.cell? ⟨w.heap.size + 1, 7, none⟩ = some (.slice b7 f.lit.atom.times.length d7) ∧ U.cell? ⟨w.heap.size + 1, 8, none⟩ = some (.int .i64 f.lit.atom.bound) ∧ U.cell? ⟨w.heap.size + 1, 9, none⟩ = some (.bool f.lit.atom.strict) ∧ U.cell? ⟨w.heap.size + 1, 10, none⟩ = some (.bool f.lit.no) ∧ U.cell? ⟨w.heap.size + 1, 11, none⟩ = some (.slice b11 f.kids.length d11)) _ := ⟨za s1 BX, za t1 BX, za f0 BX, za f1 BX, za f2 BX, za f3 BX, za f4 BX, za f5 BX, za f6 BX, za f7 BX, za f8 BX, za f9 BX, za f10 BX, za f11 BX⟩
   refine Till.take (i := 0) (v := (.pointer (some ⟨ob, 1, none⟩))) rfl (by kernel_rfl) (by kernel_rfl) (by kernel_rfl) (fun _ _ _ h => h) (by kernel_rfl) (Or.inl ⟨by rfl, fun U hU => ?_⟩) hF ?_
   ·obtain ⟨u0F, u1F, u2F, u3F, u4F, u5F, u6F, u7F, u8F, u9F, u10F, u11F, u12F, u13F⟩ := hU
    go_simp
   try simp only [Act.put, zdX, zdY, zdZ]
   refine Till.take (i := 1) (v := (.slice (some ⟨q, 0, none⟩) n1 lc)) rfl (by kernel_rfl) (by kernel_rfl) (by kernel_rfl) (fun _ _ _ h => h) (by kernel_rfl) (Or.inl ⟨by rfl, fun U hU => ?_⟩) hF ?_
   ·obtain ⟨u0F, u1F, u2F, u3F, u4F, u5F, u6F, u7F, u8F, u9F, u10F, u11F, u12F, u13F⟩ := hU
    go_simp
   try simp only [Act.put, zdX, zdY, zdZ]
   refine Till.take (i := 2) (v := (.int .i64 L1.length)) rfl (by kernel_rfl) (by kernel_rfl) (by kernel_rfl) (fun _ _ _ h => h) (by kernel_rfl) (Or.inl ⟨by rfl, fun U hU => ?_⟩) hF ?_
   ·obtain ⟨u0F, u1F, u2F, u3F, u4F, u5F, u6F, u7F, u8F, u9F, u10F, u11F, u12F, u13F⟩ := hU
    go_simp
   try simp only [Act.put, zdX, zdY, zdZ]
   refine Till.take (i := 3) (v := (.pointer (some ⟨ob, 1, none⟩))) rfl (by kernel_rfl) (by kernel_rfl) (by kernel_rfl) (fun _ _ _ h => h) (by kernel_rfl) (Or.inl ⟨by rfl, fun U hU => ?_⟩) hF ?_
   ·obtain ⟨u0F, u1F, u2F, u3F, u4F, u5F, u6F, u7F, u8F, u9F, u10F, u11F, u12F, u13F⟩ := hU
    go_simp
   try simp only [Act.put, zdX, zdY, zdZ]
   refine Till.take (i := 4) (v := (.slice (some ⟨q, 0, none⟩) n1 lc)) rfl (by kernel_rfl) (by kernel_rfl) (by kernel_rfl) (fun _ _ _ h => h) (by kernel_rfl) (Or.inl ⟨by rfl, fun U hU => ?_⟩) hF ?_
   ·obtain ⟨u0F, u1F, u2F, u3F, u4F, u5F, u6F, u7F, u8F, u9F, u10F, u11F, u12F, u13F⟩ := hU
    go_simp
   try simp only [Act.put, zdX, zdY, zdZ]
   refine Till.take (i := 5) (v := (.int .i64 L1.length)) rfl (by kernel_rfl) (by kernel_rfl) (by kernel_rfl) (fun _ _ _ h => h) (by kernel_rfl) (Or.inl ⟨by rfl, fun U hU => ?_⟩) hF ?_
   ·obtain ⟨u0F, u1F, u2F, u3F, u4F, u5F, u6F, u7F, u8F, u9F, u10F, u11F, u12F, u13F⟩ := hU
    go_simp
   try simp only [Act.put, zdX, zdY, zdZ]
   refine Till.take (i := 6) (v := (.pointer (some ⟨q, L1.length, none⟩))) rfl (by kernel_rfl) (by kernel_rfl) (by kernel_rfl) (fun _ _ _ h => h) (by kernel_rfl) (Or.inl ⟨by rfl, fun U hU => ?_⟩) hF ?_
   ·obtain ⟨u0F, u1F, u2F, u3F, u4F, u5F, u6F, u7F, u8F, u9F, u10F, u11F, u12F, u13F⟩ := hU
    go_simp
   try simp only [Act.put, zdX, zdY, zdZ]
   refine Till.take (i := 7) (v := (.slice ta tn tc)) rfl (by kernel_rfl) (by kernel_rfl) (by kernel_rfl) (fun _ _ _ h => h) (by kernel_rfl) (Or.inl ⟨by rfl, fun U hU => ?_⟩) hF ?_
   ·obtain ⟨u0F, u1F, u2F, u3F, u4F, u5F, u6F, u7F, u8F, u9F, u10F, u11F, u12F, u13F⟩ := hU
    go_simp
   try simp only [Act.put, zdX, zdY, zdZ]
   refine Till.take (i := 8) (v := (.agg #[.int .i64 f.kind, .int .i64 f.lit.atom.kind, .string f.lit.atom.a.name, .slice b3 f.lit.atom.a.kids.length d3, .string f.lit.atom.b.name, .slice b5 f.lit.atom.b.kids.length d5, .slice b6 f.lit.atom.nums.length d6, .slice b7 f.lit.atom.times.length d7, .int .i64 f.lit.atom.bound, .bool f.lit.atom.strict, .bool f.lit.no, .slice b11 f.kids.length d11])) rfl (by kernel_rfl) (by kernel_rfl) (by kernel_rfl) (fun _ _ _ h => h) (by kernel_rfl) (Or.inl ⟨by rfl, fun U hU => ?_⟩) hF ?_
   ·obtain ⟨u0F, u1F, u2F, u3F, u4F, u5F, u6F, u7F, u8F, u9F, u10F, u11F, u12F, u13F⟩ := hU
    go_simp
   try simp only [Act.put, zdX, zdY, zdZ]
   refine Till.one (i := 9) (by kernel_rfl) rfl (fun K hK => ?_)
   go_simp
   go_wp2_with (go_at_call 28; refine (zbq f _ _ _ (by omega) (by exact (hf.below hB).below BX)).mono ?_; rintro e w5 ⟨kv, fk, rfl, hrk, hfk, hb5⟩)
   obtain ⟨k3, j3, _, k5, j5, _, k6, j6, _, k7, j7, _, k11, j11, _, rfl, -, y0, y1, y2, y3, y4, y5, y6, y7, y8, y9⟩ := Fm.open hrk
   clear y0 y1 y2 y3 y4 y5 y6 y7 y8 y9
   have BV := zc hb5
   have hz5 := BV.size
   have hnl : ∀ b ∈ fk, u.heap.size ≤ b := fun b hb => (hfk.2 b hb).1
   have hnu := hrk.lt
   refine hK.out _ _ (fun _ => ⟨za s1 BV, za t1 BV, za f0 BV, za f1 BV, za f2 BV, za f3 BV, za f4 BV, za f5 BV, za f6 BV, za f7 BV, za f8 BV, za f9 BV, za f10 BV, za f11 BV⟩) ?_
   clear hK
   try simp only [Act.put, zdX, zdY, zdZ]
   refine Till.one (i := 10) (by kernel_rfl) rfl (fun K hK => ?_)
   go_simp
   have BY : Below u.heap.size u (w5.alloc (.cells #[.int .i64 f.kind, .int .i64 f.lit.atom.kind, .string f.lit.atom.a.name, .slice k3 f.lit.atom.a.kids.length j3, .string f.lit.atom.b.name, .slice k5 f.lit.atom.b.kids.length j5, .slice k6 f.lit.atom.nums.length j6, .slice k7 f.lit.atom.times.length j7, .int .i64 f.lit.atom.bound, .bool f.lit.atom.strict, .bool f.lit.no, .slice k11 f.kids.length j11] 52)) := BV.trans ((zb w5 _).mono hz5)
   refine hK.out _ _ (fun _ => ⟨za s1 BY, za t1 BY, za f0 BY, za f1 BY, za f2 BY, za f3 BY, za f4 BY, za f5 BY, za f6 BY, za f7 BY, za f8 BY, za f9 BY, za f10 BY, za f11 BY⟩) ?_
   clear hK
   try simp only [Act.put, zdX, zdY, zdZ]
   refine Till.one (i := 11) (by kernel_rfl) rfl (fun K hK => ?_)
   refine zR zai rfl _ _ rfl base _ _ _ rfl (by exact hown0.below BY) ⟨w5.heap.size, 0, none⟩ 1 1 [f.cd] [.int .i64 f.kind, .int .i64 f.lit.atom.kind, .string f.lit.atom.a.name, .slice k3 f.lit.atom.a.kids.length j3, .string f.lit.atom.b.name, .slice k5 f.lit.atom.b.kids.length j5, .slice k6 f.lit.atom.nums.length j6, .slice k7 f.lit.atom.times.length j7, .int .i64 f.lit.atom.bound, .bool f.lit.atom.strict, .bool f.lit.no, .slice k11 f.kids.length j11] fk rfl rfl (by simpa using hrk.below (zb w5 _)) (by simp [Fm.cd_len, zz]) (by exact zr _ _ _) (fun b hb e => by have := hnl b hb; have := (hlt0 b e).2; omega) (by (try simp); omega) (by (try simp); omega) (by have := BY.size; omega) ?_
   intro v6 w6 hown6 hg6 hv6 hs6
   obtain ⟨ga, gn, gc, rfl⟩ := hown6.form'
   obtain ⟨gb, rfl⟩ := hown6.addr (by simp)
   have hm6 : Moved u (.slice ta tn tc) w6 (.slice (some ⟨gb, 0, none⟩) gn gc) := Moved.after BY ⟨hg6, hv6⟩
   obtain ⟨hgn1, hgn2⟩ : tn < gn ∧ gn ≤ tn + 1 := by
    obtain ⟨_, _, hve, _, _⟩ := hown6.form
    rw [zd7, zea] at hve
    simp only [Value.slice.injEq, List.length_cons, List.length_nil] at hve
    omega
   refine hK.out _ _ (fun _ => ⟨zg (hm6.block st.lt (fun e => (st.nf _ htm).1 e)) s1, zg (hm6.block hqb.2 (fun e => hoq q e rfl)) t1, zg (hm6.block hFl hFn) f0, zg (hm6.block hFl hFn) f1, zg (hm6.block hFl hFn) f2, zg (hm6.block hFl hFn) f3, zg (hm6.block hFl hFn) f4, zg (hm6.block hFl hFn) f5, zg (hm6.block hFl hFn) f6, zg (hm6.block hFl hFn) f7, zg (hm6.block hFl hFn) f8, zg (hm6.block hFl hFn) f9, zg (hm6.block hFl hFn) f10, zg (hm6.block hFl hFn) f11⟩) ?_
   clear hK
   try simp only [Act.put, zdX, zdY, zdZ]
   refine Till.one (i := 12) (by kernel_rfl) rfl (fun K hK => ?_)
   have s6 := zg (hm6.block st.lt (fun e => (st.nf _ htm).1 e)) s1
   go_simp
   refine hK.out _ _ (fun h => absurd h (by decide)) ?_
   clear hK
   try simp only [Act.put, zdX, zdY, zdZ]
   refine Till.one (i := 13) (by kernel_rfl) rfl (fun K hK => ?_)
   have t6 := zg (hm6.block hqb.2 (fun e => hoq q e rfl)) t1
   have tz6 := zl (hm6.block hqb.2 (fun e => hoq q e rfl)) tz1
   go_simp
   refine hK.out _ _ (fun h => absurd h (by decide)) ?_
   clear hK
   try simp only [Act.put, zdX, zdY, zdZ]
   refine Till.done (by kernel_rfl) ?_ _
   have hm7 : Moved (w5.alloc (.cells #[.int .i64 f.kind, .int .i64 f.lit.atom.kind, .string f.lit.atom.a.name, .slice k3 f.lit.atom.a.kids.length j3, .string f.lit.atom.b.name, .slice k5 f.lit.atom.b.kids.length j5, .slice k6 f.lit.atom.nums.length j6, .slice k7 f.lit.atom.times.length j7, .int .i64 f.lit.atom.bound, .bool f.lit.atom.strict, .bool f.lit.no, .slice k11 f.kids.length j11] 52)) (.slice ta tn tc) w6 (.slice (some ⟨gb, 0, none⟩) gn gc) := ⟨hg6, hv6⟩
   have hrow5 := hrow.below BY
   have hzz : (w5.alloc (.cells #[.int .i64 f.kind, .int .i64 f.lit.atom.kind, .string f.lit.atom.a.name, .slice k3 f.lit.atom.a.kids.length j3, .string f.lit.atom.b.name, .slice k5 f.lit.atom.b.kids.length j5, .slice k6 f.lit.atom.nums.length j6, .slice k7 f.lit.atom.times.length j7, .int .i64 f.lit.atom.bound, .bool f.lit.atom.strict, .bool f.lit.no, .slice k11 f.kids.length j11] 52)).heap.size = w5.heap.size + 1 := World.size_alloc _ _
   have hown6' : Own w6 base 52 12 (.slice (some ⟨gb, 0, none⟩) gn gc) ((tfs ++ [f]).map Fm.cd) (tg ++ fk) := by rw [zd8]; exact hown6
   have hRow9 := hrow5.tell (L2 := []) hm7 hown6' (by have := BY.size; omega) (fun b hb => by
    rcases zd5.1 hb with h | h
    ·exact .inl h
    ·exact .inr ⟨by have := hnl b h; omega, fun x hx e => by have := hnl b h; have := ((hrow.lt.2 x hx).1 b e).2; omega⟩) (fun b hb => by
    rcases zd5.1 hb with h | h
    ·have := hgl0 b h; omega
    ·have := hnu b h; omega)
   have hT9 : Turned u _ q (.slice ta tn tc) := Turned.tell (q := q) (n := L1.length) hm6
   obtain ⟨t9, ht9e⟩ : ∃ t9 : Lv, t9 = ⟨.slice (some ⟨gb, 0, none⟩) gn gc, tfs ++ [f], tg ++ fk⟩ := ⟨_, rfl⟩
   rw [← ht9e] at hRow9
   have ht9 : t9.fs = tfs ++ [f] := by rw [ht9e]
   have hg9 : ∀ x ∈ L1 ++ [t9], ∀ b ∈ x.g, w1.heap.size ≤ b := fun x hx b hb => by
    rcases zd5.1 hx with hx | hx
    ·have := st.lg x (List.mem_append_left _ hx) b hb; omega
    ·rw [List.mem_singleton.1 hx, ht9e] at hb
     rcases zd5.1 hb with hb | hb
     ·have := st.lg _ htm b hb; omega
     ·have := hnl b hb; omega
   clear hown6 hg6 hv6 hs6 hm6 hown6' ht9e hF BX
   go_wp2_with fail
   go_meet
   case rel => exact ⟨t9, rfl, ht9, hRow9, hT9, hg9⟩
  ·go_upto_region 6 with fail
   refine Till.start (F := (fun U : World => U.cell? ⟨ob, 1, none⟩ = some (.slice (some ⟨q, 0, none⟩) n1 lc) ∧ U.cell? ⟨q, L1.length, none⟩ = some (.slice ta tn tc) ∧ U.cell? ⟨w.heap.size + 1, 0, none⟩ = some (.int .i64 f.kind) ∧ U.cell? ⟨w.heap.size + 1, 1, none⟩ = some (.int .i64 f.lit.atom.kind) ∧ U.cell? ⟨w.heap.size + 1, 2, none⟩ = some (.string f.lit.atom.a.name) ∧ U.cell? ⟨w.heap.size + 1, 3, none⟩ = some (.slice b3 f.lit.atom.a.kids.length d3) ∧ U.cell? ⟨w.heap.size + 1, 4, none⟩ = some (.string f.lit.atom.b.name) ∧ U.cell? ⟨w.heap.size + 1, 5, none⟩ = some (.slice b5 f.lit.atom.b.kids.length d5) ∧ U.cell? ⟨w.heap.size + 1, 6, none⟩ = some (.slice b6 f.lit.atom.nums.length d6) ∧ U.cell? ⟨w.heap.size + 1, 7, none⟩ = some (.slice b7 f.lit.atom.times.length d7) ∧ U.cell? ⟨w.heap.size + 1, 8, none⟩ = some (.int .i64 f.lit.atom.bound) ∧ U.cell? ⟨w.heap.size + 1, 9, none⟩ = some (.bool f.lit.atom.strict) ∧ U.cell? ⟨w.heap.size + 1, 10, none⟩ = some (.bool f.lit.no) ∧ U.cell? ⟨w.heap.size + 1, 11, none⟩ = some (.slice b11 f.kids.length d11))) (s0 := 9) (by kernel_rfl) ?_
   have hF : (fun U : World => U.cell? ⟨ob, 1, none⟩ = some (.slice (some ⟨q, 0, none⟩) n1 lc) ∧ U.cell? ⟨q, L1.length, none⟩ = some (.slice ta tn tc) ∧ U.cell? ⟨w.heap.size + 1, 0, none⟩ = some (.int .i64 f.kind) ∧ U.cell? ⟨w.heap.size + 1, 1, none⟩ = some (.int .i64 f.lit.atom.kind) ∧ U.cell? ⟨w.heap.size + 1, 2, none⟩ = some (.string f.lit.atom.a.name) ∧ U.cell? ⟨w.heap.size + 1, 3, none⟩ = some (.slice b3 f.lit.atom.a.kids.length d3) ∧ U.cell? ⟨w.heap.size + 1, 4, none⟩ = some (.string f.lit.atom.b.name) ∧ U.cell? ⟨w.heap.size + 1, 5, none⟩ = some (.slice b5 f.lit.atom.b.kids.length d5) ∧ U.cell? ⟨w.heap.size + 1, 6, none⟩ = some (.slice b6 f.lit.atom.nums.length d6) ∧ U.cell? ⟨w.heap.size + 1, 7, none⟩ = some (.slice b7 f.lit.atom.times.length d7) ∧ U.cell? ⟨w.heap.size + 1, 8, none⟩ = some (.int .i64 f.lit.atom.bound) ∧ U.cell? ⟨w.heap.size + 1, 9, none⟩ = some (.bool f.lit.atom.strict) ∧ U.cell? ⟨w.heap.size + 1, 10, none⟩ = some (.bool f.lit.no) ∧ U.cell? ⟨w.heap.size + 1, 11, none⟩ = some (.slice b11 f.kids.length d11)) _ := ⟨za s1 BX, za t1 BX, za f0 BX, za f1 BX, za f2 BX, za f3 BX, za f4 BX, za f5 BX, za f6 BX, za f7 BX, za f8 BX, za f9 BX, za f10 BX, za f11 BX⟩
   refine Till.take (i := 0) (v := (.pointer (some ⟨ob, 1, none⟩))) rfl (by kernel_rfl) (by kernel_rfl) (by kernel_rfl) (fun _ _ _ h => h) (by kernel_rfl) (Or.inl ⟨by rfl, fun U hU => ?_⟩) hF ?_
   ·obtain ⟨u0F, u1F, u2F, u3F, u4F, u5F, u6F, u7F, u8F, u9F, u10F, u11F, u12F, u13F⟩ := hU
    go_simp
   try simp only [Act.put, zdX, zdY, zdZ]
   refine Till.take (i := 1) (v := (.slice (some ⟨q, 0, none⟩) n1 lc)) rfl (by kernel_rfl) (by kernel_rfl) (by kernel_rfl) (fun _ _ _ h => h) (by kernel_rfl) (Or.inl ⟨by rfl, fun U hU => ?_⟩) hF ?_
   ·obtain ⟨u0F, u1F, u2F, u3F, u4F, u5F, u6F, u7F, u8F, u9F, u10F, u11F, u12F, u13F⟩ := hU
    go_simp
   try simp only [Act.put, zdX, zdY, zdZ]
   refine Till.take (i := 2) (v := (.int .i64 L1.length)) rfl (by kernel_rfl) (by kernel_rfl) (by kernel_rfl) (fun _ _ _ h => h) (by kernel_rfl) (Or.inl ⟨by rfl, fun U hU => ?_⟩) hF ?_
   ·obtain ⟨u0F, u1F, u2F, u3F, u4F, u5F, u6F, u7F, u8F, u9F, u10F, u11F, u12F, u13F⟩ := hU
    go_simp
   try simp only [Act.put, zdX, zdY, zdZ]
   refine Till.take (i := 3) (v := (.pointer (some ⟨q, L1.length, none⟩))) rfl (by kernel_rfl) (by kernel_rfl) (by kernel_rfl) (fun _ _ _ h => h) (by kernel_rfl) (Or.inl ⟨by rfl, fun U hU => ?_⟩) hF ?_
   ·obtain ⟨u0F, u1F, u2F, u3F, u4F, u5F, u6F, u7F, u8F, u9F, u10F, u11F, u12F, u13F⟩ := hU
    go_simp
   try simp only [Act.put, zdX, zdY, zdZ]
   refine Till.take (i := 4) (v := (.slice ta tn tc)) rfl (by kernel_rfl) (by kernel_rfl) (by kernel_rfl) (fun _ _ _ h => h) (by kernel_rfl) (Or.inl ⟨by rfl, fun U hU => ?_⟩) hF ?_
   ·obtain ⟨u0F, u1F, u2F, u3F, u4F, u5F, u6F, u7F, u8F, u9F, u10F, u11F, u12F, u13F⟩ := hU
    go_simp
   try simp only [Act.put, zdX, zdY, zdZ]
   refine Till.take (i := 5) (v := (.agg #[.int .i64 f.kind, .int .i64 f.lit.atom.kind, .string f.lit.atom.a.name, .slice b3 f.lit.atom.a.kids.length d3, .string f.lit.atom.b.name, .slice b5 f.lit.atom.b.kids.length d5, .slice b6 f.lit.atom.nums.length d6, .slice b7 f.lit.atom.times.length d7, .int .i64 f.lit.atom.bound, .bool f.lit.atom.strict, .bool f.lit.no, .slice b11 f.kids.length d11])) rfl (by kernel_rfl) (by kernel_rfl) (by kernel_rfl) (fun _ _ _ h => h) (by kernel_rfl) (Or.inl ⟨by rfl, fun U hU => ?_⟩) hF ?_
   ·obtain ⟨u0F, u1F, u2F, u3F, u4F, u5F, u6F, u7F, u8F, u9F, u10F, u11F, u12F, u13F⟩ := hU
    go_simp
   try simp only [Act.put, zdX, zdY, zdZ]
   refine Till.take (i := 7) (v := (.int .i64 tn)) rfl (by kernel_rfl) (by kernel_rfl) (by kernel_rfl) (fun _ _ _ h => h) (by kernel_rfl) (Or.inl ⟨by rfl, fun U hU => ?_⟩) hF ?_
   ·obtain ⟨u0F, u1F, u2F, u3F, u4F, u5F, u6F, u7F, u8F, u9F, u10F, u11F, u12F, u13F⟩ := hU
    go_simp
   try simp only [Act.put, zdX, zdY, zdZ]
   refine Till.two (i := 6) (j := 8) (by kernel_rfl) rfl rfl (fun K hK => ?_) (fun K hK => ?_)
   ·go_simp
    go_wp2_with (go_at_call 28; refine (zbq f _ _ _ (by omega) (by exact (hf.below hB).below BX)).mono ?_; rintro e w5 ⟨kv, fk, rfl, hrk, hfk, hb5⟩)
    obtain ⟨k3, j3, _, k5, j5, _, k6, j6, _, k7, j7, _, k11, j11, _, rfl, -, y0, y1, y2, y3, y4, y5, y6, y7, y8, y9⟩ := Fm.open hrk
    clear y0 y1 y2 y3 y4 y5 y6 y7 y8 y9
    have BV := zc hb5
    have hz5 := BV.size
    refine hK.out _ _ (fun _ => ⟨za s1 BV, za t1 BV, za f0 BV, za f1 BV, za f2 BV, za f3 BV, za f4 BV, za f5 BV, za f6 BV, za f7 BV, za f8 BV, za f9 BV, za f10 BV, za f11 BV⟩) ?_
    clear hK
    try simp only [Act.put, zdX, zdY, zdZ]
    refine Till.one (i := 8) (by kernel_rfl) rfl (fun K hK => ?_)
    go_simp
    have BY : Below u.heap.size u (w5.alloc (.cells #[.int .i64 0, .int .i64 0, .string ⟨#[]⟩, .slice none 0 0, .string ⟨#[]⟩, .slice none 0 0, .slice none 0 0, .slice none 0 0, .int .i64 0, .bool false, .bool false, .slice none 0 0] 52)) := BV.trans ((zb w5 _).mono hz5)
    refine hK.out _ _ (fun _ => ⟨za s1 BY, za t1 BY, za f0 BY, za f1 BY, za f2 BY, za f3 BY, za f4 BY, za f5 BY, za f6 BY, za f7 BY, za f8 BY, za f9 BY, za f10 BY, za f11 BY⟩) ?_
    clear hK
    try simp only [Act.put, zdX, zdY, zdZ]
    refine Till.one (i := 9) (by kernel_rfl) rfl (fun K hK => ?_)
    refine zR zai rfl _ _ rfl base _ _ _ rfl (by exact hown0.below BY) ⟨w5.heap.size, 0, none⟩ 1 1 [zz] [.int .i64 0, .int .i64 0, .string ⟨#[]⟩, .slice none 0 0, .string ⟨#[]⟩, .slice none 0 0, .slice none 0 0, .slice none 0 0, .int .i64 0, .bool false, .bool false, .slice none 0 0] [] rfl rfl (by simpa using zaL _) (by simp [Fm.cd_len, zz]) (by exact zr _ _ _) (by simp) (by (try simp); omega) (by (try simp); omega) (by have := BY.size; omega) ?_
    intro v6 w6 hown6 hg6 hv6 hs6
    obtain ⟨ga, gn, gc, rfl⟩ := hown6.form'
    obtain ⟨gb, rfl⟩ := hown6.addr (by simp)
    have hm6 : Moved u (.slice ta tn tc) w6 (.slice (some ⟨gb, 0, none⟩) gn gc) := Moved.after BY ⟨hg6, hv6⟩
    obtain ⟨hgn1, hgn2⟩ : tn < gn ∧ gn ≤ tn + 1 := by
     obtain ⟨_, _, hve, _, _⟩ := hown6.form
     rw [zd7, zea] at hve
     simp only [Value.slice.injEq, List.length_cons, List.length_nil] at hve
     omega
    refine hK.out _ _ (fun h => absurd h (by decide)) ?_
    clear hK
    try simp only [Act.put, zdX, zdY, zdZ]
    have hnw : ∀ b ∈ fk, b < ((w5.alloc (.cells #[.int .i64 0, .int .i64 0, .string ⟨#[]⟩, .slice none 0 0, .string ⟨#[]⟩, .slice none 0 0, .slice none 0 0, .slice none 0 0, .int .i64 0, .bool false, .bool false, .slice none 0 0] 52))).heap.size := fun b hb => by have := hrk.lt _ b hb; rw [World.size_alloc]; omega
    have hrkA := hrk.below (zb w5 (.cells #[.int .i64 0, .int .i64 0, .string ⟨#[]⟩, .slice none 0 0, .string ⟨#[]⟩, .slice none 0 0, .slice none 0 0, .slice none 0 0, .int .i64 0, .bool false, .bool false, .slice none 0 0] 52))
    refine Till.one (i := 10) (by kernel_rfl) rfl (fun K hK => ?_)
    have s6 := zg (hm6.block st.lt (fun e => (st.nf _ htm).1 e)) s1
    go_simp
    refine hK.out _ _ (fun h => absurd h (by decide)) ?_
    clear hK
    try simp only [Act.put, zdX, zdY, zdZ]
    refine Till.one (i := 11) (by kernel_rfl) rfl (fun K hK => ?_)
    have t6 := zg (hm6.block hqb.2 (fun e => hoq q e rfl)) t1
    have tz6 := zl (hm6.block hqb.2 (fun e => hoq q e rfl)) tz1
    go_simp
    refine hK.out _ _ (fun h => absurd h (by decide)) ?_
    clear hK
    try simp only [Act.put, zdX, zdY, zdZ]
    refine Till.done (by kernel_rfl) ?_ _
    have hown6' : Own w6 base 52 12 (.slice (some ⟨gb, 0, none⟩) gn gc) ((tfs ++ [Fm.zero9]).map Fm.cd) tg := by
     rw [List.append_nil] at hown6
     rw [zd8, List.map_singleton, zaw]; exact hown6
    have hRow7 := hrow.tell (L2 := []) hm6 hown6' hqb.2 (fun b hb => .inl hb) hgl0
    have hT7 : Turned u _ q (.slice ta tn tc) := Turned.tell (q := q) (n := L1.length) hm6
    have hgb : (Value.slice ta tn tc).ownBlock = some gb ∨ u.heap.size ≤ gb := hm6.2 gb rfl
    have hnl : ∀ b ∈ fk, u.heap.size ≤ b := fun b hb => (hfk.2 b hb).1
    have hng : gb ∉ fk := fun h => by
     rcases hv6 gb rfl with h9 | h9
     ·have := (hlt0 gb h9).2; have := hnl gb h; omega
     ·have := hnw gb h; omega
    have hk7 : ∀ b ∈ fk, ((w5.alloc (.cells #[.int .i64 0, .int .i64 0, .string ⟨#[]⟩, .slice none 0 0, .string ⟨#[]⟩, .slice none 0 0, .slice none 0 0, .slice none 0 0, .int .i64 0, .bool false, .bool false, .slice none 0 0] 52))).heap[b]? = w6.heap[b]? := fun b hb => (hg6.block b (hnw b hb) (fun e => by have := (hlt0 b e.symm).2; have := hnl b hb; omega)).symm
    have hrk7 : RdVs (w6.setCell ⟨q, L1.length, none⟩ (.slice (some ⟨gb, 0, none⟩) gn gc)) f.cd [.int .i64 f.kind, .int .i64 f.lit.atom.kind, .string f.lit.atom.a.name, .slice k3 f.lit.atom.a.kids.length j3, .string f.lit.atom.b.name, .slice k5 f.lit.atom.b.kids.length j5, .slice k6 f.lit.atom.nums.length j6, .slice k7 f.lit.atom.times.length j7, .int .i64 f.lit.atom.bound, .bool f.lit.atom.strict, .bool f.lit.no, .slice k11 f.kids.length j11] fk := (hrkA.same _ (fun b hb => (hk7 b hb).symm)).same _ (zv (fun b hb (e : b = q) => by have := hnl b hb; omega))
    have hxw : ∀ b ∈ fk, ∀ x ∈ L1, x.v.ownBlock ≠ some b := fun b hb x hx e => by have := ((hrow.lt.2 x (List.mem_append_left _ hx)).1 b e).2; have := hnl b hb; omega
    clear hk7 hrkA hrk
    clear hown6 hg6 hv6 hs6 hm6 hown6' hF BX
    go_upto_region 7 with fail
    generalize w6.setCell ⟨q, L1.length, none⟩ (.slice (some ⟨gb, 0, none⟩) gn gc) = w7 at *
    have hB7 := hB.trans (hT7.bel w.heap.size (by omega) (by omega) (fun b e => by have := (hlt0 b e).1; omega))
    have hf7 := hrk7
    have hown7 := hRow7.own ⟨.slice (some ⟨gb, 0, none⟩) gn gc, tfs ++ [Fm.zero9], tg⟩ (by simp)
    simp only [zd8, List.map_singleton, zaw] at hown7
    obtain ⟨zs, zf, hzc, hzr⟩ := hown7.cells
    have hzl := hzr.length
    have hds : (tfs.map Fm.cd).length = tn := by rw [zea]; omega
    rw [hds] at hzc
    have hz0 := hzc 0 _ (List.getElem?_eq_getElem (by rw [hzl]; simp [zz]))
    have hz1 := hzc 1 _ (List.getElem?_eq_getElem (by rw [hzl]; simp [zz]))
    have hz2 := hzc 2 _ (List.getElem?_eq_getElem (by rw [hzl]; simp [zz]))
    have hz3 := hzc 3 _ (List.getElem?_eq_getElem (by rw [hzl]; simp [zz]))
    have hz4 := hzc 4 _ (List.getElem?_eq_getElem (by rw [hzl]; simp [zz]))
    have hz5 := hzc 5 _ (List.getElem?_eq_getElem (by rw [hzl]; simp [zz]))
    have hz6 := hzc 6 _ (List.getElem?_eq_getElem (by rw [hzl]; simp [zz]))
    have hz7 := hzc 7 _ (List.getElem?_eq_getElem (by rw [hzl]; simp [zz]))
    have hz8 := hzc 8 _ (List.getElem?_eq_getElem (by rw [hzl]; simp [zz]))
    have hz9 := hzc 9 _ (List.getElem?_eq_getElem (by rw [hzl]; simp [zz]))
    have hz10 := hzc 10 _ (List.getElem?_eq_getElem (by rw [hzl]; simp [zz]))
    have hz11 := hzc 11 _ (List.getElem?_eq_getElem (by rw [hzl]; simp [zz]))
    generalize zs[0]'_ = u0 at hz0
    generalize zs[1]'_ = u1 at hz1
    generalize zs[2]'_ = u2 at hz2
    generalize zs[3]'_ = u3 at hz3
    generalize zs[4]'_ = u4 at hz4
    generalize zs[5]'_ = u5 at hz5
    generalize zs[6]'_ = u6 at hz6
    generalize zs[7]'_ = u7 at hz7
    generalize zs[8]'_ = u8 at hz8
    generalize zs[9]'_ = u9 at hz9
    generalize zs[10]'_ = u10 at hz10
    generalize zs[11]'_ = u11 at hz11
    have hfz := hown7.free
    have hy0 := hfz (tn * 12)
    have hy1 := hfz (tn * 12 + 1)
    have hy2 := hfz (tn * 12 + 2)
    have hy3 := hfz (tn * 12 + 3)
    have hy4 := hfz (tn * 12 + 4)
    have hy5 := hfz (tn * 12 + 5)
    have hy6 := hfz (tn * 12 + 6)
    have hy7 := hfz (tn * 12 + 7)
    have hy8 := hfz (tn * 12 + 8)
    have hy9 := hfz (tn * 12 + 9)
    have hy10 := hfz (tn * 12 + 10)
    have hy11 := hfz (tn * 12 + 11)
    clear hfz hzc
    rw [Nat.add_zero] at hz0
    obtain ⟨hown8, hg8⟩ := hown7.put (vs := [.int .i64 f.kind, .int .i64 f.lit.atom.kind, .string f.lit.atom.a.name, .slice k3 f.lit.atom.a.kids.length j3, .string f.lit.atom.b.name, .slice k5 f.lit.atom.b.kids.length j5, .slice k6 f.lit.atom.nums.length j6, .slice k7 f.lit.atom.times.length j7, .int .i64 f.lit.atom.bound, .bool f.lit.atom.strict, .bool f.lit.no, .slice k11 f.kids.length j11]) (nf := fk) zba (by simpa using NoFp.nil) hf7 (by exact Fm.cd_len _) (fun hm => hng hm)
    rw [hds] at hown8 hg8
    simp only [World.setCells] at hown8 hg8
    have hgx : (tn : Int) < (gn : Int) := by omega
    have hRow9 := hRow7.put (L2 := []) (fs' := tfs ++ [f]) (g' := tg ++ fk) ⟨hg8, fun b hb => .inl hb⟩ (by rw [zd8]; exact hown8) (fun b hb => by
     rcases zd5.1 hb with h | h
     ·exact .inl h
     ·exact .inr ⟨fun e => by have := hnl b h; simp only [Value.ownBlock, Option.some.injEq] at e; omega, fun x hx e => by
       rcases zd5.1 hx with hx | hx
       ·exact hxw b h x hx e
       ·rw [List.mem_singleton.1 hx] at e; simp only [Value.ownBlock, Option.some.injEq] at e; subst e; exact hng h⟩)
    have hT9 := hT7.put (v' := .slice (some ⟨gb, 0, none⟩) gn gc) rfl hgb ⟨hg8, fun b hb => .inl hb⟩
    obtain ⟨t9, ht9e⟩ : ∃ t9 : Lv, t9 = ⟨.slice (some ⟨gb, 0, none⟩) gn gc, tfs ++ [f], tg ++ fk⟩ := ⟨_, rfl⟩
    rw [← ht9e] at hRow9
    have ht9 : t9.fs = tfs ++ [f] := by rw [ht9e]
    have hg9 : ∀ x ∈ L1 ++ [t9], ∀ b ∈ x.g, w1.heap.size ≤ b := fun x hx b hb => by
     rcases zd5.1 hx with hx | hx
     ·have := st.lg x (List.mem_append_left _ hx) b hb; omega
     ·rw [List.mem_singleton.1 hx, ht9e] at hb
      rcases zd5.1 hb with hb | hb
      ·have := st.lg _ htm b hb; omega
      ·have := hnl b hb; omega
    clear hown8 hg8 hRow7 hT7 hown7 hf7 ht9e hB7 hzr hds
    go_wp2_with fail
    go_meet
    case rel => exact ⟨t9, rfl, ht9, hRow9, hT9, hg9⟩
   ·go_simp
    have BV : Below u.heap.size u (u.alloc (.cells #[.int .i64 0, .int .i64 0, .string ⟨#[]⟩, .slice none 0 0, .string ⟨#[]⟩, .slice none 0 0, .slice none 0 0, .slice none 0 0, .int .i64 0, .bool false, .bool false, .slice none 0 0] 52)).drew := (zb u _).drew
    refine hK.out _ _ (fun _ => ⟨za s1 BV, za t1 BV, za f0 BV, za f1 BV, za f2 BV, za f3 BV, za f4 BV, za f5 BV, za f6 BV, za f7 BV, za f8 BV, za f9 BV, za f10 BV, za f11 BV⟩) ?_
    clear hK
    try simp only [Act.put, zdX, zdY, zdZ]
    refine Till.one (i := 6) (by kernel_rfl) rfl (fun K hK => ?_)
    go_simp
    go_wp2_with (go_at_call 28; refine (zbq f _ _ _ (by omega) (by exact (hf.below hB).below BV)).mono ?_; rintro e w5 ⟨kv, fk, rfl, hrk, hfk, hb5⟩)
    obtain ⟨k3, j3, _, k5, j5, _, k6, j6, _, k7, j7, _, k11, j11, _, rfl, -, y0, y1, y2, y3, y4, y5, y6, y7, y8, y9⟩ := Fm.open hrk
    clear y0 y1 y2 y3 y4 y5 y6 y7 y8 y9
    have hb5' := zc hb5
    have BY := (zb u (.cells #[.int .i64 0, .int .i64 0, .string ⟨#[]⟩, .slice none 0 0, .string ⟨#[]⟩, .slice none 0 0, .slice none 0 0, .slice none 0 0, .int .i64 0, .bool false, .bool false, .slice none 0 0] 52)).trans (hb5'.mono (zb u _).size)
    have hz5 := hb5'.size
    have hzc0 := zr u [.int .i64 0, .int .i64 0, .string ⟨#[]⟩, .slice none 0 0, .string ⟨#[]⟩, .slice none 0 0, .slice none 0 0, .slice none 0 0, .int .i64 0, .bool false, .bool false, .slice none 0 0] 52
    refine hK.out _ _ (fun _ => ⟨za s1 BY, za t1 BY, za f0 BY, za f1 BY, za f2 BY, za f3 BY, za f4 BY, za f5 BY, za f6 BY, za f7 BY, za f8 BY, za f9 BY, za f10 BY, za f11 BY⟩) ?_
    clear hK
    try simp only [Act.put, zdX, zdY, zdZ]
    refine Till.one (i := 9) (by kernel_rfl) rfl (fun K hK => ?_)
    refine zR zai rfl _ _ rfl base _ _ _ rfl (by exact hown0.below BY) ⟨u.heap.size, 0, none⟩ 1 1 [zz] [.int .i64 0, .int .i64 0, .string ⟨#[]⟩, .slice none 0 0, .string ⟨#[]⟩, .slice none 0 0, .slice none 0 0, .slice none 0 0, .int .i64 0, .bool false, .bool false, .slice none 0 0] [] rfl rfl (by simpa using zaL _) (by simp [Fm.cd_len, zz]) (by intro j z hj; have h9 := hzc0 j z hj; rw [Addr.add_lit] at h9 ⊢; exact za h9 hb5') (by simp) (by (try simp); omega) (by (try simp); omega) (by have := BY.size; omega) ?_
    intro v6 w6 hown6 hg6 hv6 hs6
    obtain ⟨ga, gn, gc, rfl⟩ := hown6.form'
    obtain ⟨gb, rfl⟩ := hown6.addr (by simp)
    have hm6 : Moved u (.slice ta tn tc) w6 (.slice (some ⟨gb, 0, none⟩) gn gc) := Moved.after BY ⟨hg6, hv6⟩
    obtain ⟨hgn1, hgn2⟩ : tn < gn ∧ gn ≤ tn + 1 := by
     obtain ⟨_, _, hve, _, _⟩ := hown6.form
     rw [zd7, zea] at hve
     simp only [Value.slice.injEq, List.length_cons, List.length_nil] at hve
     omega
    refine hK.out _ _ (fun h => absurd h (by decide)) ?_
    clear hK
    try simp only [Act.put, zdX, zdY, zdZ]
    have hnw : ∀ b ∈ fk, b < w5.heap.size := hrk.lt _
    have hrkA := hrk
    refine Till.one (i := 10) (by kernel_rfl) rfl (fun K hK => ?_)
    have s6 := zg (hm6.block st.lt (fun e => (st.nf _ htm).1 e)) s1
    go_simp
    refine hK.out _ _ (fun h => absurd h (by decide)) ?_
    clear hK
    try simp only [Act.put, zdX, zdY, zdZ]
    refine Till.one (i := 11) (by kernel_rfl) rfl (fun K hK => ?_)
    have t6 := zg (hm6.block hqb.2 (fun e => hoq q e rfl)) t1
    have tz6 := zl (hm6.block hqb.2 (fun e => hoq q e rfl)) tz1
    go_simp
    refine hK.out _ _ (fun h => absurd h (by decide)) ?_
    clear hK
    try simp only [Act.put, zdX, zdY, zdZ]
    refine Till.done (by kernel_rfl) ?_ _
    have hown6' : Own w6 base 52 12 (.slice (some ⟨gb, 0, none⟩) gn gc) ((tfs ++ [Fm.zero9]).map Fm.cd) tg := by
     rw [List.append_nil] at hown6
     rw [zd8, List.map_singleton, zaw]; exact hown6
    have hRow7 := hrow.tell (L2 := []) hm6 hown6' hqb.2 (fun b hb => .inl hb) hgl0
    have hT7 : Turned u _ q (.slice ta tn tc) := Turned.tell (q := q) (n := L1.length) hm6
    have hgb : (Value.slice ta tn tc).ownBlock = some gb ∨ u.heap.size ≤ gb := hm6.2 gb rfl
    have hnl : ∀ b ∈ fk, u.heap.size ≤ b := fun b hb => by have := (hfk.2 b hb).1; simp at this; omega
    have hng : gb ∉ fk := fun h => by
     rcases hv6 gb rfl with h9 | h9
     ·have := (hlt0 gb h9).2; have := hnl gb h; omega
     ·have := hnw gb h; omega
    have hk7 : ∀ b ∈ fk, (w5).heap[b]? = w6.heap[b]? := fun b hb => (hg6.block b (hnw b hb) (fun e => by have := (hlt0 b e.symm).2; have := hnl b hb; omega)).symm
    have hrk7 : RdVs (w6.setCell ⟨q, L1.length, none⟩ (.slice (some ⟨gb, 0, none⟩) gn gc)) f.cd [.int .i64 f.kind, .int .i64 f.lit.atom.kind, .string f.lit.atom.a.name, .slice k3 f.lit.atom.a.kids.length j3, .string f.lit.atom.b.name, .slice k5 f.lit.atom.b.kids.length j5, .slice k6 f.lit.atom.nums.length j6, .slice k7 f.lit.atom.times.length j7, .int .i64 f.lit.atom.bound, .bool f.lit.atom.strict, .bool f.lit.no, .slice k11 f.kids.length j11] fk := (hrkA.same _ (fun b hb => (hk7 b hb).symm)).same _ (zv (fun b hb (e : b = q) => by have := hnl b hb; omega))
    have hxw : ∀ b ∈ fk, ∀ x ∈ L1, x.v.ownBlock ≠ some b := fun b hb x hx e => by have := ((hrow.lt.2 x (List.mem_append_left _ hx)).1 b e).2; have := hnl b hb; omega
    clear hk7 hrkA hrk
    clear hown6 hg6 hv6 hs6 hm6 hown6' hF BX
    go_upto_region 7 with fail
    generalize w6.setCell ⟨q, L1.length, none⟩ (.slice (some ⟨gb, 0, none⟩) gn gc) = w7 at *
    have hB7 := hB.trans (hT7.bel w.heap.size (by omega) (by omega) (fun b e => by have := (hlt0 b e).1; omega))
    have hf7 := hrk7
    have hown7 := hRow7.own ⟨.slice (some ⟨gb, 0, none⟩) gn gc, tfs ++ [Fm.zero9], tg⟩ (by simp)
    simp only [zd8, List.map_singleton, zaw] at hown7
    obtain ⟨zs, zf, hzc, hzr⟩ := hown7.cells
    have hzl := hzr.length
    have hds : (tfs.map Fm.cd).length = tn := by rw [zea]; omega
    rw [hds] at hzc
    have hz0 := hzc 0 _ (List.getElem?_eq_getElem (by rw [hzl]; simp [zz]))
    have hz1 := hzc 1 _ (List.getElem?_eq_getElem (by rw [hzl]; simp [zz]))
    have hz2 := hzc 2 _ (List.getElem?_eq_getElem (by rw [hzl]; simp [zz]))
    have hz3 := hzc 3 _ (List.getElem?_eq_getElem (by rw [hzl]; simp [zz]))
    have hz4 := hzc 4 _ (List.getElem?_eq_getElem (by rw [hzl]; simp [zz]))
    have hz5 := hzc 5 _ (List.getElem?_eq_getElem (by rw [hzl]; simp [zz]))
    have hz6 := hzc 6 _ (List.getElem?_eq_getElem (by rw [hzl]; simp [zz]))
    have hz7 := hzc 7 _ (List.getElem?_eq_getElem (by rw [hzl]; simp [zz]))
    have hz8 := hzc 8 _ (List.getElem?_eq_getElem (by rw [hzl]; simp [zz]))
    have hz9 := hzc 9 _ (List.getElem?_eq_getElem (by rw [hzl]; simp [zz]))
    have hz10 := hzc 10 _ (List.getElem?_eq_getElem (by rw [hzl]; simp [zz]))
    have hz11 := hzc 11 _ (List.getElem?_eq_getElem (by rw [hzl]; simp [zz]))
    generalize zs[0]'_ = u0 at hz0
    generalize zs[1]'_ = u1 at hz1
    generalize zs[2]'_ = u2 at hz2
    generalize zs[3]'_ = u3 at hz3
    generalize zs[4]'_ = u4 at hz4
    generalize zs[5]'_ = u5 at hz5
    generalize zs[6]'_ = u6 at hz6
    generalize zs[7]'_ = u7 at hz7
    generalize zs[8]'_ = u8 at hz8
    generalize zs[9]'_ = u9 at hz9
    generalize zs[10]'_ = u10 at hz10
    generalize zs[11]'_ = u11 at hz11
    have hfz := hown7.free
    have hy0 := hfz (tn * 12)
    have hy1 := hfz (tn * 12 + 1)
    have hy2 := hfz (tn * 12 + 2)
    have hy3 := hfz (tn * 12 + 3)
    have hy4 := hfz (tn * 12 + 4)
    have hy5 := hfz (tn * 12 + 5)
    have hy6 := hfz (tn * 12 + 6)
    have hy7 := hfz (tn * 12 + 7)
    have hy8 := hfz (tn * 12 + 8)
    have hy9 := hfz (tn * 12 + 9)
    have hy10 := hfz (tn * 12 + 10)
    have hy11 := hfz (tn * 12 + 11)
    clear hfz hzc
    rw [Nat.add_zero] at hz0
    obtain ⟨hown8, hg8⟩ := hown7.put (vs := [.int .i64 f.kind, .int .i64 f.lit.atom.kind, .string f.lit.atom.a.name, .slice k3 f.lit.atom.a.kids.length j3, .string f.lit.atom.b.name, .slice k5 f.lit.atom.b.kids.length j5, .slice k6 f.lit.atom.nums.length j6, .slice k7 f.lit.atom.times.length j7, .int .i64 f.lit.atom.bound, .bool f.lit.atom.strict, .bool f.lit.no, .slice k11 f.kids.length j11]) (nf := fk) zba (by simpa using NoFp.nil) hf7 (by exact Fm.cd_len _) (fun hm => hng hm)
    rw [hds] at hown8 hg8
    simp only [World.setCells] at hown8 hg8
    have hgx : (tn : Int) < (gn : Int) := by omega
    have hRow9 := hRow7.put (L2 := []) (fs' := tfs ++ [f]) (g' := tg ++ fk) ⟨hg8, fun b hb => .inl hb⟩ (by rw [zd8]; exact hown8) (fun b hb => by
     rcases zd5.1 hb with h | h
     ·exact .inl h
     ·exact .inr ⟨fun e => by have := hnl b h; simp only [Value.ownBlock, Option.some.injEq] at e; omega, fun x hx e => by
       rcases zd5.1 hx with hx | hx
       ·exact hxw b h x hx e
       ·rw [List.mem_singleton.1 hx] at e; simp only [Value.ownBlock, Option.some.injEq] at e; subst e; exact hng h⟩)
    have hT9 := hT7.put (v' := .slice (some ⟨gb, 0, none⟩) gn gc) rfl hgb ⟨hg8, fun b hb => .inl hb⟩
    obtain ⟨t9, ht9e⟩ : ∃ t9 : Lv, t9 = ⟨.slice (some ⟨gb, 0, none⟩) gn gc, tfs ++ [f], tg ++ fk⟩ := ⟨_, rfl⟩
    rw [← ht9e] at hRow9
    have ht9 : t9.fs = tfs ++ [f] := by rw [ht9e]
    have hg9 : ∀ x ∈ L1 ++ [t9], ∀ b ∈ x.g, w1.heap.size ≤ b := fun x hx b hb => by
     rcases zd5.1 hx with hx | hx
     ·have := st.lg x (List.mem_append_left _ hx) b hb; omega
     ·rw [List.mem_singleton.1 hx, ht9e] at hb
      rcases zd5.1 hb with hb | hb
      ·have := st.lg _ htm b hb; omega
      ·have := hnl b hb; omega
    clear hown8 hg8 hRow7 hT7 hown7 hf7 ht9e hB7 hzr hds
    go_wp2_with fail
    go_meet
    case rel => exact ⟨t9, rfl, ht9, hRow9, hT9, hg9⟩
 case rest =>
 obtain ⟨t9, rfl, ht9, hRow9, hT9, hg9⟩ := hcut
 generalize wc = w9 at *
 have hzu := hT9.size
 have hs9 : SameOn fs u w9 := fun b hb => hT9.keep b (st.sg.lt _ b hb) (fun e => by have := st.sb b hb; omega) (fun e => by have := (hlt0 b e).1; have := st.sb b hb; omega)
 have hob9 : w9.heap[ob]? = u.heap[ob]? := hT9.keep ob st.lt (fun e => st.nr (by rw [e]; rfl)) (fun e => (st.nf ⟨.slice ta tn tc, tfs, tg⟩ (by simp)).1 e)
 obtain ⟨c0', c1', fq, hrd, hfq⟩ := st.turn hRow9 hob9 hs9
 have hkb : ∀ b, b < base → w9.heap[b]? = u.heap[b]? := fun b hb => hT9.keep b (by omega) (by omega) (fun e => by have := (hlt0 b e).1; omega)
 replace hP : Box [.slice a0 k.sig.syms.length c0, .slice a1 k.levels.length c1] w.heap.size w9 := ⟨by omega, fun j x hx => zg (hkb _ (by omega)) (hP.2.1 j x hx), fun j => zl (hkb _ (by omega)) (hP.2.2 j)⟩
 replace hR : Box [.slice none 0 0, .slice none 0 0] (w.heap.size + 1 + 1) w9 := ⟨by omega, fun j x hx => zg (hkb _ (by omega)) (hR.2.1 j x hx), fun j => zl (hkb _ (by omega)) (hR.2.2 j)⟩
 replace hB := hB.trans (hT9.bel w.heap.size (by omega) (by omega) (fun b e => by have := (hlt0 b e).1; omega))
 have hto : Stk.mk k.sig ((L1 ++ [t9]).map Lv.fs) = k.told f := by
  rw [Stk.told_eq HL.out, zd8]
  simp [ht9]
 rw [hto] at hrd
 have hwt := zc9 (f := f) HL.out
 clear hto hT9 hRow9 hs9 hob9 hkb st ht9 hlt0
 go_wp2_with fail
 refine (zaJ (k.told f) _ _ _ (by omega) (by exact hrd)).mono ?_
 rintro e w10 ⟨rfl, hb10⟩
 replace hP := hP.below hb10
 replace hR := hR.below hb10
 replace hrd := hrd.below hb10
 replace hB := hB.trans (hb10.mono (by omega))
 replace c0' := za c0' hb10
 replace c1' := za c1' hb10
 have hz10 := hb10.size
 clear hb10
 cases hok2 : (k.told f).okK
 ·have HM := Lib.hid (Stk.tell_bad HOK.out hok2)
  clear hok2 c0' c1' hrd hfq
  have x0 := hP.2.1 0 _ rfl
  have x1 := hP.2.1 1 _ rfl
  go_wp2_with fail
  refine (zbe k _ _ _ (by omega) (by exact hv.below hB)).mono ?_
  rintro e w11 ⟨sv2, lv2, fs2, base2, M2, rfl, hL2, hsg2, hfs2, hlb2, hbz2, hrow2, hlg2, hb11⟩
  obtain ⟨sa2, sc2, _, hsv2, _, _⟩ := Sg.open hsg2
  obtain rfl := (List.cons.inj hsv2).1
  obtain ⟨la2, ln2, lc2, rfl⟩ := hrow2.form'
  obtain ⟨fr, hro, hlo⟩ := stkTwo_rd hL2 hsg2 hfs2 hlb2 hrow2 hlg2
  replace hR := hR.below hb11
  replace hB := hB.trans (hb11.mono (by omega))
  clear hL2 hsg2 hfs2 hlb2 hbz2 hrow2 hlg2 hb11 hsv2 x0 x1
  have yr0 := hR.2.1 0 _ rfl; have yr1 := hR.2.1 1 _ rfl; have zr0 := hR.2.2 0; have zr1 := hR.2.2 1
  have gR := hR.puts [.slice sa2 k.sig.syms.length sc2, .slice la2 ln2 lc2] rfl
  have hBE := zO (b := w.heap.size + 1 + 1) (by omega) (ze 0 [.slice sa2 k.sig.syms.length sc2, .slice la2 ln2 lc2]) hB
  have hKK := (Same2.refl (w.heap.size + 1 + 1) (w.heap.size + 1 + 1) w11).sets (b := w.heap.size + 1 + 1) (.inl rfl) (ze 0 [.slice sa2 k.sig.syms.length sc2, .slice la2 ln2 lc2])
  simp only [zo, ze] at gR hBE hKK
  have r0 := gR.2.1 0 _ rfl
  have r1 := gR.2.1 1 _ rfl
  have hro2 := hro.same2 hKK (fun b hb => by have := hlo b hb; omega)
  clear gR hKK hB hro
  go_wp2_with fail
  (try simp only [Exit.inBlock, Exit.then])
  refine bodyPost_ret (v := .tuple #[.agg #[.slice sa2 k.sig.syms.length sc2, .slice la2 ln2 lc2], .bool false]) (by simp [results, Try.results11, go_sem, r0, r1]) rfl ?_
  exact ⟨[_, _], _, by rw [HM.out], by rw [HM.out]; exact hro2, fun b hb => by have := hlo b hb; omega, hBE⟩
 ·have HM := Lib.hid (Stk.tell_yes HOK.out hok2)
  clear hok2
  have hro := hrd
  have hlo : ∀ b ∈ fq, w1.heap.size ≤ b := fun b hb => by
   rcases hfq b hb with h9 | ⟨x, hx, h9⟩
   ·exact h9
   ·exact hg9 x hx b h9
  clear hrd hfq
  have yr0 := hR.2.1 0 _ rfl; have yr1 := hR.2.1 1 _ rfl; have zr0 := hR.2.2 0; have zr1 := hR.2.2 1
  have gR := hR.puts [.slice sa k.sig.syms.length sc, .slice (some ⟨q, 0, none⟩) n1 lc] rfl
  have hBE := zO (b := w.heap.size + 1 + 1) (by omega) (ze 0 [.slice sa k.sig.syms.length sc, .slice (some ⟨q, 0, none⟩) n1 lc]) hB
  have hKK := (Same2.refl (w.heap.size + 1 + 1) (w.heap.size + 1 + 1) w10).sets (b := w.heap.size + 1 + 1) (.inl rfl) (ze 0 [.slice sa k.sig.syms.length sc, .slice (some ⟨q, 0, none⟩) n1 lc])
  simp only [zo, ze] at gR hBE hKK
  have r0 := gR.2.1 0 _ rfl
  have r1 := gR.2.1 1 _ rfl
  have hro2 := hro.same2 hKK (fun b hb => by have := hlo b hb; omega)
  clear gR hKK hB hro
  go_wp2_with fail
  (try simp only [Exit.inBlock, Exit.then])
  refine bodyPost_ret (v := .tuple #[.agg #[.slice sa k.sig.syms.length sc, .slice (some ⟨q, 0, none⟩) n1 lc], .bool true]) (by simp [results, Try.results11, go_sem, r0, r1]) rfl ?_
  exact ⟨[_, _], _, by rw [HM.out], by rw [HM.out]; exact hro2, fun b hb => by have := hlo b hb; omega, hBE⟩
end Go.Proofs.Yticlgpkjdmcnaaa
end
