/- Parts of the proof: TakeL Shelf WhUt. -/
import Derived.Test.YtlefdhhnlbpbkaaGreatPv1
import Derived.Shelf.Small.Bits
import Derived.Shelf.Strconv.Itoa0
import Derived.Shelf.Sort.Plain
import Derived.Ground.Names2Prog
import Derived.Shelf.Slices.CompactI
import Derived.Shelf.Slices.SearchI
import Derived.Shelf.Slices.Cells
import Derived.Shelf.Slices.In.SortNone
import Derived.Test.YtlefdhhnlbpbkaaGreatProg
import Derived.Sort.OwnSortedInts
import Derived.Lib.RowBridge
import Derived.Test.YtlefdhhnlbpbkaaGreatPv38
import Derived.Test.YtlefdhhnlbpbkaaGreatPv13
section
namespace Go.Proofs.YtlefdhhnlbpbkaaGreat
open Go Go.RowKit
set_option linter.unusedVariables false
set_option linter.unusedSimpArgs false
set_option maxRecDepth 100000
set_option maxHeartbeats 16000000
theorem RdRows.take8 {w : World} {b : Nat} : ∀ {es : List (List CD)} {off : Nat} {fp : List Nat}, RdRows w b off es fp → ∀ i, ∃ fq, RdRows w b off (es.take i) fq ∧ ∀ x ∈ fq, x ∈ fp
 | [], off, fp, h, i => ⟨fp, by simpa using h, fun x hx => hx⟩
 | e :: es, off, fp, h, 0 => ⟨[], by simp [RdRows], by simp⟩
 | e :: es, off, fp, h, i + 1 => by
  simp only [RdRows] at h
  obtain ⟨vs, f1, f2, rfl, hc, hv, hr⟩ := h
  obtain ⟨fq, h1, h2⟩ := hr.take8 i
  refine ⟨f1 ++ fq, by rw [List.take_succ_cons]; simp only [RdRows]; exact ⟨vs, f1, fq, rfl, hc, hv, h1⟩, fun x hx => ?_⟩
  rcases zer.1 hx with hx | hx
  ·exact List.mem_append_left _ hx
  ·exact List.mem_append_right _ (h2 x hx)
/-- What is sliced off at the end. -/
theorem Rd.take8 {w : World} {es : List (List CD)} {a : Option Addr} {n c : Nat} {fp : List Nat} (h : Rd w (.sl es) (.slice a n c) fp) {i : Nat} (hi : i ≤ es.length) : ∃ fq, Rd w (.sl (es.take i)) (.slice a i c) fq ∧ ∀ x ∈ fq, x ∈ fp := by
 simp only [Rd] at h ⊢
 obtain ⟨a', c', e, h2, h3, h4⟩ := h
 simp only [Value.slice.injEq] at e
 obtain ⟨rfl, rfl, rfl⟩ := e
 have hl : (es.take i).length = i := by rw [List.length_take]; omega
 by_cases h0 : i = 0
 ·subst h0
  exact ⟨[], ⟨a, c, by simp, by simp, h3, .inl ⟨by simp, rfl⟩⟩, by simp⟩
 ·rcases h4 with ⟨rfl, _⟩ | ⟨hne, b, off, f, rfl, hb, rfl, hr⟩
  ·simp at hi; omega
  ·obtain ⟨fq, h5, h6⟩ := hr.take8 i
   refine ⟨b :: fq, ⟨_, c, by rw [hl], by rw [hl]; omega, h3, .inr ⟨?_, b, off, fq, rfl, hb, rfl, h5⟩⟩, fun x hx => ?_⟩
   ·intro e; rw [e] at hl; simp at hl; omega
   ·rcases zev.1 hx with rfl | hx
    ·simp
    ·exact List.mem_cons_of_mem _ (h6 x hx)
end Go.Proofs.YtlefdhhnlbpbkaaGreat
end
namespace Go.Proofs
open Go.Shelf
def Tryz.lays189_ren : Go.Shelf.Ren := ⟨fun | 189 => 31 | 125 => 59 | 257 => 58 | 128 => 91 | 129 => 92 | 294 => 82 | 295 => 83 | 296 => 84 | 297 => 85 | 298 => 86 | 299 => 87 | 216 => 88 | 300 => 89 | 301 => 90 | 328 => 107 | 329 => 108 | 330 => 109 | 331 => 110 | 332 => 111 | 215 => 112 | 343 => 118 | n => n, fun | 28 => 40 | 3 => 3 | 46 => 97 | 0 => 0 | 51 => 131 | 53 => 133 | 4 => 4 | 183 => 124 | 182 => 123 | 131 => 80 | 5 => 5 | 9 => 9 | 218 => 146 | 222 => 150 | 228 => 155 | 229 => 156 | n => n, fun | n => n⟩
theorem Tryz.lays189 : Go.Proofs.Lays.n189 Tryz.prog Tryz.lays189_ren := {
 mixed := by kernel_rfl
 f125 := Tryz.func59.trans (congrArg some (by kernel_rfl))
 f128 := Tryz.func91.trans (congrArg some (by kernel_rfl))
 f129 := Tryz.func92.trans (congrArg some (by kernel_rfl))
 f189 := Tryz.func31.trans (congrArg some (by kernel_rfl))
 f215 := Tryz.func112.trans (congrArg some (by kernel_rfl))
 f216 := Tryz.func88.trans (congrArg some (by kernel_rfl))
 f257 := Tryz.func58.trans (congrArg some (by kernel_rfl))
 f294 := Tryz.func82.trans (congrArg some (by kernel_rfl))
 f295 := Tryz.func83.trans (congrArg some (by kernel_rfl))
 f296 := Tryz.func84.trans (congrArg some (by kernel_rfl))
 f297 := Tryz.func85.trans (congrArg some (by kernel_rfl))
 f298 := Tryz.func86.trans (congrArg some (by kernel_rfl))
 f299 := Tryz.func87.trans (congrArg some (by kernel_rfl))
 f300 := Tryz.func89.trans (congrArg some (by kernel_rfl))
 f301 := Tryz.func90.trans (congrArg some (by kernel_rfl))
 f328 := Tryz.func107.trans (congrArg some (by kernel_rfl))
 f329 := Tryz.func108.trans (congrArg some (by kernel_rfl))
 f330 := Tryz.func109.trans (congrArg some (by kernel_rfl))
 f331 := Tryz.func110.trans (congrArg some (by kernel_rfl))
 f332 := Tryz.func111.trans (congrArg some (by kernel_rfl))
 f343 := Tryz.func118.trans (congrArg some (by kernel_rfl))
 t0 := Tryz.underlying0
 a0 := Tryz.isAgg0
 z0 := Tryz.sizeOf0
 v0 := Tryz.zeroValue0
 t3 := Tryz.underlying3
 a3 := Tryz.isAgg3
 z3 := Tryz.sizeOf3
 v3 := Tryz.zeroValue3
 t4 := Tryz.underlying4
 a4 := Tryz.isAgg4
 z4 := Tryz.sizeOf4
 v4 := Tryz.zeroValue4
 t5 := Tryz.underlying5
 a5 := Tryz.isAgg5
 z5 := Tryz.sizeOf5
 v5 := Tryz.zeroValue5
 t9 := Tryz.underlying9
 a9 := Tryz.isAgg9
 z9 := Tryz.sizeOf9
 v9 := Tryz.zeroValue9
 t28 := Tryz.underlying40
 a28 := Tryz.isAgg40
 z28 := Tryz.sizeOf40
 v28 := Tryz.zeroValue40
 t46 := Tryz.underlying97
 a46 := Tryz.isAgg97
 z46 := Tryz.sizeOf97
 v46 := Tryz.zeroValue97
 t51 := Tryz.underlying131
 a51 := Tryz.isAgg131
 z51 := Tryz.sizeOf131
 v51 := Tryz.zeroValue131
 t53 := Tryz.underlying133
 a53 := Tryz.isAgg133
 z53 := Tryz.sizeOf133
 v53 := Tryz.zeroValue133
 t131 := Tryz.underlying80
 a131 := Tryz.isAgg80
 z131 := Tryz.sizeOf80
 v131 := Tryz.zeroValue80
 t182 := Tryz.underlying123
 a182 := Tryz.isAgg123
 z182 := Tryz.sizeOf123
 v182 := Tryz.zeroValue123
 t183 := Tryz.underlying124
 a183 := Tryz.isAgg124
 z183 := Tryz.sizeOf124
 v183 := Tryz.zeroValue124
 t218 := Tryz.underlying146
 a218 := Tryz.isAgg146
 z218 := Tryz.sizeOf146
 v218 := Tryz.zeroValue146
 t222 := Tryz.underlying150
 a222 := Tryz.isAgg150
 z222 := Tryz.sizeOf150
 v222 := Tryz.zeroValue150
 t228 := Tryz.underlying155
 a228 := Tryz.isAgg155
 z228 := Tryz.sizeOf155
 v228 := Tryz.zeroValue155
 t229 := Tryz.underlying156
 a229 := Tryz.isAgg156
 z229 := Tryz.sizeOf156
 v229 := Tryz.zeroValue156 }
open Go.Sort Go.RowKit in
theorem Tryz.slices_Sort_int (blk off cap : Nat) (zs : List Int) (w : World) (hH : Holds (Value.int .i64) w blk off zs.toArray) (hblk : blk < w.heap.size) (hsz : zs.length < 4611686018427387904) :
  Calls Tryz.prog 31 #[.slice (some ⟨blk, off, none⟩) zs.length cap] w fun e w' =>
   e = .returned (.tuple #[]) ∧ ∃ n os, w' = grow (putRow (Value.int .i64) (Sort.ahead w n) blk off (zs.mergeSort fun x y => decide (x ≤ y)).toArray) os := Any.slices_Sort_int Tryz.lays189 blk off cap zs w hH hblk hsz
def Tryz.laysNm220_ren : Go.Shelf.Ren := ⟨fun | 20 => 32 | n => n, fun | 22 => 40 | 3 => 3 | 4 => 4 | 0 => 0 | n => n, fun | n => n⟩
theorem Tryz.laysNm220 : Go.Proofs.Lays2.n20 Tryz.prog Tryz.laysNm220_ren := {
 mixed := by kernel_rfl
 f20 := Tryz.func32.trans (congrArg some (by kernel_rfl))
 t0 := Tryz.underlying0
 a0 := Tryz.isAgg0
 z0 := Tryz.sizeOf0
 v0 := Tryz.zeroValue0
 t3 := Tryz.underlying3
 a3 := Tryz.isAgg3
 z3 := Tryz.sizeOf3
 v3 := Tryz.zeroValue3
 t4 := Tryz.underlying4
 a4 := Tryz.isAgg4
 z4 := Tryz.sizeOf4
 v4 := Tryz.zeroValue4
 t22 := Tryz.underlying40
 a22 := Tryz.isAgg40
 z22 := Tryz.sizeOf40
 v22 := Tryz.zeroValue40
 i3 := by kernel_rfl }
open Go.RowKit Go.Lib Go.Sort in
theorem Tryz.slices_Compact_int (blk off cap : Nat) (zs : List Int) (w : World) (hH : Holds (Value.int .i64) w blk off zs.toArray) (hsz : zs.length ≤ 9223372036854775807) (hcap : zs.length ≤ cap) :
  Calls Tryz.prog 32 #[.slice (some ⟨blk, off, none⟩) zs.length cap] w fun e w' => e = .returned (.slice (some ⟨blk, off, none⟩) (Lib.compact zs).length cap) ∧ ∃ q, w' = putRow (Value.int .i64) (Sort.ahead w q) blk off (Lib.compact zs ++ List.replicate (zs.length - (Lib.compact zs).length) 0).toArray := Any.slices_Compact_int Tryz.laysNm220 blk off cap zs w hH hsz hcap
open Go.RowKit Go.Lib Go.Sort in
theorem Tryz.slices_Compact_int_empty (a : Option Addr) (cap : Nat) (w : World) :
  Calls Tryz.prog 32 #[.slice a 0 cap] w fun e w' => e = .returned (.slice a 0 cap) ∧ w' = w := Any.slices_Compact_int_empty Tryz.laysNm220 a cap w
open Go.RowKit Go.Sort in
theorem Tryz.slices_Sort_int_none (p : Option Addr) (cap : Nat) (w : World) :
  Calls Tryz.prog 31 #[.slice p 0 cap] w fun e w' => e = .returned (.tuple #[]) ∧ w' = w := Any.slices_Sort_int_none Tryz.lays189 p cap w
end Go.Proofs
section
namespace Go.Proofs.YtlefdhhnlbpbkaaGreat
open Go Go.RowKit
set_option linter.unusedVariables false
set_option linter.unusedSimpArgs false
set_option maxRecDepth 100000
set_option maxHeartbeats 16000000
theorem getI (l : List Int) {j : Nat} (h : j < l.length) : l.toArray[j]! = l[j] := by
 rw [getElem!_pos l.toArray j (by simpa using h)]; simp
/-- Of the first m what is kept: ascending, and all of them. -/
theorem zaH {l : List Int} (hs : l.Pairwise (· ≤ ·)) : ∀ m, m ≤ l.length → (Lib.compactUpTo l.toArray m).Pairwise (· < ·) ∧ (∀ x ∈ Lib.compactUpTo l.toArray m, 0 < m ∧ ∀ (h : m - 1 < l.length), x ≤ l[m - 1]) ∧ ∀ x, x ∈ Lib.compactUpTo l.toArray m ↔ x ∈ l.take m
 | 0, _ => by
  have e : Lib.compactUpTo l.toArray 0 = [] := rfl
  rw [e]
  exact ⟨List.Pairwise.nil, (fun x hx => by cases hx), fun x => by simp⟩
 | m + 1, hm => by
  obtain ⟨h1, h2, h3⟩ := zaH hs m (by omega)
  have hml : m < l.length := by omega
  rw [Lib.compactUpTo_succ, zeq hml, getI l hml]
  have hle : ∀ x ∈ Lib.compactUpTo l.toArray m, x ≤ l[m] := fun x hx => by
   obtain ⟨h4, h5⟩ := h2 x hx
   have h6 := h5 (by omega)
   have h7 := List.pairwise_iff_getElem.1 hs (m - 1) m (by omega) hml (by omega)
   omega
  by_cases hk : Lib.keeps l.toArray m = true
  ·rw [if_pos hk]
   have hlt : ∀ x ∈ Lib.compactUpTo l.toArray m, x < l[m] := fun x hx => by
    obtain ⟨h4, h5⟩ := h2 x hx
    have h6 := h5 (by omega)
    have h7 := List.pairwise_iff_getElem.1 hs (m - 1) m (by omega) hml (by omega)
    simp only [Lib.keeps, decide_eq_true_eq] at hk
    rcases hk with hk | hk
    ·omega
    ·rw [getI l hml, getI l (show m - 1 < l.length by omega)] at hk
     omega
   refine ⟨List.pairwise_append.2 ⟨h1, by simp, fun x hx y hy => ?_⟩, fun x hx => ⟨by omega, fun h => ?_⟩, fun x => ?_⟩
   ·rw [List.mem_singleton.1 hy]; exact hlt x hx
   ·simp only [Nat.add_sub_cancel]
    rcases zer.1 hx with hx | hx
    ·exact hle x hx
    ·rw [List.mem_singleton.1 hx]; exact Int.le_refl _
   ·rw [zer, zer, h3]
  ·rw [if_neg hk, List.append_nil]
   simp only [Lib.keeps, decide_eq_true_eq] at hk
   have hm0 : m ≠ 0 := fun e => hk (.inl e)
   have heq : l[m] = l[m - 1]'(by omega) := by
    by_cases he : l[m] = l[m - 1]'(by omega)
    ·exact he
    ·exact absurd (.inr (by rw [getI l hml, getI l (show m - 1 < l.length by omega)]; exact he)) hk
   refine ⟨h1, fun x hx => ⟨by omega, fun h => ?_⟩, fun x => ?_⟩
   ·simp only [Nat.add_sub_cancel]; exact hle x hx
   ·rw [h3, zer]
    constructor
    ·exact .inl
    ·rintro (h | h)
     ·exact h
     ·rw [List.mem_singleton.1 h, heq]
      refine List.mem_iff_getElem.2 ⟨m - 1, by rw [List.length_take]; omega, ?_⟩
      rw [List.getElem_take]
/-- Sorted and compacted. -/
def once (l : List Int) : List Int := Lib.compact (l.mergeSort fun x y => decide (x ≤ y))
theorem sort_le (l : List Int) : (l.mergeSort fun x y => decide (x ≤ y)).Pairwise (· ≤ ·) := by
 have h := List.pairwise_mergeSort (le := fun x y : Int => decide (x ≤ y)) (fun a b c h1 h2 => by simp only [decide_eq_true_eq] at h1 h2 ⊢; omega) (fun a b => by simp only [Bool.or_eq_true, decide_eq_true_eq]; omega) l
 exact h.imp fun h => by simpa using h
theorem once_up (l : List Int) : (once l).Pairwise (· < ·) := (zaH (sort_le l) _ (Nat.le_refl _)).1
theorem once_mem (l : List Int) (x : Int) : x ∈ once l ↔ x ∈ l := by
 have h := (zaH (sort_le l) _ (Nat.le_refl _)).2.2 x
 rw [List.take_length, List.mem_mergeSort] at h
 exact h
theorem zc5 {w : World} {base e : Nat} {v : Value} {l : List Int} (h : Own w base e 1 v (l.map zk) []) (hne : l ≠ []) : ∃ g cap cur, v = .slice (some ⟨g, 0, none⟩) l.length cap ∧ base ≤ g ∧ w.heap[g]? = some (.cells cur e (0, 0)) ∧ l.length ≤ cap ∧ cap ≤ maxLen ∧ cur.size = cap * 1 ∧ cur.toList.take l.length = l.map (Value.int .i64) ∧ ∀ x ∈ l, I64 x := by
 obtain ⟨xs, h1, h2, h3, h4⟩ := h
 obtain ⟨rfl, _, hi⟩ := zcq l _ _ h2
 rw [zew] at h1
 rcases h1.2 with ⟨rfl, h0⟩ | ⟨g, cap, cur, rfl, hbg, hg, hnc, hcm, hcs, ht⟩
 ·exact absurd (List.eq_nil_of_length_eq_zero h0) hne
 ·exact ⟨g, cap, cur, rfl, hbg, hg, hnc, hcm, hcs, by rw [Nat.mul_one] at ht; exact ht, hi⟩
theorem zc6 {e : Nat} (l : List Int) (v : Value) (base : Nat) (w : World) (hl : l.length ≤ 1000000000001) (h : Own w base e 1 v (l.map zk) []) :
  Calls Tryz.prog 31 #[v] w fun ee w' => ee = .returned (.tuple #[]) ∧ Own w' base e 1 v ((l.mergeSort fun x y => decide (x ≤ y)).map zk) [] ∧ w.grownBy w' v.ownBlock := by
 by_cases hne : l = []
 ·subst hne
  obtain ⟨a, cap, rfl, _, _⟩ := h.form
  refine (Tryz.slices_Sort_int_none a cap w).mono ?_
  rintro ee w' ⟨rfl, rfl⟩
  exact ⟨rfl, by simpa using h, zQ _ _⟩
 ·obtain ⟨g, cap, cur, rfl, hbg, hg, hnc, hcm, hcs, ht, hi⟩ := zc5 h hne
  have hbase : base ≤ w.heap.size := by
   have := (Array.getElem?_eq_some_iff.1 hg).1
   omega
  refine (Tryz.slices_Sort_int g 0 cap l w (holds_of_blockI hg ht) (Array.getElem?_eq_some_iff.1 hg).1 (by omega)).mono ?_
  rintro ee w' ⟨rfl, n, os, rfl⟩
  have hlen : (l.mergeSort fun x y => decide (x ≤ y)).length = l.length := List.length_mergeSort _
  have ho := ownsRow_sortedI (n := n) (os := os) (base := base) (ts := l.mergeSort fun x y => decide (x ≤ y)) hlen hbg hg hnc hcm hcs
  refine ⟨rfl, ⟨_, ?_, zX _ (fun x hx => hi x (List.mem_mergeSort.1 hx)), fun x hx => zY x _ hx, by simp⟩, grownBy_sortedI _⟩
  rw [zew, hlen]
  exact ho
theorem zbN {e : Nat} (l : List Int) (v : Value) (base : Nat) (w : World) (hl : l.length ≤ 1000000000001) (h : Own w base e 1 v (l.map zk) []) :
  Calls Tryz.prog 32 #[v] w fun ee w' => ∃ u f, ee = .returned u ∧ Rd w' (.sl ((Lib.compact l).map zk)) u f ∧ (∀ b ∈ f, base ≤ b) ∧ w.grownBy w' v.ownBlock := by
 by_cases hne : l = []
 ·subst hne
  obtain ⟨fp, hr, hq⟩ := h.rd
  obtain ⟨a, cap, rfl, _, _⟩ := h.form
  refine (Tryz.slices_Compact_int_empty a cap w).mono ?_
  rintro ee w' ⟨rfl, rfl⟩
  refine ⟨_, fp, rfl, by simpa [Lib.compact, Lib.compactUpTo] using hr, fun b hb => ?_, zQ _ _⟩
  rcases hq with ⟨_, _, rfl⟩ | ⟨b', c', _, rfl, _, hge, _⟩
  ·cases hb
  ·rcases zev.1 hb with rfl | hb
   ·exact hge
   ·cases hb
 ·obtain ⟨g, cap, cur, rfl, hbg, hg, hnc, hcm, hcs, ht, hi⟩ := zc5 h hne
  refine (Tryz.slices_Compact_int g 0 cap l w (holds_of_blockI hg ht) (by omega) hnc).mono ?_
  rintro ee w' ⟨rfl, q, rfl⟩
  have hcl := Lib.compact_length_le l
  obtain ⟨d, hd⟩ : ∃ d, Lib.compact l ++ List.replicate (l.length - (Lib.compact l).length) 0 = d := ⟨_, rfl⟩
  have hdl : d.length = l.length := by rw [← hd, zet, List.length_replicate]; omega
  have htk : d.take (Lib.compact l).length = Lib.compact l := by rw [← hd, List.take_left]
  rw [hd]
  have ho := ownsRow_sortedI (n := q) (os := #[]) (base := base) (ts := d) hdl hbg hg hnc hcm hcs
  have hgr := grownBy_sortedI (w := w) (g := g) (n := q) (os := #[]) d.toArray
  rw [Sort.grow_empty] at ho hgr
  have hdi : ∀ x ∈ d, I64 x := fun x hx => by
   rw [← hd] at hx
   rcases zer.1 hx with hx | hx
   ·unfold Lib.compact Lib.compactUpTo at hx
    obtain ⟨j, hj, rfl⟩ := List.mem_map.1 hx
    have hj2 := List.mem_range.1 (List.mem_filter.1 hj).1
    rw [getI l hj2]
    exact hi _ (zes hj2)
   ·rw [(List.mem_replicate.1 hx).2]; constructor <;> decide
  have hown : Own (Sort.putRow (Value.int .i64) (Sort.ahead w q) g 0 d.toArray) base e 1 (.slice (some ⟨g, 0, none⟩) l.length cap) (d.map zk) [] :=
   ⟨_, by rw [zew, hdl]; exact ho, zX _ hdi, fun x hx => zY x _ hx, by simp⟩
  obtain ⟨fp, hr, hq⟩ := hown.rd
  obtain ⟨fq, hr2, hs2⟩ := hr.take8 (i := (Lib.compact l).length) (by rw [zew]; omega)
  rw [← List.map_take, htk] at hr2
  refine ⟨_, fq, rfl, hr2, fun b hb => ?_, hgr⟩
  have hb2 := hs2 b hb
  rcases hq with ⟨_, _, rfl⟩ | ⟨b', c', _, rfl, _, hge, _⟩
  ·cases hb2
  ·rcases zev.1 hb2 with rfl | hb2
   ·exact hge
   ·cases hb2
theorem zdx (x : Wy) (vs : List Value) (xf : List Nat) (w : World) (hth : x.thin) (hus : x.uses.length ≤ 1000000000001) (hv : RdVs w x.cd vs xf) :
  Calls Tryz.prog 9 #[.agg vs.toArray] w fun e w' => ∃ v f, e = .returned v ∧ Rd w' (.sl ((once x.uses).map zk)) v f ∧ (∀ b ∈ f, w.heap.size ≤ b) ∧ Below w.heap.size w w' := by
 have hv0 := hv
 obtain ⟨a3, c3, f3, a4, c4, f4, rfl, -, m0, m1, m2, m3, m4⟩ := Wy.open hv
 have hal := zb w (.cells #[.int .i64 x.rule, .int .i64 x.n, .string x.t.name, .slice a3 x.t.kids.length c3, .slice a4 x.kids.length c4] 32)
 have hsa : (w.alloc (.cells #[.int .i64 x.rule, .int .i64 x.n, .string x.t.name, .slice a3 x.t.kids.length c3, .slice a4 x.kids.length c4] 32)).heap.size = w.heap.size + 1 := by simp
 go_enter Tryz.func9, Tryz.ntmps9
 go_wp2_with fail
 refine (uses_n _ x _ _ _ (Nat.le_refl _) hth hus (by exact hv0.below hal)).mono ?_
 rintro e w1 ⟨v, rfl, hown, hb1⟩
 rw [hsa] at hown hb1
 have hB1 := hal.trans (hb1.mono (by omega))
 obtain ⟨va, vn, vc, rfl⟩ := hown.form'
 go_wp2_with fail
 refine (zc6 x.uses _ _ _ hus hown).mono ?_
 rintro e w2 ⟨rfl, hown2, hg2⟩
 have hB2 := zf hB1 hg2 hB1.size (fun q hq => by have := (hown.block hq).1; omega)
 go_wp2_with fail
 refine (zbN (x.uses.mergeSort fun x y => decide (x ≤ y)) _ _ _ (by rw [List.length_mergeSort]; exact hus) hown2).mono ?_
 rintro e w3 ⟨u, f, rfl, hr, hf, hg3⟩
 have hB3 := zf hB2 hg3 hB2.size (fun q hq => by have := (hown.block hq).1; omega)
 obtain ⟨ua, uc, rfl, _, _⟩ := zd hr
 go_wp2_with fail
 go_ret
 exact ⟨_, f, rfl, hr, fun b hb => by have := hf b hb; omega, hB3⟩
end Go.Proofs.YtlefdhhnlbpbkaaGreat
end
