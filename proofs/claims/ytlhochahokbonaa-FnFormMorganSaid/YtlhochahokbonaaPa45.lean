/- Parts of the proof: RdrL. -/
import Derived.Test.YtlhochahokbonaaPa44
import Derived.Test.YtlhochahokbonaaPa34
import Derived.Test.YtlhochahokbonaaPa4
namespace Go.Proofs.Ytlhochahokbonaa
open Go Go.RowKit
set_option linter.unusedVariables false
set_option linter.unusedSimpArgs false
/-- A form and what is so, drawn. -/
def DrawnFB (e : Ending) (w' : World) : Prop := ∃ (f : Fm) (bs : List Bool) (b3 : Option Addr) (d3 : Nat) (b5 : Option Addr) (d5 : Nat) (b6 : Option Addr) (d6 : Nat) (b7 : Option Addr) (d7 : Nat) (b11 : Option Addr) (d11 : Nat) (bv : Value) (ff g : List Nat), wtV f.cd ≤ 160000 ∧
  e = .returned (.tuple #[.agg #[.int .i64 f.kind, .int .i64 f.lit.atom.kind, .string f.lit.atom.a.name, .slice b3 f.lit.atom.a.kids.length d3, .string f.lit.atom.b.name, .slice b5 f.lit.atom.b.kids.length d5, .slice b6 f.lit.atom.nums.length d6, .slice b7 f.lit.atom.times.length d7, .int .i64 f.lit.atom.bound, .bool f.lit.atom.strict, .bool f.lit.no, .slice b11 f.kids.length d11], bv]) ∧ RdVs w' f.cd [.int .i64 f.kind, .int .i64 f.lit.atom.kind, .string f.lit.atom.a.name, .slice b3 f.lit.atom.a.kids.length d3, .string f.lit.atom.b.name, .slice b5 f.lit.atom.b.kids.length d5, .slice b6 f.lit.atom.nums.length d6, .slice b7 f.lit.atom.times.length d7, .int .i64 f.lit.atom.bound, .bool f.lit.atom.strict, .bool f.lit.no, .slice b11 f.kids.length d11] ff ∧ Rd w' (.sl (bs.map boolCd)) bv g
theorem atomsF_le (f : Fm) : f.atomsF.length ≤ 6 := by
  unfold Fm.atomsF
  split
  · rename_i h
    simp only [Fm.okF, Bool.and_eq_true, decide_eq_true_eq] at h
    exact h.2
  · simp
theorem bool_rdv (w : World) (b : Bool) : RdVs w (boolCd b) [.bool b] [] := rd_bool_mk
set_option maxRecDepth 100000 in
set_option maxHeartbeats 8000000 in
theorem drawFormIs_any (v : Value) (w : World) (hv : Byts w v) :
    Calls Try.prog 14 #[v] w fun e w' => DrawnFB e w' ∧ Below w.heap.size w w' := by
  have hA := Box.new w [.int .i64 0, .int .i64 0, .string ⟨#[]⟩, .slice none 0 0, .string ⟨#[]⟩, .slice none 0 0, .slice none 0 0, .slice none 0 0, .int .i64 0, .bool false, .bool false, .slice none 0 0] 43
  have hbn := below_alloc w (.cells #[.int .i64 0, .int .i64 0, .string ⟨#[]⟩, .slice none 0 0, .string ⟨#[]⟩, .slice none 0 0, .slice none 0 0, .slice none 0 0, .int .i64 0, .bool false, .bool false, .slice none 0 0] 43)
  have hs0 : (w.alloc (.cells #[.int .i64 0, .int .i64 0, .string ⟨#[]⟩, .slice none 0 0, .string ⟨#[]⟩, .slice none 0 0, .slice none 0 0, .slice none 0 0, .int .i64 0, .bool false, .bool false, .slice none 0 0] 43)).heap.size = w.heap.size + 1 := by simp
  go_enter Try.func14, Try.ntmps14
  go_upto_region 1 with fail
  generalize w.alloc (.cells #[.int .i64 0, .int .i64 0, .string ⟨#[]⟩, .slice none 0 0, .string ⟨#[]⟩, .slice none 0 0, .slice none 0 0, .slice none 0 0, .int .i64 0, .bool false, .bool false, .slice none 0 0] 43) = W0 at *
  go_wp2_with fail
  refine (l16Open_any v _ (by exact hv.below hbn)).mono ?_
  rintro e u1 ⟨rfl, hu1, hb1⟩
  rw [hs0] at hu1 ⊢
  replace hA := hA.below hb1
  have hBW := hbn.trans (hb1.mono (by omega))
  have hzu := hb1.size
  rw [hs0] at hzu
  obtain ⟨rb, hrb⟩ : ∃ rb, rb = w.heap.size + 1 := ⟨_, rfl⟩
  rw [← hrb] at hu1 ⊢
  have hrw1 : rb ≤ w.heap.size + 1 := by omega
  have hrw2 : w.heap.size + 1 ≤ rb := by omega
  clear hrb hb1 hs0 hbn
  have hl1 := hu1.lt
  go_wp2_with fail
  refine (l9Some_any rb 0 _ (by omega) hu1).mono ?_
  rintro e w1 ⟨⟨s, f, a0, c0, b3, d3, b5, d5, b6, d6, b7, d7, b11, d11, sf, ff, _, hwf, rfl, hrs, hrf, hsf, hff⟩, hr1, ho1⟩
  have hz1 := ho1.size
  have hnf : rb ∉ ff := fun h => by have := hff _ h; omega
  replace hff : ∀ b ∈ ff, w.heap.size < b := fun b hb => by have := hff b hb; omega
  replace hA := hA.only ho1 (by omega)
  replace hBW := hBW.trans (ho1.toBelow (B := w.heap.size) (by omega) (fun b hb => by simp at hb; omega))
  clear ho1 hrs hsf hu1
  obtain ⟨V, hVe⟩ : ∃ V, V = w1.heap.size + 1 := ⟨_, rfl⟩
  have hX := Box.new (w1.alloc (.cells #[.slice a0 s.syms.length c0] 25)) [.int .i64 f.kind, .int .i64 f.lit.atom.kind, .string f.lit.atom.a.name, .slice b3 f.lit.atom.a.kids.length d3, .string f.lit.atom.b.name, .slice b5 f.lit.atom.b.kids.length d5, .slice b6 f.lit.atom.nums.length d6, .slice b7 f.lit.atom.times.length d7, .int .i64 f.lit.atom.bound, .bool f.lit.atom.strict, .bool f.lit.no, .slice b11 f.kids.length d11] 43
  rw [World.size_alloc, ← hVe] at hX
  have hrV : rb < V := by omega
  have hfV : ∀ b ∈ ff, b < V := fun b hb => by have := hrf.lt _ b hb; omega
  go_upto_region 3 with fail
  try rw [← hVe]
  have hba : Below w1.heap.size w1 ((w1.alloc (.cells #[.slice a0 s.syms.length c0] 25)).alloc (.cells #[.int .i64 f.kind, .int .i64 f.lit.atom.kind, .string f.lit.atom.a.name, .slice b3 f.lit.atom.a.kids.length d3, .string f.lit.atom.b.name, .slice b5 f.lit.atom.b.kids.length d5, .slice b6 f.lit.atom.nums.length d6, .slice b7 f.lit.atom.times.length d7, .int .i64 f.lit.atom.bound, .bool f.lit.atom.strict, .bool f.lit.no, .slice b11 f.kids.length d11] 43)) := ((Below.refl _ _).alloc (Nat.le_refl _) _).alloc (by simp) _
  replace hA := hA.below hba
  replace hrf := hrf.below hba
  replace hr1 := hr1.below hba
  replace hBW := hBW.trans (hba.mono (by have := hBW.size; omega))
  clear hba hVe hz1 hzu hl1
  generalize (w1.alloc (.cells #[.slice a0 s.syms.length c0] 25)).alloc (.cells #[.int .i64 f.kind, .int .i64 f.lit.atom.kind, .string f.lit.atom.a.name, .slice b3 f.lit.atom.a.kids.length d3, .string f.lit.atom.b.name, .slice b5 f.lit.atom.b.kids.length d5, .slice b6 f.lit.atom.nums.length d6, .slice b7 f.lit.atom.times.length d7, .int .i64 f.lit.atom.bound, .bool f.lit.atom.strict, .bool f.lit.no, .slice b11 f.kids.length d11] 43) = w2 at *
  have hO := Own.empty w2 (V + 1) 4 1 hX.1
  go_upto_region 4 with fail
  have hba := below_alloc w2 (.cells #[] 4)
  replace hA := hA.below hba
  replace hX := hX.below hba
  replace hrf := hrf.below hba
  replace hr1 := hr1.below hba
  replace hBW := hBW.trans (hba.mono (by have := hBW.size; omega))
  clear hba
  obtain ⟨ob, hob⟩ : ∃ ob, ob = w2.heap.size := ⟨_, rfl⟩
  rw [← hob] at hO ⊢
  clear hob
  generalize w2.alloc (.cells #[] 4) = w3 at *
  have q0 := hX.2.1 0 _ rfl; have q1 := hX.2.1 1 _ rfl; have q2 := hX.2.1 2 _ rfl; have q3 := hX.2.1 3 _ rfl; have q4 := hX.2.1 4 _ rfl; have q5 := hX.2.1 5 _ rfl; have q6 := hX.2.1 6 _ rfl; have q7 := hX.2.1 7 _ rfl; have q8 := hX.2.1 8 _ rfl; have q9 := hX.2.1 9 _ rfl; have q10 := hX.2.1 10 _ rfl; have q11 := hX.2.1 11 _ rfl
  go_wp2_with fail
  refine (formAtomsS_any f _ _ _ (by omega) (by exact hrf)).mono ?_
  rintro e w4 ⟨kv, fp, rfl, hrk, _, hb4⟩
  obtain ⟨ka, kc, rfl, _, _⟩ := rd_sl_inv hrk
  have h6 := atomsF_le f
  replace hA := hA.below hb4
  replace hX := hX.below hb4
  replace hrf := hrf.below hb4
  replace hr1 := hr1.below hb4
  replace hO := hO.below hb4
  replace hBW := hBW.trans (hb4.mono (by have := hBW.size; omega))
  clear hb4 hrk q0 q1 q2 q3 q4 q5 q6 q7 q8 q9 q10 q11
  obtain ⟨M, hM⟩ : ∃ M, M = f.atomsF.length := ⟨_, rfl⟩
  rw [← hM] at h6 ⊢
  clear hM
  go_wp2_with fail
  go_loopw [7, 8] (fun ov iv wr => ∃ (k : Nat) (bs : List Bool) (q : Nat), iv = .int .i64 k ∧ k + bs.length ≤ 6 ∧ q + k ≤ 1100 ∧ Own wr (V + 1) 4 1 ov (bs.map boolCd) [] ∧ Box [.int .i64 f.kind, .int .i64 f.lit.atom.kind, .string f.lit.atom.a.name, .slice b3 f.lit.atom.a.kids.length d3, .string f.lit.atom.b.name, .slice b5 f.lit.atom.b.kids.length d5, .slice b6 f.lit.atom.nums.length d6, .slice b7 f.lit.atom.times.length d7, .int .i64 f.lit.atom.bound, .bool f.lit.atom.strict, .bool f.lit.no, .slice b11 f.kids.length d11] V wr ∧ Box [.int .i64 0, .int .i64 0, .string ⟨#[]⟩, .slice none 0 0, .string ⟨#[]⟩, .slice none 0 0, .slice none 0 0, .slice none 0 0, .int .i64 0, .bool false, .bool false, .slice none 0 0] w.heap.size wr ∧ Rdr wr rb q ∧ RdVs wr f.cd [.int .i64 f.kind, .int .i64 f.lit.atom.kind, .string f.lit.atom.a.name, .slice b3 f.lit.atom.a.kids.length d3, .string f.lit.atom.b.name, .slice b5 f.lit.atom.b.kids.length d5, .slice b6 f.lit.atom.nums.length d6, .slice b7 f.lit.atom.times.length d7, .int .i64 f.lit.atom.bound, .bool f.lit.atom.strict, .bool f.lit.no, .slice b11 f.kids.length d11] ff ∧ Below w.heap.size w wr) (fun ov iv _ => (intOf iv).toNat)
  case atStart => exact ⟨M, [], 0 + 1000, rfl, by simp; omega, by omega, hO, hX, hA, hr1, hrf, hBW⟩
  case round =>
    clear hO hX hA hr1 hrf hBW
    obtain ⟨k, bs, q, rfl, hk, hq, hO, hX, hA, hr1, hrf, hBW⟩ := hrel
    obtain ⟨oa, on, oc, rfl⟩ := hO.form'
    have hXl := hX.1
    have hBz := hBW.size
    by_cases hn : (0 : Int) < (k : Int)
    · go_wp2_with fail
      refine (pick_any rb q 2 _ (by omega) (by omega) (by omega) hr1).mono ?_
      rintro e w5 ⟨⟨m, hm, rfl⟩, hr5, ho5⟩
      replace hO := hO.only ho5 (by omega) (by simp)
      replace hA := hA.only ho5 (by omega)
      replace hX := hX.only ho5 (by omega)
      replace hrf := hrf.only ho5 hnf
      replace hBW := hBW.trans (ho5.toBelow (B := w.heap.size) (by omega) (fun b hb => by simp at hb; omega))
      clear hr1 hm
      have hz5 := ho5.size
      obtain ⟨b, hb⟩ : ∃ b, ((m : Int) == 0) = b := ⟨_, rfl⟩
      clear ho5
      go_wp2_with (at_builtin; refine wpList_app slTyBoolS rfl _ _ rfl (V + 1) _ _ _ rfl (by exact hO.below (below_alloc _ _)) ⟨w5.heap.size, 0, none⟩ 1 1 [boolCd b] [.bool b] [] rfl rfl ?rd ?k ?cells ?na ?bytes ?len ?base ?next)
      try (case rd => simpa using bool_rdv _ _)
      try (case k => simp [boolCd])
      try (case cells => first | exact cells_new _ _ _ | (rw [hb]; exact cells_new _ _ _) | (simp only [hb]; exact cells_new _ _ _))
      try (case na => simp)
      try (case bytes => simp; omega)
      try (case len => simp; omega)
      case base => first | omega | (rw [World.size_alloc]; omega) | (simp; omega)
      case next =>
        intro v' w6 hown6 hg hv' hs6
        have hrow : ∀ q, (Value.slice oa on oc).ownBlock = some q → V + 1 ≤ q := fun q hq => (hO.block hq).1
        have hX6 := (hX.alloc (.cells #[.bool b] 4)).grownB hg (fun q hq => by have := hrow q hq; omega)
        have hA6 := (hA.alloc (.cells #[.bool b] 4)).grownB hg (fun q hq => by have := hrow q hq; omega)
        have hr6 := (hr5.alloc (.cells #[.bool b] 4)).grown hg (fun q hq => by have := hrow q hq; omega)
        have hrf6 := (hrf.below (below_alloc _ (.cells #[.bool b] 4))).same _ (fun c hm => hg.block c (by have := hrf.lt _ c hm; rw [World.size_alloc]; omega) (fun e => by have := hrow c e.symm; have := hfV c hm; omega))
        have hBW6 := grown_below (hBW.alloc (by omega) (.cells #[.bool b] 4)) hg (by rw [World.size_alloc]; omega) (fun q hq => by have := hrow q hq; omega)
        have hown7 : Own w6 (V + 1) 4 1 v' ((bs ++ [b]).map boolCd) [] := by simpa using hown6
        clear hX hA hr5 hrf hBW hO hg hv' hs6 hown6 hrow
        go_wp2_with fail
        go_roundw
        case rel => exact ⟨k - 1, bs ++ [b], q + 1, by go_num, by simp; omega, by omega, hown7, hX6, hA6, hr6, hrf6, hBW6⟩
        case measure => simp [intOf]; omega
    · obtain rfl : k = 0 := by omega
      go_wp2_with fail
      refine (pick_any rb q 20 _ (by omega) (by omega) (by omega) hr1).mono ?_
      rintro e w5 ⟨⟨m, hm, rfl⟩, hr5, ho5⟩
      replace hO := hO.only ho5 (by omega) (by simp)
      replace hA := hA.only ho5 (by omega)
      replace hX := hX.only ho5 (by omega)
      replace hrf := hrf.only ho5 hnf
      replace hBW := hBW.trans (ho5.toBelow (B := w.heap.size) (by omega) (fun b hb => by simp at hb; omega))
      have hz5 := ho5.size
      clear hr1 hm ho5
      by_cases hm0 : m = 0
      · subst hm0
        go_wp2_with (at_builtin; refine wpList_app slTyBoolS rfl _ _ rfl (V + 1) _ _ _ rfl (by exact hO.below (below_alloc _ _)) ⟨w5.heap.size, 0, none⟩ 1 1 [boolCd true] [.bool true] [] rfl rfl ?rd ?k ?cells ?na ?bytes ?len ?base ?next)
        try (case rd => simpa using bool_rdv _ _)
        try (case k => simp [boolCd])
        try (case cells => first | exact cells_new _ _ _ | (rw [hb]; exact cells_new _ _ _) | (simp only [hb]; exact cells_new _ _ _))
        try (case na => simp)
        try (case bytes => simp; omega)
        try (case len => simp; omega)
        case base => first | omega | (rw [World.size_alloc]; omega) | (simp; omega)
        case next =>
          intro v' w6 hown6 hg hv' hs6
          have hrow : ∀ q, (Value.slice oa on oc).ownBlock = some q → V + 1 ≤ q := fun q hq => (hO.block hq).1
          have hX6 := (hX.alloc (.cells #[.bool true] 4)).grownB hg (fun q hq => by have := hrow q hq; omega)
          have hA6 := (hA.alloc (.cells #[.bool true] 4)).grownB hg (fun q hq => by have := hrow q hq; omega)
          have hr6 := (hr5.alloc (.cells #[.bool true] 4)).grown hg (fun q hq => by have := hrow q hq; omega)
          have hrf6 := (hrf.below (below_alloc _ (.cells #[.bool true] 4))).same _ (fun c hm => hg.block c (by have := hrf.lt _ c hm; rw [World.size_alloc]; omega) (fun e => by have := hrow c e.symm; have := hfV c hm; omega))
          have hBW6 := grown_below (hBW.alloc (by omega) (.cells #[.bool true] 4)) hg (by rw [World.size_alloc]; omega) (fun q hq => by have := hrow q hq; omega)
          have hown7 : Own w6 (V + 1) 4 1 v' ((bs ++ [true]).map boolCd) [] := by simpa using hown6
          clear hX hA hr5 hrf hBW hO hg hv' hs6 hown6 hrow
          have hX := hX6; have hA := hA6; have hr5 := hr6; have hrf := hrf6; have hBW := hBW6; have hO := hown7
          clear hX6 hA6 hr6 hrf6 hBW6 hown7
          obtain ⟨xa, xn, xc, hve⟩ := hO.form'
          subst hve
          obtain ⟨gz, hgz, hgq⟩ := hO.rd
          have hgn : ∀ b ∈ gz, w.heap.size < b := fun b hm => by
            rcases hgq with ⟨_, _, rfl⟩ | ⟨b', _, _, rfl, _, h2, _⟩
            · simp at hm
            · rcases List.mem_cons.1 hm with rfl | hm
              · omega
              · simp at hm
          have cv0 := hX.2.1 0 _ rfl; have ca0 := hA.2.1 0 _ rfl; have cf0 := hA.2.2 0
          have cv1 := hX.2.1 1 _ rfl; have ca1 := hA.2.1 1 _ rfl; have cf1 := hA.2.2 1
          have cv2 := hX.2.1 2 _ rfl; have ca2 := hA.2.1 2 _ rfl; have cf2 := hA.2.2 2
          have cv3 := hX.2.1 3 _ rfl; have ca3 := hA.2.1 3 _ rfl; have cf3 := hA.2.2 3
          have cv4 := hX.2.1 4 _ rfl; have ca4 := hA.2.1 4 _ rfl; have cf4 := hA.2.2 4
          have cv5 := hX.2.1 5 _ rfl; have ca5 := hA.2.1 5 _ rfl; have cf5 := hA.2.2 5
          have cv6 := hX.2.1 6 _ rfl; have ca6 := hA.2.1 6 _ rfl; have cf6 := hA.2.2 6
          have cv7 := hX.2.1 7 _ rfl; have ca7 := hA.2.1 7 _ rfl; have cf7 := hA.2.2 7
          have cv8 := hX.2.1 8 _ rfl; have ca8 := hA.2.1 8 _ rfl; have cf8 := hA.2.2 8
          have cv9 := hX.2.1 9 _ rfl; have ca9 := hA.2.1 9 _ rfl; have cf9 := hA.2.2 9
          have cv10 := hX.2.1 10 _ rfl; have ca10 := hA.2.1 10 _ rfl; have cf10 := hA.2.2 10
          have cv11 := hX.2.1 11 _ rfl; have ca11 := hA.2.1 11 _ rfl; have cf11 := hA.2.2 11
          have g1 := hA.puts [.int .i64 f.kind, .int .i64 f.lit.atom.kind, .string f.lit.atom.a.name, .slice b3 f.lit.atom.a.kids.length d3, .string f.lit.atom.b.name, .slice b5 f.lit.atom.b.kids.length d5, .slice b6 f.lit.atom.nums.length d6, .slice b7 f.lit.atom.times.length d7, .int .i64 f.lit.atom.bound, .bool f.lit.atom.strict, .bool f.lit.no, .slice b11 f.kids.length d11] rfl
          have hK := (Same2.refl w.heap.size w.heap.size w6).sets (b := w.heap.size) (.inl rfl) (numbered 0 [.int .i64 f.kind, .int .i64 f.lit.atom.kind, .string f.lit.atom.a.name, .slice b3 f.lit.atom.a.kids.length d3, .string f.lit.atom.b.name, .slice b5 f.lit.atom.b.kids.length d5, .slice b6 f.lit.atom.nums.length d6, .slice b7 f.lit.atom.times.length d7, .int .i64 f.lit.atom.bound, .bool f.lit.atom.strict, .bool f.lit.no, .slice b11 f.kids.length d11])
          have hWA := below_setsB (b := w.heap.size) (Nat.le_refl _) (numbered 0 [.int .i64 f.kind, .int .i64 f.lit.atom.kind, .string f.lit.atom.a.name, .slice b3 f.lit.atom.a.kids.length d3, .string f.lit.atom.b.name, .slice b5 f.lit.atom.b.kids.length d5, .slice b6 f.lit.atom.nums.length d6, .slice b7 f.lit.atom.times.length d7, .int .i64 f.lit.atom.bound, .bool f.lit.atom.strict, .bool f.lit.no, .slice b11 f.kids.length d11]) hBW
          simp only [numbered, setAt, Nat.zero_add, Nat.reduceAdd] at g1 hK hWA
          have ra0 := g1.2.1 0 _ rfl
          have ra1 := g1.2.1 1 _ rfl
          have ra2 := g1.2.1 2 _ rfl
          have ra3 := g1.2.1 3 _ rfl
          have ra4 := g1.2.1 4 _ rfl
          have ra5 := g1.2.1 5 _ rfl
          have ra6 := g1.2.1 6 _ rfl
          have ra7 := g1.2.1 7 _ rfl
          have ra8 := g1.2.1 8 _ rfl
          have ra9 := g1.2.1 9 _ rfl
          have ra10 := g1.2.1 10 _ rfl
          have ra11 := g1.2.1 11 _ rfl
          clear g1 hX hA hBW hr5 hO hgq
          go_wp2_with fail
          refine bodyPost_ret (v := .tuple #[.agg #[.int .i64 f.kind, .int .i64 f.lit.atom.kind, .string f.lit.atom.a.name, .slice b3 f.lit.atom.a.kids.length d3, .string f.lit.atom.b.name, .slice b5 f.lit.atom.b.kids.length d5, .slice b6 f.lit.atom.nums.length d6, .slice b7 f.lit.atom.times.length d7, .int .i64 f.lit.atom.bound, .bool f.lit.atom.strict, .bool f.lit.no, .slice b11 f.kids.length d11], .slice xa xn xc]) (by simp [results, Try.results14, go_sem, ra0, ra1, ra2, ra3, ra4, ra5, ra6, ra7, ra8, ra9, ra10, ra11]) rfl ?_
          exact ⟨⟨f, _, _, _, _, _, _, _, _, _, _, _, _, ff, gz, hwf, rfl, hrf.same2 hK (fun b hm => by have := hff b hm; omega), hgz.same2 hK (fun b hm => by have := hgn b hm; omega)⟩, hWA⟩
      · have em : ((m : Int) == 0) = false := by simpa using hm0
        obtain ⟨gz, hgz, hgq⟩ := hO.rd
        have hgn : ∀ b ∈ gz, w.heap.size < b := fun b hm => by
          rcases hgq with ⟨_, _, rfl⟩ | ⟨b', _, _, rfl, _, h2, _⟩
          · simp at hm
          · rcases List.mem_cons.1 hm with rfl | hm
            · omega
            · simp at hm
        have cv0 := hX.2.1 0 _ rfl; have ca0 := hA.2.1 0 _ rfl; have cf0 := hA.2.2 0
        have cv1 := hX.2.1 1 _ rfl; have ca1 := hA.2.1 1 _ rfl; have cf1 := hA.2.2 1
        have cv2 := hX.2.1 2 _ rfl; have ca2 := hA.2.1 2 _ rfl; have cf2 := hA.2.2 2
        have cv3 := hX.2.1 3 _ rfl; have ca3 := hA.2.1 3 _ rfl; have cf3 := hA.2.2 3
        have cv4 := hX.2.1 4 _ rfl; have ca4 := hA.2.1 4 _ rfl; have cf4 := hA.2.2 4
        have cv5 := hX.2.1 5 _ rfl; have ca5 := hA.2.1 5 _ rfl; have cf5 := hA.2.2 5
        have cv6 := hX.2.1 6 _ rfl; have ca6 := hA.2.1 6 _ rfl; have cf6 := hA.2.2 6
        have cv7 := hX.2.1 7 _ rfl; have ca7 := hA.2.1 7 _ rfl; have cf7 := hA.2.2 7
        have cv8 := hX.2.1 8 _ rfl; have ca8 := hA.2.1 8 _ rfl; have cf8 := hA.2.2 8
        have cv9 := hX.2.1 9 _ rfl; have ca9 := hA.2.1 9 _ rfl; have cf9 := hA.2.2 9
        have cv10 := hX.2.1 10 _ rfl; have ca10 := hA.2.1 10 _ rfl; have cf10 := hA.2.2 10
        have cv11 := hX.2.1 11 _ rfl; have ca11 := hA.2.1 11 _ rfl; have cf11 := hA.2.2 11
        have g1 := hA.puts [.int .i64 f.kind, .int .i64 f.lit.atom.kind, .string f.lit.atom.a.name, .slice b3 f.lit.atom.a.kids.length d3, .string f.lit.atom.b.name, .slice b5 f.lit.atom.b.kids.length d5, .slice b6 f.lit.atom.nums.length d6, .slice b7 f.lit.atom.times.length d7, .int .i64 f.lit.atom.bound, .bool f.lit.atom.strict, .bool f.lit.no, .slice b11 f.kids.length d11] rfl
        have hK := (Same2.refl w.heap.size w.heap.size w5).sets (b := w.heap.size) (.inl rfl) (numbered 0 [.int .i64 f.kind, .int .i64 f.lit.atom.kind, .string f.lit.atom.a.name, .slice b3 f.lit.atom.a.kids.length d3, .string f.lit.atom.b.name, .slice b5 f.lit.atom.b.kids.length d5, .slice b6 f.lit.atom.nums.length d6, .slice b7 f.lit.atom.times.length d7, .int .i64 f.lit.atom.bound, .bool f.lit.atom.strict, .bool f.lit.no, .slice b11 f.kids.length d11])
        have hWA := below_setsB (b := w.heap.size) (Nat.le_refl _) (numbered 0 [.int .i64 f.kind, .int .i64 f.lit.atom.kind, .string f.lit.atom.a.name, .slice b3 f.lit.atom.a.kids.length d3, .string f.lit.atom.b.name, .slice b5 f.lit.atom.b.kids.length d5, .slice b6 f.lit.atom.nums.length d6, .slice b7 f.lit.atom.times.length d7, .int .i64 f.lit.atom.bound, .bool f.lit.atom.strict, .bool f.lit.no, .slice b11 f.kids.length d11]) hBW
        simp only [numbered, setAt, Nat.zero_add, Nat.reduceAdd] at g1 hK hWA
        have ra0 := g1.2.1 0 _ rfl
        have ra1 := g1.2.1 1 _ rfl
        have ra2 := g1.2.1 2 _ rfl
        have ra3 := g1.2.1 3 _ rfl
        have ra4 := g1.2.1 4 _ rfl
        have ra5 := g1.2.1 5 _ rfl
        have ra6 := g1.2.1 6 _ rfl
        have ra7 := g1.2.1 7 _ rfl
        have ra8 := g1.2.1 8 _ rfl
        have ra9 := g1.2.1 9 _ rfl
        have ra10 := g1.2.1 10 _ rfl
        have ra11 := g1.2.1 11 _ rfl
        clear g1 hX hA hBW hr5 hO hgq
        go_wp2_with fail
        refine bodyPost_ret (v := .tuple #[.agg #[.int .i64 f.kind, .int .i64 f.lit.atom.kind, .string f.lit.atom.a.name, .slice b3 f.lit.atom.a.kids.length d3, .string f.lit.atom.b.name, .slice b5 f.lit.atom.b.kids.length d5, .slice b6 f.lit.atom.nums.length d6, .slice b7 f.lit.atom.times.length d7, .int .i64 f.lit.atom.bound, .bool f.lit.atom.strict, .bool f.lit.no, .slice b11 f.kids.length d11], .slice oa on oc]) (by simp [results, Try.results14, go_sem, ra0, ra1, ra2, ra3, ra4, ra5, ra6, ra7, ra8, ra9, ra10, ra11]) rfl ?_
        exact ⟨⟨f, _, _, _, _, _, _, _, _, _, _, _, _, ff, gz, hwf, rfl, hrf.same2 hK (fun b hm => by have := hff b hm; omega), hgz.same2 hK (fun b hm => by have := hgn b hm; omega)⟩, hWA⟩
end Go.Proofs.Ytlhochahokbonaa
