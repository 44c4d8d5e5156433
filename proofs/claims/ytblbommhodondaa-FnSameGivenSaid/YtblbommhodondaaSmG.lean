import Derived.Test.YtblbommhodondaaRdrE
import Derived.Test.YtblbommhodondaaCloU
import Derived.Deep.RegionHeld3
import Derived.BigQuiet
import Derived.Test.YtblbommhodondaaSmP
import Derived.Test.YtblbommhodondaaCloY
/- What a law has drawn, in three boxes. -/
namespace Go.Proofs.Ytblbommhodondaa
open Go Go.RowKit
set_option linter.unusedVariables false
set_option linter.unusedSimpArgs false
/-- What a law has drawn, in three boxes. -/
structure Env5 (W : World) (n : Nat) (s : Sg) (es : List Eqn) (a b : Tm) (sa : Option Addr) (sc : Nat) (ev : Value) (ka : Option Addr) (kc : Nat) (kb : Option Addr) (kd : Nat) (sf ef fa fb : List Nat) : Prop where
  x0 : W.cell? ⟨n, 0, none⟩ = some (.slice sa s.syms.length sc)
  y0 : W.cell? ⟨n + 1, 0, none⟩ = some (.string a.name)
  y1 : W.cell? ⟨n + 1, 1, none⟩ = some (.slice ka a.kids.length kc)
  k0 : W.cell? ⟨n + 1 + 1, 0, none⟩ = some (.string b.name)
  k1 : W.cell? ⟨n + 1 + 1, 1, none⟩ = some (.slice kb b.kids.length kd)
  hs : RdVs W s.cd [.slice sa s.syms.length sc] sf
  he : Rd W (.sl (es.map Eqn.cd)) ev ef
  ha : RdVs W a.cd [.string a.name, .slice ka a.kids.length kc] fa
  hb : RdVs W b.cd [.string b.name, .slice kb b.kids.length kd] fb
theorem Env5.below {W W' : World} {n : Nat} {s : Sg} {es : List Eqn} {a b : Tm} {sa : Option Addr} {sc : Nat} {ev : Value} {ka : Option Addr} {kc : Nat} {kb : Option Addr} {kd : Nat} {sf ef fa fb : List Nat} (h : Env5 W n s es a b sa sc ev ka kc kb kd sf ef fa fb) (hb : Below W.heap.size W W') : Env5 W' n s es a b sa sc ev ka kc kb kd sf ef fa fb :=
  ⟨cell_keep h.x0 hb, cell_keep h.y0 hb, cell_keep h.y1 hb, cell_keep h.k0 hb, cell_keep h.k1 hb, h.hs.below hb, h.he.below hb, h.ha.below hb, h.hb.below hb⟩
theorem env5_new {u : World} {s : Sg} {es : List Eqn} {a b : Tm} {sa : Option Addr} {sc : Nat} {ev : Value} {ka : Option Addr} {kc : Nat} {kb : Option Addr} {kd : Nat} {sf ef fa fb : List Nat} (T U V : TypeId) (hs : RdVs u s.cd [.slice sa s.syms.length sc] sf) (he : Rd u (.sl (es.map Eqn.cd)) ev ef) (ha : RdVs u a.cd [.string a.name, .slice ka a.kids.length kc] fa) (hb : RdVs u b.cd [.string b.name, .slice kb b.kids.length kd] fb) :
    Env5 (((u.alloc (.cells #[.slice sa s.syms.length sc] T)).alloc (.cells #[.string a.name, .slice ka a.kids.length kc] U)).alloc (.cells #[.string b.name, .slice kb b.kids.length kd] V)) u.heap.size s es a b sa sc ev ka kc kb kd sf ef fa fb ∧
    Below u.heap.size u (((u.alloc (.cells #[.slice sa s.syms.length sc] T)).alloc (.cells #[.string a.name, .slice ka a.kids.length kc] U)).alloc (.cells #[.string b.name, .slice kb b.kids.length kd] V)) := by
  obtain ⟨X, Y, K, hbb, hsz⟩ := box3_new u [.slice sa s.syms.length sc] [.string a.name, .slice ka a.kids.length kc] [.string b.name, .slice kb b.kids.length kd] T U V
  exact ⟨⟨X 0 _ rfl, Y 0 _ rfl, Y 1 _ rfl, K 0 _ rfl, K 1 _ rfl, hs.below hbb, he.below hbb, ha.below hbb, hb.below hbb⟩, hbb⟩
theorem moreP_small {es : List Eqn} {a b : Tm} {n : Nat} (h : ∀ q ∈ es, q.a.size ≤ n ∧ q.b.size ≤ n) (ha : a.size ≤ n) (hb : b.size ≤ n) : ∀ t ∈ moreP es [a, b], t.size ≤ n := by
  refine addPs_P (P := fun t => t.size ≤ n) (fun nm ks hp k hk => ?_) _ _ (by simp) (fun t ht => ?_)
  · have h1 := Tm.size_mem hk
    simp only [Tm.size] at hp; omega
  · rcases List.mem_append.1 ht with ht | ht
    · obtain ⟨q, hq, h2⟩ := List.mem_flatMap.1 ht
      simp at h2
      rcases h2 with rfl | rfl
      · exact (h q hq).1
      · exact (h q hq).2
    · simp at ht
      rcases ht with rfl | rfl
      · exact ha
      · exact hb
theorem big_of3 {es : List Eqn} {a b : Tm} (h1 : es.length ≤ 13) (h2 : ∀ q ∈ es, q.a.size ≤ 45 ∧ q.b.size ≤ 45) (ha : a.size ≤ 100) (hb : b.size ≤ 100) : Tm.sizes (sidesP es ++ [a, b]) ≤ 5000 := by
  have h := sides_few es 90 (fun e he => by have := h2 e he; omega)
  rw [Tm.sizes_append]; simp only [Tm.sizes]; omega
end Go.Proofs.Ytblbommhodondaa
/- A given equation is told: impl.tells, impl.WhyTells at a leaf; DrawEqsOk. -/
namespace Go.Proofs.Ytblbommhodondaa
open Go Go.RowKit
set_option linter.unusedVariables false
set_option linter.unusedSimpArgs false

theorem eqsB_mem {s : Sg} {es : List Eqn} {q : Eqn} (h : eqsB s es = true) (hq : q ∈ es) : eqsB s [q] = true := by
  simp only [eqsB, Bool.and_eq_true, decide_eq_true_eq, List.all_eq_true] at h
  have hl := moreP_len_le (es := [q]) (fs := es) (ms := []) (ns := []) (fun e he => by rw [List.mem_singleton.1 he]; exact hq) (by simp)
  unfold moreP at hl
  rw [List.append_nil, List.append_nil] at hl
  simp only [eqsB, h.1, h.2.2.1 q hq, List.all_cons, List.all_nil, Bool.and_true, Bool.true_and, List.length_singleton, Bool.and_eq_true, decide_eq_true_eq]
  have := h.2.2.2
  exact ⟨by omega, by omega⟩
theorem okB_some {s : Sg} {q : Eqn} (h : q.okB s = true) : (q.a.tsrt s).isSome = true ∧ (q.b.tsrt s).isSome = true := by
  constructor
  · cases ha : q.a.tsrt s with
    | some _ => rfl
    | none => rw [Eqn.okB_a ha] at h; simp at h
  · cases hb : q.b.tsrt s with
    | some _ => rfl
    | none => rw [Eqn.okB_b hb] at h; simp at h
theorem sameIs_given {s : Sg} {es : List Eqn} {q : Eqn} (h : eqsB s es = true) (hq : q ∈ es) : sameIsB s es q.a q.b = true := by
  have h0 := h
  simp only [eqsB, Bool.and_eq_true, decide_eq_true_eq, List.all_eq_true] at h0
  have hok := okB_some (h0.2.2.1 q hq)
  have hs : ∀ t ∈ sidesP es ++ [q.a, q.b], t ∈ sidesP es := fun t ht => by
    rcases List.mem_append.1 ht with h | h
    · exact h
    · exact List.mem_flatMap.2 ⟨q, hq, h⟩
  have hl : (moreP es [q.a, q.b]).length ≤ (Tm.addPs [] (sidesP es)).length := nodup_len (moreP_ord es [q.a, q.b]).nodup (addPs_sub' hs)
  have hm : moreB s es [q.a, q.b] = true := by
    have h24 := h0.2.2.2
    simp only [moreB, h, List.all_cons, List.all_nil, hok.1, hok.2, Bool.and_true, Bool.true_and, decide_eq_true_eq]
    change (moreP es [q.a, q.b]).length ≤ 24
    omega
  unfold sameIsB
  rw [hm, Bool.true_and, beq_iff_eq]
  exact ((cloC_ok es [q.a, q.b]).given q hq).2
theorem eqsB_few {s : Sg} {es : List Eqn} (h : eqsB s es = true) : es.length ≤ 12 := eqsB_len12 h
theorem Eqn.noneTm : Tm.name (.mk ⟨#[]⟩ []) = ⟨#[]⟩ := rfl
theorem isNone_yes (w : World) : Calls Try.prog 109 #[.agg #[.string ⟨#[]⟩, .slice none 0 0]] w fun e w' => e = .returned (.bool true) ∧ Below w.heap.size w w' := by
  go_enter Try.func109, Try.ntmps109
  go_wp2_with fail
  go_ret
  exact ⟨rfl, below_alloc _ _⟩
/-- What WhyTells of a given equation gives. -/
def GivOut (q : Eqn) (w : World) (e : Ending) (w' : World) : Prop := ∃ (ka : Option Addr) (kc : Nat) (kb : Option Addr) (kd : Nat) (f : List Nat), e = .returned (.tuple #[.agg #[.string q.a.name, .slice ka q.a.kids.length kc, .string q.b.name, .slice kb q.b.kids.length kd], .bool true]) ∧ RdVs w' q.cd [.string q.a.name, .slice ka q.a.kids.length kc, .string q.b.name, .slice kb q.b.kids.length kd] f ∧ Below w.heap.size w w'
theorem four_sets {w : World} {r : Nat} {v0 v1 v2 v3 : Value} (b : Nat) (h : b ≠ r) : ((((w.setCell ⟨r, 0, none⟩ v0).setCell ⟨r, 1, none⟩ v1).setCell ⟨r, 2, none⟩ v2).setCell ⟨r, 3, none⟩ v3).heap[b]? = w.heap[b]? :=
  (Below.heap_setCell _ _ _ _ h).trans ((Below.heap_setCell _ _ _ _ h).trans ((Below.heap_setCell _ _ _ _ h).trans (Below.heap_setCell _ _ _ _ h)))
theorem four_below {w W : World} {r : Nat} {v0 v1 v2 v3 : Value} (hB : Below w.heap.size w W) (h : w.heap.size ≤ r) : Below w.heap.size w ((((W.setCell ⟨r, 0, none⟩ v0).setCell ⟨r, 1, none⟩ v1).setCell ⟨r, 2, none⟩ v2).setCell ⟨r, 3, none⟩ v3) := by
  refine Below.setCell (Below.setCell (Below.setCell (Below.setCell hB ?_ _) ?_ _) ?_ _) ?_ _ <;> exact h
/-- A box, and a result of four cells behind it. -/
theorem res4_new (w : World) (cs : Array Value) (T U : TypeId) : let W := (w.alloc (.cells cs T)).alloc (.cells #[.string ⟨#[]⟩, .slice none 0 0, .string ⟨#[]⟩, .slice none 0 0] U)
    (∀ j, W.cell? ⟨w.heap.size, j, none⟩ = cs[j]?) ∧ (W.cell? ⟨w.heap.size + 1, 0, none⟩ = some (.string ⟨#[]⟩) ∧ W.cell? ⟨w.heap.size + 1, 1, none⟩ = some (.slice none 0 0) ∧ W.cell? ⟨w.heap.size + 1, 2, none⟩ = some (.string ⟨#[]⟩) ∧ W.cell? ⟨w.heap.size + 1, 3, none⟩ = some (.slice none 0 0)) ∧
    (∀ j, W.frozen? ⟨w.heap.size + 1, j, none⟩ = false) ∧ Below w.heap.size w W ∧ W.heap.size = w.heap.size + 1 + 1 := by
  have hb : Below (w.heap.size + 1 + 1) ((w.alloc (.cells cs T)).alloc (.cells #[.string ⟨#[]⟩, .slice none 0 0, .string ⟨#[]⟩, .slice none 0 0] U)) ((w.alloc (.cells cs T)).alloc (.cells #[.string ⟨#[]⟩, .slice none 0 0, .string ⟨#[]⟩, .slice none 0 0] U)) := Below.refl _ _
  obtain ⟨h1, h2, h3, h4⟩ := box2 hb
  exact ⟨h1, ⟨h2 0, h2 1, h2 2, h2 3⟩, fun j => (box2_free hb j).2, h4, by simp⟩
set_option maxRecDepth 100000 in
set_option maxHeartbeats 8000000 in
theorem tells_given (es : List Eqn) (ev : Value) (ef : List Nat) (i : Nat) (hi : i < es.length) (hel : es.length ≤ 1048576) (w : World) (hx : Rd w (.sl (es.map Eqn.cd)) ev ef) :
    Calls Try.prog 71 #[.agg #[.int .i64 2, .int .i64 i, .string ⟨#[]⟩, .slice none 0 0, .slice none 0 0], ev, .int .i64 1] w (GivOut es[i] w) := by
  obtain ⟨ea, ec, rfl, hec1, hec2⟩ := rd_sl_inv hx
  obtain ⟨b, off, rfl, hbs, hbm⟩ := rd_addr hx (by omega)
  obtain ⟨hc, ⟨r0, r1, r2, r3⟩, hfz, hB0, hsz⟩ := res4_new w #[.int .i64 2, .int .i64 i, .string ⟨#[]⟩, .slice none 0 0, .slice none 0 0] 73 41
  have c0 := hc 0
  have c1 := hc 1
  have c2 := hc 2
  have c3 := hc 3
  have c4 := hc 4
  simp only [List.getElem?_toArray, List.getElem?_cons_zero, List.getElem?_cons_succ] at c0 c1 c2 c3 c4
  have f0 := hfz 0
  have f1 := hfz 1
  have f2 := hfz 2
  have f3 := hfz 3
  clear hc hfz
  go_enter Try.func71, Try.ntmps71
  go_wp2_with fail
  generalize (w.alloc (.cells #[.int .i64 2, .int .i64 i, .string ⟨#[]⟩, .slice none 0 0, .slice none 0 0] 73)).alloc (.cells #[.string ⟨#[]⟩, .slice none 0 0, .string ⟨#[]⟩, .slice none 0 0] 41) = W at *
  go_loopw [8, 22] (fun kv iv wr => kv = .slice none 0 0 ∧ iv = .int .i64 0 ∧ wr = W) (fun _ _ _ => 0)
  case atStart => exact ⟨rfl, rfl, rfl⟩
  case round =>
    obtain ⟨rfl, rfl, rfl⟩ := hrel
    go_wp2_with fail
    refine (isNone_yes _).mono ?_
    rintro e W2 ⟨rfl, hb2⟩
    have hW : w.heap.size + 1 < wr.heap.size := by omega
    replace c0 := cell_keep c0 hb2
    replace c1 := cell_keep c1 hb2
    replace r0 := cell_keep r0 hb2
    replace r1 := cell_keep r1 hb2
    replace r2 := cell_keep r2 hb2
    replace r3 := cell_keep r3 hb2
    replace f0 := (free_of_block (hb2.block _ hW)).trans f0
    replace f1 := (free_of_block (hb2.block _ hW)).trans f1
    replace f2 := (free_of_block (hb2.block _ hW)).trans f2
    replace f3 := (free_of_block (hb2.block _ hW)).trans f3
    have hB2 := hB0.trans (hb2.mono hB0.size)
    have hx2 := hx.below hB2
    obtain ⟨ka, kc, fa, kb, kd, fb, d0, d1, d2, d3, n0, n1, n2, n3, hsub⟩ := Eqn.at hx2 hi
    have hw1 : (0 : Int) ≤ (i : Int) := by omega
    have hw2 : (i : Int) ≤ (es.length : Int) - 1 := by omega
    have hii : (i : Int) < (es.length : Int) := by omega
    clear hb2 hB0
    go_wp2_with fail
    refine (within_any (i : Int) 0 ((es.length : Int) - 1) _).mono ?_
    rintro e W3 ⟨rfl, rfl⟩
    rw [decide_eq_true hw1, decide_eq_true hw2]
    go_wp2_with fail
    refine bodyPost_ret (v := .tuple #[.agg #[.string es[i].a.name, .slice ka es[i].a.kids.length kc, .string es[i].b.name, .slice kb es[i].b.kids.length kd], .bool true]) ?_ rfl ?_
    · simp [results, Try.results71, go_sem, r0, r1, r2, r3]
    · exact ⟨ka, kc, kb, kd, fa ++ fb, rfl, (Eqn.close (x := es[i]) n0 n1 n2 n3).same _ (fun x hx' => four_sets x (by have := RdVs.lt _ (Eqn.close (x := es[i]) n0 n1 n2 n3) x hx'; have h2 := hx.lt _ x (hsub x hx'); omega)), four_below hB2 (by omega)⟩
theorem eqn1_rd {W : World} {q : Eqn} {vs : List Value} {f : List Nat} {g : Nat} (h1 : RdVs W q.cd vs f) (hg : g < W.heap.size) (hc : ∀ j u, vs[j]? = some u → W.cell? ⟨g, j, none⟩ = some u) : ∃ fp, Rd W (.sl ([q].map Eqn.cd)) (.slice (some ⟨g, 0, none⟩) 1 1) fp := by
  refine ⟨g :: f, ?_⟩
  simp only [Rd]
  refine ⟨_, 1, rfl, by simp, by simp [maxLen], .inr ⟨by simp, g, 0, f, rfl, hg, rfl, ?_⟩⟩
  refine RdRows.mk (k := 4) (vs := vs) (fun j u hj => by simpa using hc j u hj) ?_
  simpa using h1
set_option maxRecDepth 100000 in
set_option maxHeartbeats 8000000 in
theorem whyTells_given (s : Sg) (es : List Eqn) (sv : List Value) (sf : List Nat) (ev : Value) (ef : List Nat) (i : Nat) (hi : i < es.length) (hel : es.length ≤ 1048576) (hbig : Tm.sizes (sidesP es) ≤ 5000) (hok : eqsB s es = true) (w : World) (hrs : RdVs w s.cd sv sf) (hx : Rd w (.sl (es.map Eqn.cd)) ev ef) :
    Calls Try.prog 33 #[.agg sv.toArray, ev, .agg #[.int .i64 2, .int .i64 i, .string ⟨#[]⟩, .slice none 0 0, .slice none 0 0]] w (GivOut es[i] w) := by
  obtain ⟨a0, c0, f0, rfl, rfl, m0⟩ := Sg.open hrs
  obtain ⟨ea, ec, rfl, hec1, hec2⟩ := rd_sl_inv hx
  have HQ := Lib.hid (eqsB_mem hok (List.getElem_mem hi))
  have HOK := Lib.hid hok
  clear hok
  have hsum : es[i].a.size + es[i].b.size ≤ 5000 := by
    have h1 : sidesP es = sidesP (es.take i) ++ [es[i].a, es[i].b] ++ sidesP (es.drop (i + 1)) := by
      rw [← sidesP_succ es i hi, sidesP, sidesP, sidesP, ← List.flatMap_append, List.take_append_drop]
    rw [h1, Tm.sizes_append, Tm.sizes_append] at hbig
    simp only [Tm.sizes] at hbig; omega
  have hbq : Tm.sizes (sidesP [es[i]]) ≤ 1000000000 := by
    have : sidesP [es[i]] = [es[i].a, es[i].b] := rfl
    rw [this]; simp only [Tm.sizes]; omega
  obtain ⟨X, Y, K, hbb, hsz⟩ := box3_new w [.slice a0 s.syms.length c0] [.int .i64 2, .int .i64 i, .string ⟨#[]⟩, .slice none 0 0, .slice none 0 0] [.string ⟨#[]⟩, .slice none 0 0, .string ⟨#[]⟩, .slice none 0 0] 25 73 41
  have x0 := X 0 _ rfl
  have y0 := Y 0 _ rfl
  have y1 := Y 1 _ rfl
  have y2 := Y 2 _ rfl
  have y3 := Y 3 _ rfl
  have y4 := Y 4 _ rfl
  have r0 := K 0 _ rfl
  have r1 := K 1 _ rfl
  have r2 := K 2 _ rfl
  have r3 := K 3 _ rfl
  have hfz : ∀ j, (((w.alloc (.cells #[.slice a0 s.syms.length c0] 25)).alloc (.cells #[.int .i64 2, .int .i64 i, .string ⟨#[]⟩, .slice none 0 0, .slice none 0 0] 73)).alloc (.cells #[.string ⟨#[]⟩, .slice none 0 0, .string ⟨#[]⟩, .slice none 0 0] 41)).frozen? ⟨w.heap.size + 1 + 1, j, none⟩ = false := fun j => by
    have h := free_new ((w.alloc (.cells #[.slice a0 s.syms.length c0] 25)).alloc (.cells #[.int .i64 2, .int .i64 i, .string ⟨#[]⟩, .slice none 0 0, .slice none 0 0] 73)) #[.string ⟨#[]⟩, .slice none 0 0, .string ⟨#[]⟩, .slice none 0 0] 41 j
    rw [World.size_alloc, World.size_alloc] at h; exact h
  have g0 := hfz 0
  have g1 := hfz 1
  have g2 := hfz 2
  have g3 := hfz 3
  clear X Y K hfz
  replace hrs := hrs.below hbb
  replace hx := hx.below hbb
  go_enter Try.func33, Try.ntmps33
  go_wp2_with fail
  change _ at hsz
  generalize ((w.alloc (.cells [.slice a0 s.syms.length c0].toArray 25)).alloc (.cells (List.toArray [.int .i64 2, .int .i64 i, .string ⟨#[]⟩, .slice none 0 0, .slice none 0 0]) 73)).alloc (.cells (List.toArray [.string ⟨#[]⟩, .slice none 0 0, .string ⟨#[]⟩, .slice none 0 0]) 41) = W1 at *
  refine (eqsOk_any s es _ _ _ _ _ (by omega) hel (by exact hrs) (by exact hx)).mono ?_
  rintro e W2 ⟨rfl, hb2⟩
  rw [HOK.out]
  have hwR : w.heap.size + 1 + 1 < W1.heap.size := World.block_lt_of_cell? _ _ r0
  replace x0 := cell_keep x0 hb2
  replace y0 := cell_keep y0 hb2
  replace y1 := cell_keep y1 hb2
  replace y2 := cell_keep y2 hb2
  replace y3 := cell_keep y3 hb2
  replace y4 := cell_keep y4 hb2
  replace r0 := cell_keep r0 hb2
  replace r1 := cell_keep r1 hb2
  replace r2 := cell_keep r2 hb2
  replace r3 := cell_keep r3 hb2
  replace g0 := (free_of_block (hb2.block _ hwR)).trans g0
  replace g1 := (free_of_block (hb2.block _ hwR)).trans g1
  replace g2 := (free_of_block (hb2.block _ hwR)).trans g2
  replace g3 := (free_of_block (hb2.block _ hwR)).trans g3
  replace hrs := hrs.below hb2
  replace hx := hx.below hb2
  have hB2 := hbb.trans (hb2.mono hbb.size)
  clear hb2 hbb hwR
  go_wp2_with fail
  refine (tells_given es _ _ i hi hel _ (by exact hx)).mono ?_
  rintro e W3 ⟨ka, kc, kb, kd, fq, rfl, hq, hb3⟩
  have hwR : w.heap.size + 1 + 1 < W2.heap.size := World.block_lt_of_cell? _ _ r0
  replace x0 := cell_keep x0 hb3
  replace y0 := cell_keep y0 hb3
  replace y1 := cell_keep y1 hb3
  replace y2 := cell_keep y2 hb3
  replace y3 := cell_keep y3 hb3
  replace y4 := cell_keep y4 hb3
  replace r0 := cell_keep r0 hb3
  replace r1 := cell_keep r1 hb3
  replace r2 := cell_keep r2 hb3
  replace r3 := cell_keep r3 hb3
  replace g0 := (free_of_block (hb3.block _ hwR)).trans g0
  replace g1 := (free_of_block (hb3.block _ hwR)).trans g1
  replace g2 := (free_of_block (hb3.block _ hwR)).trans g2
  replace g3 := (free_of_block (hb3.block _ hwR)).trans g3
  replace hrs := hrs.below hb3
  replace hx := hx.below hb3
  have hB3 := hB2.trans (hb3.mono hB2.size)
  clear hb3 hB2 hwR
  have hW3 := World.block_lt_of_cell? _ _ r0
  have t0 := cells_new' W3 [.string es[i].a.name, .slice ka es[i].a.kids.length kc, .string es[i].b.name, .slice kb es[i].b.kids.length kd] 41 0 _ rfl
  have t1 := cells_new' W3 [.string es[i].a.name, .slice ka es[i].a.kids.length kc, .string es[i].b.name, .slice kb es[i].b.kids.length kd] 41 1 _ rfl
  have t2 := cells_new' W3 [.string es[i].a.name, .slice ka es[i].a.kids.length kc, .string es[i].b.name, .slice kb es[i].b.kids.length kd] 41 2 _ rfl
  have t3 := cells_new' W3 [.string es[i].a.name, .slice ka es[i].a.kids.length kc, .string es[i].b.name, .slice kb es[i].b.kids.length kd] 41 3 _ rfl
  have ba := below_alloc W3 (.cells #[.string es[i].a.name, .slice ka es[i].a.kids.length kc, .string es[i].b.name, .slice kb es[i].b.kids.length kd] 41)
  have x0a := cell_ak (o := .cells #[.string es[i].a.name, .slice ka es[i].a.kids.length kc, .string es[i].b.name, .slice kb es[i].b.kids.length kd] 41) x0
  have bl := ba.alloc ba.size (.cells #[.string es[i].a.name, .slice ka es[i].a.kids.length kc, .string es[i].b.name, .slice kb es[i].b.kids.length kd] 41)
  have hrow : ∃ f, Rd ((W3.alloc (.cells #[.string es[i].a.name, .slice ka es[i].a.kids.length kc, .string es[i].b.name, .slice kb es[i].b.kids.length kd] 41)).alloc (.cells #[.string es[i].a.name, .slice ka es[i].a.kids.length kc, .string es[i].b.name, .slice kb es[i].b.kids.length kd] 41)) (.sl ([es[i]].map Eqn.cd)) (.slice (some ⟨W3.heap.size + 1, 0, none⟩) 1 1) f := by
    have hX := cells_new' (W3.alloc (.cells #[.string es[i].a.name, .slice ka es[i].a.kids.length kc, .string es[i].b.name, .slice kb es[i].b.kids.length kd] 41)) [.string es[i].a.name, .slice ka es[i].a.kids.length kc, .string es[i].b.name, .slice kb es[i].b.kids.length kd] 41
    rw [World.size_alloc] at hX
    exact eqn1_rd (hq.below bl) (by simp) hX
  obtain ⟨fr, hrow⟩ := hrow
  go_wp2_with fail
  refine (eqsOk_any s [es[i]] _ _ _ _ _ hbq (by simp) (by exact hrs.below bl) (by exact hrow)).mono ?_
  rintro e W4 ⟨rfl, hb4'⟩
  rw [HQ.out]
  have hb4 : Below W3.heap.size W3 W4 := bl.trans (hb4'.mono bl.size)
  replace t0 := cell_keep (cell_ak (o := .cells #[.string es[i].a.name, .slice ka es[i].a.kids.length kc, .string es[i].b.name, .slice kb es[i].b.kids.length kd] 41) t0) hb4'
  replace t1 := cell_keep (cell_ak (o := .cells #[.string es[i].a.name, .slice ka es[i].a.kids.length kc, .string es[i].b.name, .slice kb es[i].b.kids.length kd] 41) t1) hb4'
  replace t2 := cell_keep (cell_ak (o := .cells #[.string es[i].a.name, .slice ka es[i].a.kids.length kc, .string es[i].b.name, .slice kb es[i].b.kids.length kd] 41) t2) hb4'
  replace t3 := cell_keep (cell_ak (o := .cells #[.string es[i].a.name, .slice ka es[i].a.kids.length kc, .string es[i].b.name, .slice kb es[i].b.kids.length kd] 41) t3) hb4'
  clear hb4' hrow ba x0a bl
  have hwR : w.heap.size + 1 + 1 < W3.heap.size := World.block_lt_of_cell? _ _ r0
  replace x0 := cell_keep x0 hb4
  replace y0 := cell_keep y0 hb4
  replace y1 := cell_keep y1 hb4
  replace y2 := cell_keep y2 hb4
  replace y3 := cell_keep y3 hb4
  replace y4 := cell_keep y4 hb4
  replace r0 := cell_keep r0 hb4
  replace r1 := cell_keep r1 hb4
  replace r2 := cell_keep r2 hb4
  replace r3 := cell_keep r3 hb4
  replace g0 := (free_of_block (hb4.block _ hwR)).trans g0
  replace g1 := (free_of_block (hb4.block _ hwR)).trans g1
  replace g2 := (free_of_block (hb4.block _ hwR)).trans g2
  replace g3 := (free_of_block (hb4.block _ hwR)).trans g3
  replace hrs := hrs.below hb4
  replace hx := hx.below hb4
  replace hq := hq.below hb4
  have hB4 := hB3.trans (hb4.mono hB3.size)
  clear hb4 hB3 hwR
  have hwR : w.heap.size + 1 + 1 < W4.heap.size := World.block_lt_of_cell? _ _ r0
  have hW4 := World.block_lt_of_cell? _ _ t0
  obtain ⟨ka', kc', fa', kb', kd', fb', he', -, n0, n1, n2, n3⟩ := Eqn.open hq
  simp only [List.cons.injEq, Value.slice.injEq, true_and, and_true] at he'
  obtain ⟨⟨rfl, rfl⟩, rfl, rfl⟩ := he'
  have hta := TmR.mk n0 ⟨_, n1⟩
  have htb := TmR.mk n2 ⟨_, n3⟩
  go_wp2_with fail
  go_region_held3 (fun U => U.cell? ⟨W3.heap.size, 0, none⟩ = some (.string es[i].a.name) ∧ U.cell? ⟨W3.heap.size, 1, none⟩ = some (.slice ka es[i].a.kids.length kc) ∧ U.cell? ⟨W3.heap.size, 2, none⟩ = some (.string es[i].b.name) ∧ U.cell? ⟨W3.heap.size, 3, none⟩ = some (.slice kb es[i].b.kids.length kd))
    (first | exact ⟨t0, t1, t2, t3⟩ | exact ⟨cell_keep t0 B5, cell_keep t1 B5, cell_keep t2 B5, cell_keep t3 B5⟩ | exact ⟨cell_keep t0 B6, cell_keep t1 B6, cell_keep t2 B6, cell_keep t3 B6⟩ | ((refine ⟨?_, ?_, ?_, ?_⟩) <;> ((repeat (first | with_reducible assumption | with_reducible refine cell_drew ?_ | ((with_reducible refine (World.cell?_setCell_other _ _ _ _ ?_).trans ?_); (focus (intro e; simp only [Addr.mk.injEq] at e; omega))) | with_reducible exact cell_keep t0 B6 | with_reducible exact cell_keep t1 B6 | with_reducible exact cell_keep t2 B6 | with_reducible exact cell_keep t3 B6)); done)))
    (first
      | (go_at_call 72; (with_reducible refine (ownTerm_any _ es[i].a _ _ (Nat.le_refl _) (by omega) ?_).mono ?_); exact hta.below (below_drew _); rintro e w5 ⟨k5, f5, rfl, h5, hf5, hb5⟩; obtain ⟨a5, c5, rfl, h51, h52⟩ := rd_sl_inv h5; have B5 := below_undrew' hb5)
      | (go_at_call 72; (with_reducible refine (ownTerm_any _ es[i].b _ _ (Nat.le_refl _) (by omega) ?_).mono ?_); exact htb.below B5; rintro e w6 ⟨k6, f6, rfl, h6, hf6, hb6⟩; obtain ⟨a6, c6, rfl, h61, h62⟩ := rd_sl_inv h6; have B6 := B5.trans (hb6.mono B5.size); have Z5 := B5.size; have Z6 := B6.size; have r0' := cell_keep r0 B6; have r1' := cell_keep r1 B6; have r2' := cell_keep r2 B6; have r3' := cell_keep r3 B6; have g0' := (free_of_block (B6.block _ hwR)).trans g0; have g1' := (free_of_block (B6.block _ hwR)).trans g1; have g2' := (free_of_block (B6.block _ hwR)).trans g2; have g3' := (free_of_block (B6.block _ hwR)).trans g3; have h5' := h5.below hb6))
  all_goals
    have hB6 := hB4.trans (B6.mono hB4.size)
    go_wp2_with fail
    refine bodyPost_ret (v := .tuple #[.agg #[.string es[i].a.name, .slice a5 es[i].a.kids.length c5, .string es[i].b.name, .slice a6 es[i].b.kids.length c6], .bool true]) ?_ rfl ?_
    · simp [results, Try.results33, go_sem, r0', r1', r2', r3']
    · have hE := Eqn.close (x := es[i]) n0 h5' n2 h6
      refine ⟨a5, c5, a6, c6, f5 ++ f6, rfl, hE.same _ (fun x hx' => four_sets x ?_), four_below hB6 (by omega)⟩
      rcases List.mem_append.1 hx' with h | h
      · have := (hf5.2 x h).1; (try simp at this); omega
      · have := (hf6.2 x h).1; omega
set_option maxRecDepth 100000 in
set_option maxHeartbeats 4000000 in
theorem drawEqsOk_any (v : Value) (w : World) (hv : Byts w v) :
    Calls Try.prog 43 #[v] w fun e w' => Drawn2 e w' ∧ Below w.heap.size w w' := by
  have hB0 := below_alloc w (.cells #[.slice none 0 0] 25)
  have r0 : (w.alloc (.cells #[.slice none 0 0] 25)).cell? ⟨w.heap.size, 0, none⟩ = some (.slice none 0 0) := cells_new' w [.slice none 0 0] _ 0 _ rfl
  have f0 : (w.alloc (.cells #[.slice none 0 0] 25)).frozen? ⟨w.heap.size, 0, none⟩ = false := free_new w _ _ 0
  go_enter Try.func43, Try.ntmps43
  go_wp2_with fail
  refine (l5Draw_any v _ (by exact hv.below hB0)).mono ?_
  rintro e u1 ⟨⟨s, es, a, b, sa, sc, ev, ka, kc, kb, kd, sf, ef, fa, fb, hfew, hel, hes, ha, hb, rfl, hrs, hre, hra, hrb, hown⟩, hb1⟩
  replace r0 := cell_keep r0 hb1
  replace f0 := (free_of_block (hb1.block _ (by simp))).trans f0
  have hB1 := hB0.trans (hb1.mono hB0.size)
  have hown' : ∀ x, x ∈ sf ∨ x ∈ ef ∨ x ∈ fa ∨ x ∈ fb → w.heap.size + 1 ≤ x := fun x hx => by have := hown x hx; simp at this; omega
  obtain ⟨X, Y, K, hbb, hsz⟩ := box3_new u1 [.slice sa s.syms.length sc] [.string a.name, .slice ka a.kids.length kc] [.string b.name, .slice kb b.kids.length kd] 25 37 37
  have x0 := X 0 _ rfl
  have hwu := World.block_lt_of_cell? _ _ r0
  have hB2 := hB1.trans (hbb.mono hB1.size)
  replace f0 := (free_of_block (hbb.block _ hwu)).trans f0
  replace r0 := cell_keep r0 hbb
  replace hrs := hrs.below hbb
  replace hre := hre.below hbb
  clear X Y K hB0 hb1 hown hra hrb hbb hB1
  go_wp2_with fail
  have z0 := World.cell?_setCell_same _ ⟨w.heap.size, 0, none⟩ (.slice sa s.syms.length sc) r0
  refine bodyPost_ret (v := .tuple #[.agg #[.slice sa s.syms.length sc], ev]) ?_ rfl ?_
  · simp [results, Try.results43, go_sem, z0]
  · refine ⟨⟨s, es, sa, sc, ev, sf, ef, hfew, hel, hes, rfl, hrs.same _ ?_, hre.same _ ?_⟩, hB2.setCell (Nat.le_refl _) _⟩
    all_goals exact fun x hx => by have := hown' x (by simp [hx]); exact Below.heap_setCell _ _ _ _ (fun e => by (try simp only at e); omega)
end Go.Proofs.Ytblbommhodondaa
/- The law FnSameGiven. -/
namespace Go.Proofs.Ytblbommhodondaa
open Go Go.RowKit
set_option linter.unusedVariables false
set_option linter.unusedSimpArgs false

theorem big_one {es : List Eqn} (h1 : es.length ≤ 13) (h2 : ∀ q ∈ es, q.a.size ≤ 45 ∧ q.b.size ≤ 45) : Tm.sizes (sidesP es) ≤ 5000 := by
  have h := sides_few es 90 (fun e he => by have := h2 e he; omega)
  omega
theorem boolc_eq {P : Program} {fn : Nat} {args : Array Value} {w : World} {a b : Bool} (h : a = b) (hc : Calls P fn args w fun e w' => e = .returned (.bool a) ∧ Below w.heap.size w w') : Calls P fn args w fun e w' => e = .returned (.bool b) ∧ Below w.heap.size w w' := h ▸ hc
set_option maxRecDepth 100000 in
set_option maxHeartbeats 8000000 in
theorem sameGivenL_walk (v : Value) (w : World) (hv : Byts w v) :
    Calls Try.prog 9 #[v] w fun e w' => e = .returned (.bool true) ∧ Below w.heap.size w w' := by
  have hv0 := hv
  obtain ⟨a9, n, cap, rfl, hn1, hn2, _⟩ := hv
  by_cases hlen : n ≤ 1048576
  rotate_left
  · have hlb : decide ((1048576 : Int) < (n : Int)) = true := decide_eq_true (by omega)
    go_enter Try.func9, Try.ntmps9
    go_wp2_with fail
    go_ret
    exact ⟨rfl, Below.refl _ _⟩
  have hlb : decide ((1048576 : Int) < (n : Int)) = false := decide_eq_false (by omega)
  go_enter Try.func9, Try.ntmps9
  go_wp2_with fail
  refine (drawEqsOk_any _ _ hv0).mono ?_
  rintro e u1 ⟨⟨s, es, sa, sc, ev, sf, ef, hfew, hel, hes, rfl, hrs, hre⟩, hb1⟩
  have hbig := big_one hel hes
  have HES := Lib.hid hes
  have bb := below_alloc u1 (.cells #[.slice sa s.syms.length sc] 25)
  have x0 : (u1.alloc (.cells #[.slice sa s.syms.length sc] 25)).cell? ⟨u1.heap.size, 0, none⟩ = some (.slice sa s.syms.length sc) := cells_new' u1 [.slice sa s.syms.length sc] _ 0 _ rfl
  replace hrs := hrs.below bb
  replace hre := hre.below bb
  have hB1 := hb1.trans (bb.mono hb1.size)
  obtain ⟨ea, ec, rfl, hec1, hec2⟩ := rd_sl_inv hre
  clear hb1 bb hes hv0
  go_wp2_with fail
  generalize u1.alloc (.cells #[.slice sa s.syms.length sc] 25) = W1 at *
  refine (eqsOk_any s es _ _ _ _ _ (by omega) (by omega) (by exact hrs) (by exact hre)).mono ?_
  rintro e W2 ⟨rfl, hb2⟩
  replace x0 := cell_keep x0 hb2
  replace hrs := hrs.below hb2
  replace hre := hre.below hb2
  have hB2 := hB1.trans (hb2.mono hB1.size)
  clear hb2 hB1
  cases hok : eqsB s es
  · have HOK := Lib.hid hok
    clear hok
    go_wp2_with fail
    refine (eqsOkS_any s es _ _ _ _ _ (by omega) (by exact hrs) (by exact hre)).mono ?_
    rintro e W3 ⟨rfl, hb3⟩
    rw [HOK.out]
    replace x0 := cell_keep x0 hb3
    replace hrs := hrs.below hb3
    replace hre := hre.below hb3
    have hB3 := hB2.trans (hb3.mono hB2.size)
    clear hb3 hB2
    go_wp2_with fail
    refine (eqsOkS_any s es _ _ _ _ _ (by omega) (by exact hrs) (by exact hre)).mono ?_
    rintro e W4 ⟨rfl, hb4⟩
    rw [HOK.out]
    go_wp2_with fail
    go_ret
    exact ⟨rfl, hB3.trans (hb4.mono hB3.size)⟩
  have HOK := Lib.hid hok
  clear hok
  go_wp2_with fail
  refine (eqsOkS_any s es _ _ _ _ _ (by omega) (by exact hrs) (by exact hre)).mono ?_
  rintro e W3 ⟨rfl, hb3⟩
  rw [HOK.out]
  replace x0 := cell_keep x0 hb3
  replace hrs := hrs.below hb3
  replace hre := hre.below hb3
  have hB3 := hB2.trans (hb3.mono hB2.size)
  clear hb3 hB2
  go_wp2_with fail
  go_loopw [6] (fun i wr => ∃ k : Nat, k ≤ es.length ∧ i = .int .i64 k ∧ Below W3.heap.size W3 wr) (fun i _ => es.length - (intOf i).toNat)
  case atStart => exact ⟨0, Nat.zero_le _, rfl, Below.refl _ _⟩
  case round =>
    obtain ⟨k, hkl, rfl, hb⟩ := hrel
    have hz := hb.size
    have hB := hB3.trans (hb.mono hB3.size)
    by_cases hlt : k < es.length
    rotate_left
    · go_wp2_with fail
      go_ret
      exact ⟨rfl, hB⟩
    obtain ⟨b2, off2, rfl, hbs2, _⟩ := rd_addr hre (by omega)
    have x1 := cell_keep x0 hb
    go_wp2_with fail
    refine (whyTells_given s es _ _ _ _ k hlt (by omega) hbig HOK.out _ (by exact hrs.below hb) (by exact hre.below hb)).mono ?_
    rintro e W4 ⟨ka, kc, kb, kd, fq, rfl, hq, hb4⟩
    have hb34 := hb.trans (hb4.mono hz)
    have x2 := cell_keep x1 hb4
    have ba := below_alloc W4 (.cells #[.string es[k].a.name, .slice ka es[k].a.kids.length kc, .string es[k].b.name, .slice kb es[k].b.kids.length kd] 41)
    have t0 := cells_new' W4 [.string es[k].a.name, .slice ka es[k].a.kids.length kc, .string es[k].b.name, .slice kb es[k].b.kids.length kd] 41 0 _ rfl
    have t1 := cells_new' W4 [.string es[k].a.name, .slice ka es[k].a.kids.length kc, .string es[k].b.name, .slice kb es[k].b.kids.length kd] 41 1 _ rfl
    have t2 := cells_new' W4 [.string es[k].a.name, .slice ka es[k].a.kids.length kc, .string es[k].b.name, .slice kb es[k].b.kids.length kd] 41 2 _ rfl
    have t3 := cells_new' W4 [.string es[k].a.name, .slice ka es[k].a.kids.length kc, .string es[k].b.name, .slice kb es[k].b.kids.length kd] 41 3 _ rfl
    have hb35 := hb34.trans (ba.mono hb34.size)
    obtain ⟨ka', kc', fa', kb', kd', fb', he', -, n0, n1, n2, n3⟩ := Eqn.open (hq.below ba)
    simp only [List.cons.injEq, Value.slice.injEq, true_and, and_true] at he'
    obtain ⟨⟨rfl, rfl⟩, rfl, rfl⟩ := he'
    replace x2 := cell_keep x2 ba
    clear x1 hb4 hb hb34 hz hB hq ba
    have hrs5 := hrs.below hb35
    have hre5 := hre.below hb35
    go_wp2_with fail
    generalize W4.alloc (.cells #[.string es[k].a.name, .slice ka es[k].a.kids.length kc, .string es[k].b.name, .slice kb es[k].b.kids.length kd] 41) = W5 at *
    obtain ⟨pa, pc, pf, qa, qc, qf, d0, d1, d2, d3, m0, m1, m2, m3, _⟩ := Eqn.at hre5 hlt
    have ta : TmR W5 es[k].a (.agg #[.string es[k].a.name, .slice ka es[k].a.kids.length kc]) := TmR.mk n0 ⟨_, n1⟩
    have tb : TmR W5 es[k].b (.agg #[.string es[k].b.name, .slice kb es[k].b.kids.length kd]) := TmR.mk n2 ⟨_, n3⟩
    have sa' : TmR W5 es[k].a (.agg #[.string es[k].a.name, .slice pa es[k].a.kids.length pc]) := TmR.mk m0 ⟨_, m1⟩
    have sb' : TmR W5 es[k].b (.agg #[.string es[k].b.name, .slice qa es[k].b.kids.length qc]) := TmR.mk m2 ⟨_, m3⟩
    have va := Tm.rdv n0 n1
    have vb := Tm.rdv n2 n3
    have hes := HES.out _ (List.getElem_mem hlt)
    have HG := Lib.hid (sameIs_given HOK.out (List.getElem_mem hlt))
    have ea' := Tm.beq_self es[k].a
    have eb' := Tm.beq_self es[k].b
    have hbb := big_of3 hel HES.out (a := es[k].a) (b := es[k].b) (by omega) (by omega)
    have hkk : (k : Int) < (es.length : Int) := by omega
    have q0 := cell_regrown t0
    have q1 := cell_regrown t1
    have q2 := cell_regrown t2
    have q3 := cell_regrown t3
    have q4 := cell_regrown d0
    have q5 := cell_regrown d1
    have q6 := cell_regrown d2
    have q7 := cell_regrown d3
    have q8 := cell_regrown x2
    refine wp_region_quiet_below (by kernel_rfl) (by kernel_rfl) ?_
    repeat (go_big_quiet_step (first
      | (with_reducible refine Calls.regrown_of (boolc_eq ea' (termSame_any _ es[k].a es[k].a _ _ _ (Nat.le_refl _) (ta.below (below_regrown _ _ _)) (sa'.below (below_regrown _ _ _)))))
      | (with_reducible refine Calls.regrown_of (boolc_eq eb' (termSame_any _ es[k].b es[k].b _ _ _ (Nat.le_refl _) (tb.below (below_regrown _ _ _)) (sb'.below (below_regrown _ _ _)))))
      | (with_reducible refine Calls.regrown_of (boolc_eq HG.out (sameIs_any s es es[k].a es[k].b _ _ _ _ _ _ _ _ _ (by omega) (by omega) (hrs5.below (below_regrown _ _ _)) (hre5.below (below_regrown _ _ _)) (va.below (below_regrown _ _ _)) (vb.below (below_regrown _ _ _)))))))
    refine wpQuiet_nil ?_
    intro w6 hw6
    obtain ⟨⟨dq, osq⟩, hw6⟩ := hw6
    have hb6 : Below W5.heap.size W5 w6 := hw6 ▸ below_regrown W5 dq osq
    clear hw6 q0 q1 q2 q3 q4 q5 q6 q7 q8
    go_wp2_with fail
    go_roundw
    case rel => exact ⟨k + 1, by omega, by go_num, hb35.trans (hb6.mono hb35.size)⟩
    case measure => simp [intOf]; omega
end Go.Proofs.Ytblbommhodondaa
