/- A box in memory; words and an atom that are drawn: DrawAtomOk. -/
import Derived.Test.YtlhochahokbonaaPutF
import Derived.Test.YtlhochahokbonaaRdr7
import Derived.Test.YtlhochahokbonaaOpenB
namespace Go.Proofs.Ytlhochahokbonaa
open Go Go.RowKit
set_option linter.unusedVariables false
set_option linter.unusedSimpArgs false

/-- Block b holds vs, and may be written. -/
def Box (vs : List Value) (b : Nat) (w : World) : Prop := b < w.heap.size ∧ (∀ j u, vs[j]? = some u → w.cell? ⟨b, j, none⟩ = some u) ∧ ∀ j, w.frozen? ⟨b, j, none⟩ = false
theorem Box.new (w : World) (vs : List Value) (T : TypeId) : Box vs w.heap.size (w.alloc (.cells vs.toArray T)) := ⟨by simp, fun j u hu => cells_new' w vs T j u hu, fun j => free_new _ _ _ _⟩
theorem Box.below {w w' : World} {b : Nat} {vs : List Value} (h : Box vs b w) (hb : Below w.heap.size w w') : Box vs b w' :=
  ⟨Nat.lt_of_lt_of_le h.1 hb.size, fun j u hu => cell_keep (h.2.1 j u hu) hb, fun j => (free_of_block (hb.block b h.1)).trans (h.2.2 j)⟩
theorem Box.alloc {w : World} {b : Nat} {vs : List Value} (h : Box vs b w) (o : Obj) : Box vs b (w.alloc o) := h.below (below_alloc w o)
theorem Box.drew {w : World} {b : Nat} {vs : List Value} (h : Box vs b w) : Box vs b w.drew := h
theorem Box.only {w w' : World} {rb b : Nat} {vs : List Value} (h : Box vs b w) (ho : Only [rb] w w') (hn : b ≠ rb) : Box vs b w' :=
  ⟨Nat.lt_of_lt_of_le h.1 ho.size, fun j u hu => ho.cellk (h.2.1 j u hu) hn, fun j => ho.free (h.2.2 j) h.1 hn⟩
theorem Box.put {u : World} {b : Nat} {vs : List Value} (h : Box vs b u) {k : Nat} (hk : k < vs.length) (v : Value) : Box (vs.set k v) b (u.setCell ⟨b, k, none⟩ v) := by
  obtain ⟨h2, h3, h4⟩ := h
  refine ⟨by simpa [World.setCell] using h2, fun j x hx => ?_, fun j => by simp [go_sem, h4 j]⟩
  by_cases e : j = k
  · subst e
    rw [List.getElem?_set_self hk] at hx
    obtain rfl := Option.some.inj hx
    exact World.cell?_setCell_same u ⟨b, j, none⟩ v (h3 j _ (List.getElem?_eq_getElem hk))
  · rw [List.getElem?_set_ne (fun h => e h.symm)] at hx
    exact (World.cell?_setCell_other _ _ _ _ (by intro h; simp only [Addr.mk.injEq] at h; omega)).trans (h3 j x hx)
theorem Box.sets_other {u : World} {lb b : Nat} {vs : List Value} (h : Box vs lb u) (hne : lb < b ∨ b < lb) (ups : List (Nat × Value)) : Box vs lb (setAt b ups u) := by
  have hL := Loc.sets (b := b) (lo := b) (hi := b + 1) (Nat.le_refl _) (by omega) ups (Loc.refl _ _ u)
  have hk := hL.block lb h.1 (by omega)
  exact ⟨Nat.lt_of_lt_of_le h.1 hL.size, fun j x hx => cell_block hk (h.2.1 j x hx), fun j => free_block hk (h.2.2 j)⟩
/-- The values with their places. -/
def numbered : Nat → List Value → List (Nat × Value)
  | _, [] => []
  | k, v :: r => (k, v) :: numbered (k + 1) r
theorem Box.puts_from : ∀ (vs done old : List Value) {u : World} {b : Nat}, old.length = vs.length → Box (done ++ old) b u → Box (done ++ vs) b (setAt b (numbered done.length vs) u)
  | [], done, old, u, b, hl, h => by
    obtain rfl : old = [] := List.eq_nil_of_length_eq_zero hl
    exact h
  | v :: r, done, [], u, b, hl, h => by simp at hl
  | v :: r, done, o :: old, u, b, hl, h => by
    have h1 := h.put (k := done.length) (by simp) v
    rw [List.set_append_right _ _ (Nat.le_refl _), Nat.sub_self, List.set_cons_zero] at h1
    have h2 := Box.puts_from r (done ++ [v]) old (by simpa using hl) (by simpa using h1)
    simpa [setAt, numbered] using h2
theorem Box.puts {u : World} {b : Nat} {old : List Value} (vs : List Value) (h : Box old b u) (hl : old.length = vs.length) : Box vs b (setAt b (numbered 0 vs) u) := by
  have h1 := Box.puts_from vs [] old hl (by simpa using h)
  simpa using h1
theorem below_setsB {w : World} {B b : Nat} (hb : B ≤ b) : ∀ (ups : List (Nat × Value)) {u : World}, Below B w u → Below B w (setAt b ups u)
  | [], _, h => h
  | p :: r, _, h => below_setsB hb r (h.setCell hb _)
/-- All but the blocks A and B as it was. -/
def Same2 (A B : Nat) (w w' : World) : Prop := ∀ b, b < w.heap.size → b ≠ A → b ≠ B → w'.heap[b]? = w.heap[b]?
theorem Same2.refl (A B : Nat) (w : World) : Same2 A B w w := fun _ _ _ _ => rfl
theorem Same2.sets {A B b : Nat} {w : World} (hb : b = A ∨ b = B) : ∀ (ups : List (Nat × Value)) {u : World}, Same2 A B w u → Same2 A B w (setAt b ups u)
  | [], _, h => h
  | p :: r, u, h => Same2.sets hb r (fun q h1 h2 h3 => (Below.heap_setCell u _ _ q (fun e : q = b => by rcases hb with hb | hb <;> omega)).trans (h q h1 h2 h3))
theorem Same2.trans {A B : Nat} {w w1 w2 : World} (h : Same2 A B w w1) (h' : Same2 A B w1 w2) (hs : w.heap.size ≤ w1.heap.size) : Same2 A B w w2 := fun b h1 h2 h3 => (h' b (Nat.lt_of_lt_of_le h1 hs) h2 h3).trans (h b h1 h2 h3)
theorem Rd.same2 {A B : Nat} {w w' : World} {d : CD} {v : Value} {f : List Nat} (h : Rd w d v f) (hs : Same2 A B w w') (hf : ∀ b ∈ f, b ≠ A ∧ b ≠ B) : Rd w' d v f := h.same d (fun b hb => hs b (h.lt d b hb) (hf b hb).1 (hf b hb).2)
theorem RdVs.same2 {A B : Nat} {w w' : World} {d : List CD} {v : List Value} {f : List Nat} (h : RdVs w d v f) (hs : Same2 A B w w') (hf : ∀ b ∈ f, b ≠ A ∧ b ≠ B) : RdVs w' d v f := h.same d (fun b hb => hs b (h.lt d b hb) (hf b hb).1 (hf b hb).2)
/-- Both stores of two results, in the one order. -/
theorem two_ab {w W : World} {A B : Nat} {oa ob : List Value} (va vb : List Value) (hA : Box oa A W) (hB : Box ob B W) (hne : A < B) (la : oa.length = va.length) (lb : ob.length = vb.length) (hbw : Below w.heap.size w W) (hAw : w.heap.size ≤ A) :
    Box va A (setAt B (numbered 0 vb) (setAt A (numbered 0 va) W)) ∧ Box vb B (setAt B (numbered 0 vb) (setAt A (numbered 0 va) W)) ∧ Below w.heap.size w (setAt B (numbered 0 vb) (setAt A (numbered 0 va) W)) ∧ Same2 A B W (setAt B (numbered 0 vb) (setAt A (numbered 0 va) W)) :=
  ⟨(hA.puts va la).sets_other (.inl hne) _, (hB.sets_other (.inr hne) _).puts vb lb, below_setsB (by omega) _ (below_setsB hAw _ hbw), ((Same2.refl A B W).sets (.inl rfl) _).sets (.inr rfl) _⟩
theorem two_ba {w W : World} {A B : Nat} {oa ob : List Value} (va vb : List Value) (hA : Box oa A W) (hB : Box ob B W) (hne : A < B) (la : oa.length = va.length) (lb : ob.length = vb.length) (hbw : Below w.heap.size w W) (hAw : w.heap.size ≤ A) :
    Box va A (setAt A (numbered 0 va) (setAt B (numbered 0 vb) W)) ∧ Box vb B (setAt A (numbered 0 va) (setAt B (numbered 0 vb) W)) ∧ Below w.heap.size w (setAt A (numbered 0 va) (setAt B (numbered 0 vb) W)) ∧ Same2 A B W (setAt A (numbered 0 va) (setAt B (numbered 0 vb) W)) :=
  ⟨(hA.sets_other (.inl hne) _).puts va la, (hB.puts vb lb).sets_other (.inr hne) _, below_setsB hAw _ (below_setsB (by omega) _ hbw), ((Same2.refl A B W).sets (.inr rfl) _).sets (.inl rfl) _⟩
def DrawnSgAt (e : Ending) (w' : World) : Prop := ∃ (s : Sg) (y : Atm) (sa : Option Addr) (sc : Nat) (a2 : Option Addr) (c2 : Nat) (a4 : Option Addr) (c4 : Nat) (a5 : Option Addr) (c5 : Nat) (a6 : Option Addr) (c6 : Nat) (sf f : List Nat), y.tame ∧ s.syms.length ≤ 21 ∧ (∀ x ∈ s.syms, x.args.length ≤ 4) ∧
  e = .returned (.tuple #[.agg #[.slice sa s.syms.length sc], .agg #[.int .i64 y.kind, .string y.a.name, .slice a2 y.a.kids.length c2, .string y.b.name, .slice a4 y.b.kids.length c4, .slice a5 y.nums.length c5, .slice a6 y.times.length c6, .int .i64 y.bound, .bool y.strict]]) ∧ RdVs w' s.cd [.slice sa s.syms.length sc] sf ∧ RdVs w' y.cd [.int .i64 y.kind, .string y.a.name, .slice a2 y.a.kids.length c2, .string y.b.name, .slice a4 y.b.kids.length c4, .slice a5 y.nums.length c5, .slice a6 y.times.length c6, .int .i64 y.bound, .bool y.strict] f
set_option maxRecDepth 100000 in
set_option maxHeartbeats 4000000 in
theorem drawAtomOk_any (v : Value) (w : World) (hv : Byts w v) :
    Calls Try.prog 8 #[v] w fun e w' => DrawnSgAt e w' ∧ Below w.heap.size w w' := by
  have hB0 : Below w.heap.size w ((w.alloc (.cells #[.slice none 0 0] 25)).alloc (.cells #[.int .i64 0, .string ⟨#[]⟩, .slice none 0 0, .string ⟨#[]⟩, .slice none 0 0, .slice none 0 0, .slice none 0 0, .int .i64 0, .bool false] 31)) := ((Below.refl _ _).alloc (Nat.le_refl _) _).alloc (by simp) _
  have hA0 := (Box.new w [.slice none 0 0] 25).alloc (.cells #[.int .i64 0, .string ⟨#[]⟩, .slice none 0 0, .string ⟨#[]⟩, .slice none 0 0, .slice none 0 0, .slice none 0 0, .int .i64 0, .bool false] 31)
  have hB1 := Box.new (w.alloc (.cells #[.slice none 0 0] 25)) [.int .i64 0, .string ⟨#[]⟩, .slice none 0 0, .string ⟨#[]⟩, .slice none 0 0, .slice none 0 0, .slice none 0 0, .int .i64 0, .bool false] 31
  rw [World.size_alloc] at hB1
  have hs0 : ((w.alloc (.cells #[.slice none 0 0] 25)).alloc (.cells #[.int .i64 0, .string ⟨#[]⟩, .slice none 0 0, .string ⟨#[]⟩, .slice none 0 0, .slice none 0 0, .slice none 0 0, .int .i64 0, .bool false] 31)).heap.size = w.heap.size + 1 + 1 := by simp
  go_enter Try.func8, Try.ntmps8
  go_upto_region 1 with fail
  generalize (w.alloc (.cells #[.slice none 0 0] 25)).alloc (.cells #[.int .i64 0, .string ⟨#[]⟩, .slice none 0 0, .string ⟨#[]⟩, .slice none 0 0, .slice none 0 0, .slice none 0 0, .int .i64 0, .bool false] 31) = W0 at *
  go_wp2_with fail
  refine (l16Open_any v _ (by exact hv.below hB0)).mono ?_
  rintro e u1 ⟨rfl, hu1, hb1⟩
  rw [hs0] at hu1 ⊢
  replace hA0 := hA0.below hb1
  replace hB1 := hB1.below hb1
  have hBW := hB0.trans (hb1.mono (by omega))
  have hzu := hb1.size
  rw [hs0] at hzu
  obtain ⟨rb, hrb⟩ : ∃ rb, rb = w.heap.size + 1 + 1 := ⟨_, rfl⟩
  rw [← hrb] at hu1 ⊢
  have hrw1 : rb ≤ w.heap.size + 1 + 1 := by omega
  have hrw2 : w.heap.size + 1 + 1 ≤ rb := by omega
  clear hrb hb1 hs0 hB0
  have hl1 := hu1.lt
  go_wp2_with fail
  refine (l4Sig_nice rb 0 _ (by omega) hu1).mono ?_
  rintro e u2 ⟨⟨s, vs, sf, ⟨hfew, hnice⟩, rfl, hrd, hsf⟩, hu2, ho2⟩
  obtain ⟨a0, c0, _, rfl, rfl, m0⟩ := Sg.open hrd
  have hnr : rb ∉ sf := fun h => by have := hsf _ h; omega
  replace hsf : ∀ b ∈ sf, w.heap.size + 1 < b := fun b hb => by have := hsf b hb; omega
  have hz2 := ho2.size
  replace hA0 := hA0.only ho2 (by omega)
  replace hB1 := hB1.only ho2 (by omega)
  replace hBW := hBW.trans (ho2.toBelow (B := w.heap.size) (by omega) (fun b hb => by simp at hb; omega))
  obtain ⟨S, hS⟩ : ∃ S, S = u2.heap.size := ⟨_, rfl⟩
  have hSz : w.heap.size + 1 + 1 + 1 ≤ S := by have := hu2.lt; have := hu1.lt; omega
  have hXS := Box.new u2 [.slice a0 s.syms.length c0] 25
  rw [← hS] at hXS
  have hfS : ∀ b ∈ sf, b < S := fun b hb => by rw [hS]; exact hrd.lt _ b hb
  go_upto_region 3 with fail
  rw [← hS]
  have hba := below_alloc u2 (.cells #[.slice a0 s.syms.length c0] 25)
  replace hA0 := hA0.below hba
  replace hB1 := hB1.below hba
  replace hBW := hBW.alloc (by omega) (.cells #[.slice a0 s.syms.length c0] 25)
  replace hu2 := hu2.below hba
  replace hrd := hrd.below hba
  clear hba ho2 hz2 hS hu1 hl1 hzu m0
  generalize u2.alloc (.cells #[.slice a0 s.syms.length c0] 25) = U2 at *
  have xs := hXS.2.1 0 _ rfl
  go_wp2_with fail
  refine (l6Some_any s _ sf rb (0 + 1) _ (by omega) hfew hnice (by exact hrd) hnr hu2).mono ?_
  rintro e u3 ⟨⟨y, vy, fy, ht, rfl, hry, hfy⟩, hu3, ho3⟩
  obtain ⟨a2, c2, _, a4, c4, _, a5, c5, _, a6, c6, _, rfl, _, m0, m1, m2, m3, m4, m5, m6, m7⟩ := Atm.open hry
  have hz3 := ho3.size
  have hzU := hXS.1
  replace hA0 := hA0.only ho3 (by omega)
  replace hB1 := hB1.only ho3 (by omega)
  replace hXS := hXS.only ho3 (by omega)
  replace hBW := hBW.trans (ho3.toBelow (B := w.heap.size) (by omega) (fun b hb => by simp at hb; omega))
  replace hrd := hrd.only ho3 hnr
  replace hfy : ∀ b ∈ fy, S < b := fun b hb => by have := hfy b hb; omega
  obtain ⟨V, hV⟩ : ∃ V, V = u3.heap.size := ⟨_, rfl⟩
  have hXV := Box.new u3 [.int .i64 y.kind, .string y.a.name, .slice a2 y.a.kids.length c2, .string y.b.name, .slice a4 y.b.kids.length c4, .slice a5 y.nums.length c5, .slice a6 y.times.length c6, .int .i64 y.bound, .bool y.strict] 31
  rw [← hV] at hXV
  have hfV : ∀ b ∈ fy, b < V := fun b hb => by rw [hV]; exact hry.lt _ b hb
  have hSV : S < V := by omega
  go_upto_region 4 with fail
  rw [← hV]
  have hba := below_alloc u3 (.cells #[.int .i64 y.kind, .string y.a.name, .slice a2 y.a.kids.length c2, .string y.b.name, .slice a4 y.b.kids.length c4, .slice a5 y.nums.length c5, .slice a6 y.times.length c6, .int .i64 y.bound, .bool y.strict] 31)
  replace hA0 := hA0.below hba
  replace hB1 := hB1.below hba
  replace hXS := hXS.below hba
  replace hBW := hBW.alloc (by omega) (.cells #[.int .i64 y.kind, .string y.a.name, .slice a2 y.a.kids.length c2, .string y.b.name, .slice a4 y.b.kids.length c4, .slice a5 y.nums.length c5, .slice a6 y.times.length c6, .int .i64 y.bound, .bool y.strict] 31)
  replace hu3 := hu3.below hba
  replace hrd := hrd.below hba
  replace hry := hry.below hba
  clear hba ho3 hz3 hV hu2 m0 m1 m2 m3 m4 m5 m6 m7 xs hzU
  generalize u3.alloc (.cells #[.int .i64 y.kind, .string y.a.name, .slice a2 y.a.kids.length c2, .string y.b.name, .slice a4 y.b.kids.length c4, .slice a5 y.nums.length c5, .slice a6 y.times.length c6, .int .i64 y.bound, .bool y.strict] 31) = U3 at *
  go_wp2_with fail
  refine (pick_any rb (0 + 1 + 200) 12 _ (by omega) (by omega) (by omega) hu3).mono ?_
  rintro e u4 ⟨⟨m, hm, rfl⟩, hu4, ho4⟩
  have hnry : rb ∉ fy := fun h => by have := hfy _ h; have := hu3.lt; omega
  have hz4 := ho4.size
  have hzU := hXV.1
  replace hA0 := hA0.only ho4 (by omega)
  replace hB1 := hB1.only ho4 (by omega)
  replace hXS := hXS.only ho4 (by omega)
  replace hXV := hXV.only ho4 (by omega)
  replace hBW := hBW.trans (ho4.toBelow (B := w.heap.size) (by omega) (fun b hb => by simp at hb; omega))
  replace hrd := hrd.only ho4 hnr
  replace hry := hry.only ho4 hnry
  have hzu4 : V < u4.heap.size := by omega
  clear ho4 hu3 hz4 hm hzU
  by_cases hm0 : m = 0
  · subst hm0
    have xs := hXS.2.1 0 _ rfl
    go_wp2_with fail
    refine (l4Bent_any 5 2 s _ sf rb (0 + 1 + 200 + 1) _ (by omega) (by omega) (by omega) hfew.1 hfew.2 (by exact hrd) hnr hu4).mono ?_
    rintro e u5 ⟨⟨s5, v5, f5, hs5, ha5, rfl, hrd5, hf5⟩, hu5, ho5⟩
    obtain ⟨a5', c5', _, rfl, rfl, m5⟩ := Sg.open hrd5
    have hz5 := ho5.size
    go_wp2_with fail
    refine (l4Bent_any (5 + 8) (2 + 1) s5 _ f5 rb (0 + 1 + 200 + 1 + 20) _ (by omega) (by omega) (by omega) hs5 ha5 (by exact hrd5) (fun h => by have := hf5 _ h; omega) hu5).mono ?_
    rintro e X ⟨⟨s9, v6, f9, hs9, ha9, rfl, hrd9, hf9⟩, hu6, ho6⟩
    obtain ⟨a9, c9, _, rfl, rfl, m6⟩ := Sg.open hrd9
    have hN6 := ho5.trans ho6
    replace hA0 := hA0.only hN6 (by omega)
    replace hB1 := hB1.only hN6 (by omega)
    replace hXS := hXS.only hN6 (by omega)
    replace hXV := hXV.only hN6 (by omega)
    replace hBW := hBW.trans (hN6.toBelow (B := w.heap.size) (by omega) (fun b hb => by simp at hb; omega))
    replace hry := hry.only hN6 hnry
    replace hf9 : ∀ b ∈ f9, V < b := fun b hb => by have := hf9 b hb; omega
    clear ho5 ho6 hN6 hrd5 hu5 hu6 hu4 m5 m6 hrd
    have xs := hXS.2.1 0 _ rfl; have xf := hXS.2.2 0
    go_upto_region 6 with fail
    have hXS' := hXS.put (k := 0) (by simp) (.slice a9 s9.syms.length c9)
    have hA := hA0.sets_other (b := S) (.inl (by omega)) [(0, .slice a9 s9.syms.length c9)]
    have hB := hB1.sets_other (b := S) (.inl (by omega)) [(0, .slice a9 s9.syms.length c9)]
    have hXV' := hXV.sets_other (b := S) (.inr (by omega)) [(0, .slice a9 s9.syms.length c9)]
    replace hBW := below_setsB (b := S) (by omega) [(0, .slice a9 s9.syms.length c9)] hBW
    have hK0 := (Same2.refl S S X).sets (b := S) (.inl rfl) [(0, .slice a9 s9.syms.length c9)]
    replace hrd9 := hrd9.same2 hK0 (fun b hb => by have := hf9 b hb; omega)
    have hry9 := hry.same2 hK0 (fun b hb => by have := hfy b hb; omega)
    simp only [setAt] at hA hB hXV' hBW hrd9 hry9
    clear hA0 hB1 hXS hXV hK0 xs xf hry
    generalize X.setCell ⟨S, 0, none⟩ (.slice a9 s9.syms.length c9) = W at *
    replace hf9 : ∀ b ∈ f9, w.heap.size + 1 < b := fun b hb => by have := hf9 b hb; omega
    have hXS := hXS'; have hXV := hXV'
    clear hXS' hXV'
    refine Till.start (F := (fun U : World => Box [.slice a9 s9.syms.length c9] S U ∧ Box [.int .i64 y.kind, .string y.a.name, .slice a2 y.a.kids.length c2, .string y.b.name, .slice a4 y.b.kids.length c4, .slice a5 y.nums.length c5, .slice a6 y.times.length c6, .int .i64 y.bound, .bool y.strict] V U)) (s0 := 3) (by kernel_rfl) ?_
    have hF : (fun U : World => Box [.slice a9 s9.syms.length c9] S U ∧ Box [.int .i64 y.kind, .string y.a.name, .slice a2 y.a.kids.length c2, .string y.b.name, .slice a4 y.b.kids.length c4, .slice a5 y.nums.length c5, .slice a6 y.times.length c6, .int .i64 y.bound, .bool y.strict] V U) W.drew := ⟨hXS, hXV⟩
    have hA' : Box _ _ W.drew := hA
    have hB' : Box _ _ W.drew := hB
    have hWd : Below W.heap.size W W.drew := below_drew W
    have Tab' := two_ab [.slice a9 s9.syms.length c9] [.int .i64 y.kind, .string y.a.name, .slice a2 y.a.kids.length c2, .string y.b.name, .slice a4 y.b.kids.length c4, .slice a5 y.nums.length c5, .slice a6 y.times.length c6, .int .i64 y.bound, .bool y.strict] hA' hB' (by omega) rfl rfl (hBW.trans (hWd.mono (by have := hBW.size; omega))) (by omega)
    have hK0 : Same2 w.heap.size (w.heap.size + 1) W W.drew := fun b hb _ _ => hWd.block b hb
    have hKs := hWd.size
    clear hA hB hBW hXS hXV hWd
    generalize W.drew = W1 at *
    refine Till.take (i := 0) (v := (.agg #[.slice a9 s9.syms.length c9])) rfl (by kernel_rfl) (by kernel_rfl) (by kernel_rfl) (fun _ _ _ h => h) (by kernel_rfl) (Or.inl ⟨by rfl, fun U hU => ?_⟩) hF ?_
    · have u0 := hU.1.2.1 0 _ rfl; clear hU; go_simp
    try simp only [Act.put, List.setIfInBounds_toArray, List.set_cons_zero, List.set_cons_succ]
    refine Till.take (i := 1) (v := (.agg #[.int .i64 y.kind, .string y.a.name, .slice a2 y.a.kids.length c2, .string y.b.name, .slice a4 y.b.kids.length c4, .slice a5 y.nums.length c5, .slice a6 y.times.length c6, .int .i64 y.bound, .bool y.strict])) rfl (by kernel_rfl) (by kernel_rfl) (by kernel_rfl) (fun _ _ _ h => h) (by kernel_rfl) (Or.inl ⟨by rfl, fun U hU => ?_⟩) hF ?_
    · have u0 := hU.2.2.1 0 _ rfl; have u1 := hU.2.2.1 1 _ rfl; have u2 := hU.2.2.1 2 _ rfl; have u3 := hU.2.2.1 3 _ rfl; have u4 := hU.2.2.1 4 _ rfl; have u5 := hU.2.2.1 5 _ rfl; have u6 := hU.2.2.1 6 _ rfl; have u7 := hU.2.2.1 7 _ rfl; have u8 := hU.2.2.1 8 _ rfl; clear hU; go_simp
    try simp only [Act.put, List.setIfInBounds_toArray, List.set_cons_zero, List.set_cons_succ]
    refine Till.one (i := 2) (by kernel_rfl) rfl (fun K hK => ?_)
    have c0 := hA'.2.1 0 _ rfl; have f0 := hA'.2.2 0
    go_simp
    have hB2 := hB'.sets_other (b := w.heap.size) (by omega) [(0, .slice a9 s9.syms.length c9)]
    have hF2 : (fun U : World => Box [.slice a9 s9.syms.length c9] S U ∧ Box [.int .i64 y.kind, .string y.a.name, .slice a2 y.a.kids.length c2, .string y.b.name, .slice a4 y.b.kids.length c4, .slice a5 y.nums.length c5, .slice a6 y.times.length c6, .int .i64 y.bound, .bool y.strict] V U) _ := ⟨hF.1.sets_other (b := w.heap.size) (by omega) [(0, .slice a9 s9.syms.length c9)], hF.2.sets_other (b := w.heap.size) (by omega) [(0, .slice a9 s9.syms.length c9)]⟩
    simp only [setAt] at hB2 hF2
    refine hK.out _ _ (fun _ => hF2) ?_
    clear hK hF hF2 hA' hB' c0 f0
    try simp only [Act.put, List.setIfInBounds_toArray, List.set_cons_zero, List.set_cons_succ]
    refine Till.one (i := 3) (by kernel_rfl) rfl (fun K hK => ?_)
    have c0 := hB2.2.1 0 _ rfl; have f0 := hB2.2.2 0
    have c1 := hB2.2.1 1 _ rfl; have f1 := hB2.2.2 1
    have c2 := hB2.2.1 2 _ rfl; have f2 := hB2.2.2 2
    have c3 := hB2.2.1 3 _ rfl; have f3 := hB2.2.2 3
    have c4 := hB2.2.1 4 _ rfl; have f4 := hB2.2.2 4
    have c5 := hB2.2.1 5 _ rfl; have f5 := hB2.2.2 5
    have c6 := hB2.2.1 6 _ rfl; have f6 := hB2.2.2 6
    have c7 := hB2.2.1 7 _ rfl; have f7 := hB2.2.2 7
    have c8 := hB2.2.1 8 _ rfl; have f8 := hB2.2.2 8
    go_simp
    refine hK.out _ _ (fun h => absurd h (by decide)) ?_
    clear hK hB2 c0 f0 c1 f1 c2 f2 c3 f3 c4 f4 c5 f5 c6 f6 c7 f7 c8 f8
    try simp only [Act.put, List.setIfInBounds_toArray, List.set_cons_zero, List.set_cons_succ]
    refine Till.done (by kernel_rfl) ?_ _
    simp only [numbered, setAt, Nat.zero_add, Nat.reduceAdd] at Tab'
    obtain ⟨g1, g2, hWA, hK1⟩ := Tab'
    have hK : Same2 w.heap.size (w.heap.size + 1) W _ := hK0.trans hK1 hKs
    have ra0 := g1.2.1 0 _ rfl
    have rb0 := g2.2.1 0 _ rfl
    have rb1 := g2.2.1 1 _ rfl
    have rb2 := g2.2.1 2 _ rfl
    have rb3 := g2.2.1 3 _ rfl
    have rb4 := g2.2.1 4 _ rfl
    have rb5 := g2.2.1 5 _ rfl
    have rb6 := g2.2.1 6 _ rfl
    have rb7 := g2.2.1 7 _ rfl
    have rb8 := g2.2.1 8 _ rfl
    go_wp2_with fail
    refine bodyPost_ret (v := .tuple #[.agg #[.slice a9 s9.syms.length c9], .agg #[.int .i64 y.kind, .string y.a.name, .slice a2 y.a.kids.length c2, .string y.b.name, .slice a4 y.b.kids.length c4, .slice a5 y.nums.length c5, .slice a6 y.times.length c6, .int .i64 y.bound, .bool y.strict]]) (by simp [results, Try.results8, go_sem, ra0, rb0, rb1, rb2, rb3, rb4, rb5, rb6, rb7, rb8]) rfl ?_
    exact ⟨⟨s9, y, a9, c9, a2, c2, a4, c4, a5, c5, a6, c6, f9, fy, ht, hs9, ha9, rfl, hrd9.same2 hK (fun b hb => by have := hf9 b hb; omega), hry9.same2 hK (fun b hb => by have := hfy b hb; omega)⟩, hWA⟩
  · have e0 : ((m : Int) == 0) = false := by simpa using hm0
    obtain ⟨s9, rfl⟩ : ∃ s9, s9 = s := ⟨_, rfl⟩
    have hs9 : s9.syms.length ≤ 21 := by have := hfew.1; omega
    have ha9 : ∀ x ∈ s9.syms, x.args.length ≤ 4 := fun x hx => by have := hfew.2 x hx; omega
    go_upto_region 6 with fail
    have hA := hA0; have hB := hB1; have hXS' := hXS; have hXV' := hXV; have hrd9 := hrd; have hry9 := hry
    obtain ⟨a9, rfl⟩ : ∃ a9, a9 = a0 := ⟨_, rfl⟩
    obtain ⟨c9, rfl⟩ : ∃ c9, c9 = c0 := ⟨_, rfl⟩
    obtain ⟨f9, rfl⟩ : ∃ f9, f9 = sf := ⟨_, rfl⟩
    have hf9 : ∀ b ∈ f9, w.heap.size + 1 < b := fun b hb => by have := hsf b hb; omega
    clear hA0 hB1 hXS hXV hrd hry
    generalize u4 = W at *
    have hXS := hXS'; have hXV := hXV'
    clear hXS' hXV'
    refine Till.start (F := (fun U : World => Box [.slice a9 s9.syms.length c9] S U ∧ Box [.int .i64 y.kind, .string y.a.name, .slice a2 y.a.kids.length c2, .string y.b.name, .slice a4 y.b.kids.length c4, .slice a5 y.nums.length c5, .slice a6 y.times.length c6, .int .i64 y.bound, .bool y.strict] V U)) (s0 := 3) (by kernel_rfl) ?_
    have hF : (fun U : World => Box [.slice a9 s9.syms.length c9] S U ∧ Box [.int .i64 y.kind, .string y.a.name, .slice a2 y.a.kids.length c2, .string y.b.name, .slice a4 y.b.kids.length c4, .slice a5 y.nums.length c5, .slice a6 y.times.length c6, .int .i64 y.bound, .bool y.strict] V U) W.drew := ⟨hXS, hXV⟩
    have hA' : Box _ _ W.drew := hA
    have hB' : Box _ _ W.drew := hB
    have hWd : Below W.heap.size W W.drew := below_drew W
    have Tab' := two_ab [.slice a9 s9.syms.length c9] [.int .i64 y.kind, .string y.a.name, .slice a2 y.a.kids.length c2, .string y.b.name, .slice a4 y.b.kids.length c4, .slice a5 y.nums.length c5, .slice a6 y.times.length c6, .int .i64 y.bound, .bool y.strict] hA' hB' (by omega) rfl rfl (hBW.trans (hWd.mono (by have := hBW.size; omega))) (by omega)
    have hK0 : Same2 w.heap.size (w.heap.size + 1) W W.drew := fun b hb _ _ => hWd.block b hb
    have hKs := hWd.size
    clear hA hB hBW hXS hXV hWd
    generalize W.drew = W1 at *
    refine Till.take (i := 0) (v := (.agg #[.slice a9 s9.syms.length c9])) rfl (by kernel_rfl) (by kernel_rfl) (by kernel_rfl) (fun _ _ _ h => h) (by kernel_rfl) (Or.inl ⟨by rfl, fun U hU => ?_⟩) hF ?_
    · have u0 := hU.1.2.1 0 _ rfl; clear hU; go_simp
    try simp only [Act.put, List.setIfInBounds_toArray, List.set_cons_zero, List.set_cons_succ]
    refine Till.take (i := 1) (v := (.agg #[.int .i64 y.kind, .string y.a.name, .slice a2 y.a.kids.length c2, .string y.b.name, .slice a4 y.b.kids.length c4, .slice a5 y.nums.length c5, .slice a6 y.times.length c6, .int .i64 y.bound, .bool y.strict])) rfl (by kernel_rfl) (by kernel_rfl) (by kernel_rfl) (fun _ _ _ h => h) (by kernel_rfl) (Or.inl ⟨by rfl, fun U hU => ?_⟩) hF ?_
    · have u0 := hU.2.2.1 0 _ rfl; have u1 := hU.2.2.1 1 _ rfl; have u2 := hU.2.2.1 2 _ rfl; have u3 := hU.2.2.1 3 _ rfl; have u4 := hU.2.2.1 4 _ rfl; have u5 := hU.2.2.1 5 _ rfl; have u6 := hU.2.2.1 6 _ rfl; have u7 := hU.2.2.1 7 _ rfl; have u8 := hU.2.2.1 8 _ rfl; clear hU; go_simp
    try simp only [Act.put, List.setIfInBounds_toArray, List.set_cons_zero, List.set_cons_succ]
    refine Till.one (i := 2) (by kernel_rfl) rfl (fun K hK => ?_)
    have c0 := hA'.2.1 0 _ rfl; have f0 := hA'.2.2 0
    go_simp
    have hB2 := hB'.sets_other (b := w.heap.size) (by omega) [(0, .slice a9 s9.syms.length c9)]
    have hF2 : (fun U : World => Box [.slice a9 s9.syms.length c9] S U ∧ Box [.int .i64 y.kind, .string y.a.name, .slice a2 y.a.kids.length c2, .string y.b.name, .slice a4 y.b.kids.length c4, .slice a5 y.nums.length c5, .slice a6 y.times.length c6, .int .i64 y.bound, .bool y.strict] V U) _ := ⟨hF.1.sets_other (b := w.heap.size) (by omega) [(0, .slice a9 s9.syms.length c9)], hF.2.sets_other (b := w.heap.size) (by omega) [(0, .slice a9 s9.syms.length c9)]⟩
    simp only [setAt] at hB2 hF2
    refine hK.out _ _ (fun _ => hF2) ?_
    clear hK hF hF2 hA' hB' c0 f0
    try simp only [Act.put, List.setIfInBounds_toArray, List.set_cons_zero, List.set_cons_succ]
    refine Till.one (i := 3) (by kernel_rfl) rfl (fun K hK => ?_)
    have c0 := hB2.2.1 0 _ rfl; have f0 := hB2.2.2 0
    have c1 := hB2.2.1 1 _ rfl; have f1 := hB2.2.2 1
    have c2 := hB2.2.1 2 _ rfl; have f2 := hB2.2.2 2
    have c3 := hB2.2.1 3 _ rfl; have f3 := hB2.2.2 3
    have c4 := hB2.2.1 4 _ rfl; have f4 := hB2.2.2 4
    have c5 := hB2.2.1 5 _ rfl; have f5 := hB2.2.2 5
    have c6 := hB2.2.1 6 _ rfl; have f6 := hB2.2.2 6
    have c7 := hB2.2.1 7 _ rfl; have f7 := hB2.2.2 7
    have c8 := hB2.2.1 8 _ rfl; have f8 := hB2.2.2 8
    go_simp
    refine hK.out _ _ (fun h => absurd h (by decide)) ?_
    clear hK hB2 c0 f0 c1 f1 c2 f2 c3 f3 c4 f4 c5 f5 c6 f6 c7 f7 c8 f8
    try simp only [Act.put, List.setIfInBounds_toArray, List.set_cons_zero, List.set_cons_succ]
    refine Till.done (by kernel_rfl) ?_ _
    simp only [numbered, setAt, Nat.zero_add, Nat.reduceAdd] at Tab'
    obtain ⟨g1, g2, hWA, hK1⟩ := Tab'
    have hK : Same2 w.heap.size (w.heap.size + 1) W _ := hK0.trans hK1 hKs
    have ra0 := g1.2.1 0 _ rfl
    have rb0 := g2.2.1 0 _ rfl
    have rb1 := g2.2.1 1 _ rfl
    have rb2 := g2.2.1 2 _ rfl
    have rb3 := g2.2.1 3 _ rfl
    have rb4 := g2.2.1 4 _ rfl
    have rb5 := g2.2.1 5 _ rfl
    have rb6 := g2.2.1 6 _ rfl
    have rb7 := g2.2.1 7 _ rfl
    have rb8 := g2.2.1 8 _ rfl
    go_wp2_with fail
    refine bodyPost_ret (v := .tuple #[.agg #[.slice a9 s9.syms.length c9], .agg #[.int .i64 y.kind, .string y.a.name, .slice a2 y.a.kids.length c2, .string y.b.name, .slice a4 y.b.kids.length c4, .slice a5 y.nums.length c5, .slice a6 y.times.length c6, .int .i64 y.bound, .bool y.strict]]) (by simp [results, Try.results8, go_sem, ra0, rb0, rb1, rb2, rb3, rb4, rb5, rb6, rb7, rb8]) rfl ?_
    exact ⟨⟨s9, y, a9, c9, a2, c2, a4, c4, a5, c5, a6, c6, f9, fy, ht, hs9, ha9, rfl, hrd9.same2 hK (fun b hb => by have := hf9 b hb; omega), hry9.same2 hK (fun b hb => by have := hfy b hb; omega)⟩, hWA⟩
end Go.Proofs.Ytlhochahokbonaa
