/- Parts of the proof: Mem. -/
import Derived.WalkKit
import Derived.Lib.Hide
section
namespace Go.Proofs.YtlefdhhnlbpbkaaGreat
open Go Go.RowKit
set_option linter.unusedVariables false
set_option linter.unusedSimpArgs false
set_option maxRecDepth 100000
set_option maxHeartbeats 16000000
theorem zej : type_of% @List.setIfInBounds_toArray := @List.setIfInBounds_toArray
theorem zek : type_of% @List.set_cons_zero := @List.set_cons_zero
theorem zel : type_of% @List.set_cons_succ := @List.set_cons_succ
theorem zem : type_of% @List.getElem?_cons_zero := @List.getElem?_cons_zero
theorem zen : type_of% @List.getElem?_cons_succ := @List.getElem?_cons_succ
theorem zeo : type_of% @List.getElem?_toArray := @List.getElem?_toArray
theorem zep : type_of% @Nat.lt_of_lt_of_le := @Nat.lt_of_lt_of_le
theorem zeq : type_of% @List.take_succ_eq_append_getElem := @List.take_succ_eq_append_getElem
theorem zer : type_of% @List.mem_append := @List.mem_append
theorem zes : type_of% @List.getElem_mem := @List.getElem_mem
theorem zet : type_of% @List.length_append := @List.length_append
theorem zeu : type_of% @List.map_append := @List.map_append
theorem zev : type_of% @List.mem_cons := @List.mem_cons
theorem zew : type_of% @List.length_map := @List.length_map
theorem zex : type_of% @Bool.and_eq_true := @Bool.and_eq_true
def I64 (n : Int) : Prop := -9223372036854775808 ≤ n ∧ n ≤ 9223372036854775807
theorem zZ {a b : ByteArray} : a.toList = b.toList ↔ a = b := by
 rw [ByteArray.toList_eq, ByteArray.toList_eq]
 constructor
 ·intro h; cases a; cases b; congr; exact Array.toList_inj.1 h
 ·rintro rfl; rfl
theorem retB {a b : Bool} (h : a = b) : Ending.returned (.bool a) = .returned (.bool b) := by rw [h]
theorem retI {k : IntKind} {a b : Int} (h : a = b) : Ending.returned (.int k a) = .returned (.int k b) := by rw [h]
/-- What a cell holds, as data. -/
inductive CD where
 | int (n : Int)
 | bool (b : Bool)
 | str (s : ByteArray)
 | sl (es : List (List CD))
def CellsAt (w : World) (b off : Nat) (vs : List Value) : Prop := ∀ j v, vs[j]? = some v → w.cell? ⟨b, off + j, none⟩ = some v
mutual
def Rd (w : World) : CD → Value → List Nat → Prop
 | .int n, v, fp => v = .int .i64 n ∧ I64 n ∧ fp = []
 | .bool b, v, fp => v = .bool b ∧ fp = []
 | .str s, v, fp => v = .string s ∧ s.size ≤ maxLen ∧ fp = []
 | .sl es, v, fp => ∃ a cap, v = .slice a es.length cap ∧ es.length ≤ cap ∧ cap ≤ maxLen ∧
   ((es = [] ∧ fp = []) ∨ (es ≠ [] ∧ ∃ b off f, a = some ⟨b, off, none⟩ ∧ b < w.heap.size ∧ fp = b :: f ∧ RdRows w b off es f))
def RdRows (w : World) (b off : Nat) : List (List CD) → List Nat → Prop
 | [], fp => fp = []
 | e :: es, fp => ∃ vs f1 f2, fp = f1 ++ f2 ∧ CellsAt w b off vs ∧ RdVs w e vs f1 ∧ RdRows w b (off + e.length) es f2
def RdVs (w : World) : List CD → List Value → List Nat → Prop
 | [], vs, fp => vs = [] ∧ fp = []
 | d :: ds, vs, fp => ∃ v vs' f1 f2, vs = v :: vs' ∧ fp = f1 ++ f2 ∧ Rd w d v f1 ∧ RdVs w ds vs' f2
end
/-- The blocks of fp hold in w' what they hold in w. -/
def SameOn (fp : List Nat) (w w' : World) : Prop := ∀ b, b ∈ fp → w'.heap[b]? = w.heap[b]?
theorem SameOn.mono {fp fq : List Nat} {w w' : World} (h : SameOn fp w w') (hs : ∀ b, b ∈ fq → b ∈ fp) : SameOn fq w w' := fun b hb => h b (hs b hb)
theorem SameOn.left {f g : List Nat} {w w' : World} (h : SameOn (f ++ g) w w') : SameOn f w w' := h.mono fun _ hb => List.mem_append_left _ hb
theorem SameOn.right {f g : List Nat} {w w' : World} (h : SameOn (f ++ g) w w') : SameOn g w w' := h.mono fun _ hb => List.mem_append_right _ hb
theorem SameOn.app {f g : List Nat} {w w' : World} (h : SameOn f w w') (h' : SameOn g w w') : SameOn (f ++ g) w w' := fun b hb => (zer.1 hb).elim (h b) (h' b)
theorem zdT {w w' : World} {b : Nat} (h : w'.heap[b]? = w.heap[b]?) (hb : b < w.heap.size) : b < w'.heap.size := by
 have : w.heap[b]? = some w.heap[b] := Array.getElem?_eq_getElem hb
 rw [this] at h
 exact (Array.getElem?_eq_some_iff.1 h).1
theorem CellsAt.same {w w' : World} {b off : Nat} {vs : List Value} (h : CellsAt w b off vs) (hb : w'.heap[b]? = w.heap[b]?) : CellsAt w' b off vs := fun j v hv => by
 rw [World.cell?_of_block (w := w) hb]; exact h j v hv
mutual
theorem Rd.same {w w' : World} : ∀ (d : CD) {v : Value} {fp : List Nat}, Rd w d v fp → SameOn fp w w' → Rd w' d v fp
 | .int n, v, fp, h, _ => by simpa only [Rd] using h
 | .bool b, v, fp, h, _ => by simpa only [Rd] using h
 | .str s, v, fp, h, _ => by simpa only [Rd] using h
 | .sl es, v, fp, h, hs => by
  simp only [Rd] at h ⊢
  obtain ⟨a, cap, h1, h2, h3, h4⟩ := h
  refine ⟨a, cap, h1, h2, h3, ?_⟩
  rcases h4 with h4 | ⟨hne, b, off, f, ha, hb, rfl, hr⟩
  ·exact .inl h4
  ·have hbb := hs b (by simp)
   exact .inr ⟨hne, b, off, f, ha, zdT hbb hb, rfl, RdRows.same es hr hbb (hs.mono fun x hx => List.mem_cons_of_mem _ hx)⟩
theorem RdRows.same {w w' : World} {b : Nat} : ∀ (es : List (List CD)) {off : Nat} {fp : List Nat}, RdRows w b off es fp → w'.heap[b]? = w.heap[b]? → SameOn fp w w' → RdRows w' b off es fp
 | [], off, fp, h, _, _ => by simpa only [RdRows] using h
 | e :: es, off, fp, h, hb, hs => by
  simp only [RdRows] at h ⊢
  obtain ⟨vs, f1, f2, rfl, hc, hv, hr⟩ := h
  exact ⟨vs, f1, f2, rfl, hc.same hb, RdVs.same e hv hs.left, RdRows.same es hr hb hs.right⟩
theorem RdVs.same {w w' : World} : ∀ (ds : List CD) {vs : List Value} {fp : List Nat}, RdVs w ds vs fp → SameOn fp w w' → RdVs w' ds vs fp
 | [], vs, fp, h, _ => by simpa only [RdVs] using h
 | d :: ds, vs, fp, h, hs => by
  simp only [RdVs] at h ⊢
  obtain ⟨v, vs', f1, f2, rfl, rfl, hd, hr⟩ := h
  exact ⟨v, vs', f1, f2, rfl, rfl, Rd.same d hd hs.left, RdVs.same ds hr hs.right⟩
end
mutual
theorem Rd.lt {w : World} : ∀ (d : CD) {v : Value} {fp : List Nat}, Rd w d v fp → ∀ b, b ∈ fp → b < w.heap.size
 | .int n, v, fp, h, b, hb => by simp only [Rd] at h; rw [h.2.2] at hb; simp at hb
 | .bool _, v, fp, h, b, hb => by simp only [Rd] at h; rw [h.2] at hb; simp at hb
 | .str s, v, fp, h, b, hb => by simp only [Rd] at h; rw [h.2.2] at hb; simp at hb
 | .sl es, v, fp, h, b, hb => by
  simp only [Rd] at h
  obtain ⟨a, cap, h1, h2, h3, h4⟩ := h
  rcases h4 with ⟨_, rfl⟩ | ⟨hne, b', off, f, ha, hb', rfl, hr⟩
  ·simp at hb
  ·rcases zev.1 hb with rfl | hb
   ·exact hb'
   ·exact RdRows.lt es hr b hb
theorem RdRows.lt {w : World} {b' : Nat} : ∀ (es : List (List CD)) {off : Nat} {fp : List Nat}, RdRows w b' off es fp → ∀ b, b ∈ fp → b < w.heap.size
 | [], off, fp, h, b, hb => by simp only [RdRows] at h; rw [h] at hb; simp at hb
 | e :: es, off, fp, h, b, hb => by
  simp only [RdRows] at h
  obtain ⟨vs, f1, f2, rfl, hc, hv, hr⟩ := h
  exact (zer.1 hb).elim (RdVs.lt e hv b) (RdRows.lt es hr b)
theorem RdVs.lt {w : World} : ∀ (ds : List CD) {vs : List Value} {fp : List Nat}, RdVs w ds vs fp → ∀ b, b ∈ fp → b < w.heap.size
 | [], vs, fp, h, b, hb => by simp only [RdVs] at h; rw [h.2] at hb; simp at hb
 | d :: ds, vs, fp, h, b, hb => by
  simp only [RdVs] at h
  obtain ⟨v, vs', f1, f2, rfl, rfl, hd, hr⟩ := h
  exact (zer.1 hb).elim (Rd.lt d hd b) (RdVs.lt ds hr b)
end
theorem zF {w w' : World} {B : Nat} (h : Below B w w') {fp : List Nat} (hf : ∀ b, b ∈ fp → b < B) : SameOn fp w w' := fun b hb => h.block b (hf b hb)
theorem Rd.below {w w' : World} {d : CD} {v : Value} {fp : List Nat} (h : Rd w d v fp) (hb : Below w.heap.size w w') : Rd w' d v fp := h.same d (zF hb (h.lt d))
theorem RdVs.below {w w' : World} {d : List CD} {v : List Value} {fp : List Nat} (h : RdVs w d v fp) (hb : Below w.heap.size w w') : RdVs w' d v fp := h.same d (zF hb (h.lt d))
theorem RdVs.belowB {w w' : World} {B : Nat} {d : List CD} {v : List Value} {fp : List Nat} (h : RdVs w d v fp) (hb : Below B w w') (hf : ∀ b, b ∈ fp → b < B) : RdVs w' d v fp := h.same d (zF hb hf)
theorem RdVs.length {w : World} : ∀ {ds : List CD} {vs : List Value} {fp : List Nat}, RdVs w ds vs fp → vs.length = ds.length
 | [], _, _, h => by simp only [RdVs] at h; simp [h.1]
 | d :: ds, _, _, h => by
  simp only [RdVs] at h
  obtain ⟨v, vs', f1, f2, rfl, rfl, hd, hr⟩ := h
  simp [RdVs.length hr]
theorem RdVs.app {w : World} : ∀ {ds es : List CD} {vs us : List Value} {f g : List Nat}, RdVs w ds vs f → RdVs w es us g → RdVs w (ds ++ es) (vs ++ us) (f ++ g)
 | [], es, _, us, _, g, h, h' => by simp only [RdVs] at h; obtain ⟨rfl, rfl⟩ := h; simpa using h'
 | d :: ds, es, _, us, _, g, h, h' => by
  simp only [RdVs] at h
  obtain ⟨v, vs', f1, f2, rfl, rfl, hd, hr⟩ := h
  simp only [List.cons_append, RdVs]
  exact ⟨v, vs' ++ us, f1, f2 ++ g, rfl, by simp, hd, hr.app h'⟩
theorem RdVs.split {w : World} : ∀ {ds es : List CD} {vs : List Value} {fp : List Nat}, RdVs w (ds ++ es) vs fp → ∃ us us' f g, vs = us ++ us' ∧ fp = f ++ g ∧ RdVs w ds us f ∧ RdVs w es us' g
 | [], es, vs, fp, h => ⟨[], vs, [], fp, rfl, rfl, by simp only [RdVs]; exact ⟨trivial, trivial⟩, h⟩
 | d :: ds, es, vs, fp, h => by
  simp only [List.cons_append, RdVs] at h
  obtain ⟨v, vs', f1, f2, rfl, rfl, hd, hr⟩ := h
  obtain ⟨us, us', f, g, rfl, rfl, h1, h2⟩ := hr.split
  refine ⟨v :: us, us', f1 ++ f, g, rfl, by simp, ?_, h2⟩
  simp only [RdVs]
  exact ⟨v, us, f1, f, rfl, rfl, hd, h1⟩
theorem RdVs.single {w : World} {d : CD} {v : Value} {fp : List Nat} (h : Rd w d v fp) : RdVs w [d] [v] fp := by
 simp only [RdVs]; exact ⟨v, [], fp, [], rfl, by simp, h, rfl, rfl⟩
mutual
theorem Rd.one {w : World} : ∀ (d : CD) {v : Value} {fp : List Nat}, Rd w d v fp → v.oneCell' = true
 | .int n, v, fp, h => by simp only [Rd] at h; rw [h.1]; rfl
 | .bool _, v, fp, h => by simp only [Rd] at h; rw [h.1]; rfl
 | .str s, v, fp, h => by simp only [Rd] at h; rw [h.1]; rfl
 | .sl es, v, fp, h => by simp only [Rd] at h; obtain ⟨a, cap, rfl, _⟩ := h; rfl
end
theorem RdVs.one {w : World} : ∀ {ds : List CD} {vs : List Value} {fp : List Nat}, RdVs w ds vs fp → ∀ u, u ∈ vs → u.oneCell' = true
 | [], _, _, h, u, hu => by simp only [RdVs] at h; rw [h.1] at hu; simp at hu
 | d :: ds, _, _, h, u, hu => by
  simp only [RdVs] at h
  obtain ⟨v, vs', f1, f2, rfl, rfl, hd, hr⟩ := h
  rcases zev.1 hu with rfl | hu
  ·exact hd.one d
  ·exact hr.one u hu
/-- Reading a slice: its address, its rows. -/
theorem Rd.sl_form {w : World} {es : List (List CD)} {v : Value} {fp : List Nat} (h : Rd w (.sl es) v fp) : ∃ a cap, v = .slice a es.length cap ∧ es.length ≤ cap ∧ cap ≤ 9223372036854775807 := by
 simp only [Rd] at h
 obtain ⟨a, cap, h1, h2, h3, _⟩ := h
 exact ⟨a, cap, h1, h2, by simpa [maxLen] using h3⟩
theorem Rd.addr {w : World} {es : List (List CD)} {a : Option Addr} {n cap : Nat} {fp : List Nat} (h : Rd w (.sl es) (.slice a n cap) fp) (hne : 0 < es.length) :
  ∃ b off f, a = some ⟨b, off, none⟩ ∧ b < w.heap.size ∧ fp = b :: f ∧ RdRows w b off es f := by
 simp only [Rd] at h
 obtain ⟨a', cap', h1, h2, h3, h4⟩ := h
 rcases h4 with ⟨rfl, _⟩ | ⟨_, b, off, f, rfl, hb, rfl, hr⟩
 ·simp at hne
 ·simp only [Value.slice.injEq] at h1
  exact ⟨b, off, f, h1.1, hb, rfl, hr⟩
theorem RdRows.at {w : World} {b k : Nat} : ∀ {es : List (List CD)} {off : Nat} {fp : List Nat}, RdRows w b off es fp → (∀ e ∈ es, e.length = k) → ∀ (i : Nat) (hi : i < es.length),
  ∃ vs f, CellsAt w b (off + i * k) vs ∧ RdVs w es[i] vs f ∧ ∀ x ∈ f, x ∈ fp
 | [], off, fp, h, hk, i, hi => by simp at hi
 | e :: es, off, fp, h, hk, i, hi => by
  simp only [RdRows] at h
  obtain ⟨vs, f1, f2, rfl, hc, hv, hr⟩ := h
  cases i with
  | zero => exact ⟨vs, f1, by simpa using hc, by simpa using hv, fun x hx => List.mem_append_left _ hx⟩
  | succ i =>
   obtain ⟨vs', f, h1, h2, h3⟩ := hr.at (fun e he => hk e (List.mem_cons_of_mem _ he)) i (by simpa using hi)
   have he : e.length = k := hk e (by simp)
   refine ⟨vs', f, ?_, by simpa using h2, fun x hx => List.mem_append_right _ (h3 x hx)⟩
   rw [he] at h1
   rw [show off + (i + 1) * k = off + k + i * k from by rw [Nat.add_mul]; omega]
   exact h1
theorem Rd.row {w : World} {es : List (List CD)} {b off n cap k : Nat} {fp : List Nat} (h : Rd w (.sl es) (.slice (some ⟨b, off, none⟩) n cap) fp) (hk : ∀ e ∈ es, e.length = k) (i : Nat) (hi : i < es.length) :
  ∃ vs f, CellsAt w b (off + i * k) vs ∧ RdVs w es[i] vs f ∧ ∀ x ∈ f, x ∈ fp := by
 obtain ⟨b', off', f, h1, h2, rfl, h4⟩ := h.addr (by omega)
 simp only [Option.some.injEq, Addr.mk.injEq, and_true] at h1
 obtain ⟨rfl, rfl⟩ := h1
 obtain ⟨vs, f', h5, h6, h7⟩ := h4.at hk i hi
 exact ⟨vs, f', h5, h6, fun x hx => List.mem_cons_of_mem _ (h7 x hx)⟩
/-- The whole slice as one list of cells. -/
theorem RdRows.flat {w : World} {b : Nat} : ∀ {es : List (List CD)} {off : Nat} {fp : List Nat}, RdRows w b off es fp → ∃ vs, CellsAt w b off vs ∧ RdVs w es.flatten vs fp
 | [], off, fp, h => by simp only [RdRows] at h; exact ⟨[], fun j v hv => by simp at hv, by simp [RdVs, h]⟩
 | e :: es, off, fp, h => by
  simp only [RdRows] at h
  obtain ⟨vs, f1, f2, rfl, hc, hv, hr⟩ := h
  obtain ⟨us, h1, h2⟩ := hr.flat
  refine ⟨vs ++ us, ?_, by simpa using hv.app h2⟩
  intro j v hj
  have hl := hv.length
  by_cases hjl : j < vs.length
  ·rw [List.getElem?_append_left hjl] at hj; exact hc j v hj
  ·rw [List.getElem?_append_right (by omega)] at hj
   have := h1 _ _ hj
   rw [show off + e.length + (j - vs.length) = off + j from by omega] at this
   exact this
theorem RdRows.mk {w : World} {b k : Nat} : ∀ {es : List (List CD)} {off : Nat} {vs : List Value} {fp : List Nat}, CellsAt w b off vs → RdVs w es.flatten vs fp → RdRows w b off es fp
 | [], off, vs, fp, _, h => by simp [RdVs] at h; simp [RdRows, h]
 | e :: es, off, vs, fp, hc, h => by
  rw [List.flatten_cons] at h
  obtain ⟨us, us', f, g, rfl, rfl, h1, h2⟩ := h.split
  simp only [RdRows]
  refine ⟨us, f, g, rfl, fun j v hv => hc j v ?_, h1, RdRows.mk (vs := us') (k := k) (fun j v hv => ?_) h2⟩
  ·rw [List.getElem?_append_left (List.getElem?_eq_some_iff.1 hv).1]; exact hv
  ·have := hc (us.length + j) v (by rw [List.getElem?_append_right (by omega)]; simpa using hv)
   rw [← h1.length, Nat.add_assoc]; exact this
/-- A row that the call itself has made and goes on writing: the value v, the elements es; the blocks that the elements lead to are other ones. -/
def Own (w : World) (base : Nat) (e : TypeId) (k : Nat) (v : Value) (es : List (List CD)) (fp : List Nat) : Prop :=
 ∃ xs, w.ownsRow base e k v es.length xs ∧ RdVs w es.flatten xs fp ∧ (∀ x ∈ es, x.length = k) ∧ ∀ b ∈ fp, v.ownBlock ≠ some b
theorem Own.nil (w : World) (base : Nat) (e : TypeId) (k : Nat) : Own w base e k (.slice none 0 0) [] [] :=
 ⟨[], World.ownsRow_nil w base e k, by simp [RdVs], by simp, by simp⟩
theorem Own.form {w : World} {base e k : Nat} {v : Value} {es : List (List CD)} {fp : List Nat} (h : Own w base e k v es fp) : ∃ a cap, v = .slice a es.length cap ∧ es.length ≤ cap ∧ cap ≤ 9223372036854775807 := by
 obtain ⟨xs, ⟨_, ⟨rfl, h1⟩ | ⟨g, cap, cur, rfl, _, _, h2, h3, _⟩⟩, _⟩ := h
 ·exact ⟨none, 0, by rw [h1], by omega, by omega⟩
 ·exact ⟨_, cap, rfl, h2, by simpa [maxLen] using h3⟩
theorem Own.form' {w : World} {base e k : Nat} {v : Value} {es : List (List CD)} {fp : List Nat} (h : Own w base e k v es fp) : ∃ a n cap, v = .slice a n cap := by obtain ⟨a, c, h, _⟩ := h.form; exact ⟨a, _, c, h⟩
theorem Own.lt {w : World} {base e k : Nat} {v : Value} {es : List (List CD)} {fp : List Nat} (h : Own w base e k v es fp) : ∀ b ∈ fp, b < w.heap.size := by
 obtain ⟨xs, _, h2, _⟩ := h
 exact h2.lt _
theorem Own.block {w : World} {base e k : Nat} {v : Value} {es : List (List CD)} {fp : List Nat} (h : Own w base e k v es fp) {b : Nat} (hb : v.ownBlock = some b) : base ≤ b ∧ b < w.heap.size := by
 obtain ⟨xs, h1, _⟩ := h
 exact h1.lt b hb
theorem Own.same {w w' : World} {base e k : Nat} {v : Value} {es : List (List CD)} {fp : List Nat} (h : Own w base e k v es fp) (hs : SameOn fp w w') (hv : ∀ b, v.ownBlock = some b → w'.heap[b]? = w.heap[b]?) : Own w' base e k v es fp := by
 obtain ⟨xs, h1, h2, h3, h4⟩ := h
 refine ⟨xs, ⟨h1.1, ?_⟩, h2.same _ hs, h3, h4⟩
 rcases h1.2 with hn | ⟨g, cap, cur, rfl, hg, hh, rest⟩
 ·exact .inl hn
 ·exact .inr ⟨g, cap, cur, rfl, hg, (hv g rfl).trans hh, rest⟩
theorem Own.below {w w' : World} {base e k : Nat} {v : Value} {es : List (List CD)} {fp : List Nat} (h : Own w base e k v es fp) (hb : Below w.heap.size w w') : Own w' base e k v es fp :=
 h.same (zF hb h.lt) fun b hv => hb.block b (h.block hv).2
/-- The finished row, read. -/
theorem Own.rd {w : World} {base e k : Nat} {v : Value} {es : List (List CD)} {fp : List Nat} (h : Own w base e k v es fp) :
  ∃ fp', Rd w (.sl es) v fp' ∧ ((es = [] ∧ fp = [] ∧ fp' = []) ∨ ∃ b c, v.ownBlock = some b ∧ fp' = b :: fp ∧ b ∉ fp ∧ base ≤ b ∧ w.heap[b]? = some (.cells c e (0, 0))) := by
 obtain ⟨xs, h1, h2, h3, h4⟩ := h
 by_cases hne : es = []
 ·subst hne
  simp [RdVs] at h2
  obtain ⟨rfl, rfl⟩ := h2
  rcases h1.2 with ⟨rfl, _⟩ | ⟨g, cap, cur, rfl, hbg, hg, hnc, hcm, hcs, ht⟩
  ·exact ⟨[], by simp only [Rd]; exact ⟨none, 0, rfl, by simp, by simp [maxLen], by simp⟩, .inl ⟨rfl, rfl, rfl⟩⟩
  ·exact ⟨[], by simp only [Rd]; exact ⟨_, cap, rfl, by simp, hcm, by simp⟩, .inl ⟨rfl, rfl, rfl⟩⟩
 ·rcases h1.2 with ⟨rfl, h0⟩ | ⟨g, cap, cur, rfl, hbg, hg, hnc, hcm, hcs, ht⟩
  ·exact absurd (List.eq_nil_of_length_eq_zero h0) hne
  ·refine ⟨g :: fp, ?_, .inr ⟨g, cur, rfl, rfl, fun hm => h4 g hm rfl, hbg, hg⟩⟩
   simp only [Rd]
   refine ⟨_, cap, rfl, hnc, hcm, .inr ⟨hne, g, 0, fp, rfl, (Array.getElem?_eq_some_iff.1 hg).1, rfl, ?_⟩⟩
   refine RdRows.mk (k := k) (vs := xs) (fun j u hj => ?_) h2
   have := h1.cells (g := g) rfl j u hj
   simpa [Addr.add_lit] using this
theorem Own.rd' {w : World} {base e k : Nat} {v : Value} {es : List (List CD)} {fp : List Nat} (h : Own w base e k v es fp) : ∃ fp', Rd w (.sl es) v fp' := by
 obtain ⟨f, h, _⟩ := h.rd; exact ⟨f, h⟩
/-- What a slice's type is made of. -/
structure SlTy (P : Program) (t e : TypeId) (z : Value) (k bytes : Nat) : Prop where
 und : P.underlying t = some (.slice e)
 info : (P.info? e).map (fun i => (i.zero, i.size, i.bytes)) = some (some z, k, bytes)
 size : z.cells.size = k
 pos : 0 < k
theorem zQ (w : World) (r : Option Nat) : w.grownBy w r := ⟨rfl, rfl, rfl, Nat.le_refl _, fun _ _ _ => rfl⟩
/-- append to a row of the call's own: as the kit's 'run_append_own', and where the row lies behind it. -/
theorem zda {P : Program} {t e : TypeId} {z : Value} {k bytes : Nat} (hT : SlTy P t e z k bytes) (w : World) (ty : TypeId) (base : Nat) (v : Value) (n : Nat) (xs : List Value) (hown : w.ownsRow base e k v n xs)
  (a : Addr) (m c : Nat) (news : List Value) (hl : news.length = m * k) (hnews : ∀ j u, news[j]? = some u → w.cell? (a.add j) = some u) (h1 : ∀ u ∈ news, u.oneCell' = true)
  (h63 : n + m ≤ maxLen) (hbytes : (n + m) * bytes ≤ 140737488355328) (hbase : base ≤ w.heap.size) :
  ∃ v' w', (Builtin.append_ #[t, t] ty #[v, .slice (some a) m c]).run P w = .ok v' w' ∧ w'.ownsRow base e k v' (n + m) (xs ++ news) ∧ w.grownBy w' v.ownBlock ∧
   ∀ b, v'.ownBlock = some b → v.ownBlock = some b ∨ w.heap.size ≤ b := by
 obtain ⟨i, hi, hz, hs, hb⟩ := info_parts hT.info
 rcases hown.2 with ⟨rfl, rfl⟩ | ⟨g, cap, cur, rfl, hbg, hg, hnc, hcm, hcs, htake⟩
 ·have hx : xs = [] := List.eq_nil_of_length_eq_zero (by simpa using hown.1)
  subst hx
  obtain ⟨v', w', hr, h2, h3, _⟩ := run_append_own (P := P) w w.heap.size t ty e i z k bytes hT.und hi hz hs hb hT.size hT.pos _ 0 [] (World.ownsRow_nil w w.heap.size e k) a m c news hl hnews h1 h63 hbytes (Nat.le_refl _)
  refine ⟨v', w', hr, ⟨h2.1, ?_⟩, h3, fun b hb => .inr (h2.lt b hb).1⟩
  rcases h2.2 with h | ⟨g, cap, cur, hv, hg, rest⟩
  ·exact .inl h
  ·exact .inr ⟨g, cap, cur, hv, by omega, rest⟩
 ·by_cases hroom : n + m ≤ cap
  ·obtain ⟨w', hr, h2, h3⟩ := run_append_fits (P := P) w base t ty e i k hT.und hi hs g n cap xs hown a m c news hl hnews h1 hroom
   exact ⟨_, w', hr, h2, h3, fun b hb => .inl hb⟩
  ·obtain ⟨v', w', hr, h2, h3, _⟩ := run_append_own (P := P) w base t ty e i z k bytes hT.und hi hz hs hb hT.size hT.pos _ n xs hown a m c news hl hnews h1 h63 hbytes hbase
   refine ⟨v', w', hr, h2, h3, fun b hbv => .inr ?_⟩
   have hsm : n + m ≤ 9223372036854775807 := by simpa [maxLen] using h63
   have hr2 := run_append_grow (P := P) w t ty e i z hT.und hi hz ⟨g, 0, none⟩ n cap xs (by rw [hs]; exact hown.1) (hown.cells (g := g) rfl) a m c news (by rw [hs]; exact hl) hnews (by omega) (by omega) (by rw [hb]; exact growslice_fits (by omega) hbytes)
   rw [hr] at hr2
   injection hr2 with e1 e2
   subst e1
   simp only [Value.ownBlock, Option.some.injEq] at hbv
   omega
theorem Own.appended {w w' : World} {base e k : Nat} {v v' : Value} {es news : List (List CD)} {fp nfp : List Nat} {xs nvs : List Value} (h2 : RdVs w es.flatten xs fp) (h3 : ∀ x ∈ es, x.length = k) (h4 : ∀ b ∈ fp, v.ownBlock ≠ some b)
  (hn : RdVs w news.flatten nvs nfp) (hnk : ∀ x ∈ news, x.length = k) (hna : ∀ b ∈ nfp, v.ownBlock ≠ some b) (ho : w'.ownsRow base e k v' (es ++ news).length (xs ++ nvs)) (hg : w.grownBy w' v.ownBlock)
  (hv : ∀ b, v'.ownBlock = some b → v.ownBlock = some b ∨ w.heap.size ≤ b) : Own w' base e k v' (es ++ news) (fp ++ nfp) := by
 have hlt1 := h2.lt
 have hlt2 := hn.lt
 have s1 : SameOn fp w w' := fun b hb => hg.block b (hlt1 b hb) (fun he => h4 b hb he.symm)
 have s2 : SameOn nfp w w' := fun b hb => hg.block b (hlt2 b hb) (fun he => hna b hb he.symm)
 refine ⟨_, ho, by rw [List.flatten_append]; exact (h2.same _ s1).app (hn.same _ s2), fun x hx => (zer.1 hx).elim (h3 x) (hnk x), fun b hb hvb => ?_⟩
 rcases zer.1 hb with hb | hb
 ·rcases hv b hvb with h | h
  ·exact h4 b hb h
  ·have := hlt1 b hb; omega
 ·rcases hv b hvb with h | h
  ·exact hna b hb h
  ·have := hlt2 b hb; omega
/-- append, in the walk. -/
theorem zp {P : Program} {t e : TypeId} {z : Value} {k bytes : Nat} (hT : SlTy P t e z k bytes) {w : World} {ops : Array Oper} {rest : List Oper} {o : Oper} {a : Act} {Q : Exit → Act → World → Prop} (hgd : o.guard = none) (s x : Operand)
  (ho : o.op = .call { callee := .builtin .append, args := #[s, x], argTypes := #[t, t] })
  (base : Nat) (v : Value) (es : List (List CD)) (fp : List Nat) (hs : a.eval s = v) (hown : Own w base e k v es fp)
  (ad : Addr) (m c : Nat) (news : List (List CD)) (nvs : List Value) (nfp : List Nat) (hx : a.eval x = .slice (some ad) m c) (hm : m = news.length) (hrd : RdVs w news.flatten nvs nfp) (hnk : ∀ x ∈ news, x.length = k)
  (hnews : ∀ j u, nvs[j]? = some u → w.cell? (ad.add j) = some u) (hna : ∀ b ∈ nfp, v.ownBlock ≠ some b)
  (hbytes : (es.length + m) * bytes ≤ 140737488355328) (hlen : es.length + m ≤ 140737488355328) (hbase : base ≤ w.heap.size)
  (h : ∀ v' w', Own w' base e k v' (es ++ news) (fp ++ nfp) → w.grownBy w' v.ownBlock → (∀ b, v'.ownBlock = some b → v.ownBlock = some b ∨ w.heap.size ≤ b) → SameOn (fp ++ nfp) w w' → wpList P ops Q rest (a.put o.dst v') w') : wpList P ops Q (o :: rest) a w := by
 obtain ⟨xs, h1, h2, h3, h4⟩ := hown
 have hl : nvs.length = m * k := by
  rw [hrd.length, hm]
  clear h hm hrd hnews hna hx hbytes hlen
  induction news with
  | nil => simp
  | cons e es ih => rw [List.flatten_cons, zet, ih (fun x hx => hnk x (List.mem_cons_of_mem _ hx)), hnk e (by simp), List.length_cons, Nat.add_mul]; omega
 obtain ⟨v', w', hr, g1, g2, g3⟩ := zda hT w o.type base v es.length xs h1 ad m c nvs hl hnews hrd.one (by simp [maxLen]; omega) hbytes hbase
 refine wpList_plain hgd fun K hK => ?_
 unfold Oper.wp execOp
 simp only [ho, resolve, invoke, builtin, Sem.run_bind, Sem.run_pure, Result.andThen_ok, List.map_toArray, List.map_cons, List.map_nil, hs, hx, hr]
 refine hK _ _ (h v' w' ?_ g2 g3 ?_)
 ·subst hm
  exact Own.appended h2 h3 h4 hrd hnk hna (by rw [zet]; exact g1) g2 g3
 ·exact fun b hb => g2.block b ((zer.1 hb).elim (h2.lt _ b) (hrd.lt _ b)) fun he => (zer.1 hb).elim (fun hb => h4 b hb he.symm) (fun hb => hna b hb he.symm)
/-- The blocks that a call lays first (its boxed parameters), in a later world. -/
theorem zv (w : World) (cs : Array Value) (T j : Nat) : (w.alloc (.cells cs T)).cell? ⟨w.heap.size, j, none⟩ = cs[j]? := by
 unfold World.cell?; simp only [heap_alloc_new]; rfl
theorem zdy (w : World) (o : Obj) (b j : Nat) (h : b < w.heap.size) : (w.alloc o).cell? ⟨b, j, none⟩ = w.cell? ⟨b, j, none⟩ := by
 unfold World.cell?; simp only [heap_alloc_old w o h]
theorem box1 {w wr : World} {cs : Array Value} {T : Nat} (hb : Below (w.heap.size + 1) (w.alloc (.cells cs T)) wr) :
  (∀ j, wr.cell? ⟨w.heap.size, j, none⟩ = cs[j]?) ∧ w.heap.size + 1 ≤ wr.heap.size ∧ Below w.heap.size w wr := by
 refine ⟨fun j => ?_, by simpa using hb.size, ((Below.refl _ _).alloc (Nat.le_refl _) _).trans (hb.mono (by omega))⟩
 rw [hb.cell (p := ⟨w.heap.size, j, none⟩) (by simp)]; exact zv w cs T j
theorem box2 {w wr : World} {cs ds : Array Value} {T U : Nat} (hb : Below (w.heap.size + 1 + 1) ((w.alloc (.cells cs T)).alloc (.cells ds U)) wr) :
  (∀ j, wr.cell? ⟨w.heap.size, j, none⟩ = cs[j]?) ∧ (∀ j, wr.cell? ⟨w.heap.size + 1, j, none⟩ = ds[j]?) ∧ w.heap.size + 1 + 1 ≤ wr.heap.size ∧ Below w.heap.size w wr := by
 refine ⟨fun j => ?_, fun j => ?_, by simpa using hb.size, (((Below.refl _ _).alloc (Nat.le_refl _) _).alloc (by simp) _).trans (hb.mono (by omega))⟩
 ·rw [hb.cell (p := ⟨w.heap.size, j, none⟩) (by simp; omega), zdy _ _ _ _ (by simp)]; exact zv w cs T j
 ·rw [hb.cell (p := ⟨w.heap.size + 1, j, none⟩) (by simp)]
  have := zv (w.alloc (.cells cs T)) ds U j
  rw [World.size_alloc] at this
  exact this
theorem zbe {B : Nat} {w w' : World} (h : Below B w.drew w') : Below B w w' := ⟨h.os, h.tape, h.output, h.size, h.block⟩
theorem zb (w : World) (o : Obj) : Below w.heap.size w (w.alloc o) := (Below.refl _ _).alloc (Nat.le_refl _) _
theorem zh {w w' : World} (h : Below w.drew.heap.size w.drew w') : Below w.heap.size w w' := ⟨h.os, h.tape, h.output, h.size, h.block⟩
theorem zi (w : World) : Below w.heap.size w w.drew := (Below.refl _ _).drew
/-- append, as one step of a region that draws its order. -/
theorem zN {P : Program} {t e : TypeId} {z : Value} {k bytes : Nat} (hT : SlTy P t e z k bytes) {w : World} {ops : Array Oper} {o : Oper} {a : Act} {K : Act → World → Prop} {Q : Exit → Act → World → Prop} {E : Prop} (hgd : o.guard = none) (s x : Operand)
  (ho : o.op = .call { callee := .builtin .append, args := #[s, x], argTypes := #[t, t] })
  (base : Nat) (v : Value) (es : List (List CD)) (fp : List Nat) (hs : a.eval s = v) (hown : Own w base e k v es fp)
  (ad : Addr) (m c : Nat) (news : List (List CD)) (nvs : List Value) (nfp : List Nat) (hx : a.eval x = .slice (some ad) m c) (hm : m = news.length) (hrd : RdVs w news.flatten nvs nfp) (hnk : ∀ x ∈ news, x.length = k)
  (hnews : ∀ j u, nvs[j]? = some u → w.cell? (ad.add j) = some u) (hna : ∀ b ∈ nfp, v.ownBlock ≠ some b)
  (hbytes : (es.length + m) * bytes ≤ 140737488355328) (hlen : es.length + m ≤ 140737488355328) (hbase : base ≤ w.heap.size)
  (h : ∀ v' w', Own w' base e k v' (es ++ news) (fp ++ nfp) → w.grownBy w' v.ownBlock → (∀ b, v'.ownBlock = some b → v.ownBlock = some b ∨ w.heap.size ≤ b) → SameOn (fp ++ nfp) w w' → K (a.put o.dst v') w') : if Region.wanted o (yielded ops a.tmps) = true then Oper.wp P o a w K Q else E := by
 have hw : Region.wanted o (yielded ops a.tmps) = true := by simp [Region.wanted, hgd]
 rw [if_pos hw]
 obtain ⟨xs, h1, h2, h3, h4⟩ := hown
 have hl : nvs.length = m * k := by
  rw [hrd.length, hm]
  clear h hm hrd hnews hna hx hbytes hlen
  induction news with
  | nil => simp
  | cons e es ih => rw [List.flatten_cons, zet, ih (fun x hx => hnk x (List.mem_cons_of_mem _ hx)), hnk e (by simp), List.length_cons, Nat.add_mul]; omega
 obtain ⟨v', w', hr, g1, g2, g3⟩ := zda hT w o.type base v es.length xs h1 ad m c nvs hl hnews hrd.one (by simp [maxLen]; omega) hbytes hbase
 unfold Oper.wp execOp
 simp only [ho, resolve, invoke, builtin, Sem.run_bind, Sem.run_pure, Result.andThen_ok, List.map_toArray, List.map_cons, List.map_nil, hs, hx, hr]
 refine h v' w' ?_ g2 g3 ?_
 ·subst hm
  exact Own.appended h2 h3 h4 hrd hnk hna (by rw [zet]; exact g1) g2 g3
 ·exact fun b hb => g2.block b ((zer.1 hb).elim (h2.lt _ b) (hrd.lt _ b)) fun he => (zer.1 hb).elim (fun hb => h4 b hb he.symm) (fun hb => hna b hb he.symm)
/-- Blocks of the call's own: each once, from 'lo' on, rows of cells that may be written. -/
def Fresh (lo : Nat) (w : World) (fp : List Nat) : Prop := fp.Nodup ∧ ∀ b ∈ fp, lo ≤ b ∧ ∃ c e, w.heap[b]? = some (.cells c e (0, 0))
theorem Fresh.nil (lo : Nat) (w : World) : Fresh lo w [] := ⟨List.nodup_nil, by simp⟩
theorem Fresh.lt {lo : Nat} {w : World} {fp : List Nat} (h : Fresh lo w fp) : ∀ b ∈ fp, b < w.heap.size := fun b hb => by
 obtain ⟨_, c, e, h1⟩ := h.2 b hb; exact (Array.getElem?_eq_some_iff.1 h1).1
theorem Fresh.same {lo : Nat} {w w' : World} {fp : List Nat} (h : Fresh lo w fp) (hs : SameOn fp w w') : Fresh lo w' fp :=
 ⟨h.1, fun b hb => by obtain ⟨h0, c, e, h1⟩ := h.2 b hb; exact ⟨h0, c, e, (hs b hb).trans h1⟩⟩
theorem Fresh.below {lo : Nat} {w w' : World} {fp : List Nat} (h : Fresh lo w fp) (hb : Below w.heap.size w w') : Fresh lo w' fp := h.same (zF hb h.lt)
theorem Fresh.mono {lo lo' : Nat} {w : World} {fp : List Nat} (h : Fresh lo w fp) (hl : lo' ≤ lo) : Fresh lo' w fp :=
 ⟨h.1, fun b hb => ⟨Nat.le_trans hl (h.2 b hb).1, (h.2 b hb).2⟩⟩
theorem Fresh.app {lo mid : Nat} {w : World} {f g : List Nat} (h : Fresh lo w f) (hm : ∀ b ∈ f, b < mid) (hl : lo ≤ mid) (h' : Fresh mid w g) : Fresh lo w (f ++ g) := by
 refine ⟨List.nodup_append.2 ⟨h.1, h'.1, fun a ha b hb e => ?_⟩, fun b hb => (zer.1 hb).elim (h.2 b) (fun hb => ⟨Nat.le_trans hl (h'.2 b hb).1, (h'.2 b hb).2⟩)⟩
 have := hm a ha; have := (h'.2 b hb).1; omega
theorem Fresh.left {lo : Nat} {w : World} {f g : List Nat} (h : Fresh lo w (f ++ g)) : Fresh lo w f := ⟨(List.nodup_append.1 h.1).1, fun b hb => h.2 b (List.mem_append_left _ hb)⟩
theorem Fresh.right {lo : Nat} {w : World} {f g : List Nat} (h : Fresh lo w (f ++ g)) : Fresh lo w g := ⟨(List.nodup_append.1 h.1).2.1, fun b hb => h.2 b (List.mem_append_right _ hb)⟩
/-- The finished row of the call's own. -/
theorem Own.fresh {w : World} {base e k : Nat} {v : Value} {es : List (List CD)} {fp : List Nat} (h : Own w base e k v es fp) (hf : Fresh base w fp) : ∃ fp', Rd w (.sl es) v fp' ∧ Fresh base w fp' ∧ ∀ b ∈ fp', b ∈ fp ∨ v.ownBlock = some b := by
 obtain ⟨fp', h1, ⟨rfl, rfl, rfl⟩ | ⟨b, c, hv, rfl, hnb, hb, hc⟩⟩ := h.rd
 ·exact ⟨[], h1, Fresh.nil _ _, by simp⟩
 ·exact ⟨b :: fp, h1, ⟨List.nodup_cons.2 ⟨hnb, hf.1⟩, fun x hx => (zev.1 hx).elim (fun e => e ▸ ⟨hb, c, _, hc⟩) (hf.2 x)⟩, fun x hx => (zev.1 hx).elim (fun e => .inr (e ▸ hv)) .inl⟩
theorem zn (w : World) (vs : List Value) (T : Nat) : ∀ j u, vs[j]? = some u → (w.alloc (.cells vs.toArray T)).cell? ((⟨w.heap.size, 0, none⟩ : Addr).add j) = some u := by
 intro j u h
 rw [Addr.add_lit]
 have := zv w vs.toArray T (0 + j)
 rw [this]; simpa using h
theorem Own.away {w : World} {base e k lo : Nat} {v : Value} {es : List (List CD)} {fp : List Nat} (h : Own w base e k v es fp) {w' : World} {nfp : List Nat} (hl : w.heap.size ≤ lo) (hf : Fresh lo w' nfp) : ∀ b ∈ nfp, v.ownBlock ≠ some b :=
 fun b hb e => by have := (h.block e).2; have := (hf.2 b hb).1; omega
theorem zf {B : Nat} {a w w' : World} {row : Option Nat} (h : Below B a w) (hg : w.grownBy w' row) (hB : B ≤ w.heap.size) (hr : ∀ k, row = some k → B ≤ k) : Below B a w' := h.grown hg hB hr
theorem zJ (w : World) (cs : Array Value) (T j : Nat) : (w.alloc (.cells cs T)).frozen? ⟨w.heap.size, j, none⟩ = false := by
 unfold World.frozen?; simp only [heap_alloc_new]; simp
theorem zc {w w' : World} {b j : Nat} (h : w'.heap[b]? = w.heap[b]?) : w'.frozen? ⟨b, j, none⟩ = w.frozen? ⟨b, j, none⟩ := World.frozen?_of_block (w := w) h
theorem zD {w wr : World} {cs ds : Array Value} {T U : Nat} (hb : Below (w.heap.size + 1 + 1) ((w.alloc (.cells cs T)).alloc (.cells ds U)) wr) (j : Nat) :
  wr.frozen? ⟨w.heap.size, j, none⟩ = false ∧ wr.frozen? ⟨w.heap.size + 1, j, none⟩ = false := by
 constructor
 ·rw [hb.frozen (p := ⟨w.heap.size, j, none⟩) (by simp; omega), zc (heap_alloc_old (w.alloc (.cells cs T)) _ (by simp))]; exact zJ w cs T j
 ·rw [hb.frozen (p := ⟨w.heap.size + 1, j, none⟩) (by simp)]
  have := zJ (w.alloc (.cells cs T)) ds U j
  rw [World.size_alloc] at this
  exact this
theorem zK {w1 w2 : World} {n : Nat} (h : Below w1.heap.size w1 w2) (e : w1.heap.size = n) : Below n w1 w2 := e ▸ h
theorem boxed22 {w w2 : World} {c0 c1 d0 d1 : Value} {T U : Nat} (hb : Below ((w.alloc (.cells #[c0, c1] T)).alloc (.cells #[d0, d1] U)).drew.heap.size ((w.alloc (.cells #[c0, c1] T)).alloc (.cells #[d0, d1] U)).drew w2) :
  w2.cell? ⟨w.heap.size, 0, none⟩ = some c0 ∧ w2.cell? ⟨w.heap.size, 1, none⟩ = some c1 ∧ w2.cell? ⟨w.heap.size + 1, 0, none⟩ = some d0 ∧ w2.cell? ⟨w.heap.size + 1, 1, none⟩ = some d1 ∧
  w2.frozen? ⟨w.heap.size + 1, 0, none⟩ = false ∧ w2.frozen? ⟨w.heap.size + 1, 1, none⟩ = false ∧ w.heap.size + 1 + 1 ≤ w2.heap.size ∧ Below w.heap.size w w2 := by
 have hb3 := zbe (zK hb (n := w.heap.size + 1 + 1) (by simp))
 obtain ⟨hx, hy, hz, hbb⟩ := box2 hb3
 exact ⟨hx 0, hx 1, hy 0, hy 1, (zD hb3 0).2, (zD hb3 1).2, hz, hbb⟩
theorem zT {w : World} {b : Nat} {u0 u1 : Value} (v0 v1 : Value) (h0 : w.cell? ⟨b, 0, none⟩ = some u0) (h1 : w.cell? ⟨b, 1, none⟩ = some u1) :
  ((w.setCell ⟨b, 0, none⟩ v0).setCell ⟨b, 1, none⟩ v1).cell? ⟨b, 0, none⟩ = some v0 ∧ ((w.setCell ⟨b, 0, none⟩ v0).setCell ⟨b, 1, none⟩ v1).cell? ⟨b, 1, none⟩ = some v1 := by
 constructor
 ·rw [World.cell?_setCell_other _ _ _ _ (by simp)]; exact World.cell?_setCell_same _ _ _ h0
 ·refine World.cell?_setCell_same _ _ _ (u := u1) ?_
  rw [World.cell?_setCell_other _ _ _ _ (by simp)]; exact h1
theorem zw {fp : List Nat} {w : World} {a : Addr} {v : Value} (h : ∀ b ∈ fp, b ≠ a.block) : SameOn fp w (w.setCell a v) := fun b hb => Below.heap_setCell _ _ _ _ (h b hb)
theorem SameOn.trans {fp : List Nat} {a b c : World} (h : SameOn fp a b) (h' : SameOn fp b c) : SameOn fp a c := fun k hk => (h' k hk).trans (h k hk)
theorem SameOn.refl (fp : List Nat) (a : World) : SameOn fp a a := fun _ _ => rfl
theorem zW {fp : List Nat} {w : World} {b i j : Nat} {u v : Value} (h : ∀ x ∈ fp, x ≠ b) : SameOn fp w ((w.setCell ⟨b, i, none⟩ u).setCell ⟨b, j, none⟩ v) := (zw h).trans (zw h)
theorem Fresh.ne {lo : Nat} {w : World} {fp : List Nat} (h : Fresh lo w fp) {b : Nat} (hb : b < lo) : ∀ x ∈ fp, x ≠ b := fun x hx e => by have := (h.2 x hx).1; omega
/-- From w to w' the row v of the call's own has gone over into v'; of what was there only that row may have turned. -/
def Moved (w : World) (v : Value) (w' : World) (v' : Value) : Prop := w.grownBy w' v.ownBlock ∧ ∀ b, v'.ownBlock = some b → v.ownBlock = some b ∨ w.heap.size ≤ b
theorem Moved.refl (w : World) (v : Value) : Moved w v w v := ⟨zQ _ _, fun _ h => .inl h⟩
theorem Moved.trans {w w1 w2 : World} {v v1 v2 : Value} (h : Moved w v w1 v1) (h' : Moved w1 v1 w2 v2) : Moved w v w2 v2 := by
 obtain ⟨g, h1⟩ := h
 obtain ⟨g', h2⟩ := h'
 refine ⟨⟨g'.os.trans g.os, g'.tape.trans g.tape, g'.output.trans g.output, Nat.le_trans g.size g'.size, fun k hk hn => ?_⟩, fun b hb => ?_⟩
 ·refine (g'.block k (zep hk g.size) fun e => ?_).trans (g.block k hk hn)
  rcases h1 k e.symm with h | h
  ·exact hn h.symm
  ·omega
 ·rcases h2 b hb with h | h
  ·exact h1 b h
  ·have := g.size; exact .inr (by omega)
theorem Moved.below {w w1 w2 : World} {v v1 : Value} (h : Moved w v w1 v1) (hb : Below w1.heap.size w1 w2) : Moved w v w2 v1 := by
 obtain ⟨g, h1⟩ := h
 exact ⟨⟨hb.os.trans g.os, hb.tape.trans g.tape, hb.output.trans g.output, Nat.le_trans g.size hb.size, fun k hk hn => (hb.block k (zep hk g.size)).trans (g.block k hk hn)⟩, h1⟩
theorem Moved.after {w w1 w2 : World} {v v2 : Value} (hb : Below w.heap.size w w1) (h : Moved w1 v w2 v2) : Moved w v w2 v2 := by
 obtain ⟨g, h1⟩ := h
 refine ⟨⟨g.os.trans hb.os, g.tape.trans hb.tape, g.output.trans hb.output, Nat.le_trans hb.size g.size, fun k hk hn => (g.block k (zep hk hb.size) hn).trans (hb.block k hk)⟩, fun b hv => ?_⟩
 rcases h1 b hv with h | h
 ·exact .inl h
 ·have := hb.size; exact .inr (by omega)
theorem Moved.size {w w' : World} {v v' : Value} (h : Moved w v w' v') : w.heap.size ≤ w'.heap.size := h.1.size
theorem Moved.toBelow {w w' : World} {v v' : Value} {B : Nat} (h : Moved w v w' v') (hB : B ≤ w.heap.size) (hv : ∀ b, v.ownBlock = some b → B ≤ b) : Below B w w' :=
 ⟨h.1.os, h.1.tape, h.1.output, h.1.size, fun k hk => h.1.block k (by omega) fun e => by have := hv k e.symm; omega⟩
theorem Moved.block {w w' : World} {v v' : Value} (h : Moved w v w' v') {b : Nat} (hb : b < w.heap.size) (hn : v.ownBlock ≠ some b) : w'.heap[b]? = w.heap[b]? := h.1.block b hb fun e => hn e.symm
theorem Moved.same {w w' : World} {v v' : Value} (h : Moved w v w' v') {fp : List Nat} (hl : ∀ b ∈ fp, b < w.heap.size) (hn : ∀ b ∈ fp, v.ownBlock ≠ some b) : SameOn fp w w' := fun b hb => h.block (hl b hb) (hn b hb)
theorem Moved.away {w w' : World} {v v' : Value} (h : Moved w v w' v') {fp : List Nat} (hl : ∀ b ∈ fp, b < w.heap.size) (hn : ∀ b ∈ fp, v.ownBlock ≠ some b) : ∀ b ∈ fp, v'.ownBlock ≠ some b := fun b hb e => by
 rcases h.2 b e with h1 | h1
 ·exact hn b hb h1
 ·have := hl b hb; omega
theorem Own.empty (w : World) (base e k : Nat) (hb : base ≤ w.heap.size) : Own (w.alloc (.cells #[] e)) base e k (.slice (some ⟨w.heap.size, 0, none⟩) 0 0) [] [] :=
 ⟨[], World.ownsRow_made w #[] 0 hb (by simp [maxLen]) (by simp), by simp [RdVs], by simp, by simp⟩
theorem Own.base {w : World} {base base' e k : Nat} {v : Value} {es : List (List CD)} {fp : List Nat} (h : Own w base e k v es fp) (hb : ∀ b, v.ownBlock = some b → base' ≤ b) : Own w base' e k v es fp := by
 obtain ⟨xs, ⟨h1, h2⟩, h3⟩ := h
 refine ⟨xs, ⟨h1, ?_⟩, h3⟩
 rcases h2 with h2 | ⟨g, cap, cur, rfl, hg, rest⟩
 ·exact .inl h2
 ·exact .inr ⟨g, cap, cur, rfl, hb g rfl, rest⟩
theorem zaV {w wr : World} {cs : Array Value} {T : Nat} {v v' : Value} (h : Moved (w.alloc (.cells cs T)) v wr v') (hv : ∀ b, v.ownBlock = some b → b < w.heap.size) (j : Nat) : wr.cell? ⟨w.heap.size, j, none⟩ = cs[j]? := by
 rw [World.cell?_of_block (w := w.alloc (.cells cs T)) (h.block (b := w.heap.size) (by simp) (fun e => by have := hv _ e; omega))]
 exact zv w cs T j
theorem zo {w w' : World} {row : Option Nat} (hg : w.grownBy w' row) {b j : Nat} {v : Value} (h : w.cell? ⟨b, j, none⟩ = some v) (hn : row ≠ some b) : w'.cell? ⟨b, j, none⟩ = some v := hg.cell h (fun e => hn e.symm)
theorem zao {w w' : World} {row : Option Nat} (hg : w.grownBy w' row) {b j : Nat} {f : Bool} (hb : b < w.heap.size) (h : w.frozen? ⟨b, j, none⟩ = f) (hn : row ≠ some b) : w'.frozen? ⟨b, j, none⟩ = f := by
 rw [zc (hg.block b hb (fun e => hn e.symm))]; exact h
theorem Own.row_ne {w : World} {base e k : Nat} {v : Value} {es : List (List CD)} {fp : List Nat} (h : Own w base e k v es fp) {b : Nat} (hb : b < base) : v.ownBlock ≠ some b := fun e => by have := (h.block e).1; omega
theorem Own.set_other {w : World} {base e k : Nat} {v : Value} {es : List (List CD)} {fp : List Nat} (h : Own w base e k v es fp) (hf : Fresh base w fp) {b j : Nat} {u : Value} (hb : b < base) : Own (w.setCell ⟨b, j, none⟩ u) base e k v es fp :=
 h.same (zw (hf.ne hb)) fun x hx => Below.heap_setCell _ _ _ _ (by have := (h.block hx).1; simp only; omega)
theorem zbf {α β : Type} (f : α → β) (ts : List α) (k : Nat) : ((ts.take k).map f).length ≤ ts.length := by simp; omega
theorem zdb {wr w2 w4 : World} {o : Obj} {row : Option Nat} {b : Nat} (hb : Below wr.heap.size wr w2) (hg : (w2.alloc o).grownBy w4 row) (hl : b < wr.heap.size) (hn : row ≠ some b) : w4.heap[b]? = wr.heap[b]? := by
 have := hb.size
 rw [hg.block b (by simp; omega) (fun e => hn e.symm), heap_alloc_old w2 o (by omega), hb.block b hl]
theorem zl {w w' : World} {b j : Nat} {v : Value} (h : w'.heap[b]? = w.heap[b]?) (hc : w.cell? ⟨b, j, none⟩ = some v) : w'.cell? ⟨b, j, none⟩ = some v := by
 rw [World.cell?_of_block (w := w) h]; exact hc
theorem zah {w w' : World} {b j : Nat} {f : Bool} (h : w'.heap[b]? = w.heap[b]?) (hc : w.frozen? ⟨b, j, none⟩ = f) : w'.frozen? ⟨b, j, none⟩ = f := by
 rw [zc h]; exact hc
/-- Elements that lead nowhere. -/
def NoFp (ds : List CD) : Prop := ∀ (w : World) (vs : List Value) (f : List Nat), RdVs w ds vs f → f = []
theorem NoFp.append {a b : List CD} (ha : NoFp a) (hb : NoFp b) : NoFp (a ++ b) := fun w vs f h => by
 obtain ⟨us, us', f1, f2, rfl, rfl, h1, h2⟩ := h.split; rw [ha _ _ _ h1, hb _ _ _ h2]; rfl
theorem NoFp.nil : NoFp [] := fun w vs f h => by simp only [RdVs] at h; exact h.2
theorem NoFp.replicate {z : List CD} (h : NoFp z) : ∀ n, NoFp (List.replicate n z).flatten
 | 0 => by simpa using NoFp.nil
 | n + 1 => by rw [List.replicate_succ, List.flatten_cons]; exact h.append (NoFp.replicate h n)
theorem zaw {base e k g n cap : Nat} : ∀ (vs : List Value) (o : Nat) (w : World) (xs : List Value), w.ownsRow base e k (.slice (some ⟨g, 0, none⟩) n cap) n xs → o + vs.length ≤ n * k →
  (w.setCells g o vs).ownsRow base e k (.slice (some ⟨g, 0, none⟩) n cap) n (xs.take o ++ vs ++ xs.drop (o + vs.length)) ∧ w.grownBy (w.setCells g o vs) (some g)
 | [], o, w, xs, h, _ => by simpa [World.setCells] using ⟨h, zQ w (some g)⟩
 | v :: vs, o, w, xs, h, hl => by
  simp only [List.length_cons] at hl
  have hs := h.stored o v
  obtain ⟨h1, h2⟩ := zaw vs (o + 1) _ _ hs.1 (by omega)
  have hx : xs.length = n * k := h.1
  refine ⟨?_, ⟨h2.os.trans hs.2.os, h2.tape.trans hs.2.tape, h2.output.trans hs.2.output, Nat.le_trans hs.2.size h2.size, fun q hq hn => (h2.block q (zep hq hs.2.size) hn).trans (hs.2.block q hq hn)⟩⟩
  have e1 : (xs.set o v).take (o + 1) ++ vs ++ (xs.set o v).drop (o + 1 + vs.length) = xs.take o ++ (v :: vs) ++ xs.drop (o + (vs.length + 1)) := by
   rw [List.drop_set_of_lt (by omega), List.take_set, List.set_eq_take_append_cons_drop]
   simp only [List.length_take]
   rw [if_pos (by omega), List.take_take, Nat.min_eq_left (by omega)]
   simp [Nat.add_comm, Nat.add_left_comm]
  rw [e1] at h1
  exact h1
theorem Own.put {w : World} {base e k g n cap : Nat} {ds rest : List (List CD)} {z new : List CD} {fp nf : List Nat} {vs : List Value}
  (h : Own w base e k (.slice (some ⟨g, 0, none⟩) n cap) (ds ++ z :: rest) fp) (hz : NoFp z) (hr : NoFp rest.flatten) (hn : RdVs w new vs nf) (hl : new.length = k) (hna : g ∉ nf) :
  Own (w.setCells g (ds.length * k) vs) base e k (.slice (some ⟨g, 0, none⟩) n cap) (ds ++ new :: rest) (fp ++ nf) ∧ w.grownBy (w.setCells g (ds.length * k) vs) (some g) := by
 obtain ⟨xs, h1, h2, h3, h4⟩ := h
 have hnn : n = (ds ++ z :: rest).length := by
  rcases h1.2 with ⟨h, _⟩ | ⟨g', cap', cur, h, _⟩
  ·simp at h
  ·simp only [Value.slice.injEq] at h; exact h.2.1
 rw [List.flatten_append, List.flatten_cons] at h2
 obtain ⟨us, us', f, f', rfl, rfl, r1, r2⟩ := h2.split
 obtain ⟨uz, ur, fz, fr, rfl, rfl, r3, r4⟩ := r2.split
 obtain rfl := hz _ _ _ r3
 obtain rfl := hr _ _ _ r4
 have hfl : ∀ (l : List (List CD)), (∀ x ∈ l, x.length = k) → l.flatten.length = l.length * k := by
  intro l hl'
  induction l with
  | nil => simp
  | cons a l ih => rw [List.flatten_cons, zet, ih (fun x hx => hl' x (List.mem_cons_of_mem _ hx)), hl' a (by simp), List.length_cons, Nat.add_mul]; omega
 have hul : us.length = ds.length * k := by rw [r1.length]; exact hfl ds fun x hx => h3 x (List.mem_append_left _ hx)
 have huz : uz.length = k := by rw [r3.length]; exact h3 z (by simp)
 have hvl : vs.length = k := by rw [hn.length]; exact hl
 have hnk : ds.length * k + vs.length ≤ n * k := by
  rw [hvl, hnn, zet, List.length_cons, Nat.add_mul, Nat.add_mul]; omega
 rw [← hnn] at h1
 obtain ⟨g1, g2⟩ := zaw vs (ds.length * k) w _ h1 hnk
 refine ⟨⟨us ++ (vs ++ ur), ?_, ?_, ?_, ?_⟩, g2⟩
 ·have e1 : (us ++ (uz ++ ur)).take (ds.length * k) ++ vs ++ (us ++ (uz ++ ur)).drop (ds.length * k + vs.length) = us ++ (vs ++ ur) := by
   rw [← hul, List.take_left, List.drop_append, List.drop_of_length_le (by omega), Nat.add_sub_cancel_left, List.drop_append, List.drop_of_length_le (by omega)]
   simp [huz, hvl]
  rw [e1] at g1
  have e2 : (ds ++ new :: rest).length = n := by rw [hnn]; simp
  rw [e2]; exact g1
 ·rw [List.flatten_append, List.flatten_cons]
  have hg : g ∉ f := fun hm => h4 g (by simp [hm]) rfl
  have s1 : SameOn f w (w.setCells g (ds.length * k) vs) := fun b hb => g2.block b (r1.lt _ b hb) (fun e => by simp only [Option.some.injEq] at e; exact hg (e ▸ hb))
  have s2 : SameOn nf w (w.setCells g (ds.length * k) vs) := fun b hb => g2.block b (hn.lt _ b hb) (fun e => by simp only [Option.some.injEq] at e; exact hna (e ▸ hb))
  have s3 : SameOn ([] : List Nat) w (w.setCells g (ds.length * k) vs) := fun b hb => by simp at hb
  have := (r1.same _ s1).app ((hn.same _ s2).app (r4.same _ s3))
  simpa using this
 ·intro x hx
  rcases zer.1 hx with hx | hx
  ·exact h3 x (List.mem_append_left _ hx)
  ·rcases zev.1 hx with rfl | hx
   ·exact hl
   ·exact h3 x (List.mem_append_right _ (List.mem_cons_of_mem _ hx))
 ·intro b hb e
  simp only [List.append_nil] at hb h4
  rcases zer.1 hb with hb | hb
  ·exact h4 b hb e
  ·simp only [Value.ownBlock, Option.some.injEq] at e; exact hna (e ▸ hb)
/-- The cells of an element of an owned row. -/
theorem Own.cells {w : World} {base e k g n cap : Nat} {ds rest : List (List CD)} {z : List CD} {fp : List Nat} (h : Own w base e k (.slice (some ⟨g, 0, none⟩) n cap) (ds ++ z :: rest) fp) :
  ∃ vs f, (∀ j u, vs[j]? = some u → w.cell? ⟨g, ds.length * k + j, none⟩ = some u) ∧ RdVs w z vs f := by
 obtain ⟨fp', h1, _⟩ := h.rd
 obtain ⟨xs, h0, _, h3, _⟩ := h
 obtain ⟨b, off, f, e1, hb, rfl, hr⟩ := h1.addr (by simp only [zet, List.length_cons]; omega)
 simp only [Option.some.injEq, Addr.mk.injEq, and_true] at e1
 obtain ⟨rfl, rfl⟩ := e1
 obtain ⟨vs, f, hc, hv, _⟩ := hr.at h3 ds.length (by simp)
 rw [List.getElem_append_right (by omega)] at hv
 simp only [Nat.sub_self, List.getElem_cons_zero] at hv
 exact ⟨vs, f, fun j u hj => by have := hc j u hj; simpa using this, hv⟩
theorem Own.free {w : World} {base e k g n cap : Nat} {es : List (List CD)} {fp : List Nat} (h : Own w base e k (.slice (some ⟨g, 0, none⟩) n cap) es fp) (j : Nat) : w.frozen? ⟨g, j, none⟩ = false := by
 obtain ⟨xs, ⟨_, ⟨h, _⟩ | ⟨g', cap', cur, h, _, hh, _⟩⟩, _⟩ := h
 ·simp at h
 ·simp only [Value.slice.injEq, Option.some.injEq, Addr.mk.injEq, and_true, true_and] at h
  obtain ⟨rfl, -, -⟩ := h
  unfold World.frozen?; rw [hh]; simp
theorem box3 {w wr : World} {cs ds es : Array Value} {T U V : Nat} (hb : Below (w.heap.size + 1 + 1 + 1) (((w.alloc (.cells cs T)).alloc (.cells ds U)).alloc (.cells es V)) wr) :
  (∀ j, wr.cell? ⟨w.heap.size, j, none⟩ = cs[j]?) ∧ (∀ j, wr.cell? ⟨w.heap.size + 1, j, none⟩ = ds[j]?) ∧ (∀ j, wr.cell? ⟨w.heap.size + 1 + 1, j, none⟩ = es[j]?) ∧ (∀ j, wr.frozen? ⟨w.heap.size + 1, j, none⟩ = false) ∧ (∀ j, wr.frozen? ⟨w.heap.size + 1 + 1, j, none⟩ = false) ∧
  w.heap.size + 1 + 1 + 1 ≤ wr.heap.size ∧ Below w.heap.size w wr := by
 have hb2 : Below (w.heap.size + 1 + 1) ((w.alloc (.cells cs T)).alloc (.cells ds U)) wr := ((Below.refl _ _).alloc (by simp) _).trans (hb.mono (by omega))
 obtain ⟨hx, hy, _, hbb⟩ := box2 hb2
 refine ⟨hx, hy, fun j => ?_, fun j => (zD hb2 j).2, fun j => ?_, by simpa using hb.size, hbb⟩
 ·rw [hb.cell (p := ⟨w.heap.size + 1 + 1, j, none⟩) (by simp)]
  have := zv ((w.alloc (.cells cs T)).alloc (.cells ds U)) es V j
  simp only [World.size_alloc] at this
  exact this
 ·rw [hb.frozen (p := ⟨w.heap.size + 1 + 1, j, none⟩) (by simp)]
  have := zJ ((w.alloc (.cells cs T)).alloc (.cells ds U)) es V j
  simp only [World.size_alloc] at this
  exact this
end Go.Proofs.YtlefdhhnlbpbkaaGreat
end
