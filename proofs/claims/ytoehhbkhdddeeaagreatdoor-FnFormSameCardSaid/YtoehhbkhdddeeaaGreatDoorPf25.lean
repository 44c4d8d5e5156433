/- Parts of the proof: PutC. -/
import Derived.Test.YtoehhbkhdddeeaaGreatDoorPf24
import Derived.Test.YtoehhbkhdddeeaaGreatDoorPf14
import Derived.Test.YtoehhbkhdddeeaaGreatDoorPf15
section
namespace Go.Proofs.YtoehhbkhdddeeaaGreatDoor
open Go Go.RowKit
set_option linter.unusedVariables false
set_option linter.unusedSimpArgs false
set_option maxRecDepth 100000
set_option maxHeartbeats 16000000
theorem zar (n : Nat) (xs : List Int) (vs : List Value) (hn : n = xs.length) (hv : vs = xs.map (Value.int .i64)) (rb p lb : Nat) (w : World) (hp : p ≤ 1000000000) (h0 : 1 ≤ xs.length) (h1 : xs.length ≤ 1000) (hl : Lst rb vs lb w) (h : Rdr w rb p) :
  Calls Tryz.prog 11 #[.pointer (some ⟨rb, 0, none⟩), .slice (some ⟨lb, 0, none⟩) n n] w fun e w' => (∃ x, x ∈ xs ∧ e = .returned (.int .i64 x)) ∧ Rdr w' rb (p + 1) ∧ Only [rb] w w' := by
 subst hn; exact num_l xs vs hv rb p lb w hp h0 h1 hl h
theorem Lst.next2 {w : World} {rb : Nat} (h : rb < w.heap.size) (o o' : Obj) (vs : List Value) (T : TypeId) : Lst rb vs (w.heap.size + 1 + 1) (((w.alloc o).alloc o').alloc (.cells vs.toArray T)) := by
 have h1 := Lst.new1 (w := w.alloc o) (rb := rb) (by rw [World.size_alloc]; omega) o' vs T
 rw [World.size_alloc] at h1; exact h1
/-- Few and small. -/
def Atm.few (y : Atm) : Prop := (y.a.size ≤ 100 ∧ wtV y.a.cd ≤ 500) ∧ (y.b.size ≤ 100 ∧ wtV y.b.cd ≤ 500) ∧ y.nums.length ≤ 5 ∧ y.times.length = y.nums.length ∧ ∀ u ∈ y.nums, u.good
theorem zdd : (Tm.mk ⟨#[]⟩ []).size ≤ 100 ∧ wtV (Tm.mk ⟨#[]⟩ []).cd ≤ 500 := ⟨by decide, by rw [Tm.wtV_eq]; simp only [Tm.name, Tm.kids, wtR, List.map_nil, List.length_nil]; decide⟩
/-- The atom y in memory, its rows the call's own from the block lo on. -/
structure AtOx (w : World) (lo : Nat) (y : Atm) (a2 : Option Addr) (c2 : Nat) (fA : List Nat) (a4 : Option Addr) (c4 : Nat) (fB : List Nat) (a5 : Option Addr) (c5 : Nat) (a6 : Option Addr) (c6 : Nat) (fn : List Nat) : Prop where
 k : I64 y.kind
 na : y.a.name.size ≤ maxLen
 ra : Rd w (.sl (y.a.kids.map Tm.cd)) (.slice a2 y.a.kids.length c2) fA
 nb : y.b.name.size ≤ maxLen
 rb : Rd w (.sl (y.b.kids.map Tm.cd)) (.slice a4 y.b.kids.length c4) fB
 o5 : Own w lo 25 2 (.slice a5 y.nums.length c5) (y.nums.map Tm.cd) fn
 o6 : Own w lo 3 1 (.slice a6 y.times.length c6) (y.times.map zm) []
 bd : I64 y.bound
 d56 : ∀ g, (Value.slice a5 y.nums.length c5).ownBlock = some g → (Value.slice a6 y.times.length c6).ownBlock ≠ some g
 d5 : ∀ g, (Value.slice a5 y.nums.length c5).ownBlock = some g → g ∉ fA ∧ g ∉ fB
 d6 : ∀ g, (Value.slice a6 y.times.length c6).ownBlock = some g → g ∉ fA ∧ g ∉ fB ∧ g ∉ fn
 fr : ∀ b, b ∈ fA ∨ b ∈ fB ∨ b ∈ fn → lo ≤ b
theorem AtOx.rd {w : World} {lo : Nat} {y : Atm} {a2 : Option Addr} {c2 : Nat} {fA : List Nat} {a4 : Option Addr} {c4 : Nat} {fB : List Nat} {a5 : Option Addr} {c5 : Nat} {a6 : Option Addr} {c6 : Nat} {fn : List Nat} (h : AtOx w lo y a2 c2 fA a4 c4 fB a5 c5 a6 c6 fn) : ∃ f, RdVs w y.cd [.int .i64 y.kind, .string y.a.name, .slice a2 y.a.kids.length c2, .string y.b.name, .slice a4 y.b.kids.length c4, .slice a5 y.nums.length c5, .slice a6 y.times.length c6, .int .i64 y.bound, .bool y.strict] f ∧ ∀ b ∈ f, lo ≤ b := by
 obtain ⟨g1, r1, q1⟩ := h.o5.rd
 obtain ⟨g2, r2, q2⟩ := h.o6.rd
 refine ⟨_, Atm.close h.k h.na h.ra h.nb h.rb r1 r2 h.bd, fun b hb => ?_⟩
 rcases zdS.1 hb with h1 | h1
 ·exact h.fr b (.inl h1)
 rcases zdS.1 h1 with h1 | h1
 ·exact h.fr b (.inr (.inl h1))
 rcases zdS.1 h1 with h1 | h1
 ·rcases q1 with ⟨_, _, rfl⟩ | ⟨b', _, _, rfl, _, h2, _⟩
  ·simp at h1
  ·rcases zdW.1 h1 with rfl | h1
   ·exact h2
   ·exact h.fr b (.inr (.inr h1))
 ·rcases q2 with ⟨_, _, rfl⟩ | ⟨b', _, _, rfl, _, h2, _⟩
  ·simp at h1
  ·rcases zdW.1 h1 with rfl | h1
   ·exact h2
   ·simp at h1
theorem AtOx.below {w w' : World} {lo : Nat} {y : Atm} {a2 : Option Addr} {c2 : Nat} {fA : List Nat} {a4 : Option Addr} {c4 : Nat} {fB : List Nat} {a5 : Option Addr} {c5 : Nat} {a6 : Option Addr} {c6 : Nat} {fn : List Nat} (h : AtOx w lo y a2 c2 fA a4 c4 fB a5 c5 a6 c6 fn) (hb : Below w.heap.size w w') : AtOx w' lo y a2 c2 fA a4 c4 fB a5 c5 a6 c6 fn :=
 ⟨h.k, h.na, h.ra.below hb, h.nb, h.rb.below hb, h.o5.below hb, h.o6.below hb, h.bd, h.d56, h.d5, h.d6, h.fr⟩
theorem AtOx.only {w w' : World} {lo rb : Nat} {y : Atm} {a2 : Option Addr} {c2 : Nat} {fA : List Nat} {a4 : Option Addr} {c4 : Nat} {fB : List Nat} {a5 : Option Addr} {c5 : Nat} {a6 : Option Addr} {c6 : Nat} {fn : List Nat} (h : AtOx w lo y a2 c2 fA a4 c4 fB a5 c5 a6 c6 fn) (ho : Only [rb] w w') (hr : rb < lo) : AtOx w' lo y a2 c2 fA a4 c4 fB a5 c5 a6 c6 fn :=
 ⟨h.k, h.na, h.ra.same _ (ho.sameOn (h.ra.lt _) (fun hm => by have := h.fr _ (.inl hm); omega)), h.nb, h.rb.same _ (ho.sameOn (h.rb.lt _) (fun hm => by have := h.fr _ (.inr (.inl hm)); omega)), h.o5.only ho hr (fun hm => by have := h.fr _ (.inr (.inr hm)); omega), h.o6.only ho hr (by simp), h.bd, h.d56, h.d5, h.d6, h.fr⟩
/-- A sum without terms. -/
theorem AtOx.zero (w : World) (lo : Nat) {kind bound : Int} (strict : Bool) (hk : I64 kind) (hb : I64 bound) : AtOx w lo ⟨kind, .mk ⟨#[]⟩ [], .mk ⟨#[]⟩ [], [], [], bound, strict⟩ none 0 [] none 0 [] none 0 none 0 [] :=
 ⟨hk, Nat.zero_le _, zY (cd := Tm.cd) none 0 (by simp), Nat.zero_le _, zY (cd := Tm.cd) none 0 (by simp), Own.nil _ _ _ _, Own.nil _ _ _ _, hb, by simp [Value.ownBlock], by simp [Value.ownBlock], by simp [Value.ownBlock], by simp⟩
/-- An equation of two terms. -/
theorem AtOx.eqn (w : World) (lo : Nat) {s t : Tm} {a2 a4 : Option Addr} {c2 c4 : Nat} {fA fB : List Nat} (ns : s.name.size ≤ maxLen) (rs : Rd w (.sl (s.kids.map Tm.cd)) (.slice a2 s.kids.length c2) fA) (nt : t.name.size ≤ maxLen) (rt : Rd w (.sl (t.kids.map Tm.cd)) (.slice a4 t.kids.length c4) fB) (hf : ∀ b, b ∈ fA ∨ b ∈ fB → lo ≤ b) :
  AtOx w lo ⟨1, s, t, [], [], 0, false⟩ a2 c2 fA a4 c4 fB none 0 none 0 [] :=
 ⟨by unfold I64; simp, ns, rs, nt, rt, Own.nil _ _ _ _, Own.nil _ _ _ _, by unfold I64; simp, by simp [Value.ownBlock], by simp [Value.ownBlock], by simp [Value.ownBlock], fun b hb => by
  rcases hb with h | h | h
  ·exact hf b (.inl h)
  ·exact hf b (.inr h)
  ·simp at h⟩
/-- What l6Put gave. -/
theorem PutOut.at {x : Atm} {fx ft : List Nat} {w w' : World} {e : Ending} {lo : Nat} (h : PutOut x fx ft w e w') (hk : I64 x.kind) (hb : I64 x.bound) (hx : ∀ b ∈ fx, lo ≤ b) (ht : ∀ b ∈ ft, lo ≤ b) (hl : lo ≤ w.heap.size) :
  ∃ (y : Atm) (a5 : Option Addr) (c5 : Nat) (a6 : Option Addr) (c6 : Nat) (fn : List Nat), y.kind = x.kind ∧ y.a = .mk ⟨#[]⟩ [] ∧ y.b = .mk ⟨#[]⟩ [] ∧ y.bound = x.bound ∧ y.nums.length ≤ x.nums.length + 1 ∧ y.times.length = y.nums.length ∧ (∀ u ∈ y.nums, u.good) ∧
   e = .returned (.agg #[.int .i64 y.kind, .string y.a.name, .slice none y.a.kids.length 0, .string y.b.name, .slice none y.b.kids.length 0, .slice a5 y.nums.length c5, .slice a6 y.times.length c6, .int .i64 y.bound, .bool y.strict]) ∧ AtOx w' lo y none 0 [] none 0 [] a5 c5 a6 c6 fn ∧ Below w.heap.size w w' := by
 obtain ⟨y, a5, c5, a6, c6, fn, h1, h2, h3, h4, h5, h6, h7, rfl, h9, h10, h11, h12, h13⟩ := h
 refine ⟨y, a5, c5, a6, c6, fn, h1, h2, h3, h4, h5, h6, h7, by rw [h2, h3]; rfl, ⟨h1 ▸ hk, by rw [h2]; exact Nat.zero_le _, by rw [h2]; exact zY (cd := Tm.cd) none 0 (by simp), by rw [h3]; exact Nat.zero_le _, by rw [h3]; exact zY (cd := Tm.cd) none 0 (by simp), h9.base (fun b hb => by have := (h9.block hb).1; omega), h10.base (fun b hb => by have := (h10.block hb).1; omega), h4 ▸ hb, h11, by simp, fun g hg => ⟨by simp, by simp, fun hm => by have := (h10.block hg).1; have := (h12 g hm).2; omega⟩, fun b hb => ?_⟩, h13⟩
 rcases hb with h | h | h
 ·simp at h
 ·simp at h
 ·rcases (h12 b h).1 with h | h
  ·exact hx b h
  ·exact ht b h
theorem Lst.sets_other {u : World} {rb lb b : Nat} {vs : List Value} (h : Lst rb vs lb u) (hne : lb < b ∨ b < lb) (ups : List (Nat × Value)) : Lst rb vs lb (zi b ups u) := by
 have hL := Loc.sets (b := b) (lo := b) (hi := b + 1) (Nat.le_refl _) (by omega) ups (Loc.refl _ _ u)
 have hk := hL.block lb h.2.1 (by omega)
 exact ⟨h.1, zdQ h.2.1 hL.size, fun j x hx => zo hk (h.2.2.1 j x hx), fun j => zD hk (h.2.2.2 j)⟩
theorem Lst.nine {u : World} {rb b : Nat} {x0 x1 x2 x3 x4 x5 x6 x7 x8 : Value} (v0 v1 v2 v3 v4 v5 v6 v7 v8 : Value) (h : Lst rb [x0, x1, x2, x3, x4, x5, x6, x7, x8] b u) : Lst rb [v0, v1, v2, v3, v4, v5, v6, v7, v8] b (zi b [(0, v0), (1, v1), (2, v2), (3, v3), (4, v4), (5, v5), (6, v6), (7, v7), (8, v8)] u) := by
 have hL := Loc.sets (b := b) (lo := b) (hi := b + 1) (Nat.le_refl _) (by omega) [(0, v0), (1, v1), (2, v2), (3, v3), (4, v4), (5, v5), (6, v6), (7, v7), (8, v8)] (Loc.refl _ _ u)
 have NS := zI (u := u) (b := b) v0 v1 v2 v3 v4 v5 v6 v7 v8 (fun j hj => by
  rcases j with _ | _ | _ | _ | _ | _ | _ | _ | _ | j
  all_goals first | exact ⟨_, h.2.2.1 _ _ rfl⟩ | omega)
 obtain ⟨r0, r1, r2, r3, r4, r5, r6, r7, r8⟩ := NS
 refine ⟨h.1, zdQ h.2.1 hL.size, fun j x hx => ?_, zbr _ h.2.2.2⟩
 rcases j with _ | _ | _ | _ | _ | _ | _ | _ | _ | j
 ·obtain rfl := Option.some.inj hx; exact r0
 ·obtain rfl := Option.some.inj hx; exact r1
 ·obtain rfl := Option.some.inj hx; exact r2
 ·obtain rfl := Option.some.inj hx; exact r3
 ·obtain rfl := Option.some.inj hx; exact r4
 ·obtain rfl := Option.some.inj hx; exact r5
 ·obtain rfl := Option.some.inj hx; exact r6
 ·obtain rfl := Option.some.inj hx; exact r7
 ·obtain rfl := Option.some.inj hx; exact r8
 ·simp at hx
theorem AtOx.mono {w : World} {lo lo' : Nat} {y : Atm} {a2 : Option Addr} {c2 : Nat} {fA : List Nat} {a4 : Option Addr} {c4 : Nat} {fB : List Nat} {a5 : Option Addr} {c5 : Nat} {a6 : Option Addr} {c6 : Nat} {fn : List Nat} (h : AtOx w lo y a2 c2 fA a4 c4 fB a5 c5 a6 c6 fn) (hl : lo' ≤ lo) : AtOx w lo' y a2 c2 fA a4 c4 fB a5 c5 a6 c6 fn :=
 ⟨h.k, h.na, h.ra, h.nb, h.rb, h.o5.base (fun b hb => by have := (h.o5.block hb).1; omega), h.o6.base (fun b hb => by have := (h.o6.block hb).1; omega), h.bd, h.d56, h.d5, h.d6, fun b hb => by have := h.fr b hb; omega⟩
theorem AtOx.sets {w : World} {lo b : Nat} {y : Atm} {a2 : Option Addr} {c2 : Nat} {fA : List Nat} {a4 : Option Addr} {c4 : Nat} {fB : List Nat} {a5 : Option Addr} {c5 : Nat} {a6 : Option Addr} {c6 : Nat} {fn : List Nat} (h : AtOx w lo y a2 c2 fA a4 c4 fB a5 c5 a6 c6 fn) (ups : List (Nat × Value)) (hl : b < lo) : AtOx (zi b ups w) lo y a2 c2 fA a4 c4 fB a5 c5 a6 c6 fn := by
 have hL := Loc.sets (b := b) (lo := b) (hi := b + 1) (Nat.le_refl _) (by omega) ups (Loc.refl _ _ w)
 have hk : ∀ q, q < w.heap.size → lo ≤ q → (zi b ups w).heap[q]? = w.heap[q]? := fun q hq hn => hL.block q hq (.inr (by omega))
 have l1 := h.ra.lt _
 have l2 := h.rb.lt _
 exact ⟨h.k, h.na, h.ra.same _ (fun q hq => hk q (l1 q hq) (h.fr q (.inl hq))), h.nb, h.rb.same _ (fun q hq => hk q (l2 q hq) (h.fr q (.inr (.inl hq)))), h.o5.same (fun q hq => hk q (h.o5.lt q hq) (h.fr q (.inr (.inr hq)))) (fun q hq => hk q (h.o5.block hq).2 (h.o5.block hq).1), h.o6.same (fun q hq => by simp at hq) (fun q hq => hk q (h.o6.block hq).2 (h.o6.block hq).1), h.bd, h.d56, h.d5, h.d6, h.fr⟩
theorem Only.setsR {w : World} {rb b : Nat} (h2 : w.heap.size ≤ b) : ∀ (ups : List (Nat × Value)) {u : World}, Only [rb] w u → Only [rb] w (zi b ups u)
 | [], _, h => h
 | p :: r, _, h => Only.setsR h2 r (h.set_new h2)
theorem Rdr.sets {rb b q : Nat} (h2 : rb < b) : ∀ (ups : List (Nat × Value)) {u : World}, Rdr u rb q → Rdr (zi b ups u) rb q
 | [], _, h => h
 | p :: r, _, h => Rdr.sets h2 r (h.set h2)
end Go.Proofs.YtoehhbkhdddeeaaGreatDoor
end
