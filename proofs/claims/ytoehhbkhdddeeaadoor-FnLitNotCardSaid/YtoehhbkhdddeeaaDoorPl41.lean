/- Parts of the proof: AtomC. -/
import Derived.Test.YtoehhbkhdddeeaaDoorPl35
section
namespace Go.Proofs.YtoehhbkhdddeeaaDoor
open Go Go.RowKit
set_option linter.unusedVariables false
set_option linter.unusedSimpArgs false
set_option maxRecDepth 100000
set_option maxHeartbeats 16000000
/-- Behind the region: the copy's box, its numbers still none. -/
structure CopyAt (x : Atm) (w u : World) (a2 : Option Addr) (c2 : Nat) (a4 : Option Addr) (c4 : Nat) (a5 : Option Addr) (c5 : Nat) (a6 : Option Addr) (c6 : Nat) (b : Nat) (zA : Option Addr) (cA : Nat) (zB : Option Addr) (cB : Nat) (zT : Option Addr) (cT : Nat) (fA fB fT : List Nat) : Prop where
 bel : Below w.heap.size w u
 size : w.heap.size + 1 + 1 ≤ u.heap.size
 lo : w.heap.size + 1 + 1 ≤ b
 hi : b < u.heap.size
 par : ∀ j, u.cell? ⟨w.heap.size, j, none⟩ = (#[.int .i64 x.kind, .string x.a.name, .slice a2 x.a.kids.length c2, .string x.b.name, .slice a4 x.b.kids.length c4, .slice a5 x.nums.length c5, .slice a6 x.times.length c6, .int .i64 x.bound, .bool x.strict] : Array Value)[j]?
 res : ∀ j, u.cell? ⟨w.heap.size + 1, j, none⟩ = (#[.int .i64 0, .string ⟨#[]⟩, .slice none 0 0, .string ⟨#[]⟩, .slice none 0 0, .slice none 0 0, .slice none 0 0, .int .i64 0, .bool false] : Array Value)[j]?
 rfree : ∀ j, u.frozen? ⟨w.heap.size + 1, j, none⟩ = false
 box : ∀ j, u.cell? ⟨b, j, none⟩ = (#[.int .i64 x.kind, .string x.a.name, .slice zA x.a.kids.length cA, .string x.b.name, .slice zB x.b.kids.length cB, .slice none 0 0, .slice zT x.times.length cT, .int .i64 x.bound, .bool x.strict] : Array Value)[j]?
 free : ∀ j, u.frozen? ⟨b, j, none⟩ = false
 rA : Rd u (.sl (x.a.kids.map Tm.cd)) (.slice zA x.a.kids.length cA) fA
 rB : Rd u (.sl (x.b.kids.map Tm.cd)) (.slice zB x.b.kids.length cB) fB
 rT : Rd u (.sl (x.times.map zg)) (.slice zT x.times.length cT) fT
 fresh : Fresh (w.heap.size + 1 + 1) u ((fA ++ fB) ++ fT)
 away : ∀ y ∈ (fA ++ fB) ++ fT, y ≠ b
theorem copyAt_mk {x : Atm} {w u : World} {a2 : Option Addr} {c2 : Nat} {a4 : Option Addr} {c4 : Nat} {a5 : Option Addr} {c5 : Nat} {a6 : Option Addr} {c6 : Nat} {b : Nat} {zA : Option Addr} {cA : Nat} {zB : Option Addr} {cB : Nat} {zT : Option Addr} {cT : Nat} {fA fB fT : List Nat} {ups : List (Nat × Value)}
  (bel : Below w.heap.size w u) (size : w.heap.size + 1 + 1 ≤ u.heap.size) (lo : w.heap.size + 1 + 1 ≤ b) (hi : b < u.heap.size) (par : ∀ j, u.cell? ⟨w.heap.size, j, none⟩ = (#[.int .i64 x.kind, .string x.a.name, .slice a2 x.a.kids.length c2, .string x.b.name, .slice a4 x.b.kids.length c4, .slice a5 x.nums.length c5, .slice a6 x.times.length c6, .int .i64 x.bound, .bool x.strict] : Array Value)[j]?) (res : ∀ j, u.cell? ⟨w.heap.size + 1, j, none⟩ = (#[.int .i64 0, .string ⟨#[]⟩, .slice none 0 0, .string ⟨#[]⟩, .slice none 0 0, .slice none 0 0, .slice none 0 0, .int .i64 0, .bool false] : Array Value)[j]?) (rfree : ∀ j, u.frozen? ⟨w.heap.size + 1, j, none⟩ = false)
  (box : ∀ j, (zi b ups u).cell? ⟨b, j, none⟩ = (#[.int .i64 x.kind, .string x.a.name, .slice zA x.a.kids.length cA, .string x.b.name, .slice zB x.b.kids.length cB, .slice none 0 0, .slice zT x.times.length cT, .int .i64 x.bound, .bool x.strict] : Array Value)[j]?) (free : ∀ j, (zi b ups u).frozen? ⟨b, j, none⟩ = false)
  (rA : Rd u (.sl (x.a.kids.map Tm.cd)) (.slice zA x.a.kids.length cA) fA) (rB : Rd u (.sl (x.b.kids.map Tm.cd)) (.slice zB x.b.kids.length cB) fB) (rT : Rd u (.sl (x.times.map zg)) (.slice zT x.times.length cT) fT)
  (fresh : Fresh (w.heap.size + 1 + 1) u ((([] ++ fA) ++ fB) ++ fT)) (away : ∀ y ∈ (([] ++ fA) ++ fB) ++ fT, y ≠ b) (hL : Loc b (b + 1) u (zi b ups u)) : CopyAt x w (zi b ups u) a2 c2 a4 c4 a5 c5 a6 c6 b zA cA zB cB zT cT fA fB fT := by
 rw [List.nil_append] at fresh away
 have hs : ∀ q, q < u.heap.size → q ≠ b → (zi b ups u).heap[q]? = u.heap[q]? := fun q hq hn => hL.block q hq (by omega)
 have hsz := hL.size
 have hal : ∀ {g : List Nat}, (∀ y ∈ g, y ∈ (fA ++ fB) ++ fT) → SameOn g u (zi b ups u) := fun hg y hy => hs y (fresh.lt y (hg y hy)) (away y (hg y hy))
 refine ⟨bel.trans (hL.toBelow (by omega) (by omega)), by omega, lo, by omega, fun j => ?_, fun j => ?_, fun j => ?_, box, free, rA.same _ (hal fun y hy => by simp [hy]), rB.same _ (hal fun y hy => by simp [hy]), rT.same _ (hal fun y hy => by simp [hy]), fresh.same (hal fun y hy => hy), away⟩
 ·exact (World.cell?_of_block (w := u) (a := ⟨w.heap.size, j, none⟩) (hs w.heap.size (by omega) (by omega))).trans (par j)
 ·exact (World.cell?_of_block (w := u) (a := ⟨w.heap.size + 1, j, none⟩) (hs (w.heap.size + 1) (by omega) (by omega))).trans (res j)
 ·exact (zd (hs (w.heap.size + 1) (by omega) (by omega))).trans (rfree j)
def CpF (x : Atm) (w : World) (a2 : Option Addr) (c2 : Nat) (a4 : Option Addr) (c4 : Nat) (a5 : Option Addr) (c5 : Nat) (a6 : Option Addr) (c6 : Nat) (U : World) : Prop := U.cell? ⟨w.heap.size, 0, none⟩ = some (.int .i64 x.kind) ∧ U.cell? ⟨w.heap.size, 1, none⟩ = some (.string x.a.name) ∧ U.cell? ⟨w.heap.size, 2, none⟩ = some (.slice a2 x.a.kids.length c2) ∧ U.cell? ⟨w.heap.size, 3, none⟩ = some (.string x.b.name) ∧ U.cell? ⟨w.heap.size, 4, none⟩ = some (.slice a4 x.b.kids.length c4) ∧ U.cell? ⟨w.heap.size, 5, none⟩ = some (.slice a5 x.nums.length c5) ∧ U.cell? ⟨w.heap.size, 6, none⟩ = some (.slice a6 x.times.length c6) ∧ U.cell? ⟨w.heap.size, 7, none⟩ = some (.int .i64 x.bound) ∧ U.cell? ⟨w.heap.size, 8, none⟩ = some (.bool x.strict)
theorem CpF.keep {x : Atm} {w u u' : World} {a2 : Option Addr} {c2 : Nat} {a4 : Option Addr} {c4 : Nat} {a5 : Option Addr} {c5 : Nat} {a6 : Option Addr} {c6 : Nat} (hF : CpF x w a2 c2 a4 c4 a5 c5 a6 c6 u) (hb : Below u.heap.size u u') : CpF x w a2 c2 a4 c4 a5 c5 a6 c6 u' :=
 ⟨za hF.1 hb, za hF.2.1 hb, za hF.2.2.1 hb, za hF.2.2.2.1 hb, za hF.2.2.2.2.1 hb, za hF.2.2.2.2.2.1 hb, za hF.2.2.2.2.2.2.1 hb, za hF.2.2.2.2.2.2.2.1 hb, za hF.2.2.2.2.2.2.2.2 hb⟩
theorem CpF.same {x : Atm} {w u u' : World} {a2 : Option Addr} {c2 : Nat} {a4 : Option Addr} {c4 : Nat} {a5 : Option Addr} {c5 : Nat} {a6 : Option Addr} {c6 : Nat} (hF : CpF x w a2 c2 a4 c4 a5 c5 a6 c6 u) (h : u'.heap[w.heap.size]? = u.heap[w.heap.size]?) : CpF x w a2 c2 a4 c4 a5 c5 a6 c6 u' :=
 ⟨zl h hF.1, zl h hF.2.1, zl h hF.2.2.1, zl h hF.2.2.2.1, zl h hF.2.2.2.2.1, zl h hF.2.2.2.2.2.1, zl h hF.2.2.2.2.2.2.1, zl h hF.2.2.2.2.2.2.2.1, zl h hF.2.2.2.2.2.2.2.2⟩
theorem zau {u : World} {b : Nat} (h : ∀ j, u.cell? ⟨b, j, none⟩ = (#[.int .i64 0, .string ⟨#[]⟩, .slice none 0 0, .string ⟨#[]⟩, .slice none 0 0, .slice none 0 0, .slice none 0 0, .int .i64 0, .bool false] : Array Value)[j]?) : u.cell? ⟨b, 0, none⟩ = some (.int .i64 0) ∧ u.cell? ⟨b, 1, none⟩ = some (.string ⟨#[]⟩) ∧ u.cell? ⟨b, 2, none⟩ = some (.slice none 0 0) ∧ u.cell? ⟨b, 3, none⟩ = some (.string ⟨#[]⟩) ∧ u.cell? ⟨b, 4, none⟩ = some (.slice none 0 0) ∧ u.cell? ⟨b, 5, none⟩ = some (.slice none 0 0) ∧ u.cell? ⟨b, 6, none⟩ = some (.slice none 0 0) ∧ u.cell? ⟨b, 7, none⟩ = some (.int .i64 0) ∧ u.cell? ⟨b, 8, none⟩ = some (.bool false) :=
 ⟨h 0, h 1, h 2, h 3, h 4, h 5, h 6, h 7, h 8⟩
theorem zav {u : World} {b : Nat} (h : ∀ j, u.frozen? ⟨b, j, none⟩ = false) : u.frozen? ⟨b, 0, none⟩ = false ∧ u.frozen? ⟨b, 1, none⟩ = false ∧ u.frozen? ⟨b, 2, none⟩ = false ∧ u.frozen? ⟨b, 3, none⟩ = false ∧ u.frozen? ⟨b, 4, none⟩ = false ∧ u.frozen? ⟨b, 5, none⟩ = false ∧ u.frozen? ⟨b, 6, none⟩ = false ∧ u.frozen? ⟨b, 7, none⟩ = false ∧ u.frozen? ⟨b, 8, none⟩ = false :=
 ⟨h 0, h 1, h 2, h 3, h 4, h 5, h 6, h 7, h 8⟩
theorem zaN (v : World) : Below v.heap.size v (v.alloc (.cells #[.int .i64 0, .string ⟨#[]⟩, .slice none 0 0, .string ⟨#[]⟩, .slice none 0 0, .slice none 0 0, .slice none 0 0, .int .i64 0, .bool false] 28)) ∧ (v.alloc (.cells #[.int .i64 0, .string ⟨#[]⟩, .slice none 0 0, .string ⟨#[]⟩, .slice none 0 0, .slice none 0 0, .slice none 0 0, .int .i64 0, .bool false] 28)).heap.size = v.heap.size + 1 ∧ (∀ j, (v.alloc (.cells #[.int .i64 0, .string ⟨#[]⟩, .slice none 0 0, .string ⟨#[]⟩, .slice none 0 0, .slice none 0 0, .slice none 0 0, .int .i64 0, .bool false] 28)).cell? ⟨v.heap.size, j, none⟩ = (#[.int .i64 0, .string ⟨#[]⟩, .slice none 0 0, .string ⟨#[]⟩, .slice none 0 0, .slice none 0 0, .slice none 0 0, .int .i64 0, .bool false] : Array Value)[j]?) ∧ (∀ j, (v.alloc (.cells #[.int .i64 0, .string ⟨#[]⟩, .slice none 0 0, .string ⟨#[]⟩, .slice none 0 0, .slice none 0 0, .slice none 0 0, .int .i64 0, .bool false] 28)).frozen? ⟨v.heap.size, j, none⟩ = false) ∧ v.heap.size < (v.alloc (.cells #[.int .i64 0, .string ⟨#[]⟩, .slice none 0 0, .string ⟨#[]⟩, .slice none 0 0, .slice none 0 0, .slice none 0 0, .int .i64 0, .bool false] 28)).heap.size :=
 ⟨zc _ _, by simp, zJ _ _ _, zZ _ _ _, by simp⟩
theorem zt {x : Atm} {w u : World} {a2 : Option Addr} {c2 : Nat} {a4 : Option Addr} {c4 : Nat} {a5 : Option Addr} {c5 : Nat} {a6 : Option Addr} {c6 : Nat} {b : Nat} {zA : Option Addr} {cA : Nat} {zB : Option Addr} {cB : Nat} {zT : Option Addr} {cT : Nat} {fA fB fT : List Nat}
  (bel : Below w.heap.size w u) (size : w.heap.size + 1 + 1 ≤ u.heap.size) (lo : w.heap.size + 1 + 1 ≤ b) (hi : b < u.heap.size) (par : ∀ j, u.cell? ⟨w.heap.size, j, none⟩ = (#[.int .i64 x.kind, .string x.a.name, .slice a2 x.a.kids.length c2, .string x.b.name, .slice a4 x.b.kids.length c4, .slice a5 x.nums.length c5, .slice a6 x.times.length c6, .int .i64 x.bound, .bool x.strict] : Array Value)[j]?) (res : ∀ j, u.cell? ⟨w.heap.size + 1, j, none⟩ = (#[.int .i64 0, .string ⟨#[]⟩, .slice none 0 0, .string ⟨#[]⟩, .slice none 0 0, .slice none 0 0, .slice none 0 0, .int .i64 0, .bool false] : Array Value)[j]?) (rfree : ∀ j, u.frozen? ⟨w.heap.size + 1, j, none⟩ = false)
  (hc : ∀ j, u.cell? ⟨b, j, none⟩ = (#[.int .i64 0, .string ⟨#[]⟩, .slice none 0 0, .string ⟨#[]⟩, .slice none 0 0, .slice none 0 0, .slice none 0 0, .int .i64 0, .bool false] : Array Value)[j]?) (hf : ∀ j, u.frozen? ⟨b, j, none⟩ = false)
  (rA : Rd u (.sl (x.a.kids.map Tm.cd)) (.slice zA x.a.kids.length cA) fA) (rB : Rd u (.sl (x.b.kids.map Tm.cd)) (.slice zB x.b.kids.length cB) fB) (rT : Rd u (.sl (x.times.map zg)) (.slice zT x.times.length cT) fT)
  (fresh : Fresh (w.heap.size + 1 + 1) u ((([] ++ fA) ++ fB) ++ fT)) (away : ∀ y ∈ (([] ++ fA) ++ fB) ++ fT, y ≠ b) : CopyAt x w (zi b [(0, .int .i64 x.kind), (1, .string x.a.name), (2, .slice zA x.a.kids.length cA), (3, .string x.b.name), (4, .slice zB x.b.kids.length cB), (5, .slice none 0 0), (6, .slice zT x.times.length cT), (7, .int .i64 x.bound), (8, .bool x.strict)] u) a2 c2 a4 c4 a5 c5 a6 c6 b zA cA zB cB zT cT fA fB fT :=
 copyAt_mk bel size lo hi par res rfree (zI (b := b) [(0, .int .i64 x.kind), (1, .string x.a.name), (2, .slice zA x.a.kids.length cA), (3, .string x.b.name), (4, .slice zB x.b.kids.length cB), (5, .slice none 0 0), (6, .slice zT x.times.length cT), (7, .int .i64 x.bound), (8, .bool x.strict)] hc (by simp)) (zak (b := b) (b' := b) [(0, .int .i64 x.kind), (1, .string x.a.name), (2, .slice zA x.a.kids.length cA), (3, .string x.b.name), (4, .slice zB x.b.kids.length cB), (5, .slice none 0 0), (6, .slice zT x.times.length cT), (7, .int .i64 x.bound), (8, .bool x.strict)] hf) rA rB rT fresh away (Loc.sets (b := b) (lo := b) (hi := b + 1) (Nat.le_refl _) (Nat.lt_succ_self _) [(0, .int .i64 x.kind), (1, .string x.a.name), (2, .slice zA x.a.kids.length cA), (3, .string x.b.name), (4, .slice zB x.b.kids.length cB), (5, .slice none 0 0), (6, .slice zT x.times.length cT), (7, .int .i64 x.bound), (8, .bool x.strict)] (Loc.refl _ _ u))
set_option maxHeartbeats 40000000 in
theorem zb4 (x : Atm) (vs : List Value) (f : List Nat) (w : World) (hbig : x.small) (hbt : x.times.length ≤ 1048576) (hv : RdVs w x.cd vs f) :
  Calls Tryd.prog 27 #[.agg vs.toArray] w (zbQ x.cd w) := by
 obtain ⟨a2, c2, f2, a4, c4, f4, a5, c5, f5, a6, c6, f6, rfl, _, m0, m1, m2, m3, m4, m5, m6, m7⟩ := Atm.open hv
 unfold Atm.small at hbig
 have ha : x.a.size ≤ 1000000000 := by omega
 have hb' : x.b.size ≤ 1000000000 := by omega
 have hbb : Below (w.heap.size + 1 + 1) ((w.alloc (.cells #[.int .i64 x.kind, .string x.a.name, .slice a2 x.a.kids.length c2, .string x.b.name, .slice a4 x.b.kids.length c4, .slice a5 x.nums.length c5, .slice a6 x.times.length c6, .int .i64 x.bound, .bool x.strict] 28)).alloc (.cells #[.int .i64 0, .string ⟨#[]⟩, .slice none 0 0, .string ⟨#[]⟩, .slice none 0 0, .slice none 0 0, .slice none 0 0, .int .i64 0, .bool false] 28)) ((w.alloc (.cells #[.int .i64 x.kind, .string x.a.name, .slice a2 x.a.kids.length c2, .string x.b.name, .slice a4 x.b.kids.length c4, .slice a5 x.nums.length c5, .slice a6 x.times.length c6, .int .i64 x.bound, .bool x.strict] 28)).alloc (.cells #[.int .i64 0, .string ⟨#[]⟩, .slice none 0 0, .string ⟨#[]⟩, .slice none 0 0, .slice none 0 0, .slice none 0 0, .int .i64 0, .bool false] 28)) := Below.refl _ _
 obtain ⟨hx, hy, hz, hB⟩ := box2 hbb
 have hf2 := fun j => (zE hbb j).2
 clear hbb
 obtain ⟨W, hW⟩ : ∃ W, W = ((w.alloc (.cells #[.int .i64 x.kind, .string x.a.name, .slice a2 x.a.kids.length c2, .string x.b.name, .slice a4 x.b.kids.length c4, .slice a5 x.nums.length c5, .slice a6 x.times.length c6, .int .i64 x.bound, .bool x.strict] 28)).alloc (.cells #[.int .i64 0, .string ⟨#[]⟩, .slice none 0 0, .string ⟨#[]⟩, .slice none 0 0, .slice none 0 0, .slice none 0 0, .int .i64 0, .bool false] 28)) := ⟨_, rfl⟩
 go_enter Tryd.func27, Tryd.ntmps27
 go_wp2_with fail
 rw [← hW] at hx hy hz hB hf2 ⊢
 clear hW
 have C0 := hx 0
 have C1 := hx 1
 have C2 := hx 2
 have C3 := hx 3
 have C4 := hx 4
 have C5 := hx 5
 have C6 := hx 6
 have C7 := hx 7
 have C8 := hx 8
 simp only [zcb, zb9, zca] at C0 C1 C2 C3 C4 C5 C6 C7 C8
 have hF : (CpF x w a2 c2 a4 c4 a5 c5 a6 c6) W.drew := ⟨C0, C1, C2, C3, C4, C5, C6, C7, C8⟩
 clear C0 C1 C2 C3 C4 C5 C6 C7 C8
 replace hx : ∀ j, W.drew.cell? ⟨w.heap.size, j, none⟩ = (#[.int .i64 x.kind, .string x.a.name, .slice a2 x.a.kids.length c2, .string x.b.name, .slice a4 x.b.kids.length c4, .slice a5 x.nums.length c5, .slice a6 x.times.length c6, .int .i64 x.bound, .bool x.strict] : Array Value)[j]? := hx
 replace hy : ∀ j, W.drew.cell? ⟨w.heap.size + 1, j, none⟩ = (#[.int .i64 0, .string ⟨#[]⟩, .slice none 0 0, .string ⟨#[]⟩, .slice none 0 0, .slice none 0 0, .slice none 0 0, .int .i64 0, .bool false] : Array Value)[j]? := hy
 replace hf2 : ∀ j, W.drew.frozen? ⟨w.heap.size + 1, j, none⟩ = false := hf2
 replace hz : w.heap.size + 1 + 1 ≤ W.drew.heap.size := hz
 have hBc := hB.drew
 clear hB
 refine zbK (fun ac u => ∃ (b : Nat) (zA : Option Addr) (cA : Nat) (zB : Option Addr) (cB : Nat) (zT : Option Addr) (cT : Nat) (fA fB fT : List Nat) (u5 u6 u7 u8 u9 u10 u11 u12 u13 u14 u15 u16 u17 u18 u19 u20 u21 : Value), ac = ⟨#[.agg #[.int .i64 x.kind, .string x.a.name, .slice a2 x.a.kids.length c2, .string x.b.name, .slice a4 x.b.kids.length c4, .slice a5 x.nums.length c5, .slice a6 x.times.length c6, .int .i64 x.bound, .bool x.strict], .pointer (some ⟨w.heap.size, 0, none⟩), .pointer (some ⟨w.heap.size + 1, 0, none⟩), .pointer (some ⟨b, 0, none⟩), undef, u5, u6, u7, u8, u9, u10, u11, u12, u13, u14, u15, u16, u17, u18, u19, u20, u21, undef, undef, undef, undef, undef, undef, undef, undef, undef, undef, undef, undef, undef, undef, undef, undef, undef, undef, undef], []⟩ ∧ CopyAt x w u a2 c2 a4 c4 a5 c5 a6 c6 b zA cA zB cB zT cT fA fB fT) ?_ ?_
 ·intro ac u hT
  obtain ⟨b, zA, cA, zB, cB, zT, cT, fA, fB, fT, u5, u6, u7, u8, u9, u10, u11, u12, u13, u14, u15, u16, u17, u18, u19, u20, u21, rfl, st⟩ := hT
  clear hF hx hy hz hf2 hBc
  have ST := Lib.hid st
  have hlo := st.lo
  have hhi := st.hi
  have hszu := st.size
  have hm5 : TmsR w x.nums (.slice a5 x.nums.length c5) := ⟨f5, m5⟩
  have hlen := Tm.sizes_len x.nums
  have hsn : Tm.sizes x.nums ≤ 1100000 := by omega
  clear st m2 m4 m5 m6
  go_wp2_with fail
  go_loopw [4] (fun i wr => ∃ (k : Nat) (fp : List Nat) (ov : Value), k ≤ x.nums.length ∧ i = .int .i64 k ∧ Own wr u.heap.size 25 2 ov ((x.nums.take k).map Tm.cd) fp ∧ Fresh u.heap.size wr fp ∧
   (∀ j, wr.cell? ⟨b, j, none⟩ = (#[.int .i64 x.kind, .string x.a.name, .slice zA x.a.kids.length cA, .string x.b.name, .slice zB x.b.kids.length cB, ov, .slice zT x.times.length cT, .int .i64 x.bound, .bool x.strict] : Array Value)[j]?) ∧ (∀ j, wr.frozen? ⟨b, j, none⟩ = false) ∧ u.heap.size ≤ wr.heap.size ∧ (∀ q, q < u.heap.size → q ≠ b → wr.heap[q]? = u.heap[q]?) ∧ Below w.heap.size w wr) (fun i _ => x.nums.length - (intOf i).toNat)
  case atStart => exact ⟨0, [], .slice none 0 0, Nat.zero_le _, rfl, Own.nil _ _ _ _, Fresh.nil _ _, ST.out.box, ST.out.free, Nat.le_refl _, fun _ _ _ => rfl, ST.out.bel⟩
  case round =>
   obtain ⟨k, fp, ov, hkl, rfl, hown, hfr, hcb, hfb, hz, hsm, hbw⟩ := hrel
   have x5 : wr.cell? ⟨w.heap.size, 5, none⟩ = some (.slice a5 x.nums.length c5) := zl (hsm w.heap.size (by omega) (by omega)) (ST.out.par 5)
   have y5 : wr.cell? ⟨b, 5, none⟩ = some ov := hcb 5
   have g5 : wr.frozen? ⟨b, 5, none⟩ = false := hfb 5
   by_cases hlt : k < x.nums.length
   ·have m5w := hm5.below hbw
    obtain ⟨bk, off, rfl, hbs⟩ := m5w.addr (by omega)
    obtain ⟨ka, kc, c0, c1, hss, hkk⟩ := m5w.at hlt
    have hkn := Tm.size_mem (zcf hlt)
    clear hm5 m5w
    go_wp2_with fail
    have tok1 : True := trivial
    go_region_law (first
     | (have _t := @hown2; refine zad zaj rfl _ _ rfl u.heap.size _ _ fp rfl (by exact hown2) ⟨w2.heap.size, 0, none⟩ 1 1 [x.nums[k].cd] [.string x.nums[k].name, .slice a3 x.nums[k].kids.length cap3] fp3 rfl rfl (by simpa using Tm.rdvs hss hr3') (by simp [Tm.cd_len]) (by exact zw _ _ _) (by exact hown.away (Nat.le_refl _) hf3) (by have hl := zaa Tm.cd x.nums k; omega) (by have hl := zaa Tm.cd x.nums k; omega) (by simp; omega) ?_; intro v' w4 hown4 hg hv' hs4; obtain ⟨a4', n4', c4', rfl⟩ := hown4.form'; have hcb4 := fun q (hq : q < u.heap.size) => zaS hb3 hg (b := q) (by omega) (hown.row_ne hq); have y5' := zl (hcb4 b hhi) y5; have g5' := zO (hcb4 b hhi) g5)
     | (have _t := tok1; clear _t tok1; go_simp; go_at_call 33; refine (zj _ x.nums[k] _ _ (Nat.le_refl _) (by omega) (by exact (TmR.mk hss hkk).drew)).mono ?_; rintro e w2 ⟨kv3, fp3, rfl, hr3, hf3, hb3⟩; obtain ⟨a3, cap3, rfl, hg1, hg2⟩ := zM hr3; have hb3 := zo hb3; have hz2 := hb3.size; have hlz : b < w2.heap.size := (by omega); have hbk := hb3.block b (by omega); have y5w := zl hbk y5; have g5w := zO hbk g5; clear hbk; have hown2 := hown.below (hb3.alloc hb3.size (.cells #[.string x.nums[k].name, .slice a3 x.nums[k].kids.length cap3] 25)); have hr3' := hr3.below (zc w2 (.cells #[.string x.nums[k].name, .slice a3 x.nums[k].kids.length cap3] 25))))
    all_goals
     have hfr4 := ((Fresh.app (hfr.below hb3) hfr.lt hz hf3).below (zc w2 (.cells #[.string x.nums[k].name, .slice a3 x.nums[k].kids.length cap3] 25))).same hs4
     have hsz4 := hg.size
     simp only [World.size_alloc] at hsz4
     have hown5 := hown4.set_other hfr4 (b := b) (j := 5) (u := .slice a4' n4' c4') hhi
     have hfr5 := hfr4.same (zz (a := ⟨b, 5, none⟩) (v := .slice a4' n4' c4') (hfr4.ne (by exact hhi)))
     have hc5 := zI (b := b) [(5, .slice a4' n4' c4')] (fun j => (World.cell?_of_block (w := wr) (a := ⟨b, j, none⟩) (hcb4 b hhi)).trans (hcb j)) (by simp)
     have hf5 := zak (b := b) (b' := b) [(5, .slice a4' n4' c4')] (fun j => (zd (hcb4 b hhi)).trans (hfb j))
     have hL := Loc.sets (b := b) (lo := b) (hi := b + 1) (Nat.le_refl _) (Nat.lt_succ_self _) [(5, .slice a4' n4' c4')] (Loc.refl _ _ w4)
     have hsm5 : ∀ q, q < u.heap.size → q ≠ b → (w4.setCell ⟨b, 5, none⟩ (.slice a4' n4' c4')).heap[q]? = u.heap[q]? := fun q hq hn => ((hL.block q (by omega) (by omega)).trans (hcb4 q hq)).trans (hsm q hq hn)
     have hb5 : Below w.heap.size w (w4.setCell ⟨b, 5, none⟩ (.slice a4' n4' c4')) := (zh ((hbw.trans (hb3.mono (by omega))).alloc (by omega) _) hg (by simp; omega) (fun q hq => by have := (hown.block hq).1; omega)).setCell (by simp; omega) _
     have hzz := hL.size
     clear hL
     simp only [zi, zaq, zb7, zb8] at hc5 hf5 hzz
     go_wp2_with fail
     go_roundw
     case rel => exact ⟨k + 1, fp ++ fp3, .slice a4' n4' c4', by omega, by go_num, by rw [zcd hlt, zch]; simpa using hown5, hfr5, hc5, hf5, by omega, hsm5, hb5⟩
     case measure => simp [intOf]; omega
   ·have he : x.nums.take k = x.nums := List.take_of_length_le (by omega)
    rw [he] at hown
    obtain ⟨fp', hr', hf', _⟩ := hown.fresh hfr
    obtain ⟨oa, oc, rfl, _, _⟩ := zf hr'
    have st := ST.out
    have hal : SameOn ((fA ++ fB) ++ fT) u wr := fun q hq => hsm q (st.fresh.lt q hq) (st.away q hq)
    have hrA := st.rA.same _ (fun q hq => hal q (by simp [hq]))
    have hrB := st.rB.same _ (fun q hq => hal q (by simp [hq]))
    have hrT := st.rT.same _ (fun q hq => hal q (by simp [hq]))
    have hfx := (Fresh.app (st.fresh.same hal) st.fresh.lt hszu hf').perm4
    have hrx := Atm.close (x := x) m0 m1 hrA m3 hrB hr' hrT m7
    have yx : ∀ j, wr.cell? ⟨w.heap.size + 1, j, none⟩ = (#[.int .i64 0, .string ⟨#[]⟩, .slice none 0 0, .string ⟨#[]⟩, .slice none 0 0, .slice none 0 0, .slice none 0 0, .int .i64 0, .bool false] : Array Value)[j]? := fun j => (World.cell?_of_block (w := u) (a := ⟨w.heap.size + 1, j, none⟩) (hsm (w.heap.size + 1) (by omega) (by omega))).trans (st.res j)
    have fx : ∀ j, wr.frozen? ⟨w.heap.size + 1, j, none⟩ = false := fun j => (zd (hsm (w.heap.size + 1) (by omega) (by omega))).trans (st.rfree j)
    clear st hal hrA hrB hrT hr' hf' hown hfr hsm ST hm5 y5 g5
    have X0 := hcb 0
    have Y0 := yx 0
    have Z0 := fx 0
    have X1 := hcb 1
    have Y1 := yx 1
    have Z1 := fx 1
    have X2 := hcb 2
    have Y2 := yx 2
    have Z2 := fx 2
    have X3 := hcb 3
    have Y3 := yx 3
    have Z3 := fx 3
    have X4 := hcb 4
    have Y4 := yx 4
    have Z4 := fx 4
    have X5 := hcb 5
    have Y5 := yx 5
    have Z5 := fx 5
    have X6 := hcb 6
    have Y6 := yx 6
    have Z6 := fx 6
    have X7 := hcb 7
    have Y7 := yx 7
    have Z7 := fx 7
    have X8 := hcb 8
    have Y8 := yx 8
    have Z8 := fx 8
    simp only [zcb, zb9, zca] at X0 Y0 X1 Y1 X2 Y2 X3 Y3 X4 Y4 X5 Y5 X6 Y6 X7 Y7 X8 Y8
    have hres := zI (b := w.heap.size + 1) [(0, .int .i64 x.kind), (1, .string x.a.name), (2, .slice zA x.a.kids.length cA), (3, .string x.b.name), (4, .slice zB x.b.kids.length cB), (5, .slice oa x.nums.length oc), (6, .slice zT x.times.length cT), (7, .int .i64 x.bound), (8, .bool x.strict)] yx (by simp)
    have R0 := hres 0
    have R1 := hres 1
    have R2 := hres 2
    have R3 := hres 3
    have R4 := hres 4
    have R5 := hres 5
    have R6 := hres 6
    have R7 := hres 7
    have R8 := hres 8
    simp only [zi, zaq, zb7, zb8, zcb, zb9, zca] at R0 R1 R2 R3 R4 R5 R6 R7 R8
    clear hres fx hcb yx hfb
    have hL2 := Loc.sets (b := w.heap.size + 1) (lo := w.heap.size) (hi := w.heap.size + 1 + 1) (by omega) (by omega) [(0, .int .i64 x.kind), (1, .string x.a.name), (2, .slice zA x.a.kids.length cA), (3, .string x.b.name), (4, .slice zB x.b.kids.length cB), (5, .slice oa x.nums.length oc), (6, .slice zT x.times.length cT), (7, .int .i64 x.bound), (8, .bool x.strict)] (Loc.refl _ _ wr)
    have hB2 := hbw.trans (hL2.toBelow (B := w.heap.size) (by omega) (Nat.le_refl _))
    have hr2 := hrx.same _ (hL2.same (w0 := w) hfx)
    have hf2x := hfx.same (hL2.same (w0 := w) hfx)
    simp only [zi] at hB2 hr2 hf2x
    clear hL2 hbw hrx hfx
    go_wp2_with fail
    refine bodyPost_ret (v := .agg #[.int .i64 x.kind, .string x.a.name, .slice zA x.a.kids.length cA, .string x.b.name, .slice zB x.b.kids.length cB, .slice oa x.nums.length oc, .slice zT x.times.length cT, .int .i64 x.bound, .bool x.strict]) (by simp [results, Tryd.results27, go_sem, R0, R1, R2, R3, R4, R5, R6, R7, R8]) rfl ?_
    exact ⟨[.int .i64 x.kind, .string x.a.name, .slice zA x.a.kids.length cA, .string x.b.name, .slice zB x.b.kids.length cB, .slice oa x.nums.length oc, .slice zT x.times.length cT, .int .i64 x.bound, .bool x.strict], _, rfl, hr2, hf2x.mono (by omega), hB2⟩
 refine Till.start (F := fun U => (U.cell? ⟨w.heap.size, 0, none⟩ = some (.int .i64 x.kind) ∧ U.cell? ⟨w.heap.size, 1, none⟩ = some (.string x.a.name) ∧ U.cell? ⟨w.heap.size, 2, none⟩ = some (.slice a2 x.a.kids.length c2) ∧ U.cell? ⟨w.heap.size, 3, none⟩ = some (.string x.b.name) ∧ U.cell? ⟨w.heap.size, 4, none⟩ = some (.slice a4 x.b.kids.length c4) ∧ U.cell? ⟨w.heap.size, 5, none⟩ = some (.slice a5 x.nums.length c5) ∧ U.cell? ⟨w.heap.size, 6, none⟩ = some (.slice a6 x.times.length c6) ∧ U.cell? ⟨w.heap.size, 7, none⟩ = some (.int .i64 x.bound) ∧ U.cell? ⟨w.heap.size, 8, none⟩ = some (.bool x.strict))) (s0 := 18) (by kernel_rfl) ?_
 obtain ⟨vv, hV⟩ : ∃ v, v = W.drew := ⟨_, rfl⟩
 rw [← hV] at hx hy hz hBc hf2 hF ⊢
 clear hV
 have hFP : Fresh (w.heap.size + 1 + 1) vv [] := Fresh.nil _ _
 refine Till.take (i := 0) (v := .pointer (some ⟨w.heap.size, 0, none⟩)) rfl (by kernel_rfl) (by kernel_rfl) (by kernel_rfl) (fun _ _ _ h => h) (by kernel_rfl) (Or.inl ⟨by rfl, fun U hU => ?_⟩) hF ?_
 ·obtain ⟨g0, g1, g2, g3, g4, g5, g6, g7, g8⟩ := hU
  go_simp
 try simp only [Act.put, zb6, zb7, zb8]
 refine Till.take (i := 1) (v := .int .i64 x.kind) rfl (by kernel_rfl) (by kernel_rfl) (by kernel_rfl) (fun _ _ _ h => h) (by kernel_rfl) (Or.inl ⟨by rfl, fun U hU => ?_⟩) hF ?_
 ·obtain ⟨g0, g1, g2, g3, g4, g5, g6, g7, g8⟩ := hU
  go_simp
 try simp only [Act.put, zb6, zb7, zb8]
 refine Till.take (i := 2) (v := .pointer (some ⟨w.heap.size, 1, none⟩)) rfl (by kernel_rfl) (by kernel_rfl) (by kernel_rfl) (fun _ _ _ h => h) (by kernel_rfl) (Or.inl ⟨by rfl, fun U hU => ?_⟩) hF ?_
 ·obtain ⟨g0, g1, g2, g3, g4, g5, g6, g7, g8⟩ := hU
  go_simp
 try simp only [Act.put, zb6, zb7, zb8]
 refine Till.take (i := 3) (v := .agg #[.string x.a.name, .slice a2 x.a.kids.length c2]) rfl (by kernel_rfl) (by kernel_rfl) (by kernel_rfl) (fun _ _ _ h => h) (by kernel_rfl) (Or.inl ⟨by rfl, fun U hU => ?_⟩) hF ?_
 ·obtain ⟨g0, g1, g2, g3, g4, g5, g6, g7, g8⟩ := hU
  go_simp
 try simp only [Act.put, zb6, zb7, zb8]
 refine Till.take (i := 5) (v := .pointer (some ⟨w.heap.size, 3, none⟩)) rfl (by kernel_rfl) (by kernel_rfl) (by kernel_rfl) (fun _ _ _ h => h) (by kernel_rfl) (Or.inl ⟨by rfl, fun U hU => ?_⟩) hF ?_
 ·obtain ⟨g0, g1, g2, g3, g4, g5, g6, g7, g8⟩ := hU
  go_simp
 try simp only [Act.put, zb6, zb7, zb8]
 refine Till.take (i := 6) (v := .agg #[.string x.b.name, .slice a4 x.b.kids.length c4]) rfl (by kernel_rfl) (by kernel_rfl) (by kernel_rfl) (fun _ _ _ h => h) (by kernel_rfl) (Or.inl ⟨by rfl, fun U hU => ?_⟩) hF ?_
 ·obtain ⟨g0, g1, g2, g3, g4, g5, g6, g7, g8⟩ := hU
  go_simp
 try simp only [Act.put, zb6, zb7, zb8]
 refine Till.take (i := 9) (v := .pointer (some ⟨w.heap.size, 6, none⟩)) rfl (by kernel_rfl) (by kernel_rfl) (by kernel_rfl) (fun _ _ _ h => h) (by kernel_rfl) (Or.inl ⟨by rfl, fun U hU => ?_⟩) hF ?_
 ·obtain ⟨g0, g1, g2, g3, g4, g5, g6, g7, g8⟩ := hU
  go_simp
 try simp only [Act.put, zb6, zb7, zb8]
 refine Till.take (i := 10) (v := .slice a6 x.times.length c6) rfl (by kernel_rfl) (by kernel_rfl) (by kernel_rfl) (fun _ _ _ h => h) (by kernel_rfl) (Or.inl ⟨by rfl, fun U hU => ?_⟩) hF ?_
 ·obtain ⟨g0, g1, g2, g3, g4, g5, g6, g7, g8⟩ := hU
  go_simp
 try simp only [Act.put, zb6, zb7, zb8]
 refine Till.take (i := 12) (v := .pointer (some ⟨w.heap.size, 7, none⟩)) rfl (by kernel_rfl) (by kernel_rfl) (by kernel_rfl) (fun _ _ _ h => h) (by kernel_rfl) (Or.inl ⟨by rfl, fun U hU => ?_⟩) hF ?_
 ·obtain ⟨g0, g1, g2, g3, g4, g5, g6, g7, g8⟩ := hU
  go_simp
 try simp only [Act.put, zb6, zb7, zb8]
 refine Till.take (i := 13) (v := .int .i64 x.bound) rfl (by kernel_rfl) (by kernel_rfl) (by kernel_rfl) (fun _ _ _ h => h) (by kernel_rfl) (Or.inl ⟨by rfl, fun U hU => ?_⟩) hF ?_
 ·obtain ⟨g0, g1, g2, g3, g4, g5, g6, g7, g8⟩ := hU
  go_simp
 try simp only [Act.put, zb6, zb7, zb8]
 refine Till.take (i := 14) (v := .pointer (some ⟨w.heap.size, 8, none⟩)) rfl (by kernel_rfl) (by kernel_rfl) (by kernel_rfl) (fun _ _ _ h => h) (by kernel_rfl) (Or.inl ⟨by rfl, fun U hU => ?_⟩) hF ?_
 ·obtain ⟨g0, g1, g2, g3, g4, g5, g6, g7, g8⟩ := hU
  go_simp
 try simp only [Act.put, zb6, zb7, zb8]
 refine Till.take (i := 15) (v := .bool x.strict) rfl (by kernel_rfl) (by kernel_rfl) (by kernel_rfl) (fun _ _ _ h => h) (by kernel_rfl) (Or.inl ⟨by rfl, fun U hU => ?_⟩) hF ?_
 ·obtain ⟨g0, g1, g2, g3, g4, g5, g6, g7, g8⟩ := hU
  go_simp
 try simp only [Act.put, zb6, zb7, zb8]
 refine Till.three (i := 4) (j := 8) (k := 17) (by kernel_rfl) rfl rfl rfl (fun K hK => ?_) (fun K hK => ?_) (fun K hK => ?_)
 ·skip
  go_simp
  go_wp2_with (go_at_call 33; refine (zj _ x.a _ _ (Nat.le_refl _) ha (by exact (TmR.mk m1 ⟨f2, m2⟩).below hBc)).mono ?_; rintro e v0 ⟨kA, fA, rfl, hrA, hfA, hb⟩)
  obtain ⟨zA, cA, rfl, hc1A, hc2A⟩ := zf hrA
  have hlt0 := hFP.lt
  have hge : ∀ y ∈ fA, vv.heap.size ≤ y := fun y hy => (hfA.2 y hy).1
  have hFP2 := Fresh.app (hFP.below hb) hlt0 hz hfA
  have hzn := hb.size
  replace hBc := hBc.trans (hb.mono (by omega))
  replace hFP := hFP.below hb
  replace hF := hF.keep hb
  replace hx := zb hx (by omega) hb
  replace hy := zb hy (by omega) hb
  replace hf2 := ze hf2 (by omega) hb
  replace hz := Nat.le_trans hz hzn
  clear hb hzn
  replace hFP := hFP2
  clear hFP2 hge hlt0 hfA
  refine hK.out _ _ (fun _ => hF) ?_
  clear hK
  try simp only [Act.put, zb6, zb7, zb8]
  refine Till.three (i := 7) (j := 8) (k := 17) (by kernel_rfl) rfl rfl rfl (fun K hK => ?_) (fun K hK => ?_) (fun K hK => ?_)
  ·skip
   go_simp
   go_wp2_with (go_at_call 33; refine (zj _ x.b _ _ (Nat.le_refl _) hb' (by exact (TmR.mk m3 ⟨f4, m4⟩).below hBc)).mono ?_; rintro e v1 ⟨kB, fB, rfl, hrB, hfB, hb⟩)
   obtain ⟨zB, cB, rfl, hc1B, hc2B⟩ := zf hrB
   have hlt0 := hFP.lt
   have hge : ∀ y ∈ fB, v0.heap.size ≤ y := fun y hy => (hfB.2 y hy).1
   have hFP2 := Fresh.app (hFP.below hb) hlt0 hz hfB
   have hzn := hb.size
   replace hBc := hBc.trans (hb.mono (by omega))
   replace hFP := hFP.below hb
   replace hF := hF.keep hb
   replace hx := zb hx (by omega) hb
   replace hy := zb hy (by omega) hb
   replace hf2 := ze hf2 (by omega) hb
   replace hrA := hrA.below hb
   replace hz := Nat.le_trans hz hzn
   clear hb hzn
   replace hFP := hFP2
   clear hFP2 hge hlt0 hfB
   refine hK.out _ _ (fun _ => hF) ?_
   clear hK
   try simp only [Act.put, zb6, zb7, zb8]
   refine Till.two (i := 8) (j := 17) (by kernel_rfl) rfl rfl (fun K hK => ?_) (fun K hK => ?_)
   ·skip
    go_simp
    have hb := zc v1 (.cells #[] 3)
    have hsn := asz2 v1 (.cells #[] 3)
    have hown0 := Own.empty v1 (w.heap.size + 1 + 1) 3 1 hz
    have hn8 : ∀ y ∈ (([]) ++ fA) ++ fB, y ≠ v1.heap.size := fun y hy => Nat.ne_of_lt (hFP.lt y hy)
    have h8 : v1.heap.size < (v1.alloc (.cells #[] 3)).heap.size := by omega
    have hlo8 : w.heap.size + 1 + 1 ≤ v1.heap.size := hz
    obtain ⟨v2, hnew⟩ : ∃ v2, v2 = v1.alloc (.cells #[] 3) := ⟨_, rfl⟩
    rw [← hnew] at hb hown0 h8 hsn ⊢
    clear hnew hsn
    have hzn := hb.size
    replace hBc := hBc.trans (hb.mono (by omega))
    replace hFP := hFP.below hb
    replace hF := hF.keep hb
    replace hx := zb hx (by omega) hb
    replace hy := zb hy (by omega) hb
    replace hf2 := ze hf2 (by omega) hb
    replace hrA := hrA.below hb
    replace hrB := hrB.below hb
    replace hz := Nat.le_trans hz hzn
    clear hb hzn
    have hown := hown0
    clear hown0
    refine hK.out _ _ (fun _ => hF) ?_
    clear hK
    try simp only [Act.put, zb6, zb7, zb8]
    refine Till.two (i := 11) (j := 17) (by kernel_rfl) rfl rfl (fun K hK => ?_) (fun K hK => ?_)
    ·skip
     refine zp zx rfl _ _ rfl (w.heap.size + 1 + 1) (.slice (some ⟨v1.heap.size, 0, none⟩) 0 0) [] [] rfl hown (x.times.map zg) (.slice a6 x.times.length c6) f6 rfl (m6.below hBc) ?_ ?_ ?_ ?_ ?_ ?_
     ·simp only [List.mem_map]; rintro e ⟨t, _, rfl⟩; exact zq t
     ·intro q hq h; have h1 := m6.lt _ q hq; simp [Value.ownBlock] at h; omega
     ·simp; omega
     ·simp; omega
     ·exact hz
     intro vT v3 nfp _ hownT hg hvT
     try simp only [List.nil_append] at hownT
     obtain rfl : nfp = [] := by obtain ⟨ys, _, h, _⟩ := hownT; exact zu x.times _ _ _ h
     obtain ⟨fT, hrT, hfT, hmT⟩ := hownT.fresh (Fresh.nil _ _)
     obtain ⟨zT, cT, rfl, hc1T, hc2T⟩ := zf hrT
     have hsm : ∀ q, q < v2.heap.size → q ≠ v1.heap.size → v3.heap[q]? = v2.heap[q]? := fun q hq hn => hg.block q hq (fun e => hn (Option.some.inj e))
     have hzn := hg.size
     have hT2 : ∀ y ∈ fT, y = v1.heap.size ∨ v2.heap.size ≤ y := fun y hy => by
      rcases hmT y hy with h | h
      ·cases h
      ·rcases hvT y h with h1 | h1
       ·exact .inl (Option.some.inj h1).symm
       ·exact .inr h1
     have hltF := hFP.lt
     replace hBc := zh hBc hg (by omega) (fun q hq => by have h1 : v1.heap.size = q := Option.some.inj hq; omega)
     replace hrA := hrA.same _ (fun q hq => hsm q (hrA.lt _ q hq) (hn8 q (by simp [hq])))
     replace hrB := hrB.same _ (fun q hq => hsm q (hrB.lt _ q hq) (hn8 q (by simp [hq])))
     have hFP2 := Fresh.join (hFP.same (fun q hq => hsm q (hltF q hq) (hn8 q hq))) hfT (fun q hq hq' => by
      rcases hT2 q hq' with h | h
      ·exact hn8 q hq h
      ·have := hltF q hq; omega)
     replace hF := hF.same (hsm w.heap.size (by omega) (by omega))
     replace hx : ∀ j, v3.cell? ⟨w.heap.size, j, none⟩ = _ := fun j => (World.cell?_of_block (w := v2) (a := ⟨w.heap.size, j, none⟩) (hsm w.heap.size (by omega) (by omega))).trans (hx j)
     replace hy : ∀ j, v3.cell? ⟨w.heap.size + 1, j, none⟩ = _ := fun j => (World.cell?_of_block (w := v2) (a := ⟨w.heap.size + 1, j, none⟩) (hsm (w.heap.size + 1) (by omega) (by omega))).trans (hy j)
     replace hf2 : ∀ j, v3.frozen? ⟨w.heap.size + 1, j, none⟩ = false := fun j => (zd (hsm (w.heap.size + 1) (by omega) (by omega))).trans (hf2 j)
     replace hFP := hFP2
     replace hz := Nat.le_trans hz hzn
     clear hFP2 hltF hT2 hsm hzn hg hvT hownT hmT hfT hown hn8 h8
     refine hK.out _ _ (fun _ => hF) ?_
     clear hK
     try simp only [Act.put, zb6, zb7, zb8]
     refine Till.free (i := 16) (v := .agg #[.int .i64 x.kind, .string x.a.name, .slice zA x.a.kids.length cA, .string x.b.name, .slice zB x.b.kids.length cB, .slice none 0 0, .slice zT x.times.length cT, .int .i64 x.bound, .bool x.strict]) rfl (by kernel_rfl) (by kernel_rfl) (by kernel_rfl) (fun _ _ _ h => h) (by kernel_rfl) (Or.inl ⟨by rfl, fun U _ => ?_⟩) (fun _ => hF) ?_
     ·go_simp
     try simp only [Act.put, zb6, zb7, zb8]
     refine Till.one (i := 17) (by kernel_rfl) rfl (fun K hK => ?_)
     go_simp
     obtain ⟨hb, hsn, hc17, hf17, h17⟩ := zaN v3
     have hn17 : ∀ y ∈ ((([]) ++ fA) ++ fB) ++ fT, y ≠ v3.heap.size := fun y hy => Nat.ne_of_lt (hFP.lt y hy)
     have hlo17 : w.heap.size + 1 + 1 ≤ v3.heap.size := hz
     obtain ⟨v4, hnew⟩ : ∃ v4, v4 = v3.alloc (.cells #[.int .i64 0, .string ⟨#[]⟩, .slice none 0 0, .string ⟨#[]⟩, .slice none 0 0, .slice none 0 0, .slice none 0 0, .int .i64 0, .bool false] 28) := ⟨_, rfl⟩
     rw [← hnew] at hb hc17 hf17 h17 hsn ⊢
     clear hnew hsn
     have hzn := hb.size
     replace hBc := hBc.trans (hb.mono (by omega))
     replace hFP := hFP.below hb
     replace hF := hF.keep hb
     replace hx := zb hx (by omega) hb
     replace hy := zb hy (by omega) hb
     replace hf2 := ze hf2 (by omega) hb
     replace hrA := hrA.below hb
     replace hrB := hrB.below hb
     replace hrT := hrT.below hb
     replace hz := Nat.le_trans hz hzn
     clear hb hzn
     refine hK.out _ _ (fun _ => hF) ?_
     clear hK
     try simp only [Act.put, zb6, zb7, zb8]
     refine Till.one (i := 18) (by kernel_rfl) rfl (fun K hK => ?_)
     obtain ⟨P0, P1, P2, P3, P4, P5, P6, P7, P8⟩ := zau hc17
     obtain ⟨Q0, Q1, Q2, Q3, Q4, Q5, Q6, Q7, Q8⟩ := zav hf17
     have hend := zt hBc hz hlo17 h17 hx hy hf2 hc17 hf17 hrA hrB hrT hFP hn17
     clear hx hy hf2 hc17 hf17 hFP hn17 hrA hrB hrT hBc
     simp only [zi] at hend
     go_simp
     refine hK.out _ _ (fun h => absurd h (by decide)) ?_
     clear hK
     try simp only [Act.put, zb6, zb7, zb8]
     refine Till.done (by kernel_rfl) ?_ _
     exact ⟨_, _, _, _, _, _, _, _, _, _, _, _, _, _, _, _, _, _, _, _, _, _, _, _, _, _, _, rfl, hend⟩
    ·skip
     go_simp
     obtain ⟨hb, hsn, hc17, hf17, h17⟩ := zaN v2
     have hn17 : ∀ y ∈ (([]) ++ fA) ++ fB, y ≠ v2.heap.size := fun y hy => Nat.ne_of_lt (hFP.lt y hy)
     have hlo17 : w.heap.size + 1 + 1 ≤ v2.heap.size := hz
     have h817 : v1.heap.size ≠ v2.heap.size := by omega
     obtain ⟨v3, hnew⟩ : ∃ v3, v3 = v2.alloc (.cells #[.int .i64 0, .string ⟨#[]⟩, .slice none 0 0, .string ⟨#[]⟩, .slice none 0 0, .slice none 0 0, .slice none 0 0, .int .i64 0, .bool false] 28) := ⟨_, rfl⟩
     rw [← hnew] at hb hc17 hf17 h17 hsn ⊢
     clear hnew hsn
     have hzn := hb.size
     replace hBc := hBc.trans (hb.mono (by omega))
     replace hFP := hFP.below hb
     replace hF := hF.keep hb
     replace hx := zb hx (by omega) hb
     replace hy := zb hy (by omega) hb
     replace hf2 := ze hf2 (by omega) hb
     replace hrA := hrA.below hb
     replace hrB := hrB.below hb
     replace hown := hown.below hb
     replace h8 := zcc h8 hzn
     replace hz := Nat.le_trans hz hzn
     clear hb hzn
     refine hK.out _ _ (fun _ => hF) ?_
     clear hK
     try simp only [Act.put, zb6, zb7, zb8]
     refine Till.one (i := 11) (by kernel_rfl) rfl (fun K hK => ?_)
     refine zp zx rfl _ _ rfl (w.heap.size + 1 + 1) (.slice (some ⟨v1.heap.size, 0, none⟩) 0 0) [] [] rfl hown (x.times.map zg) (.slice a6 x.times.length c6) f6 rfl (m6.below hBc) ?_ ?_ ?_ ?_ ?_ ?_
     ·simp only [List.mem_map]; rintro e ⟨t, _, rfl⟩; exact zq t
     ·intro q hq h; have h1 := m6.lt _ q hq; simp [Value.ownBlock] at h; omega
     ·simp; omega
     ·simp; omega
     ·exact hz
     intro vT v4 nfp _ hownT hg hvT
     try simp only [List.nil_append] at hownT
     obtain rfl : nfp = [] := by obtain ⟨ys, _, h, _⟩ := hownT; exact zu x.times _ _ _ h
     obtain ⟨fT, hrT, hfT, hmT⟩ := hownT.fresh (Fresh.nil _ _)
     obtain ⟨zT, cT, rfl, hc1T, hc2T⟩ := zf hrT
     have hsm : ∀ q, q < v3.heap.size → q ≠ v1.heap.size → v4.heap[q]? = v3.heap[q]? := fun q hq hn => hg.block q hq (fun e => hn (Option.some.inj e))
     have hzn := hg.size
     have hT2 : ∀ y ∈ fT, y = v1.heap.size ∨ v3.heap.size ≤ y := fun y hy => by
      rcases hmT y hy with h | h
      ·cases h
      ·rcases hvT y h with h1 | h1
       ·exact .inl (Option.some.inj h1).symm
       ·exact .inr h1
     have hltF := hFP.lt
     replace hBc := zh hBc hg (by omega) (fun q hq => by have h1 : v1.heap.size = q := Option.some.inj hq; omega)
     replace hrA := hrA.same _ (fun q hq => hsm q (hrA.lt _ q hq) (hn8 q (by simp [hq])))
     replace hrB := hrB.same _ (fun q hq => hsm q (hrB.lt _ q hq) (hn8 q (by simp [hq])))
     have hFP2 := Fresh.join (hFP.same (fun q hq => hsm q (hltF q hq) (hn8 q hq))) hfT (fun q hq hq' => by
      rcases hT2 q hq' with h | h
      ·exact hn8 q hq h
      ·have := hltF q hq; omega)
     replace hF := hF.same (hsm w.heap.size (by omega) (by omega))
     replace hx : ∀ j, v4.cell? ⟨w.heap.size, j, none⟩ = _ := fun j => (World.cell?_of_block (w := v3) (a := ⟨w.heap.size, j, none⟩) (hsm w.heap.size (by omega) (by omega))).trans (hx j)
     replace hy : ∀ j, v4.cell? ⟨w.heap.size + 1, j, none⟩ = _ := fun j => (World.cell?_of_block (w := v3) (a := ⟨w.heap.size + 1, j, none⟩) (hsm (w.heap.size + 1) (by omega) (by omega))).trans (hy j)
     replace hf2 : ∀ j, v4.frozen? ⟨w.heap.size + 1, j, none⟩ = false := fun j => (zd (hsm (w.heap.size + 1) (by omega) (by omega))).trans (hf2 j)
     replace hc17 : ∀ j, v4.cell? ⟨v2.heap.size, j, none⟩ = _ := fun j => (World.cell?_of_block (w := v3) (a := ⟨v2.heap.size, j, none⟩) (hsm (v2.heap.size) h17 (Ne.symm h817))).trans (hc17 j)
     replace hf17 : ∀ j, v4.frozen? ⟨v2.heap.size, j, none⟩ = false := fun j => (zd (hsm (v2.heap.size) h17 (Ne.symm h817))).trans (hf17 j)
     have hn17' : ∀ y ∈ ((([]) ++ fA) ++ fB) ++ fT, y ≠ v2.heap.size := fun y hy => by
      rcases zce.1 hy with h | h
      ·exact hn17 y h
      ·rcases hT2 y h with h1 | h1
       ·rw [h1]; exact h817
       ·omega
     replace hn17 := hn17'
     clear hn17'
     replace h17 := zcc h17 hzn
     replace hFP := hFP2
     replace hz := Nat.le_trans hz hzn
     clear hFP2 hltF hT2 hsm hzn hg hvT hownT hmT hfT hown hn8 h8
     refine hK.out _ _ (fun _ => hF) ?_
     clear hK
     try simp only [Act.put, zb6, zb7, zb8]
     refine Till.free (i := 16) (v := .agg #[.int .i64 x.kind, .string x.a.name, .slice zA x.a.kids.length cA, .string x.b.name, .slice zB x.b.kids.length cB, .slice none 0 0, .slice zT x.times.length cT, .int .i64 x.bound, .bool x.strict]) rfl (by kernel_rfl) (by kernel_rfl) (by kernel_rfl) (fun _ _ _ h => h) (by kernel_rfl) (Or.inl ⟨by rfl, fun U _ => ?_⟩) (fun _ => hF) ?_
     ·go_simp
     try simp only [Act.put, zb6, zb7, zb8]
     refine Till.one (i := 18) (by kernel_rfl) rfl (fun K hK => ?_)
     obtain ⟨P0, P1, P2, P3, P4, P5, P6, P7, P8⟩ := zau hc17
     obtain ⟨Q0, Q1, Q2, Q3, Q4, Q5, Q6, Q7, Q8⟩ := zav hf17
     have hend := zt hBc hz hlo17 h17 hx hy hf2 hc17 hf17 hrA hrB hrT hFP hn17
     clear hx hy hf2 hc17 hf17 hFP hn17 hrA hrB hrT hBc
     simp only [zi] at hend
     go_simp
     refine hK.out _ _ (fun h => absurd h (by decide)) ?_
     clear hK
     try simp only [Act.put, zb6, zb7, zb8]
     refine Till.done (by kernel_rfl) ?_ _
     exact ⟨_, _, _, _, _, _, _, _, _, _, _, _, _, _, _, _, _, _, _, _, _, _, _, _, _, _, _, rfl, hend⟩
   ·skip
    go_simp
    obtain ⟨hb, hsn, hc17, hf17, h17⟩ := zaN v1
    have hn17 : ∀ y ∈ (([]) ++ fA) ++ fB, y ≠ v1.heap.size := fun y hy => Nat.ne_of_lt (hFP.lt y hy)
    have hlo17 : w.heap.size + 1 + 1 ≤ v1.heap.size := hz
    obtain ⟨v2, hnew⟩ : ∃ v2, v2 = v1.alloc (.cells #[.int .i64 0, .string ⟨#[]⟩, .slice none 0 0, .string ⟨#[]⟩, .slice none 0 0, .slice none 0 0, .slice none 0 0, .int .i64 0, .bool false] 28) := ⟨_, rfl⟩
    rw [← hnew] at hb hc17 hf17 h17 hsn ⊢
    clear hnew hsn
    have hzn := hb.size
    replace hBc := hBc.trans (hb.mono (by omega))
    replace hFP := hFP.below hb
    replace hF := hF.keep hb
    replace hx := zb hx (by omega) hb
    replace hy := zb hy (by omega) hb
    replace hf2 := ze hf2 (by omega) hb
    replace hrA := hrA.below hb
    replace hrB := hrB.below hb
    replace hz := Nat.le_trans hz hzn
    clear hb hzn
    refine hK.out _ _ (fun _ => hF) ?_
    clear hK
    try simp only [Act.put, zb6, zb7, zb8]
    refine Till.one (i := 8) (by kernel_rfl) rfl (fun K hK => ?_)
    go_simp
    have hb := zc v2 (.cells #[] 3)
    have hsn := asz2 v2 (.cells #[] 3)
    have hown0 := Own.empty v2 (w.heap.size + 1 + 1) 3 1 hz
    have hn8 : ∀ y ∈ (([]) ++ fA) ++ fB, y ≠ v2.heap.size := fun y hy => Nat.ne_of_lt (hFP.lt y hy)
    have h8 : v2.heap.size < (v2.alloc (.cells #[] 3)).heap.size := by omega
    have hlo8 : w.heap.size + 1 + 1 ≤ v2.heap.size := hz
    have h817 : v2.heap.size ≠ v1.heap.size := by omega
    obtain ⟨v3, hnew⟩ : ∃ v3, v3 = v2.alloc (.cells #[] 3) := ⟨_, rfl⟩
    rw [← hnew] at hb hown0 h8 hsn ⊢
    clear hnew hsn
    have hzn := hb.size
    replace hBc := hBc.trans (hb.mono (by omega))
    replace hFP := hFP.below hb
    replace hF := hF.keep hb
    replace hx := zb hx (by omega) hb
    replace hy := zb hy (by omega) hb
    replace hf2 := ze hf2 (by omega) hb
    replace hrA := hrA.below hb
    replace hrB := hrB.below hb
    replace hc17 := zb hc17 h17 hb
    replace hf17 := ze hf17 h17 hb
    replace h17 := zcc h17 hzn
    replace hz := Nat.le_trans hz hzn
    clear hb hzn
    have hown := hown0
    clear hown0
    refine hK.out _ _ (fun _ => hF) ?_
    clear hK
    try simp only [Act.put, zb6, zb7, zb8]
    refine Till.one (i := 11) (by kernel_rfl) rfl (fun K hK => ?_)
    refine zp zx rfl _ _ rfl (w.heap.size + 1 + 1) (.slice (some ⟨v2.heap.size, 0, none⟩) 0 0) [] [] rfl hown (x.times.map zg) (.slice a6 x.times.length c6) f6 rfl (m6.below hBc) ?_ ?_ ?_ ?_ ?_ ?_
    ·simp only [List.mem_map]; rintro e ⟨t, _, rfl⟩; exact zq t
    ·intro q hq h; have h1 := m6.lt _ q hq; simp [Value.ownBlock] at h; omega
    ·simp; omega
    ·simp; omega
    ·exact hz
    intro vT v4 nfp _ hownT hg hvT
    try simp only [List.nil_append] at hownT
    obtain rfl : nfp = [] := by obtain ⟨ys, _, h, _⟩ := hownT; exact zu x.times _ _ _ h
    obtain ⟨fT, hrT, hfT, hmT⟩ := hownT.fresh (Fresh.nil _ _)
    obtain ⟨zT, cT, rfl, hc1T, hc2T⟩ := zf hrT
    have hsm : ∀ q, q < v3.heap.size → q ≠ v2.heap.size → v4.heap[q]? = v3.heap[q]? := fun q hq hn => hg.block q hq (fun e => hn (Option.some.inj e))
    have hzn := hg.size
    have hT2 : ∀ y ∈ fT, y = v2.heap.size ∨ v3.heap.size ≤ y := fun y hy => by
     rcases hmT y hy with h | h
     ·cases h
     ·rcases hvT y h with h1 | h1
      ·exact .inl (Option.some.inj h1).symm
      ·exact .inr h1
    have hltF := hFP.lt
    replace hBc := zh hBc hg (by omega) (fun q hq => by have h1 : v2.heap.size = q := Option.some.inj hq; omega)
    replace hrA := hrA.same _ (fun q hq => hsm q (hrA.lt _ q hq) (hn8 q (by simp [hq])))
    replace hrB := hrB.same _ (fun q hq => hsm q (hrB.lt _ q hq) (hn8 q (by simp [hq])))
    have hFP2 := Fresh.join (hFP.same (fun q hq => hsm q (hltF q hq) (hn8 q hq))) hfT (fun q hq hq' => by
     rcases hT2 q hq' with h | h
     ·exact hn8 q hq h
     ·have := hltF q hq; omega)
    replace hF := hF.same (hsm w.heap.size (by omega) (by omega))
    replace hx : ∀ j, v4.cell? ⟨w.heap.size, j, none⟩ = _ := fun j => (World.cell?_of_block (w := v3) (a := ⟨w.heap.size, j, none⟩) (hsm w.heap.size (by omega) (by omega))).trans (hx j)
    replace hy : ∀ j, v4.cell? ⟨w.heap.size + 1, j, none⟩ = _ := fun j => (World.cell?_of_block (w := v3) (a := ⟨w.heap.size + 1, j, none⟩) (hsm (w.heap.size + 1) (by omega) (by omega))).trans (hy j)
    replace hf2 : ∀ j, v4.frozen? ⟨w.heap.size + 1, j, none⟩ = false := fun j => (zd (hsm (w.heap.size + 1) (by omega) (by omega))).trans (hf2 j)
    replace hc17 : ∀ j, v4.cell? ⟨v1.heap.size, j, none⟩ = _ := fun j => (World.cell?_of_block (w := v3) (a := ⟨v1.heap.size, j, none⟩) (hsm (v1.heap.size) h17 (Ne.symm h817))).trans (hc17 j)
    replace hf17 : ∀ j, v4.frozen? ⟨v1.heap.size, j, none⟩ = false := fun j => (zd (hsm (v1.heap.size) h17 (Ne.symm h817))).trans (hf17 j)
    have hn17' : ∀ y ∈ ((([]) ++ fA) ++ fB) ++ fT, y ≠ v1.heap.size := fun y hy => by
     rcases zce.1 hy with h | h
     ·exact hn17 y h
     ·rcases hT2 y h with h1 | h1
      ·rw [h1]; exact h817
      ·omega
    replace hn17 := hn17'
    clear hn17'
    replace h17 := zcc h17 hzn
    replace hFP := hFP2
    replace hz := Nat.le_trans hz hzn
    clear hFP2 hltF hT2 hsm hzn hg hvT hownT hmT hfT hown hn8 h8
    refine hK.out _ _ (fun _ => hF) ?_
    clear hK
    try simp only [Act.put, zb6, zb7, zb8]
    refine Till.free (i := 16) (v := .agg #[.int .i64 x.kind, .string x.a.name, .slice zA x.a.kids.length cA, .string x.b.name, .slice zB x.b.kids.length cB, .slice none 0 0, .slice zT x.times.length cT, .int .i64 x.bound, .bool x.strict]) rfl (by kernel_rfl) (by kernel_rfl) (by kernel_rfl) (fun _ _ _ h => h) (by kernel_rfl) (Or.inl ⟨by rfl, fun U _ => ?_⟩) (fun _ => hF) ?_
    ·go_simp
    try simp only [Act.put, zb6, zb7, zb8]
    refine Till.one (i := 18) (by kernel_rfl) rfl (fun K hK => ?_)
    obtain ⟨P0, P1, P2, P3, P4, P5, P6, P7, P8⟩ := zau hc17
    obtain ⟨Q0, Q1, Q2, Q3, Q4, Q5, Q6, Q7, Q8⟩ := zav hf17
    have hend := zt hBc hz hlo17 h17 hx hy hf2 hc17 hf17 hrA hrB hrT hFP hn17
    clear hx hy hf2 hc17 hf17 hFP hn17 hrA hrB hrT hBc
    simp only [zi] at hend
    go_simp
    refine hK.out _ _ (fun h => absurd h (by decide)) ?_
    clear hK
    try simp only [Act.put, zb6, zb7, zb8]
    refine Till.done (by kernel_rfl) ?_ _
    exact ⟨_, _, _, _, _, _, _, _, _, _, _, _, _, _, _, _, _, _, _, _, _, _, _, _, _, _, _, rfl, hend⟩
  ·skip
   go_simp
   have hb := zc v0 (.cells #[] 3)
   have hsn := asz2 v0 (.cells #[] 3)
   have hown0 := Own.empty v0 (w.heap.size + 1 + 1) 3 1 hz
   have hn8 : ∀ y ∈ ([]) ++ fA, y ≠ v0.heap.size := fun y hy => Nat.ne_of_lt (hFP.lt y hy)
   have h8 : v0.heap.size < (v0.alloc (.cells #[] 3)).heap.size := by omega
   have hlo8 : w.heap.size + 1 + 1 ≤ v0.heap.size := hz
   obtain ⟨v1, hnew⟩ : ∃ v1, v1 = v0.alloc (.cells #[] 3) := ⟨_, rfl⟩
   rw [← hnew] at hb hown0 h8 hsn ⊢
   clear hnew hsn
   have hzn := hb.size
   replace hBc := hBc.trans (hb.mono (by omega))
   replace hFP := hFP.below hb
   replace hF := hF.keep hb
   replace hx := zb hx (by omega) hb
   replace hy := zb hy (by omega) hb
   replace hf2 := ze hf2 (by omega) hb
   replace hrA := hrA.below hb
   replace hz := Nat.le_trans hz hzn
   clear hb hzn
   have hown := hown0
   clear hown0
   refine hK.out _ _ (fun _ => hF) ?_
   clear hK
   try simp only [Act.put, zb6, zb7, zb8]
   refine Till.two (i := 7) (j := 17) (by kernel_rfl) rfl rfl (fun K hK => ?_) (fun K hK => ?_)
   ·skip
    go_simp
    go_wp2_with (go_at_call 33; refine (zj _ x.b _ _ (Nat.le_refl _) hb' (by exact (TmR.mk m3 ⟨f4, m4⟩).below hBc)).mono ?_; rintro e v2 ⟨kB, fB, rfl, hrB, hfB, hb⟩)
    obtain ⟨zB, cB, rfl, hc1B, hc2B⟩ := zf hrB
    have hlt0 := hFP.lt
    have hge : ∀ y ∈ fB, v1.heap.size ≤ y := fun y hy => (hfB.2 y hy).1
    have hFP2 := Fresh.app (hFP.below hb) hlt0 hz hfB
    have hn8' : ∀ y ∈ (([]) ++ fA) ++ fB, y ≠ v0.heap.size := fun y hy => by
     rcases zce.1 hy with h | h
     ·exact hn8 y h
     ·have := hge y h; omega
    have hzn := hb.size
    replace hBc := hBc.trans (hb.mono (by omega))
    replace hFP := hFP.below hb
    replace hF := hF.keep hb
    replace hx := zb hx (by omega) hb
    replace hy := zb hy (by omega) hb
    replace hf2 := ze hf2 (by omega) hb
    replace hrA := hrA.below hb
    replace hown := hown.below hb
    replace h8 := zcc h8 hzn
    replace hz := Nat.le_trans hz hzn
    clear hb hzn
    replace hFP := hFP2
    clear hFP2 hge hlt0 hfB
    replace hn8 := hn8'
    clear hn8'
    refine hK.out _ _ (fun _ => hF) ?_
    clear hK
    try simp only [Act.put, zb6, zb7, zb8]
    refine Till.two (i := 11) (j := 17) (by kernel_rfl) rfl rfl (fun K hK => ?_) (fun K hK => ?_)
    ·skip
     refine zp zx rfl _ _ rfl (w.heap.size + 1 + 1) (.slice (some ⟨v0.heap.size, 0, none⟩) 0 0) [] [] rfl hown (x.times.map zg) (.slice a6 x.times.length c6) f6 rfl (m6.below hBc) ?_ ?_ ?_ ?_ ?_ ?_
     ·simp only [List.mem_map]; rintro e ⟨t, _, rfl⟩; exact zq t
     ·intro q hq h; have h1 := m6.lt _ q hq; simp [Value.ownBlock] at h; omega
     ·simp; omega
     ·simp; omega
     ·exact hz
     intro vT v3 nfp _ hownT hg hvT
     try simp only [List.nil_append] at hownT
     obtain rfl : nfp = [] := by obtain ⟨ys, _, h, _⟩ := hownT; exact zu x.times _ _ _ h
     obtain ⟨fT, hrT, hfT, hmT⟩ := hownT.fresh (Fresh.nil _ _)
     obtain ⟨zT, cT, rfl, hc1T, hc2T⟩ := zf hrT
     have hsm : ∀ q, q < v2.heap.size → q ≠ v0.heap.size → v3.heap[q]? = v2.heap[q]? := fun q hq hn => hg.block q hq (fun e => hn (Option.some.inj e))
     have hzn := hg.size
     have hT2 : ∀ y ∈ fT, y = v0.heap.size ∨ v2.heap.size ≤ y := fun y hy => by
      rcases hmT y hy with h | h
      ·cases h
      ·rcases hvT y h with h1 | h1
       ·exact .inl (Option.some.inj h1).symm
       ·exact .inr h1
     have hltF := hFP.lt
     replace hBc := zh hBc hg (by omega) (fun q hq => by have h1 : v0.heap.size = q := Option.some.inj hq; omega)
     replace hrA := hrA.same _ (fun q hq => hsm q (hrA.lt _ q hq) (hn8 q (by simp [hq])))
     replace hrB := hrB.same _ (fun q hq => hsm q (hrB.lt _ q hq) (hn8 q (by simp [hq])))
     have hFP2 := Fresh.join (hFP.same (fun q hq => hsm q (hltF q hq) (hn8 q hq))) hfT (fun q hq hq' => by
      rcases hT2 q hq' with h | h
      ·exact hn8 q hq h
      ·have := hltF q hq; omega)
     replace hF := hF.same (hsm w.heap.size (by omega) (by omega))
     replace hx : ∀ j, v3.cell? ⟨w.heap.size, j, none⟩ = _ := fun j => (World.cell?_of_block (w := v2) (a := ⟨w.heap.size, j, none⟩) (hsm w.heap.size (by omega) (by omega))).trans (hx j)
     replace hy : ∀ j, v3.cell? ⟨w.heap.size + 1, j, none⟩ = _ := fun j => (World.cell?_of_block (w := v2) (a := ⟨w.heap.size + 1, j, none⟩) (hsm (w.heap.size + 1) (by omega) (by omega))).trans (hy j)
     replace hf2 : ∀ j, v3.frozen? ⟨w.heap.size + 1, j, none⟩ = false := fun j => (zd (hsm (w.heap.size + 1) (by omega) (by omega))).trans (hf2 j)
     replace hFP := hFP2
     replace hz := Nat.le_trans hz hzn
     clear hFP2 hltF hT2 hsm hzn hg hvT hownT hmT hfT hown hn8 h8
     refine hK.out _ _ (fun _ => hF) ?_
     clear hK
     try simp only [Act.put, zb6, zb7, zb8]
     refine Till.free (i := 16) (v := .agg #[.int .i64 x.kind, .string x.a.name, .slice zA x.a.kids.length cA, .string x.b.name, .slice zB x.b.kids.length cB, .slice none 0 0, .slice zT x.times.length cT, .int .i64 x.bound, .bool x.strict]) rfl (by kernel_rfl) (by kernel_rfl) (by kernel_rfl) (fun _ _ _ h => h) (by kernel_rfl) (Or.inl ⟨by rfl, fun U _ => ?_⟩) (fun _ => hF) ?_
     ·go_simp
     try simp only [Act.put, zb6, zb7, zb8]
     refine Till.one (i := 17) (by kernel_rfl) rfl (fun K hK => ?_)
     go_simp
     obtain ⟨hb, hsn, hc17, hf17, h17⟩ := zaN v3
     have hn17 : ∀ y ∈ ((([]) ++ fA) ++ fB) ++ fT, y ≠ v3.heap.size := fun y hy => Nat.ne_of_lt (hFP.lt y hy)
     have hlo17 : w.heap.size + 1 + 1 ≤ v3.heap.size := hz
     obtain ⟨v4, hnew⟩ : ∃ v4, v4 = v3.alloc (.cells #[.int .i64 0, .string ⟨#[]⟩, .slice none 0 0, .string ⟨#[]⟩, .slice none 0 0, .slice none 0 0, .slice none 0 0, .int .i64 0, .bool false] 28) := ⟨_, rfl⟩
     rw [← hnew] at hb hc17 hf17 h17 hsn ⊢
     clear hnew hsn
     have hzn := hb.size
     replace hBc := hBc.trans (hb.mono (by omega))
     replace hFP := hFP.below hb
     replace hF := hF.keep hb
     replace hx := zb hx (by omega) hb
     replace hy := zb hy (by omega) hb
     replace hf2 := ze hf2 (by omega) hb
     replace hrA := hrA.below hb
     replace hrB := hrB.below hb
     replace hrT := hrT.below hb
     replace hz := Nat.le_trans hz hzn
     clear hb hzn
     refine hK.out _ _ (fun _ => hF) ?_
     clear hK
     try simp only [Act.put, zb6, zb7, zb8]
     refine Till.one (i := 18) (by kernel_rfl) rfl (fun K hK => ?_)
     obtain ⟨P0, P1, P2, P3, P4, P5, P6, P7, P8⟩ := zau hc17
     obtain ⟨Q0, Q1, Q2, Q3, Q4, Q5, Q6, Q7, Q8⟩ := zav hf17
     have hend := zt hBc hz hlo17 h17 hx hy hf2 hc17 hf17 hrA hrB hrT hFP hn17
     clear hx hy hf2 hc17 hf17 hFP hn17 hrA hrB hrT hBc
     simp only [zi] at hend
     go_simp
     refine hK.out _ _ (fun h => absurd h (by decide)) ?_
     clear hK
     try simp only [Act.put, zb6, zb7, zb8]
     refine Till.done (by kernel_rfl) ?_ _
     exact ⟨_, _, _, _, _, _, _, _, _, _, _, _, _, _, _, _, _, _, _, _, _, _, _, _, _, _, _, rfl, hend⟩
    ·skip
     go_simp
     obtain ⟨hb, hsn, hc17, hf17, h17⟩ := zaN v2
     have hn17 : ∀ y ∈ (([]) ++ fA) ++ fB, y ≠ v2.heap.size := fun y hy => Nat.ne_of_lt (hFP.lt y hy)
     have hlo17 : w.heap.size + 1 + 1 ≤ v2.heap.size := hz
     have h817 : v0.heap.size ≠ v2.heap.size := by omega
     obtain ⟨v3, hnew⟩ : ∃ v3, v3 = v2.alloc (.cells #[.int .i64 0, .string ⟨#[]⟩, .slice none 0 0, .string ⟨#[]⟩, .slice none 0 0, .slice none 0 0, .slice none 0 0, .int .i64 0, .bool false] 28) := ⟨_, rfl⟩
     rw [← hnew] at hb hc17 hf17 h17 hsn ⊢
     clear hnew hsn
     have hzn := hb.size
     replace hBc := hBc.trans (hb.mono (by omega))
     replace hFP := hFP.below hb
     replace hF := hF.keep hb
     replace hx := zb hx (by omega) hb
     replace hy := zb hy (by omega) hb
     replace hf2 := ze hf2 (by omega) hb
     replace hrA := hrA.below hb
     replace hrB := hrB.below hb
     replace hown := hown.below hb
     replace h8 := zcc h8 hzn
     replace hz := Nat.le_trans hz hzn
     clear hb hzn
     refine hK.out _ _ (fun _ => hF) ?_
     clear hK
     try simp only [Act.put, zb6, zb7, zb8]
     refine Till.one (i := 11) (by kernel_rfl) rfl (fun K hK => ?_)
     refine zp zx rfl _ _ rfl (w.heap.size + 1 + 1) (.slice (some ⟨v0.heap.size, 0, none⟩) 0 0) [] [] rfl hown (x.times.map zg) (.slice a6 x.times.length c6) f6 rfl (m6.below hBc) ?_ ?_ ?_ ?_ ?_ ?_
     ·simp only [List.mem_map]; rintro e ⟨t, _, rfl⟩; exact zq t
     ·intro q hq h; have h1 := m6.lt _ q hq; simp [Value.ownBlock] at h; omega
     ·simp; omega
     ·simp; omega
     ·exact hz
     intro vT v4 nfp _ hownT hg hvT
     try simp only [List.nil_append] at hownT
     obtain rfl : nfp = [] := by obtain ⟨ys, _, h, _⟩ := hownT; exact zu x.times _ _ _ h
     obtain ⟨fT, hrT, hfT, hmT⟩ := hownT.fresh (Fresh.nil _ _)
     obtain ⟨zT, cT, rfl, hc1T, hc2T⟩ := zf hrT
     have hsm : ∀ q, q < v3.heap.size → q ≠ v0.heap.size → v4.heap[q]? = v3.heap[q]? := fun q hq hn => hg.block q hq (fun e => hn (Option.some.inj e))
     have hzn := hg.size
     have hT2 : ∀ y ∈ fT, y = v0.heap.size ∨ v3.heap.size ≤ y := fun y hy => by
      rcases hmT y hy with h | h
      ·cases h
      ·rcases hvT y h with h1 | h1
       ·exact .inl (Option.some.inj h1).symm
       ·exact .inr h1
     have hltF := hFP.lt
     replace hBc := zh hBc hg (by omega) (fun q hq => by have h1 : v0.heap.size = q := Option.some.inj hq; omega)
     replace hrA := hrA.same _ (fun q hq => hsm q (hrA.lt _ q hq) (hn8 q (by simp [hq])))
     replace hrB := hrB.same _ (fun q hq => hsm q (hrB.lt _ q hq) (hn8 q (by simp [hq])))
     have hFP2 := Fresh.join (hFP.same (fun q hq => hsm q (hltF q hq) (hn8 q hq))) hfT (fun q hq hq' => by
      rcases hT2 q hq' with h | h
      ·exact hn8 q hq h
      ·have := hltF q hq; omega)
     replace hF := hF.same (hsm w.heap.size (by omega) (by omega))
     replace hx : ∀ j, v4.cell? ⟨w.heap.size, j, none⟩ = _ := fun j => (World.cell?_of_block (w := v3) (a := ⟨w.heap.size, j, none⟩) (hsm w.heap.size (by omega) (by omega))).trans (hx j)
     replace hy : ∀ j, v4.cell? ⟨w.heap.size + 1, j, none⟩ = _ := fun j => (World.cell?_of_block (w := v3) (a := ⟨w.heap.size + 1, j, none⟩) (hsm (w.heap.size + 1) (by omega) (by omega))).trans (hy j)
     replace hf2 : ∀ j, v4.frozen? ⟨w.heap.size + 1, j, none⟩ = false := fun j => (zd (hsm (w.heap.size + 1) (by omega) (by omega))).trans (hf2 j)
     replace hc17 : ∀ j, v4.cell? ⟨v2.heap.size, j, none⟩ = _ := fun j => (World.cell?_of_block (w := v3) (a := ⟨v2.heap.size, j, none⟩) (hsm (v2.heap.size) h17 (Ne.symm h817))).trans (hc17 j)
     replace hf17 : ∀ j, v4.frozen? ⟨v2.heap.size, j, none⟩ = false := fun j => (zd (hsm (v2.heap.size) h17 (Ne.symm h817))).trans (hf17 j)
     have hn17' : ∀ y ∈ ((([]) ++ fA) ++ fB) ++ fT, y ≠ v2.heap.size := fun y hy => by
      rcases zce.1 hy with h | h
      ·exact hn17 y h
      ·rcases hT2 y h with h1 | h1
       ·rw [h1]; exact h817
       ·omega
     replace hn17 := hn17'
     clear hn17'
     replace h17 := zcc h17 hzn
     replace hFP := hFP2
     replace hz := Nat.le_trans hz hzn
     clear hFP2 hltF hT2 hsm hzn hg hvT hownT hmT hfT hown hn8 h8
     refine hK.out _ _ (fun _ => hF) ?_
     clear hK
     try simp only [Act.put, zb6, zb7, zb8]
     refine Till.free (i := 16) (v := .agg #[.int .i64 x.kind, .string x.a.name, .slice zA x.a.kids.length cA, .string x.b.name, .slice zB x.b.kids.length cB, .slice none 0 0, .slice zT x.times.length cT, .int .i64 x.bound, .bool x.strict]) rfl (by kernel_rfl) (by kernel_rfl) (by kernel_rfl) (fun _ _ _ h => h) (by kernel_rfl) (Or.inl ⟨by rfl, fun U _ => ?_⟩) (fun _ => hF) ?_
     ·go_simp
     try simp only [Act.put, zb6, zb7, zb8]
     refine Till.one (i := 18) (by kernel_rfl) rfl (fun K hK => ?_)
     obtain ⟨P0, P1, P2, P3, P4, P5, P6, P7, P8⟩ := zau hc17
     obtain ⟨Q0, Q1, Q2, Q3, Q4, Q5, Q6, Q7, Q8⟩ := zav hf17
     have hend := zt hBc hz hlo17 h17 hx hy hf2 hc17 hf17 hrA hrB hrT hFP hn17
     clear hx hy hf2 hc17 hf17 hFP hn17 hrA hrB hrT hBc
     simp only [zi] at hend
     go_simp
     refine hK.out _ _ (fun h => absurd h (by decide)) ?_
     clear hK
     try simp only [Act.put, zb6, zb7, zb8]
     refine Till.done (by kernel_rfl) ?_ _
     exact ⟨_, _, _, _, _, _, _, _, _, _, _, _, _, _, _, _, _, _, _, _, _, _, _, _, _, _, _, rfl, hend⟩
   ·skip
    go_simp
    obtain ⟨hb, hsn, hc17, hf17, h17⟩ := zaN v1
    have hn17 : ∀ y ∈ ([]) ++ fA, y ≠ v1.heap.size := fun y hy => Nat.ne_of_lt (hFP.lt y hy)
    have hlo17 : w.heap.size + 1 + 1 ≤ v1.heap.size := hz
    have h817 : v0.heap.size ≠ v1.heap.size := by omega
    obtain ⟨v2, hnew⟩ : ∃ v2, v2 = v1.alloc (.cells #[.int .i64 0, .string ⟨#[]⟩, .slice none 0 0, .string ⟨#[]⟩, .slice none 0 0, .slice none 0 0, .slice none 0 0, .int .i64 0, .bool false] 28) := ⟨_, rfl⟩
    rw [← hnew] at hb hc17 hf17 h17 hsn ⊢
    clear hnew hsn
    have hzn := hb.size
    replace hBc := hBc.trans (hb.mono (by omega))
    replace hFP := hFP.below hb
    replace hF := hF.keep hb
    replace hx := zb hx (by omega) hb
    replace hy := zb hy (by omega) hb
    replace hf2 := ze hf2 (by omega) hb
    replace hrA := hrA.below hb
    replace hown := hown.below hb
    replace h8 := zcc h8 hzn
    replace hz := Nat.le_trans hz hzn
    clear hb hzn
    refine hK.out _ _ (fun _ => hF) ?_
    clear hK
    try simp only [Act.put, zb6, zb7, zb8]
    refine Till.one (i := 7) (by kernel_rfl) rfl (fun K hK => ?_)
    go_simp
    go_wp2_with (go_at_call 33; refine (zj _ x.b _ _ (Nat.le_refl _) hb' (by exact (TmR.mk m3 ⟨f4, m4⟩).below hBc)).mono ?_; rintro e v3 ⟨kB, fB, rfl, hrB, hfB, hb⟩)
    obtain ⟨zB, cB, rfl, hc1B, hc2B⟩ := zf hrB
    have hlt0 := hFP.lt
    have hge : ∀ y ∈ fB, v2.heap.size ≤ y := fun y hy => (hfB.2 y hy).1
    have hFP2 := Fresh.app (hFP.below hb) hlt0 hz hfB
    have hn8' : ∀ y ∈ (([]) ++ fA) ++ fB, y ≠ v0.heap.size := fun y hy => by
     rcases zce.1 hy with h | h
     ·exact hn8 y h
     ·have := hge y h; omega
    have hn17' : ∀ y ∈ (([]) ++ fA) ++ fB, y ≠ v1.heap.size := fun y hy => by
     rcases zce.1 hy with h | h
     ·exact hn17 y h
     ·have := hge y h; omega
    have hzn := hb.size
    replace hBc := hBc.trans (hb.mono (by omega))
    replace hFP := hFP.below hb
    replace hF := hF.keep hb
    replace hx := zb hx (by omega) hb
    replace hy := zb hy (by omega) hb
    replace hf2 := ze hf2 (by omega) hb
    replace hrA := hrA.below hb
    replace hown := hown.below hb
    replace h8 := zcc h8 hzn
    replace hc17 := zb hc17 h17 hb
    replace hf17 := ze hf17 h17 hb
    replace h17 := zcc h17 hzn
    replace hz := Nat.le_trans hz hzn
    clear hb hzn
    replace hFP := hFP2
    clear hFP2 hge hlt0 hfB
    replace hn8 := hn8'
    clear hn8'
    replace hn17 := hn17'
    clear hn17'
    refine hK.out _ _ (fun _ => hF) ?_
    clear hK
    try simp only [Act.put, zb6, zb7, zb8]
    refine Till.one (i := 11) (by kernel_rfl) rfl (fun K hK => ?_)
    refine zp zx rfl _ _ rfl (w.heap.size + 1 + 1) (.slice (some ⟨v0.heap.size, 0, none⟩) 0 0) [] [] rfl hown (x.times.map zg) (.slice a6 x.times.length c6) f6 rfl (m6.below hBc) ?_ ?_ ?_ ?_ ?_ ?_
    ·simp only [List.mem_map]; rintro e ⟨t, _, rfl⟩; exact zq t
    ·intro q hq h; have h1 := m6.lt _ q hq; simp [Value.ownBlock] at h; omega
    ·simp; omega
    ·simp; omega
    ·exact hz
    intro vT v4 nfp _ hownT hg hvT
    try simp only [List.nil_append] at hownT
    obtain rfl : nfp = [] := by obtain ⟨ys, _, h, _⟩ := hownT; exact zu x.times _ _ _ h
    obtain ⟨fT, hrT, hfT, hmT⟩ := hownT.fresh (Fresh.nil _ _)
    obtain ⟨zT, cT, rfl, hc1T, hc2T⟩ := zf hrT
    have hsm : ∀ q, q < v3.heap.size → q ≠ v0.heap.size → v4.heap[q]? = v3.heap[q]? := fun q hq hn => hg.block q hq (fun e => hn (Option.some.inj e))
    have hzn := hg.size
    have hT2 : ∀ y ∈ fT, y = v0.heap.size ∨ v3.heap.size ≤ y := fun y hy => by
     rcases hmT y hy with h | h
     ·cases h
     ·rcases hvT y h with h1 | h1
      ·exact .inl (Option.some.inj h1).symm
      ·exact .inr h1
    have hltF := hFP.lt
    replace hBc := zh hBc hg (by omega) (fun q hq => by have h1 : v0.heap.size = q := Option.some.inj hq; omega)
    replace hrA := hrA.same _ (fun q hq => hsm q (hrA.lt _ q hq) (hn8 q (by simp [hq])))
    replace hrB := hrB.same _ (fun q hq => hsm q (hrB.lt _ q hq) (hn8 q (by simp [hq])))
    have hFP2 := Fresh.join (hFP.same (fun q hq => hsm q (hltF q hq) (hn8 q hq))) hfT (fun q hq hq' => by
     rcases hT2 q hq' with h | h
     ·exact hn8 q hq h
     ·have := hltF q hq; omega)
    replace hF := hF.same (hsm w.heap.size (by omega) (by omega))
    replace hx : ∀ j, v4.cell? ⟨w.heap.size, j, none⟩ = _ := fun j => (World.cell?_of_block (w := v3) (a := ⟨w.heap.size, j, none⟩) (hsm w.heap.size (by omega) (by omega))).trans (hx j)
    replace hy : ∀ j, v4.cell? ⟨w.heap.size + 1, j, none⟩ = _ := fun j => (World.cell?_of_block (w := v3) (a := ⟨w.heap.size + 1, j, none⟩) (hsm (w.heap.size + 1) (by omega) (by omega))).trans (hy j)
    replace hf2 : ∀ j, v4.frozen? ⟨w.heap.size + 1, j, none⟩ = false := fun j => (zd (hsm (w.heap.size + 1) (by omega) (by omega))).trans (hf2 j)
    replace hc17 : ∀ j, v4.cell? ⟨v1.heap.size, j, none⟩ = _ := fun j => (World.cell?_of_block (w := v3) (a := ⟨v1.heap.size, j, none⟩) (hsm (v1.heap.size) h17 (Ne.symm h817))).trans (hc17 j)
    replace hf17 : ∀ j, v4.frozen? ⟨v1.heap.size, j, none⟩ = false := fun j => (zd (hsm (v1.heap.size) h17 (Ne.symm h817))).trans (hf17 j)
    have hn17' : ∀ y ∈ ((([]) ++ fA) ++ fB) ++ fT, y ≠ v1.heap.size := fun y hy => by
     rcases zce.1 hy with h | h
     ·exact hn17 y h
     ·rcases hT2 y h with h1 | h1
      ·rw [h1]; exact h817
      ·omega
    replace hn17 := hn17'
    clear hn17'
    replace h17 := zcc h17 hzn
    replace hFP := hFP2
    replace hz := Nat.le_trans hz hzn
    clear hFP2 hltF hT2 hsm hzn hg hvT hownT hmT hfT hown hn8 h8
    refine hK.out _ _ (fun _ => hF) ?_
    clear hK
    try simp only [Act.put, zb6, zb7, zb8]
    refine Till.free (i := 16) (v := .agg #[.int .i64 x.kind, .string x.a.name, .slice zA x.a.kids.length cA, .string x.b.name, .slice zB x.b.kids.length cB, .slice none 0 0, .slice zT x.times.length cT, .int .i64 x.bound, .bool x.strict]) rfl (by kernel_rfl) (by kernel_rfl) (by kernel_rfl) (fun _ _ _ h => h) (by kernel_rfl) (Or.inl ⟨by rfl, fun U _ => ?_⟩) (fun _ => hF) ?_
    ·go_simp
    try simp only [Act.put, zb6, zb7, zb8]
    refine Till.one (i := 18) (by kernel_rfl) rfl (fun K hK => ?_)
    obtain ⟨P0, P1, P2, P3, P4, P5, P6, P7, P8⟩ := zau hc17
    obtain ⟨Q0, Q1, Q2, Q3, Q4, Q5, Q6, Q7, Q8⟩ := zav hf17
    have hend := zt hBc hz hlo17 h17 hx hy hf2 hc17 hf17 hrA hrB hrT hFP hn17
    clear hx hy hf2 hc17 hf17 hFP hn17 hrA hrB hrT hBc
    simp only [zi] at hend
    go_simp
    refine hK.out _ _ (fun h => absurd h (by decide)) ?_
    clear hK
    try simp only [Act.put, zb6, zb7, zb8]
    refine Till.done (by kernel_rfl) ?_ _
    exact ⟨_, _, _, _, _, _, _, _, _, _, _, _, _, _, _, _, _, _, _, _, _, _, _, _, _, _, _, rfl, hend⟩
  ·skip
   go_simp
   obtain ⟨hb, hsn, hc17, hf17, h17⟩ := zaN v0
   have hn17 : ∀ y ∈ ([]) ++ fA, y ≠ v0.heap.size := fun y hy => Nat.ne_of_lt (hFP.lt y hy)
   have hlo17 : w.heap.size + 1 + 1 ≤ v0.heap.size := hz
   obtain ⟨v1, hnew⟩ : ∃ v1, v1 = v0.alloc (.cells #[.int .i64 0, .string ⟨#[]⟩, .slice none 0 0, .string ⟨#[]⟩, .slice none 0 0, .slice none 0 0, .slice none 0 0, .int .i64 0, .bool false] 28) := ⟨_, rfl⟩
   rw [← hnew] at hb hc17 hf17 h17 hsn ⊢
   clear hnew hsn
   have hzn := hb.size
   replace hBc := hBc.trans (hb.mono (by omega))
   replace hFP := hFP.below hb
   replace hF := hF.keep hb
   replace hx := zb hx (by omega) hb
   replace hy := zb hy (by omega) hb
   replace hf2 := ze hf2 (by omega) hb
   replace hrA := hrA.below hb
   replace hz := Nat.le_trans hz hzn
   clear hb hzn
   refine hK.out _ _ (fun _ => hF) ?_
   clear hK
   try simp only [Act.put, zb6, zb7, zb8]
   refine Till.two (i := 7) (j := 8) (by kernel_rfl) rfl rfl (fun K hK => ?_) (fun K hK => ?_)
   ·skip
    go_simp
    go_wp2_with (go_at_call 33; refine (zj _ x.b _ _ (Nat.le_refl _) hb' (by exact (TmR.mk m3 ⟨f4, m4⟩).below hBc)).mono ?_; rintro e v2 ⟨kB, fB, rfl, hrB, hfB, hb⟩)
    obtain ⟨zB, cB, rfl, hc1B, hc2B⟩ := zf hrB
    have hlt0 := hFP.lt
    have hge : ∀ y ∈ fB, v1.heap.size ≤ y := fun y hy => (hfB.2 y hy).1
    have hFP2 := Fresh.app (hFP.below hb) hlt0 hz hfB
    have hn17' : ∀ y ∈ (([]) ++ fA) ++ fB, y ≠ v0.heap.size := fun y hy => by
     rcases zce.1 hy with h | h
     ·exact hn17 y h
     ·have := hge y h; omega
    have hzn := hb.size
    replace hBc := hBc.trans (hb.mono (by omega))
    replace hFP := hFP.below hb
    replace hF := hF.keep hb
    replace hx := zb hx (by omega) hb
    replace hy := zb hy (by omega) hb
    replace hf2 := ze hf2 (by omega) hb
    replace hrA := hrA.below hb
    replace hc17 := zb hc17 h17 hb
    replace hf17 := ze hf17 h17 hb
    replace h17 := zcc h17 hzn
    replace hz := Nat.le_trans hz hzn
    clear hb hzn
    replace hFP := hFP2
    clear hFP2 hge hlt0 hfB
    replace hn17 := hn17'
    clear hn17'
    refine hK.out _ _ (fun _ => hF) ?_
    clear hK
    try simp only [Act.put, zb6, zb7, zb8]
    refine Till.one (i := 8) (by kernel_rfl) rfl (fun K hK => ?_)
    go_simp
    have hb := zc v2 (.cells #[] 3)
    have hsn := asz2 v2 (.cells #[] 3)
    have hown0 := Own.empty v2 (w.heap.size + 1 + 1) 3 1 hz
    have hn8 : ∀ y ∈ (([]) ++ fA) ++ fB, y ≠ v2.heap.size := fun y hy => Nat.ne_of_lt (hFP.lt y hy)
    have h8 : v2.heap.size < (v2.alloc (.cells #[] 3)).heap.size := by omega
    have hlo8 : w.heap.size + 1 + 1 ≤ v2.heap.size := hz
    have h817 : v2.heap.size ≠ v0.heap.size := by omega
    obtain ⟨v3, hnew⟩ : ∃ v3, v3 = v2.alloc (.cells #[] 3) := ⟨_, rfl⟩
    rw [← hnew] at hb hown0 h8 hsn ⊢
    clear hnew hsn
    have hzn := hb.size
    replace hBc := hBc.trans (hb.mono (by omega))
    replace hFP := hFP.below hb
    replace hF := hF.keep hb
    replace hx := zb hx (by omega) hb
    replace hy := zb hy (by omega) hb
    replace hf2 := ze hf2 (by omega) hb
    replace hrA := hrA.below hb
    replace hrB := hrB.below hb
    replace hc17 := zb hc17 h17 hb
    replace hf17 := ze hf17 h17 hb
    replace h17 := zcc h17 hzn
    replace hz := Nat.le_trans hz hzn
    clear hb hzn
    have hown := hown0
    clear hown0
    refine hK.out _ _ (fun _ => hF) ?_
    clear hK
    try simp only [Act.put, zb6, zb7, zb8]
    refine Till.one (i := 11) (by kernel_rfl) rfl (fun K hK => ?_)
    refine zp zx rfl _ _ rfl (w.heap.size + 1 + 1) (.slice (some ⟨v2.heap.size, 0, none⟩) 0 0) [] [] rfl hown (x.times.map zg) (.slice a6 x.times.length c6) f6 rfl (m6.below hBc) ?_ ?_ ?_ ?_ ?_ ?_
    ·simp only [List.mem_map]; rintro e ⟨t, _, rfl⟩; exact zq t
    ·intro q hq h; have h1 := m6.lt _ q hq; simp [Value.ownBlock] at h; omega
    ·simp; omega
    ·simp; omega
    ·exact hz
    intro vT v4 nfp _ hownT hg hvT
    try simp only [List.nil_append] at hownT
    obtain rfl : nfp = [] := by obtain ⟨ys, _, h, _⟩ := hownT; exact zu x.times _ _ _ h
    obtain ⟨fT, hrT, hfT, hmT⟩ := hownT.fresh (Fresh.nil _ _)
    obtain ⟨zT, cT, rfl, hc1T, hc2T⟩ := zf hrT
    have hsm : ∀ q, q < v3.heap.size → q ≠ v2.heap.size → v4.heap[q]? = v3.heap[q]? := fun q hq hn => hg.block q hq (fun e => hn (Option.some.inj e))
    have hzn := hg.size
    have hT2 : ∀ y ∈ fT, y = v2.heap.size ∨ v3.heap.size ≤ y := fun y hy => by
     rcases hmT y hy with h | h
     ·cases h
     ·rcases hvT y h with h1 | h1
      ·exact .inl (Option.some.inj h1).symm
      ·exact .inr h1
    have hltF := hFP.lt
    replace hBc := zh hBc hg (by omega) (fun q hq => by have h1 : v2.heap.size = q := Option.some.inj hq; omega)
    replace hrA := hrA.same _ (fun q hq => hsm q (hrA.lt _ q hq) (hn8 q (by simp [hq])))
    replace hrB := hrB.same _ (fun q hq => hsm q (hrB.lt _ q hq) (hn8 q (by simp [hq])))
    have hFP2 := Fresh.join (hFP.same (fun q hq => hsm q (hltF q hq) (hn8 q hq))) hfT (fun q hq hq' => by
     rcases hT2 q hq' with h | h
     ·exact hn8 q hq h
     ·have := hltF q hq; omega)
    replace hF := hF.same (hsm w.heap.size (by omega) (by omega))
    replace hx : ∀ j, v4.cell? ⟨w.heap.size, j, none⟩ = _ := fun j => (World.cell?_of_block (w := v3) (a := ⟨w.heap.size, j, none⟩) (hsm w.heap.size (by omega) (by omega))).trans (hx j)
    replace hy : ∀ j, v4.cell? ⟨w.heap.size + 1, j, none⟩ = _ := fun j => (World.cell?_of_block (w := v3) (a := ⟨w.heap.size + 1, j, none⟩) (hsm (w.heap.size + 1) (by omega) (by omega))).trans (hy j)
    replace hf2 : ∀ j, v4.frozen? ⟨w.heap.size + 1, j, none⟩ = false := fun j => (zd (hsm (w.heap.size + 1) (by omega) (by omega))).trans (hf2 j)
    replace hc17 : ∀ j, v4.cell? ⟨v0.heap.size, j, none⟩ = _ := fun j => (World.cell?_of_block (w := v3) (a := ⟨v0.heap.size, j, none⟩) (hsm (v0.heap.size) h17 (Ne.symm h817))).trans (hc17 j)
    replace hf17 : ∀ j, v4.frozen? ⟨v0.heap.size, j, none⟩ = false := fun j => (zd (hsm (v0.heap.size) h17 (Ne.symm h817))).trans (hf17 j)
    have hn17' : ∀ y ∈ ((([]) ++ fA) ++ fB) ++ fT, y ≠ v0.heap.size := fun y hy => by
     rcases zce.1 hy with h | h
     ·exact hn17 y h
     ·rcases hT2 y h with h1 | h1
      ·rw [h1]; exact h817
      ·omega
    replace hn17 := hn17'
    clear hn17'
    replace h17 := zcc h17 hzn
    replace hFP := hFP2
    replace hz := Nat.le_trans hz hzn
    clear hFP2 hltF hT2 hsm hzn hg hvT hownT hmT hfT hown hn8 h8
    refine hK.out _ _ (fun _ => hF) ?_
    clear hK
    try simp only [Act.put, zb6, zb7, zb8]
    refine Till.free (i := 16) (v := .agg #[.int .i64 x.kind, .string x.a.name, .slice zA x.a.kids.length cA, .string x.b.name, .slice zB x.b.kids.length cB, .slice none 0 0, .slice zT x.times.length cT, .int .i64 x.bound, .bool x.strict]) rfl (by kernel_rfl) (by kernel_rfl) (by kernel_rfl) (fun _ _ _ h => h) (by kernel_rfl) (Or.inl ⟨by rfl, fun U _ => ?_⟩) (fun _ => hF) ?_
    ·go_simp
    try simp only [Act.put, zb6, zb7, zb8]
    refine Till.one (i := 18) (by kernel_rfl) rfl (fun K hK => ?_)
    obtain ⟨P0, P1, P2, P3, P4, P5, P6, P7, P8⟩ := zau hc17
    obtain ⟨Q0, Q1, Q2, Q3, Q4, Q5, Q6, Q7, Q8⟩ := zav hf17
    have hend := zt hBc hz hlo17 h17 hx hy hf2 hc17 hf17 hrA hrB hrT hFP hn17
    clear hx hy hf2 hc17 hf17 hFP hn17 hrA hrB hrT hBc
    simp only [zi] at hend
    go_simp
    refine hK.out _ _ (fun h => absurd h (by decide)) ?_
    clear hK
    try simp only [Act.put, zb6, zb7, zb8]
    refine Till.done (by kernel_rfl) ?_ _
    exact ⟨_, _, _, _, _, _, _, _, _, _, _, _, _, _, _, _, _, _, _, _, _, _, _, _, _, _, _, rfl, hend⟩
   ·skip
    go_simp
    have hb := zc v1 (.cells #[] 3)
    have hsn := asz2 v1 (.cells #[] 3)
    have hown0 := Own.empty v1 (w.heap.size + 1 + 1) 3 1 hz
    have hn8 : ∀ y ∈ ([]) ++ fA, y ≠ v1.heap.size := fun y hy => Nat.ne_of_lt (hFP.lt y hy)
    have h8 : v1.heap.size < (v1.alloc (.cells #[] 3)).heap.size := by omega
    have hlo8 : w.heap.size + 1 + 1 ≤ v1.heap.size := hz
    have h817 : v1.heap.size ≠ v0.heap.size := by omega
    obtain ⟨v2, hnew⟩ : ∃ v2, v2 = v1.alloc (.cells #[] 3) := ⟨_, rfl⟩
    rw [← hnew] at hb hown0 h8 hsn ⊢
    clear hnew hsn
    have hzn := hb.size
    replace hBc := hBc.trans (hb.mono (by omega))
    replace hFP := hFP.below hb
    replace hF := hF.keep hb
    replace hx := zb hx (by omega) hb
    replace hy := zb hy (by omega) hb
    replace hf2 := ze hf2 (by omega) hb
    replace hrA := hrA.below hb
    replace hc17 := zb hc17 h17 hb
    replace hf17 := ze hf17 h17 hb
    replace h17 := zcc h17 hzn
    replace hz := Nat.le_trans hz hzn
    clear hb hzn
    have hown := hown0
    clear hown0
    refine hK.out _ _ (fun _ => hF) ?_
    clear hK
    try simp only [Act.put, zb6, zb7, zb8]
    refine Till.one (i := 7) (by kernel_rfl) rfl (fun K hK => ?_)
    go_simp
    go_wp2_with (go_at_call 33; refine (zj _ x.b _ _ (Nat.le_refl _) hb' (by exact (TmR.mk m3 ⟨f4, m4⟩).below hBc)).mono ?_; rintro e v3 ⟨kB, fB, rfl, hrB, hfB, hb⟩)
    obtain ⟨zB, cB, rfl, hc1B, hc2B⟩ := zf hrB
    have hlt0 := hFP.lt
    have hge : ∀ y ∈ fB, v2.heap.size ≤ y := fun y hy => (hfB.2 y hy).1
    have hFP2 := Fresh.app (hFP.below hb) hlt0 hz hfB
    have hn8' : ∀ y ∈ (([]) ++ fA) ++ fB, y ≠ v1.heap.size := fun y hy => by
     rcases zce.1 hy with h | h
     ·exact hn8 y h
     ·have := hge y h; omega
    have hn17' : ∀ y ∈ (([]) ++ fA) ++ fB, y ≠ v0.heap.size := fun y hy => by
     rcases zce.1 hy with h | h
     ·exact hn17 y h
     ·have := hge y h; omega
    have hzn := hb.size
    replace hBc := hBc.trans (hb.mono (by omega))
    replace hFP := hFP.below hb
    replace hF := hF.keep hb
    replace hx := zb hx (by omega) hb
    replace hy := zb hy (by omega) hb
    replace hf2 := ze hf2 (by omega) hb
    replace hrA := hrA.below hb
    replace hown := hown.below hb
    replace h8 := zcc h8 hzn
    replace hc17 := zb hc17 h17 hb
    replace hf17 := ze hf17 h17 hb
    replace h17 := zcc h17 hzn
    replace hz := Nat.le_trans hz hzn
    clear hb hzn
    replace hFP := hFP2
    clear hFP2 hge hlt0 hfB
    replace hn8 := hn8'
    clear hn8'
    replace hn17 := hn17'
    clear hn17'
    refine hK.out _ _ (fun _ => hF) ?_
    clear hK
    try simp only [Act.put, zb6, zb7, zb8]
    refine Till.one (i := 11) (by kernel_rfl) rfl (fun K hK => ?_)
    refine zp zx rfl _ _ rfl (w.heap.size + 1 + 1) (.slice (some ⟨v1.heap.size, 0, none⟩) 0 0) [] [] rfl hown (x.times.map zg) (.slice a6 x.times.length c6) f6 rfl (m6.below hBc) ?_ ?_ ?_ ?_ ?_ ?_
    ·simp only [List.mem_map]; rintro e ⟨t, _, rfl⟩; exact zq t
    ·intro q hq h; have h1 := m6.lt _ q hq; simp [Value.ownBlock] at h; omega
    ·simp; omega
    ·simp; omega
    ·exact hz
    intro vT v4 nfp _ hownT hg hvT
    try simp only [List.nil_append] at hownT
    obtain rfl : nfp = [] := by obtain ⟨ys, _, h, _⟩ := hownT; exact zu x.times _ _ _ h
    obtain ⟨fT, hrT, hfT, hmT⟩ := hownT.fresh (Fresh.nil _ _)
    obtain ⟨zT, cT, rfl, hc1T, hc2T⟩ := zf hrT
    have hsm : ∀ q, q < v3.heap.size → q ≠ v1.heap.size → v4.heap[q]? = v3.heap[q]? := fun q hq hn => hg.block q hq (fun e => hn (Option.some.inj e))
    have hzn := hg.size
    have hT2 : ∀ y ∈ fT, y = v1.heap.size ∨ v3.heap.size ≤ y := fun y hy => by
     rcases hmT y hy with h | h
     ·cases h
     ·rcases hvT y h with h1 | h1
      ·exact .inl (Option.some.inj h1).symm
      ·exact .inr h1
    have hltF := hFP.lt
    replace hBc := zh hBc hg (by omega) (fun q hq => by have h1 : v1.heap.size = q := Option.some.inj hq; omega)
    replace hrA := hrA.same _ (fun q hq => hsm q (hrA.lt _ q hq) (hn8 q (by simp [hq])))
    replace hrB := hrB.same _ (fun q hq => hsm q (hrB.lt _ q hq) (hn8 q (by simp [hq])))
    have hFP2 := Fresh.join (hFP.same (fun q hq => hsm q (hltF q hq) (hn8 q hq))) hfT (fun q hq hq' => by
     rcases hT2 q hq' with h | h
     ·exact hn8 q hq h
     ·have := hltF q hq; omega)
    replace hF := hF.same (hsm w.heap.size (by omega) (by omega))
    replace hx : ∀ j, v4.cell? ⟨w.heap.size, j, none⟩ = _ := fun j => (World.cell?_of_block (w := v3) (a := ⟨w.heap.size, j, none⟩) (hsm w.heap.size (by omega) (by omega))).trans (hx j)
    replace hy : ∀ j, v4.cell? ⟨w.heap.size + 1, j, none⟩ = _ := fun j => (World.cell?_of_block (w := v3) (a := ⟨w.heap.size + 1, j, none⟩) (hsm (w.heap.size + 1) (by omega) (by omega))).trans (hy j)
    replace hf2 : ∀ j, v4.frozen? ⟨w.heap.size + 1, j, none⟩ = false := fun j => (zd (hsm (w.heap.size + 1) (by omega) (by omega))).trans (hf2 j)
    replace hc17 : ∀ j, v4.cell? ⟨v0.heap.size, j, none⟩ = _ := fun j => (World.cell?_of_block (w := v3) (a := ⟨v0.heap.size, j, none⟩) (hsm (v0.heap.size) h17 (Ne.symm h817))).trans (hc17 j)
    replace hf17 : ∀ j, v4.frozen? ⟨v0.heap.size, j, none⟩ = false := fun j => (zd (hsm (v0.heap.size) h17 (Ne.symm h817))).trans (hf17 j)
    have hn17' : ∀ y ∈ ((([]) ++ fA) ++ fB) ++ fT, y ≠ v0.heap.size := fun y hy => by
     rcases zce.1 hy with h | h
     ·exact hn17 y h
     ·rcases hT2 y h with h1 | h1
      ·rw [h1]; exact h817
      ·omega
    replace hn17 := hn17'
    clear hn17'
    replace h17 := zcc h17 hzn
    replace hFP := hFP2
    replace hz := Nat.le_trans hz hzn
    clear hFP2 hltF hT2 hsm hzn hg hvT hownT hmT hfT hown hn8 h8
    refine hK.out _ _ (fun _ => hF) ?_
    clear hK
    try simp only [Act.put, zb6, zb7, zb8]
    refine Till.free (i := 16) (v := .agg #[.int .i64 x.kind, .string x.a.name, .slice zA x.a.kids.length cA, .string x.b.name, .slice zB x.b.kids.length cB, .slice none 0 0, .slice zT x.times.length cT, .int .i64 x.bound, .bool x.strict]) rfl (by kernel_rfl) (by kernel_rfl) (by kernel_rfl) (fun _ _ _ h => h) (by kernel_rfl) (Or.inl ⟨by rfl, fun U _ => ?_⟩) (fun _ => hF) ?_
    ·go_simp
    try simp only [Act.put, zb6, zb7, zb8]
    refine Till.one (i := 18) (by kernel_rfl) rfl (fun K hK => ?_)
    obtain ⟨P0, P1, P2, P3, P4, P5, P6, P7, P8⟩ := zau hc17
    obtain ⟨Q0, Q1, Q2, Q3, Q4, Q5, Q6, Q7, Q8⟩ := zav hf17
    have hend := zt hBc hz hlo17 h17 hx hy hf2 hc17 hf17 hrA hrB hrT hFP hn17
    clear hx hy hf2 hc17 hf17 hFP hn17 hrA hrB hrT hBc
    simp only [zi] at hend
    go_simp
    refine hK.out _ _ (fun h => absurd h (by decide)) ?_
    clear hK
    try simp only [Act.put, zb6, zb7, zb8]
    refine Till.done (by kernel_rfl) ?_ _
    exact ⟨_, _, _, _, _, _, _, _, _, _, _, _, _, _, _, _, _, _, _, _, _, _, _, _, _, _, _, rfl, hend⟩
 ·skip
  go_simp
  have hb := zc vv (.cells #[] 3)
  have hsn := asz2 vv (.cells #[] 3)
  have hown0 := Own.empty vv (w.heap.size + 1 + 1) 3 1 hz
  have hn8 : ∀ y ∈ [], y ≠ vv.heap.size := fun y hy => Nat.ne_of_lt (hFP.lt y hy)
  have h8 : vv.heap.size < (vv.alloc (.cells #[] 3)).heap.size := by omega
  have hlo8 : w.heap.size + 1 + 1 ≤ vv.heap.size := hz
  obtain ⟨v0, hnew⟩ : ∃ v0, v0 = vv.alloc (.cells #[] 3) := ⟨_, rfl⟩
  rw [← hnew] at hb hown0 h8 hsn ⊢
  clear hnew hsn
  have hzn := hb.size
  replace hBc := hBc.trans (hb.mono (by omega))
  replace hFP := hFP.below hb
  replace hF := hF.keep hb
  replace hx := zb hx (by omega) hb
  replace hy := zb hy (by omega) hb
  replace hf2 := ze hf2 (by omega) hb
  replace hz := Nat.le_trans hz hzn
  clear hb hzn
  have hown := hown0
  clear hown0
  refine hK.out _ _ (fun _ => hF) ?_
  clear hK
  try simp only [Act.put, zb6, zb7, zb8]
  refine Till.two (i := 4) (j := 17) (by kernel_rfl) rfl rfl (fun K hK => ?_) (fun K hK => ?_)
  ·skip
   go_simp
   go_wp2_with (go_at_call 33; refine (zj _ x.a _ _ (Nat.le_refl _) ha (by exact (TmR.mk m1 ⟨f2, m2⟩).below hBc)).mono ?_; rintro e v1 ⟨kA, fA, rfl, hrA, hfA, hb⟩)
   obtain ⟨zA, cA, rfl, hc1A, hc2A⟩ := zf hrA
   have hlt0 := hFP.lt
   have hge : ∀ y ∈ fA, v0.heap.size ≤ y := fun y hy => (hfA.2 y hy).1
   have hFP2 := Fresh.app (hFP.below hb) hlt0 hz hfA
   have hn8' : ∀ y ∈ ([]) ++ fA, y ≠ vv.heap.size := fun y hy => by
    rcases zce.1 hy with h | h
    ·exact hn8 y h
    ·have := hge y h; omega
   have hzn := hb.size
   replace hBc := hBc.trans (hb.mono (by omega))
   replace hFP := hFP.below hb
   replace hF := hF.keep hb
   replace hx := zb hx (by omega) hb
   replace hy := zb hy (by omega) hb
   replace hf2 := ze hf2 (by omega) hb
   replace hown := hown.below hb
   replace h8 := zcc h8 hzn
   replace hz := Nat.le_trans hz hzn
   clear hb hzn
   replace hFP := hFP2
   clear hFP2 hge hlt0 hfA
   replace hn8 := hn8'
   clear hn8'
   refine hK.out _ _ (fun _ => hF) ?_
   clear hK
   try simp only [Act.put, zb6, zb7, zb8]
   refine Till.two (i := 7) (j := 17) (by kernel_rfl) rfl rfl (fun K hK => ?_) (fun K hK => ?_)
   ·skip
    go_simp
    go_wp2_with (go_at_call 33; refine (zj _ x.b _ _ (Nat.le_refl _) hb' (by exact (TmR.mk m3 ⟨f4, m4⟩).below hBc)).mono ?_; rintro e v2 ⟨kB, fB, rfl, hrB, hfB, hb⟩)
    obtain ⟨zB, cB, rfl, hc1B, hc2B⟩ := zf hrB
    have hlt0 := hFP.lt
    have hge : ∀ y ∈ fB, v1.heap.size ≤ y := fun y hy => (hfB.2 y hy).1
    have hFP2 := Fresh.app (hFP.below hb) hlt0 hz hfB
    have hn8' : ∀ y ∈ (([]) ++ fA) ++ fB, y ≠ vv.heap.size := fun y hy => by
     rcases zce.1 hy with h | h
     ·exact hn8 y h
     ·have := hge y h; omega
    have hzn := hb.size
    replace hBc := hBc.trans (hb.mono (by omega))
    replace hFP := hFP.below hb
    replace hF := hF.keep hb
    replace hx := zb hx (by omega) hb
    replace hy := zb hy (by omega) hb
    replace hf2 := ze hf2 (by omega) hb
    replace hrA := hrA.below hb
    replace hown := hown.below hb
    replace h8 := zcc h8 hzn
    replace hz := Nat.le_trans hz hzn
    clear hb hzn
    replace hFP := hFP2
    clear hFP2 hge hlt0 hfB
    replace hn8 := hn8'
    clear hn8'
    refine hK.out _ _ (fun _ => hF) ?_
    clear hK
    try simp only [Act.put, zb6, zb7, zb8]
    refine Till.two (i := 11) (j := 17) (by kernel_rfl) rfl rfl (fun K hK => ?_) (fun K hK => ?_)
    ·skip
     refine zp zx rfl _ _ rfl (w.heap.size + 1 + 1) (.slice (some ⟨vv.heap.size, 0, none⟩) 0 0) [] [] rfl hown (x.times.map zg) (.slice a6 x.times.length c6) f6 rfl (m6.below hBc) ?_ ?_ ?_ ?_ ?_ ?_
     ·simp only [List.mem_map]; rintro e ⟨t, _, rfl⟩; exact zq t
     ·intro q hq h; have h1 := m6.lt _ q hq; simp [Value.ownBlock] at h; omega
     ·simp; omega
     ·simp; omega
     ·exact hz
     intro vT v3 nfp _ hownT hg hvT
     try simp only [List.nil_append] at hownT
     obtain rfl : nfp = [] := by obtain ⟨ys, _, h, _⟩ := hownT; exact zu x.times _ _ _ h
     obtain ⟨fT, hrT, hfT, hmT⟩ := hownT.fresh (Fresh.nil _ _)
     obtain ⟨zT, cT, rfl, hc1T, hc2T⟩ := zf hrT
     have hsm : ∀ q, q < v2.heap.size → q ≠ vv.heap.size → v3.heap[q]? = v2.heap[q]? := fun q hq hn => hg.block q hq (fun e => hn (Option.some.inj e))
     have hzn := hg.size
     have hT2 : ∀ y ∈ fT, y = vv.heap.size ∨ v2.heap.size ≤ y := fun y hy => by
      rcases hmT y hy with h | h
      ·cases h
      ·rcases hvT y h with h1 | h1
       ·exact .inl (Option.some.inj h1).symm
       ·exact .inr h1
     have hltF := hFP.lt
     replace hBc := zh hBc hg (by omega) (fun q hq => by have h1 : vv.heap.size = q := Option.some.inj hq; omega)
     replace hrA := hrA.same _ (fun q hq => hsm q (hrA.lt _ q hq) (hn8 q (by simp [hq])))
     replace hrB := hrB.same _ (fun q hq => hsm q (hrB.lt _ q hq) (hn8 q (by simp [hq])))
     have hFP2 := Fresh.join (hFP.same (fun q hq => hsm q (hltF q hq) (hn8 q hq))) hfT (fun q hq hq' => by
      rcases hT2 q hq' with h | h
      ·exact hn8 q hq h
      ·have := hltF q hq; omega)
     replace hF := hF.same (hsm w.heap.size (by omega) (by omega))
     replace hx : ∀ j, v3.cell? ⟨w.heap.size, j, none⟩ = _ := fun j => (World.cell?_of_block (w := v2) (a := ⟨w.heap.size, j, none⟩) (hsm w.heap.size (by omega) (by omega))).trans (hx j)
     replace hy : ∀ j, v3.cell? ⟨w.heap.size + 1, j, none⟩ = _ := fun j => (World.cell?_of_block (w := v2) (a := ⟨w.heap.size + 1, j, none⟩) (hsm (w.heap.size + 1) (by omega) (by omega))).trans (hy j)
     replace hf2 : ∀ j, v3.frozen? ⟨w.heap.size + 1, j, none⟩ = false := fun j => (zd (hsm (w.heap.size + 1) (by omega) (by omega))).trans (hf2 j)
     replace hFP := hFP2
     replace hz := Nat.le_trans hz hzn
     clear hFP2 hltF hT2 hsm hzn hg hvT hownT hmT hfT hown hn8 h8
     refine hK.out _ _ (fun _ => hF) ?_
     clear hK
     try simp only [Act.put, zb6, zb7, zb8]
     refine Till.free (i := 16) (v := .agg #[.int .i64 x.kind, .string x.a.name, .slice zA x.a.kids.length cA, .string x.b.name, .slice zB x.b.kids.length cB, .slice none 0 0, .slice zT x.times.length cT, .int .i64 x.bound, .bool x.strict]) rfl (by kernel_rfl) (by kernel_rfl) (by kernel_rfl) (fun _ _ _ h => h) (by kernel_rfl) (Or.inl ⟨by rfl, fun U _ => ?_⟩) (fun _ => hF) ?_
     ·go_simp
     try simp only [Act.put, zb6, zb7, zb8]
     refine Till.one (i := 17) (by kernel_rfl) rfl (fun K hK => ?_)
     go_simp
     obtain ⟨hb, hsn, hc17, hf17, h17⟩ := zaN v3
     have hn17 : ∀ y ∈ ((([]) ++ fA) ++ fB) ++ fT, y ≠ v3.heap.size := fun y hy => Nat.ne_of_lt (hFP.lt y hy)
     have hlo17 : w.heap.size + 1 + 1 ≤ v3.heap.size := hz
     obtain ⟨v4, hnew⟩ : ∃ v4, v4 = v3.alloc (.cells #[.int .i64 0, .string ⟨#[]⟩, .slice none 0 0, .string ⟨#[]⟩, .slice none 0 0, .slice none 0 0, .slice none 0 0, .int .i64 0, .bool false] 28) := ⟨_, rfl⟩
     rw [← hnew] at hb hc17 hf17 h17 hsn ⊢
     clear hnew hsn
     have hzn := hb.size
     replace hBc := hBc.trans (hb.mono (by omega))
     replace hFP := hFP.below hb
     replace hF := hF.keep hb
     replace hx := zb hx (by omega) hb
     replace hy := zb hy (by omega) hb
     replace hf2 := ze hf2 (by omega) hb
     replace hrA := hrA.below hb
     replace hrB := hrB.below hb
     replace hrT := hrT.below hb
     replace hz := Nat.le_trans hz hzn
     clear hb hzn
     refine hK.out _ _ (fun _ => hF) ?_
     clear hK
     try simp only [Act.put, zb6, zb7, zb8]
     refine Till.one (i := 18) (by kernel_rfl) rfl (fun K hK => ?_)
     obtain ⟨P0, P1, P2, P3, P4, P5, P6, P7, P8⟩ := zau hc17
     obtain ⟨Q0, Q1, Q2, Q3, Q4, Q5, Q6, Q7, Q8⟩ := zav hf17
     have hend := zt hBc hz hlo17 h17 hx hy hf2 hc17 hf17 hrA hrB hrT hFP hn17
     clear hx hy hf2 hc17 hf17 hFP hn17 hrA hrB hrT hBc
     simp only [zi] at hend
     go_simp
     refine hK.out _ _ (fun h => absurd h (by decide)) ?_
     clear hK
     try simp only [Act.put, zb6, zb7, zb8]
     refine Till.done (by kernel_rfl) ?_ _
     exact ⟨_, _, _, _, _, _, _, _, _, _, _, _, _, _, _, _, _, _, _, _, _, _, _, _, _, _, _, rfl, hend⟩
    ·skip
     go_simp
     obtain ⟨hb, hsn, hc17, hf17, h17⟩ := zaN v2
     have hn17 : ∀ y ∈ (([]) ++ fA) ++ fB, y ≠ v2.heap.size := fun y hy => Nat.ne_of_lt (hFP.lt y hy)
     have hlo17 : w.heap.size + 1 + 1 ≤ v2.heap.size := hz
     have h817 : vv.heap.size ≠ v2.heap.size := by omega
     obtain ⟨v3, hnew⟩ : ∃ v3, v3 = v2.alloc (.cells #[.int .i64 0, .string ⟨#[]⟩, .slice none 0 0, .string ⟨#[]⟩, .slice none 0 0, .slice none 0 0, .slice none 0 0, .int .i64 0, .bool false] 28) := ⟨_, rfl⟩
     rw [← hnew] at hb hc17 hf17 h17 hsn ⊢
     clear hnew hsn
     have hzn := hb.size
     replace hBc := hBc.trans (hb.mono (by omega))
     replace hFP := hFP.below hb
     replace hF := hF.keep hb
     replace hx := zb hx (by omega) hb
     replace hy := zb hy (by omega) hb
     replace hf2 := ze hf2 (by omega) hb
     replace hrA := hrA.below hb
     replace hrB := hrB.below hb
     replace hown := hown.below hb
     replace h8 := zcc h8 hzn
     replace hz := Nat.le_trans hz hzn
     clear hb hzn
     refine hK.out _ _ (fun _ => hF) ?_
     clear hK
     try simp only [Act.put, zb6, zb7, zb8]
     refine Till.one (i := 11) (by kernel_rfl) rfl (fun K hK => ?_)
     refine zp zx rfl _ _ rfl (w.heap.size + 1 + 1) (.slice (some ⟨vv.heap.size, 0, none⟩) 0 0) [] [] rfl hown (x.times.map zg) (.slice a6 x.times.length c6) f6 rfl (m6.below hBc) ?_ ?_ ?_ ?_ ?_ ?_
     ·simp only [List.mem_map]; rintro e ⟨t, _, rfl⟩; exact zq t
     ·intro q hq h; have h1 := m6.lt _ q hq; simp [Value.ownBlock] at h; omega
     ·simp; omega
     ·simp; omega
     ·exact hz
     intro vT v4 nfp _ hownT hg hvT
     try simp only [List.nil_append] at hownT
     obtain rfl : nfp = [] := by obtain ⟨ys, _, h, _⟩ := hownT; exact zu x.times _ _ _ h
     obtain ⟨fT, hrT, hfT, hmT⟩ := hownT.fresh (Fresh.nil _ _)
     obtain ⟨zT, cT, rfl, hc1T, hc2T⟩ := zf hrT
     have hsm : ∀ q, q < v3.heap.size → q ≠ vv.heap.size → v4.heap[q]? = v3.heap[q]? := fun q hq hn => hg.block q hq (fun e => hn (Option.some.inj e))
     have hzn := hg.size
     have hT2 : ∀ y ∈ fT, y = vv.heap.size ∨ v3.heap.size ≤ y := fun y hy => by
      rcases hmT y hy with h | h
      ·cases h
      ·rcases hvT y h with h1 | h1
       ·exact .inl (Option.some.inj h1).symm
       ·exact .inr h1
     have hltF := hFP.lt
     replace hBc := zh hBc hg (by omega) (fun q hq => by have h1 : vv.heap.size = q := Option.some.inj hq; omega)
     replace hrA := hrA.same _ (fun q hq => hsm q (hrA.lt _ q hq) (hn8 q (by simp [hq])))
     replace hrB := hrB.same _ (fun q hq => hsm q (hrB.lt _ q hq) (hn8 q (by simp [hq])))
     have hFP2 := Fresh.join (hFP.same (fun q hq => hsm q (hltF q hq) (hn8 q hq))) hfT (fun q hq hq' => by
      rcases hT2 q hq' with h | h
      ·exact hn8 q hq h
      ·have := hltF q hq; omega)
     replace hF := hF.same (hsm w.heap.size (by omega) (by omega))
     replace hx : ∀ j, v4.cell? ⟨w.heap.size, j, none⟩ = _ := fun j => (World.cell?_of_block (w := v3) (a := ⟨w.heap.size, j, none⟩) (hsm w.heap.size (by omega) (by omega))).trans (hx j)
     replace hy : ∀ j, v4.cell? ⟨w.heap.size + 1, j, none⟩ = _ := fun j => (World.cell?_of_block (w := v3) (a := ⟨w.heap.size + 1, j, none⟩) (hsm (w.heap.size + 1) (by omega) (by omega))).trans (hy j)
     replace hf2 : ∀ j, v4.frozen? ⟨w.heap.size + 1, j, none⟩ = false := fun j => (zd (hsm (w.heap.size + 1) (by omega) (by omega))).trans (hf2 j)
     replace hc17 : ∀ j, v4.cell? ⟨v2.heap.size, j, none⟩ = _ := fun j => (World.cell?_of_block (w := v3) (a := ⟨v2.heap.size, j, none⟩) (hsm (v2.heap.size) h17 (Ne.symm h817))).trans (hc17 j)
     replace hf17 : ∀ j, v4.frozen? ⟨v2.heap.size, j, none⟩ = false := fun j => (zd (hsm (v2.heap.size) h17 (Ne.symm h817))).trans (hf17 j)
     have hn17' : ∀ y ∈ ((([]) ++ fA) ++ fB) ++ fT, y ≠ v2.heap.size := fun y hy => by
      rcases zce.1 hy with h | h
      ·exact hn17 y h
      ·rcases hT2 y h with h1 | h1
       ·rw [h1]; exact h817
       ·omega
     replace hn17 := hn17'
     clear hn17'
     replace h17 := zcc h17 hzn
     replace hFP := hFP2
     replace hz := Nat.le_trans hz hzn
     clear hFP2 hltF hT2 hsm hzn hg hvT hownT hmT hfT hown hn8 h8
     refine hK.out _ _ (fun _ => hF) ?_
     clear hK
     try simp only [Act.put, zb6, zb7, zb8]
     refine Till.free (i := 16) (v := .agg #[.int .i64 x.kind, .string x.a.name, .slice zA x.a.kids.length cA, .string x.b.name, .slice zB x.b.kids.length cB, .slice none 0 0, .slice zT x.times.length cT, .int .i64 x.bound, .bool x.strict]) rfl (by kernel_rfl) (by kernel_rfl) (by kernel_rfl) (fun _ _ _ h => h) (by kernel_rfl) (Or.inl ⟨by rfl, fun U _ => ?_⟩) (fun _ => hF) ?_
     ·go_simp
     try simp only [Act.put, zb6, zb7, zb8]
     refine Till.one (i := 18) (by kernel_rfl) rfl (fun K hK => ?_)
     obtain ⟨P0, P1, P2, P3, P4, P5, P6, P7, P8⟩ := zau hc17
     obtain ⟨Q0, Q1, Q2, Q3, Q4, Q5, Q6, Q7, Q8⟩ := zav hf17
     have hend := zt hBc hz hlo17 h17 hx hy hf2 hc17 hf17 hrA hrB hrT hFP hn17
     clear hx hy hf2 hc17 hf17 hFP hn17 hrA hrB hrT hBc
     simp only [zi] at hend
     go_simp
     refine hK.out _ _ (fun h => absurd h (by decide)) ?_
     clear hK
     try simp only [Act.put, zb6, zb7, zb8]
     refine Till.done (by kernel_rfl) ?_ _
     exact ⟨_, _, _, _, _, _, _, _, _, _, _, _, _, _, _, _, _, _, _, _, _, _, _, _, _, _, _, rfl, hend⟩
   ·skip
    go_simp
    obtain ⟨hb, hsn, hc17, hf17, h17⟩ := zaN v1
    have hn17 : ∀ y ∈ ([]) ++ fA, y ≠ v1.heap.size := fun y hy => Nat.ne_of_lt (hFP.lt y hy)
    have hlo17 : w.heap.size + 1 + 1 ≤ v1.heap.size := hz
    have h817 : vv.heap.size ≠ v1.heap.size := by omega
    obtain ⟨v2, hnew⟩ : ∃ v2, v2 = v1.alloc (.cells #[.int .i64 0, .string ⟨#[]⟩, .slice none 0 0, .string ⟨#[]⟩, .slice none 0 0, .slice none 0 0, .slice none 0 0, .int .i64 0, .bool false] 28) := ⟨_, rfl⟩
    rw [← hnew] at hb hc17 hf17 h17 hsn ⊢
    clear hnew hsn
    have hzn := hb.size
    replace hBc := hBc.trans (hb.mono (by omega))
    replace hFP := hFP.below hb
    replace hF := hF.keep hb
    replace hx := zb hx (by omega) hb
    replace hy := zb hy (by omega) hb
    replace hf2 := ze hf2 (by omega) hb
    replace hrA := hrA.below hb
    replace hown := hown.below hb
    replace h8 := zcc h8 hzn
    replace hz := Nat.le_trans hz hzn
    clear hb hzn
    refine hK.out _ _ (fun _ => hF) ?_
    clear hK
    try simp only [Act.put, zb6, zb7, zb8]
    refine Till.one (i := 7) (by kernel_rfl) rfl (fun K hK => ?_)
    go_simp
    go_wp2_with (go_at_call 33; refine (zj _ x.b _ _ (Nat.le_refl _) hb' (by exact (TmR.mk m3 ⟨f4, m4⟩).below hBc)).mono ?_; rintro e v3 ⟨kB, fB, rfl, hrB, hfB, hb⟩)
    obtain ⟨zB, cB, rfl, hc1B, hc2B⟩ := zf hrB
    have hlt0 := hFP.lt
    have hge : ∀ y ∈ fB, v2.heap.size ≤ y := fun y hy => (hfB.2 y hy).1
    have hFP2 := Fresh.app (hFP.below hb) hlt0 hz hfB
    have hn8' : ∀ y ∈ (([]) ++ fA) ++ fB, y ≠ vv.heap.size := fun y hy => by
     rcases zce.1 hy with h | h
     ·exact hn8 y h
     ·have := hge y h; omega
    have hn17' : ∀ y ∈ (([]) ++ fA) ++ fB, y ≠ v1.heap.size := fun y hy => by
     rcases zce.1 hy with h | h
     ·exact hn17 y h
     ·have := hge y h; omega
    have hzn := hb.size
    replace hBc := hBc.trans (hb.mono (by omega))
    replace hFP := hFP.below hb
    replace hF := hF.keep hb
    replace hx := zb hx (by omega) hb
    replace hy := zb hy (by omega) hb
    replace hf2 := ze hf2 (by omega) hb
    replace hrA := hrA.below hb
    replace hown := hown.below hb
    replace h8 := zcc h8 hzn
    replace hc17 := zb hc17 h17 hb
    replace hf17 := ze hf17 h17 hb
    replace h17 := zcc h17 hzn
    replace hz := Nat.le_trans hz hzn
    clear hb hzn
    replace hFP := hFP2
    clear hFP2 hge hlt0 hfB
    replace hn8 := hn8'
    clear hn8'
    replace hn17 := hn17'
    clear hn17'
    refine hK.out _ _ (fun _ => hF) ?_
    clear hK
    try simp only [Act.put, zb6, zb7, zb8]
    refine Till.one (i := 11) (by kernel_rfl) rfl (fun K hK => ?_)
    refine zp zx rfl _ _ rfl (w.heap.size + 1 + 1) (.slice (some ⟨vv.heap.size, 0, none⟩) 0 0) [] [] rfl hown (x.times.map zg) (.slice a6 x.times.length c6) f6 rfl (m6.below hBc) ?_ ?_ ?_ ?_ ?_ ?_
    ·simp only [List.mem_map]; rintro e ⟨t, _, rfl⟩; exact zq t
    ·intro q hq h; have h1 := m6.lt _ q hq; simp [Value.ownBlock] at h; omega
    ·simp; omega
    ·simp; omega
    ·exact hz
    intro vT v4 nfp _ hownT hg hvT
    try simp only [List.nil_append] at hownT
    obtain rfl : nfp = [] := by obtain ⟨ys, _, h, _⟩ := hownT; exact zu x.times _ _ _ h
    obtain ⟨fT, hrT, hfT, hmT⟩ := hownT.fresh (Fresh.nil _ _)
    obtain ⟨zT, cT, rfl, hc1T, hc2T⟩ := zf hrT
    have hsm : ∀ q, q < v3.heap.size → q ≠ vv.heap.size → v4.heap[q]? = v3.heap[q]? := fun q hq hn => hg.block q hq (fun e => hn (Option.some.inj e))
    have hzn := hg.size
    have hT2 : ∀ y ∈ fT, y = vv.heap.size ∨ v3.heap.size ≤ y := fun y hy => by
     rcases hmT y hy with h | h
     ·cases h
     ·rcases hvT y h with h1 | h1
      ·exact .inl (Option.some.inj h1).symm
      ·exact .inr h1
    have hltF := hFP.lt
    replace hBc := zh hBc hg (by omega) (fun q hq => by have h1 : vv.heap.size = q := Option.some.inj hq; omega)
    replace hrA := hrA.same _ (fun q hq => hsm q (hrA.lt _ q hq) (hn8 q (by simp [hq])))
    replace hrB := hrB.same _ (fun q hq => hsm q (hrB.lt _ q hq) (hn8 q (by simp [hq])))
    have hFP2 := Fresh.join (hFP.same (fun q hq => hsm q (hltF q hq) (hn8 q hq))) hfT (fun q hq hq' => by
     rcases hT2 q hq' with h | h
     ·exact hn8 q hq h
     ·have := hltF q hq; omega)
    replace hF := hF.same (hsm w.heap.size (by omega) (by omega))
    replace hx : ∀ j, v4.cell? ⟨w.heap.size, j, none⟩ = _ := fun j => (World.cell?_of_block (w := v3) (a := ⟨w.heap.size, j, none⟩) (hsm w.heap.size (by omega) (by omega))).trans (hx j)
    replace hy : ∀ j, v4.cell? ⟨w.heap.size + 1, j, none⟩ = _ := fun j => (World.cell?_of_block (w := v3) (a := ⟨w.heap.size + 1, j, none⟩) (hsm (w.heap.size + 1) (by omega) (by omega))).trans (hy j)
    replace hf2 : ∀ j, v4.frozen? ⟨w.heap.size + 1, j, none⟩ = false := fun j => (zd (hsm (w.heap.size + 1) (by omega) (by omega))).trans (hf2 j)
    replace hc17 : ∀ j, v4.cell? ⟨v1.heap.size, j, none⟩ = _ := fun j => (World.cell?_of_block (w := v3) (a := ⟨v1.heap.size, j, none⟩) (hsm (v1.heap.size) h17 (Ne.symm h817))).trans (hc17 j)
    replace hf17 : ∀ j, v4.frozen? ⟨v1.heap.size, j, none⟩ = false := fun j => (zd (hsm (v1.heap.size) h17 (Ne.symm h817))).trans (hf17 j)
    have hn17' : ∀ y ∈ ((([]) ++ fA) ++ fB) ++ fT, y ≠ v1.heap.size := fun y hy => by
     rcases zce.1 hy with h | h
     ·exact hn17 y h
     ·rcases hT2 y h with h1 | h1
      ·rw [h1]; exact h817
      ·omega
    replace hn17 := hn17'
    clear hn17'
    replace h17 := zcc h17 hzn
    replace hFP := hFP2
    replace hz := Nat.le_trans hz hzn
    clear hFP2 hltF hT2 hsm hzn hg hvT hownT hmT hfT hown hn8 h8
    refine hK.out _ _ (fun _ => hF) ?_
    clear hK
    try simp only [Act.put, zb6, zb7, zb8]
    refine Till.free (i := 16) (v := .agg #[.int .i64 x.kind, .string x.a.name, .slice zA x.a.kids.length cA, .string x.b.name, .slice zB x.b.kids.length cB, .slice none 0 0, .slice zT x.times.length cT, .int .i64 x.bound, .bool x.strict]) rfl (by kernel_rfl) (by kernel_rfl) (by kernel_rfl) (fun _ _ _ h => h) (by kernel_rfl) (Or.inl ⟨by rfl, fun U _ => ?_⟩) (fun _ => hF) ?_
    ·go_simp
    try simp only [Act.put, zb6, zb7, zb8]
    refine Till.one (i := 18) (by kernel_rfl) rfl (fun K hK => ?_)
    obtain ⟨P0, P1, P2, P3, P4, P5, P6, P7, P8⟩ := zau hc17
    obtain ⟨Q0, Q1, Q2, Q3, Q4, Q5, Q6, Q7, Q8⟩ := zav hf17
    have hend := zt hBc hz hlo17 h17 hx hy hf2 hc17 hf17 hrA hrB hrT hFP hn17
    clear hx hy hf2 hc17 hf17 hFP hn17 hrA hrB hrT hBc
    simp only [zi] at hend
    go_simp
    refine hK.out _ _ (fun h => absurd h (by decide)) ?_
    clear hK
    try simp only [Act.put, zb6, zb7, zb8]
    refine Till.done (by kernel_rfl) ?_ _
    exact ⟨_, _, _, _, _, _, _, _, _, _, _, _, _, _, _, _, _, _, _, _, _, _, _, _, _, _, _, rfl, hend⟩
  ·skip
   go_simp
   obtain ⟨hb, hsn, hc17, hf17, h17⟩ := zaN v0
   have hn17 : ∀ y ∈ [], y ≠ v0.heap.size := fun y hy => Nat.ne_of_lt (hFP.lt y hy)
   have hlo17 : w.heap.size + 1 + 1 ≤ v0.heap.size := hz
   have h817 : vv.heap.size ≠ v0.heap.size := by omega
   obtain ⟨v1, hnew⟩ : ∃ v1, v1 = v0.alloc (.cells #[.int .i64 0, .string ⟨#[]⟩, .slice none 0 0, .string ⟨#[]⟩, .slice none 0 0, .slice none 0 0, .slice none 0 0, .int .i64 0, .bool false] 28) := ⟨_, rfl⟩
   rw [← hnew] at hb hc17 hf17 h17 hsn ⊢
   clear hnew hsn
   have hzn := hb.size
   replace hBc := hBc.trans (hb.mono (by omega))
   replace hFP := hFP.below hb
   replace hF := hF.keep hb
   replace hx := zb hx (by omega) hb
   replace hy := zb hy (by omega) hb
   replace hf2 := ze hf2 (by omega) hb
   replace hown := hown.below hb
   replace h8 := zcc h8 hzn
   replace hz := Nat.le_trans hz hzn
   clear hb hzn
   refine hK.out _ _ (fun _ => hF) ?_
   clear hK
   try simp only [Act.put, zb6, zb7, zb8]
   refine Till.one (i := 4) (by kernel_rfl) rfl (fun K hK => ?_)
   go_simp
   go_wp2_with (go_at_call 33; refine (zj _ x.a _ _ (Nat.le_refl _) ha (by exact (TmR.mk m1 ⟨f2, m2⟩).below hBc)).mono ?_; rintro e v2 ⟨kA, fA, rfl, hrA, hfA, hb⟩)
   obtain ⟨zA, cA, rfl, hc1A, hc2A⟩ := zf hrA
   have hlt0 := hFP.lt
   have hge : ∀ y ∈ fA, v1.heap.size ≤ y := fun y hy => (hfA.2 y hy).1
   have hFP2 := Fresh.app (hFP.below hb) hlt0 hz hfA
   have hn8' : ∀ y ∈ ([]) ++ fA, y ≠ vv.heap.size := fun y hy => by
    rcases zce.1 hy with h | h
    ·exact hn8 y h
    ·have := hge y h; omega
   have hn17' : ∀ y ∈ ([]) ++ fA, y ≠ v0.heap.size := fun y hy => by
    rcases zce.1 hy with h | h
    ·exact hn17 y h
    ·have := hge y h; omega
   have hzn := hb.size
   replace hBc := hBc.trans (hb.mono (by omega))
   replace hFP := hFP.below hb
   replace hF := hF.keep hb
   replace hx := zb hx (by omega) hb
   replace hy := zb hy (by omega) hb
   replace hf2 := ze hf2 (by omega) hb
   replace hown := hown.below hb
   replace h8 := zcc h8 hzn
   replace hc17 := zb hc17 h17 hb
   replace hf17 := ze hf17 h17 hb
   replace h17 := zcc h17 hzn
   replace hz := Nat.le_trans hz hzn
   clear hb hzn
   replace hFP := hFP2
   clear hFP2 hge hlt0 hfA
   replace hn8 := hn8'
   clear hn8'
   replace hn17 := hn17'
   clear hn17'
   refine hK.out _ _ (fun _ => hF) ?_
   clear hK
   try simp only [Act.put, zb6, zb7, zb8]
   refine Till.one (i := 7) (by kernel_rfl) rfl (fun K hK => ?_)
   go_simp
   go_wp2_with (go_at_call 33; refine (zj _ x.b _ _ (Nat.le_refl _) hb' (by exact (TmR.mk m3 ⟨f4, m4⟩).below hBc)).mono ?_; rintro e v3 ⟨kB, fB, rfl, hrB, hfB, hb⟩)
   obtain ⟨zB, cB, rfl, hc1B, hc2B⟩ := zf hrB
   have hlt0 := hFP.lt
   have hge : ∀ y ∈ fB, v2.heap.size ≤ y := fun y hy => (hfB.2 y hy).1
   have hFP2 := Fresh.app (hFP.below hb) hlt0 hz hfB
   have hn8' : ∀ y ∈ (([]) ++ fA) ++ fB, y ≠ vv.heap.size := fun y hy => by
    rcases zce.1 hy with h | h
    ·exact hn8 y h
    ·have := hge y h; omega
   have hn17' : ∀ y ∈ (([]) ++ fA) ++ fB, y ≠ v0.heap.size := fun y hy => by
    rcases zce.1 hy with h | h
    ·exact hn17 y h
    ·have := hge y h; omega
   have hzn := hb.size
   replace hBc := hBc.trans (hb.mono (by omega))
   replace hFP := hFP.below hb
   replace hF := hF.keep hb
   replace hx := zb hx (by omega) hb
   replace hy := zb hy (by omega) hb
   replace hf2 := ze hf2 (by omega) hb
   replace hrA := hrA.below hb
   replace hown := hown.below hb
   replace h8 := zcc h8 hzn
   replace hc17 := zb hc17 h17 hb
   replace hf17 := ze hf17 h17 hb
   replace h17 := zcc h17 hzn
   replace hz := Nat.le_trans hz hzn
   clear hb hzn
   replace hFP := hFP2
   clear hFP2 hge hlt0 hfB
   replace hn8 := hn8'
   clear hn8'
   replace hn17 := hn17'
   clear hn17'
   refine hK.out _ _ (fun _ => hF) ?_
   clear hK
   try simp only [Act.put, zb6, zb7, zb8]
   refine Till.one (i := 11) (by kernel_rfl) rfl (fun K hK => ?_)
   refine zp zx rfl _ _ rfl (w.heap.size + 1 + 1) (.slice (some ⟨vv.heap.size, 0, none⟩) 0 0) [] [] rfl hown (x.times.map zg) (.slice a6 x.times.length c6) f6 rfl (m6.below hBc) ?_ ?_ ?_ ?_ ?_ ?_
   ·simp only [List.mem_map]; rintro e ⟨t, _, rfl⟩; exact zq t
   ·intro q hq h; have h1 := m6.lt _ q hq; simp [Value.ownBlock] at h; omega
   ·simp; omega
   ·simp; omega
   ·exact hz
   intro vT v4 nfp _ hownT hg hvT
   try simp only [List.nil_append] at hownT
   obtain rfl : nfp = [] := by obtain ⟨ys, _, h, _⟩ := hownT; exact zu x.times _ _ _ h
   obtain ⟨fT, hrT, hfT, hmT⟩ := hownT.fresh (Fresh.nil _ _)
   obtain ⟨zT, cT, rfl, hc1T, hc2T⟩ := zf hrT
   have hsm : ∀ q, q < v3.heap.size → q ≠ vv.heap.size → v4.heap[q]? = v3.heap[q]? := fun q hq hn => hg.block q hq (fun e => hn (Option.some.inj e))
   have hzn := hg.size
   have hT2 : ∀ y ∈ fT, y = vv.heap.size ∨ v3.heap.size ≤ y := fun y hy => by
    rcases hmT y hy with h | h
    ·cases h
    ·rcases hvT y h with h1 | h1
     ·exact .inl (Option.some.inj h1).symm
     ·exact .inr h1
   have hltF := hFP.lt
   replace hBc := zh hBc hg (by omega) (fun q hq => by have h1 : vv.heap.size = q := Option.some.inj hq; omega)
   replace hrA := hrA.same _ (fun q hq => hsm q (hrA.lt _ q hq) (hn8 q (by simp [hq])))
   replace hrB := hrB.same _ (fun q hq => hsm q (hrB.lt _ q hq) (hn8 q (by simp [hq])))
   have hFP2 := Fresh.join (hFP.same (fun q hq => hsm q (hltF q hq) (hn8 q hq))) hfT (fun q hq hq' => by
    rcases hT2 q hq' with h | h
    ·exact hn8 q hq h
    ·have := hltF q hq; omega)
   replace hF := hF.same (hsm w.heap.size (by omega) (by omega))
   replace hx : ∀ j, v4.cell? ⟨w.heap.size, j, none⟩ = _ := fun j => (World.cell?_of_block (w := v3) (a := ⟨w.heap.size, j, none⟩) (hsm w.heap.size (by omega) (by omega))).trans (hx j)
   replace hy : ∀ j, v4.cell? ⟨w.heap.size + 1, j, none⟩ = _ := fun j => (World.cell?_of_block (w := v3) (a := ⟨w.heap.size + 1, j, none⟩) (hsm (w.heap.size + 1) (by omega) (by omega))).trans (hy j)
   replace hf2 : ∀ j, v4.frozen? ⟨w.heap.size + 1, j, none⟩ = false := fun j => (zd (hsm (w.heap.size + 1) (by omega) (by omega))).trans (hf2 j)
   replace hc17 : ∀ j, v4.cell? ⟨v0.heap.size, j, none⟩ = _ := fun j => (World.cell?_of_block (w := v3) (a := ⟨v0.heap.size, j, none⟩) (hsm (v0.heap.size) h17 (Ne.symm h817))).trans (hc17 j)
   replace hf17 : ∀ j, v4.frozen? ⟨v0.heap.size, j, none⟩ = false := fun j => (zd (hsm (v0.heap.size) h17 (Ne.symm h817))).trans (hf17 j)
   have hn17' : ∀ y ∈ ((([]) ++ fA) ++ fB) ++ fT, y ≠ v0.heap.size := fun y hy => by
    rcases zce.1 hy with h | h
    ·exact hn17 y h
    ·rcases hT2 y h with h1 | h1
     ·rw [h1]; exact h817
     ·omega
   replace hn17 := hn17'
   clear hn17'
   replace h17 := zcc h17 hzn
   replace hFP := hFP2
   replace hz := Nat.le_trans hz hzn
   clear hFP2 hltF hT2 hsm hzn hg hvT hownT hmT hfT hown hn8 h8
   refine hK.out _ _ (fun _ => hF) ?_
   clear hK
   try simp only [Act.put, zb6, zb7, zb8]
   refine Till.free (i := 16) (v := .agg #[.int .i64 x.kind, .string x.a.name, .slice zA x.a.kids.length cA, .string x.b.name, .slice zB x.b.kids.length cB, .slice none 0 0, .slice zT x.times.length cT, .int .i64 x.bound, .bool x.strict]) rfl (by kernel_rfl) (by kernel_rfl) (by kernel_rfl) (fun _ _ _ h => h) (by kernel_rfl) (Or.inl ⟨by rfl, fun U _ => ?_⟩) (fun _ => hF) ?_
   ·go_simp
   try simp only [Act.put, zb6, zb7, zb8]
   refine Till.one (i := 18) (by kernel_rfl) rfl (fun K hK => ?_)
   obtain ⟨P0, P1, P2, P3, P4, P5, P6, P7, P8⟩ := zau hc17
   obtain ⟨Q0, Q1, Q2, Q3, Q4, Q5, Q6, Q7, Q8⟩ := zav hf17
   have hend := zt hBc hz hlo17 h17 hx hy hf2 hc17 hf17 hrA hrB hrT hFP hn17
   clear hx hy hf2 hc17 hf17 hFP hn17 hrA hrB hrT hBc
   simp only [zi] at hend
   go_simp
   refine hK.out _ _ (fun h => absurd h (by decide)) ?_
   clear hK
   try simp only [Act.put, zb6, zb7, zb8]
   refine Till.done (by kernel_rfl) ?_ _
   exact ⟨_, _, _, _, _, _, _, _, _, _, _, _, _, _, _, _, _, _, _, _, _, _, _, _, _, _, _, rfl, hend⟩
 ·skip
  go_simp
  obtain ⟨hb, hsn, hc17, hf17, h17⟩ := zaN vv
  have hn17 : ∀ y ∈ [], y ≠ vv.heap.size := fun y hy => Nat.ne_of_lt (hFP.lt y hy)
  have hlo17 : w.heap.size + 1 + 1 ≤ vv.heap.size := hz
  obtain ⟨v0, hnew⟩ : ∃ v0, v0 = vv.alloc (.cells #[.int .i64 0, .string ⟨#[]⟩, .slice none 0 0, .string ⟨#[]⟩, .slice none 0 0, .slice none 0 0, .slice none 0 0, .int .i64 0, .bool false] 28) := ⟨_, rfl⟩
  rw [← hnew] at hb hc17 hf17 h17 hsn ⊢
  clear hnew hsn
  have hzn := hb.size
  replace hBc := hBc.trans (hb.mono (by omega))
  replace hFP := hFP.below hb
  replace hF := hF.keep hb
  replace hx := zb hx (by omega) hb
  replace hy := zb hy (by omega) hb
  replace hf2 := ze hf2 (by omega) hb
  replace hz := Nat.le_trans hz hzn
  clear hb hzn
  refine hK.out _ _ (fun _ => hF) ?_
  clear hK
  try simp only [Act.put, zb6, zb7, zb8]
  refine Till.two (i := 4) (j := 8) (by kernel_rfl) rfl rfl (fun K hK => ?_) (fun K hK => ?_)
  ·skip
   go_simp
   go_wp2_with (go_at_call 33; refine (zj _ x.a _ _ (Nat.le_refl _) ha (by exact (TmR.mk m1 ⟨f2, m2⟩).below hBc)).mono ?_; rintro e v1 ⟨kA, fA, rfl, hrA, hfA, hb⟩)
   obtain ⟨zA, cA, rfl, hc1A, hc2A⟩ := zf hrA
   have hlt0 := hFP.lt
   have hge : ∀ y ∈ fA, v0.heap.size ≤ y := fun y hy => (hfA.2 y hy).1
   have hFP2 := Fresh.app (hFP.below hb) hlt0 hz hfA
   have hn17' : ∀ y ∈ ([]) ++ fA, y ≠ vv.heap.size := fun y hy => by
    rcases zce.1 hy with h | h
    ·exact hn17 y h
    ·have := hge y h; omega
   have hzn := hb.size
   replace hBc := hBc.trans (hb.mono (by omega))
   replace hFP := hFP.below hb
   replace hF := hF.keep hb
   replace hx := zb hx (by omega) hb
   replace hy := zb hy (by omega) hb
   replace hf2 := ze hf2 (by omega) hb
   replace hc17 := zb hc17 h17 hb
   replace hf17 := ze hf17 h17 hb
   replace h17 := zcc h17 hzn
   replace hz := Nat.le_trans hz hzn
   clear hb hzn
   replace hFP := hFP2
   clear hFP2 hge hlt0 hfA
   replace hn17 := hn17'
   clear hn17'
   refine hK.out _ _ (fun _ => hF) ?_
   clear hK
   try simp only [Act.put, zb6, zb7, zb8]
   refine Till.two (i := 7) (j := 8) (by kernel_rfl) rfl rfl (fun K hK => ?_) (fun K hK => ?_)
   ·skip
    go_simp
    go_wp2_with (go_at_call 33; refine (zj _ x.b _ _ (Nat.le_refl _) hb' (by exact (TmR.mk m3 ⟨f4, m4⟩).below hBc)).mono ?_; rintro e v2 ⟨kB, fB, rfl, hrB, hfB, hb⟩)
    obtain ⟨zB, cB, rfl, hc1B, hc2B⟩ := zf hrB
    have hlt0 := hFP.lt
    have hge : ∀ y ∈ fB, v1.heap.size ≤ y := fun y hy => (hfB.2 y hy).1
    have hFP2 := Fresh.app (hFP.below hb) hlt0 hz hfB
    have hn17' : ∀ y ∈ (([]) ++ fA) ++ fB, y ≠ vv.heap.size := fun y hy => by
     rcases zce.1 hy with h | h
     ·exact hn17 y h
     ·have := hge y h; omega
    have hzn := hb.size
    replace hBc := hBc.trans (hb.mono (by omega))
    replace hFP := hFP.below hb
    replace hF := hF.keep hb
    replace hx := zb hx (by omega) hb
    replace hy := zb hy (by omega) hb
    replace hf2 := ze hf2 (by omega) hb
    replace hrA := hrA.below hb
    replace hc17 := zb hc17 h17 hb
    replace hf17 := ze hf17 h17 hb
    replace h17 := zcc h17 hzn
    replace hz := Nat.le_trans hz hzn
    clear hb hzn
    replace hFP := hFP2
    clear hFP2 hge hlt0 hfB
    replace hn17 := hn17'
    clear hn17'
    refine hK.out _ _ (fun _ => hF) ?_
    clear hK
    try simp only [Act.put, zb6, zb7, zb8]
    refine Till.one (i := 8) (by kernel_rfl) rfl (fun K hK => ?_)
    go_simp
    have hb := zc v2 (.cells #[] 3)
    have hsn := asz2 v2 (.cells #[] 3)
    have hown0 := Own.empty v2 (w.heap.size + 1 + 1) 3 1 hz
    have hn8 : ∀ y ∈ (([]) ++ fA) ++ fB, y ≠ v2.heap.size := fun y hy => Nat.ne_of_lt (hFP.lt y hy)
    have h8 : v2.heap.size < (v2.alloc (.cells #[] 3)).heap.size := by omega
    have hlo8 : w.heap.size + 1 + 1 ≤ v2.heap.size := hz
    have h817 : v2.heap.size ≠ vv.heap.size := by omega
    obtain ⟨v3, hnew⟩ : ∃ v3, v3 = v2.alloc (.cells #[] 3) := ⟨_, rfl⟩
    rw [← hnew] at hb hown0 h8 hsn ⊢
    clear hnew hsn
    have hzn := hb.size
    replace hBc := hBc.trans (hb.mono (by omega))
    replace hFP := hFP.below hb
    replace hF := hF.keep hb
    replace hx := zb hx (by omega) hb
    replace hy := zb hy (by omega) hb
    replace hf2 := ze hf2 (by omega) hb
    replace hrA := hrA.below hb
    replace hrB := hrB.below hb
    replace hc17 := zb hc17 h17 hb
    replace hf17 := ze hf17 h17 hb
    replace h17 := zcc h17 hzn
    replace hz := Nat.le_trans hz hzn
    clear hb hzn
    have hown := hown0
    clear hown0
    refine hK.out _ _ (fun _ => hF) ?_
    clear hK
    try simp only [Act.put, zb6, zb7, zb8]
    refine Till.one (i := 11) (by kernel_rfl) rfl (fun K hK => ?_)
    refine zp zx rfl _ _ rfl (w.heap.size + 1 + 1) (.slice (some ⟨v2.heap.size, 0, none⟩) 0 0) [] [] rfl hown (x.times.map zg) (.slice a6 x.times.length c6) f6 rfl (m6.below hBc) ?_ ?_ ?_ ?_ ?_ ?_
    ·simp only [List.mem_map]; rintro e ⟨t, _, rfl⟩; exact zq t
    ·intro q hq h; have h1 := m6.lt _ q hq; simp [Value.ownBlock] at h; omega
    ·simp; omega
    ·simp; omega
    ·exact hz
    intro vT v4 nfp _ hownT hg hvT
    try simp only [List.nil_append] at hownT
    obtain rfl : nfp = [] := by obtain ⟨ys, _, h, _⟩ := hownT; exact zu x.times _ _ _ h
    obtain ⟨fT, hrT, hfT, hmT⟩ := hownT.fresh (Fresh.nil _ _)
    obtain ⟨zT, cT, rfl, hc1T, hc2T⟩ := zf hrT
    have hsm : ∀ q, q < v3.heap.size → q ≠ v2.heap.size → v4.heap[q]? = v3.heap[q]? := fun q hq hn => hg.block q hq (fun e => hn (Option.some.inj e))
    have hzn := hg.size
    have hT2 : ∀ y ∈ fT, y = v2.heap.size ∨ v3.heap.size ≤ y := fun y hy => by
     rcases hmT y hy with h | h
     ·cases h
     ·rcases hvT y h with h1 | h1
      ·exact .inl (Option.some.inj h1).symm
      ·exact .inr h1
    have hltF := hFP.lt
    replace hBc := zh hBc hg (by omega) (fun q hq => by have h1 : v2.heap.size = q := Option.some.inj hq; omega)
    replace hrA := hrA.same _ (fun q hq => hsm q (hrA.lt _ q hq) (hn8 q (by simp [hq])))
    replace hrB := hrB.same _ (fun q hq => hsm q (hrB.lt _ q hq) (hn8 q (by simp [hq])))
    have hFP2 := Fresh.join (hFP.same (fun q hq => hsm q (hltF q hq) (hn8 q hq))) hfT (fun q hq hq' => by
     rcases hT2 q hq' with h | h
     ·exact hn8 q hq h
     ·have := hltF q hq; omega)
    replace hF := hF.same (hsm w.heap.size (by omega) (by omega))
    replace hx : ∀ j, v4.cell? ⟨w.heap.size, j, none⟩ = _ := fun j => (World.cell?_of_block (w := v3) (a := ⟨w.heap.size, j, none⟩) (hsm w.heap.size (by omega) (by omega))).trans (hx j)
    replace hy : ∀ j, v4.cell? ⟨w.heap.size + 1, j, none⟩ = _ := fun j => (World.cell?_of_block (w := v3) (a := ⟨w.heap.size + 1, j, none⟩) (hsm (w.heap.size + 1) (by omega) (by omega))).trans (hy j)
    replace hf2 : ∀ j, v4.frozen? ⟨w.heap.size + 1, j, none⟩ = false := fun j => (zd (hsm (w.heap.size + 1) (by omega) (by omega))).trans (hf2 j)
    replace hc17 : ∀ j, v4.cell? ⟨vv.heap.size, j, none⟩ = _ := fun j => (World.cell?_of_block (w := v3) (a := ⟨vv.heap.size, j, none⟩) (hsm (vv.heap.size) h17 (Ne.symm h817))).trans (hc17 j)
    replace hf17 : ∀ j, v4.frozen? ⟨vv.heap.size, j, none⟩ = false := fun j => (zd (hsm (vv.heap.size) h17 (Ne.symm h817))).trans (hf17 j)
    have hn17' : ∀ y ∈ ((([]) ++ fA) ++ fB) ++ fT, y ≠ vv.heap.size := fun y hy => by
     rcases zce.1 hy with h | h
     ·exact hn17 y h
     ·rcases hT2 y h with h1 | h1
      ·rw [h1]; exact h817
      ·omega
    replace hn17 := hn17'
    clear hn17'
    replace h17 := zcc h17 hzn
    replace hFP := hFP2
    replace hz := Nat.le_trans hz hzn
    clear hFP2 hltF hT2 hsm hzn hg hvT hownT hmT hfT hown hn8 h8
    refine hK.out _ _ (fun _ => hF) ?_
    clear hK
    try simp only [Act.put, zb6, zb7, zb8]
    refine Till.free (i := 16) (v := .agg #[.int .i64 x.kind, .string x.a.name, .slice zA x.a.kids.length cA, .string x.b.name, .slice zB x.b.kids.length cB, .slice none 0 0, .slice zT x.times.length cT, .int .i64 x.bound, .bool x.strict]) rfl (by kernel_rfl) (by kernel_rfl) (by kernel_rfl) (fun _ _ _ h => h) (by kernel_rfl) (Or.inl ⟨by rfl, fun U _ => ?_⟩) (fun _ => hF) ?_
    ·go_simp
    try simp only [Act.put, zb6, zb7, zb8]
    refine Till.one (i := 18) (by kernel_rfl) rfl (fun K hK => ?_)
    obtain ⟨P0, P1, P2, P3, P4, P5, P6, P7, P8⟩ := zau hc17
    obtain ⟨Q0, Q1, Q2, Q3, Q4, Q5, Q6, Q7, Q8⟩ := zav hf17
    have hend := zt hBc hz hlo17 h17 hx hy hf2 hc17 hf17 hrA hrB hrT hFP hn17
    clear hx hy hf2 hc17 hf17 hFP hn17 hrA hrB hrT hBc
    simp only [zi] at hend
    go_simp
    refine hK.out _ _ (fun h => absurd h (by decide)) ?_
    clear hK
    try simp only [Act.put, zb6, zb7, zb8]
    refine Till.done (by kernel_rfl) ?_ _
    exact ⟨_, _, _, _, _, _, _, _, _, _, _, _, _, _, _, _, _, _, _, _, _, _, _, _, _, _, _, rfl, hend⟩
   ·skip
    go_simp
    have hb := zc v1 (.cells #[] 3)
    have hsn := asz2 v1 (.cells #[] 3)
    have hown0 := Own.empty v1 (w.heap.size + 1 + 1) 3 1 hz
    have hn8 : ∀ y ∈ ([]) ++ fA, y ≠ v1.heap.size := fun y hy => Nat.ne_of_lt (hFP.lt y hy)
    have h8 : v1.heap.size < (v1.alloc (.cells #[] 3)).heap.size := by omega
    have hlo8 : w.heap.size + 1 + 1 ≤ v1.heap.size := hz
    have h817 : v1.heap.size ≠ vv.heap.size := by omega
    obtain ⟨v2, hnew⟩ : ∃ v2, v2 = v1.alloc (.cells #[] 3) := ⟨_, rfl⟩
    rw [← hnew] at hb hown0 h8 hsn ⊢
    clear hnew hsn
    have hzn := hb.size
    replace hBc := hBc.trans (hb.mono (by omega))
    replace hFP := hFP.below hb
    replace hF := hF.keep hb
    replace hx := zb hx (by omega) hb
    replace hy := zb hy (by omega) hb
    replace hf2 := ze hf2 (by omega) hb
    replace hrA := hrA.below hb
    replace hc17 := zb hc17 h17 hb
    replace hf17 := ze hf17 h17 hb
    replace h17 := zcc h17 hzn
    replace hz := Nat.le_trans hz hzn
    clear hb hzn
    have hown := hown0
    clear hown0
    refine hK.out _ _ (fun _ => hF) ?_
    clear hK
    try simp only [Act.put, zb6, zb7, zb8]
    refine Till.one (i := 7) (by kernel_rfl) rfl (fun K hK => ?_)
    go_simp
    go_wp2_with (go_at_call 33; refine (zj _ x.b _ _ (Nat.le_refl _) hb' (by exact (TmR.mk m3 ⟨f4, m4⟩).below hBc)).mono ?_; rintro e v3 ⟨kB, fB, rfl, hrB, hfB, hb⟩)
    obtain ⟨zB, cB, rfl, hc1B, hc2B⟩ := zf hrB
    have hlt0 := hFP.lt
    have hge : ∀ y ∈ fB, v2.heap.size ≤ y := fun y hy => (hfB.2 y hy).1
    have hFP2 := Fresh.app (hFP.below hb) hlt0 hz hfB
    have hn8' : ∀ y ∈ (([]) ++ fA) ++ fB, y ≠ v1.heap.size := fun y hy => by
     rcases zce.1 hy with h | h
     ·exact hn8 y h
     ·have := hge y h; omega
    have hn17' : ∀ y ∈ (([]) ++ fA) ++ fB, y ≠ vv.heap.size := fun y hy => by
     rcases zce.1 hy with h | h
     ·exact hn17 y h
     ·have := hge y h; omega
    have hzn := hb.size
    replace hBc := hBc.trans (hb.mono (by omega))
    replace hFP := hFP.below hb
    replace hF := hF.keep hb
    replace hx := zb hx (by omega) hb
    replace hy := zb hy (by omega) hb
    replace hf2 := ze hf2 (by omega) hb
    replace hrA := hrA.below hb
    replace hown := hown.below hb
    replace h8 := zcc h8 hzn
    replace hc17 := zb hc17 h17 hb
    replace hf17 := ze hf17 h17 hb
    replace h17 := zcc h17 hzn
    replace hz := Nat.le_trans hz hzn
    clear hb hzn
    replace hFP := hFP2
    clear hFP2 hge hlt0 hfB
    replace hn8 := hn8'
    clear hn8'
    replace hn17 := hn17'
    clear hn17'
    refine hK.out _ _ (fun _ => hF) ?_
    clear hK
    try simp only [Act.put, zb6, zb7, zb8]
    refine Till.one (i := 11) (by kernel_rfl) rfl (fun K hK => ?_)
    refine zp zx rfl _ _ rfl (w.heap.size + 1 + 1) (.slice (some ⟨v1.heap.size, 0, none⟩) 0 0) [] [] rfl hown (x.times.map zg) (.slice a6 x.times.length c6) f6 rfl (m6.below hBc) ?_ ?_ ?_ ?_ ?_ ?_
    ·simp only [List.mem_map]; rintro e ⟨t, _, rfl⟩; exact zq t
    ·intro q hq h; have h1 := m6.lt _ q hq; simp [Value.ownBlock] at h; omega
    ·simp; omega
    ·simp; omega
    ·exact hz
    intro vT v4 nfp _ hownT hg hvT
    try simp only [List.nil_append] at hownT
    obtain rfl : nfp = [] := by obtain ⟨ys, _, h, _⟩ := hownT; exact zu x.times _ _ _ h
    obtain ⟨fT, hrT, hfT, hmT⟩ := hownT.fresh (Fresh.nil _ _)
    obtain ⟨zT, cT, rfl, hc1T, hc2T⟩ := zf hrT
    have hsm : ∀ q, q < v3.heap.size → q ≠ v1.heap.size → v4.heap[q]? = v3.heap[q]? := fun q hq hn => hg.block q hq (fun e => hn (Option.some.inj e))
    have hzn := hg.size
    have hT2 : ∀ y ∈ fT, y = v1.heap.size ∨ v3.heap.size ≤ y := fun y hy => by
     rcases hmT y hy with h | h
     ·cases h
     ·rcases hvT y h with h1 | h1
      ·exact .inl (Option.some.inj h1).symm
      ·exact .inr h1
    have hltF := hFP.lt
    replace hBc := zh hBc hg (by omega) (fun q hq => by have h1 : v1.heap.size = q := Option.some.inj hq; omega)
    replace hrA := hrA.same _ (fun q hq => hsm q (hrA.lt _ q hq) (hn8 q (by simp [hq])))
    replace hrB := hrB.same _ (fun q hq => hsm q (hrB.lt _ q hq) (hn8 q (by simp [hq])))
    have hFP2 := Fresh.join (hFP.same (fun q hq => hsm q (hltF q hq) (hn8 q hq))) hfT (fun q hq hq' => by
     rcases hT2 q hq' with h | h
     ·exact hn8 q hq h
     ·have := hltF q hq; omega)
    replace hF := hF.same (hsm w.heap.size (by omega) (by omega))
    replace hx : ∀ j, v4.cell? ⟨w.heap.size, j, none⟩ = _ := fun j => (World.cell?_of_block (w := v3) (a := ⟨w.heap.size, j, none⟩) (hsm w.heap.size (by omega) (by omega))).trans (hx j)
    replace hy : ∀ j, v4.cell? ⟨w.heap.size + 1, j, none⟩ = _ := fun j => (World.cell?_of_block (w := v3) (a := ⟨w.heap.size + 1, j, none⟩) (hsm (w.heap.size + 1) (by omega) (by omega))).trans (hy j)
    replace hf2 : ∀ j, v4.frozen? ⟨w.heap.size + 1, j, none⟩ = false := fun j => (zd (hsm (w.heap.size + 1) (by omega) (by omega))).trans (hf2 j)
    replace hc17 : ∀ j, v4.cell? ⟨vv.heap.size, j, none⟩ = _ := fun j => (World.cell?_of_block (w := v3) (a := ⟨vv.heap.size, j, none⟩) (hsm (vv.heap.size) h17 (Ne.symm h817))).trans (hc17 j)
    replace hf17 : ∀ j, v4.frozen? ⟨vv.heap.size, j, none⟩ = false := fun j => (zd (hsm (vv.heap.size) h17 (Ne.symm h817))).trans (hf17 j)
    have hn17' : ∀ y ∈ ((([]) ++ fA) ++ fB) ++ fT, y ≠ vv.heap.size := fun y hy => by
     rcases zce.1 hy with h | h
     ·exact hn17 y h
     ·rcases hT2 y h with h1 | h1
      ·rw [h1]; exact h817
      ·omega
    replace hn17 := hn17'
    clear hn17'
    replace h17 := zcc h17 hzn
    replace hFP := hFP2
    replace hz := Nat.le_trans hz hzn
    clear hFP2 hltF hT2 hsm hzn hg hvT hownT hmT hfT hown hn8 h8
    refine hK.out _ _ (fun _ => hF) ?_
    clear hK
    try simp only [Act.put, zb6, zb7, zb8]
    refine Till.free (i := 16) (v := .agg #[.int .i64 x.kind, .string x.a.name, .slice zA x.a.kids.length cA, .string x.b.name, .slice zB x.b.kids.length cB, .slice none 0 0, .slice zT x.times.length cT, .int .i64 x.bound, .bool x.strict]) rfl (by kernel_rfl) (by kernel_rfl) (by kernel_rfl) (fun _ _ _ h => h) (by kernel_rfl) (Or.inl ⟨by rfl, fun U _ => ?_⟩) (fun _ => hF) ?_
    ·go_simp
    try simp only [Act.put, zb6, zb7, zb8]
    refine Till.one (i := 18) (by kernel_rfl) rfl (fun K hK => ?_)
    obtain ⟨P0, P1, P2, P3, P4, P5, P6, P7, P8⟩ := zau hc17
    obtain ⟨Q0, Q1, Q2, Q3, Q4, Q5, Q6, Q7, Q8⟩ := zav hf17
    have hend := zt hBc hz hlo17 h17 hx hy hf2 hc17 hf17 hrA hrB hrT hFP hn17
    clear hx hy hf2 hc17 hf17 hFP hn17 hrA hrB hrT hBc
    simp only [zi] at hend
    go_simp
    refine hK.out _ _ (fun h => absurd h (by decide)) ?_
    clear hK
    try simp only [Act.put, zb6, zb7, zb8]
    refine Till.done (by kernel_rfl) ?_ _
    exact ⟨_, _, _, _, _, _, _, _, _, _, _, _, _, _, _, _, _, _, _, _, _, _, _, _, _, _, _, rfl, hend⟩
  ·skip
   go_simp
   have hb := zc v0 (.cells #[] 3)
   have hsn := asz2 v0 (.cells #[] 3)
   have hown0 := Own.empty v0 (w.heap.size + 1 + 1) 3 1 hz
   have hn8 : ∀ y ∈ [], y ≠ v0.heap.size := fun y hy => Nat.ne_of_lt (hFP.lt y hy)
   have h8 : v0.heap.size < (v0.alloc (.cells #[] 3)).heap.size := by omega
   have hlo8 : w.heap.size + 1 + 1 ≤ v0.heap.size := hz
   have h817 : v0.heap.size ≠ vv.heap.size := by omega
   obtain ⟨v1, hnew⟩ : ∃ v1, v1 = v0.alloc (.cells #[] 3) := ⟨_, rfl⟩
   rw [← hnew] at hb hown0 h8 hsn ⊢
   clear hnew hsn
   have hzn := hb.size
   replace hBc := hBc.trans (hb.mono (by omega))
   replace hFP := hFP.below hb
   replace hF := hF.keep hb
   replace hx := zb hx (by omega) hb
   replace hy := zb hy (by omega) hb
   replace hf2 := ze hf2 (by omega) hb
   replace hc17 := zb hc17 h17 hb
   replace hf17 := ze hf17 h17 hb
   replace h17 := zcc h17 hzn
   replace hz := Nat.le_trans hz hzn
   clear hb hzn
   have hown := hown0
   clear hown0
   refine hK.out _ _ (fun _ => hF) ?_
   clear hK
   try simp only [Act.put, zb6, zb7, zb8]
   refine Till.one (i := 4) (by kernel_rfl) rfl (fun K hK => ?_)
   go_simp
   go_wp2_with (go_at_call 33; refine (zj _ x.a _ _ (Nat.le_refl _) ha (by exact (TmR.mk m1 ⟨f2, m2⟩).below hBc)).mono ?_; rintro e v2 ⟨kA, fA, rfl, hrA, hfA, hb⟩)
   obtain ⟨zA, cA, rfl, hc1A, hc2A⟩ := zf hrA
   have hlt0 := hFP.lt
   have hge : ∀ y ∈ fA, v1.heap.size ≤ y := fun y hy => (hfA.2 y hy).1
   have hFP2 := Fresh.app (hFP.below hb) hlt0 hz hfA
   have hn8' : ∀ y ∈ ([]) ++ fA, y ≠ v0.heap.size := fun y hy => by
    rcases zce.1 hy with h | h
    ·exact hn8 y h
    ·have := hge y h; omega
   have hn17' : ∀ y ∈ ([]) ++ fA, y ≠ vv.heap.size := fun y hy => by
    rcases zce.1 hy with h | h
    ·exact hn17 y h
    ·have := hge y h; omega
   have hzn := hb.size
   replace hBc := hBc.trans (hb.mono (by omega))
   replace hFP := hFP.below hb
   replace hF := hF.keep hb
   replace hx := zb hx (by omega) hb
   replace hy := zb hy (by omega) hb
   replace hf2 := ze hf2 (by omega) hb
   replace hown := hown.below hb
   replace h8 := zcc h8 hzn
   replace hc17 := zb hc17 h17 hb
   replace hf17 := ze hf17 h17 hb
   replace h17 := zcc h17 hzn
   replace hz := Nat.le_trans hz hzn
   clear hb hzn
   replace hFP := hFP2
   clear hFP2 hge hlt0 hfA
   replace hn8 := hn8'
   clear hn8'
   replace hn17 := hn17'
   clear hn17'
   refine hK.out _ _ (fun _ => hF) ?_
   clear hK
   try simp only [Act.put, zb6, zb7, zb8]
   refine Till.one (i := 7) (by kernel_rfl) rfl (fun K hK => ?_)
   go_simp
   go_wp2_with (go_at_call 33; refine (zj _ x.b _ _ (Nat.le_refl _) hb' (by exact (TmR.mk m3 ⟨f4, m4⟩).below hBc)).mono ?_; rintro e v3 ⟨kB, fB, rfl, hrB, hfB, hb⟩)
   obtain ⟨zB, cB, rfl, hc1B, hc2B⟩ := zf hrB
   have hlt0 := hFP.lt
   have hge : ∀ y ∈ fB, v2.heap.size ≤ y := fun y hy => (hfB.2 y hy).1
   have hFP2 := Fresh.app (hFP.below hb) hlt0 hz hfB
   have hn8' : ∀ y ∈ (([]) ++ fA) ++ fB, y ≠ v0.heap.size := fun y hy => by
    rcases zce.1 hy with h | h
    ·exact hn8 y h
    ·have := hge y h; omega
   have hn17' : ∀ y ∈ (([]) ++ fA) ++ fB, y ≠ vv.heap.size := fun y hy => by
    rcases zce.1 hy with h | h
    ·exact hn17 y h
    ·have := hge y h; omega
   have hzn := hb.size
   replace hBc := hBc.trans (hb.mono (by omega))
   replace hFP := hFP.below hb
   replace hF := hF.keep hb
   replace hx := zb hx (by omega) hb
   replace hy := zb hy (by omega) hb
   replace hf2 := ze hf2 (by omega) hb
   replace hrA := hrA.below hb
   replace hown := hown.below hb
   replace h8 := zcc h8 hzn
   replace hc17 := zb hc17 h17 hb
   replace hf17 := ze hf17 h17 hb
   replace h17 := zcc h17 hzn
   replace hz := Nat.le_trans hz hzn
   clear hb hzn
   replace hFP := hFP2
   clear hFP2 hge hlt0 hfB
   replace hn8 := hn8'
   clear hn8'
   replace hn17 := hn17'
   clear hn17'
   refine hK.out _ _ (fun _ => hF) ?_
   clear hK
   try simp only [Act.put, zb6, zb7, zb8]
   refine Till.one (i := 11) (by kernel_rfl) rfl (fun K hK => ?_)
   refine zp zx rfl _ _ rfl (w.heap.size + 1 + 1) (.slice (some ⟨v0.heap.size, 0, none⟩) 0 0) [] [] rfl hown (x.times.map zg) (.slice a6 x.times.length c6) f6 rfl (m6.below hBc) ?_ ?_ ?_ ?_ ?_ ?_
   ·simp only [List.mem_map]; rintro e ⟨t, _, rfl⟩; exact zq t
   ·intro q hq h; have h1 := m6.lt _ q hq; simp [Value.ownBlock] at h; omega
   ·simp; omega
   ·simp; omega
   ·exact hz
   intro vT v4 nfp _ hownT hg hvT
   try simp only [List.nil_append] at hownT
   obtain rfl : nfp = [] := by obtain ⟨ys, _, h, _⟩ := hownT; exact zu x.times _ _ _ h
   obtain ⟨fT, hrT, hfT, hmT⟩ := hownT.fresh (Fresh.nil _ _)
   obtain ⟨zT, cT, rfl, hc1T, hc2T⟩ := zf hrT
   have hsm : ∀ q, q < v3.heap.size → q ≠ v0.heap.size → v4.heap[q]? = v3.heap[q]? := fun q hq hn => hg.block q hq (fun e => hn (Option.some.inj e))
   have hzn := hg.size
   have hT2 : ∀ y ∈ fT, y = v0.heap.size ∨ v3.heap.size ≤ y := fun y hy => by
    rcases hmT y hy with h | h
    ·cases h
    ·rcases hvT y h with h1 | h1
     ·exact .inl (Option.some.inj h1).symm
     ·exact .inr h1
   have hltF := hFP.lt
   replace hBc := zh hBc hg (by omega) (fun q hq => by have h1 : v0.heap.size = q := Option.some.inj hq; omega)
   replace hrA := hrA.same _ (fun q hq => hsm q (hrA.lt _ q hq) (hn8 q (by simp [hq])))
   replace hrB := hrB.same _ (fun q hq => hsm q (hrB.lt _ q hq) (hn8 q (by simp [hq])))
   have hFP2 := Fresh.join (hFP.same (fun q hq => hsm q (hltF q hq) (hn8 q hq))) hfT (fun q hq hq' => by
    rcases hT2 q hq' with h | h
    ·exact hn8 q hq h
    ·have := hltF q hq; omega)
   replace hF := hF.same (hsm w.heap.size (by omega) (by omega))
   replace hx : ∀ j, v4.cell? ⟨w.heap.size, j, none⟩ = _ := fun j => (World.cell?_of_block (w := v3) (a := ⟨w.heap.size, j, none⟩) (hsm w.heap.size (by omega) (by omega))).trans (hx j)
   replace hy : ∀ j, v4.cell? ⟨w.heap.size + 1, j, none⟩ = _ := fun j => (World.cell?_of_block (w := v3) (a := ⟨w.heap.size + 1, j, none⟩) (hsm (w.heap.size + 1) (by omega) (by omega))).trans (hy j)
   replace hf2 : ∀ j, v4.frozen? ⟨w.heap.size + 1, j, none⟩ = false := fun j => (zd (hsm (w.heap.size + 1) (by omega) (by omega))).trans (hf2 j)
   replace hc17 : ∀ j, v4.cell? ⟨vv.heap.size, j, none⟩ = _ := fun j => (World.cell?_of_block (w := v3) (a := ⟨vv.heap.size, j, none⟩) (hsm (vv.heap.size) h17 (Ne.symm h817))).trans (hc17 j)
   replace hf17 : ∀ j, v4.frozen? ⟨vv.heap.size, j, none⟩ = false := fun j => (zd (hsm (vv.heap.size) h17 (Ne.symm h817))).trans (hf17 j)
   have hn17' : ∀ y ∈ ((([]) ++ fA) ++ fB) ++ fT, y ≠ vv.heap.size := fun y hy => by
    rcases zce.1 hy with h | h
    ·exact hn17 y h
    ·rcases hT2 y h with h1 | h1
     ·rw [h1]; exact h817
     ·omega
   replace hn17 := hn17'
   clear hn17'
   replace h17 := zcc h17 hzn
   replace hFP := hFP2
   replace hz := Nat.le_trans hz hzn
   clear hFP2 hltF hT2 hsm hzn hg hvT hownT hmT hfT hown hn8 h8
   refine hK.out _ _ (fun _ => hF) ?_
   clear hK
   try simp only [Act.put, zb6, zb7, zb8]
   refine Till.free (i := 16) (v := .agg #[.int .i64 x.kind, .string x.a.name, .slice zA x.a.kids.length cA, .string x.b.name, .slice zB x.b.kids.length cB, .slice none 0 0, .slice zT x.times.length cT, .int .i64 x.bound, .bool x.strict]) rfl (by kernel_rfl) (by kernel_rfl) (by kernel_rfl) (fun _ _ _ h => h) (by kernel_rfl) (Or.inl ⟨by rfl, fun U _ => ?_⟩) (fun _ => hF) ?_
   ·go_simp
   try simp only [Act.put, zb6, zb7, zb8]
   refine Till.one (i := 18) (by kernel_rfl) rfl (fun K hK => ?_)
   obtain ⟨P0, P1, P2, P3, P4, P5, P6, P7, P8⟩ := zau hc17
   obtain ⟨Q0, Q1, Q2, Q3, Q4, Q5, Q6, Q7, Q8⟩ := zav hf17
   have hend := zt hBc hz hlo17 h17 hx hy hf2 hc17 hf17 hrA hrB hrT hFP hn17
   clear hx hy hf2 hc17 hf17 hFP hn17 hrA hrB hrT hBc
   simp only [zi] at hend
   go_simp
   refine hK.out _ _ (fun h => absurd h (by decide)) ?_
   clear hK
   try simp only [Act.put, zb6, zb7, zb8]
   refine Till.done (by kernel_rfl) ?_ _
   exact ⟨_, _, _, _, _, _, _, _, _, _, _, _, _, _, _, _, _, _, _, _, _, _, _, _, _, _, _, rfl, hend⟩
end Go.Proofs.YtoehhbkhdddeeaaDoor
end
