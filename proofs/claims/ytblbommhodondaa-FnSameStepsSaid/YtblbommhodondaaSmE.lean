/- What a law has drawn, in three boxes. -/
import Derived.Test.YtblbommhodondaaRdrE
import Derived.Test.YtblbommhodondaaCloU
namespace Go.Proofs.Ytblbommhodondaa
open Go Go.RowKit
set_option linter.unusedVariables false
set_option linter.unusedSimpArgs false
/-- What a law has drawn, in three boxes. -/
structure Env5 (W : World) (n : Nat) (s : Sg) (es : List Eqn) (a b : Tm) (sa : Option Addr) (sc : Nat) (ev : Value) (ka : Option Addr) (kc : Nat) (kb : Option Addr) (kd : Nat) (sf ef fa fb : List Nat) : Prop where
  x0 : W.cell? ⟨n, 0, none⟩ = some (.slice sa s.syms.length sc)
  y0 : W.cell? ⟨n + 1, 0, none⟩ = some (.string a.name)
  y1 : W.cell? ⟨n + 1, 1, none⟩ = some (.slice ka a.kids.length kc)
  k0 : W.cell? ⟨n + 1 + 1, 0, none⟩ = some (.string b.name)
  k1 : W.cell? ⟨n + 1 + 1, 1, none⟩ = some (.slice kb b.kids.length kd)
  hs : RdVs W s.cd [.slice sa s.syms.length sc] sf
  he : Rd W (.sl (es.map Eqn.cd)) ev ef
  ha : RdVs W a.cd [.string a.name, .slice ka a.kids.length kc] fa
  hb : RdVs W b.cd [.string b.name, .slice kb b.kids.length kd] fb
theorem Env5.below {W W' : World} {n : Nat} {s : Sg} {es : List Eqn} {a b : Tm} {sa : Option Addr} {sc : Nat} {ev : Value} {ka : Option Addr} {kc : Nat} {kb : Option Addr} {kd : Nat} {sf ef fa fb : List Nat} (h : Env5 W n s es a b sa sc ev ka kc kb kd sf ef fa fb) (hb : Below W.heap.size W W') : Env5 W' n s es a b sa sc ev ka kc kb kd sf ef fa fb :=
  ⟨cell_keep h.x0 hb, cell_keep h.y0 hb, cell_keep h.y1 hb, cell_keep h.k0 hb, cell_keep h.k1 hb, h.hs.below hb, h.he.below hb, h.ha.below hb, h.hb.below hb⟩
theorem env5_new {u : World} {s : Sg} {es : List Eqn} {a b : Tm} {sa : Option Addr} {sc : Nat} {ev : Value} {ka : Option Addr} {kc : Nat} {kb : Option Addr} {kd : Nat} {sf ef fa fb : List Nat} (T U V : TypeId) (hs : RdVs u s.cd [.slice sa s.syms.length sc] sf) (he : Rd u (.sl (es.map Eqn.cd)) ev ef) (ha : RdVs u a.cd [.string a.name, .slice ka a.kids.length kc] fa) (hb : RdVs u b.cd [.string b.name, .slice kb b.kids.length kd] fb) :
    Env5 (((u.alloc (.cells #[.slice sa s.syms.length sc] T)).alloc (.cells #[.string a.name, .slice ka a.kids.length kc] U)).alloc (.cells #[.string b.name, .slice kb b.kids.length kd] V)) u.heap.size s es a b sa sc ev ka kc kb kd sf ef fa fb ∧
    Below u.heap.size u (((u.alloc (.cells #[.slice sa s.syms.length sc] T)).alloc (.cells #[.string a.name, .slice ka a.kids.length kc] U)).alloc (.cells #[.string b.name, .slice kb b.kids.length kd] V)) := by
  obtain ⟨X, Y, K, hbb, hsz⟩ := box3_new u [.slice sa s.syms.length sc] [.string a.name, .slice ka a.kids.length kc] [.string b.name, .slice kb b.kids.length kd] T U V
  exact ⟨⟨X 0 _ rfl, Y 0 _ rfl, Y 1 _ rfl, K 0 _ rfl, K 1 _ rfl, hs.below hbb, he.below hbb, ha.below hbb, hb.below hbb⟩, hbb⟩
theorem moreP_small {es : List Eqn} {a b : Tm} {n : Nat} (h : ∀ q ∈ es, q.a.size ≤ n ∧ q.b.size ≤ n) (ha : a.size ≤ n) (hb : b.size ≤ n) : ∀ t ∈ moreP es [a, b], t.size ≤ n := by
  refine addPs_P (P := fun t => t.size ≤ n) (fun nm ks hp k hk => ?_) _ _ (by simp) (fun t ht => ?_)
  · have h1 := Tm.size_mem hk
    simp only [Tm.size] at hp; omega
  · rcases List.mem_append.1 ht with ht | ht
    · obtain ⟨q, hq, h2⟩ := List.mem_flatMap.1 ht
      simp at h2
      rcases h2 with rfl | rfl
      · exact (h q hq).1
      · exact (h q hq).2
    · simp at ht
      rcases ht with rfl | rfl
      · exact ha
      · exact hb
theorem big_of3 {es : List Eqn} {a b : Tm} (h1 : es.length ≤ 13) (h2 : ∀ q ∈ es, q.a.size ≤ 45 ∧ q.b.size ≤ 45) (ha : a.size ≤ 100) (hb : b.size ≤ 100) : Tm.sizes (sidesP es ++ [a, b]) ≤ 5000 := by
  have h := sides_few es 90 (fun e he => by have := h2 e he; omega)
  rw [Tm.sizes_append]; simp only [Tm.sizes]; omega
end Go.Proofs.Ytblbommhodondaa
