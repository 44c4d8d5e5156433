/- Parts of the proof: RdrE SmE. -/
import Derived.Test.YtlefdhhnlbpbkaaPb42
import Derived.Test.YtlefdhhnlbpbkaaPb19
section
namespace Go.Proofs.Ytlefdhhnlbpbkaa
open Go Go.RowKit
set_option linter.unusedVariables false
set_option linter.unusedSimpArgs false
set_option maxRecDepth 100000
set_option maxHeartbeats 16000000
theorem box3_new (u : World) (cs ds es : List Value) (T U V : TypeId) :
  (∀ j x, cs[j]? = some x → (((u.alloc (.cells cs.toArray T)).alloc (.cells ds.toArray U)).alloc (.cells es.toArray V)).cell? ⟨u.heap.size, j, none⟩ = some x) ∧
  (∀ j x, ds[j]? = some x → (((u.alloc (.cells cs.toArray T)).alloc (.cells ds.toArray U)).alloc (.cells es.toArray V)).cell? ⟨u.heap.size + 1, j, none⟩ = some x) ∧
  (∀ j x, es[j]? = some x → (((u.alloc (.cells cs.toArray T)).alloc (.cells ds.toArray U)).alloc (.cells es.toArray V)).cell? ⟨u.heap.size + 1 + 1, j, none⟩ = some x) ∧
  Below u.heap.size u (((u.alloc (.cells cs.toArray T)).alloc (.cells ds.toArray U)).alloc (.cells es.toArray V)) ∧
  (((u.alloc (.cells cs.toArray T)).alloc (.cells ds.toArray U)).alloc (.cells es.toArray V)).heap.size = u.heap.size + 1 + 1 + 1 := by
 refine ⟨fun j x hx => zw (zw (zf u cs T j x hx)), fun j x hx => ?_, fun j x hx => ?_, (((Below.refl _ _).alloc (Nat.le_refl _) _).alloc (by simp) _).alloc (by simp; omega) _, by simp⟩
 ·have h := zf (u.alloc (.cells cs.toArray T)) ds U j x hx
  rw [World.size_alloc] at h; exact zw h
 ·have h := zf ((u.alloc (.cells cs.toArray T)).alloc (.cells ds.toArray U)) es V j x hx
  rw [World.size_alloc, World.size_alloc] at h; exact h
/-- Three result cells, fresh. -/
structure Res3 (w W : World) : Prop where
 r0 : W.cell? ⟨w.heap.size, 0, none⟩ = some (.slice none 0 0)
 r1 : W.cell? ⟨w.heap.size + 1, 0, none⟩ = some (.string ⟨#[]⟩)
 r2 : W.cell? ⟨w.heap.size + 1, 1, none⟩ = some (.slice none 0 0)
 r3 : W.cell? ⟨w.heap.size + 1 + 1, 0, none⟩ = some (.string ⟨#[]⟩)
 r4 : W.cell? ⟨w.heap.size + 1 + 1, 1, none⟩ = some (.slice none 0 0)
 f0 : W.frozen? ⟨w.heap.size, 0, none⟩ = false
 f1 : W.frozen? ⟨w.heap.size + 1, 0, none⟩ = false
 f2 : W.frozen? ⟨w.heap.size + 1, 1, none⟩ = false
 f3 : W.frozen? ⟨w.heap.size + 1 + 1, 0, none⟩ = false
 f4 : W.frozen? ⟨w.heap.size + 1 + 1, 1, none⟩ = false
 size : w.heap.size + 1 + 1 + 1 ≤ W.heap.size
theorem Res3.below {w W W' : World} (h : Res3 w W) (hb : Below W.heap.size W W') : Res3 w W' := by
 have hz := h.size
 have hs := hb.size
 exact ⟨za h.r0 hb, za h.r1 hb, za h.r2 hb, za h.r3 hb, za h.r4 hb, (zc (hb.block _ (by omega))).trans h.f0, (zc (hb.block _ (by omega))).trans h.f1, (zc (hb.block _ (by omega))).trans h.f2, (zc (hb.block _ (by omega))).trans h.f3, (zc (hb.block _ (by omega))).trans h.f4, by omega⟩
theorem zdq (w : World) : Res3 w (((w.alloc (.cells #[.slice none 0 0] 25)).alloc (.cells #[.string ⟨#[]⟩, .slice none 0 0] 29)).alloc (.cells #[.string ⟨#[]⟩, .slice none 0 0] 29)) := by
 have r1 : (((w.alloc (.cells #[.slice none 0 0] 25)).alloc (.cells #[.string ⟨#[]⟩, .slice none 0 0] 29)).alloc (.cells #[.string ⟨#[]⟩, .slice none 0 0] 29)).cell? ⟨w.heap.size + 1, 0, none⟩ = some (.string ⟨#[]⟩) := by
  have h := zf (w.alloc (.cells #[.slice none 0 0] 25)) [.string ⟨#[]⟩, .slice none 0 0] 29 0 _ rfl
  rw [World.size_alloc] at h; exact zw h
 have r2 : (((w.alloc (.cells #[.slice none 0 0] 25)).alloc (.cells #[.string ⟨#[]⟩, .slice none 0 0] 29)).alloc (.cells #[.string ⟨#[]⟩, .slice none 0 0] 29)).cell? ⟨w.heap.size + 1, 1, none⟩ = some (.slice none 0 0) := by
  have h := zf (w.alloc (.cells #[.slice none 0 0] 25)) [.string ⟨#[]⟩, .slice none 0 0] 29 1 _ rfl
  rw [World.size_alloc] at h; exact zw h
 have r3 : (((w.alloc (.cells #[.slice none 0 0] 25)).alloc (.cells #[.string ⟨#[]⟩, .slice none 0 0] 29)).alloc (.cells #[.string ⟨#[]⟩, .slice none 0 0] 29)).cell? ⟨w.heap.size + 1 + 1, 0, none⟩ = some (.string ⟨#[]⟩) := by
  have h := zf ((w.alloc (.cells #[.slice none 0 0] 25)).alloc (.cells #[.string ⟨#[]⟩, .slice none 0 0] 29)) [.string ⟨#[]⟩, .slice none 0 0] 29 0 _ rfl
  rw [World.size_alloc, World.size_alloc] at h; exact h
 have r4 : (((w.alloc (.cells #[.slice none 0 0] 25)).alloc (.cells #[.string ⟨#[]⟩, .slice none 0 0] 29)).alloc (.cells #[.string ⟨#[]⟩, .slice none 0 0] 29)).cell? ⟨w.heap.size + 1 + 1, 1, none⟩ = some (.slice none 0 0) := by
  have h := zf ((w.alloc (.cells #[.slice none 0 0] 25)).alloc (.cells #[.string ⟨#[]⟩, .slice none 0 0] 29)) [.string ⟨#[]⟩, .slice none 0 0] 29 1 _ rfl
  rw [World.size_alloc, World.size_alloc] at h; exact h
 have q0 : ∀ j, (((w.alloc (.cells #[.slice none 0 0] 25)).alloc (.cells #[.string ⟨#[]⟩, .slice none 0 0] 29)).alloc (.cells #[.string ⟨#[]⟩, .slice none 0 0] 29)).frozen? ⟨w.heap.size, j, none⟩ = false := fun j => (zc (heap_alloc_old _ _ (by simp; omega))).trans ((zc (heap_alloc_old _ _ (by simp))).trans (zE w _ _ j))
 have q1 : ∀ j, (((w.alloc (.cells #[.slice none 0 0] 25)).alloc (.cells #[.string ⟨#[]⟩, .slice none 0 0] 29)).alloc (.cells #[.string ⟨#[]⟩, .slice none 0 0] 29)).frozen? ⟨w.heap.size + 1, j, none⟩ = false := fun j => by
  have h := zE (w.alloc (.cells #[.slice none 0 0] 25)) #[.string ⟨#[]⟩, .slice none 0 0] 29 j
  rw [World.size_alloc] at h; exact (zc (heap_alloc_old _ _ (by simp))).trans h
 have q2 : ∀ j, (((w.alloc (.cells #[.slice none 0 0] 25)).alloc (.cells #[.string ⟨#[]⟩, .slice none 0 0] 29)).alloc (.cells #[.string ⟨#[]⟩, .slice none 0 0] 29)).frozen? ⟨w.heap.size + 1 + 1, j, none⟩ = false := fun j => by
  have h := zE ((w.alloc (.cells #[.slice none 0 0] 25)).alloc (.cells #[.string ⟨#[]⟩, .slice none 0 0] 29)) #[.string ⟨#[]⟩, .slice none 0 0] 29 j
  rw [World.size_alloc, World.size_alloc] at h; exact h
 exact ⟨zw (zw (zf w [.slice none 0 0] _ 0 _ rfl)), r1, r2, r3, r4, q0 0, q1 0, q1 1, q2 0, q2 1, by simp⟩
theorem zca (w : World) : Below w.heap.size w (((w.alloc (.cells #[.slice none 0 0] 25)).alloc (.cells #[.string ⟨#[]⟩, .slice none 0 0] 29)).alloc (.cells #[.string ⟨#[]⟩, .slice none 0 0] 29)) := (((Below.refl _ _).alloc (Nat.le_refl _) _).alloc (by simp) _).alloc (by simp; omega) _
theorem zbe {w w6 : World} {v0 v1 v2 v3 v4 : Value} (hB6 : Below w.heap.size w w6) : Below w.heap.size w (((((w6.setCell ⟨w.heap.size, 0, none⟩ v0).setCell ⟨w.heap.size + 1, 0, none⟩ v1).setCell ⟨w.heap.size + 1, 1, none⟩ v2).setCell ⟨w.heap.size + 1 + 1, 0, none⟩ v3).setCell ⟨w.heap.size + 1 + 1, 1, none⟩ v4) := by
 refine Below.setCell (Below.setCell (Below.setCell (Below.setCell (Below.setCell hB6 ?_ _) ?_ _) ?_ _) ?_ _) ?_ _ <;> simp <;> omega
theorem zbM (v : Value) (w : World) (hv : Byts w v) :
  Calls Try.prog 5 #[v] w fun e w' => Drawn5 w.heap.size e w' ∧ Below w.heap.size w w' := by
 have hR := zdq w
 have hB0 := zca w
 go_enter Try.func5, Try.ntmps5
 go_wp2_with fail
 refine (zb9 v _ (by exact hv.below hB0)).mono ?_
 rintro e u1 ⟨⟨s, es, a, b, sa, sc, ev, ka, kc, kb, kd, sf, ef, fa, fb, hfew, hel, hes, ha, hb, rfl, hrs, hre, hra, hrb, hown⟩, hb1⟩
 obtain ⟨r0, r1, r2, r3, r4, f0, f1, f2, f3, f4, hz⟩ := hR.below hb1
 have hB1 := hB0.trans (hb1.mono hB0.size)
 have hown' : ∀ x, x ∈ sf ∨ x ∈ ef ∨ x ∈ fa ∨ x ∈ fb → w.heap.size + 1 + 1 + 1 ≤ x := fun x hx => by have := hown x hx; simp at this; omega
 clear hR hB0 hb1 hown
 go_wp2_with fail
 refine bodyPost_ret (v := .tuple #[.agg #[.slice sa s.syms.length sc], ev, .agg #[.string a.name, .slice ka a.kids.length kc], .agg #[.string b.name, .slice kb b.kids.length kd]]) ?_ rfl ?_
 ·simp [results, Try.results5, go_sem, r0, r1, r2, r3, r4]
 ·refine ⟨⟨s, es, a, b, sa, sc, ev, ka, kc, kb, kd, sf, ef, fa, fb, hfew, hel, hes, ha, hb, rfl, hrs.same _ ?_, hre.same _ ?_, hra.same _ ?_, hrb.same _ ?_, fun x hx => by have := hown' x hx; omega⟩, zbe hB1⟩
  ·exact fun x hx => by have := hown' x (by simp [hx]); exact zT x (by omega) (by omega) (by omega)
  ·exact fun x hx => by have := hown' x (by simp [hx]); exact zT x (by omega) (by omega) (by omega)
  ·exact fun x hx => by have := hown' x (by simp [hx]); exact zT x (by omega) (by omega) (by omega)
  ·exact fun x hx => by have := hown' x (by simp [hx]); exact zT x (by omega) (by omega) (by omega)
theorem zdr {W : World} {a b : Tm} {u0 u1 v0 v1 : Value} {f1 f2 : List Nat} {g : Nat} (h1 : RdVs W a.cd [u0, u1] f1) (h2 : RdVs W b.cd [v0, v1] f2) (hg : g < W.heap.size) (hc : ∀ j u, [u0, u1, v0, v1][j]? = some u → W.cell? ⟨g, j, none⟩ = some u) : Rd W (.sl ([a, b].map Tm.cd)) (.slice (some ⟨g, 0, none⟩) 2 2) (g :: (f1 ++ f2)) := by
 simp only [Rd]
 refine ⟨_, 2, rfl, by simp, by simp [maxLen], .inr ⟨by simp, g, 0, f1 ++ f2, rfl, hg, rfl, ?_⟩⟩
 refine RdRows.mk (k := 2) (vs := [u0, u1, v0, v1]) (fun j u hj => by simpa using hc j u hj) ?_
 have := h1.app h2
 simpa using this
/-- What a law has drawn, in three boxes. -/
structure Env5 (W : World) (n : Nat) (s : Sg) (es : List Eqn) (a b : Tm) (sa : Option Addr) (sc : Nat) (ev : Value) (ka : Option Addr) (kc : Nat) (kb : Option Addr) (kd : Nat) (sf ef fa fb : List Nat) : Prop where
 x0 : W.cell? ⟨n, 0, none⟩ = some (.slice sa s.syms.length sc)
 y0 : W.cell? ⟨n + 1, 0, none⟩ = some (.string a.name)
 y1 : W.cell? ⟨n + 1, 1, none⟩ = some (.slice ka a.kids.length kc)
 k0 : W.cell? ⟨n + 1 + 1, 0, none⟩ = some (.string b.name)
 k1 : W.cell? ⟨n + 1 + 1, 1, none⟩ = some (.slice kb b.kids.length kd)
 hs : RdVs W s.cd [.slice sa s.syms.length sc] sf
 he : Rd W (.sl (es.map Eqn.cd)) ev ef
 ha : RdVs W a.cd [.string a.name, .slice ka a.kids.length kc] fa
 hb : RdVs W b.cd [.string b.name, .slice kb b.kids.length kd] fb
theorem Env5.below {W W' : World} {n : Nat} {s : Sg} {es : List Eqn} {a b : Tm} {sa : Option Addr} {sc : Nat} {ev : Value} {ka : Option Addr} {kc : Nat} {kb : Option Addr} {kd : Nat} {sf ef fa fb : List Nat} (h : Env5 W n s es a b sa sc ev ka kc kb kd sf ef fa fb) (hb : Below W.heap.size W W') : Env5 W' n s es a b sa sc ev ka kc kb kd sf ef fa fb :=
 ⟨za h.x0 hb, za h.y0 hb, za h.y1 hb, za h.k0 hb, za h.k1 hb, h.hs.below hb, h.he.below hb, h.ha.below hb, h.hb.below hb⟩
theorem env5_new {u : World} {s : Sg} {es : List Eqn} {a b : Tm} {sa : Option Addr} {sc : Nat} {ev : Value} {ka : Option Addr} {kc : Nat} {kb : Option Addr} {kd : Nat} {sf ef fa fb : List Nat} (T U V : TypeId) (hs : RdVs u s.cd [.slice sa s.syms.length sc] sf) (he : Rd u (.sl (es.map Eqn.cd)) ev ef) (ha : RdVs u a.cd [.string a.name, .slice ka a.kids.length kc] fa) (hb : RdVs u b.cd [.string b.name, .slice kb b.kids.length kd] fb) :
  Env5 (((u.alloc (.cells #[.slice sa s.syms.length sc] T)).alloc (.cells #[.string a.name, .slice ka a.kids.length kc] U)).alloc (.cells #[.string b.name, .slice kb b.kids.length kd] V)) u.heap.size s es a b sa sc ev ka kc kb kd sf ef fa fb ∧
  Below u.heap.size u (((u.alloc (.cells #[.slice sa s.syms.length sc] T)).alloc (.cells #[.string a.name, .slice ka a.kids.length kc] U)).alloc (.cells #[.string b.name, .slice kb b.kids.length kd] V)) := by
 obtain ⟨X, Y, K, hbb, hsz⟩ := box3_new u [.slice sa s.syms.length sc] [.string a.name, .slice ka a.kids.length kc] [.string b.name, .slice kb b.kids.length kd] T U V
 exact ⟨⟨X 0 _ rfl, Y 0 _ rfl, Y 1 _ rfl, K 0 _ rfl, K 1 _ rfl, hs.below hbb, he.below hbb, ha.below hbb, hb.below hbb⟩, hbb⟩
theorem zdb {es : List Eqn} {a b : Tm} {n : Nat} (h : ∀ q ∈ es, q.a.size ≤ n ∧ q.b.size ≤ n) (ha : a.size ≤ n) (hb : b.size ≤ n) : ∀ t ∈ zr es [a, b], t.size ≤ n := by
 refine zco (P := fun t => t.size ≤ n) (fun nm ks hp k hk => ?_) _ _ (by simp) (fun t ht => ?_)
 ·have h1 := Tm.size_mem hk
  simp only [Tm.size] at hp; omega
 ·rcases zd1.1 ht with ht | ht
  ·obtain ⟨q, hq, h2⟩ := List.mem_flatMap.1 ht
   simp at h2
   rcases h2 with rfl | rfl
   ·exact (h q hq).1
   ·exact (h q hq).2
  ·simp at ht
   rcases ht with rfl | rfl
   ·exact ha
   ·exact hb
theorem big_of3 {es : List Eqn} {a b : Tm} (h1 : es.length ≤ 13) (h2 : ∀ q ∈ es, q.a.size ≤ 45 ∧ q.b.size ≤ 45) (ha : a.size ≤ 100) (hb : b.size ≤ 100) : Tm.sizes (zi es ++ [a, b]) ≤ 5000 := by
 have h := zcH es 90 (fun e he => by have := h2 e he; omega)
 rw [Tm.sizes_append]; simp only [Tm.sizes]; omega
end Go.Proofs.Ytlefdhhnlbpbkaa
end
