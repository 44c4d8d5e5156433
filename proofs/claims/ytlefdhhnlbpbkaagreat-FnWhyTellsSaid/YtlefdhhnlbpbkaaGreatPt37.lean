/- Parts of the proof: RdrE SmE RdrV. -/
import Derived.Test.YtlefdhhnlbpbkaaGreatPt36
import Derived.Test.YtlefdhhnlbpbkaaGreatPt32
import Derived.Deep.RegionHeld3
import Derived.Test.YtlefdhhnlbpbkaaGreatPt33
section
namespace Go.Proofs.YtlefdhhnlbpbkaaGreat
open Go Go.RowKit
set_option linter.unusedVariables false
set_option linter.unusedSimpArgs false
set_option maxRecDepth 100000
set_option maxHeartbeats 16000000
theorem box3_new (u : World) (cs ds es : List Value) (T U V : TypeId) :
  (∀ j x, cs[j]? = some x → (((u.alloc (.cells cs.toArray T)).alloc (.cells ds.toArray U)).alloc (.cells es.toArray V)).cell? ⟨u.heap.size, j, none⟩ = some x) ∧
  (∀ j x, ds[j]? = some x → (((u.alloc (.cells cs.toArray T)).alloc (.cells ds.toArray U)).alloc (.cells es.toArray V)).cell? ⟨u.heap.size + 1, j, none⟩ = some x) ∧
  (∀ j x, es[j]? = some x → (((u.alloc (.cells cs.toArray T)).alloc (.cells ds.toArray U)).alloc (.cells es.toArray V)).cell? ⟨u.heap.size + 1 + 1, j, none⟩ = some x) ∧
  Below u.heap.size u (((u.alloc (.cells cs.toArray T)).alloc (.cells ds.toArray U)).alloc (.cells es.toArray V)) ∧
  (((u.alloc (.cells cs.toArray T)).alloc (.cells ds.toArray U)).alloc (.cells es.toArray V)).heap.size = u.heap.size + 1 + 1 + 1 := by
 refine ⟨fun j x hx => zA (zA (zi u cs T j x hx)), fun j x hx => ?_, fun j x hx => ?_, (((Below.refl _ _).alloc (Nat.le_refl _) _).alloc (by simp) _).alloc (by simp; omega) _, by simp⟩
 ·have h := zi (u.alloc (.cells cs.toArray T)) ds U j x hx
  rw [World.size_alloc] at h; exact zA h
 ·have h := zi ((u.alloc (.cells cs.toArray T)).alloc (.cells ds.toArray U)) es V j x hx
  rw [World.size_alloc, World.size_alloc] at h; exact h
/-- Three result cells, fresh. -/
structure Res3 (w W : World) : Prop where
 r0 : W.cell? ⟨w.heap.size, 0, none⟩ = some (.slice none 0 0)
 r1 : W.cell? ⟨w.heap.size + 1, 0, none⟩ = some (.string ⟨#[]⟩)
 r2 : W.cell? ⟨w.heap.size + 1, 1, none⟩ = some (.slice none 0 0)
 r3 : W.cell? ⟨w.heap.size + 1 + 1, 0, none⟩ = some (.string ⟨#[]⟩)
 r4 : W.cell? ⟨w.heap.size + 1 + 1, 1, none⟩ = some (.slice none 0 0)
 f0 : W.frozen? ⟨w.heap.size, 0, none⟩ = false
 f1 : W.frozen? ⟨w.heap.size + 1, 0, none⟩ = false
 f2 : W.frozen? ⟨w.heap.size + 1, 1, none⟩ = false
 f3 : W.frozen? ⟨w.heap.size + 1 + 1, 0, none⟩ = false
 f4 : W.frozen? ⟨w.heap.size + 1 + 1, 1, none⟩ = false
 size : w.heap.size + 1 + 1 + 1 ≤ W.heap.size
theorem Res3.below {w W W' : World} (h : Res3 w W) (hb : Below W.heap.size W W') : Res3 w W' := by
 have hz := h.size
 have hs := hb.size
 exact ⟨za h.r0 hb, za h.r1 hb, za h.r2 hb, za h.r3 hb, za h.r4 hb, (zd (hb.block _ (by omega))).trans h.f0, (zd (hb.block _ (by omega))).trans h.f1, (zd (hb.block _ (by omega))).trans h.f2, (zd (hb.block _ (by omega))).trans h.f3, (zd (hb.block _ (by omega))).trans h.f4, by omega⟩
theorem res3_new (w : World) : Res3 w (((w.alloc (.cells #[.slice none 0 0] 25)).alloc (.cells #[.string ⟨#[]⟩, .slice none 0 0] 29)).alloc (.cells #[.string ⟨#[]⟩, .slice none 0 0] 29)) := by
 have r1 : (((w.alloc (.cells #[.slice none 0 0] 25)).alloc (.cells #[.string ⟨#[]⟩, .slice none 0 0] 29)).alloc (.cells #[.string ⟨#[]⟩, .slice none 0 0] 29)).cell? ⟨w.heap.size + 1, 0, none⟩ = some (.string ⟨#[]⟩) := by
  have h := zi (w.alloc (.cells #[.slice none 0 0] 25)) [.string ⟨#[]⟩, .slice none 0 0] 29 0 _ rfl
  rw [World.size_alloc] at h; exact zA h
 have r2 : (((w.alloc (.cells #[.slice none 0 0] 25)).alloc (.cells #[.string ⟨#[]⟩, .slice none 0 0] 29)).alloc (.cells #[.string ⟨#[]⟩, .slice none 0 0] 29)).cell? ⟨w.heap.size + 1, 1, none⟩ = some (.slice none 0 0) := by
  have h := zi (w.alloc (.cells #[.slice none 0 0] 25)) [.string ⟨#[]⟩, .slice none 0 0] 29 1 _ rfl
  rw [World.size_alloc] at h; exact zA h
 have r3 : (((w.alloc (.cells #[.slice none 0 0] 25)).alloc (.cells #[.string ⟨#[]⟩, .slice none 0 0] 29)).alloc (.cells #[.string ⟨#[]⟩, .slice none 0 0] 29)).cell? ⟨w.heap.size + 1 + 1, 0, none⟩ = some (.string ⟨#[]⟩) := by
  have h := zi ((w.alloc (.cells #[.slice none 0 0] 25)).alloc (.cells #[.string ⟨#[]⟩, .slice none 0 0] 29)) [.string ⟨#[]⟩, .slice none 0 0] 29 0 _ rfl
  rw [World.size_alloc, World.size_alloc] at h; exact h
 have r4 : (((w.alloc (.cells #[.slice none 0 0] 25)).alloc (.cells #[.string ⟨#[]⟩, .slice none 0 0] 29)).alloc (.cells #[.string ⟨#[]⟩, .slice none 0 0] 29)).cell? ⟨w.heap.size + 1 + 1, 1, none⟩ = some (.slice none 0 0) := by
  have h := zi ((w.alloc (.cells #[.slice none 0 0] 25)).alloc (.cells #[.string ⟨#[]⟩, .slice none 0 0] 29)) [.string ⟨#[]⟩, .slice none 0 0] 29 1 _ rfl
  rw [World.size_alloc, World.size_alloc] at h; exact h
 have q0 : ∀ j, (((w.alloc (.cells #[.slice none 0 0] 25)).alloc (.cells #[.string ⟨#[]⟩, .slice none 0 0] 29)).alloc (.cells #[.string ⟨#[]⟩, .slice none 0 0] 29)).frozen? ⟨w.heap.size, j, none⟩ = false := fun j => (zd (heap_alloc_old _ _ (by simp; omega))).trans ((zd (heap_alloc_old _ _ (by simp))).trans (zM w _ _ j))
 have q1 : ∀ j, (((w.alloc (.cells #[.slice none 0 0] 25)).alloc (.cells #[.string ⟨#[]⟩, .slice none 0 0] 29)).alloc (.cells #[.string ⟨#[]⟩, .slice none 0 0] 29)).frozen? ⟨w.heap.size + 1, j, none⟩ = false := fun j => by
  have h := zM (w.alloc (.cells #[.slice none 0 0] 25)) #[.string ⟨#[]⟩, .slice none 0 0] 29 j
  rw [World.size_alloc] at h; exact (zd (heap_alloc_old _ _ (by simp))).trans h
 have q2 : ∀ j, (((w.alloc (.cells #[.slice none 0 0] 25)).alloc (.cells #[.string ⟨#[]⟩, .slice none 0 0] 29)).alloc (.cells #[.string ⟨#[]⟩, .slice none 0 0] 29)).frozen? ⟨w.heap.size + 1 + 1, j, none⟩ = false := fun j => by
  have h := zM ((w.alloc (.cells #[.slice none 0 0] 25)).alloc (.cells #[.string ⟨#[]⟩, .slice none 0 0] 29)) #[.string ⟨#[]⟩, .slice none 0 0] 29 j
  rw [World.size_alloc, World.size_alloc] at h; exact h
 exact ⟨zA (zA (zi w [.slice none 0 0] _ 0 _ rfl)), r1, r2, r3, r4, q0 0, q1 0, q1 1, q2 0, q2 1, by simp⟩
theorem zeo (w : World) : Below w.heap.size w (((w.alloc (.cells #[.slice none 0 0] 25)).alloc (.cells #[.string ⟨#[]⟩, .slice none 0 0] 29)).alloc (.cells #[.string ⟨#[]⟩, .slice none 0 0] 29)) := (((Below.refl _ _).alloc (Nat.le_refl _) _).alloc (by simp) _).alloc (by simp; omega) _
theorem zco {w w6 : World} {v0 v1 v2 v3 v4 : Value} (hB6 : Below w.heap.size w w6) : Below w.heap.size w (((((w6.setCell ⟨w.heap.size, 0, none⟩ v0).setCell ⟨w.heap.size + 1, 0, none⟩ v1).setCell ⟨w.heap.size + 1, 1, none⟩ v2).setCell ⟨w.heap.size + 1 + 1, 0, none⟩ v3).setCell ⟨w.heap.size + 1 + 1, 1, none⟩ v4) := by
 refine Below.setCell (Below.setCell (Below.setCell (Below.setCell (Below.setCell hB6 ?_ _) ?_ _) ?_ _) ?_ _) ?_ _ <;> simp <;> omega
theorem zdW {W : World} {a b : Tm} {u0 u1 v0 v1 : Value} {f1 f2 : List Nat} {g : Nat} (h1 : RdVs W a.cd [u0, u1] f1) (h2 : RdVs W b.cd [v0, v1] f2) (hg : g < W.heap.size) (hc : ∀ j u, [u0, u1, v0, v1][j]? = some u → W.cell? ⟨g, j, none⟩ = some u) : Rd W (.sl ([a, b].map Tm.cd)) (.slice (some ⟨g, 0, none⟩) 2 2) (g :: (f1 ++ f2)) := by
 simp only [Rd]
 refine ⟨_, 2, rfl, by simp, by simp [maxLen], .inr ⟨by simp, g, 0, f1 ++ f2, rfl, hg, rfl, ?_⟩⟩
 refine RdRows.mk (k := 2) (vs := [u0, u1, v0, v1]) (fun j u hj => by simpa using hc j u hj) ?_
 have := h1.app h2
 simpa using this
/-- What a law has drawn, in three boxes. -/
structure Env5 (W : World) (n : Nat) (s : Sg) (es : List Eqn) (a b : Tm) (sa : Option Addr) (sc : Nat) (ev : Value) (ka : Option Addr) (kc : Nat) (kb : Option Addr) (kd : Nat) (sf ef fa fb : List Nat) : Prop where
 x0 : W.cell? ⟨n, 0, none⟩ = some (.slice sa s.syms.length sc)
 y0 : W.cell? ⟨n + 1, 0, none⟩ = some (.string a.name)
 y1 : W.cell? ⟨n + 1, 1, none⟩ = some (.slice ka a.kids.length kc)
 k0 : W.cell? ⟨n + 1 + 1, 0, none⟩ = some (.string b.name)
 k1 : W.cell? ⟨n + 1 + 1, 1, none⟩ = some (.slice kb b.kids.length kd)
 hs : RdVs W s.cd [.slice sa s.syms.length sc] sf
 he : Rd W (.sl (es.map Eqn.cd)) ev ef
 ha : RdVs W a.cd [.string a.name, .slice ka a.kids.length kc] fa
 hb : RdVs W b.cd [.string b.name, .slice kb b.kids.length kd] fb
theorem Env5.below {W W' : World} {n : Nat} {s : Sg} {es : List Eqn} {a b : Tm} {sa : Option Addr} {sc : Nat} {ev : Value} {ka : Option Addr} {kc : Nat} {kb : Option Addr} {kd : Nat} {sf ef fa fb : List Nat} (h : Env5 W n s es a b sa sc ev ka kc kb kd sf ef fa fb) (hb : Below W.heap.size W W') : Env5 W' n s es a b sa sc ev ka kc kb kd sf ef fa fb :=
 ⟨za h.x0 hb, za h.y0 hb, za h.y1 hb, za h.k0 hb, za h.k1 hb, h.hs.below hb, h.he.below hb, h.ha.below hb, h.hb.below hb⟩
theorem env5_new {u : World} {s : Sg} {es : List Eqn} {a b : Tm} {sa : Option Addr} {sc : Nat} {ev : Value} {ka : Option Addr} {kc : Nat} {kb : Option Addr} {kd : Nat} {sf ef fa fb : List Nat} (T U V : TypeId) (hs : RdVs u s.cd [.slice sa s.syms.length sc] sf) (he : Rd u (.sl (es.map Eqn.cd)) ev ef) (ha : RdVs u a.cd [.string a.name, .slice ka a.kids.length kc] fa) (hb : RdVs u b.cd [.string b.name, .slice kb b.kids.length kd] fb) :
  Env5 (((u.alloc (.cells #[.slice sa s.syms.length sc] T)).alloc (.cells #[.string a.name, .slice ka a.kids.length kc] U)).alloc (.cells #[.string b.name, .slice kb b.kids.length kd] V)) u.heap.size s es a b sa sc ev ka kc kb kd sf ef fa fb ∧
  Below u.heap.size u (((u.alloc (.cells #[.slice sa s.syms.length sc] T)).alloc (.cells #[.string a.name, .slice ka a.kids.length kc] U)).alloc (.cells #[.string b.name, .slice kb b.kids.length kd] V)) := by
 obtain ⟨X, Y, K, hbb, hsz⟩ := box3_new u [.slice sa s.syms.length sc] [.string a.name, .slice ka a.kids.length kc] [.string b.name, .slice kb b.kids.length kd] T U V
 exact ⟨⟨X 0 _ rfl, Y 0 _ rfl, Y 1 _ rfl, K 0 _ rfl, K 1 _ rfl, hs.below hbb, he.below hbb, ha.below hbb, hb.below hbb⟩, hbb⟩
theorem zdD {es : List Eqn} {a b : Tm} {n : Nat} (h : ∀ q ∈ es, q.a.size ≤ n ∧ q.b.size ≤ n) (ha : a.size ≤ n) (hb : b.size ≤ n) : ∀ t ∈ zq es [a, b], t.size ≤ n := by
 refine zcE (P := fun t => t.size ≤ n) (fun nm ks hp k hk => ?_) _ _ (by simp) (fun t ht => ?_)
 ·have h1 := Tm.size_mem hk
  simp only [Tm.size] at hp; omega
 ·rcases zeI.1 ht with ht | ht
  ·obtain ⟨q, hq, h2⟩ := List.mem_flatMap.1 ht
   simp at h2
   rcases h2 with rfl | rfl
   ·exact (h q hq).1
   ·exact (h q hq).2
  ·simp at ht
   rcases ht with rfl | rfl
   ·exact ha
   ·exact hb
theorem big_of3 {es : List Eqn} {a b : Tm} (h1 : es.length ≤ 13) (h2 : ∀ q ∈ es, q.a.size ≤ 45 ∧ q.b.size ≤ 45) (ha : a.size ≤ 100) (hb : b.size ≤ 100) : Tm.sizes (zk es ++ [a, b]) ≤ 5000 := by
 have h := zc9 es 90 (fun e he => by have := h2 e he; omega)
 rw [Tm.sizes_append]; simp only [Tm.sizes]; omega
theorem cls_ok (s : Sg) (es : List Eqn) (ms : List Tm) : ∃ c : List Nat, zci s es ms = nats c ∧ c.length ≤ (zq es ms).length ∧ c.length ≤ 24 ∧ ∀ k, k < c.length → Clo.cl c k ≤ k := by
 cases hm : zQ s es ms with
 | false => rw [zcX hm]; exact ⟨[], rfl, by simp, by simp, by simp⟩
 | true =>
  rw [zcj hm]
  have h3 := (za5 es ms).1
  exact ⟨cloC es ms, rfl, by omega, by have := (zax hm).2; omega, fun k hk => ((za5 es ms).2 k (by omega)).1⟩
theorem d5_end {w W : World} {s : Sg} {es : List Eqn} {a b : Tm} {sa ka kb : Option Addr} {sc kc kd : Nat} {ev v0 v1 v2 v3 v4 : Value} {sf ef fa fb : List Nat} (hfew : s.few) (hel : es.length ≤ 13) (hes : ∀ q ∈ es, q.a.size ≤ 45 ∧ q.b.size ≤ 45) (ha : a.size ≤ 45) (hb : b.size ≤ 45)
  (hrs : RdVs W s.cd [.slice sa s.syms.length sc] sf) (hre : Rd W (.sl (es.map Eqn.cd)) ev ef) (hra : RdVs W a.cd [.string a.name, .slice ka a.kids.length kc] fa) (hrb : RdVs W b.cd [.string b.name, .slice kb b.kids.length kd] fb)
  (hown : ∀ x, x ∈ sf ∨ x ∈ ef ∨ x ∈ fa ∨ x ∈ fb → w.heap.size + 1 + 1 + 1 ≤ x) :
  Drawn5 w.heap.size (.returned (.tuple #[.agg #[.slice sa s.syms.length sc], ev, .agg #[.string a.name, .slice ka a.kids.length kc], .agg #[.string b.name, .slice kb b.kids.length kd]])) (((((W.setCell ⟨w.heap.size, 0, none⟩ v0).setCell ⟨w.heap.size + 1, 0, none⟩ v1).setCell ⟨w.heap.size + 1, 1, none⟩ v2).setCell ⟨w.heap.size + 1 + 1, 0, none⟩ v3).setCell ⟨w.heap.size + 1 + 1, 1, none⟩ v4) := by
 refine ⟨s, es, a, b, sa, sc, ev, ka, kc, kb, kd, sf, ef, fa, fb, hfew, hel, hes, ha, hb, rfl, hrs.same _ ?_, hre.same _ ?_, hra.same _ ?_, hrb.same _ ?_, fun x hx => by have := hown x hx; omega⟩
 all_goals exact fun x hx => by have := hown x (by simp [hx]); exact zaI x (by omega) (by omega) (by omega)
theorem Drawn5.drew {B : Nat} {e : Ending} {W : World} (h : Drawn5 B e W) : Drawn5 B e W.drew := by
 obtain ⟨s, es, a, b, sa, sc, ev, ka, kc, kb, kd, sf, ef, fa, fb, h1, h2, h3, h4, h5, h6, h7, h8, h9, h10, h11⟩ := h
 exact ⟨s, es, a, b, sa, sc, ev, ka, kc, kb, kd, sf, ef, fa, fb, h1, h2, h3, h4, h5, h6, h7.below (zj _), h8.below (zj _), h9.below (zj _), h10.below (zj _), h11⟩
theorem Res3.only {w W W' : World} {rb : Nat} (h : Res3 w W) (ho : Only [rb] W W') (hr : w.heap.size + 1 + 1 < rb) : Res3 w W' := by
 have hz := h.size
 have hs := ho.size
 exact ⟨ho.cellk h.r0 (by omega), ho.cellk h.r1 (by omega), ho.cellk h.r2 (by omega), ho.cellk h.r3 (by omega), ho.cellk h.r4 (by omega), ho.free h.f0 (by omega) (by omega), ho.free h.f1 (by omega) (by omega), ho.free h.f2 (by omega) (by omega), ho.free h.f3 (by omega) (by omega), ho.free h.f4 (by omega) (by omega), by omega⟩
theorem zbS (v : Value) (w : World) (hv : Byts w v) :
  Calls Tryz.prog 20 #[v] w fun e w' => Drawn5 w.heap.size e w' ∧ Below w.heap.size w w' := by
 have hR := res3_new w
 have hB0 := zeo w
 go_enter Tryz.func20, Tryz.ntmps20
 go_wp2_with fail
 refine (zen v _ (by exact hv.below hB0)).mono ?_
 rintro e u1 ⟨⟨s, es, a, b, sa, sc, ev, ka, kc, kb, kd, sf, ef, fa, fb, hfew, hel, hes, hsa, hsb, rfl, hrs, hre, hra, hrb, hown⟩, hb1⟩
 have hR1 := hR.below hb1
 have hz1 := hR1.size
 have hB1 := hB0.trans (hb1.mono hB0.size)
 have hown' : ∀ x, x ∈ sf ∨ x ∈ ef ∨ x ∈ fa ∨ x ∈ fb → w.heap.size + 1 + 1 + 1 ≤ x := fun x hx => by have := hown x hx; simp at this; omega
 have hlt' : ∀ x, x ∈ sf ∨ x ∈ ef ∨ x ∈ fa ∨ x ∈ fb → x < u1.heap.size := fun x hx => by
  rcases hx with h | h | h | h
  ·exact RdVs.lt _ hrs x h
  ·exact hre.lt _ x h
  ·exact RdVs.lt _ hra x h
  ·exact RdVs.lt _ hrb x h
 obtain ⟨E, hbb⟩ := env5_new 25 29 29 hrs hre hra hrb
 have hbig := big_of3 hel hes (a := a) (b := b) (by omega) (by omega)
 have HSM := Lib.hid (zdD hes hsa hsb)
 obtain ⟨c, hcl, hcp, hc24, hck⟩ := cls_ok s es [a, b]
 have HCK := Lib.hid hck
 have HES := Lib.hid hes
 have hR1' := hR1.below hbb
 have hB1' := hB1.trans (hbb.mono hB1.size)
 have hv1 := hv.below hB1'
 have hzW := hbb.size
 obtain ⟨evA, evC, rfl, hec1, hec2⟩ := zc hre
 have x0 := E.x0
 have y0 := E.y0
 have y1 := E.y1
 have k0 := E.k0
 have k1 := E.k1
 have hl1 : u1.heap.size + 1 + 1 < (((u1.alloc (.cells #[.slice sa s.syms.length sc] 25)).alloc (.cells #[.string a.name, .slice ka a.kids.length kc] 29)).alloc (.cells #[.string b.name, .slice kb b.kids.length kd] 29)).heap.size := by simp
 clear hrs hre hra hrb hb1 hB0 hR hR1 hB1 hbb hown hes hck hv
 go_wp2_with fail
 generalize ((u1.alloc (.cells #[.slice sa s.syms.length sc] 25)).alloc (.cells #[.string a.name, .slice ka a.kids.length kc] 29)).alloc (.cells #[.string b.name, .slice kb b.kids.length kd] 29) = W1 at *
 refine (zaT v _ hv1).mono ?_
 rintro e u2 ⟨rfl, hu2, hb2⟩
 obtain ⟨rb, hrb⟩ : ∃ rb, rb = W1.heap.size := ⟨_, rfl⟩
 rw [← hrb] at hu2 hl1
 rw [← hrb]
 have E2 := E.below hb2
 have hR2 := hR1'.below hb2
 have hB2 := hB1'.trans (hb2.mono hB1'.size)
 have hl2 := hu2.lt
 have hwrb : w.heap.size + 1 + 1 < rb := by omega
 have hu1rb : u1.heap.size ≤ rb := by omega
 clear E hR1' hB1' hb2 x0 y0 y1 k0 k1 hzW hrb hv1
 have x0 := E2.x0
 have y0 := E2.y0
 have y1 := E2.y1
 have k0 := E2.k0
 have k1 := E2.k1
 have ba := zb u2 (.cells #[.string a.name, .slice ka a.kids.length kc, .string b.name, .slice kb b.kids.length kd] 29)
 go_wp2_with fail
 refine (zbZ s es [a, b] _ _ _ _ _ _ _ (by omega) (by exact E2.hs.below ba) (by exact E2.he.below ba) (by exact zdW (E2.ha.below ba) (E2.hb.below ba) (by simp) (fun j u hu => zi u2 _ 29 j u hu))).mono ?_
 rintro e u3 ⟨cv, cf, rfl, hc, hcf, hb3'⟩
 have hb3 := ba.trans (hb3'.mono (by simp))
 have E3 := E2.below hb3
 have hR3 := hR2.below hb3
 have hB3 := hB2.trans (hb3.mono hB2.size)
 have hu3 := hu2.below hb3
 have hl3 := hu3.lt
 rw [hcl] at hc
 have hcg : ∀ x ∈ cf, rb < x := fun x h => by have := (hcf.2 _ h).1; simp at this; omega
 have hcnr : rb ∉ cf := fun h => by have := hcg _ h; omega
 obtain ⟨ca, cc, rfl, hcc1, hcc2⟩ := zc hc
 rw [zm] at hcc1
 rw [zm]
 clear E2 hR2 hB2 hu2 hb3 hb3' ba x0 y0 y1 k0 k1 hcl hcf
 have x0 := E3.x0
 have y0 := E3.y0
 have y1 := E3.y1
 have k0 := E3.k0
 have k1 := E3.k1
 have ba := zb u3 (.cells #[.string a.name, .slice ka a.kids.length kc, .string b.name, .slice kb b.kids.length kd] 29)
 go_wp2_with fail
 refine (zU es [a, b] _ _ _ _ _ (by omega) (by exact E3.he.below ba) (by exact zdW (E3.ha.below ba) (E3.hb.below ba) (by simp) (fun j u hu => zi u3 _ 29 j u hu))).mono ?_
 rintro e u4 ⟨⟨pv, pf, rfl, hp, hpf⟩, hb4'⟩
 change Rd u4 (.sl ((zq es [a, b]).map Tm.cd)) pv pf at hp
 have hb4 := ba.trans (hb4'.mono (by simp))
 have E4 := E3.below hb4
 have hR4 := hR3.below hb4
 have hB4 := hB3.trans (hb4.mono hB3.size)
 have hu4 := hu3.below hb4
 have hl4 := hu4.lt
 replace hc := hc.below hb4
 have hpg : ∀ x ∈ pf, rb < x := fun x h => by have := (hpf.2 _ h).1; simp at this; omega
 have hpnr : rb ∉ pf := fun h => by have := hpg _ h; omega
 obtain ⟨pa, pc, rfl, hpc1, hpc2⟩ := zc hp
 clear E3 hR3 hB3 hu3 hb4 hb4' ba x0 y0 y1 k0 k1 hpf
 generalize zq es [a, b] = ps at *
 go_wp2_with fail
 go_loopw [13] (fun i wr => ∃ k q : Nat, k ≤ c.length ∧ i = .int .i64 k ∧ q ≤ k ∧ Rdr wr rb q ∧ Only [rb] u4 wr) (fun i _ => c.length - (intOf i).toNat)
 case atStart => exact ⟨0, 0, Nat.zero_le _, rfl, Nat.le_refl _, hu4, Only.refl _ _⟩
 case round =>
  clear hu4
  obtain ⟨k, q, hkl, rfl, hqk, hr, hN⟩ := hrel
  have hsr : ∀ x, x ∈ sf ∨ x ∈ ef ∨ x ∈ fa ∨ x ∈ fb → x ≠ rb := fun x hx => by have := hlt' x hx; omega
  have x0 := hN.cellk E4.x0 (by omega)
  have hsw := E4.hs.only hN (fun h => hsr _ (by simp [h]) rfl)
  have hew := E4.he.only hN (fun h => hsr _ (by simp [h]) rfl)
  have hRw := hR4.only hN hwrb
  have hBw : Below w.heap.size w wr := hB4.trans (hN.toBelow hB4.size (fun b hb => by simp at hb; omega))
  have hcw := hc.only hN hcnr
  have hpw := hp.only hN hpnr
  have hlr := hr.lt
  by_cases hlt : k < c.length
  ·obtain ⟨b3, off3, rfl, hbs3, hb3m⟩ := zo hc (by rw [zm]; omega)
   have hb3g := hcg b3 hb3m
   obtain ⟨e0, _⟩ := zaa hcw (k := k) (by rw [zm]; omega)
   rw [nats_at] at e0
   have hkc : (k : Int) < (c.length : Int) := by omega
   by_cases hck : Clo.cl c k = k
   ·have hq1 := len_of_eq hck
    go_wp2_with fail
    go_roundw
    case rel => exact ⟨k + 1, q, by omega, by go_num, by omega, hr, hN⟩
    case measure => simp [intOf]; omega
   have hq1 : (((Clo.cl c k : Nat) : Int) == (k : Int)) = false := beq_eq_false_iff_ne.2 (by omega)
   go_wp2_with fail
   refine (zN rb q 3 _ (by omega) (by omega) (by omega) hr).mono ?_
   rintro e w5 ⟨⟨m, hm, rfl⟩, hr5, ho5⟩
   have hN5 := hN.trans ho5
   by_cases hm0 : m = 0
   rotate_left
   ·have hq2 : ((m : Int) == 0) = false := beq_eq_false_iff_ne.2 (by omega)
    go_wp2_with fail
    go_roundw
    case rel => exact ⟨k + 1, q + 1, by omega, by go_num, by omega, hr5, hN5⟩
    case measure => simp [intOf]; omega
   subst hm0
   have hcc := HCK.out k hlt
   have hkp : k < ps.length := by omega
   have hcp' : Clo.cl c k < ps.length := by omega
   obtain ⟨b1, off1, rfl, hbs1, hb1m⟩ := zo hp (by omega)
   have hb1g := hpg b1 hb1m
   have hp5 := hp.only hN5 hpnr
   obtain ⟨la, lc, g1, c0, c1, n0, n1, sub1⟩ := Tm.at hp5 hkp
   obtain ⟨ma, mc, g2, d0, d1, n2, n3, sub2⟩ := Tm.at hp5 hcp'
   have hs1 := HSM.out _ (zeJ hkp)
   have hs2 := HSM.out _ (zeJ hcp')
   generalize ps[k] = t1 at *
   generalize ps[Clo.cl c k] = t2 at *
   have hs5 := E4.hs.only hN5 (fun h => hsr _ (by simp [h]) rfl)
   have he5 := E4.he.only hN5 (fun h => hsr _ (by simp [h]) rfl)
   replace x0 := hN5.cellk E4.x0 (by omega)
   replace e0 := ho5.cellk e0 (by omega)
   obtain ⟨r0, r1, r2, r3, r4, f0, f1, f2, f3, f4, hrz⟩ := hR4.only hN5 hwrb
   have hB5 : Below w.heap.size w w5 := hB4.trans (hN5.toBelow hB4.size (fun b hb => by simp at hb; omega))
   have hkp' : (k : Int) < (ps.length : Int) := by omega
   have hcp2 : ((Clo.cl c k : Nat) : Int) < (ps.length : Int) := by omega
   go_wp2_with fail
   go_region_held3 (fun U => U.cell? ⟨u1.heap.size, 0, none⟩ = some (.slice sa s.syms.length sc) ∧ U.cell? ⟨b1, off1 + k * 2, none⟩ = some (.string t1.name) ∧ U.cell? ⟨b1, off1 + k * 2 + 1, none⟩ = some (.slice la t1.kids.length lc) ∧ U.cell? ⟨b3, off3 + k, none⟩ = some (.int .i64 (Clo.cl c k : Nat)) ∧ U.cell? ⟨b1, off1 + Clo.cl c k * 2, none⟩ = some (.string t2.name) ∧ U.cell? ⟨b1, off1 + Clo.cl c k * 2 + 1, none⟩ = some (.slice ma t2.kids.length mc))
    ((refine ⟨?_, ?_, ?_, ?_, ?_, ?_⟩) <;> ((repeat (first | with_reducible assumption | with_reducible refine zaH ?_ | ((with_reducible refine (World.cell?_setCell_other _ _ _ _ ?_).trans ?_); (focus (intro e; simp only [Addr.mk.injEq] at e; omega))))); done))
    (fail)
   all_goals
    go_wp2_with fail
    refine bodyPost_ret (v := .tuple #[.agg #[.slice sa s.syms.length sc], .slice evA es.length evC, .agg #[.string t1.name, .slice la t1.kids.length lc], .agg #[.string t2.name, .slice ma t2.kids.length mc]]) ?_ rfl ?_
    ·simp [results, Tryz.results20, go_sem, r0, r1, r2, r3, r4]
    ·have hx9 : ∀ x, x ∈ sf ∨ x ∈ ef ∨ x ∈ g1 ∨ x ∈ g2 → w.heap.size + 1 + 1 + 1 ≤ x := fun x hx => by
      rcases hx with h | h | h | h
      ·exact hown' x (by simp [h])
      ·exact hown' x (by simp [h])
      ·have := hpg _ (sub1 _ h); omega
      ·have := hpg _ (sub2 _ h); omega
     exact ⟨(d5_end hfew hel HES.out hs1 hs2 hs5 he5 (Tm.rdv n0 n1) (Tm.rdv n2 n3) hx9).drew, (zco hB5).drew⟩
  ·have y0 := hN.cellk E4.y0 (by omega)
   have y1 := hN.cellk E4.y1 (by omega)
   have k0 := hN.cellk E4.k0 (by omega)
   have k1 := hN.cellk E4.k1 (by omega)
   have haw := E4.ha.only hN (fun h => hsr _ (by simp [h]) rfl)
   have hbw := E4.hb.only hN (fun h => hsr _ (by simp [h]) rfl)
   obtain ⟨r0, r1, r2, r3, r4, f0, f1, f2, f3, f4, hrz⟩ := hRw
   go_wp2_with fail
   go_region_held3 (fun U => U.cell? ⟨u1.heap.size, 0, none⟩ = some (.slice sa s.syms.length sc) ∧ U.cell? ⟨u1.heap.size + 1, 0, none⟩ = some (.string a.name) ∧ U.cell? ⟨u1.heap.size + 1, 1, none⟩ = some (.slice ka a.kids.length kc) ∧ U.cell? ⟨u1.heap.size + 1 + 1, 0, none⟩ = some (.string b.name) ∧ U.cell? ⟨u1.heap.size + 1 + 1, 1, none⟩ = some (.slice kb b.kids.length kd))
    ((refine ⟨?_, ?_, ?_, ?_, ?_⟩) <;> ((repeat (first | with_reducible assumption | with_reducible refine zaH ?_ | ((with_reducible refine (World.cell?_setCell_other _ _ _ _ ?_).trans ?_); (focus (intro e; simp only [Addr.mk.injEq] at e; omega))))); done))
    (fail)
   all_goals
    go_wp2_with fail
    refine bodyPost_ret (v := .tuple #[.agg #[.slice sa s.syms.length sc], .slice evA es.length evC, .agg #[.string a.name, .slice ka a.kids.length kc], .agg #[.string b.name, .slice kb b.kids.length kd]]) ?_ rfl ?_
    ·simp [results, Tryz.results20, go_sem, r0, r1, r2, r3, r4]
    ·exact ⟨(d5_end hfew hel HES.out hsa hsb hsw hew haw hbw hown').drew, (zco hBw).drew⟩
end Go.Proofs.YtlefdhhnlbpbkaaGreat
end
