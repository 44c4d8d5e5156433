/- Parts of the proof: WhYo. -/
import Derived.Test.YtlefdhhnlbpbkaaGreatPv34
import Derived.Test.YtlefdhhnlbpbkaaGreatPv35
import Derived.Deep.CutRange
section
namespace Go.Proofs.YtlefdhhnlbpbkaaGreat
open Go Go.RowKit
set_option linter.unusedVariables false
set_option linter.unusedSimpArgs false
set_option maxRecDepth 100000
set_option maxHeartbeats 16000000
mutual
theorem addP_sz {K : Nat} : ∀ (t : Tm) (l : List Tm), t.size ≤ K → (∀ x ∈ l, x.size ≤ K) → ∀ x ∈ Tm.addP l t, x.size ≤ K
 | .mk n ks, l, ht, h => by
  have h9 := Tm.size_eq (.mk n ks)
  simp only [Tm.kids] at h9
  have h1 := zcC ks l (by omega) h
  simp only [Tm.addP]
  split
  ·exact h1
  ·intro x hx
   rcases zer.1 hx with hx | hx
   ·exact h1 x hx
   ·obtain rfl := List.mem_singleton.1 hx
    exact ht
theorem zcC {K : Nat} : ∀ (ts l : List Tm), Tm.sizes ts ≤ K → (∀ x ∈ l, x.size ≤ K) → ∀ x ∈ Tm.addPs l ts, x.size ≤ K
 | [], l, _, h => by simpa [Tm.addPs] using h
 | t :: ts, l, ht, h => by
  simp only [Tm.sizes] at ht
  simp only [Tm.addPs]
  exact zcC ts _ (by omega) (addP_sz t l (by omega) h)
end
theorem zcD {es : List Eqn} {ms : List Tm} {t : Tm} (h : t ∈ zx es ms) : t.size ≤ Tm.sizes (zj es ++ ms) := zcC _ [] (Nat.le_refl _) (by simp) t h
theorem zck (t : Tm) : t.kids.length ≤ t.size := by
 have h1 := Tm.size_eq t
 have h2 := Tm.sizes_len t.kids
 omega
theorem zcE {r n : Int} {t : Tm} (h : t.size ≤ 1000000) : (Wy.mk r n t []).fit9 100000 := ⟨h, by simp [Wy.kids], by simp [Wy.kids]⟩
theorem zam {r n : Int} {s : ByteArray} {ks : List Wy} (hl : ks.length ≤ 100000) (h : ∀ y ∈ ks, y.fit9 100000) : (Wy.mk r n ⟨s, []⟩ ks).fit9 100000 := ⟨by simp only [Wy.t]; rw [Tm.size_eq]; simp [Tm.kids, Tm.sizes], hl, fun y hy => (h y hy).thin (by decide)⟩
theorem oneW_fit {ps : List Tm} {st : List Stp} {rec : Nat → Nat → Wy} {i : Nat} (hk : ∀ t ∈ ps, t.kids.length ≤ 100000) (h : ∀ p q, (rec p q).fit9 100000) : (oneW ps st rec i).fit9 100000 := by
 have h0 : ∀ (r n : Int), (Wy.mk r n ⟨⟨#[]⟩, []⟩ []).fit9 100000 := fun r n => zam (by simp) (by simp)
 unfold oneW
 split
 ·exact h0 _ _
 ·split
  ·exact h0 _ _
  ·split
   ·rename_i x y hx hy
    refine zam ?_ ?_
    ·have := hk x (List.mem_of_getElem? hx)
     simp; omega
    ·intro y hy
     simp only [List.mem_map] at hy
     obtain ⟨p, _, rfl⟩ := hy
     exact h _ _
   ·exact h0 _ _
theorem zc3 {one : Nat → Wy} (h : ∀ i, (one i).fit9 100000) (k : Int) : (zaD one k).fit9 100000 := by
 unfold zaD
 split
 ·exact zam (by simp) (by simpa using h _)
 ·exact h _
theorem zeh {one : Nat → Wy} (h : ∀ i, (one i).fit9 100000) : ∀ (l : List Int), (zV one l).fit9 100000
 | [] => zam (by simp) (by simp)
 | k :: ks => by
  have key : ∀ (l : List Int) (w : Wy), w.fit9 100000 → (l.foldl (fun out q => Wy.mk 4 0 ⟨⟨#[]⟩, []⟩ [out, zaD one q]) w).fit9 100000 := by
   intro l
   induction l with
   | nil => intro w hw; exact hw
   | cons q l ih => intro w hw; exact ih _ (zam (by simp) (by simpa using ⟨hw, zc3 h q⟩))
  exact key ks _ (zc3 h k)
theorem zdP {ps : List Tm} {st : List Stp} (hk : ∀ t ∈ ps, t.kids.length ≤ 100000 ∧ t.size ≤ 1000000) : ∀ (F n a b : Nat), (whyW ps st F n a b).fit9 100000
 | 0, n, a, b => zcE (by
  rw [List.getD_eq_getElem?_getD]
  cases h : ps[a]? with
  | none => simp only [Option.getD_none]; rw [Tm.size_eq]; simp [Tm.kids, Tm.sizes]
  | some x => exact (hk x (List.mem_of_getElem? h)).2)
 | F + 1, n, a, b => by
  unfold whyW
  split
  ·exact zcE (by
    rw [List.getD_eq_getElem?_getD]
    cases h : ps[a]? with
    | none => simp only [Option.getD_none]; rw [Tm.size_eq]; simp [Tm.kids, Tm.sizes]
    | some x => exact (hk x (List.mem_of_getElem? h)).2)
  ·exact zeh (fun i => oneW_fit (fun t ht => (hk t ht).1) (fun p q => zdP hk F i p q)) _
theorem zc4 {s : Sg} {es : List Eqn} {a b : Tm} (h : Tm.sizes (zj es ++ [a, b]) ≤ 100000) : (zag s es a b).fit9 100000 := by
 unfold zag
 split
 ·exact zdP (fun t ht => by have h1 := zcD ht; have h2 := zck t; omega) _ _ _ _
 ·exact zam (by simp) (by simp)
theorem BendOwn.below {dlo lo : Nat} {w w' : World} {W : Wy} {v3 v : Value} (h : BendOwn dlo lo w W v3 v) (hb : Below w.heap.size w w') : BendOwn dlo lo w' W v3 v := by
 obtain ⟨kf, f3, h1, h2, h3, h4, h5⟩ := h
 exact ⟨kf, f3, h1.below hb, h2, h3.below hb, h4, h5⟩
theorem BendOwn.mono {dlo dlo' lo lo' : Nat} {w : World} {W : Wy} {v3 v : Value} (h : BendOwn dlo lo w W v3 v) (hd : dlo' ≤ dlo) (hl : lo' ≤ lo) : BendOwn dlo' lo' w W v3 v := by
 obtain ⟨kf, f3, h1, h2, h3, h4, h5⟩ := h
 exact ⟨kf, f3, h1.base (fun b hb => Nat.le_trans hl (h1.block hb).1), fun x hx => Nat.le_trans hd (h2 x hx), h3, fun x hx => Nat.le_trans hd (h4 x hx), h5⟩
/-- The same, and apart from block D. -/
def BendD (dlo lo D : Nat) (w : World) (W : Wy) (v3 v : Value) : Prop := ∃ kf f3, Own w lo 32 5 v (W.kids.map Wy.cd) kf ∧ (∀ x ∈ kf, dlo ≤ x ∧ x ≠ D) ∧ Rd w (.sl (W.t.kids.map Tm.cd)) v3 f3 ∧ (∀ x ∈ f3, dlo ≤ x ∧ x ≠ D) ∧ (∀ b, v.ownBlock = some b → b ∉ f3) ∧ ∀ b, v.ownBlock = some b → b ≠ D
theorem BendD.own {dlo lo D : Nat} {w : World} {W : Wy} {v3 v : Value} (h : BendD dlo lo D w W v3 v) : BendOwn dlo lo w W v3 v := by
 obtain ⟨kf, f3, h1, h2, h3, h4, h5, _⟩ := h
 exact ⟨kf, f3, h1, fun x hx => (h2 x hx).1, h3, fun x hx => (h4 x hx).1, h5⟩
theorem BendOwn.atD {dlo lo D : Nat} {w : World} {W : Wy} {v3 v : Value} (h : BendOwn dlo lo w W v3 v) (hD : w.heap.size ≤ D) : BendD dlo lo D w W v3 v := by
 obtain ⟨kf, f3, h1, h2, h3, h4, h5⟩ := h
 exact ⟨kf, f3, h1, fun x hx => ⟨h2 x hx, by have := h1.lt x hx; omega⟩, h3, fun x hx => ⟨h4 x hx, by have := h3.lt _ x hx; omega⟩, h5, fun b hb => by have := (h1.block hb).2; omega⟩
theorem BendD.below {dlo lo D : Nat} {w w' : World} {W : Wy} {v3 v : Value} (h : BendD dlo lo D w W v3 v) (hb : Below w.heap.size w w') : BendD dlo lo D w' W v3 v := by
 obtain ⟨kf, f3, h1, h2, h3, h4, h5, h6⟩ := h
 exact ⟨kf, f3, h1.below hb, h2, h3.below hb, h4, h5, h6⟩
theorem BendD.only {rb dlo lo D : Nat} {w w' : World} {W : Wy} {v3 v : Value} (h : BendD dlo lo D w W v3 v) (ho : Only [rb] w w') (hd : rb < dlo) (hl : dlo ≤ lo) : BendD dlo lo D w' W v3 v := by
 obtain ⟨kf, f3, h1, h2, h3, h4, h5, h6⟩ := h
 exact ⟨kf, f3, h1.same (fun b hb => ho.block b (h1.lt b hb) (by have := (h2 b hb).1; simp; omega)) (fun b hb => ho.block b (h1.block hb).2 (by have := (h1.block hb).1; simp; omega)), h2, h3.same _ (fun b hb => ho.block b (h3.lt _ b hb) (by have := (h4 b hb).1; simp; omega)), h4, h5, h6⟩
theorem BendD.same2 {dlo lo D : Nat} {w w' : World} {W : Wy} {v3 v : Value} (h : BendD dlo lo D w W v3 v) (hs : Same2 D D w w') : BendD dlo lo D w' W v3 v := by
 obtain ⟨kf, f3, h1, h2, h3, h4, h5, h6⟩ := h
 exact ⟨kf, f3, h1.same2 hs (fun b hb => ⟨(h2 b hb).2, (h2 b hb).2⟩) (fun b hb => ⟨h6 b hb, h6 b hb⟩), h2, h3.same2 hs (fun b hb => ⟨(h4 b hb).2, (h4 b hb).2⟩), h4, h5, h6⟩
structure DW (w : World) (rb SBk QBk DB : Nat) (s : Sg) (es : List Eqn) (sa : Option Addr) (sc : Nat) (ev : Value) (sf ef : List Nat) (r n : Int) (t : Tm) (ks : List Wy) (a3 : Option Addr) (c3 : Nat) (a4 : Option Addr) (c4 : Nat) (f : List Nat) (p : Nat) (u : World) : Prop where
 hA : Box [.slice none 0 0] w.heap.size u
 hC : Box [.int .i64 0, .int .i64 0, .string ⟨#[]⟩, .slice none 0 0, .slice none 0 0] (w.heap.size + 1) u
 hS : Box [.slice sa s.syms.length sc] SBk u
 hD : Box [.int .i64 r, .int .i64 n, .string t.name, .slice a3 t.kids.length c3, .slice a4 ks.length c4] DB u
 hrs : RdVs u s.cd [.slice sa s.syms.length sc] sf
 hre : Rd u (.sl (es.map Eqn.cd)) ev ef
 hrw : RdVs u (Wy.mk r n t ks).cd [.int .i64 r, .int .i64 n, .string t.name, .slice a3 t.kids.length c3, .slice a4 ks.length c4] f
 hbd : BendD (rb + 1) (QBk + 1) DB u (Wy.mk r n t ks) (.slice a3 t.kids.length c3) (.slice a4 ks.length c4)
 hf : ∀ x ∈ f, rb < x ∧ x ≠ DB
 hR : Rdr u rb p
 hB : Below w.heap.size w u
 ord : w.heap.size + 1 < rb ∧ rb < SBk ∧ SBk < QBk ∧ QBk < DB
 hsf : ∀ x ∈ sf, rb < x ∧ x < SBk
 hef : ∀ x ∈ ef, rb < x ∧ x < SBk
theorem DW.only {w u u' : World} {rb SBk QBk DB : Nat} {s : Sg} {es : List Eqn} {sa : Option Addr} {sc : Nat} {ev : Value} {sf ef : List Nat} {r n : Int} {t : Tm} {ks : List Wy} {a3 : Option Addr} {c3 : Nat} {a4 : Option Addr} {c4 : Nat} {f : List Nat} {p q : Nat}
  (h : DW w rb SBk QBk DB s es sa sc ev sf ef r n t ks a3 c3 a4 c4 f p u) (ho : Only [rb] u u') (hR : Rdr u' rb q) : DW w rb SBk QBk DB s es sa sc ev sf ef r n t ks a3 c3 a4 c4 f q u' := by
 have h0 := h.ord
 exact ⟨h.hA.only ho (by omega), h.hC.only ho (by omega), h.hS.only ho (by omega), h.hD.only ho (by omega), h.hrs.same _ (fun b hb => ho.block b (h.hrs.lt _ b hb) (by have := (h.hsf b hb).1; simp; omega)), h.hre.same _ (fun b hb => ho.block b (h.hre.lt _ b hb) (by have := (h.hef b hb).1; simp; omega)),
  h.hrw.same _ (fun b hb => ho.block b (h.hrw.lt _ b hb) (by have := (h.hf b hb).1; simp; omega)), h.hbd.only ho (by omega) (by omega), h.hf, hR, h.hB.trans (ho.toBelow (B := w.heap.size) h.hB.size (fun b hb => by simp at hb; omega)), h0, h.hsf, h.hef⟩
theorem DW.below {w u u' : World} {rb SBk QBk DB : Nat} {s : Sg} {es : List Eqn} {sa : Option Addr} {sc : Nat} {ev : Value} {sf ef : List Nat} {r n : Int} {t : Tm} {ks : List Wy} {a3 : Option Addr} {c3 : Nat} {a4 : Option Addr} {c4 : Nat} {f : List Nat} {p : Nat}
  (h : DW w rb SBk QBk DB s es sa sc ev sf ef r n t ks a3 c3 a4 c4 f p u) (hb : Below u.heap.size u u') : DW w rb SBk QBk DB s es sa sc ev sf ef r n t ks a3 c3 a4 c4 f p u' :=
 ⟨h.hA.below hb, h.hC.below hb, h.hS.below hb, h.hD.below hb, h.hrs.below hb, h.hre.below hb, h.hrw.below hb, h.hbd.below hb, h.hf, h.hR.below hb, h.hB.trans (hb.mono h.hB.size), h.ord, h.hsf, h.hef⟩
/-- Another reason in the box. -/
theorem DW.sets {w u : World} {rb SBk QBk DB : Nat} {s : Sg} {es : List Eqn} {sa : Option Addr} {sc : Nat} {ev : Value} {sf ef : List Nat} {r n : Int} {t : Tm} {ks : List Wy} {a3 : Option Addr} {c3 : Nat} {a4 : Option Addr} {c4 : Nat} {f : List Nat} {p : Nat}
  (h : DW w rb SBk QBk DB s es sa sc ev sf ef r n t ks a3 c3 a4 c4 f p u) (ups : List (Nat × Value)) {r' n' : Int} {t' : Tm} {ks' : List Wy} {b3 : Option Addr} {d3 : Nat} {b4 : Option Addr} {d4 : Nat} {f' : List Nat} (hD : Box [.int .i64 r', .int .i64 n', .string t'.name, .slice b3 t'.kids.length d3, .slice b4 ks'.length d4] DB (zA DB ups u)) (hrw : RdVs u (Wy.mk r' n' t' ks').cd [.int .i64 r', .int .i64 n', .string t'.name, .slice b3 t'.kids.length d3, .slice b4 ks'.length d4] f')
  (hbd : BendD (rb + 1) (QBk + 1) DB u (Wy.mk r' n' t' ks') (.slice b3 t'.kids.length d3) (.slice b4 ks'.length d4)) (hf : ∀ x ∈ f', rb < x ∧ x ≠ DB) (hR : Rdr (zA DB ups u) rb p) : DW w rb SBk QBk DB s es sa sc ev sf ef r' n' t' ks' b3 d3 b4 d4 f' p (zA DB ups u) := by
 have h0 := h.ord
 have hKK := (Same2.refl DB DB u).sets (b := DB) (.inl rfl) ups
 exact ⟨h.hA.sets_other (.inl (by omega)) ups, h.hC.sets_other (.inl (by omega)) ups, h.hS.sets_other (.inl (by omega)) ups, hD, h.hrs.same2 hKK (fun x hx => by have := h.hsf x hx; omega), h.hre.same2 hKK (fun x hx => by have := h.hef x hx; omega), hrw.same2 hKK (fun x hx => ⟨(hf x hx).2, (hf x hx).2⟩), hbd.same2 hKK, hf, hR, zr (by omega) ups h.hB, h0, h.hsf, h.hef⟩
theorem zbq {rb q b : Nat} (h2 : rb < b) : ∀ (ups : List (Nat × Value)) {u : World}, Rdr u rb q → Rdr (zA b ups u) rb q
 | [], _, h => h
 | p :: r, _, h => zbq h2 r (h.set h2)
theorem zcF {s : Sg} {es : List Eqn} {a b : Tm} : (zag s es a b).uses.length ≤ 999999999999 := by
 unfold zag
 split
 ·rename_i h
  have hm : zar s es [a, b] = true := by unfold zad at h; simp only [zex] at h; exact h.1
  have h1 := zc1 (ps := zx es [a, b]) (st := cloS es [a, b]) (moreP_two hm) (cloS es [a, b]).length (cloS es [a, b]).length (Tm.pos (zx es [a, b]) a) (Tm.pos (zx es [a, b]) b)
  have h2 := cloS_len es [a, b]
  have h3 := (zaC hm).2
  have h4 : 3 ^ (cloS es [a, b]).length ≤ 3 ^ 24 := Nat.pow_le_pow_right (by decide) (by omega)
  have h5 : (3 : Nat) ^ 24 ≤ 999999999999 := by decide
  omega
 ·simp [Wy.zero9, Wy.uses, Wy.usesL]
theorem usesL_of {W : Wy} {m : Nat} (h : W.uses.length ≤ m) : (Wy.usesL W.kids).length ≤ m := by
 rw [Wy.uses_eq, zet] at h; omega
def DrawnWy (lo : Nat) (e : Ending) (w' : World) : Prop := ∃ (s : Sg) (es : List Eqn) (r n : Int) (t : Tm) (ks : List Wy) (sa : Option Addr) (sc : Nat) (ev : Value) (a3 : Option Addr) (c3 : Nat) (a4 : Option Addr) (c4 : Nat) (sf ef wf : List Nat), s.few ∧ es.length ≤ 13 ∧ (∀ q ∈ es, q.a.size ≤ 45 ∧ q.b.size ≤ 45) ∧ (Wy.mk r n t ks).fit8 100001 ∧
 e = .returned (.tuple #[.agg #[.slice sa s.syms.length sc], ev, .agg #[.int .i64 r, .int .i64 n, .string t.name, .slice a3 t.kids.length c3, .slice a4 ks.length c4]]) ∧ RdVs w' s.cd [.slice sa s.syms.length sc] sf ∧ Rd w' (.sl (es.map Eqn.cd)) ev ef ∧ RdVs w' (Wy.mk r n t ks).cd [.int .i64 r, .int .i64 n, .string t.name, .slice a3 t.kids.length c3, .slice a4 ks.length c4] wf ∧ (∀ x ∈ wf, lo ≤ x) ∧ BendOwn lo lo w' (Wy.mk r n t ks) (.slice a3 t.kids.length c3) (.slice a4 ks.length c4)
theorem zdQ {es : List Eqn} {a b : Tm} (hl : es.length ≤ 13) (h : ∀ q ∈ es, q.a.size ≤ 45 ∧ q.b.size ≤ 45) (ha : a.size ≤ 45) (hb : b.size ≤ 45) : Tm.sizes (zj es ++ [a, b]) ≤ 2000 := by
 have key : ∀ (es : List Eqn), (∀ q ∈ es, q.a.size ≤ 45 ∧ q.b.size ≤ 45) → Tm.sizes (zj es) ≤ 90 * es.length := by
  intro es
  induction es with
  | nil => intro _; simp [zj, Tm.sizes]
  | cons q es ih =>
   intro h
   have h1 := ih (fun x hx => h x (List.mem_cons_of_mem _ hx))
   have h2 := h q (by simp)
   have h3 : zj (q :: es) = [q.a, q.b] ++ zj es := by simp [zj]
   rw [h3, Tm.sizes_append]
   simp only [Tm.sizes, List.length_cons]
   omega
 rw [Tm.sizes_append]
 have := key es h
 simp only [Tm.sizes]
 omega
theorem zay (v : Value) (w : World) (hv : Byts w v) :
  Calls Tryz.prog 5 #[v] w fun e w' => DrawnWy w.heap.size e w' ∧ Below w.heap.size w w' := by
 have hA := (Box.new w [.slice none 0 0] 25).alloc (.cells #[.int .i64 0, .int .i64 0, .string ⟨#[]⟩, .slice none 0 0, .slice none 0 0] 32)
 have hC := Box.new (w.alloc (.cells #[.slice none 0 0] 25)) [.int .i64 0, .int .i64 0, .string ⟨#[]⟩, .slice none 0 0, .slice none 0 0] 32
 rw [World.size_alloc] at hC
 have hbn : Below w.heap.size w ((w.alloc (.cells #[.slice none 0 0] 25)).alloc (.cells #[.int .i64 0, .int .i64 0, .string ⟨#[]⟩, .slice none 0 0, .slice none 0 0] 32)) := (zb _ _).alloc (by simp) _
 go_enter Tryz.func5, Tryz.ntmps5
 go_upto_region 1 with fail
 generalize (w.alloc (.cells #[.slice none 0 0] 25)).alloc (.cells #[.int .i64 0, .int .i64 0, .string ⟨#[]⟩, .slice none 0 0, .slice none 0 0] 32) = W0 at *
 have hv0 := hv.below hbn
 go_wp2_with fail
 refine (zau v _ (by exact hv0)).mono ?_
 rintro e u1 ⟨rfl, hRd, hb1⟩
 obtain ⟨rb, hrb⟩ : ∃ rb, rb = W0.heap.size := ⟨_, rfl⟩
 rw [← hrb] at hRd ⊢
 have hrw : w.heap.size + 1 < rb := by have := hC.1; omega
 have hv1 := hv0.below hb1
 replace hA := hA.below hb1; replace hC := hC.below hb1
 have hBW := hbn.trans (hb1.mono hbn.size)
 clear hb1 hbn hv0 hrb
 go_wp2_with fail
 refine (zbL v _ (by exact hv1)).mono ?_
 rintro e u2 ⟨⟨s, es, a, b, sa, sc, ev, ka, kc, kb, kd, sf, ef, fa, fb, hfew, hel, hes, hsa, hsb, rfl, hrs, hre, hra, hrbb, hown⟩, hb2⟩
 obtain ⟨evA, evC, rfl, hec1, hec2⟩ := zd hre
 have hsz := zdQ hel hes hsa hsb
 have hdl : ∀ x, x ∈ sf ∨ x ∈ ef ∨ x ∈ fa ∨ x ∈ fb → rb < x := fun x hx => by have := hown x hx; have := hRd.lt; omega
 replace hA := hA.below hb2; replace hC := hC.below hb2; replace hRd := hRd.below hb2
 replace hBW := hBW.trans (hb2.mono hBW.size)
 have HEV := Lib.hid (And.intro hfew (And.intro hel hes))
 clear hb2 hv1 hfew hes hown hel
 have hS := ((Box.new u2 [.slice sa s.syms.length sc] 25).alloc (.cells #[.string a.name, .slice ka a.kids.length kc] 29)).alloc (.cells #[.string b.name, .slice kb b.kids.length kd] 29)
 have hP := (Box.new (u2.alloc (.cells #[.slice sa s.syms.length sc] 25)) [.string a.name, .slice ka a.kids.length kc] 29).alloc (.cells #[.string b.name, .slice kb b.kids.length kd] 29)
 have hQ := Box.new ((u2.alloc (.cells #[.slice sa s.syms.length sc] 25)).alloc (.cells #[.string a.name, .slice ka a.kids.length kc] 29)) [.string b.name, .slice kb b.kids.length kd] 29
 simp only [World.size_alloc] at hP hQ
 have hbn : Below u2.heap.size u2 (((u2.alloc (.cells #[.slice sa s.syms.length sc] 25)).alloc (.cells #[.string a.name, .slice ka a.kids.length kc] 29)).alloc (.cells #[.string b.name, .slice kb b.kids.length kd] 29)) := ((zb _ _).alloc (by simp) _).alloc (by simp; omega) _
 obtain ⟨SBk, hSBk⟩ : ∃ z, z = u2.heap.size := ⟨_, rfl⟩
 obtain ⟨PBk, hPBk⟩ : ∃ z, z = SBk + 1 := ⟨_, rfl⟩
 obtain ⟨QBk, hQBk⟩ : ∃ z, z = PBk + 1 := ⟨_, rfl⟩
 rw [← hSBk] at hS hP hQ
 rw [← hPBk] at hP hQ
 rw [← hQBk] at hQ
 have hrS : rb < SBk := by have := hRd.lt; omega
 have hSP : SBk < PBk := by omega
 have hPQ : PBk < QBk := by omega
 have hsfl : ∀ x ∈ sf, x < SBk := fun x hx => by have := hrs.lt _ x hx; omega
 have hefl : ∀ x ∈ ef, x < SBk := fun x hx => by have := hre.lt _ x hx; omega
 have hfal : ∀ x ∈ fa, x < SBk := fun x hx => by have := hra.lt _ x hx; omega
 go_upto_region 3 with fail
 rw [← hSBk, ← hPBk, ← hQBk]
 replace hA := hA.below hbn; replace hC := hC.below hbn; replace hRd := hRd.below hbn
 replace hrs := hrs.below hbn; replace hre := hre.below hbn; replace hra := hra.below hbn; replace hrbb := hrbb.below hbn
 replace hBW := hBW.trans (hbn.mono hBW.size)
 clear hbn hSBk hPBk hQBk
 generalize ((u2.alloc (.cells #[.slice sa s.syms.length sc] 25)).alloc (.cells #[.string a.name, .slice ka a.kids.length kc] 29)).alloc (.cells #[.string b.name, .slice kb b.kids.length kd] 29) = u3 at *
 have s0 := hS.2.1 0 _ rfl; have x0 := hP.2.1 0 _ rfl; have x1 := hP.2.1 1 _ rfl; have y0 := hQ.2.1 0 _ rfl; have y1 := hQ.2.1 1 _ rfl
 go_wp2_with fail
 refine (zcW s es a b _ _ _ _ _ _ _ _ _ (by omega) (Lib.hid (fun t ht => by have h1 := zcD ht; have h2 := zck t; omega)) (Lib.hid (fun t ht => by have h1 := zcD ht; omega)) (by exact hrs) (by exact hre) (by exact hra) (by exact hrbb)).mono ?_
 rintro e u4 ⟨W, a3, c3, a4, c4, f0, HW, rfl, hrw9, hf0, hb4, hko⟩
 have hfit0 : W.fit9 100000 ∧ (Wy.usesL W.kids).length ≤ 999999999999 := by rw [HW.out]; exact ⟨zc4 (by omega), usesL_of zcF⟩
 have hko0 := hko.bend (dlo := SBk) (Nat.le_of_lt (zep hS.1 (Nat.le_refl _))) hrw9 (fun x hx => by have := hf0 x hx; have := hS.1; omega)
 have hf0d : ∀ x ∈ f0, QBk < x := fun x hx => by have := hf0 x hx; have := hQ.1; omega
 have hko9 : BendOwn (QBk + 1) (QBk + 1) u4 W (.slice a3 W.t.kids.length c3) (.slice a4 W.kids.length c4) := (hko.mono (lo' := QBk + 1) hQ.1).bend (Nat.le_refl _) hrw9 (fun x hx => hf0d x hx)
 clear hko hko0 hf0 s0 x0 x1 y0 y1 HW
 generalize zad s es a b = okv at *
 replace hA := hA.below hb4
 replace hC := hC.below hb4
 replace hRd := hRd.below hb4
 replace hS := hS.below hb4
 replace hP := hP.below hb4
 replace hQ := hQ.below hb4
 replace hrs := hrs.below hb4
 replace hre := hre.below hb4
 replace hra := hra.below hb4
 replace hBW := hBW.trans (hb4.mono hBW.size)
 clear hb4 hrbb
 cases W with
 | mk r n t ks =>
 simp only [Wy.rule, Wy.n, Wy.t, Wy.kids] at hrw9 hko9 ⊢
 have hD := Box.new u4 [.int .i64 r, .int .i64 n, .string t.name, .slice a3 t.kids.length c3, .slice a4 ks.length c4] 32
 obtain ⟨DB, hDB⟩ : ∃ z, z = u4.heap.size := ⟨_, rfl⟩
 rw [← hDB] at hD
 have hQD : QBk < DB := by have := hQ.1; omega
 have hba := zb u4 (.cells #[.int .i64 r, .int .i64 n, .string t.name, .slice a3 t.kids.length c3, .slice a4 ks.length c4] 32)
 go_upto_region 4 with fail
 rw [← hDB]
 have hbdd := (hko9.mono (dlo' := rb + 1) (lo' := QBk + 1) (by omega) (by omega)).atD (D := DB) (Nat.le_of_eq hDB.symm)
 have hf0e : ∀ x ∈ f0, rb < x ∧ x ≠ DB := fun x hx => by have := hf0d x hx; have := hrw9.lt _ x hx; omega
 replace hA := hA.below hba
 replace hC := hC.below hba
 replace hRd := hRd.below hba
 replace hS := hS.below hba
 replace hP := hP.below hba
 replace hQ := hQ.below hba
 replace hrs := hrs.below hba
 replace hre := hre.below hba
 replace hra := hra.below hba
 replace hrw9 := hrw9.below hba
 replace hBW := hBW.trans (hba.mono hBW.size)
 clear hDB
 generalize u4.alloc (.cells #[.int .i64 r, .int .i64 n, .string t.name, .slice a3 t.kids.length c3, .slice a4 ks.length c4] 32) = u5 at *
 have D0 : DW w rb SBk QBk DB s es sa sc (.slice evA es.length evC) sf ef r n t ks a3 c3 a4 c4 f0 0 u5 :=
  ⟨hA, hC, hS, hD, hrs, hre, hrw9, hbdd.below hba, fun x hx => hf0e x hx, hRd, hBW, ⟨hrw, hrS, by omega, hQD⟩, fun x hx => ⟨hdl x (.inl hx), hsfl x hx⟩, fun x hx => ⟨hdl x (.inr (.inl hx)), hefl x hx⟩⟩
 have x0 := hP.2.1 0 _ rfl; have x1 := hP.2.1 1 _ rfl
 have hPl := hP.1
 obtain ⟨_, _, ga, hae, hfa, han, hak⟩ := Tm.open hra
 simp only [List.cons.injEq, Value.slice.injEq, and_true, true_and] at hae
 obtain ⟨rfl, rfl⟩ := hae
 clear hA hC hS hD hrs hre hrw9 hbdd hRd hBW hba hQ
 go_upto_if 30 with (fail)
 go_cut [10] from 12 to 50 (fun pv wx => ∃ (r n : Int) (t : Tm) (ks : List Wy) (a3 : Option Addr) (c3 : Nat) (a4 : Option Addr) (c4 : Nat) (f : List Nat), pv = .pointer (some ⟨DB, 0, none⟩) ∧ ((Wy.mk r n t ks).fit9 100000 ∧ (Wy.usesL ks).length ≤ 999999999999) ∧ DW w rb SBk QBk DB s es sa sc (.slice evA es.length evC) sf ef r n t ks a3 c3 a4 c4 f 1 wx)
 case first =>
  cases okv
  ·have hL9 := Lst.new (w := u5) D0.hR.lt [.int .i64 1, .int .i64 2, .int .i64 2] 3
   have hba := zb u5 (.cells #[.int .i64 1, .int .i64 2, .int .i64 2] 3)
   go_wp2_with fail
   refine (num_k 3 [1, 2, 2] [.int .i64 1, .int .i64 2, .int .i64 2] rfl rfl rb 0 _ _ (by omega) (by simp) (by simp) (by exact hL9) (D0.hR.below hba)).mono ?_
   rintro e u6 ⟨⟨dv, hdv, rfl⟩, hRn, ho⟩
   have hdi : I64 dv := by simp at hdv; constructor <;> omega
   have D1 := (D0.below hba).only ho hRn
   have hord := D1.ord
   have P1 := (hP.below hba).only ho (by omega)
   have hak1 := (hak.below hba).only ho (fun h => by have := hdl rb (.inr (.inr (.inl (by rw [hfa]; exact h)))); omega)
   have D2 := D1.sets (ze 0 [.int .i64 dv, .int .i64 0, .string ⟨#[]⟩, .slice none 0 0, .slice none 0 0]) (r' := dv) (n' := 0) (t' := ⟨⟨#[]⟩, []⟩) (ks' := []) (b3 := none) (d3 := 0) (b4 := none) (d4 := 0) (f' := []) (D1.hD.puts [.int .i64 dv, .int .i64 0, .string ⟨#[]⟩, .slice none 0 0, .slice none 0 0] rfl) (zbG hdi ⟨by decide, by decide⟩ (Nat.zero_le _)) ⟨[], [], Own.nil _ _ _ _, by simp, zaL _, by simp, by simp, by simp [Value.ownBlock]⟩ (by simp) (zbq (by omega) _ D1.hR)
   have hKK := (Same2.refl DB DB u6).sets (b := DB) (.inl rfl) (ze 0 [.int .i64 dv, .int .i64 0, .string ⟨#[]⟩, .slice none 0 0, .slice none 0 0])
   have hak2 := hak1.same2 hKK (fun x hx => by have := hfal x (by rw [hfa]; exact hx); omega)
   have P2 := P1.sets_other (b := DB) (.inl (by omega)) (ze 0 [.int .i64 dv, .int .i64 0, .string ⟨#[]⟩, .slice none 0 0, .slice none 0 0])
   have p0 := D1.hD.2.1 0 _ rfl; have p1 := D1.hD.2.1 1 _ rfl; have p2 := D1.hD.2.1 2 _ rfl; have p3 := D1.hD.2.1 3 _ rfl; have p4 := D1.hD.2.1 4 _ rfl
   have z0 := D1.hD.2.2 0; have z1 := D1.hD.2.2 1; have z2 := D1.hD.2.2 2; have z3 := D1.hD.2.2 3; have z4 := D1.hD.2.2 4
   have y0 := P1.2.1 0 _ rfl; have y1 := P1.2.1 1 _ rfl
   have hPD : PBk < DB := by omega
   have hgb : ∀ x ∈ ga, rb < x ∧ x ≠ DB := fun x hx => by have h1 := hfal x (by rw [hfa]; exact hx); have h2 := hdl x (.inr (.inr (.inl (by rw [hfa]; exact hx)))); omega
   simp only [zA, ze] at D2 hak2
   clear x0 x1 hak1 hKK P2 hL9 hRn ho D0
   by_cases hv1 : dv = 1
   ·have hd1 : (dv == 1) = true := by simp [hv1]
    have hB9 := (D2.hD.put (k := 2) (by simp) (.string a.name)).put (k := 3) (by simp) (.slice ka a.kids.length kc)
    simp only [zek, zel] at hB9
    have D3 := D2.sets [(2, .string a.name), (3, .slice ka a.kids.length kc)] (r' := dv) (n' := 0) (t' := a) (ks' := []) (b3 := ka) (d3 := kc) (b4 := none) (d4 := 0) (f' := ga ++ []) hB9 (Wy.close (x := .mk dv 0 a []) hdi (show I64 0 from ⟨by decide, by decide⟩) han hak2 (zcy _)) ⟨[], ga, Own.nil _ _ _ _, by simp, hak2, fun x hx => by have := hgb x hx; omega, by simp [Value.ownBlock], by simp [Value.ownBlock]⟩ (by simpa using hgb) (zbq (by omega) _ D2.hR)
    simp only [zA] at D3
    clear hv1 D2 hB9
    go_wp2_with fail
    go_meet
    case rel => exact ⟨dv, 0, a, [], ka, kc, none, 0, _, rfl, ⟨zcE (by omega), by simp [Wy.usesL]⟩, D3⟩
   ·have hd1 : (dv == 1) = false := by simpa using hv1
    clear hv1
    go_wp2_with fail
    go_meet
    case rel => exact ⟨dv, 0, ⟨⟨#[]⟩, []⟩, [], none, 0, none, 0, _, rfl, ⟨zam (by simp) (by simp), by simp [Wy.usesL]⟩, D2⟩
  ·go_wp2_with fail
   go_meet
   case rel => exact ⟨r, n, t, ks, a3, c3, a4, c4, f0, rfl, hfit0, ⟨D0.hA, D0.hC, D0.hS, D0.hD, D0.hrs, D0.hre, D0.hrw, D0.hbd, D0.hf, D0.hR.mono (by omega), D0.hB, D0.ord, D0.hsf, D0.hef⟩⟩
 case rest =>
 clear D0 x0 x1 hPl hak hP hra
 obtain ⟨r1, n1, t1, k1, b3, d3, b4, d4, f1, rfl, hfit1, D1⟩ := hcut
 obtain ⟨v0, rfl⟩ : ∃ z, z = wc := ⟨_, rfl⟩
 go_wp2_with fail
 refine (zE rb 1 4 _ (by omega) (by omega) (by omega) D1.hR).mono ?_
 rintro e v1 ⟨⟨d, hd, rfl⟩, hRn, ho⟩
 have D2 := D1.only ho hRn
 have hord := D2.ord
 clear D1 hRn ho
 go_upto_if 42 with (fail)
 go_cut [10] from 12 to 50 (fun pv wx => ∃ (r n : Int) (t : Tm) (ks : List Wy) (a3 : Option Addr) (c3 : Nat) (a4 : Option Addr) (c4 : Nat) (f : List Nat), pv = .pointer (some ⟨DB, 0, none⟩) ∧ (Wy.mk r n t ks).fit8 100000 ∧ DW w rb SBk QBk DB s es sa sc (.slice evA es.length evC) sf ef r n t ks a3 c3 a4 c4 f 2 wx)
 case first =>
  by_cases hd0 : d = 0
  ·have hd1 : ((d : Int) == 0) = true := by subst hd0; rfl
   have p0 := D2.hD.2.1 0 _ rfl; have p1 := D2.hD.2.1 1 _ rfl; have p2 := D2.hD.2.1 2 _ rfl; have p3 := D2.hD.2.1 3 _ rfl; have p4 := D2.hD.2.1 4 _ rfl
   have z0 := D2.hD.2.2 0; have z1 := D2.hD.2.2 1; have z2 := D2.hD.2.2 2; have z3 := D2.hD.2.2 3; have z4 := D2.hD.2.2 4
   have hDl := D2.hD.1
   have hKK := (Same2.refl DB DB v1).sets (b := DB) (.inl rfl) (ze 0 [.int .i64 3, .int .i64 0, .string ⟨#[]⟩, .slice none 0 0, .slice (some ⟨v1.heap.size, 0, none⟩) 1 1])
   have hD3 := D2.hD.puts [.int .i64 3, .int .i64 0, .string ⟨#[]⟩, .slice none 0 0, .slice (some ⟨v1.heap.size, 0, none⟩) 1 1] rfl
   have hrw0 := D2.hrw.same2 hKK (fun x hx => ⟨(D2.hf x hx).2, (D2.hf x hx).2⟩)
   have hA3 := D2.hA.sets_other (b := DB) (.inl (by omega)) (ze 0 [.int .i64 3, .int .i64 0, .string ⟨#[]⟩, .slice none 0 0, .slice (some ⟨v1.heap.size, 0, none⟩) 1 1])
   have hC3 := D2.hC.sets_other (b := DB) (.inl (by omega)) (ze 0 [.int .i64 3, .int .i64 0, .string ⟨#[]⟩, .slice none 0 0, .slice (some ⟨v1.heap.size, 0, none⟩) 1 1])
   have hS3 := D2.hS.sets_other (b := DB) (.inl (by omega)) (ze 0 [.int .i64 3, .int .i64 0, .string ⟨#[]⟩, .slice none 0 0, .slice (some ⟨v1.heap.size, 0, none⟩) 1 1])
   have hrs3 := D2.hrs.same2 hKK (fun x hx => by have := D2.hsf x hx; omega)
   have hre3 := D2.hre.same2 hKK (fun x hx => by have := D2.hef x hx; omega)
   have hR3 := zbq (b := DB) (by omega) (ze 0 [.int .i64 3, .int .i64 0, .string ⟨#[]⟩, .slice none 0 0, .slice (some ⟨v1.heap.size, 0, none⟩) 1 1]) D2.hR
   have hB3 := zr (b := DB) (by omega) (ze 0 [.int .i64 3, .int .i64 0, .string ⟨#[]⟩, .slice none 0 0, .slice (some ⟨v1.heap.size, 0, none⟩) 1 1]) D2.hB
   simp only [zA, ze] at hD3 hrw0 hA3 hC3 hS3 hrs3 hre3 hR3 hB3
   clear hKK hd0
   go_wp2_with fail
   have hsU : (((((v1.setCell ⟨DB, 0, none⟩ (.int .i64 3)).setCell ⟨DB, 1, none⟩ (.int .i64 0)).setCell ⟨DB, 2, none⟩ (.string ⟨#[]⟩)).setCell ⟨DB, 3, none⟩ (.slice none 0 0)).setCell ⟨DB, 4, none⟩ (.slice (some ⟨v1.heap.size, 0, none⟩) 1 1)).heap.size = v1.heap.size := by simp
   generalize ((((v1.setCell ⟨DB, 0, none⟩ (.int .i64 3)).setCell ⟨DB, 1, none⟩ (.int .i64 0)).setCell ⟨DB, 2, none⟩ (.string ⟨#[]⟩)).setCell ⟨DB, 3, none⟩ (.slice none 0 0)).setCell ⟨DB, 4, none⟩ (.slice (some ⟨v1.heap.size, 0, none⟩) 1 1) = U9 at *
   have hbk := zb U9 (.cells #[.int .i64 r1, .int .i64 n1, .string t1.name, .slice b3 t1.kids.length d3, .slice b4 k1.length d4] 32)
   have hcn := zn U9 [.int .i64 r1, .int .i64 n1, .string t1.name, .slice b3 t1.kids.length d3, .slice b4 k1.length d4] 32
   have hkl : U9.heap.size < (U9.alloc (.cells #[.int .i64 r1, .int .i64 n1, .string t1.name, .slice b3 t1.kids.length d3, .slice b4 k1.length d4] 32)).heap.size := by simp
   have hkr := wys_one (hrw0.below hbk) (fun j u hj => by have h9 := hcn j u hj; rw [Addr.add_lit, Nat.zero_add] at h9; exact h9) hkl
   have hkO := Own.single (w := U9) (base := QBk + 1) (e := 32) (k := 5) (vs := [.int .i64 r1, .int .i64 n1, .string t1.name, .slice b3 t1.kids.length d3, .slice b4 k1.length d4]) (by omega) (hrw0.below hbk) (Wy.cd_len _) (hrw0.lt _)
   rw [hsU] at hkr hkO
   have hall : ∀ x ∈ v1.heap.size :: f1, rb < x ∧ x ≠ DB := fun x hx => by
    rcases zev.1 hx with rfl | hx
    ·omega
    ·exact D2.hf x hx
   have D3 : DW w rb SBk QBk DB s es sa sc (.slice evA es.length evC) sf ef 3 0 ⟨⟨#[]⟩, []⟩ [Wy.mk r1 n1 t1 k1] none 0 (some ⟨v1.heap.size, 0, none⟩) 1 (v1.heap.size :: f1) 2 (U9.alloc (.cells #[.int .i64 r1, .int .i64 n1, .string t1.name, .slice b3 t1.kids.length d3, .slice b4 k1.length d4] 32)) :=
    ⟨hA3.below hbk, hC3.below hbk, hS3.below hbk, hD3.below hbk, hrs3.below hbk, hre3.below hbk, zcz ⟨by decide, by decide⟩ ⟨by decide, by decide⟩ (Nat.zero_le _) rfl hkr, ⟨f1, [], hkO, fun x hx => by have := D2.hf x hx; omega, zaL _, by simp, by simp, fun b hb => by have h2 : v1.heap.size = b := Option.some.inj hb; omega⟩, hall, hR3.below hbk, hB3.trans (hbk.mono hB3.size), D2.ord, D2.hsf, D2.hef⟩
   have hfit3 : (Wy.mk 3 0 ⟨⟨#[]⟩, []⟩ [Wy.mk r1 n1 t1 k1]).fit8 100000 := ⟨zam (by simp) (by simpa using hfit1.1), by
    have h9 := hfit1.2
    simp only [Wy.kids, Wy.usesL, List.append_nil, Wy.uses_mk, zet]
    split <;> simp <;> omega⟩
   clear hcn hkl hkr hkO hbk hD3 hrw0 hA3 hC3 hS3 hrs3 hre3 hR3 hB3
   go_meet
   case rel => exact ⟨3, 0, ⟨⟨#[]⟩, []⟩, [Wy.mk r1 n1 t1 k1], none, 0, some ⟨v1.heap.size, 0, none⟩, 1, _, rfl, hfit3, D3⟩
  ·have hd1 : ((d : Int) == 0) = false := by simpa using hd0
   clear hd0
   go_wp2_with fail
   go_meet
   case rel => exact ⟨r1, n1, t1, k1, b3, d3, b4, d4, f1, rfl, ⟨hfit1.1, by have h9 := hfit1.2; simp only [Wy.kids]; omega⟩, D2⟩
 case rest =>
 clear D2 hfit1 hfit0
 obtain ⟨r, n, t, ks, a3, c3, a4, c4, f, rfl, hfit, D1⟩ := hcut
 obtain ⟨v2, rfl⟩ : ∃ z, z = wc := ⟨_, rfl⟩
 have hbd := zi v2
 replace D1 := D1.below hbd
 clear hbd
 go_upto_region 10 with fail
 refine Ever.start (F := (fun U : World => U.cell? ⟨SBk, 0, none⟩ = some (.slice sa s.syms.length sc) ∧ U.cell? ⟨DB, 0, none⟩ = some (.int .i64 r) ∧ U.cell? ⟨DB, 1, none⟩ = some (.int .i64 n) ∧ U.cell? ⟨DB, 2, none⟩ = some (.string t.name) ∧ U.cell? ⟨DB, 3, none⟩ = some (.slice a3 t.kids.length c3) ∧ U.cell? ⟨DB, 4, none⟩ = some (.slice a4 ks.length c4))) (by kernel_rfl) ?_
 generalize v2.drew = y0 at *
 have hF9 : (fun U : World => U.cell? ⟨SBk, 0, none⟩ = some (.slice sa s.syms.length sc) ∧ U.cell? ⟨DB, 0, none⟩ = some (.int .i64 r) ∧ U.cell? ⟨DB, 1, none⟩ = some (.int .i64 n) ∧ U.cell? ⟨DB, 2, none⟩ = some (.string t.name) ∧ U.cell? ⟨DB, 3, none⟩ = some (.slice a3 t.kids.length c3) ∧ U.cell? ⟨DB, 4, none⟩ = some (.slice a4 ks.length c4)) y0 := ⟨D1.hS.2.1 0 _ rfl, D1.hD.2.1 0 _ rfl, D1.hD.2.1 1 _ rfl, D1.hD.2.1 2 _ rfl, D1.hD.2.1 3 _ rfl, D1.hD.2.1 4 _ rfl⟩
 refine Ever.take (i := 0) (v := (.agg #[.slice sa s.syms.length sc])) rfl (by kernel_rfl) (by kernel_rfl) (by kernel_rfl) (fun _ _ _ h => h) (Or.inl ⟨by rfl, fun U hU => ?_⟩) hF9 ?_
 ·obtain ⟨u0F, u1F, u2F, u3F, u4F, u5F⟩ := hU
  go_simp
 try simp only [Act.put, zej, zek, zel]
 refine Ever.take (i := 1) (v := (.slice evA es.length evC)) rfl (by kernel_rfl) (by kernel_rfl) (by kernel_rfl) (fun _ _ _ h => h) (Or.inl ⟨by rfl, fun U hU => ?_⟩) hF9 ?_
 ·obtain ⟨u0F, u1F, u2F, u3F, u4F, u5F⟩ := hU
  go_simp
 try simp only [Act.put, zej, zek, zel]
 refine Ever.take (i := 2) (v := (.pointer (some ⟨rb, 0, none⟩))) rfl (by kernel_rfl) (by kernel_rfl) (by kernel_rfl) (fun _ _ _ h => h) (Or.inl ⟨by rfl, fun U hU => ?_⟩) hF9 ?_
 ·obtain ⟨u0F, u1F, u2F, u3F, u4F, u5F⟩ := hU
  go_simp
 try simp only [Act.put, zej, zek, zel]
 refine Ever.take (i := 3) (v := (.agg #[.int .i64 r, .int .i64 n, .string t.name, .slice a3 t.kids.length c3, .slice a4 ks.length c4])) rfl (by kernel_rfl) (by kernel_rfl) (by kernel_rfl) (fun _ _ _ h => h) (Or.inl ⟨by rfl, fun U hU => ?_⟩) hF9 ?_
 ·obtain ⟨u0F, u1F, u2F, u3F, u4F, u5F⟩ := hU
  go_simp
 try simp only [Act.put, zej, zek, zel]
 have hord := D1.ord
 have hzD := D1.hD.1
 have hzS := D1.hS.1
 obtain ⟨kf9, f39, hown9, hkf9, hrt9, hft9, hdis9, hneD⟩ := D1.hbd
 have hrowlo : ∀ b, (Value.slice a4 ks.length c4).ownBlock = some b → QBk + 1 ≤ b := fun b hb => (hown9.block hb).1
 refine Ever.one (i := 4) (by kernel_rfl) rfl (fun J9 hK => ?_)
 go_simp
 go_wp2_with (go_at_call 24; refine (zbd 0 r n t ks 100000 (by omega) (Nat.zero_le _) hfit a3 c3 a4 c4 f rb 2 (rb + 1) (QBk + 1) _ (by omega) D1.hrw (fun x hx => (D1.hf x hx).1) D1.hbd.own (by omega) (by omega) (by omega) D1.hR _ (Lib.hid rfl)).mono ?_; rintro e y1 ⟨⟨r', n', t', ks', e3, g3, e4, g4, f', hfit', rfl, hrw', hff', hbo', hlow, _⟩, hR'⟩)
 have hsame : ∀ b, b < y0.heap.size → b ≠ rb → (∀ z, (Value.slice a4 ks.length c4).ownBlock = some z → z ≠ b) → y1.heap[b]? = y0.heap[b]? := fun b h1 h2 h3 => hlow.block b h1 h2 (fun e => h3 b e rfl)
 have hlt9 : ∀ b, b < QBk + 1 → b ≠ rb → y1.heap[b]? = y0.heap[b]? := fun b h1 h2 => hsame b (by omega) h2 (fun z hz e => by have := hrowlo z hz; omega)
 have hS1 : Box [.slice sa s.syms.length sc] SBk y1 := ⟨zep hzS hlow.size, fun j u hu => zl (hlt9 SBk (by omega) (by omega)) (D1.hS.2.1 j u hu), fun j => (zc (hlt9 SBk (by omega) (by omega))).trans (D1.hS.2.2 j)⟩
 have hA1 : Box [.slice none 0 0] w.heap.size y1 := ⟨zep D1.hA.1 hlow.size, fun j u hu => zl (hlt9 w.heap.size (by omega) (by omega)) (D1.hA.2.1 j u hu), fun j => (zc (hlt9 w.heap.size (by omega) (by omega))).trans (D1.hA.2.2 j)⟩
 have hC1 : Box [.int .i64 0, .int .i64 0, .string ⟨#[]⟩, .slice none 0 0, .slice none 0 0] (w.heap.size + 1) y1 := ⟨zep D1.hC.1 hlow.size, fun j u hu => zl (hlt9 (w.heap.size + 1) (by omega) (by omega)) (D1.hC.2.1 j u hu), fun j => (zc (hlt9 (w.heap.size + 1) (by omega) (by omega))).trans (D1.hC.2.2 j)⟩
 have hDk := hsame DB hzD (by omega) hneD
 have hrs1 := D1.hrs.same _ (fun b hb => hlt9 b (by have := D1.hsf b hb; omega) (by have := D1.hsf b hb; omega))
 have hre1 := D1.hre.same _ (fun b hb => hlt9 b (by have := D1.hef b hb; omega) (by have := D1.hef b hb; omega))
 have hB1 := D1.hB.trans (hlow.toBelow (B := w.heap.size) (by have := D1.hA.1; omega) (by omega) (fun b hb => by have := hrowlo b hb; omega))
 replace hF9 : (fun U : World => U.cell? ⟨SBk, 0, none⟩ = some (.slice sa s.syms.length sc) ∧ U.cell? ⟨DB, 0, none⟩ = some (.int .i64 r) ∧ U.cell? ⟨DB, 1, none⟩ = some (.int .i64 n) ∧ U.cell? ⟨DB, 2, none⟩ = some (.string t.name) ∧ U.cell? ⟨DB, 3, none⟩ = some (.slice a3 t.kids.length c3) ∧ U.cell? ⟨DB, 4, none⟩ = some (.slice a4 ks.length c4)) y1 := ⟨hS1.2.1 0 _ rfl, zl hDk hF9.2.1, zl hDk hF9.2.2.1, zl hDk hF9.2.2.2.1, zl hDk hF9.2.2.2.2.1, zl hDk hF9.2.2.2.2.2⟩
 have hzD1 : DB < y1.heap.size := zep hzD hlow.size
 have hzS1 : SBk < y1.heap.size := zep hzS hlow.size
 have hsf9 := D1.hsf
 have hef9 := D1.hef
 have hfin : ∀ x ∈ f', w.heap.size + 1 < x := fun x hx => by have := hff' x hx; omega
 clear D1 hsame hlt9 hlow hown9 hrt9
 refine hK.out _ _ hF9 ?_
 clear hK
 try simp only [Act.put, zej, zek, zel]
 refine Ever.one (i := 5) (by kernel_rfl) rfl (fun J9 hK => ?_)
 have p0 := hA1.2.1 0 _ rfl; have z0 := hA1.2.2 0
 go_simp
 have hA2 := hA1.puts [.slice sa s.syms.length sc] rfl
 have hC2 := hC1.sets_other (b := w.heap.size) (.inr (by omega)) (ze 0 [.slice sa s.syms.length sc])
 have hK1 := (Same2.refl w.heap.size (w.heap.size + 1) y1).sets (b := w.heap.size) (.inl rfl) (ze 0 [.slice sa s.syms.length sc])
 have hB2 := zr (b := w.heap.size) (Nat.le_refl _) (ze 0 [.slice sa s.syms.length sc]) hB1
 have hFk : (fun U : World => U.cell? ⟨SBk, 0, none⟩ = some (.slice sa s.syms.length sc) ∧ U.cell? ⟨DB, 0, none⟩ = some (.int .i64 r) ∧ U.cell? ⟨DB, 1, none⟩ = some (.int .i64 n) ∧ U.cell? ⟨DB, 2, none⟩ = some (.string t.name) ∧ U.cell? ⟨DB, 3, none⟩ = some (.slice a3 t.kids.length c3) ∧ U.cell? ⟨DB, 4, none⟩ = some (.slice a4 ks.length c4)) (zA w.heap.size (ze 0 [.slice sa s.syms.length sc]) y1) := ⟨(hS1.sets_other (b := w.heap.size) (.inr (by omega)) (ze 0 [.slice sa s.syms.length sc])).2.1 0 _ rfl, zl (hK1 DB (by omega) (by omega) (by omega)) hF9.2.1, zl (hK1 DB (by omega) (by omega) (by omega)) hF9.2.2.1, zl (hK1 DB (by omega) (by omega) (by omega)) hF9.2.2.2.1, zl (hK1 DB (by omega) (by omega) (by omega)) hF9.2.2.2.2.1, zl (hK1 DB (by omega) (by omega) (by omega)) hF9.2.2.2.2.2⟩
 simp only [zA, ze] at hA2 hC2 hK1 hB2 hFk
 replace hF9 := hFk
 clear hA1 hC1 hS1 hB1 hFk p0 z0
 refine hK.out _ _ hF9 ?_
 clear hK
 try simp only [Act.put, zej, zek, zel]
 refine Ever.one (i := 6) (by kernel_rfl) rfl (fun J9 hK => ?_)
 go_simp
 refine hK.out _ _ hF9 ?_
 clear hK
 try simp only [Act.put, zej, zek, zel]
 refine Ever.one (i := 7) (by kernel_rfl) rfl (fun J9 hK => ?_)
 have p0 := hC2.2.1 0 _ rfl; have p1 := hC2.2.1 1 _ rfl; have p2 := hC2.2.1 2 _ rfl; have p3 := hC2.2.1 3 _ rfl; have p4 := hC2.2.1 4 _ rfl
 have z0 := hC2.2.2 0; have z1 := hC2.2.2 1; have z2 := hC2.2.2 2; have z3 := hC2.2.2 3; have z4 := hC2.2.2 4
 go_simp
 obtain ⟨y2, hy2⟩ : ∃ z, z = y1.setCell ⟨w.heap.size, 0, none⟩ (.slice sa s.syms.length sc) := ⟨_, rfl⟩
 rw [← hy2] at hA2 hC2 hK1 hB2 hF9 ⊢
 have hzy : y1.heap.size ≤ y2.heap.size := by rw [hy2]; simp
 clear hy2
 have hC3 := hC2.puts [.int .i64 r', .int .i64 n', .string t'.name, .slice e3 t'.kids.length g3, .slice e4 ks'.length g4] rfl
 have hA3 := hA2.sets_other (b := w.heap.size + 1) (.inl (by omega)) (ze 0 [.int .i64 r', .int .i64 n', .string t'.name, .slice e3 t'.kids.length g3, .slice e4 ks'.length g4])
 have hK2 := hK1.sets (b := w.heap.size + 1) (.inr rfl) (ze 0 [.int .i64 r', .int .i64 n', .string t'.name, .slice e3 t'.kids.length g3, .slice e4 ks'.length g4])
 have hK3 := (Same2.refl w.heap.size (w.heap.size + 1) y2).sets (b := w.heap.size + 1) (.inr rfl) (ze 0 [.int .i64 r', .int .i64 n', .string t'.name, .slice e3 t'.kids.length g3, .slice e4 ks'.length g4])
 have hB3 := zr (b := w.heap.size + 1) (by omega) (ze 0 [.int .i64 r', .int .i64 n', .string t'.name, .slice e3 t'.kids.length g3, .slice e4 ks'.length g4]) hB2
 have hD3l : DB < y2.heap.size := by omega
 have hS3l : SBk < y2.heap.size := by omega
 have hFk : (fun U : World => U.cell? ⟨SBk, 0, none⟩ = some (.slice sa s.syms.length sc) ∧ U.cell? ⟨DB, 0, none⟩ = some (.int .i64 r) ∧ U.cell? ⟨DB, 1, none⟩ = some (.int .i64 n) ∧ U.cell? ⟨DB, 2, none⟩ = some (.string t.name) ∧ U.cell? ⟨DB, 3, none⟩ = some (.slice a3 t.kids.length c3) ∧ U.cell? ⟨DB, 4, none⟩ = some (.slice a4 ks.length c4)) (zA (w.heap.size + 1) (ze 0 [.int .i64 r', .int .i64 n', .string t'.name, .slice e3 t'.kids.length g3, .slice e4 ks'.length g4]) y2) := ⟨zl (hK3 SBk hS3l (by omega) (by omega)) hF9.1, zl (hK3 DB hD3l (by omega) (by omega)) hF9.2.1, zl (hK3 DB hD3l (by omega) (by omega)) hF9.2.2.1, zl (hK3 DB hD3l (by omega) (by omega)) hF9.2.2.2.1, zl (hK3 DB hD3l (by omega) (by omega)) hF9.2.2.2.2.1, zl (hK3 DB hD3l (by omega) (by omega)) hF9.2.2.2.2.2⟩
 simp only [zA, ze] at hC3 hA3 hK2 hB3 hFk
 replace hF9 := hFk
 clear hC2 hA2 hB2 hK1 hK3 hFk p0 p1 p2 p3 p4 z0 z1 z2 z3 z4
 refine hK.out _ _ hF9 ?_
 clear hK
 try simp only [Act.put, zej, zek, zel]
 refine Ever.done (by kernel_rfl) ?_ _
 have hrs4 := hrs1.same2 hK2 (fun x hx => by have := hsf9 x hx; omega)
 have hre4 := hre1.same2 hK2 (fun x hx => by have := hef9 x hx; omega)
 have hrw4 := hrw'.same2 hK2 (fun x hx => by have := hfin x hx; omega)
 obtain ⟨kf8, f38, o1, o2, o3, o4, o5⟩ := hbo'
 have hbo4 : BendOwn w.heap.size w.heap.size _ (.mk r' n' t' ks') (.slice e3 t'.kids.length g3) (.slice e4 ks'.length g4) := ⟨kf8, f38, (o1.same2 hK2 (fun x hx => by have := o2 x hx; omega) (fun b hb => by have := (o1.block hb).1; omega)).base (fun b hb => by have := (o1.block hb).1; omega), fun x hx => by have := o2 x hx; omega, o3.same2 hK2 (fun x hx => by have := o4 x hx; omega), fun x hx => by have := o4 x hx; omega, o5⟩
 have q0 := hA3.2.1 0 _ rfl
 have e0 := hC3.2.1 0 _ rfl; have e1 := hC3.2.1 1 _ rfl; have e2 := hC3.2.1 2 _ rfl; have e3' := hC3.2.1 3 _ rfl; have e4' := hC3.2.1 4 _ rfl
 clear hK2 hrs1 hre1 hrw' o1 o3 hF9 hA3 hC3
 go_wp2_with fail
 refine bodyPost_ret (v := .tuple #[.agg #[.slice sa s.syms.length sc], .slice evA es.length evC, .agg #[.int .i64 r', .int .i64 n', .string t'.name, .slice e3 t'.kids.length g3, .slice e4 ks'.length g4]]) (by simp [results, Tryz.results5, go_sem, q0, e0, e1, e2, e3', e4']) rfl ?_
 exact ⟨⟨s, es, r', n', t', ks', sa, sc, _, e3, g3, e4, g4, sf, ef, f', HEV.out.1, HEV.out.2.1, HEV.out.2.2, hfit', rfl, hrs4, hre4, hrw4, fun x hx => by have := hfin x hx; omega, hbo4⟩, hB3⟩
end Go.Proofs.YtlefdhhnlbpbkaaGreat
end
