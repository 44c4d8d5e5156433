/- Parts of the proof: RdrH. -/
import Derived.Test.YtoehhbkhdddeeaaGreatDoorPf37
import Derived.Test.YtoehhbkhdddeeaaGreatDoorPf7
import Derived.Test.YtoehhbkhdddeeaaGreatDoorPf35
import Derived.Test.YtoehhbkhdddeeaaGreatDoorPf34
section
namespace Go.Proofs.YtoehhbkhdddeeaaGreatDoor
open Go Go.RowKit
set_option linter.unusedVariables false
set_option linter.unusedSimpArgs false
set_option maxRecDepth 100000
set_option maxHeartbeats 16000000
/-- Some atoms that are drawn. -/
def DrawnAs (w : World) (e : Ending) (w' : World) : Prop := ∃ (l : List Atm) (v : Value) (f : List Nat), (1 ≤ l.length ∧ l.length ≤ 6 ∧ ∀ x ∈ l, x.few) ∧ e = .returned v ∧ Rd w' (.sl (l.map Atm.cd)) v f ∧ ∀ b ∈ f, w.heap.size ≤ b
theorem zb3 {l : List Atm} {y x : Atm} (h : x ∈ addA l y) : x ∈ l ∨ x = y := by
 unfold addA at h
 split at h
 ·exact .inl h
 ·simpa using h
theorem zb4 (l : List Atm) (y : Atm) : (addA l y).length ≤ l.length + 1 := by
 unfold addA
 split
 ·omega
 ·simp
theorem few_tms {l : Lt} (h : l.atom.few) : Tm.sizes l.tms ≤ 700 := by
 have hs : ∀ (ts : List Tm), (∀ u ∈ ts, u.good) → Tm.sizes ts ≤ 100 * ts.length := by
  intro ts
  induction ts with
  | nil => intro _; simp [Tm.sizes]
  | cons u r ih => intro h; have h1 := (h u (by simp)).1; have h2 := ih (fun v hv => h v (by simp [hv])); simp only [Tm.sizes, List.length_cons]; omega
 have h1 := hs l.atom.nums h.2.2.2.2
 have h2 := h.2.2.1
 have h3 := h.1
 have h4 := h.2.1
 unfold Lt.tms Atm.tms
 split
 ·split
  ·simp only [Tm.sizes]; omega
  ·omega
 ·simp [Tm.sizes]
theorem zdi : ∀ (ls : List Lt), (∀ l ∈ ls, l.atom.few) → Tm.sizes (zaa ls) ≤ 700 * ls.length
 | [], _ => by simp [zaa, Tm.sizes]
 | l :: ls, h => by
  have h1 := few_tms (h l (by simp))
  have h2 := zdi ls (fun x hx => h x (by simp [hx]))
  simp only [zaa, List.flatMap_cons, Tm.sizes_append, List.length_cons] at h2 ⊢
  omega
theorem zcm {y : Atm} (h : y.few) : y.small := by
 have hs : ∀ (ts : List Tm), (∀ u ∈ ts, u.good) → Tm.sizes ts ≤ 100 * ts.length := by
  intro ts
  induction ts with
  | nil => intro _; simp [Tm.sizes]
  | cons u r ih => intro h; have h1 := (h u (by simp)).1; have h2 := ih (fun v hv => h v (by simp [hv])); simp only [Tm.sizes, List.length_cons]; omega
 have h1 := hs y.nums h.2.2.2.2
 have h2 := h.2.2.1
 exact ⟨by have := h.1; omega, by have := h.2.1; omega, by omega⟩
/-- What stands if nothing was drawn. -/
def Atm.same97 : Atm := ⟨1, .mk ⟨#[97]⟩ [], .mk ⟨#[97]⟩ [], [], [], 0, false⟩
theorem zcn : (Tm.mk ⟨#[97]⟩ []).size ≤ 100 ∧ wtV (Tm.mk ⟨#[97]⟩ []).cd ≤ 500 := ⟨by decide, by rw [Tm.wtV_eq]; simp only [Tm.name, Tm.kids, wtR, List.map_nil, List.length_nil]; decide⟩
theorem zdH : Atm.same97.few := ⟨zcn, zcn, by decide, rfl, by simp [Atm.same97]⟩
theorem same97_rd (w : World) : RdVs w Atm.same97.cd [.int .i64 1, .string ⟨#[97]⟩, .slice none 0 0, .string ⟨#[97]⟩, .slice none 0 0, .slice none 0 0, .slice none 0 0, .int .i64 0, .bool false] [] :=
 Atm.close (x := Atm.same97) (f2 := []) (f4 := []) (f5 := []) (f6 := []) (by unfold I64; simp [Atm.same97]) (by decide) (zY (cd := Tm.cd) none 0 (by simp)) (by decide) (zY (cd := Tm.cd) none 0 (by simp)) (zY (cd := Tm.cd) none 0 (by simp)) (zY (cd := zm) none 0 (by simp)) (by unfold I64; simp [Atm.same97])
theorem zbQ (s : Sg) (vs : List Value) (sf : List Nat) (rb p : Nat) (w : World) (hp : p + 600 ≤ 1000000000) (hfew : s.few) (hnice : s.nice) (hrd : RdVs w s.cd vs sf) (hnr : rb ∉ sf) (hr : Rdr w rb p) :
  Calls Tryz.prog 30 #[.pointer (some ⟨rb, 0, none⟩), .agg vs.toArray] w fun e w' => DrawnAs w e w' ∧ Rdr w' rb (p + 600) ∧ Only [rb] w w' := by
 obtain ⟨a0, c0, f0, rfl, rfl, m0⟩ := Sg.open hrd
 have hlt := hr.lt
 have hX0 := (Lst.new hlt [.slice a0 s.syms.length c0] 43).alloc (.cells #[] 28)
 have hO0 := Own.empty (w.alloc (.cells #[.slice a0 s.syms.length c0] 43)) (w.heap.size + 1) 28 9 (by simp)
 rw [World.size_alloc] at hO0
 have hB2 : Below w.heap.size w ((w.alloc (.cells #[.slice a0 s.syms.length c0] 43)).alloc (.cells #[] 28)) := ((Below.refl _ _).alloc (Nat.le_refl _) _).alloc (by simp) _
 have hs0 : ((w.alloc (.cells #[.slice a0 s.syms.length c0] 43)).alloc (.cells #[] 28)).heap.size = w.heap.size + 1 + 1 := by simp
 go_enter Tryz.func30, Tryz.ntmps30
 go_upto_region 2 with fail
 generalize (w.alloc (.cells #[.slice a0 s.syms.length c0] 43)).alloc (.cells #[] 28) = W0 at *
 have hr0 := hr.below hB2
 have hzs : w.heap.size + 1 + 1 ≤ W0.heap.size := by omega
 clear hs0
 go_wp2_with fail
 refine (zar 5 [2, 3, 4, 5, 1] [.int .i64 2, .int .i64 3, .int .i64 4, .int .i64 5, .int .i64 1] rfl rfl rb p _ _ (by omega) (by simp) (by simp) (by exact Lst.new hr0.lt _ _) (hr0.below (za _ _))).mono ?_
 rintro e w5 ⟨⟨n0, hn0, rfl⟩, hr5, ho5⟩
 obtain ⟨n, rfl, hn3⟩ : ∃ n : Nat, n0 = (n : Int) ∧ n ≤ 5 := ⟨n0.toNat, by simp at hn0; omega, by simp at hn0; omega⟩
 have hX5 := (hX0.alloc (.cells #[.int .i64 2, .int .i64 3, .int .i64 4, .int .i64 5, .int .i64 1] 3)).only ho5
 have hO5 := (hO0.below (za _ (.cells #[.int .i64 2, .int .i64 3, .int .i64 4, .int .i64 5, .int .i64 1] 3))).only ho5 (by omega) (by simp)
 have hN5 := ((Only.below hB2).alloc (.cells #[.int .i64 2, .int .i64 3, .int .i64 4, .int .i64 5, .int .i64 1] 3)).trans ho5
 have hz5 := ho5.size
 rw [World.size_alloc] at hz5
 clear hX0 hO0 hB2 hr0 ho5 hn0
 go_wp2_with fail
 go_loopw [5, 6] (fun ov iv wr => ∃ (n : Nat) (l : List Atm) (fp : List Nat) (q : Nat), iv = .int .i64 n ∧ n + l.length ≤ 5 ∧ q + n * 100 ≤ p + 501 ∧ Hid (∀ x ∈ l, x.few) ∧ Own wr (w.heap.size + 1) 28 9 ov (l.map Atm.cd) fp ∧ (∀ b ∈ fp, w.heap.size ≤ b) ∧ Lst rb [.slice a0 s.syms.length c0] w.heap.size wr ∧ Rdr wr rb q ∧ Only [rb] w wr ∧ w.heap.size + 1 + 1 ≤ wr.heap.size) (fun ov iv _ => (intOf iv).toNat)
 case atStart => exact ⟨n, [], [], p + 1, rfl, by simp; omega, by omega, Lib.hid (by simp), hO5, by simp, hX5, hr5, hN5, by omega⟩
 case round =>
  clear hX5 hO5 hr5 hN5
  obtain ⟨n, l, fp, q, rfl, hnl, hq, HL, hO, hfp, hX, hrr, hNW, hzr⟩ := hrel
  obtain ⟨oa, on, oc, rfl⟩ := hO.form'
  by_cases hn : (0 : Int) < (n : Int)
  ·have hrd0 := hrd.only hNW hnr
   have x0 := hX.2.2.1 0 _ rfl
   go_wp2_with fail
   refine (zci s _ sf rb q _ (by omega) hfew hnice (by exact hrd0) hnr hrr).mono ?_
   rintro e w1 ⟨⟨y, a2, c2, fA, a4, c4, fB, a5, c5, a6, c6, fn, hyf, rfl, AO⟩, hr1, ho1⟩
   obtain ⟨fy, hY, hYg⟩ := AO.rd
   have hYV := hY.lt
   have hOb := fun b h => (hO.block (b := b) h).2
   have hfpl := hO.lt
   have hrf : rb ∉ fp := fun h => by have := hfp _ h; omega
   replace hO := hO.only ho1 (by omega) hrf
   replace hX := hX.only ho1
   replace hNW := hNW.trans ho1
   replace hrd0 := hrd0.only ho1 hnr
   have hz1 := ho1.size
   clear hrr x0 ho1
   go_upto_region 6 with fail
   obtain ⟨V, hVe⟩ : ∃ V, V = w1.heap.size := ⟨_, rfl⟩
   have hV : Lst rb [.int .i64 y.kind, .string y.a.name, .slice a2 y.a.kids.length c2, .string y.b.name, .slice a4 y.b.kids.length c4, .slice a5 y.nums.length c5, .slice a6 y.times.length c6, .int .i64 y.bound, .bool y.strict] V (w1.alloc (.cells #[.int .i64 y.kind, .string y.a.name, .slice a2 y.a.kids.length c2, .string y.b.name, .slice a4 y.b.kids.length c4, .slice a5 y.nums.length c5, .slice a6 y.times.length c6, .int .i64 y.bound, .bool y.strict] 28)) := by rw [hVe]; exact Lst.new hr1.lt _ _
   rw [← hVe]
   have hbn := za w1 (.cells #[.int .i64 y.kind, .string y.a.name, .slice a2 y.a.kids.length c2, .string y.b.name, .slice a4 y.b.kids.length c4, .slice a5 y.nums.length c5, .slice a6 y.times.length c6, .int .i64 y.bound, .bool y.strict] 28)
   have hVs : V < (w1.alloc (.cells #[.int .i64 y.kind, .string y.a.name, .slice a2 y.a.kids.length c2, .string y.b.name, .slice a4 y.b.kids.length c4, .slice a5 y.nums.length c5, .slice a6 y.times.length c6, .int .i64 y.bound, .bool y.strict] 28)).heap.size := by rw [World.size_alloc]; omega
   have hO' := hO.below hbn
   have hX' := hX.below hbn
   have hN' := hNW.alloc (.cells #[.int .i64 y.kind, .string y.a.name, .slice a2 y.a.kids.length c2, .string y.b.name, .slice a4 y.b.kids.length c4, .slice a5 y.nums.length c5, .slice a6 y.times.length c6, .int .i64 y.bound, .bool y.strict] 28)
   have hrs' := hrd0.below hbn
   have hY' := hY.below hbn
   have hR' := hr1.below hbn
   have hYl : ∀ b ∈ fy, wr.heap.size ≤ b ∧ b < V := fun b hm => ⟨hYg b hm, by rw [hVe]; exact hYV b hm⟩
   have hVw : wr.heap.size ≤ V := by omega
   clear hO hX hNW hrd0 hY hr1 hbn AO hYg hYV hVe hz1
   generalize w1.alloc (.cells #[.int .i64 y.kind, .string y.a.name, .slice a2 y.a.kids.length c2, .string y.b.name, .slice a4 y.b.kids.length c4, .slice a5 y.nums.length c5, .slice a6 y.times.length c6, .int .i64 y.bound, .bool y.strict] 28) = w2 at *
   refine Ever.start (F := (fun U : World => Lst rb [.slice a0 s.syms.length c0] w.heap.size U ∧ Lst rb [.int .i64 y.kind, .string y.a.name, .slice a2 y.a.kids.length c2, .string y.b.name, .slice a4 y.b.kids.length c4, .slice a5 y.nums.length c5, .slice a6 y.times.length c6, .int .i64 y.bound, .bool y.strict] V U)) (by kernel_rfl) ?_
   have hF : (fun U : World => Lst rb [.slice a0 s.syms.length c0] w.heap.size U ∧ Lst rb [.int .i64 y.kind, .string y.a.name, .slice a2 y.a.kids.length c2, .string y.b.name, .slice a4 y.b.kids.length c4, .slice a5 y.nums.length c5, .slice a6 y.times.length c6, .int .i64 y.bound, .bool y.strict] V U) w2.drew := ⟨hX', hV⟩
   have hbd := zd w2
   have hO0 := hO'.below hbd
   have hRd0 := hR'.below hbd
   have hN0 := hN'.trans (Only.below hbd)
   have hY0 := hY'.below hbd
   have hrs0 := hrs'.below hbd
   have hVs0 : V < w2.drew.heap.size := zdQ hVs hbd.size
   clear hO' hX' hN' hrs' hY' hR' hV hbd hVs
   generalize w2.drew = v0 at *
   have hb : Below v0.heap.size v0 v0 := Below.refl _ _
   obtain ⟨fo0, hOr⟩ := hO0.rd'
   have hOl := hOr.lt
   have hYn : ∀ b ∈ fy, (Value.slice oa on oc).ownBlock ≠ some b := fun b hm e => by have := hOb b e; have := (hYl b hm).1; omega
   have HSM : Hid (∀ x ∈ zab (l ++ [y]), x.atom.small) := Lib.hid (fun x hx => by
    obtain ⟨z, hz, rfl⟩ := List.mem_map.1 hx
    rcases zdS.1 hz with h | h
    ·exact zcm (HL.out z h)
    ·rw [List.mem_singleton.1 h]; exact zcm hyf)
   have HBG : Hid (Tm.sizes (zaa (zab (l ++ [y]))) ≤ 1000000000) := Lib.hid (by
    have h1 := zdi (zab (l ++ [y])) (fun x hx => by
     obtain ⟨z, hz, rfl⟩ := List.mem_map.1 hx
     rcases zdS.1 hz with h | h
     ·exact HL.out z h
     ·rw [List.mem_singleton.1 h]; exact hyf)
    have h2 : (zab (l ++ [y])).length = l.length + 1 := by simp [zab]
    rw [h2] at h1; omega)
   refine Ever.take (i := 0) (v := (.agg #[.slice a0 s.syms.length c0])) rfl (by kernel_rfl) (by kernel_rfl) (by kernel_rfl) (fun _ _ _ h => h) (Or.inl ⟨by rfl, fun U hU => ?_⟩) hF ?_
   ·have u0 := hU.1.2.2.1 0 _ rfl; clear hU; go_simp
   try simp only [Act.put, zdK, zdL, zdM]
   refine Ever.take (i := 2) (v := (.slice oa on oc)) rfl (by kernel_rfl) (by kernel_rfl) (by kernel_rfl) (fun _ _ _ h => h) (Or.inl ⟨by rfl, fun U hU => ?_⟩) hF ?_
   ·clear hU; go_simp
   try simp only [Act.put, zdK, zdL, zdM]
   refine Ever.take (i := 4) (v := (.agg #[.int .i64 y.kind, .string y.a.name, .slice a2 y.a.kids.length c2, .string y.b.name, .slice a4 y.b.kids.length c4, .slice a5 y.nums.length c5, .slice a6 y.times.length c6, .int .i64 y.bound, .bool y.strict])) rfl (by kernel_rfl) (by kernel_rfl) (by kernel_rfl) (fun _ _ _ h => h) (Or.inl ⟨by rfl, fun U hU => ?_⟩) hF ?_
   ·have u0 := hU.2.2.2.1 0 _ rfl; have u1 := hU.2.2.2.1 1 _ rfl; have u2 := hU.2.2.2.1 2 _ rfl; have u3 := hU.2.2.2.1 3 _ rfl; have u4 := hU.2.2.2.1 4 _ rfl; have u5 := hU.2.2.2.1 5 _ rfl; have u6 := hU.2.2.2.1 6 _ rfl; have u7 := hU.2.2.2.1 7 _ rfl; have u8 := hU.2.2.2.1 8 _ rfl; clear hU; go_simp
   try simp only [Act.put, zdK, zdL, zdM]
   refine Ever.two (i := 1) (j := 5) (by kernel_rfl) rfl rfl (fun K hK => ?_) (fun K hK => ?_)
   ·skip
    go_simp
    obtain ⟨e0, he0⟩ : ∃ e0, e0 = v0.heap.size := ⟨_, rfl⟩
    have hE := Own.empty v0 v0.heap.size 28 9 (Nat.le_refl _)
    rw [← he0] at hE ⊢
    have hez : v0.heap.size ≤ e0 := by have := hb.size; omega
    have hbn := za v0 (.cells #[] 28)
    replace hb := hb.alloc hb.size (.cells #[] 28)
    replace hF : (fun U : World => Lst rb [.slice a0 s.syms.length c0] w.heap.size U ∧ Lst rb [.int .i64 y.kind, .string y.a.name, .slice a2 y.a.kids.length c2, .string y.b.name, .slice a4 y.b.kids.length c4, .slice a5 y.nums.length c5, .slice a6 y.times.length c6, .int .i64 y.bound, .bool y.strict] V U) _ := ⟨hF.1.alloc (.cells #[] 28), hF.2.alloc (.cells #[] 28)⟩
    clear hbn
    have hes : e0 < (v0.alloc (.cells #[] 28)).heap.size := by rw [World.size_alloc]; omega
    clear he0
    generalize v0.alloc (.cells #[] 28) = v1 at *
    refine hK.out _ _ hF ?_
    clear hK
    try simp only [Act.put, zdK, zdL, zdM]
    refine Ever.two (i := 3) (j := 5) (by kernel_rfl) rfl rfl (fun K hK => ?_) (fun K hK => ?_)
    ·skip
     have hsz2 := hb.size
     refine zaf zX rfl _ _ rfl e0 _ [] [] rfl (by exact hE) (l.map Atm.cd) (.slice oa on oc) fo0 rfl (hOr.below hb) (by simp only [List.mem_map]; rintro e ⟨t, _, rfl⟩; exact t.cd_len) (fun b hm e => by have := hOl b hm; have e2 : e0 = b := Option.some.inj e; omega) (by simp; omega) (by simp; omega) (by omega) ?_
     intro rv3 v2 nf3 hnf3 hE3 hg3 hv3
     clear hE
     have hE := hE3
     clear hE3
     have hgn : ∀ q, (Value.slice (some ⟨e0, 0, none⟩) 0 0).ownBlock = some q → q = e0 := fun q hq => (Option.some.inj hq).symm
     replace hb := zk hb hg3 hb.size (fun q hq => by have := hgn q hq; omega)
     replace hF : (fun U : World => Lst rb [.slice a0 s.syms.length c0] w.heap.size U ∧ Lst rb [.int .i64 y.kind, .string y.a.name, .slice a2 y.a.kids.length c2, .string y.b.name, .slice a4 y.b.kids.length c4, .slice a5 y.nums.length c5, .slice a6 y.times.length c6, .int .i64 y.bound, .bool y.strict] V U) _ := ⟨hF.1.grownL hg3 (fun q hq => by have := hgn q hq; omega), hF.2.grownL hg3 (fun q hq => by have := hgn q hq; omega)⟩
     replace hes : e0 < v2.heap.size := zdQ hes hg3.size
     have h3n : ∀ b ∈ fy, rv3.ownBlock ≠ some b := fun b hm e => by
      rcases hv3 b e with h | h
      ·have := hgn b h; have := hYl b hm; omega
      ·have := hYl b hm; have := hb.size; omega
     obtain ⟨x3, y3, z3, rfl⟩ := hE.form'
     clear hg3 hv3 hnf3 hgn
     refine hK.out _ _ hF ?_
     clear hK
     try simp only [Act.put, zdK, zdL, zdM]
     refine Ever.one (i := 5) (by kernel_rfl) rfl (fun K hK => ?_)
     go_simp
     obtain ⟨cb, hcb⟩ : ∃ cb, cb = v2.heap.size := ⟨_, rfl⟩
     have hcl := zj v2 [.int .i64 y.kind, .string y.a.name, .slice a2 y.a.kids.length c2, .string y.b.name, .slice a4 y.b.kids.length c4, .slice a5 y.nums.length c5, .slice a6 y.times.length c6, .int .i64 y.bound, .bool y.strict] 28
     rw [← hcb] at hcl ⊢
     have hcz : v0.heap.size ≤ cb := by have := hb.size; omega
     have hbn := za v2 (.cells #[.int .i64 y.kind, .string y.a.name, .slice a2 y.a.kids.length c2, .string y.b.name, .slice a4 y.b.kids.length c4, .slice a5 y.nums.length c5, .slice a6 y.times.length c6, .int .i64 y.bound, .bool y.strict] 28)
     replace hE := hE.below hbn
     have hce : e0 < cb := by omega
     replace hes : e0 < (v2.alloc (.cells #[.int .i64 y.kind, .string y.a.name, .slice a2 y.a.kids.length c2, .string y.b.name, .slice a4 y.b.kids.length c4, .slice a5 y.nums.length c5, .slice a6 y.times.length c6, .int .i64 y.bound, .bool y.strict] 28)).heap.size := by rw [World.size_alloc]; omega
     replace hb := hb.alloc hb.size (.cells #[.int .i64 y.kind, .string y.a.name, .slice a2 y.a.kids.length c2, .string y.b.name, .slice a4 y.b.kids.length c4, .slice a5 y.nums.length c5, .slice a6 y.times.length c6, .int .i64 y.bound, .bool y.strict] 28)
     replace hF : (fun U : World => Lst rb [.slice a0 s.syms.length c0] w.heap.size U ∧ Lst rb [.int .i64 y.kind, .string y.a.name, .slice a2 y.a.kids.length c2, .string y.b.name, .slice a4 y.b.kids.length c4, .slice a5 y.nums.length c5, .slice a6 y.times.length c6, .int .i64 y.bound, .bool y.strict] V U) _ := ⟨hF.1.alloc (.cells #[.int .i64 y.kind, .string y.a.name, .slice a2 y.a.kids.length c2, .string y.b.name, .slice a4 y.b.kids.length c4, .slice a5 y.nums.length c5, .slice a6 y.times.length c6, .int .i64 y.bound, .bool y.strict] 28), hF.2.alloc (.cells #[.int .i64 y.kind, .string y.a.name, .slice a2 y.a.kids.length c2, .string y.b.name, .slice a4 y.b.kids.length c4, .slice a5 y.nums.length c5, .slice a6 y.times.length c6, .int .i64 y.bound, .bool y.strict] 28)⟩
     clear hbn
     have hcs : cb < (v2.alloc (.cells #[.int .i64 y.kind, .string y.a.name, .slice a2 y.a.kids.length c2, .string y.b.name, .slice a4 y.b.kids.length c4, .slice a5 y.nums.length c5, .slice a6 y.times.length c6, .int .i64 y.bound, .bool y.strict] 28)).heap.size := by rw [World.size_alloc]; omega
     clear hcb
     generalize v2.alloc (.cells #[.int .i64 y.kind, .string y.a.name, .slice a2 y.a.kids.length c2, .string y.b.name, .slice a4 y.b.kids.length c4, .slice a5 y.nums.length c5, .slice a6 y.times.length c6, .int .i64 y.bound, .bool y.strict] 28) = v3 at *
     refine hK.out _ _ hF ?_
     clear hK
     try simp only [Act.put, zdK, zdL, zdM]
     refine Ever.one (i := 6) (by kernel_rfl) rfl (fun K hK => ?_)
     have hsz4 := hb.size
     refine zE zX rfl _ _ rfl e0 _ _ _ rfl (by exact hE) ⟨cb, 0, none⟩ 1 1 [y.cd] [.int .i64 y.kind, .string y.a.name, .slice a2 y.a.kids.length c2, .string y.b.name, .slice a4 y.b.kids.length c4, .slice a5 y.nums.length c5, .slice a6 y.times.length c6, .int .i64 y.bound, .bool y.strict] fy rfl rfl (by simpa using hY0.below hb) (by simp [Atm.cd_len]) (fun j u h => by rw [Addr.add_lit]; simpa using hcl j u h) h3n (by simp; omega) (by simp; omega) (by omega) ?_
     intro rv6 v4 hE6 hg6 hv6 hs6
     have hrow : ∀ q, (Value.slice x3 y3 z3).ownBlock = some q → e0 ≤ q := fun q hq => (hE.block hq).1
     replace hb := zk hb hg6 hb.size (fun q hq => by have := hrow q hq; omega)
     replace hF : (fun U : World => Lst rb [.slice a0 s.syms.length c0] w.heap.size U ∧ Lst rb [.int .i64 y.kind, .string y.a.name, .slice a2 y.a.kids.length c2, .string y.b.name, .slice a4 y.b.kids.length c4, .slice a5 y.nums.length c5, .slice a6 y.times.length c6, .int .i64 y.bound, .bool y.strict] V U) _ := ⟨hF.1.grownL hg6 (fun q hq => by have := hrow q hq; omega), hF.2.grownL hg6 (fun q hq => by have := hrow q hq; omega)⟩
     obtain ⟨fz, hz6⟩ := hE6.rd'
     have hz7 : Rd v4 (.sl ((l ++ [y]).map Atm.cd)) rv6 fz := by simpa using hz6
     obtain ⟨x6, y6, z6, rfl⟩ := hE6.form'
     clear hE6 hg6 hv6 hs6 hrow hE hz6 h3n hcl
     refine hK.out _ _ hF ?_
     clear hK
     try simp only [Act.put, zdK, zdL, zdM]
     refine Ever.one (i := 7) (by kernel_rfl) rfl (fun K hK => ?_)
     go_simp; go_at_call 47
     refine (za3 (l ++ [y]) _ fz _ (by simp; omega) (by exact hz7)).mono ?_
     rintro e v5 ⟨⟨rv, rf, rfl, hr7⟩, hb7⟩
     replace hF : (fun U : World => Lst rb [.slice a0 s.syms.length c0] w.heap.size U ∧ Lst rb [.int .i64 y.kind, .string y.a.name, .slice a2 y.a.kids.length c2, .string y.b.name, .slice a4 y.b.kids.length c4, .slice a5 y.nums.length c5, .slice a6 y.times.length c6, .int .i64 y.bound, .bool y.strict] V U) _ := ⟨hF.1.below hb7, hF.2.below hb7⟩
     replace hb := hb.trans (hb7.mono hb.size)
     clear hb7 hz7
     refine hK.out _ _ hF ?_
     clear hK
     try simp only [Act.put, zdK, zdL, zdM]
     refine Ever.one (i := 8) (by kernel_rfl) rfl (fun K hK => ?_)
     go_simp; go_at_call 46
     refine (zaN s (zab (l ++ [y])) _ _ _ _ _ HSM.out HBG.out (by exact hrs0.below hb) (by exact hr7)).mono ?_
     rintro e v6 ⟨rfl, hb8⟩
     replace hF : (fun U : World => Lst rb [.slice a0 s.syms.length c0] w.heap.size U ∧ Lst rb [.int .i64 y.kind, .string y.a.name, .slice a2 y.a.kids.length c2, .string y.b.name, .slice a4 y.b.kids.length c4, .slice a5 y.nums.length c5, .slice a6 y.times.length c6, .int .i64 y.bound, .bool y.strict] V U) _ := ⟨hF.1.below hb8, hF.2.below hb8⟩
     replace hb := hb.trans (hb8.mono hb.size)
     clear hb8 hr7
     refine hK.out _ _ hF ?_
     clear hK
     try simp only [Act.put, zdK, zdL, zdM]
     refine Ever.done (by kernel_rfl) ?_ _
     have hsW := hb.size
     generalize zaW s (zab (l ++ [y])) = bo
     have hX1 := hF.1; have hV1 := hF.2
     have hO1 := hO0.below hb
     have hr1 := hRd0.below hb
     have hN1 := hN0.trans (Only.below hb)
     have hY1 := hY0.below hb
     clear hF hb HSM HBG hOr hrs0
     generalize v6 = wz at *
     cases bo
     ·go_wp2_with fail
      go_roundw
      case rel => exact ⟨n - 1, l, fp, q + 100, by go_num, by omega, by omega, HL, hO1, hfp, hX1, hr1, hN1, by have := hN1.size; omega⟩
      case measure => simp [intOf]; omega
     ·have q0 := hV1.2.2.1 0 _ rfl; have q1 := hV1.2.2.1 1 _ rfl; have q2 := hV1.2.2.1 2 _ rfl; have q3 := hV1.2.2.1 3 _ rfl; have q4 := hV1.2.2.1 4 _ rfl; have q5 := hV1.2.2.1 5 _ rfl; have q6 := hV1.2.2.1 6 _ rfl; have q7 := hV1.2.2.1 7 _ rfl; have q8 := hV1.2.2.1 8 _ rfl
      go_wp2_with fail
      refine (zbx y l _ _ fp fy (w.heap.size + 1) _ (by omega) (by omega) (by exact hO1) (by exact hY1) hYn).mono ?_
      rintro e w9 ⟨lv', fp', rfl, hown', hfp', hmv⟩
      have hrow : ∀ q, (Value.slice oa on oc).ownBlock = some q → w.heap.size + 1 ≤ q := fun q hq => (hO1.block hq).1
      have hmz := hmv.1.size
      have hX2 := hX1.grownL hmv.1 (fun q hq => by have := hrow q hq; omega)
      have hr2 := hr1.grown hmv.1 (fun q hq => by have := hrow q hq; omega)
      have hN2 := hN1.grown hmv.1 (fun q hq => by have := hrow q hq; omega)
      have HL2 : Hid (∀ x ∈ addA l y, x.few) := Lib.hid (fun x hx => by
       rcases zb3 hx with h | h
       ·exact HL.out x h
       ·rw [h]; exact hyf)
      have hal := zb4 l y
      clear hX1 hr1 hN1 hO1 hV1 q0 q1 q2 q3 q4 q5 q6 q7 q8 hmv
      go_wp2_with fail
      go_roundw
      case rel => exact ⟨n - 1, addA l y, fp', q + 100, by go_num, by omega, by omega, HL2, hown', fun b hm => by
       rcases hfp' b hm with h | h
       ·exact hfp b h
       ·have := hYl b h; omega, hX2, hr2, hN2, by have := hN2.size; omega⟩
      case measure => simp [intOf]; omega
    ·skip
     go_simp
     obtain ⟨cb, hcb⟩ : ∃ cb, cb = v1.heap.size := ⟨_, rfl⟩
     have hcl := zj v1 [.int .i64 y.kind, .string y.a.name, .slice a2 y.a.kids.length c2, .string y.b.name, .slice a4 y.b.kids.length c4, .slice a5 y.nums.length c5, .slice a6 y.times.length c6, .int .i64 y.bound, .bool y.strict] 28
     rw [← hcb] at hcl ⊢
     have hcz : v0.heap.size ≤ cb := by have := hb.size; omega
     have hbn := za v1 (.cells #[.int .i64 y.kind, .string y.a.name, .slice a2 y.a.kids.length c2, .string y.b.name, .slice a4 y.b.kids.length c4, .slice a5 y.nums.length c5, .slice a6 y.times.length c6, .int .i64 y.bound, .bool y.strict] 28)
     replace hE := hE.below hbn
     have hce : e0 < cb := by omega
     replace hes : e0 < (v1.alloc (.cells #[.int .i64 y.kind, .string y.a.name, .slice a2 y.a.kids.length c2, .string y.b.name, .slice a4 y.b.kids.length c4, .slice a5 y.nums.length c5, .slice a6 y.times.length c6, .int .i64 y.bound, .bool y.strict] 28)).heap.size := by rw [World.size_alloc]; omega
     replace hb := hb.alloc hb.size (.cells #[.int .i64 y.kind, .string y.a.name, .slice a2 y.a.kids.length c2, .string y.b.name, .slice a4 y.b.kids.length c4, .slice a5 y.nums.length c5, .slice a6 y.times.length c6, .int .i64 y.bound, .bool y.strict] 28)
     replace hF : (fun U : World => Lst rb [.slice a0 s.syms.length c0] w.heap.size U ∧ Lst rb [.int .i64 y.kind, .string y.a.name, .slice a2 y.a.kids.length c2, .string y.b.name, .slice a4 y.b.kids.length c4, .slice a5 y.nums.length c5, .slice a6 y.times.length c6, .int .i64 y.bound, .bool y.strict] V U) _ := ⟨hF.1.alloc (.cells #[.int .i64 y.kind, .string y.a.name, .slice a2 y.a.kids.length c2, .string y.b.name, .slice a4 y.b.kids.length c4, .slice a5 y.nums.length c5, .slice a6 y.times.length c6, .int .i64 y.bound, .bool y.strict] 28), hF.2.alloc (.cells #[.int .i64 y.kind, .string y.a.name, .slice a2 y.a.kids.length c2, .string y.b.name, .slice a4 y.b.kids.length c4, .slice a5 y.nums.length c5, .slice a6 y.times.length c6, .int .i64 y.bound, .bool y.strict] 28)⟩
     clear hbn
     have hcs : cb < (v1.alloc (.cells #[.int .i64 y.kind, .string y.a.name, .slice a2 y.a.kids.length c2, .string y.b.name, .slice a4 y.b.kids.length c4, .slice a5 y.nums.length c5, .slice a6 y.times.length c6, .int .i64 y.bound, .bool y.strict] 28)).heap.size := by rw [World.size_alloc]; omega
     clear hcb
     generalize v1.alloc (.cells #[.int .i64 y.kind, .string y.a.name, .slice a2 y.a.kids.length c2, .string y.b.name, .slice a4 y.b.kids.length c4, .slice a5 y.nums.length c5, .slice a6 y.times.length c6, .int .i64 y.bound, .bool y.strict] 28) = v2 at *
     refine hK.out _ _ hF ?_
     clear hK
     try simp only [Act.put, zdK, zdL, zdM]
     refine Ever.one (i := 3) (by kernel_rfl) rfl (fun K hK => ?_)
     have hsz3 := hb.size
     refine zaf zX rfl _ _ rfl e0 _ [] [] rfl (by exact hE) (l.map Atm.cd) (.slice oa on oc) fo0 rfl (hOr.below hb) (by simp only [List.mem_map]; rintro e ⟨t, _, rfl⟩; exact t.cd_len) (fun b hm e => by have := hOl b hm; have e2 : e0 = b := Option.some.inj e; omega) (by simp; omega) (by simp; omega) (by omega) ?_
     intro rv3 v3 nf3 hnf3 hE3 hg3 hv3
     clear hE
     have hE := hE3
     clear hE3
     have hgn : ∀ q, (Value.slice (some ⟨e0, 0, none⟩) 0 0).ownBlock = some q → q = e0 := fun q hq => (Option.some.inj hq).symm
     replace hb := zk hb hg3 hb.size (fun q hq => by have := hgn q hq; omega)
     replace hF : (fun U : World => Lst rb [.slice a0 s.syms.length c0] w.heap.size U ∧ Lst rb [.int .i64 y.kind, .string y.a.name, .slice a2 y.a.kids.length c2, .string y.b.name, .slice a4 y.b.kids.length c4, .slice a5 y.nums.length c5, .slice a6 y.times.length c6, .int .i64 y.bound, .bool y.strict] V U) _ := ⟨hF.1.grownL hg3 (fun q hq => by have := hgn q hq; omega), hF.2.grownL hg3 (fun q hq => by have := hgn q hq; omega)⟩
     replace hcl := fun j u h => zg hg3 (hcl j u h) (fun e => by have := hgn _ e; omega)
     replace hcs : cb < v3.heap.size := zdQ hcs hg3.size
     replace hes : e0 < v3.heap.size := zdQ hes hg3.size
     have h3n : ∀ b ∈ fy, rv3.ownBlock ≠ some b := fun b hm e => by
      rcases hv3 b e with h | h
      ·have := hgn b h; have := hYl b hm; omega
      ·have := hYl b hm; have := hb.size; omega
     obtain ⟨x3, y3, z3, rfl⟩ := hE.form'
     clear hg3 hv3 hnf3 hgn
     refine hK.out _ _ hF ?_
     clear hK
     try simp only [Act.put, zdK, zdL, zdM]
     refine Ever.one (i := 6) (by kernel_rfl) rfl (fun K hK => ?_)
     have hsz4 := hb.size
     refine zE zX rfl _ _ rfl e0 _ _ _ rfl (by exact hE) ⟨cb, 0, none⟩ 1 1 [y.cd] [.int .i64 y.kind, .string y.a.name, .slice a2 y.a.kids.length c2, .string y.b.name, .slice a4 y.b.kids.length c4, .slice a5 y.nums.length c5, .slice a6 y.times.length c6, .int .i64 y.bound, .bool y.strict] fy rfl rfl (by simpa using hY0.below hb) (by simp [Atm.cd_len]) (fun j u h => by rw [Addr.add_lit]; simpa using hcl j u h) h3n (by simp; omega) (by simp; omega) (by omega) ?_
     intro rv6 v4 hE6 hg6 hv6 hs6
     have hrow : ∀ q, (Value.slice x3 y3 z3).ownBlock = some q → e0 ≤ q := fun q hq => (hE.block hq).1
     replace hb := zk hb hg6 hb.size (fun q hq => by have := hrow q hq; omega)
     replace hF : (fun U : World => Lst rb [.slice a0 s.syms.length c0] w.heap.size U ∧ Lst rb [.int .i64 y.kind, .string y.a.name, .slice a2 y.a.kids.length c2, .string y.b.name, .slice a4 y.b.kids.length c4, .slice a5 y.nums.length c5, .slice a6 y.times.length c6, .int .i64 y.bound, .bool y.strict] V U) _ := ⟨hF.1.grownL hg6 (fun q hq => by have := hrow q hq; omega), hF.2.grownL hg6 (fun q hq => by have := hrow q hq; omega)⟩
     obtain ⟨fz, hz6⟩ := hE6.rd'
     have hz7 : Rd v4 (.sl ((l ++ [y]).map Atm.cd)) rv6 fz := by simpa using hz6
     obtain ⟨x6, y6, z6, rfl⟩ := hE6.form'
     clear hE6 hg6 hv6 hs6 hrow hE hz6 h3n hcl
     refine hK.out _ _ hF ?_
     clear hK
     try simp only [Act.put, zdK, zdL, zdM]
     refine Ever.one (i := 7) (by kernel_rfl) rfl (fun K hK => ?_)
     go_simp; go_at_call 47
     refine (za3 (l ++ [y]) _ fz _ (by simp; omega) (by exact hz7)).mono ?_
     rintro e v5 ⟨⟨rv, rf, rfl, hr7⟩, hb7⟩
     replace hF : (fun U : World => Lst rb [.slice a0 s.syms.length c0] w.heap.size U ∧ Lst rb [.int .i64 y.kind, .string y.a.name, .slice a2 y.a.kids.length c2, .string y.b.name, .slice a4 y.b.kids.length c4, .slice a5 y.nums.length c5, .slice a6 y.times.length c6, .int .i64 y.bound, .bool y.strict] V U) _ := ⟨hF.1.below hb7, hF.2.below hb7⟩
     replace hb := hb.trans (hb7.mono hb.size)
     clear hb7 hz7
     refine hK.out _ _ hF ?_
     clear hK
     try simp only [Act.put, zdK, zdL, zdM]
     refine Ever.one (i := 8) (by kernel_rfl) rfl (fun K hK => ?_)
     go_simp; go_at_call 46
     refine (zaN s (zab (l ++ [y])) _ _ _ _ _ HSM.out HBG.out (by exact hrs0.below hb) (by exact hr7)).mono ?_
     rintro e v6 ⟨rfl, hb8⟩
     replace hF : (fun U : World => Lst rb [.slice a0 s.syms.length c0] w.heap.size U ∧ Lst rb [.int .i64 y.kind, .string y.a.name, .slice a2 y.a.kids.length c2, .string y.b.name, .slice a4 y.b.kids.length c4, .slice a5 y.nums.length c5, .slice a6 y.times.length c6, .int .i64 y.bound, .bool y.strict] V U) _ := ⟨hF.1.below hb8, hF.2.below hb8⟩
     replace hb := hb.trans (hb8.mono hb.size)
     clear hb8 hr7
     refine hK.out _ _ hF ?_
     clear hK
     try simp only [Act.put, zdK, zdL, zdM]
     refine Ever.done (by kernel_rfl) ?_ _
     have hsW := hb.size
     generalize zaW s (zab (l ++ [y])) = bo
     have hX1 := hF.1; have hV1 := hF.2
     have hO1 := hO0.below hb
     have hr1 := hRd0.below hb
     have hN1 := hN0.trans (Only.below hb)
     have hY1 := hY0.below hb
     clear hF hb HSM HBG hOr hrs0
     generalize v6 = wz at *
     cases bo
     ·go_wp2_with fail
      go_roundw
      case rel => exact ⟨n - 1, l, fp, q + 100, by go_num, by omega, by omega, HL, hO1, hfp, hX1, hr1, hN1, by have := hN1.size; omega⟩
      case measure => simp [intOf]; omega
     ·have q0 := hV1.2.2.1 0 _ rfl; have q1 := hV1.2.2.1 1 _ rfl; have q2 := hV1.2.2.1 2 _ rfl; have q3 := hV1.2.2.1 3 _ rfl; have q4 := hV1.2.2.1 4 _ rfl; have q5 := hV1.2.2.1 5 _ rfl; have q6 := hV1.2.2.1 6 _ rfl; have q7 := hV1.2.2.1 7 _ rfl; have q8 := hV1.2.2.1 8 _ rfl
      go_wp2_with fail
      refine (zbx y l _ _ fp fy (w.heap.size + 1) _ (by omega) (by omega) (by exact hO1) (by exact hY1) hYn).mono ?_
      rintro e w9 ⟨lv', fp', rfl, hown', hfp', hmv⟩
      have hrow : ∀ q, (Value.slice oa on oc).ownBlock = some q → w.heap.size + 1 ≤ q := fun q hq => (hO1.block hq).1
      have hmz := hmv.1.size
      have hX2 := hX1.grownL hmv.1 (fun q hq => by have := hrow q hq; omega)
      have hr2 := hr1.grown hmv.1 (fun q hq => by have := hrow q hq; omega)
      have hN2 := hN1.grown hmv.1 (fun q hq => by have := hrow q hq; omega)
      have HL2 : Hid (∀ x ∈ addA l y, x.few) := Lib.hid (fun x hx => by
       rcases zb3 hx with h | h
       ·exact HL.out x h
       ·rw [h]; exact hyf)
      have hal := zb4 l y
      clear hX1 hr1 hN1 hO1 hV1 q0 q1 q2 q3 q4 q5 q6 q7 q8 hmv
      go_wp2_with fail
      go_roundw
      case rel => exact ⟨n - 1, addA l y, fp', q + 100, by go_num, by omega, by omega, HL2, hown', fun b hm => by
       rcases hfp' b hm with h | h
       ·exact hfp b h
       ·have := hYl b h; omega, hX2, hr2, hN2, by have := hN2.size; omega⟩
      case measure => simp [intOf]; omega
   ·skip
    go_simp
    obtain ⟨cb, hcb⟩ : ∃ cb, cb = v0.heap.size := ⟨_, rfl⟩
    have hcl := zj v0 [.int .i64 y.kind, .string y.a.name, .slice a2 y.a.kids.length c2, .string y.b.name, .slice a4 y.b.kids.length c4, .slice a5 y.nums.length c5, .slice a6 y.times.length c6, .int .i64 y.bound, .bool y.strict] 28
    rw [← hcb] at hcl ⊢
    have hcz : v0.heap.size ≤ cb := by have := hb.size; omega
    have hbn := za v0 (.cells #[.int .i64 y.kind, .string y.a.name, .slice a2 y.a.kids.length c2, .string y.b.name, .slice a4 y.b.kids.length c4, .slice a5 y.nums.length c5, .slice a6 y.times.length c6, .int .i64 y.bound, .bool y.strict] 28)
    replace hb := hb.alloc hb.size (.cells #[.int .i64 y.kind, .string y.a.name, .slice a2 y.a.kids.length c2, .string y.b.name, .slice a4 y.b.kids.length c4, .slice a5 y.nums.length c5, .slice a6 y.times.length c6, .int .i64 y.bound, .bool y.strict] 28)
    replace hF : (fun U : World => Lst rb [.slice a0 s.syms.length c0] w.heap.size U ∧ Lst rb [.int .i64 y.kind, .string y.a.name, .slice a2 y.a.kids.length c2, .string y.b.name, .slice a4 y.b.kids.length c4, .slice a5 y.nums.length c5, .slice a6 y.times.length c6, .int .i64 y.bound, .bool y.strict] V U) _ := ⟨hF.1.alloc (.cells #[.int .i64 y.kind, .string y.a.name, .slice a2 y.a.kids.length c2, .string y.b.name, .slice a4 y.b.kids.length c4, .slice a5 y.nums.length c5, .slice a6 y.times.length c6, .int .i64 y.bound, .bool y.strict] 28), hF.2.alloc (.cells #[.int .i64 y.kind, .string y.a.name, .slice a2 y.a.kids.length c2, .string y.b.name, .slice a4 y.b.kids.length c4, .slice a5 y.nums.length c5, .slice a6 y.times.length c6, .int .i64 y.bound, .bool y.strict] 28)⟩
    clear hbn
    have hcs : cb < (v0.alloc (.cells #[.int .i64 y.kind, .string y.a.name, .slice a2 y.a.kids.length c2, .string y.b.name, .slice a4 y.b.kids.length c4, .slice a5 y.nums.length c5, .slice a6 y.times.length c6, .int .i64 y.bound, .bool y.strict] 28)).heap.size := by rw [World.size_alloc]; omega
    clear hcb
    generalize v0.alloc (.cells #[.int .i64 y.kind, .string y.a.name, .slice a2 y.a.kids.length c2, .string y.b.name, .slice a4 y.b.kids.length c4, .slice a5 y.nums.length c5, .slice a6 y.times.length c6, .int .i64 y.bound, .bool y.strict] 28) = v1 at *
    refine hK.out _ _ hF ?_
    clear hK
    try simp only [Act.put, zdK, zdL, zdM]
    refine Ever.one (i := 1) (by kernel_rfl) rfl (fun K hK => ?_)
    go_simp
    obtain ⟨e0, he0⟩ : ∃ e0, e0 = v1.heap.size := ⟨_, rfl⟩
    have hE := Own.empty v1 v1.heap.size 28 9 (Nat.le_refl _)
    rw [← he0] at hE ⊢
    have hez : v0.heap.size ≤ e0 := by have := hb.size; omega
    have hbn := za v1 (.cells #[] 28)
    replace hcl := fun j u h => zb (hcl j u h) hbn
    have hce : cb < e0 := by omega
    replace hcs := zdQ hcs hbn.size
    replace hb := hb.alloc hb.size (.cells #[] 28)
    replace hF : (fun U : World => Lst rb [.slice a0 s.syms.length c0] w.heap.size U ∧ Lst rb [.int .i64 y.kind, .string y.a.name, .slice a2 y.a.kids.length c2, .string y.b.name, .slice a4 y.b.kids.length c4, .slice a5 y.nums.length c5, .slice a6 y.times.length c6, .int .i64 y.bound, .bool y.strict] V U) _ := ⟨hF.1.alloc (.cells #[] 28), hF.2.alloc (.cells #[] 28)⟩
    clear hbn
    have hes : e0 < (v1.alloc (.cells #[] 28)).heap.size := by rw [World.size_alloc]; omega
    clear he0
    generalize v1.alloc (.cells #[] 28) = v2 at *
    refine hK.out _ _ hF ?_
    clear hK
    try simp only [Act.put, zdK, zdL, zdM]
    refine Ever.one (i := 3) (by kernel_rfl) rfl (fun K hK => ?_)
    have hsz3 := hb.size
    refine zaf zX rfl _ _ rfl e0 _ [] [] rfl (by exact hE) (l.map Atm.cd) (.slice oa on oc) fo0 rfl (hOr.below hb) (by simp only [List.mem_map]; rintro e ⟨t, _, rfl⟩; exact t.cd_len) (fun b hm e => by have := hOl b hm; have e2 : e0 = b := Option.some.inj e; omega) (by simp; omega) (by simp; omega) (by omega) ?_
    intro rv3 v3 nf3 hnf3 hE3 hg3 hv3
    clear hE
    have hE := hE3
    clear hE3
    have hgn : ∀ q, (Value.slice (some ⟨e0, 0, none⟩) 0 0).ownBlock = some q → q = e0 := fun q hq => (Option.some.inj hq).symm
    replace hb := zk hb hg3 hb.size (fun q hq => by have := hgn q hq; omega)
    replace hF : (fun U : World => Lst rb [.slice a0 s.syms.length c0] w.heap.size U ∧ Lst rb [.int .i64 y.kind, .string y.a.name, .slice a2 y.a.kids.length c2, .string y.b.name, .slice a4 y.b.kids.length c4, .slice a5 y.nums.length c5, .slice a6 y.times.length c6, .int .i64 y.bound, .bool y.strict] V U) _ := ⟨hF.1.grownL hg3 (fun q hq => by have := hgn q hq; omega), hF.2.grownL hg3 (fun q hq => by have := hgn q hq; omega)⟩
    replace hcl := fun j u h => zg hg3 (hcl j u h) (fun e => by have := hgn _ e; omega)
    replace hcs : cb < v3.heap.size := zdQ hcs hg3.size
    replace hes : e0 < v3.heap.size := zdQ hes hg3.size
    have h3n : ∀ b ∈ fy, rv3.ownBlock ≠ some b := fun b hm e => by
     rcases hv3 b e with h | h
     ·have := hgn b h; have := hYl b hm; omega
     ·have := hYl b hm; have := hb.size; omega
    obtain ⟨x3, y3, z3, rfl⟩ := hE.form'
    clear hg3 hv3 hnf3 hgn
    refine hK.out _ _ hF ?_
    clear hK
    try simp only [Act.put, zdK, zdL, zdM]
    refine Ever.one (i := 6) (by kernel_rfl) rfl (fun K hK => ?_)
    have hsz4 := hb.size
    refine zE zX rfl _ _ rfl e0 _ _ _ rfl (by exact hE) ⟨cb, 0, none⟩ 1 1 [y.cd] [.int .i64 y.kind, .string y.a.name, .slice a2 y.a.kids.length c2, .string y.b.name, .slice a4 y.b.kids.length c4, .slice a5 y.nums.length c5, .slice a6 y.times.length c6, .int .i64 y.bound, .bool y.strict] fy rfl rfl (by simpa using hY0.below hb) (by simp [Atm.cd_len]) (fun j u h => by rw [Addr.add_lit]; simpa using hcl j u h) h3n (by simp; omega) (by simp; omega) (by omega) ?_
    intro rv6 v4 hE6 hg6 hv6 hs6
    have hrow : ∀ q, (Value.slice x3 y3 z3).ownBlock = some q → e0 ≤ q := fun q hq => (hE.block hq).1
    replace hb := zk hb hg6 hb.size (fun q hq => by have := hrow q hq; omega)
    replace hF : (fun U : World => Lst rb [.slice a0 s.syms.length c0] w.heap.size U ∧ Lst rb [.int .i64 y.kind, .string y.a.name, .slice a2 y.a.kids.length c2, .string y.b.name, .slice a4 y.b.kids.length c4, .slice a5 y.nums.length c5, .slice a6 y.times.length c6, .int .i64 y.bound, .bool y.strict] V U) _ := ⟨hF.1.grownL hg6 (fun q hq => by have := hrow q hq; omega), hF.2.grownL hg6 (fun q hq => by have := hrow q hq; omega)⟩
    obtain ⟨fz, hz6⟩ := hE6.rd'
    have hz7 : Rd v4 (.sl ((l ++ [y]).map Atm.cd)) rv6 fz := by simpa using hz6
    obtain ⟨x6, y6, z6, rfl⟩ := hE6.form'
    clear hE6 hg6 hv6 hs6 hrow hE hz6 h3n hcl
    refine hK.out _ _ hF ?_
    clear hK
    try simp only [Act.put, zdK, zdL, zdM]
    refine Ever.one (i := 7) (by kernel_rfl) rfl (fun K hK => ?_)
    go_simp; go_at_call 47
    refine (za3 (l ++ [y]) _ fz _ (by simp; omega) (by exact hz7)).mono ?_
    rintro e v5 ⟨⟨rv, rf, rfl, hr7⟩, hb7⟩
    replace hF : (fun U : World => Lst rb [.slice a0 s.syms.length c0] w.heap.size U ∧ Lst rb [.int .i64 y.kind, .string y.a.name, .slice a2 y.a.kids.length c2, .string y.b.name, .slice a4 y.b.kids.length c4, .slice a5 y.nums.length c5, .slice a6 y.times.length c6, .int .i64 y.bound, .bool y.strict] V U) _ := ⟨hF.1.below hb7, hF.2.below hb7⟩
    replace hb := hb.trans (hb7.mono hb.size)
    clear hb7 hz7
    refine hK.out _ _ hF ?_
    clear hK
    try simp only [Act.put, zdK, zdL, zdM]
    refine Ever.one (i := 8) (by kernel_rfl) rfl (fun K hK => ?_)
    go_simp; go_at_call 46
    refine (zaN s (zab (l ++ [y])) _ _ _ _ _ HSM.out HBG.out (by exact hrs0.below hb) (by exact hr7)).mono ?_
    rintro e v6 ⟨rfl, hb8⟩
    replace hF : (fun U : World => Lst rb [.slice a0 s.syms.length c0] w.heap.size U ∧ Lst rb [.int .i64 y.kind, .string y.a.name, .slice a2 y.a.kids.length c2, .string y.b.name, .slice a4 y.b.kids.length c4, .slice a5 y.nums.length c5, .slice a6 y.times.length c6, .int .i64 y.bound, .bool y.strict] V U) _ := ⟨hF.1.below hb8, hF.2.below hb8⟩
    replace hb := hb.trans (hb8.mono hb.size)
    clear hb8 hr7
    refine hK.out _ _ hF ?_
    clear hK
    try simp only [Act.put, zdK, zdL, zdM]
    refine Ever.done (by kernel_rfl) ?_ _
    have hsW := hb.size
    generalize zaW s (zab (l ++ [y])) = bo
    have hX1 := hF.1; have hV1 := hF.2
    have hO1 := hO0.below hb
    have hr1 := hRd0.below hb
    have hN1 := hN0.trans (Only.below hb)
    have hY1 := hY0.below hb
    clear hF hb HSM HBG hOr hrs0
    generalize v6 = wz at *
    cases bo
    ·go_wp2_with fail
     go_roundw
     case rel => exact ⟨n - 1, l, fp, q + 100, by go_num, by omega, by omega, HL, hO1, hfp, hX1, hr1, hN1, by have := hN1.size; omega⟩
     case measure => simp [intOf]; omega
    ·have q0 := hV1.2.2.1 0 _ rfl; have q1 := hV1.2.2.1 1 _ rfl; have q2 := hV1.2.2.1 2 _ rfl; have q3 := hV1.2.2.1 3 _ rfl; have q4 := hV1.2.2.1 4 _ rfl; have q5 := hV1.2.2.1 5 _ rfl; have q6 := hV1.2.2.1 6 _ rfl; have q7 := hV1.2.2.1 7 _ rfl; have q8 := hV1.2.2.1 8 _ rfl
     go_wp2_with fail
     refine (zbx y l _ _ fp fy (w.heap.size + 1) _ (by omega) (by omega) (by exact hO1) (by exact hY1) hYn).mono ?_
     rintro e w9 ⟨lv', fp', rfl, hown', hfp', hmv⟩
     have hrow : ∀ q, (Value.slice oa on oc).ownBlock = some q → w.heap.size + 1 ≤ q := fun q hq => (hO1.block hq).1
     have hmz := hmv.1.size
     have hX2 := hX1.grownL hmv.1 (fun q hq => by have := hrow q hq; omega)
     have hr2 := hr1.grown hmv.1 (fun q hq => by have := hrow q hq; omega)
     have hN2 := hN1.grown hmv.1 (fun q hq => by have := hrow q hq; omega)
     have HL2 : Hid (∀ x ∈ addA l y, x.few) := Lib.hid (fun x hx => by
      rcases zb3 hx with h | h
      ·exact HL.out x h
      ·rw [h]; exact hyf)
     have hal := zb4 l y
     clear hX1 hr1 hN1 hO1 hV1 q0 q1 q2 q3 q4 q5 q6 q7 q8 hmv
     go_wp2_with fail
     go_roundw
     case rel => exact ⟨n - 1, addA l y, fp', q + 100, by go_num, by omega, by omega, HL2, hown', fun b hm => by
      rcases hfp' b hm with h | h
      ·exact hfp b h
      ·have := hYl b h; omega, hX2, hr2, hN2, by have := hN2.size; omega⟩
     case measure => simp [intOf]; omega
  ·obtain rfl : n = 0 := by omega
   by_cases hl : l = []
   ·subst hl
    obtain ⟨xa, xc, hxe, _, _⟩ := hO.form
    simp only [List.map_nil, List.length_nil, Value.slice.injEq] at hxe
    obtain ⟨rfl, rfl, rfl⟩ := hxe
    simp only [List.map_nil] at hO
    go_wp2_with (at_builtin; refine zq zX rfl _ _ rfl (w.heap.size + 1) _ _ _ rfl (by exact hO.below (za _ _)) ⟨wr.heap.size, 0, none⟩ 1 1 [Atm.same97.cd] [.int .i64 1, .string ⟨#[97]⟩, .slice none 0 0, .string ⟨#[97]⟩, .slice none 0 0, .slice none 0 0, .slice none 0 0, .int .i64 0, .bool false] [] rfl rfl ?rd ?k ?cells ?na ?bytes ?len ?base ?next)
    try (case rd => simpa using same97_rd _)
    try (case k => simp [Atm.cd_len])
    try (case cells => exact zp _ _ _)
    try (case na => simp)
    try (case bytes => simp)
    try (case len => simp)
    case base => first | omega | (rw [World.size_alloc]; omega) | (simp; omega)
    case next =>
     intro v' w4 hown4 hg hv' hs4
     have hrow : ∀ q, (Value.slice oa 0 oc).ownBlock = some q → w.heap.size + 1 ≤ q := fun q hq => (hO.block hq).1
     have hr2 := (hrr.alloc (.cells #[.int .i64 1, .string ⟨#[97]⟩, .slice none 0 0, .string ⟨#[97]⟩, .slice none 0 0, .slice none 0 0, .slice none 0 0, .int .i64 0, .bool false] 28)).grown hg (fun q hq => by have := hrow q hq; omega)
     have hN2 := (hNW.alloc (.cells #[.int .i64 1, .string ⟨#[97]⟩, .slice none 0 0, .string ⟨#[97]⟩, .slice none 0 0, .slice none 0 0, .slice none 0 0, .int .i64 0, .bool false] 28)).grown hg (fun q hq => by have := hrow q hq; omega)
     go_wp2_with fail
     go_ret
     obtain ⟨fz, hz, hq⟩ := hown4.rd
     refine ⟨⟨[Atm.same97], v', fz, ⟨by simp, by simp, fun x hx => by rw [List.mem_singleton.1 hx]; exact zdH⟩, rfl, by simpa using hz, fun b hm => ?_⟩, hr2.mono (by omega), hN2⟩
     rcases hq with ⟨_, _, rfl⟩ | ⟨b', _, _, rfl, _, h2, _⟩
     ·simp at hm
     ·rcases zdW.1 hm with rfl | hm
      ·omega
      ·exact hfp b (by simpa using hm)
   ·have hln : 0 < l.length := by cases l with | nil => exact absurd rfl hl | cons => simp
    obtain ⟨xa, xc, hxe, _, _⟩ := hO.form
    rw [zdX] at hxe
    simp only [Value.slice.injEq] at hxe
    obtain ⟨rfl, rfl, rfl⟩ := hxe
    have hl0 : ((l.length : Int) == 0) = false := beq_eq_false_iff_ne.2 (by omega)
    have hl1 : ¬ l.length = 0 := by omega
    go_wp2_with fail
    go_ret
    obtain ⟨fz, hz, hq⟩ := hO.rd
    refine ⟨⟨l, _, fz, ⟨by omega, by omega, HL.out⟩, rfl, hz, fun b hm => ?_⟩, hrr.mono (by omega), hNW⟩
    rcases hq with ⟨_, _, rfl⟩ | ⟨b', _, _, rfl, _, h2, _⟩
    ·simp at hm
    ·rcases zdW.1 hm with rfl | hm
     ·omega
     ·exact hfp b hm
end Go.Proofs.YtoehhbkhdddeeaaGreatDoor
end
