/- Parts of the proof: RdrH RdrJ. -/
import Derived.Test.YtbfinjiledfpcaaGreatPT17
import Derived.Test.YtbfinjiledfpcaaGreatPT8
import Derived.Test.YtbfinjiledfpcaaGreatPT15
import Derived.Test.YtbfinjiledfpcaaGreatPT9
import Derived.Test.YtbfinjiledfpcaaGreatPT14
section
namespace Go.Proofs.YtbfinjiledfpcaaGreat
open Go Go.RowKit
set_option linter.unusedVariables false
set_option linter.unusedSimpArgs false
set_option maxRecDepth 100000
set_option maxHeartbeats 16000000
/-- Some atoms that are drawn. -/
def DrawnAs (w : World) (e : Ending) (w' : World) : Prop := ∃ (l : List Atm) (v : Value) (f : List Nat), (1 ≤ l.length ∧ l.length ≤ 6 ∧ ∀ x ∈ l, x.few) ∧ e = .returned v ∧ Rd w' (.sl (l.map Atm.cd)) v f ∧ ∀ b ∈ f, w.heap.size ≤ b
theorem zdS {l : List Atm} {y x : Atm} (h : x ∈ addA l y) : x ∈ l ∨ x = y := by
 unfold addA at h
 split at h
 ·exact .inl h
 ·simpa using h
theorem zdT (l : List Atm) (y : Atm) : (addA l y).length ≤ l.length + 1 := by
 unfold addA
 split
 ·omega
 ·simp
theorem few_tms {l : Lt} (h : l.M.few) : Tm.sizes l.tms ≤ 700 := by
 have hs : ∀ (ts : List Tm), (∀ u ∈ ts, u.good) → Tm.sizes ts ≤ 100 * ts.length := by
  intro ts
  induction ts with
  | nil => intro _; simp [Tm.sizes]
  | cons u r ih => intro h; have h1 := (h u (by simp)).1; have h2 := ih (fun v hv => h v (by simp [hv])); simp only [Tm.sizes, zgw]; omega
 have h1 := hs l.M.N h.2.2.2.2; have h2 := h.2.2.1; have h3 := h.1; have h4 := h.2.1; unfold Lt.tms Atm.tms
 split
 ·split
  ·simp only [Tm.sizes]; omega
  ·omega
 ·simp [Tm.sizes]
theorem zfe : ∀ (ls : List Lt), (∀ l ∈ ls, l.M.few) → Tm.sizes (zau ls) ≤ 700 * ls.length
 | [], _ => by simp [zau, Tm.sizes]
 | l :: ls, h => by
  have h1 := few_tms (h l (by simp)); have h2 := zfe ls (fun x hx => h x (by simp [hx])); simp only [zau, List.flatMap_cons, Tm.sizes_append, zgw] at h2 ⊢; omega
theorem zew {y : Atm} (h : y.few) : y.small := by
 have hs : ∀ (ts : List Tm), (∀ u ∈ ts, u.good) → Tm.sizes ts ≤ 100 * ts.length := by
  intro ts
  induction ts with
  | nil => intro _; simp [Tm.sizes]
  | cons u r ih => intro h; have h1 := (h u (by simp)).1; have h2 := ih (fun v hv => h v (by simp [hv])); simp only [Tm.sizes, zgw]; omega
 have h1 := hs y.N h.2.2.2.2; have h2 := h.2.2.1; exact ⟨by have := h.1; omega, by have := h.2.1; omega, by omega⟩
/-- What stands if nothing was drawn. -/
def Atm.same97 : Atm := ⟨1, .mk ⟨#[97]⟩ [], .mk ⟨#[97]⟩ [], [], [], 0, false⟩
theorem zex : (Tm.mk ⟨#[97]⟩ []).size ≤ 100 ∧ wtV (Tm.mk ⟨#[97]⟩ []).cd ≤ 500 := ⟨by decide, by rw [Tm.wtV_eq]; simp only [Tm.name, Tm.K, wtR, List.map_nil, List.length_nil]; decide⟩
theorem zfT : Atm.same97.few := ⟨zex, zex, by decide, rfl, by simp [Atm.same97]⟩
theorem same97_rd (w : World) : RdVs w Atm.same97.cd [.int .i64 1, .string ⟨#[97]⟩, .slice none 0 0, .string ⟨#[97]⟩, .slice none 0 0, .slice none 0 0, .slice none 0 0, .int .i64 0, .bool false] [] :=
 Atm.close (x := Atm.same97) (f2 := []) (f4 := []) (f5 := []) (f6 := []) (by unfold I64; simp [Atm.same97]) (by decide) (zaF (cd := Tm.cd) none 0 (by simp)) (by decide) (zaF (cd := Tm.cd) none 0 (by simp)) (zaF (cd := Tm.cd) none 0 (by simp)) (zaF (cd := zv) none 0 (by simp)) (by unfold I64; simp [Atm.same97])
theorem zb5 (s : Sg) (vs : List Value) (sf : List Nat) (rb p : Nat) (w : World) (hp : p + 600 ≤ 1000000000) (hfew : s.few) (hnice : s.nice) (hrd : RdVs w s.cd vs sf) (hnr : rb ∉ sf) (hr : Rdr w rb p) :
  Calls Tryz.prog 98 #[.pointer (some ⟨rb, 0, none⟩), .agg vs.toArray] w fun e w' => DrawnAs w e w' ∧ Rdr w' rb (p + 600) ∧ Only [rb] w w' := by
 obtain ⟨a0, c0, f0, rfl, rfl, m0⟩ := Sg.open hrd; have hlt := hr.lt; have hX0 := (Lst.new hlt [.slice a0 s.Y.length c0] 25).alloc (.cells #[] 31); have hO0 := Own.empty (w.alloc (.cells #[.slice a0 s.Y.length c0] 25)) (w.heap.size + 1) 31 9 (by simp); rw [zgs] at hO0; have hB2 : Below w.heap.size w ((w.alloc (.cells #[.slice a0 s.Y.length c0] 25)).alloc (.cells #[] 31)) := ((zgz _ _).alloc (zgo _) _).alloc (by simp) _
 have hs0 : ((w.alloc (.cells #[.slice a0 s.Y.length c0] 25)).alloc (.cells #[] 31)).heap.size = w.heap.size + 1 + 1 := by simp
 go_enter Tryz.func98, Tryz.ntmps98; go_upto_region 2 with fail; generalize (w.alloc (.cells #[.slice a0 s.Y.length c0] 25)).alloc (.cells #[] 31) = W0 at *; have hr0 := hr.below hB2
 have hzs : w.heap.size + 1 + 1 ≤ W0.heap.size := by omega
 clear hs0; go_wp2_with fail; refine (zaW 5 [2, 3, 4, 5, 1] [.int .i64 2, .int .i64 3, .int .i64 4, .int .i64 5, .int .i64 1] rfl rfl rb p _ _ (by omega) (by simp) (by simp) (by exact Lst.new hr0.lt _ _) (hr0.below (zb _ _))).mono ?_; rintro e w5 ⟨⟨n0, hn0, rfl⟩, hr5, ho5⟩; obtain ⟨n, rfl, hn3⟩ : ∃ n : Nat, n0 = (n : Int) ∧ n ≤ 5 := ⟨n0.toNat, by simp at hn0; omega, by simp at hn0; omega⟩; have hX5 := (hX0.alloc (.cells #[.int .i64 2, .int .i64 3, .int .i64 4, .int .i64 5, .int .i64 1] 3)).only ho5; have hO5 := (hO0.below (zb _ (.cells #[.int .i64 2, .int .i64 3, .int .i64 4, .int .i64 5, .int .i64 1] 3))).only ho5 (by omega) (by simp); have hN5 := ((Only.below hB2).alloc (.cells #[.int .i64 2, .int .i64 3, .int .i64 4, .int .i64 5, .int .i64 1] 3)).trans ho5; have hz5 := ho5.size; rw [zgs] at hz5; clear hX0 hO0 hB2 hr0 ho5 hn0; go_wp2_with fail
 go_loopw [5, 6] (fun ov iv wr => ∃ (n : Nat) (l : List Atm) (fp : List Nat) (q : Nat), iv = .int .i64 n ∧ n + l.length ≤ 5 ∧ q + n * 100 ≤ p + 501 ∧ Hid (∀ x ∈ l, x.few) ∧ Own wr (w.heap.size + 1) 31 9 ov (l.map Atm.cd) fp ∧ (∀ b ∈ fp, w.heap.size ≤ b) ∧ Lst rb [.slice a0 s.Y.length c0] w.heap.size wr ∧ Rdr wr rb q ∧ Only [rb] w wr ∧ w.heap.size + 1 + 1 ≤ wr.heap.size) (fun ov iv _ => (intOf iv).toNat)
 case atStart => exact ⟨n, [], [], p + 1, rfl, by simp; omega, by omega, zgn (by simp), hO5, by simp, hX5, hr5, hN5, by omega⟩
 case round =>
  clear hX5 hO5 hr5 hN5; obtain ⟨n, l, fp, q, rfl, hnl, hq, HL, hO, hfp, hX, hrr, hNW, hzr⟩ := hrel; obtain ⟨oa, on, oc, rfl⟩ := hO.form'
  by_cases hn : (0 : Int) < (n : Int)
  ·have hrd0 := hrd.only hNW hnr
   have x0 := hX.2.2.1 0 _ rfl; go_wp2_with fail; refine (zes s _ sf rb q _ (by omega) hfew hnice (by exact hrd0) hnr hrr).mono ?_; rintro e w1 ⟨⟨y, a2, c2, fA, a4, c4, fB, a5, c5, a6, c6, fn, hyf, rfl, AO⟩, hr1, ho1⟩; obtain ⟨fy, hY, hYg⟩ := AO.rd; have hYV := hY.lt; have hOb := fun b h => (hO.block (b := b) h).2; have hfpl := hO.lt
   have hrf : rb ∉ fp := fun h => by have := hfp _ h; omega
   replace hO := hO.only ho1 (by omega) hrf; replace hX := hX.only ho1; replace hNW := hNW.trans ho1; replace hrd0 := hrd0.only ho1 hnr; have hz1 := ho1.size; clear hrr x0 ho1; go_upto_region 6 with fail; obtain ⟨V, hVe⟩ : ∃ V, V = w1.heap.size := ⟨_, rfl⟩
   have hV : Lst rb (yNl y a2 c2 a4 c4 a5 c5 a6 c6) V (w1.alloc (.cells (yNa y a2 c2 a4 c4 a5 c5 a6 c6) 31)) := by rw [hVe]; exact Lst.new hr1.lt _ _
   rw [← hVe]; have hbn := zb w1 (.cells (yNa y a2 c2 a4 c4 a5 c5 a6 c6) 31)
   have hVs : V < (w1.alloc (.cells (yNa y a2 c2 a4 c4 a5 c5 a6 c6) 31)).heap.size := by rw [zgs]; omega
   have hO' := hO.below hbn; have hX' := hX.below hbn; have hN' := hNW.alloc (.cells (yNa y a2 c2 a4 c4 a5 c5 a6 c6) 31); have hrs' := hrd0.below hbn; have hY' := hY.below hbn; have hR' := hr1.below hbn; have hYl : ∀ b ∈ fy, wr.heap.size ≤ b ∧ b < V := fun b hm => ⟨hYg b hm, by rw [hVe]; exact hYV b hm⟩
   have hVw : wr.heap.size ≤ V := by omega
   clear hO hX hNW hrd0 hY hr1 hbn AO hYg hYV hVe hz1; generalize w1.alloc (.cells (yNa y a2 c2 a4 c4 a5 c5 a6 c6) 31) = w2 at *; refine Ever.start (F := (fun U : World => Lst rb [.slice a0 s.Y.length c0] w.heap.size U ∧ Lst rb (yNl y a2 c2 a4 c4 a5 c5 a6 c6) V U)) (by kernel_rfl) ?_; have hF : (fun U : World => Lst rb [.slice a0 s.Y.length c0] w.heap.size U ∧ Lst rb (yNl y a2 c2 a4 c4 a5 c5 a6 c6) V U) w2.drew := ⟨hX', hV⟩; have hbd := zj w2; have hO0 := hO'.below hbd; have hRd0 := hR'.below hbd; have hN0 := hN'.trans (Only.below hbd); have hY0 := hY'.below hbd; have hrs0 := hrs'.below hbd; have hVs0 : V < w2.drew.heap.size := zge hVs hbd.size; clear hO' hX' hN' hrs' hY' hR' hV hbd hVs; generalize w2.drew = v0 at *; have hb : Below v0.heap.size v0 v0 := zgz _ _; obtain ⟨fo0, hOr⟩ := hO0.rd'; have hOl := hOr.lt
   have hYn : ∀ b ∈ fy, (Value.slice oa on oc).ownBlock ≠ some b := fun b hm e => by have := hOb b e; have := (hYl b hm).1; omega
   have HSM : Hid (∀ x ∈ zY (l ++ [y]), x.M.small) := zgn (fun x hx => by
    obtain ⟨z, hz, rfl⟩ := List.mem_map.1 hx
    rcases zgg.1 hz with h | h
    ·exact zew (HL.out z h)
    ·rw [List.mem_singleton.1 h]; exact zew hyf)
   have HBG : Hid (Tm.sizes (zau (zY (l ++ [y]))) ≤ 1000000000) := zgn (by
    have h1 := zfe (zY (l ++ [y])) (fun x hx => by
     obtain ⟨z, hz, rfl⟩ := List.mem_map.1 hx
     rcases zgg.1 hz with h | h
     ·exact HL.out z h
     ·rw [List.mem_singleton.1 h]; exact hyf)
    have h2 : (zY (l ++ [y])).length = l.length + 1 := by simp [zY]
    rw [h2] at h1; omega)
   refine Ever.take (i := 0) (v := (.agg #[.slice a0 s.Y.length c0])) rfl (by kernel_rfl) (by kernel_rfl) (by kernel_rfl) (fun _ _ _ h => h) (Or.inl ⟨by rfl, fun U hU => ?_⟩) hF ?_
   ·have u0 := hU.1.2.2.1 0 _ rfl; clear hU; go_simp
   try simp only [zgB]
   refine Ever.take (i := 2) (v := (.slice oa on oc)) rfl (by kernel_rfl) (by kernel_rfl) (by kernel_rfl) (fun _ _ _ h => h) (Or.inl ⟨by rfl, fun U hU => ?_⟩) hF ?_
   ·clear hU; go_simp
   try simp only [zgB]
   refine Ever.take (i := 4) (v := (.agg (yNa y a2 c2 a4 c4 a5 c5 a6 c6))) rfl (by kernel_rfl) (by kernel_rfl) (by kernel_rfl) (fun _ _ _ h => h) (Or.inl ⟨by rfl, fun U hU => ?_⟩) hF ?_
   ·obtain ⟨u0, u1, u2, u3, u4, u5, u6, u7, u8⟩ := yR9 hU.2.2.2.1 rfl; clear hU; go_simp
   try simp only [zgB]
   refine Ever.two (i := 1) (j := 5) (by kernel_rfl) rfl rfl (fun K hK => ?_) (fun K hK => ?_)
   ·skip
    go_simp; obtain ⟨e0, he0⟩ : ∃ e0, e0 = v0.heap.size := ⟨_, rfl⟩; have hE := Own.empty v0 v0.heap.size 31 9 (zgo _); rw [← he0] at hE ⊢
    have hez : v0.heap.size ≤ e0 := by have := hb.size; omega
    have hbn := zb v0 (.cells #[] 31); replace hb := hb.alloc hb.size (.cells #[] 31); replace hF : (fun U : World => Lst rb [.slice a0 s.Y.length c0] w.heap.size U ∧ Lst rb (yNl y a2 c2 a4 c4 a5 c5 a6 c6) V U) _ := ⟨hF.1.alloc (.cells #[] 31), hF.2.alloc (.cells #[] 31)⟩; clear hbn
    have hes : e0 < (v0.alloc (.cells #[] 31)).heap.size := by rw [zgs]; omega
    clear he0; generalize v0.alloc (.cells #[] 31) = v1 at *; refine hK.out _ _ hF ?_; clear hK
    try simp only [zgB]
    refine Ever.two (i := 3) (j := 5) (by kernel_rfl) rfl rfl (fun K hK => ?_) (fun K hK => ?_)
    ·skip
     have hsz2 := hb.size; refine zE zaE rfl _ _ rfl e0 _ [] [] rfl (by exact hE) (l.map Atm.cd) (.slice oa on oc) fo0 rfl (hOr.below hb) (by simp only [List.mem_map]; rintro e ⟨t, _, rfl⟩; exact t.cd_len) (fun b hm e => by have := hOl b hm; have e2 : e0 = b := zgA e; omega) (by simp; omega) (by simp; omega) (by omega) ?_; intro rv3 v2 nf3 hnf3 hE3 hg3 hv3; clear hE; have hE := hE3; clear hE3; have hgn : ∀ q, (Value.slice (some ⟨e0, 0, none⟩) 0 0).ownBlock = some q → q = e0 := fun q hq => (zgA hq).symm; replace hb := zo hb hg3 hb.size (fun q hq => by have := hgn q hq; omega); replace hF : (fun U : World => Lst rb [.slice a0 s.Y.length c0] w.heap.size U ∧ Lst rb (yNl y a2 c2 a4 c4 a5 c5 a6 c6) V U) _ := ⟨hF.1.grownL hg3 (fun q hq => by have := hgn q hq; omega), hF.2.grownL hg3 (fun q hq => by have := hgn q hq; omega)⟩; replace hes : e0 < v2.heap.size := zge hes hg3.size
     have h3n : ∀ b ∈ fy, rv3.ownBlock ≠ some b := fun b hm e => by
      rcases hv3 b e with h | h
      ·have := hgn b h; have := hYl b hm; omega
      ·have := hYl b hm; have := hb.size; omega
     obtain ⟨x3, y3, z3, rfl⟩ := hE.form'; clear hg3 hv3 hnf3 hgn; refine hK.out _ _ hF ?_; clear hK
     try simp only [zgB]
     refine Ever.one (i := 5) (by kernel_rfl) rfl (fun K hK => ?_); go_simp; obtain ⟨cb, hcb⟩ : ∃ cb, cb = v2.heap.size := ⟨_, rfl⟩; have hcl := zx v2 (yNl y a2 c2 a4 c4 a5 c5 a6 c6) 31; rw [← hcb] at hcl ⊢
     have hcz : v0.heap.size ≤ cb := by have := hb.size; omega
     have hbn := zb v2 (.cells (yNa y a2 c2 a4 c4 a5 c5 a6 c6) 31); replace hE := hE.below hbn
     have hce : e0 < cb := by omega
     replace hes : e0 < (v2.alloc (.cells (yNa y a2 c2 a4 c4 a5 c5 a6 c6) 31)).heap.size := by rw [zgs]; omega
     replace hb := hb.alloc hb.size (.cells (yNa y a2 c2 a4 c4 a5 c5 a6 c6) 31); replace hF : (fun U : World => Lst rb [.slice a0 s.Y.length c0] w.heap.size U ∧ Lst rb (yNl y a2 c2 a4 c4 a5 c5 a6 c6) V U) _ := ⟨hF.1.alloc (.cells (yNa y a2 c2 a4 c4 a5 c5 a6 c6) 31), hF.2.alloc (.cells (yNa y a2 c2 a4 c4 a5 c5 a6 c6) 31)⟩; clear hbn
     have hcs : cb < (v2.alloc (.cells (yNa y a2 c2 a4 c4 a5 c5 a6 c6) 31)).heap.size := by rw [zgs]; omega
     clear hcb; generalize v2.alloc (.cells (yNa y a2 c2 a4 c4 a5 c5 a6 c6) 31) = v3 at *; refine hK.out _ _ hF ?_; clear hK
     try simp only [zgB]
     refine Ever.one (i := 6) (by kernel_rfl) rfl (fun K hK => ?_); have hsz4 := hb.size; refine zO zaE rfl _ _ rfl e0 _ _ _ rfl (by exact hE) ⟨cb, 0, none⟩ 1 1 [y.cd] (yNl y a2 c2 a4 c4 a5 c5 a6 c6) fy rfl rfl (by simpa using hY0.below hb) (by simp [Atm.cd_len]) (fun j u h => by rw [Addr.add_lit]; simpa using hcl j u h) h3n (by simp; omega) (by simp; omega) (by omega) ?_; intro rv6 v4 hE6 hg6 hv6 hs6; have hrow : ∀ q, (Value.slice x3 y3 z3).ownBlock = some q → e0 ≤ q := fun q hq => (hE.block hq).1; replace hb := zo hb hg6 hb.size (fun q hq => by have := hrow q hq; omega); replace hF : (fun U : World => Lst rb [.slice a0 s.Y.length c0] w.heap.size U ∧ Lst rb (yNl y a2 c2 a4 c4 a5 c5 a6 c6) V U) _ := ⟨hF.1.grownL hg6 (fun q hq => by have := hrow q hq; omega), hF.2.grownL hg6 (fun q hq => by have := hrow q hq; omega)⟩; obtain ⟨fz, hz6⟩ := hE6.rd'
     have hz7 : Rd v4 (.sl ((l ++ [y]).map Atm.cd)) rv6 fz := by simpa using hz6
     obtain ⟨x6, y6, z6, rfl⟩ := hE6.form'; clear hE6 hg6 hv6 hs6 hrow hE hz6 h3n hcl; refine hK.out _ _ hF ?_; clear hK
     try simp only [zgB]
     refine Ever.one (i := 7) (by kernel_rfl) rfl (fun K hK => ?_); go_simp; go_at_call 45; refine (zbo (l ++ [y]) _ fz _ (by simp; omega) (by exact hz7)).mono ?_; rintro e v5 ⟨⟨rv, rf, rfl, hr7⟩, hb7⟩; replace hF : (fun U : World => Lst rb [.slice a0 s.Y.length c0] w.heap.size U ∧ Lst rb (yNl y a2 c2 a4 c4 a5 c5 a6 c6) V U) _ := ⟨hF.1.below hb7, hF.2.below hb7⟩; replace hb := hb.trans (hb7.mono hb.size); clear hb7 hz7; refine hK.out _ _ hF ?_; clear hK
     try simp only [zgB]
     refine Ever.one (i := 8) (by kernel_rfl) rfl (fun K hK => ?_); go_simp; go_at_call 44; refine (za8 s (zY (l ++ [y])) _ _ _ _ _ HSM.out HBG.out (by exact hrs0.below hb) (by exact hr7)).mono ?_; rintro e v6 ⟨rfl, hb8⟩; replace hF : (fun U : World => Lst rb [.slice a0 s.Y.length c0] w.heap.size U ∧ Lst rb (yNl y a2 c2 a4 c4 a5 c5 a6 c6) V U) _ := ⟨hF.1.below hb8, hF.2.below hb8⟩; replace hb := hb.trans (hb8.mono hb.size); clear hb8 hr7; refine hK.out _ _ hF ?_; clear hK
     try simp only [zgB]
     refine Ever.done (by kernel_rfl) ?_ _; have hsW := hb.size; generalize zbd s (zY (l ++ [y])) = bo; have hX1 := hF.1; have hV1 := hF.2; have hO1 := hO0.below hb; have hr1 := hRd0.below hb; have hN1 := hN0.trans (Only.below hb); have hY1 := hY0.below hb; clear hF hb HSM HBG hOr hrs0; generalize v6 = wz at *
     cases bo
     ·go_wp2_with fail
      go_roundw
      case rel => exact ⟨n - 1, l, fp, q + 100, by go_num, by omega, by omega, HL, hO1, hfp, hX1, hr1, hN1, by have := hN1.size; omega⟩
      case measure => simp [intOf]; omega
     ·obtain ⟨q0, q1, q2, q3, q4, q5, q6, q7, q8⟩ := yR9 hV1.2.2.1 rfl
      go_wp2_with fail; refine (zbN y l _ _ fp fy (w.heap.size + 1) _ (by omega) (by omega) (by exact hO1) (by exact hY1) hYn).mono ?_; rintro e w9 ⟨lv', fp', rfl, hown', hfp', hmv⟩; have hrow : ∀ q, (Value.slice oa on oc).ownBlock = some q → w.heap.size + 1 ≤ q := fun q hq => (hO1.block hq).1; have hmz := hmv.1.size; have hX2 := hX1.grownL hmv.1 (fun q hq => by have := hrow q hq; omega); have hr2 := hr1.grown hmv.1 (fun q hq => by have := hrow q hq; omega); have hN2 := hN1.grown hmv.1 (fun q hq => by have := hrow q hq; omega)
      have HL2 : Hid (∀ x ∈ addA l y, x.few) := zgn (fun x hx => by
       rcases zdS hx with h | h
       ·exact HL.out x h
       ·rw [h]; exact hyf)
      have hal := zdT l y; clear hX1 hr1 hN1 hO1 hV1 q0 q1 q2 q3 q4 q5 q6 q7 q8 hmv; go_wp2_with fail; go_roundw
      case rel => exact ⟨n - 1, addA l y, fp', q + 100, by go_num, by omega, by omega, HL2, hown', fun b hm => by
       rcases hfp' b hm with h | h
       ·exact hfp b h
       ·have := hYl b h; omega, hX2, hr2, hN2, by have := hN2.size; omega⟩
      case measure => simp [intOf]; omega
    ·skip
     go_simp; obtain ⟨cb, hcb⟩ : ∃ cb, cb = v1.heap.size := ⟨_, rfl⟩; have hcl := zx v1 (yNl y a2 c2 a4 c4 a5 c5 a6 c6) 31; rw [← hcb] at hcl ⊢
     have hcz : v0.heap.size ≤ cb := by have := hb.size; omega
     have hbn := zb v1 (.cells (yNa y a2 c2 a4 c4 a5 c5 a6 c6) 31); replace hE := hE.below hbn
     have hce : e0 < cb := by omega
     replace hes : e0 < (v1.alloc (.cells (yNa y a2 c2 a4 c4 a5 c5 a6 c6) 31)).heap.size := by rw [zgs]; omega
     replace hb := hb.alloc hb.size (.cells (yNa y a2 c2 a4 c4 a5 c5 a6 c6) 31); replace hF : (fun U : World => Lst rb [.slice a0 s.Y.length c0] w.heap.size U ∧ Lst rb (yNl y a2 c2 a4 c4 a5 c5 a6 c6) V U) _ := ⟨hF.1.alloc (.cells (yNa y a2 c2 a4 c4 a5 c5 a6 c6) 31), hF.2.alloc (.cells (yNa y a2 c2 a4 c4 a5 c5 a6 c6) 31)⟩; clear hbn
     have hcs : cb < (v1.alloc (.cells (yNa y a2 c2 a4 c4 a5 c5 a6 c6) 31)).heap.size := by rw [zgs]; omega
     clear hcb; generalize v1.alloc (.cells (yNa y a2 c2 a4 c4 a5 c5 a6 c6) 31) = v2 at *; refine hK.out _ _ hF ?_; clear hK
     try simp only [zgB]
     refine Ever.one (i := 3) (by kernel_rfl) rfl (fun K hK => ?_); have hsz3 := hb.size; refine zE zaE rfl _ _ rfl e0 _ [] [] rfl (by exact hE) (l.map Atm.cd) (.slice oa on oc) fo0 rfl (hOr.below hb) (by simp only [List.mem_map]; rintro e ⟨t, _, rfl⟩; exact t.cd_len) (fun b hm e => by have := hOl b hm; have e2 : e0 = b := zgA e; omega) (by simp; omega) (by simp; omega) (by omega) ?_; intro rv3 v3 nf3 hnf3 hE3 hg3 hv3; clear hE; have hE := hE3; clear hE3; have hgn : ∀ q, (Value.slice (some ⟨e0, 0, none⟩) 0 0).ownBlock = some q → q = e0 := fun q hq => (zgA hq).symm; replace hb := zo hb hg3 hb.size (fun q hq => by have := hgn q hq; omega); replace hF : (fun U : World => Lst rb [.slice a0 s.Y.length c0] w.heap.size U ∧ Lst rb (yNl y a2 c2 a4 c4 a5 c5 a6 c6) V U) _ := ⟨hF.1.grownL hg3 (fun q hq => by have := hgn q hq; omega), hF.2.grownL hg3 (fun q hq => by have := hgn q hq; omega)⟩; replace hcl := fun j u h => zr hg3 (hcl j u h) (fun e => by have := hgn _ e; omega); replace hcs : cb < v3.heap.size := zge hcs hg3.size; replace hes : e0 < v3.heap.size := zge hes hg3.size
     have h3n : ∀ b ∈ fy, rv3.ownBlock ≠ some b := fun b hm e => by
      rcases hv3 b e with h | h
      ·have := hgn b h; have := hYl b hm; omega
      ·have := hYl b hm; have := hb.size; omega
     obtain ⟨x3, y3, z3, rfl⟩ := hE.form'; clear hg3 hv3 hnf3 hgn; refine hK.out _ _ hF ?_; clear hK
     try simp only [zgB]
     refine Ever.one (i := 6) (by kernel_rfl) rfl (fun K hK => ?_); have hsz4 := hb.size; refine zO zaE rfl _ _ rfl e0 _ _ _ rfl (by exact hE) ⟨cb, 0, none⟩ 1 1 [y.cd] (yNl y a2 c2 a4 c4 a5 c5 a6 c6) fy rfl rfl (by simpa using hY0.below hb) (by simp [Atm.cd_len]) (fun j u h => by rw [Addr.add_lit]; simpa using hcl j u h) h3n (by simp; omega) (by simp; omega) (by omega) ?_; intro rv6 v4 hE6 hg6 hv6 hs6; have hrow : ∀ q, (Value.slice x3 y3 z3).ownBlock = some q → e0 ≤ q := fun q hq => (hE.block hq).1; replace hb := zo hb hg6 hb.size (fun q hq => by have := hrow q hq; omega); replace hF : (fun U : World => Lst rb [.slice a0 s.Y.length c0] w.heap.size U ∧ Lst rb (yNl y a2 c2 a4 c4 a5 c5 a6 c6) V U) _ := ⟨hF.1.grownL hg6 (fun q hq => by have := hrow q hq; omega), hF.2.grownL hg6 (fun q hq => by have := hrow q hq; omega)⟩; obtain ⟨fz, hz6⟩ := hE6.rd'
     have hz7 : Rd v4 (.sl ((l ++ [y]).map Atm.cd)) rv6 fz := by simpa using hz6
     obtain ⟨x6, y6, z6, rfl⟩ := hE6.form'; clear hE6 hg6 hv6 hs6 hrow hE hz6 h3n hcl; refine hK.out _ _ hF ?_; clear hK
     try simp only [zgB]
     refine Ever.one (i := 7) (by kernel_rfl) rfl (fun K hK => ?_); go_simp; go_at_call 45; refine (zbo (l ++ [y]) _ fz _ (by simp; omega) (by exact hz7)).mono ?_; rintro e v5 ⟨⟨rv, rf, rfl, hr7⟩, hb7⟩; replace hF : (fun U : World => Lst rb [.slice a0 s.Y.length c0] w.heap.size U ∧ Lst rb (yNl y a2 c2 a4 c4 a5 c5 a6 c6) V U) _ := ⟨hF.1.below hb7, hF.2.below hb7⟩; replace hb := hb.trans (hb7.mono hb.size); clear hb7 hz7; refine hK.out _ _ hF ?_; clear hK
     try simp only [zgB]
     refine Ever.one (i := 8) (by kernel_rfl) rfl (fun K hK => ?_); go_simp; go_at_call 44; refine (za8 s (zY (l ++ [y])) _ _ _ _ _ HSM.out HBG.out (by exact hrs0.below hb) (by exact hr7)).mono ?_; rintro e v6 ⟨rfl, hb8⟩; replace hF : (fun U : World => Lst rb [.slice a0 s.Y.length c0] w.heap.size U ∧ Lst rb (yNl y a2 c2 a4 c4 a5 c5 a6 c6) V U) _ := ⟨hF.1.below hb8, hF.2.below hb8⟩; replace hb := hb.trans (hb8.mono hb.size); clear hb8 hr7; refine hK.out _ _ hF ?_; clear hK
     try simp only [zgB]
     refine Ever.done (by kernel_rfl) ?_ _; have hsW := hb.size; generalize zbd s (zY (l ++ [y])) = bo; have hX1 := hF.1; have hV1 := hF.2; have hO1 := hO0.below hb; have hr1 := hRd0.below hb; have hN1 := hN0.trans (Only.below hb); have hY1 := hY0.below hb; clear hF hb HSM HBG hOr hrs0; generalize v6 = wz at *
     cases bo
     ·go_wp2_with fail
      go_roundw
      case rel => exact ⟨n - 1, l, fp, q + 100, by go_num, by omega, by omega, HL, hO1, hfp, hX1, hr1, hN1, by have := hN1.size; omega⟩
      case measure => simp [intOf]; omega
     ·obtain ⟨q0, q1, q2, q3, q4, q5, q6, q7, q8⟩ := yR9 hV1.2.2.1 rfl
      go_wp2_with fail; refine (zbN y l _ _ fp fy (w.heap.size + 1) _ (by omega) (by omega) (by exact hO1) (by exact hY1) hYn).mono ?_; rintro e w9 ⟨lv', fp', rfl, hown', hfp', hmv⟩; have hrow : ∀ q, (Value.slice oa on oc).ownBlock = some q → w.heap.size + 1 ≤ q := fun q hq => (hO1.block hq).1; have hmz := hmv.1.size; have hX2 := hX1.grownL hmv.1 (fun q hq => by have := hrow q hq; omega); have hr2 := hr1.grown hmv.1 (fun q hq => by have := hrow q hq; omega); have hN2 := hN1.grown hmv.1 (fun q hq => by have := hrow q hq; omega)
      have HL2 : Hid (∀ x ∈ addA l y, x.few) := zgn (fun x hx => by
       rcases zdS hx with h | h
       ·exact HL.out x h
       ·rw [h]; exact hyf)
      have hal := zdT l y; clear hX1 hr1 hN1 hO1 hV1 q0 q1 q2 q3 q4 q5 q6 q7 q8 hmv; go_wp2_with fail; go_roundw
      case rel => exact ⟨n - 1, addA l y, fp', q + 100, by go_num, by omega, by omega, HL2, hown', fun b hm => by
       rcases hfp' b hm with h | h
       ·exact hfp b h
       ·have := hYl b h; omega, hX2, hr2, hN2, by have := hN2.size; omega⟩
      case measure => simp [intOf]; omega
   ·skip
    go_simp; obtain ⟨cb, hcb⟩ : ∃ cb, cb = v0.heap.size := ⟨_, rfl⟩; have hcl := zx v0 (yNl y a2 c2 a4 c4 a5 c5 a6 c6) 31; rw [← hcb] at hcl ⊢
    have hcz : v0.heap.size ≤ cb := by have := hb.size; omega
    have hbn := zb v0 (.cells (yNa y a2 c2 a4 c4 a5 c5 a6 c6) 31); replace hb := hb.alloc hb.size (.cells (yNa y a2 c2 a4 c4 a5 c5 a6 c6) 31); replace hF : (fun U : World => Lst rb [.slice a0 s.Y.length c0] w.heap.size U ∧ Lst rb (yNl y a2 c2 a4 c4 a5 c5 a6 c6) V U) _ := ⟨hF.1.alloc (.cells (yNa y a2 c2 a4 c4 a5 c5 a6 c6) 31), hF.2.alloc (.cells (yNa y a2 c2 a4 c4 a5 c5 a6 c6) 31)⟩; clear hbn
    have hcs : cb < (v0.alloc (.cells (yNa y a2 c2 a4 c4 a5 c5 a6 c6) 31)).heap.size := by rw [zgs]; omega
    clear hcb; generalize v0.alloc (.cells (yNa y a2 c2 a4 c4 a5 c5 a6 c6) 31) = v1 at *; refine hK.out _ _ hF ?_; clear hK
    try simp only [zgB]
    refine Ever.one (i := 1) (by kernel_rfl) rfl (fun K hK => ?_); go_simp; obtain ⟨e0, he0⟩ : ∃ e0, e0 = v1.heap.size := ⟨_, rfl⟩; have hE := Own.empty v1 v1.heap.size 31 9 (zgo _); rw [← he0] at hE ⊢
    have hez : v0.heap.size ≤ e0 := by have := hb.size; omega
    have hbn := zb v1 (.cells #[] 31); replace hcl := fun j u h => za (hcl j u h) hbn
    have hce : cb < e0 := by omega
    replace hcs := zge hcs hbn.size; replace hb := hb.alloc hb.size (.cells #[] 31); replace hF : (fun U : World => Lst rb [.slice a0 s.Y.length c0] w.heap.size U ∧ Lst rb (yNl y a2 c2 a4 c4 a5 c5 a6 c6) V U) _ := ⟨hF.1.alloc (.cells #[] 31), hF.2.alloc (.cells #[] 31)⟩; clear hbn
    have hes : e0 < (v1.alloc (.cells #[] 31)).heap.size := by rw [zgs]; omega
    clear he0; generalize v1.alloc (.cells #[] 31) = v2 at *; refine hK.out _ _ hF ?_; clear hK
    try simp only [zgB]
    refine Ever.one (i := 3) (by kernel_rfl) rfl (fun K hK => ?_); have hsz3 := hb.size; refine zE zaE rfl _ _ rfl e0 _ [] [] rfl (by exact hE) (l.map Atm.cd) (.slice oa on oc) fo0 rfl (hOr.below hb) (by simp only [List.mem_map]; rintro e ⟨t, _, rfl⟩; exact t.cd_len) (fun b hm e => by have := hOl b hm; have e2 : e0 = b := zgA e; omega) (by simp; omega) (by simp; omega) (by omega) ?_; intro rv3 v3 nf3 hnf3 hE3 hg3 hv3; clear hE; have hE := hE3; clear hE3; have hgn : ∀ q, (Value.slice (some ⟨e0, 0, none⟩) 0 0).ownBlock = some q → q = e0 := fun q hq => (zgA hq).symm; replace hb := zo hb hg3 hb.size (fun q hq => by have := hgn q hq; omega); replace hF : (fun U : World => Lst rb [.slice a0 s.Y.length c0] w.heap.size U ∧ Lst rb (yNl y a2 c2 a4 c4 a5 c5 a6 c6) V U) _ := ⟨hF.1.grownL hg3 (fun q hq => by have := hgn q hq; omega), hF.2.grownL hg3 (fun q hq => by have := hgn q hq; omega)⟩; replace hcl := fun j u h => zr hg3 (hcl j u h) (fun e => by have := hgn _ e; omega); replace hcs : cb < v3.heap.size := zge hcs hg3.size; replace hes : e0 < v3.heap.size := zge hes hg3.size
    have h3n : ∀ b ∈ fy, rv3.ownBlock ≠ some b := fun b hm e => by
     rcases hv3 b e with h | h
     ·have := hgn b h; have := hYl b hm; omega
     ·have := hYl b hm; have := hb.size; omega
    obtain ⟨x3, y3, z3, rfl⟩ := hE.form'; clear hg3 hv3 hnf3 hgn; refine hK.out _ _ hF ?_; clear hK
    try simp only [zgB]
    refine Ever.one (i := 6) (by kernel_rfl) rfl (fun K hK => ?_); have hsz4 := hb.size; refine zO zaE rfl _ _ rfl e0 _ _ _ rfl (by exact hE) ⟨cb, 0, none⟩ 1 1 [y.cd] (yNl y a2 c2 a4 c4 a5 c5 a6 c6) fy rfl rfl (by simpa using hY0.below hb) (by simp [Atm.cd_len]) (fun j u h => by rw [Addr.add_lit]; simpa using hcl j u h) h3n (by simp; omega) (by simp; omega) (by omega) ?_; intro rv6 v4 hE6 hg6 hv6 hs6; have hrow : ∀ q, (Value.slice x3 y3 z3).ownBlock = some q → e0 ≤ q := fun q hq => (hE.block hq).1; replace hb := zo hb hg6 hb.size (fun q hq => by have := hrow q hq; omega); replace hF : (fun U : World => Lst rb [.slice a0 s.Y.length c0] w.heap.size U ∧ Lst rb (yNl y a2 c2 a4 c4 a5 c5 a6 c6) V U) _ := ⟨hF.1.grownL hg6 (fun q hq => by have := hrow q hq; omega), hF.2.grownL hg6 (fun q hq => by have := hrow q hq; omega)⟩; obtain ⟨fz, hz6⟩ := hE6.rd'
    have hz7 : Rd v4 (.sl ((l ++ [y]).map Atm.cd)) rv6 fz := by simpa using hz6
    obtain ⟨x6, y6, z6, rfl⟩ := hE6.form'; clear hE6 hg6 hv6 hs6 hrow hE hz6 h3n hcl; refine hK.out _ _ hF ?_; clear hK
    try simp only [zgB]
    refine Ever.one (i := 7) (by kernel_rfl) rfl (fun K hK => ?_); go_simp; go_at_call 45; refine (zbo (l ++ [y]) _ fz _ (by simp; omega) (by exact hz7)).mono ?_; rintro e v5 ⟨⟨rv, rf, rfl, hr7⟩, hb7⟩; replace hF : (fun U : World => Lst rb [.slice a0 s.Y.length c0] w.heap.size U ∧ Lst rb (yNl y a2 c2 a4 c4 a5 c5 a6 c6) V U) _ := ⟨hF.1.below hb7, hF.2.below hb7⟩; replace hb := hb.trans (hb7.mono hb.size); clear hb7 hz7; refine hK.out _ _ hF ?_; clear hK
    try simp only [zgB]
    refine Ever.one (i := 8) (by kernel_rfl) rfl (fun K hK => ?_); go_simp; go_at_call 44; refine (za8 s (zY (l ++ [y])) _ _ _ _ _ HSM.out HBG.out (by exact hrs0.below hb) (by exact hr7)).mono ?_; rintro e v6 ⟨rfl, hb8⟩; replace hF : (fun U : World => Lst rb [.slice a0 s.Y.length c0] w.heap.size U ∧ Lst rb (yNl y a2 c2 a4 c4 a5 c5 a6 c6) V U) _ := ⟨hF.1.below hb8, hF.2.below hb8⟩; replace hb := hb.trans (hb8.mono hb.size); clear hb8 hr7; refine hK.out _ _ hF ?_; clear hK
    try simp only [zgB]
    refine Ever.done (by kernel_rfl) ?_ _; have hsW := hb.size; generalize zbd s (zY (l ++ [y])) = bo; have hX1 := hF.1; have hV1 := hF.2; have hO1 := hO0.below hb; have hr1 := hRd0.below hb; have hN1 := hN0.trans (Only.below hb); have hY1 := hY0.below hb; clear hF hb HSM HBG hOr hrs0; generalize v6 = wz at *
    cases bo
    ·go_wp2_with fail
     go_roundw
     case rel => exact ⟨n - 1, l, fp, q + 100, by go_num, by omega, by omega, HL, hO1, hfp, hX1, hr1, hN1, by have := hN1.size; omega⟩
     case measure => simp [intOf]; omega
    ·obtain ⟨q0, q1, q2, q3, q4, q5, q6, q7, q8⟩ := yR9 hV1.2.2.1 rfl
     go_wp2_with fail; refine (zbN y l _ _ fp fy (w.heap.size + 1) _ (by omega) (by omega) (by exact hO1) (by exact hY1) hYn).mono ?_; rintro e w9 ⟨lv', fp', rfl, hown', hfp', hmv⟩; have hrow : ∀ q, (Value.slice oa on oc).ownBlock = some q → w.heap.size + 1 ≤ q := fun q hq => (hO1.block hq).1; have hmz := hmv.1.size; have hX2 := hX1.grownL hmv.1 (fun q hq => by have := hrow q hq; omega); have hr2 := hr1.grown hmv.1 (fun q hq => by have := hrow q hq; omega); have hN2 := hN1.grown hmv.1 (fun q hq => by have := hrow q hq; omega)
     have HL2 : Hid (∀ x ∈ addA l y, x.few) := zgn (fun x hx => by
      rcases zdS hx with h | h
      ·exact HL.out x h
      ·rw [h]; exact hyf)
     have hal := zdT l y; clear hX1 hr1 hN1 hO1 hV1 q0 q1 q2 q3 q4 q5 q6 q7 q8 hmv; go_wp2_with fail; go_roundw
     case rel => exact ⟨n - 1, addA l y, fp', q + 100, by go_num, by omega, by omega, HL2, hown', fun b hm => by
      rcases hfp' b hm with h | h
      ·exact hfp b h
      ·have := hYl b h; omega, hX2, hr2, hN2, by have := hN2.size; omega⟩
     case measure => simp [intOf]; omega
  ·obtain rfl : n = 0 := by omega
   by_cases hl : l = []
   ·subst hl
    obtain ⟨xa, xc, hxe, _, _⟩ := hO.form; simp only [List.map_nil, List.length_nil, Value.slice.injEq] at hxe; obtain ⟨rfl, rfl, rfl⟩ := hxe; simp only [List.map_nil] at hO; go_wp2_with (at_builtin; refine zz zaE rfl _ _ rfl (w.heap.size + 1) _ _ _ rfl (by exact hO.below (zb _ _)) ⟨wr.heap.size, 0, none⟩ 1 1 [Atm.same97.cd] [.int .i64 1, .string ⟨#[97]⟩, .slice none 0 0, .string ⟨#[97]⟩, .slice none 0 0, .slice none 0 0, .slice none 0 0, .int .i64 0, .bool false] [] rfl rfl ?rd ?k ?cells ?na ?bytes ?len ?base ?next)
    try (case rd => simpa using same97_rd _)
    try (case k => simp [Atm.cd_len])
    try (case cells => exact zq _ _ _)
    try (case na => simp)
    try (case bytes => simp)
    try (case len => simp)
    case base => first | omega | (rw [zgs]; omega) | (simp; omega)
    case next =>
     intro v' w4 hown4 hg hv' hs4; have hrow : ∀ q, (Value.slice oa 0 oc).ownBlock = some q → w.heap.size + 1 ≤ q := fun q hq => (hO.block hq).1; have hr2 := (hrr.alloc (.cells #[.int .i64 1, .string ⟨#[97]⟩, .slice none 0 0, .string ⟨#[97]⟩, .slice none 0 0, .slice none 0 0, .slice none 0 0, .int .i64 0, .bool false] 31)).grown hg (fun q hq => by have := hrow q hq; omega); have hN2 := (hNW.alloc (.cells #[.int .i64 1, .string ⟨#[97]⟩, .slice none 0 0, .string ⟨#[97]⟩, .slice none 0 0, .slice none 0 0, .slice none 0 0, .int .i64 0, .bool false] 31)).grown hg (fun q hq => by have := hrow q hq; omega); go_wp2_with fail; go_ret; obtain ⟨fz, hz, hq⟩ := hown4.rd; refine ⟨⟨[Atm.same97], v', fz, ⟨by simp, by simp, fun x hx => by rw [List.mem_singleton.1 hx]; exact zfT⟩, rfl, by simpa using hz, fun b hm => ?_⟩, hr2.mono (by omega), hN2⟩
     rcases hq with ⟨_, _, rfl⟩ | ⟨b', _, _, rfl, _, h2, _⟩
     ·simp at hm
     ·rcases zgk.1 hm with rfl | hm
      ·omega
      ·exact hfp b (by simpa using hm)
   ·have hln : 0 < l.length := by cases l with | nil => exact absurd rfl hl | cons => simp
    obtain ⟨xa, xc, hxe, _, _⟩ := hO.form; rw [zgl] at hxe; simp only [Value.slice.injEq] at hxe; obtain ⟨rfl, rfl, rfl⟩ := hxe; have hl0 : ((l.length : Int) == 0) = false := beq_eq_false_iff_ne.2 (by omega)
    have hl1 : ¬ l.length = 0 := by omega
    go_wp2_with fail; go_ret; obtain ⟨fz, hz, hq⟩ := hO.rd; refine ⟨⟨l, _, fz, ⟨by omega, by omega, HL.out⟩, rfl, hz, fun b hm => ?_⟩, hrr.mono (by omega), hNW⟩
    rcases hq with ⟨_, _, rfl⟩ | ⟨b', _, _, rfl, _, h2, _⟩
    ·simp at hm
    ·rcases zgk.1 hm with rfl | hm
     ·omega
     ·exact hfp b hm
theorem zbb {W : World} {A B : Nat} {oa ob : List Value} (va vb : List Value) (hA : Box oa A W) (hB : Box ob B W) (hne : A < B) (la : oa.length = va.length) (lb : ob.length = vb.length) :
  Box va A (zi B (zd 0 vb) (zi A (zd 0 va) W)) ∧ Box vb B (zi B (zd 0 vb) (zi A (zd 0 va) W)) ∧ Same2 A B W (zi B (zd 0 vb) (zi A (zd 0 va) W)) :=
 ⟨(hA.puts va la).sets_other (.inl hne) _, (hB.sets_other (.inr hne) _).puts vb lb, ((Same2.refl A B W).sets (.inl rfl) _).sets (.inr rfl) _⟩
/-- Words and a form that are drawn. -/
def DrawnSF (w : World) (e : Ending) (w' : World) : Prop := ∃ (s : Sg) (f : Fm) (a0 : Option Addr) (c0 : Nat) (b3 : Option Addr) (d3 : Nat) (b5 : Option Addr) (d5 : Nat) (b6 : Option Addr) (d6 : Nat) (b7 : Option Addr) (d7 : Nat) (b11 : Option Addr) (d11 : Nat) (sf ff : List Nat), (s.few ∧ s.nice) ∧ wtV f.cd ≤ fcap 4 ∧
 e = .returned (.tuple #[.agg #[.slice a0 s.Y.length c0], .agg (yTa f b3 d3 b5 d5 b6 d6 b7 d7 b11 d11)]) ∧ RdVs w' s.cd [.slice a0 s.Y.length c0] sf ∧ RdVs w' f.cd (yTl f b3 d3 b5 d5 b6 d6 b7 d7 b11 d11) ff ∧ (∀ b ∈ sf, w.heap.size ≤ b) ∧ ∀ b ∈ ff, w.heap.size ≤ b
theorem zfU (rb p : Nat) (w : World) (hp : p + 700 ≤ 1000000000) (hr : Rdr w rb p) :
  Calls Tryz.prog 76 #[.pointer (some ⟨rb, 0, none⟩)] w fun e w' => DrawnSF w e w' ∧ Rdr w' rb (p + 700) ∧ Only [rb] w w' := by
 have hlt := hr.lt; have hA0 := (Box.new w [.slice none 0 0] 25).alloc (.cells yYa 36); have hB0 := Box.new (w.alloc (.cells #[.slice none 0 0] 25)) yYl 36; rw [zgs] at hB0; have hbn : Below w.heap.size w ((w.alloc (.cells #[.slice none 0 0] 25)).alloc (.cells yYa 36)) := ((zgz _ _).alloc (zgo _) _).alloc (by simp) _; go_enter Tryz.func76, Tryz.ntmps76; go_upto_region 1 with fail; generalize (w.alloc (.cells #[.slice none 0 0] 25)).alloc (.cells yYa 36) = W0 at *; have hN0 : Only [rb] w W0 := Only.below hbn; have hr0 := hr.below hbn; clear hbn hr; go_wp2_with fail; refine (zds rb p _ (by omega) hr0).mono ?_; rintro e w1 ⟨⟨s, vs, sf, ⟨hfew, hnice⟩, rfl, hrd, hsf⟩, hr1, ho1⟩; obtain ⟨a0, c0, _, rfl, rfl, m0⟩ := Sg.open hrd; have hzB := hB0.1
 have hnr : rb ∉ sf := fun h => by have := hsf _ h; omega
 replace hsf : ∀ b ∈ sf, w.heap.size + 1 < b := fun b hb => by have := hsf b hb; omega
 have hz1 := ho1.size; replace hA0 := hA0.only ho1 (by omega); replace hB0 := hB0.only ho1 (by omega); replace hN0 := hN0.trans ho1; clear hr0 ho1 m0; obtain ⟨S, hS⟩ : ∃ S, S = w1.heap.size := ⟨_, rfl⟩
 have hSz : w.heap.size + 1 < S := by omega
 have hXS := Box.new w1 [.slice a0 s.Y.length c0] 25; rw [← hS] at hXS; go_upto_region 2 with fail; rw [← hS]; have hba := zb w1 (.cells #[.slice a0 s.Y.length c0] 25); replace hA0 := hA0.below hba; replace hB0 := hB0.below hba; replace hN0 := hN0.trans (Only.below hba); replace hr1 := hr1.below hba; replace hrd := hrd.below hba; clear hba hS hzB hz1; generalize w1.alloc (.cells #[.slice a0 s.Y.length c0] 25) = w2 at *; refine Till.start (F := (fun U : World => Box [.slice a0 s.Y.length c0] S U)) (s0 := 10) (by kernel_rfl) ?_; have hbd := zj w2; have hF : (fun U : World => Box [.slice a0 s.Y.length c0] S U) w2.drew := hXS.below hbd; have hA := hA0.below hbd; have hB := hB0.below hbd; have hN := hN0.trans (Only.below hbd); have hRd := hr1.below hbd; have hrs := hrd.below hbd; clear hXS hA0 hB0 hN0 hr1 hrd hbd; generalize w2.drew = v0 at *; have hSv := hF.1; refine Till.take (i := 0) (v := (.agg #[.slice a0 s.Y.length c0])) rfl (by kernel_rfl) (by kernel_rfl) (by kernel_rfl) (fun _ _ _ h => h) (by kernel_rfl) (Or.inl ⟨by rfl, fun U hU => ?_⟩) hF ?_
 ·have u0 := hU.2.1 0 _ rfl; clear hU; go_simp
 try simp only [zgB]
 refine Till.take (i := 1) (v := (.pointer (some ⟨rb, 0, none⟩))) rfl (by kernel_rfl) (by kernel_rfl) (by kernel_rfl) (fun _ _ _ h => h) (by kernel_rfl) (Or.inl ⟨by rfl, fun U hU => ?_⟩) hF ?_
 ·clear hU; go_simp
 try simp only [zgB]
 refine Till.take (i := 2) (v := (.pointer (some ⟨rb, 0, none⟩))) rfl (by kernel_rfl) (by kernel_rfl) (by kernel_rfl) (fun _ _ _ h => h) (by kernel_rfl) (Or.inl ⟨by rfl, fun U hU => ?_⟩) hF ?_
 ·clear hU; go_simp
 try simp only [zgB]
 refine Till.take (i := 3) (v := (.agg #[.slice a0 s.Y.length c0])) rfl (by kernel_rfl) (by kernel_rfl) (by kernel_rfl) (fun _ _ _ h => h) (by kernel_rfl) (Or.inl ⟨by rfl, fun U hU => ?_⟩) hF ?_
 ·have u0 := hU.2.1 0 _ rfl; clear hU; go_simp
 try simp only [zgB]
 refine Till.take (i := 5) (v := (.pointer (some ⟨rb, 0, none⟩))) rfl (by kernel_rfl) (by kernel_rfl) (by kernel_rfl) (fun _ _ _ h => h) (by kernel_rfl) (Or.inl ⟨by rfl, fun U hU => ?_⟩) hF ?_
 ·clear hU; go_simp
 try simp only [zgB]
 refine Till.two (i := 4) (j := 6) (by kernel_rfl) rfl rfl (fun K hK => ?_) (fun K hK => ?_)
 ·skip
  go_simp; go_at_call 98; refine (zb5 s _ sf rb (p + 1) _ (by omega) hfew hnice (by exact hrs) hnr (by exact hRd)).mono ?_; rintro e v1 ⟨⟨l, lv, lf, ⟨hl1, hl6, hlx⟩, rfl, hrl, hlg⟩, hRn, ho⟩; have hzz := hN.size; have hFs := hF.1
  replace hlg : ∀ b ∈ lf, w.heap.size + 1 < b := fun b hb => by have := hlg b hb; omega
  clear hRd hzz; replace hF : (fun U : World => Box [.slice a0 s.Y.length c0] S U) v1 := hF.only ho (by omega); replace hA := hA.only ho (by omega); replace hB := hB.only ho (by omega); replace hN := hN.trans ho; replace hrs := hrs.only ho hnr; have hRd := hRn; clear hRn
  have hnl : rb ∉ lf := fun h => by have := hlg _ h; omega
  have HLX := zgn hlx; clear ho hlx; refine hK.out _ _ (fun _ => hF) ?_; clear hK
  try simp only [zgB]
  refine Till.one (i := 6) (by kernel_rfl) rfl (fun K hK => ?_); go_simp; have hl : Lst rb [.int .i64 3, .int .i64 4, .int .i64 2, .int .i64 3, .int .i64 1] v1.heap.size (v1.alloc (.cells #[.int .i64 3, .int .i64 4, .int .i64 2, .int .i64 3, .int .i64 1] 3)) := Lst.new hRd.lt _ _; have hbn := zb v1 (.cells #[.int .i64 3, .int .i64 4, .int .i64 2, .int .i64 3, .int .i64 1] 3); replace hF : (fun U : World => Box [.slice a0 s.Y.length c0] S U) _ := hF.below hbn; replace hA := hA.below hbn; replace hB := hB.below hbn; replace hN := hN.trans (Only.below hbn); replace hrs := hrs.below hbn; replace hRd := hRd.below hbn; replace hrl := hrl.below hbn; clear hbn; generalize v1.alloc (.cells #[.int .i64 3, .int .i64 4, .int .i64 2, .int .i64 3, .int .i64 1] 3) = v2 at *; refine hK.out _ _ (fun _ => hF) ?_; clear hK
  try simp only [zgB]
  refine Till.one (i := 7) (by kernel_rfl) rfl (fun K hK => ?_); go_simp; go_at_call 71; refine (zaW 5 [3, 4, 2, 3, 1] [.int .i64 3, .int .i64 4, .int .i64 2, .int .i64 3, .int .i64 1] rfl rfl rb (p + 1 + 600) _ _ (by omega) (by simp) (by simp) (by exact hl) (by exact hRd)).mono ?_; rintro e v3 ⟨⟨dv, hdv, rfl⟩, hRn, ho⟩
  have hd1 : 1 ≤ dv ∧ dv ≤ 4 := by simp at hdv; omega
  clear hRd hdv; replace hF : (fun U : World => Box [.slice a0 s.Y.length c0] S U) v3 := hF.only ho (by omega); replace hA := hA.only ho (by omega); replace hB := hB.only ho (by omega); replace hN := hN.trans ho; replace hrs := hrs.only ho hnr; have hRd := hRn; clear hRn; replace hrl := hrl.only ho hnl; clear ho hl; refine hK.out _ _ (fun _ => hF) ?_; clear hK
  try simp only [zgB]
  refine Till.one (i := 8) (by kernel_rfl) rfl (fun K hK => ?_); go_simp; go_at_call 70; refine (zdR 4 l _ lf dv rb (p + 1 + 600 + 1) _ hd1.1 (by omega) (by omega) (by simp only [gcap]; omega) hl1 hl6 HLX (by exact hrl) hnl (by exact hRd)).mono ?_; rintro e v4 ⟨⟨f, vf, ff, hwf, rfl, hrf, hff⟩, hRn, ho⟩; obtain ⟨b3, d3, _, b5, d5, _, b6, d6, _, b7, d7, _, b11, d11, _, rfl, _, m0, m1, m2, m3, m4, m5, m6, m7, m8, m9⟩ := Fm.open hrf; clear m0 m1 m2 m3 m4 m5 m6 m7 m8 m9; have hzz := hF.1
  have hlf2 : ∀ b ∈ ff, w.heap.size + 1 < b := fun b hb => by
   rcases hff b hb with h | h
   ·exact hlg b h
   ·omega
  clear hRd; replace hF : (fun U : World => Box [.slice a0 s.Y.length c0] S U) v4 := hF.only ho (by omega); replace hA := hA.only ho (by omega); replace hB := hB.only ho (by omega); replace hN := hN.trans ho; replace hrs := hrs.only ho hnr; have hRd := hRn; clear hRn; clear ho hrl; refine hK.out _ _ (fun _ => hF) ?_; clear hK
  try simp only [zgB]
  refine Till.one (i := 9) (by kernel_rfl) rfl (fun K hK => ?_); have ca := hA.2.1 0 _ rfl; have cf := hA.2.2 0; go_simp; have hB2 := hB.sets_other (b := w.heap.size) (by omega) [(0, .slice a0 s.Y.length c0)]; have hF2 : (fun U : World => Box [.slice a0 s.Y.length c0] S U) _ := hF.sets_other (b := w.heap.size) (by omega) [(0, .slice a0 s.Y.length c0)]; simp only [zi] at hB2 hF2; clear hF ca cf; have hF := hF2; clear hF2; refine hK.out _ _ (fun _ => hF) ?_; clear hK
  try simp only [zgB]
  refine Till.one (i := 10) (by kernel_rfl) rfl (fun K hK => ?_); obtain ⟨ca0, ca1, ca2, ca3, ca4, ca5, ca6, ca7, ca8, ca9, ca10, ca11⟩ := yR12 hB2.2.1 rfl; obtain ⟨cf0, cf1, cf2, cf3, cf4, cf5, cf6, cf7, cf8, cf9, cf10, cf11⟩ := yQ12 hB2.2.2; go_simp; clear ca0 cf0 ca1 cf1 ca2 cf2 ca3 cf3 ca4 cf4 ca5 cf5 ca6 cf6 ca7 cf7 ca8 cf8 ca9 cf9 ca10 cf10 ca11 cf11; refine hK.out _ _ (fun h => absurd h (by decide)) ?_; clear hK
  try simp only [zgB]
  refine Till.done (by kernel_rfl) ?_ _; have Tab := zbb [.slice a0 s.Y.length c0] (yTl f b3 d3 b5 d5 b6 d6 b7 d7 b11 d11) hA hB (by omega) rfl rfl; have hO5 := Only.setsR (b := w.heap.size + 1) (by omega) (zd 0 (yTl f b3 d3 b5 d5 b6 d6 b7 d7 b11 d11)) (Only.setsR (b := w.heap.size) (zgo _) (zd 0 [.slice a0 s.Y.length c0]) hN); have hR9 := Rdr.sets (b := w.heap.size + 1) (by omega) (zd 0 (yTl f b3 d3 b5 d5 b6 d6 b7 d7 b11 d11)) (Rdr.sets (b := w.heap.size) (by omega) (zd 0 [.slice a0 s.Y.length c0]) hRd); simp only [zd, zi, Nat.zero_add, Nat.reduceAdd] at Tab hO5 hR9; obtain ⟨g1, g2, hK⟩ := Tab; have ra0 := g1.2.1 0 _ rfl; obtain ⟨rb0, rb1, rb2, rb3, rb4, rb5, rb6, rb7, rb8, rb9, rb10, rb11⟩ := yR12 g2.2.1 rfl; clear g1 g2 hF hB2; go_wp2_with fail; refine bodyPost_ret (v := .tuple #[.agg #[.slice a0 s.Y.length c0], .agg (yTa f b3 d3 b5 d5 b6 d6 b7 d7 b11 d11)]) (by simp [results, Tryz.results76, go_sem, ra0, rb0, rb1, rb2, rb3, rb4, rb5, rb6, rb7, rb8, rb9, rb10, rb11]) rfl ?_; exact ⟨⟨s, f, _, _, _, _, _, _, _, _, _, _, _, _, sf, ff, ⟨hfew, hnice⟩, hwf, rfl, hrs.same2 hK (fun b hb => by have := hsf b hb; omega), hrf.same2 hK (fun b hb => by have := hlf2 b hb; omega), fun b hb => by have := hsf b hb; omega, fun b hb => by have := hlf2 b hb; omega⟩, hR9.mono (by simp only [gcap]; omega), hO5⟩
 ·skip
  go_simp; have hl : Lst rb [.int .i64 3, .int .i64 4, .int .i64 2, .int .i64 3, .int .i64 1] v0.heap.size (v0.alloc (.cells #[.int .i64 3, .int .i64 4, .int .i64 2, .int .i64 3, .int .i64 1] 3)) := Lst.new hRd.lt _ _; have hbn := zb v0 (.cells #[.int .i64 3, .int .i64 4, .int .i64 2, .int .i64 3, .int .i64 1] 3); replace hF : (fun U : World => Box [.slice a0 s.Y.length c0] S U) _ := hF.below hbn; replace hA := hA.below hbn; replace hB := hB.below hbn; replace hN := hN.trans (Only.below hbn); replace hrs := hrs.below hbn; replace hRd := hRd.below hbn; clear hbn; generalize v0.alloc (.cells #[.int .i64 3, .int .i64 4, .int .i64 2, .int .i64 3, .int .i64 1] 3) = v1 at *; refine hK.out _ _ (fun _ => hF) ?_; clear hK
  try simp only [zgB]
  refine Till.one (i := 4) (by kernel_rfl) rfl (fun K hK => ?_); go_simp; go_at_call 98; refine (zb5 s _ sf rb (p + 1) _ (by omega) hfew hnice (by exact hrs) hnr (by exact hRd)).mono ?_; rintro e v2 ⟨⟨l, lv, lf, ⟨hl1, hl6, hlx⟩, rfl, hrl, hlg⟩, hRn, ho⟩; have hzz := hN.size; have hFs := hF.1
  replace hlg : ∀ b ∈ lf, w.heap.size + 1 < b := fun b hb => by have := hlg b hb; omega
  clear hRd hzz; replace hF : (fun U : World => Box [.slice a0 s.Y.length c0] S U) v2 := hF.only ho (by omega); replace hA := hA.only ho (by omega); replace hB := hB.only ho (by omega); replace hN := hN.trans ho; replace hrs := hrs.only ho hnr; have hRd := hRn; clear hRn; replace hl := hl.only ho
  have hnl : rb ∉ lf := fun h => by have := hlg _ h; omega
  have HLX := zgn hlx; clear ho hlx; refine hK.out _ _ (fun _ => hF) ?_; clear hK
  try simp only [zgB]
  refine Till.one (i := 7) (by kernel_rfl) rfl (fun K hK => ?_); go_simp; go_at_call 71; refine (zaW 5 [3, 4, 2, 3, 1] [.int .i64 3, .int .i64 4, .int .i64 2, .int .i64 3, .int .i64 1] rfl rfl rb (p + 1 + 600) _ _ (by omega) (by simp) (by simp) (by exact hl) (by exact hRd)).mono ?_; rintro e v3 ⟨⟨dv, hdv, rfl⟩, hRn, ho⟩
  have hd1 : 1 ≤ dv ∧ dv ≤ 4 := by simp at hdv; omega
  clear hRd hdv; replace hF : (fun U : World => Box [.slice a0 s.Y.length c0] S U) v3 := hF.only ho (by omega); replace hA := hA.only ho (by omega); replace hB := hB.only ho (by omega); replace hN := hN.trans ho; replace hrs := hrs.only ho hnr; have hRd := hRn; clear hRn; replace hrl := hrl.only ho hnl; clear ho hl; refine hK.out _ _ (fun _ => hF) ?_; clear hK
  try simp only [zgB]
  refine Till.one (i := 8) (by kernel_rfl) rfl (fun K hK => ?_); go_simp; go_at_call 70; refine (zdR 4 l _ lf dv rb (p + 1 + 600 + 1) _ hd1.1 (by omega) (by omega) (by simp only [gcap]; omega) hl1 hl6 HLX (by exact hrl) hnl (by exact hRd)).mono ?_; rintro e v4 ⟨⟨f, vf, ff, hwf, rfl, hrf, hff⟩, hRn, ho⟩; obtain ⟨b3, d3, _, b5, d5, _, b6, d6, _, b7, d7, _, b11, d11, _, rfl, _, m0, m1, m2, m3, m4, m5, m6, m7, m8, m9⟩ := Fm.open hrf; clear m0 m1 m2 m3 m4 m5 m6 m7 m8 m9; have hzz := hF.1
  have hlf2 : ∀ b ∈ ff, w.heap.size + 1 < b := fun b hb => by
   rcases hff b hb with h | h
   ·exact hlg b h
   ·omega
  clear hRd; replace hF : (fun U : World => Box [.slice a0 s.Y.length c0] S U) v4 := hF.only ho (by omega); replace hA := hA.only ho (by omega); replace hB := hB.only ho (by omega); replace hN := hN.trans ho; replace hrs := hrs.only ho hnr; have hRd := hRn; clear hRn; clear ho hrl; refine hK.out _ _ (fun _ => hF) ?_; clear hK
  try simp only [zgB]
  refine Till.one (i := 9) (by kernel_rfl) rfl (fun K hK => ?_); have ca := hA.2.1 0 _ rfl; have cf := hA.2.2 0; go_simp; have hB2 := hB.sets_other (b := w.heap.size) (by omega) [(0, .slice a0 s.Y.length c0)]; have hF2 : (fun U : World => Box [.slice a0 s.Y.length c0] S U) _ := hF.sets_other (b := w.heap.size) (by omega) [(0, .slice a0 s.Y.length c0)]; simp only [zi] at hB2 hF2; clear hF ca cf; have hF := hF2; clear hF2; refine hK.out _ _ (fun _ => hF) ?_; clear hK
  try simp only [zgB]
  refine Till.one (i := 10) (by kernel_rfl) rfl (fun K hK => ?_); obtain ⟨ca0, ca1, ca2, ca3, ca4, ca5, ca6, ca7, ca8, ca9, ca10, ca11⟩ := yR12 hB2.2.1 rfl; obtain ⟨cf0, cf1, cf2, cf3, cf4, cf5, cf6, cf7, cf8, cf9, cf10, cf11⟩ := yQ12 hB2.2.2; go_simp; clear ca0 cf0 ca1 cf1 ca2 cf2 ca3 cf3 ca4 cf4 ca5 cf5 ca6 cf6 ca7 cf7 ca8 cf8 ca9 cf9 ca10 cf10 ca11 cf11; refine hK.out _ _ (fun h => absurd h (by decide)) ?_; clear hK
  try simp only [zgB]
  refine Till.done (by kernel_rfl) ?_ _; have Tab := zbb [.slice a0 s.Y.length c0] (yTl f b3 d3 b5 d5 b6 d6 b7 d7 b11 d11) hA hB (by omega) rfl rfl; have hO5 := Only.setsR (b := w.heap.size + 1) (by omega) (zd 0 (yTl f b3 d3 b5 d5 b6 d6 b7 d7 b11 d11)) (Only.setsR (b := w.heap.size) (zgo _) (zd 0 [.slice a0 s.Y.length c0]) hN); have hR9 := Rdr.sets (b := w.heap.size + 1) (by omega) (zd 0 (yTl f b3 d3 b5 d5 b6 d6 b7 d7 b11 d11)) (Rdr.sets (b := w.heap.size) (by omega) (zd 0 [.slice a0 s.Y.length c0]) hRd); simp only [zd, zi, Nat.zero_add, Nat.reduceAdd] at Tab hO5 hR9; obtain ⟨g1, g2, hK⟩ := Tab; have ra0 := g1.2.1 0 _ rfl; obtain ⟨rb0, rb1, rb2, rb3, rb4, rb5, rb6, rb7, rb8, rb9, rb10, rb11⟩ := yR12 g2.2.1 rfl; clear g1 g2 hF hB2; go_wp2_with fail; refine bodyPost_ret (v := .tuple #[.agg #[.slice a0 s.Y.length c0], .agg (yTa f b3 d3 b5 d5 b6 d6 b7 d7 b11 d11)]) (by simp [results, Tryz.results76, go_sem, ra0, rb0, rb1, rb2, rb3, rb4, rb5, rb6, rb7, rb8, rb9, rb10, rb11]) rfl ?_; exact ⟨⟨s, f, _, _, _, _, _, _, _, _, _, _, _, _, sf, ff, ⟨hfew, hnice⟩, hwf, rfl, hrs.same2 hK (fun b hb => by have := hsf b hb; omega), hrf.same2 hK (fun b hb => by have := hlf2 b hb; omega), fun b hb => by have := hsf b hb; omega, fun b hb => by have := hlf2 b hb; omega⟩, hR9.mono (by simp only [gcap]; omega), hO5⟩
end Go.Proofs.YtbfinjiledfpcaaGreat
end
