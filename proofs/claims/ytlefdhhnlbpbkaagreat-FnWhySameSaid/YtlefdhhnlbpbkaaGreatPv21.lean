/- Parts of the proof: RdrN. -/
import Derived.Deep.RegionHeld3
import Derived.Test.YtlefdhhnlbpbkaaGreatPv20
import Derived.Test.YtlefdhhnlbpbkaaGreatPv16
import Derived.Test.YtlefdhhnlbpbkaaGreatPv15
section
namespace Go.Proofs.YtlefdhhnlbpbkaaGreat
open Go Go.RowKit
set_option linter.unusedVariables false
set_option linter.unusedSimpArgs false
set_option maxRecDepth 100000
set_option maxHeartbeats 16000000
mutual
/-- What is so of terms and of their parts is so of all parts. -/
theorem addP_P {P : Tm → Prop} (hk : ∀ n ks, P (.mk n ks) → ∀ k ∈ ks, P k) : ∀ (t : Tm) (l : List Tm), (∀ x ∈ l, P x) → P t → ∀ x ∈ Tm.addP l t, P x
 | .mk n ks, l, h, ha => by
  have h1 := zcB hk ks l h (hk n ks ha)
  simp only [Tm.addP]
  split
  ·exact h1
  ·intro x hx
   rcases zer.1 hx with hx | hx
   ·exact h1 x hx
   ·rw [List.mem_singleton.1 hx]; exact ha
theorem zcB {P : Tm → Prop} (hk : ∀ n ks, P (.mk n ks) → ∀ k ∈ ks, P k) : ∀ (ts l : List Tm), (∀ x ∈ l, P x) → (∀ t ∈ ts, P t) → ∀ x ∈ Tm.addPs l ts, P x
 | [], l, h, _ => by simpa [Tm.addPs] using h
 | t :: ts, l, h, ha => by
  simp only [Tm.addPs]
  exact zcB hk ts _ (addP_P hk t l h (ha t (by simp))) (fun u hu => ha u (by simp [hu]))
end
theorem zdv {es : List Eqn} {n : Nat} (h : ∀ q ∈ es, q.a.size ≤ n ∧ q.b.size ≤ n) : ∀ t ∈ Tm.addPs [] (zj es ++ []), t.size ≤ n := by
 refine zcB (P := fun t => t.size ≤ n) (fun nm ks hp k hk => ?_) _ _ (by simp) (fun t ht => ?_)
 ·have h1 := Tm.size_mem hk
  simp only [Tm.size] at hp; omega
 ·rw [List.append_nil] at ht
  obtain ⟨q, hq, h2⟩ := List.mem_flatMap.1 ht
  simp at h2
  rcases h2 with rfl | rfl
  ·exact (h q hq).1
  ·exact (h q hq).2
theorem tms1_rd {W : World} {a : Tm} {u0 u1 : Value} {f1 : List Nat} {g : Nat} (h1 : RdVs W a.cd [u0, u1] f1) (hg : g < W.heap.size) (hc : ∀ j u, [u0, u1][j]? = some u → W.cell? ⟨g, j, none⟩ = some u) : ∃ fp, Rd W (.sl ([a].map Tm.cd)) (.slice (some ⟨g, 0, none⟩) 1 1) fp ∧ ∀ b ∈ fp, b = g ∨ b ∈ f1 := by
 refine ⟨g :: f1, ?_, by simp⟩
 simp only [Rd]
 refine ⟨_, 1, rfl, by simp, by simp [maxLen], .inr ⟨by simp, g, 0, f1, rfl, hg, rfl, ?_⟩⟩
 refine RdRows.mk (k := 2) (vs := [u0, u1]) (fun j u hj => by simpa using hc j u hj) ?_
 simpa using h1
theorem tmR_of {w : World} {t : Tm} {a : Option Addr} {c : Nat} {f : List Nat} (h : RdVs w t.cd [.string t.name, .slice a t.kids.length c] f) : TmR w t (.agg #[.string t.name, .slice a t.kids.length c]) := by
 obtain ⟨a', c', f', he, _, h0, h1⟩ := Tm.open h
 simp only [List.cons.injEq, Value.slice.injEq, true_and, and_true] at he
 obtain ⟨rfl, rfl⟩ := he
 exact TmR.mk h0 ⟨f', h1⟩
/-- A term, small, of the call's own. -/
def NearTm (w : World) (e : Ending) (w' : World) : Prop := ∃ (t : Tm) (kv : Value) (fp : List Nat), t.size ≤ 45 ∧ e = .returned (.agg #[.string t.name, kv]) ∧ RdVs w' t.cd [.string t.name, kv] fp ∧ ∀ b ∈ fp, w.heap.size ≤ b
theorem za1 {w w5 : World} {R p q rb : Nat} {t : Tm} {kv u v : Value} {fp : List Nat} (h1 : t.size ≤ 45) (hn : t.name.size ≤ maxLen) (hrd : Rd w5 (.sl (t.kids.map Tm.cd)) kv fp) (hf : ∀ b ∈ fp, R < b) (hR : w.heap.size ≤ R) (hr : Rdr w5 rb q) (hRr : rb < R) (hN : Only [rb] w w5) (hq : q ≤ p) :
  NearTm w (.returned (.agg #[.string t.name, kv])) ((w5.setCell ⟨R, 0, none⟩ u).setCell ⟨R, 1, none⟩ v) ∧ Rdr ((w5.setCell ⟨R, 0, none⟩ u).setCell ⟨R, 1, none⟩ v) rb p ∧ Only [rb] w ((w5.setCell ⟨R, 0, none⟩ u).setCell ⟨R, 1, none⟩ v) := by
 obtain ⟨ka, kc, rfl, _, _⟩ := zd hrd
 refine ⟨⟨t, _, fp, h1, rfl, (Tm.rdv hn hrd).same _ (zW (fun b hb e => by have := hf b hb; omega)), fun b hb => by have := hf b hb; omega⟩, ((hr.set hRr).set hRr).mono hq, (hN.set_new hR).set_new hR⟩
theorem zci (s : Sg) (es : List Eqn) (vs : List Value) (sf : List Nat) (v : Value) (f : List Nat) (rb p : Nat) (w : World) (hp : p + 100 ≤ 1000000000) (hfew : s.few) (hlen : es.length ≤ 5) (hsz : ∀ q ∈ es, q.a.size ≤ 7 ∧ q.b.size ≤ 7) (hrd : RdVs w s.cd vs sf) (hnr : rb ∉ sf) (hr : Rdr w rb p)
  (hx : Rd w (.sl (es.map Eqn.cd)) v f) :
  Calls Tryz.prog 72 #[.pointer (some ⟨rb, 0, none⟩), .agg vs.toArray, v] w fun e w' => NearTm w e w' ∧ Rdr w' rb (p + 30) ∧ Only [rb] w w' := by
 obtain ⟨a0, c0, f0, rfl, rfl, m0⟩ := Sg.open hrd
 have hlt := hr.lt
 have HPS := Lib.hid (zdv hsz)
 have hsum : Tm.sizes (zj es ++ []) ≤ 1000000000 := by
  have h1 : ∀ (xs : List Eqn), (∀ e ∈ xs, e.a.size + e.b.size ≤ 14) → Tm.sizes (zj xs) ≤ xs.length * 14 := by
   intro xs
   induction xs with
   | nil => intro _; simp [zj, Tm.sizes]
   | cons e xs ih =>
    intro h
    have h1 := h e (by simp)
    have h2 := ih (fun x hx => h x (by simp [hx]))
    have h3 : zj (e :: xs) = [e.a, e.b] ++ zj xs := rfl
    rw [h3, Tm.sizes_append, List.length_cons, Nat.add_mul]
    simp only [Tm.sizes]; omega
  have h2 := h1 es (fun e he => by have := hsz e he; omega)
  rw [Tm.sizes_append]; simp only [Tm.sizes]; omega
 have hpl := Tm.addPs_len (zj es ++ []) []
 simp only [List.length_nil, Nat.zero_add] at hpl
 clear hsz
 have hb2 : Below (w.heap.size + 1 + 1) ((w.alloc (.cells #[.slice a0 s.syms.length c0] 25)).alloc (.cells #[.string ⟨#[]⟩, .slice none 0 0] 29)) ((w.alloc (.cells #[.slice a0 s.syms.length c0] 25)).alloc (.cells #[.string ⟨#[]⟩, .slice none 0 0] 29)) := Below.refl _ _
 obtain ⟨hx0, hy0, hz0, hb0⟩ := box2 hb2
 have x0 := hx0 0
 have r0 := hy0 0
 have r1 := hy0 1
 have rf0 := (zD hb2 0).2
 have rf1 := (zD hb2 1).2
 simp only [zeo, zem, zen] at x0 r0 r1
 clear hx0 hy0 hb2
 go_enter Tryz.func72, Tryz.ntmps72
 go_wp2_with fail
 refine (zO es [] _ _ _ [] _ hsum (by exact hx.below hb0) (by exact zav none)).mono ?_
 rintro e w1 ⟨⟨pv, pf, rfl, hps, hpf⟩, hb1⟩
 have hB1 := hb0.trans (hb1.mono hb0.size)
 have hz1 := hB1.size
 have hzz := hb1.size
 simp only [World.size_alloc] at hzz
 have hN1 : Only [rb] w w1 := Only.below hB1
 replace x0 := za x0 hb1
 replace r0 := za r0 hb1
 replace r1 := za r1 hb1
 replace rf0 := (zc (hb1.block (w.heap.size + 1) (by simp))).trans rf0
 replace rf1 := (zc (hb1.block (w.heap.size + 1) (by simp))).trans rf1
 have hr1 := hr.below hB1
 have hrd1 := hrd.below hB1
 have hpnr : rb ∉ pf := fun h => by have := (hpf.2 _ h).1; rw [World.size_alloc, World.size_alloc] at this; omega
 obtain ⟨pa, pc, rfl, hpc1, hpc2⟩ := zd hps
 clear hb0 hb1 hx hr hrd hB1 hpf
 generalize Tm.addPs [] (zj es ++ []) = ps at *
 have hl1 := hr1.lt
 have hfl : s.syms.length ≤ 5 := hfew.1
 by_cases h0 : ps.length = 0
 ·have hd0 : decide ((0 : Int) < (ps.length : Int)) = false := decide_eq_false (by omega)
  go_wp2_with fail
  have hl7 := hr1.lt
  refine (zaK s _ _ rb (p) _ (by omega) hfew (by exact hrd1) hnr (by exact hr1)).mono ?_
  rintro e w2 ⟨⟨t, kv, fo, hs, rfl, hnm, hown, hfo⟩, hr2, ho2⟩
  obtain ⟨ka, kc, hkv, hk1, hk2⟩ := hown.form
  rw [zew] at hkv hk1
  subst hkv
  obtain ⟨fa, hra, hfa, _⟩ := hown.fresh hfo
  have hz2 := ho2.size
  have g0 := ho2.cellk r0 (by omega)
  have g1 := ho2.cellk r1 (by omega)
  have gf0 := ho2.free rf0 (by omega) (by omega)
  have gf1 := ho2.free rf1 (by omega) (by omega)
  obtain ⟨z0, z1⟩ := zT (.string t.name) (.slice ka t.kids.length kc) g0 g1
  go_wp2_with fail
  exact bodyPost_ret (v := .agg #[.string t.name, .slice ka t.kids.length kc]) (by simp [results, Tryz.results72, go_sem, z0, z1]) rfl (za1 hs hnm hra (fun b hb => by have := (hfa.2 b hb).1; omega) (by omega) hr2 (by omega) (hN1.trans ho2) (by omega))
 have hd0 : decide ((0 : Int) < (ps.length : Int)) = true := decide_eq_true (by omega)
 obtain ⟨pb, po, rfl, hpb, _⟩ := zm hps (by omega)
 go_wp2_with fail
 refine (zE rb p 3 _ (by omega) (by omega) (by omega) (by exact hr1)).mono ?_
 rintro e w3 ⟨⟨m, hm, rfl⟩, hr3, ho3⟩
 have hz3 := ho3.size
 replace x0 := ho3.cellk x0 (by omega)
 replace r0 := ho3.cellk r0 (by omega)
 replace r1 := ho3.cellk r1 (by omega)
 replace rf0 := ho3.free rf0 (by omega) (by omega)
 replace rf1 := ho3.free rf1 (by omega) (by omega)
 replace hps := hps.only ho3 hpnr
 have hrd3 := hrd1.only ho3 hnr
 have hN3 := hN1.trans ho3
 clear hr1 ho3 hrd1 hN1 hl1
 by_cases hm0 : 0 < m
 rotate_left
 ·have hd1 : decide ((0 : Int) < (m : Int)) = false := decide_eq_false (by omega)
  go_wp2_with fail
  have hl7 := hr3.lt
  refine (zaK s _ _ rb (p + 1) _ (by omega) hfew (by exact hrd3) hnr (by exact hr3)).mono ?_
  rintro e w2 ⟨⟨t, kv, fo, hs, rfl, hnm, hown, hfo⟩, hr2, ho2⟩
  obtain ⟨ka, kc, hkv, hk1, hk2⟩ := hown.form
  rw [zew] at hkv hk1
  subst hkv
  obtain ⟨fa, hra, hfa, _⟩ := hown.fresh hfo
  have hz2 := ho2.size
  have g0 := ho2.cellk r0 (by omega)
  have g1 := ho2.cellk r1 (by omega)
  have gf0 := ho2.free rf0 (by omega) (by omega)
  have gf1 := ho2.free rf1 (by omega) (by omega)
  obtain ⟨z0, z1⟩ := zT (.string t.name) (.slice ka t.kids.length kc) g0 g1
  go_wp2_with fail
  exact bodyPost_ret (v := .agg #[.string t.name, .slice ka t.kids.length kc]) (by simp [results, Tryz.results72, go_sem, z0, z1]) rfl (za1 hs hnm hra (fun b hb => by have := (hfa.2 b hb).1; omega) (by omega) hr2 (by omega) (hN3.trans ho2) (by omega))
 have hd1 : decide ((0 : Int) < (m : Int)) = true := decide_eq_true (by omega)
 go_wp2_with fail
 refine (zE rb (p + 1) ps.length _ (by omega) (by omega) (by omega) (by exact hr3)).mono ?_
 rintro e w4 ⟨⟨n, hn, rfl⟩, hr4, ho4⟩
 have hz4 := ho4.size
 replace x0 := ho4.cellk x0 (by omega)
 replace r0 := ho4.cellk r0 (by omega)
 replace r1 := ho4.cellk r1 (by omega)
 replace rf0 := ho4.free rf0 (by omega) (by omega)
 replace rf1 := ho4.free rf1 (by omega) (by omega)
 replace hps := hps.only ho4 hpnr
 have hrd4 := hrd3.only ho4 hnr
 have hN4 := hN3.trans ho4
 clear hr3 ho4 hrd3 hN3
 have hn' : n < ps.length := by omega
 obtain ⟨ka, kc, fk, d0, d1, t0, t1, hsub⟩ := Tm.at hps hn'
 have hts := HPS.out _ (zes hn')
 have hl4 := hr4.lt
 have hlo4 : w.heap.size + 1 < w4.heap.size := World.block_lt_of_cell? _ _ r0
 generalize ps[n] = t at *
 have htd := Tm.rdv t0 t1
 clear HPS
 go_wp2_with fail
 have ba := zb w4 (.cells #[.string t.name, .slice ka t.kids.length kc] 29)
 have y0 : (w4.alloc (.cells #[.string t.name, .slice ka t.kids.length kc] 29)).cell? ⟨w4.heap.size, 0, none⟩ = some (.string t.name) := zg w4 [.string t.name, .slice ka t.kids.length kc] _ 0 _ rfl
 have y1 : (w4.alloc (.cells #[.string t.name, .slice ka t.kids.length kc] 29)).cell? ⟨w4.heap.size, 1, none⟩ = some (.slice ka t.kids.length kc) := zg w4 [.string t.name, .slice ka t.kids.length kc] _ 1 _ rfl
 refine (zE rb (p + 1 + 1) 3 _ (by omega) (by omega) (by omega) (hr4.alloc _)).mono ?_
 rintro e w5 ⟨⟨d, hd, rfl⟩, hr5, ho5⟩
 have hz5 := ho5.size
 rw [World.size_alloc] at hz5
 have hN5 := (Only.below ba).trans ho5
 replace x0 := hN5.cellk x0 (by omega)
 replace r0 := hN5.cellk r0 (by omega)
 replace r1 := hN5.cellk r1 (by omega)
 replace rf0 := hN5.free rf0 (by omega) (by omega)
 replace rf1 := hN5.free rf1 (by omega) (by omega)
 replace y0 := ho5.cellk y0 (by omega)
 replace y1 := ho5.cellk y1 (by omega)
 have hrd5 := hrd4.only hN5 hnr
 have htnr : rb ∉ fk := fun h => hpnr (hsub _ h)
 have ht5 := htd.only hN5 htnr
 have hN := hN4.trans hN5
 clear hr4 ho5 hrd4 hN4 hN5 htd t1 d0 d1 hps ba
 have hl5 := hr5.lt
 have hlo5 : w.heap.size + 1 < w5.heap.size := by omega
 have hly5 : w4.heap.size < w5.heap.size := by omega
 clear hz1 hz3 hzz hz4
 by_cases hdz : d = 0
 rotate_left
 ·have hd2 : ((d : Int) == 0) = false := beq_eq_false_iff_ne.2 (by omega)
  go_wp2_with fail
  refine (zS t.size t _ _ (Nat.le_refl _) (by omega) (tmR_of ht5)).mono ?_
  rintro e w6 ⟨kv6, f6, rfl, hr6, hf6, hb6⟩
  obtain ⟨qa, qc, rfl, hq1, hq2⟩ := zd hr6
  have hz6 := hb6.size
  have g0 := za r0 hb6
  have g1 := za r1 hb6
  have gf0 := (zc (hb6.block (w.heap.size + 1) hlo5)).trans rf0
  have gf1 := (zc (hb6.block (w.heap.size + 1) hlo5)).trans rf1
  obtain ⟨z0, z1⟩ := zT (.string t.name) (.slice qa t.kids.length qc) g0 g1
  go_wp2_with fail
  exact bodyPost_ret (v := .agg #[.string t.name, .slice qa t.kids.length qc]) (by simp [results, Tryz.results72, go_sem, z0, z1]) rfl (za1 (by omega) t0 hr6 (fun b hb => by have := (hf6.2 b hb).1; omega) (by omega) (hr5.below hb6) (by omega) (hN.trans (Only.below hb6)) (by omega))
 subst hdz
 clear hd
 go_wp2_with fail
 go_loopw [9] (fun i wr => ∃ k : Nat, k ≤ s.syms.length ∧ i = .int .i64 k ∧ Below w5.heap.size w5 wr) (fun i _ => s.syms.length - (intOf i).toNat)
 case atStart => exact ⟨0, Nat.zero_le _, rfl, Below.refl _ _⟩
 case round =>
  obtain ⟨k, hkl, rfl, hb⟩ := hrel
  have hz := hb.size
  replace x0 := za x0 hb
  replace r0 := za r0 hb
  replace r1 := za r1 hb
  replace y0 := za y0 hb
  replace y1 := za y1 hb
  replace rf0 := (zc (hb.block (w.heap.size + 1) hlo5)).trans rf0
  replace rf1 := (zc (hb.block (w.heap.size + 1) hlo5)).trans rf1
  have hrdw := hrd5.below hb
  have htw := ht5.below hb
  have hrw := hr5.below hb
  have hNw := hN.trans (Only.below hb)
  clear hrd5 ht5 hr5 hN
  by_cases hlt : k < s.syms.length
  rotate_left
  ·go_wp2_with fail
   refine (zS t.size t _ _ (Nat.le_refl _) (by omega) (tmR_of htw)).mono ?_
   rintro e w6 ⟨kv6, f6, rfl, hr6, hf6, hb6⟩
   obtain ⟨qa, qc, rfl, hq1, hq2⟩ := zd hr6
   have hz6 := hb6.size
   have g0 := za r0 hb6
   have g1 := za r1 hb6
   have gf0 := (zc (hb6.block (w.heap.size + 1) (by omega))).trans rf0
   have gf1 := (zc (hb6.block (w.heap.size + 1) (by omega))).trans rf1
   obtain ⟨z0, z1⟩ := zT (.string t.name) (.slice qa t.kids.length qc) g0 g1
   go_wp2_with fail
   exact bodyPost_ret (v := .agg #[.string t.name, .slice qa t.kids.length qc]) (by simp [results, Tryz.results72, go_sem, z0, z1]) rfl (za1 (by omega) t0 hr6 (fun b hb => by have := (hf6.2 b hb).1; omega) (by omega) (hrw.below hb6) (by omega) (hNw.trans (Only.below hb6)) (by omega))
  obtain ⟨a0', c0', f0', he0, hf0', m1⟩ := Sg.open hrdw
  simp only [List.cons.injEq, Value.slice.injEq, true_and, and_true] at he0
  obtain ⟨rfl, rfl⟩ := he0
  obtain ⟨b, off, rfl, hbs, _⟩ := zm m0 (by omega)
  obtain ⟨a1, c1, f1, e0, e1, e2, n0, n1, n2, _⟩ := Sy.at m1 hlt
  have hal := hfew.2 _ (zes hlt)
  go_wp2_with fail
  refine (zaf s t (by omega) _ _ _ _ _ (by exact hrdw) (by exact htw)).mono ?_
  rintro e w6 ⟨rfl, hb6⟩
  have hz6 := hb6.size
  replace x0 := za x0 hb6
  replace r0 := za r0 hb6
  replace r1 := za r1 hb6
  replace y0 := za y0 hb6
  replace y1 := za y1 hb6
  replace e0 := za e0 hb6
  replace e1 := za e1 hb6
  replace rf0 := (zc (hb6.block (w.heap.size + 1) (by omega))).trans rf0
  replace rf1 := (zc (hb6.block (w.heap.size + 1) (by omega))).trans rf1
  replace n1 := n1.below hb6
  have hB6 := hb.trans (hb6.mono hz)
  have htw6 := htw.below hb6
  have hrw6 := hrw.below hb6
  have hNw6 := hNw.trans (Only.below hb6)
  clear hrdw htw hrw hNw hb hb6 m1 e2
  cases ho : t.tsrt s with
  | none =>
   simp only [Option.getD_none, Option.isSome_none]
   clear ho
   go_wp2_with fail
   go_roundw
   case rel => exact ⟨k + 1, by omega, by go_num, hB6⟩
   case measure => simp [intOf]; omega
  | some sn =>
   simp only [Option.getD_some, Option.isSome_some]
   clear ho
   by_cases hl1' : s.syms[k].args.length = 1
   rotate_left
   ·have hq1 : ((s.syms[k].args.length : Int) == 1) = false := beq_eq_false_iff_ne.2 (by omega)
    go_wp2_with fail
    go_roundw
    case rel => exact ⟨k + 1, by omega, by go_num, hB6⟩
    case measure => simp [intOf]; omega
   have hq1 : ((s.syms[k].args.length : Int) == 1) = true := by rw [hl1']; rfl
   obtain ⟨b7, off7, rfl, hbs7, _⟩ := zm n1 (by omega)
   obtain ⟨h7, _⟩ := zL n1 (k := 0) (by omega)
   rw [Nat.add_zero] at h7
   have hln : (0 : Int) < (s.syms[k].args.length : Int) := by omega
   cases hq2 : (s.syms[k].args[0] == sn)
   ·go_wp2_with fail
    go_roundw
    case rel => exact ⟨k + 1, by omega, by go_num, hB6⟩
    case measure => simp [intOf]; omega
   ·go_wp2_with fail
    go_region_held3 (fun U => U.cell? ⟨w.heap.size, 0, none⟩ = some (.slice (some ⟨b, off, none⟩) s.syms.length c0) ∧ U.cell? ⟨b, off + k * 3, none⟩ = some (.string s.syms[k].name) ∧ U.cell? ⟨w4.heap.size, 0, none⟩ = some (.string t.name) ∧ U.cell? ⟨w4.heap.size, 1, none⟩ = some (.slice ka t.kids.length kc))
     (first | exact ⟨x0, e0, y0, y1⟩ | exact ⟨za x0 hb7, za e0 hb7, za y0 hb7, za y1 hb7⟩ | exact ⟨zz (za x0 hb7), zz (za e0 hb7), zz (za y0 hb7), zz (za y1 hb7)⟩ | ((refine ⟨?_, ?_, ?_, ?_⟩) <;> ((repeat (first | with_reducible assumption | with_reducible refine zz ?_ | exact za x0 hb7 | exact za e0 hb7 | exact za y0 hb7 | exact za y1 hb7 | ((with_reducible refine (World.cell?_setCell_other _ _ _ _ ?_).trans ?_); (focus (intro e; simp only [Addr.mk.injEq] at e; omega))))); done)))
     (first | (go_at_call 28; (with_reducible refine (zS t.size t _ _ (Nat.le_refl _) (by omega) ?_).mono ?_); exact (tmR_of htw6).below (zi _); rintro e w7 ⟨kv7, f7, rfl, hr7, hf7, hb7'⟩; obtain ⟨qa, qc, rfl, hqc1, hqc2⟩ := zd hr7; have hb7 := (zh hb7'); have hz7 := hb7.size; have g0 := zz (o := .cells #[.string t.name, .slice qa t.kids.length qc] 29) (za r0 hb7); have g1 := zz (o := .cells #[.string t.name, .slice qa t.kids.length qc] 29) (za r1 hb7); have gf0 := (zc ((hb7.alloc hz7 (.cells #[.string t.name, .slice qa t.kids.length qc] 29)).block (w.heap.size + 1) (by omega))).trans rf0; have gf1 := (zc ((hb7.alloc hz7 (.cells #[.string t.name, .slice qa t.kids.length qc] 29)).block (w.heap.size + 1) (by omega))).trans rf1))
    have hbx := hb7.alloc hz7 (.cells #[.string t.name, .slice qa t.kids.length qc] 29)
    obtain ⟨fz, hrz, hfz⟩ := tms1_rd ((Tm.rdv t0 hr7).below (zb w7 (.cells #[.string t.name, .slice qa t.kids.length qc] 29))) (g := w7.heap.size) (by simp) (fun j u hu => zg w7 _ _ j u hu)
    obtain ⟨z0, z1⟩ := zT (.string s.syms[k].name) (.slice (some ⟨w7.heap.size, 0, none⟩) 1 1) g0 g1
    go_wp2_with fail
    exact bodyPost_ret (v := .agg #[.string s.syms[k].name, .slice (some ⟨w7.heap.size, 0, none⟩) 1 1]) (by simp [results, Tryz.results72, go_sem, z0, z1]) rfl (za1 (t := .mk s.syms[k].name [t]) (by simp only [Tm.size, Tm.sizes]; omega) n0 hrz (fun b hb => by rcases hfz b hb with h | h; omega; have := (hf7.2 b h).1; (try simp at this); omega) (by omega) (hrw6.below hbx) (by omega) (hNw6.trans (Only.below hbx)) (by omega))
end Go.Proofs.YtlefdhhnlbpbkaaGreat
end
