/- Parts of the proof: Rdr7. -/
import Derived.Laws.Concat
import Derived.Deep.LoopGhost
import Derived.Test.YtoehhbkhdddeeaaGreatDoorPf10
import Derived.Test.YtoehhbkhdddeeaaGreatDoorPf18
import Derived.Test.YtoehhbkhdddeeaaGreatDoorPf7
section
namespace Go.Proofs.YtoehhbkhdddeeaaGreatDoor
open Go Go.RowKit
set_option linter.unusedVariables false
set_option linter.unusedSimpArgs false
set_option maxRecDepth 100000
set_option maxHeartbeats 16000000
/-- Words that were drawn: N at most, of A arguments at most. -/
def DrawnSg (w : World) (N A : Nat) (e : Ending) (w' : World) : Prop := ∃ (s : Sg) (vs : List Value) (f : List Nat), s.syms.length ≤ N ∧ (∀ y ∈ s.syms, y.args.length ≤ A) ∧ e = .returned (.agg vs.toArray) ∧ RdVs w' s.cd vs f ∧ ∀ b ∈ f, w.heap.size ≤ b
theorem zP {w w5 : World} {rb p q N A R n : Nat} {ys : List Sy} {a : Option Addr} {c : Nat} {f : List Nat} {u : Value} (hn : ys.length = n) (hl : ys.length ≤ N) (ha : ∀ y ∈ ys, y.args.length ≤ A) (hrd : Rd w5 (.sl (ys.map Sy.cd)) (.slice a n c) f) (hf : ∀ b ∈ f, R < b)
  (hR : w.heap.size ≤ R) (hr : Rdr w5 rb q) (hRr : rb < R) (hN : Only [rb] w w5) (hq : q ≤ p) : DrawnSg w N A (.returned (.agg #[.slice a n c])) (w5.setCell ⟨R, 0, none⟩ u) ∧ Rdr (w5.setCell ⟨R, 0, none⟩ u) rb p ∧ Only [rb] w (w5.setCell ⟨R, 0, none⟩ u) := by
 subst hn
 refine ⟨⟨⟨ys⟩, [.slice a ys.length c], f, hl, ha, rfl, Sg.close (x := ⟨ys⟩) (hrd.same _ (zy (a := ⟨R, 0, none⟩) (fun b hb => by have := hf b hb; show b ≠ R; omega))), fun b hb => by have := hf b hb; omega⟩, (hr.set hRr).mono hq, hN.set_new hR⟩
theorem Only.drewx {w w' : World} {fp : List Nat} (h : Only fp w w') : Only fp w w'.drew := ⟨h.os, h.tape, h.output, h.size, h.block⟩
theorem Rdr.drewx {w : World} {rb p : Nat} (h : Rdr w rb p) : Rdr w.drew rb p := h
theorem take_all {α : Type} {l : List α} {k : Nat} (h : l.length ≤ k) : l.take k = l := List.take_of_length_le h
theorem zbR (N A : Nat) (s : Sg) (vs : List Value) (sf : List Nat) (rb p : Nat) (w : World) (hN : N ≤ 50) (hA : A ≤ 50) (hp : p + 20 ≤ 1000000000) (hsl : s.syms.length ≤ N) (hsa : ∀ y ∈ s.syms, y.args.length ≤ A) (hrd : RdVs w s.cd vs sf) (hnr : rb ∉ sf) (hr : Rdr w rb p) :
  Calls Tryz.prog 19 #[.pointer (some ⟨rb, 0, none⟩), .agg vs.toArray] w fun e w' => DrawnSg w (N + 8) (A + 1) e w' ∧ Rdr w' rb (p + 20) ∧ Only [rb] w w' := by
 obtain ⟨a0, c0, f0, rfl, rfl, m0⟩ := Sg.open hrd
 have hlt := hr.lt
 have hO : Own ((((w.alloc (.cells #[.slice a0 s.syms.length c0] 43)).alloc (.cells #[.slice none 0 0] 43)).alloc (.cells #[] 70)).alloc (.cells #[.slice (some ⟨w.heap.size + 1 + 1, 0, none⟩) 0 0] 43)) (w.heap.size + 1 + 1) 70 3 (.slice (some ⟨w.heap.size + 1 + 1, 0, none⟩) 0 0) [] [] := by
  have h := (Own.empty ((w.alloc (.cells #[.slice a0 s.syms.length c0] 43)).alloc (.cells #[.slice none 0 0] 43)) (w.heap.size + 1 + 1) 70 3 (by simp)).below (za _ (.cells #[.slice (some ⟨w.heap.size + 1 + 1, 0, none⟩) 0 0] 43))
  simp only [World.size_alloc] at h; exact h
 have HO := SgRow.nil (x := (w.heap.size + 1 + 1 + 1)) (m := (w.heap.size + 1 + 1 + 1) + 1) hO (fun g hg => by have h2 : w.heap.size + 1 + 1 = g := Option.some.inj hg; omega)
 go_enter Tryz.func19, Tryz.ntmps19
 go_wp2_with fail
 go_loopw [6] (fun i wr => ∃ (k : Nat) (ov : Value) (fp : List Nat), k ≤ s.syms.length ∧ i = .int .i64 k ∧ SgRow wr (w.heap.size + 1 + 1) (w.heap.size + 1 + 1 + 1) wr.heap.size ov (s.syms.take k) fp ∧ wr.cell? ⟨w.heap.size + 1 + 1 + 1, 0, none⟩ = some ov ∧ wr.frozen? ⟨w.heap.size + 1 + 1 + 1, 0, none⟩ = false ∧ (w.heap.size + 1 + 1 + 1) + 1 ≤ wr.heap.size ∧ Below (w.heap.size + 1 + 1) ((w.alloc (.cells #[.slice a0 s.syms.length c0] 43)).alloc (.cells #[.slice none 0 0] 43)) wr) (fun i _ => s.syms.length - (intOf i).toNat)
 case atStart => exact ⟨0, _, [], Nat.zero_le _, rfl, (by simpa using HO), by simp [go_sem], by simp [go_sem], by simp, ((Below.refl _ _).alloc (by simp) _).alloc (by simp) _⟩
 case round =>
  clear hO HO
  obtain ⟨k, ov, fp, hkl, rfl, hsg, t5, tf5, hz4, hb'⟩ := hrel
  obtain ⟨hx, hy, hz, hb⟩ := box2 hb'
  have x0 : wr.cell? ⟨w.heap.size, 0, none⟩ = some (.slice a0 s.syms.length c0) := hx 0
  have r0 : wr.cell? ⟨w.heap.size + 1, 0, none⟩ = some (.slice none 0 0) := hy 0
  have rf0 := (zH hb' 0).2
  clear hx hy
  by_cases hlk : k < s.syms.length
  ·have m0w := m0.below hb
   obtain ⟨b, off, rfl, hbs, _⟩ := zl m0w (by omega)
   obtain ⟨a1, c1, f1, d0, d1, d2, n0, n1, n2, hsub1⟩ := Sy.at m0w hlk
   have hal := hsa _ (zdT hlk)
   have hOw : Own ((wr.alloc (.cells #[.string s.syms[k].name, .slice a1 s.syms[k].args.length c1, .int .i64 s.syms[k].sort] 70)).alloc (.cells #[] 3)) wr.heap.size 3 1 (.slice (some ⟨wr.heap.size + 1, 0, none⟩) 0 0) [] [] := by
    have h := Own.empty (wr.alloc (.cells #[.string s.syms[k].name, .slice a1 s.syms[k].args.length c1, .int .i64 s.syms[k].sort] 70)) wr.heap.size 3 1 (by simp)
    simp only [World.size_alloc] at h; exact h
   have hba : Below wr.heap.size wr ((wr.alloc (.cells #[.string s.syms[k].name, .slice a1 s.syms[k].args.length c1, .int .i64 s.syms[k].sort] 70)).alloc (.cells #[] 3)) := ((Below.refl _ _).alloc (Nat.le_refl _) _).alloc (by simp) _
   have hlb : b < wr.heap.size := hbs
   go_wp2_with (at_builtin; refine zau zaF rfl _ _ rfl wr.heap.size _ [] [] rfl (by exact hOw) (s.syms[k].args.map zm) _ f1 rfl (by exact n1.below hba) ?k ?na ?bytes ?len ?base ?next)
   case k => simp only [List.mem_map]; rintro e ⟨t, _, rfl⟩; exact zap t
   case na => intro y hy h; have h1 := n1.lt _ y hy; have h2 : wr.heap.size + 1 = y := Option.some.inj h; omega
   case bytes => simp; omega
   case len => simp; omega
   case base => simp; omega
   case next =>
    intro va w1 nfp hnf hown1 hg1 hv1 hs1
    try simp only [List.nil_append] at hown1
    obtain rfl : nfp = [] := by obtain ⟨ys, _, h, _⟩ := hown1; exact zbs _ _ _ _ h
    obtain ⟨a2, c2, hvae, _, _⟩ := hown1.form
    rw [zdX] at hvae
    subst hvae
    have hrow : (Value.slice (some ⟨wr.heap.size + 1, 0, none⟩) 0 0).ownBlock = some (wr.heap.size + 1) := rfl
    have hbw1 := zk hba hg1 (by simp; omega) (fun q hq => by have h2 : wr.heap.size + 1 = q := Option.some.inj hq; omega)
    have hzw1 := hg1.size
    simp only [World.size_alloc] at hzw1
    have e0 : w1.cell? ⟨wr.heap.size, 0, none⟩ = some (.string s.syms[k].name) := zg hg1 (zJ (zj wr _ _ 0 _ rfl)) (by rw [hrow]; simp)
    have e1 : w1.cell? ⟨wr.heap.size, 1, none⟩ = some (.slice a1 s.syms[k].args.length c1) := zg hg1 (zJ (zj wr _ _ 1 _ rfl)) (by rw [hrow]; simp)
    have e2 : w1.cell? ⟨wr.heap.size, 2, none⟩ = some (.int .i64 s.syms[k].sort) := zg hg1 (zJ (zj wr _ _ 2 _ rfl)) (by rw [hrow]; simp)
    have ef : w1.frozen? ⟨wr.heap.size, 1, none⟩ = false := zt hg1 (by simp; omega) ((zh (heap_alloc_old _ _ (by simp))).trans (zan _ _ _ _)) (by rw [hrow]; simp)
    have t51 := zb t5 hbw1
    have tf51 := (zh (hbw1.block _ (by omega))).trans tf5
    have hvne : (Value.slice a2 s.syms[k].args.length c2).ownBlock ≠ some wr.heap.size := fun e => by
     rcases hv1 _ e with h | h
     ·have h2 : wr.heap.size + 1 = wr.heap.size := Option.some.inj h; omega
     ·first | omega | (simp at h; omega)
    have hown2 := (hown1.set_ne (b := wr.heap.size) (j := 1) (u := .slice a2 s.syms[k].args.length c2) (by simp) hvne).below (za _ (.cells #[.string s.syms[k].name, .slice a2 s.syms[k].args.length c2, .int .i64 s.syms[k].sort] 70))
    obtain ⟨f2, hrd2, hf2, _⟩ := hown2.fresh (Fresh.nil _ _)
    have hbU : Below wr.heap.size wr ((w1.setCell ⟨wr.heap.size, 1, none⟩ (.slice a2 s.syms[k].args.length c2)).alloc (.cells #[.string s.syms[k].name, .slice a2 s.syms[k].args.length c2, .int .i64 s.syms[k].sort] 70)) := (hbw1.setCell (by simp) _).alloc (by simp [World.setCell]; omega) _
    have hsgU := hsg.below hbU
    have hovg : ∀ q, ov.ownBlock = some q → w.heap.size + 1 + 1 ≤ q ∧ q ≠ (w.heap.size + 1 + 1 + 1) := fun q hq => ⟨(hsg.own.block hq).1, by obtain ⟨_, _, _, _, _, _, h, _⟩ := hsg; exact (h q hq).2⟩
    have t5U := zb t5 hbU
    have tf5U := (zh (hbU.block _ (by omega))).trans tf5
    have hHU := hbU.size
    have hsU : ((w1.setCell ⟨wr.heap.size, 1, none⟩ (.slice a2 s.syms[k].args.length c2)).alloc (.cells #[.string s.syms[k].name, .slice a2 s.syms[k].args.length c2, .int .i64 s.syms[k].sort] 70)).heap.size = w1.heap.size + 1 := by simp [World.setCell]
    clear hg1 hs1 hown1 hba hOw
    go_wp2_with (at_builtin; refine zco zbk rfl _ _ rfl (w.heap.size + 1 + 1) (w.heap.size + 1 + 1 + 1) wr.heap.size _ (s.syms.take k) fp rfl hsgU ⟨w1.heap.size, 0, none⟩ 1 s.syms[k] (.slice a2 s.syms[k].args.length c2) f2 rfl ?cells n0 n2 (hown2.base (fun q hq => by have := (hown2.block hq).1; omega)) hrd2 hf2 (by omega) (by omega) (by omega) (fun q hq => (hown2.block hq).1) ?bytes ?len ?base ?next)
    case cells => have h := zp (w1.setCell ⟨wr.heap.size, 1, none⟩ (.slice a2 s.syms[k].args.length c2)) [.string s.syms[k].name, .slice a2 s.syms[k].args.length c2, .int .i64 s.syms[k].sort] 70; simpa [World.setCell] using h
    case bytes => rw [List.length_take]; omega
    case len => rw [List.length_take]; omega
    case base => omega
    case next =>
     intro v2 w2 hsg2 hg2 hv2
     obtain ⟨a3, c3, hv2e, _, _⟩ := hsg2.form
     subst hv2e
     have hz2 := hg2.size
     have t52 := zg hg2 t5U (fun e => (hovg _ e).2 rfl)
     have tf52 := zt hg2 (by omega) tf5U (fun e => (hovg _ e).2 rfl)
     have hb2 := zk (hb'.trans (hbU.mono (by omega))) hg2 (by omega) (fun q hq => (hovg q hq).1)
     have hsg3 := hsg2.same (w' := w2.setCell ⟨w.heap.size + 1 + 1 + 1, 0, none⟩ (.slice a3 (s.syms.take k ++ [s.syms[k]]).length c3)) (fun b _ hb _ => Below.heap_setCell _ _ _ _ hb)
     go_wp2_with fail
     go_roundw
     case rel =>
      refine ⟨k + 1, _, fp ++ f2, by omega, by go_num, ?_, World.cell?_setCell_same w2 ⟨w.heap.size + 1 + 1 + 1, 0, none⟩ _ t52, by simp [go_sem, tf52], by simp [World.setCell]; omega, hb2.setCell (by first | omega | simp) _⟩
      rw [zdR hlk]
      simpa [World.setCell] using hsg3
     case measure => simp [intOf]; omega
  ·rw [take_all (by omega)] at hsg
   obtain ⟨oa, oc, hove, ho1, ho2⟩ := hsg.form
   subst hove
   have hr1 := hr.below hb
   have hN1 : Only [rb] w wr := Only.below hb
   obtain ⟨fr, hrr, hrB⟩ := hsg.rd
   clear hrd m0 hr hb hb' hkl
   have hlR : rb < w.heap.size + 1 := by omega
   by_cases hn0 : s.syms.length = 0
   ·have hd0 : ((s.syms.length : Int) == 0) = true := by rw [hn0]; rfl
    have hn0' : s.syms.length ≤ 0 := by omega
    clear hn0
    have z0 := World.cell?_setCell_same wr ⟨w.heap.size + 1, 0, none⟩ (.slice oa s.syms.length oc) r0
    go_wp2_with fail
    refine bodyPost_ret (v := .agg #[.slice oa s.syms.length oc]) (by simp [results, Tryz.results19, go_sem, z0]) rfl ?_
    exact zP (q := p) rfl (by omega) (fun y hy => by have := hsa y hy; omega) hrr (fun b hb => by have := hrB b hb; omega) (by omega) hr1 hlR hN1 (by omega)
   have hd0 : ((s.syms.length : Int) == 0) = false := beq_eq_false_iff_ne.2 (by omega)
   go_wp2_with fail
   refine (zz rb p 8 _ (by omega) (by omega) (by omega) hr1).mono ?_
   rintro e w3 ⟨⟨m, hm, rfl⟩, hr3, ho3⟩
   replace hsg := hsg.only ho3 (by omega)
   replace hrr := hrr.only ho3 (fun h => by have := hrB _ h; omega)
   replace t5 := ho3.cellk t5 (by omega)
   replace r0 := ho3.cellk r0 (by omega)
   replace tf5 := ho3.free tf5 (by omega) (by omega)
   replace rf0 := ho3.free rf0 (by omega) (by omega)
   have hz3 := ho3.size
   replace hN1 := hN1.trans ho3
   clear ho3 hr1
   by_cases hm0 : 0 < m
   ·have z0 := World.cell?_setCell_same w3 ⟨w.heap.size + 1, 0, none⟩ (.slice oa s.syms.length oc) r0
    have hd1 : decide ((0 : Int) < (m : Int)) = true := decide_eq_true (by omega)
    go_wp2_with fail
    refine bodyPost_ret (v := .agg #[.slice oa s.syms.length oc]) (by simp [results, Tryz.results19, go_sem, z0]) rfl ?_
    exact zP rfl (by omega) (fun y hy => by have := hsa y hy; omega) hrr (fun b hb => by have := hrB b hb; omega) (by omega) hr3 hlR hN1 (by omega)
   obtain rfl : m = 0 := by omega
   clear hm hm0
   go_wp2_with fail
   refine (zz rb (p + 1) s.syms.length _ (by omega) (by omega) (by omega) hr3).mono ?_
   rintro e w4 ⟨⟨m, hm, rfl⟩, hr4, ho4⟩
   replace hsg := hsg.only ho4 (by omega)
   replace t5 := ho4.cellk t5 (by omega)
   replace r0 := ho4.cellk r0 (by omega)
   replace tf5 := ho4.free tf5 (by omega) (by omega)
   replace rf0 := ho4.free rf0 (by omega) (by omega)
   have hz4' := ho4.size
   replace hN1 := hN1.trans ho4
   clear ho4 hr3
   go_wp2_with fail
   refine (zz rb (p + 1 + 1) 5 _ (by omega) (by omega) (by omega) hr4).mono ?_
   rintro e W ⟨⟨d, hd, rfl⟩, hr0, ho5⟩
   replace hsg := hsg.only ho5 (by omega)
   replace t5 := ho5.cellk t5 (by omega)
   replace r0 := ho5.cellk r0 (by omega)
   replace tf5 := ho5.free tf5 (by omega) (by omega)
   replace rf0 := ho5.free rf0 (by omega) (by omega)
   have hz5 := ho5.size
   have hNw := hN1.trans ho5
   clear ho5 hr4 hrr hN1
   have hmk : m < s.syms.length := by omega
   obtain ⟨g, c, ga, gc, hve, hgl, hBg, hgx, e0, e1, e2, ef, hva, hvq, n0, n2, ⟨f2, hrd2, hf2B⟩, hput⟩ := hsg.at hmk
   simp only [Value.slice.injEq, true_and] at hve
   obtain ⟨rfl, rfl⟩ := hve
   have hlW := hr0.lt
   have hgrb : rb < g := by omega
   have hfr := hsg.fresh
   have hmi : (m : Int) < (s.syms.length : Int) := by omega
   have hal := hsa _ (zdT hmk)
   have hlset : ∀ (y : Sy), y.args.length ≤ A + 1 → ∀ z ∈ s.syms.set m y, z.args.length ≤ A + 1 := fun y hy z hz => by
    rcases List.mem_or_eq_of_mem_set hz with h | h
    ·have := hsa z h; omega
    ·rw [h]; exact hy
   have hslen : ∀ (y : Sy), (s.syms.set m y).length = s.syms.length := fun y => List.length_set
   have hW5 : (w.heap.size + 1 + 1 + 1) < W.heap.size := by omega
   have hzW : ∀ {X : World}, Only [rb] W X → ∀ b, (w.heap.size + 1 + 1) ≤ b → b < W.heap.size → X.heap[b]? = W.heap[b]? := fun h b hb hl => h.block b hl (by simp; omega)
   by_cases hd1 : d = 0
   ·subst hd1
    go_wp2_with fail
    have hN0 : Only [rb] W W.drew := Only.below (zd W)
    go_region_held3 (fun U => U.cell? ⟨(w.heap.size + 1 + 1 + 1), 0, none⟩ = some (.slice (some ⟨g, 0, none⟩) s.syms.length oc))
     (((repeat (first | with_reducible assumption | with_reducible exact t5 | ((with_reducible refine hN0.cellk t5 ?_); (focus omega)) | ((with_reducible refine hN1.cellk t5 ?_); (focus omega)) | with_reducible refine zaR ?_ | with_reducible refine zJ ?_ | ((with_reducible refine ho1.cellk ?_ ?_); rotate_left; (focus omega)) | ((with_reducible refine (World.cell?_setCell_other _ _ _ _ ?_).trans ?_); (focus (intro e; simp only [Addr.mk.injEq] at e; omega))))); done))
     (first
   | (go_at_call 34; (refine (of_l [⟨#[]⟩, ⟨#[65]⟩, ⟨#[97, 98, 99]⟩, ⟨#[122, 122]⟩, ⟨#[97]⟩] [.string ⟨#[]⟩, .string ⟨#[65]⟩, .string ⟨#[97, 98, 99]⟩, .string ⟨#[122, 122]⟩, .string ⟨#[97]⟩] rfl rb (p + 1 + 1 + 1) _ _ (by omega) (by simp) (by simp) ?_ ?_).mono ?_); (focus ((repeat (first | assumption | with_reducible refine Lst.drew ?_ | ((with_reducible refine Lst.new ?_ _ _); first | exact hlW | omega | (simp; omega)) | ((with_reducible refine Lst.new1 ?_ _ _ _); first | exact hlW | omega | (simp; omega)) | with_reducible refine Lst.alloc ?_ _)); done)); (first | exact hr0 | exact hr0.alloc _ | exact (hr0.alloc _).alloc _); rintro e w1 ⟨⟨nm, hmem, rfl⟩, hr1, ho1⟩; have hN1 : Only [rb] W w1 := (by first | exact hN0.trans ho1 | exact (hN0.alloc _).trans ho1 | exact ((hN0.alloc _).alloc _).trans ho1); have hl1 := hr1.lt; have hsz1 := hN1.size; have hnm : nm.size ≤ maxLen := (by simp at hmem; rcases hmem with rfl | rfl | rfl | rfl | rfl <;> decide); have e01 := hN1.cellk e0 (by omega); have ef1 := hN1.free (ef (m * 3)) hgl (by omega)))
    all_goals
     obtain ⟨f', hrw, hfB⟩ := hput w1 ⟨nm, s.syms[m].args, s.syms[m].sort⟩ ga gc f2 0 (.string nm) (fun b h1 _ _ _ h2 => hzW hN1 b h1 h2) (hzW hN1 g hBg hgl) hnm (hrd2.only hN1 (fun h => by have := (hf2B _ h).1; omega)) (fun b hb => ⟨(hf2B b hb).1, (hf2B b hb).2.1⟩) n2 (by omega) rfl
     have rf0' := hN1.free rf0 (by omega) (by omega)
     have r0' : (w1.setCell ⟨g, m * 3, none⟩ (.string nm)).cell? ⟨w.heap.size + 1, 0, none⟩ = some (.slice none 0 0) := (World.cell?_setCell_other _ _ _ _ (by intro e; simp only [Addr.mk.injEq] at e; omega)).trans (hN1.cellk r0 (by omega))
     have z0 := World.cell?_setCell_same _ ⟨w.heap.size + 1, 0, none⟩ (.slice (some ⟨g, 0, none⟩) s.syms.length oc) r0'
     go_wp2_with fail
     refine bodyPost_ret (v := .agg #[.slice (some ⟨g, 0, none⟩) s.syms.length oc]) (by simp [results, Tryz.results19, go_sem, z0]) rfl ?_
     exact zP (ys := s.syms.set m ⟨nm, s.syms[m].args, s.syms[m].sort⟩) (hslen _) (by rw [hslen]; omega) (hlset _ (by simp only; omega)) hrw (fun b hb => by have := hfB b hb; omega) (by omega) (hr1.set hgrb) hlR ((hNw.trans hN1).set_new (by omega)) (by omega)
   by_cases hd2 : d = 1
   ·subst hd2
    go_wp2_with fail
    refine Till.start (F := (fun U : World => U.cell? ⟨(w.heap.size + 1 + 1 + 1), 0, none⟩ = some (.slice (some ⟨g, 0, none⟩) s.syms.length oc) ∧ U.cell? ⟨g, m * 3 + 1, none⟩ = some (.slice ga s.syms[m].args.length gc))) (s0 := 14) (by kernel_rfl) ?_
    have hF : (fun U : World => U.cell? ⟨(w.heap.size + 1 + 1 + 1), 0, none⟩ = some (.slice (some ⟨g, 0, none⟩) s.syms.length oc) ∧ U.cell? ⟨g, m * 3 + 1, none⟩ = some (.slice ga s.syms[m].args.length gc)) _ := ⟨t5, e1⟩
    refine Till.take (i := 0) (v := (.pointer (some ⟨w.heap.size + 1 + 1 + 1, 0, none⟩))) rfl (by kernel_rfl) (by kernel_rfl) (by kernel_rfl) (fun _ _ _ h => h) (by kernel_rfl) (Or.inl ⟨by rfl, fun U hU => ?_⟩) hF ?_
    ·obtain ⟨u0F, u1F⟩ := hU
     go_simp
    try simp only [Act.put, zdK, zdL, zdM]
    refine Till.take (i := 1) (v := (.slice (some ⟨g, 0, none⟩) s.syms.length oc)) rfl (by kernel_rfl) (by kernel_rfl) (by kernel_rfl) (fun _ _ _ h => h) (by kernel_rfl) (Or.inl ⟨by rfl, fun U hU => ?_⟩) hF ?_
    ·obtain ⟨u0F, u1F⟩ := hU
     go_simp
    try simp only [Act.put, zdK, zdL, zdM]
    refine Till.take (i := 2) (v := (.int .i64 m)) rfl (by kernel_rfl) (by kernel_rfl) (by kernel_rfl) (fun _ _ _ h => h) (by kernel_rfl) (Or.inl ⟨by rfl, fun U hU => ?_⟩) hF ?_
    ·obtain ⟨u0F, u1F⟩ := hU
     go_simp
    try simp only [Act.put, zdK, zdL, zdM]
    refine Till.take (i := 3) (v := (.pointer (some ⟨w.heap.size + 1 + 1 + 1, 0, none⟩))) rfl (by kernel_rfl) (by kernel_rfl) (by kernel_rfl) (fun _ _ _ h => h) (by kernel_rfl) (Or.inl ⟨by rfl, fun U hU => ?_⟩) hF ?_
    ·obtain ⟨u0F, u1F⟩ := hU
     go_simp
    try simp only [Act.put, zdK, zdL, zdM]
    refine Till.take (i := 4) (v := (.slice (some ⟨g, 0, none⟩) s.syms.length oc)) rfl (by kernel_rfl) (by kernel_rfl) (by kernel_rfl) (fun _ _ _ h => h) (by kernel_rfl) (Or.inl ⟨by rfl, fun U hU => ?_⟩) hF ?_
    ·obtain ⟨u0F, u1F⟩ := hU
     go_simp
    try simp only [Act.put, zdK, zdL, zdM]
    refine Till.take (i := 5) (v := (.int .i64 m)) rfl (by kernel_rfl) (by kernel_rfl) (by kernel_rfl) (fun _ _ _ h => h) (by kernel_rfl) (Or.inl ⟨by rfl, fun U hU => ?_⟩) hF ?_
    ·obtain ⟨u0F, u1F⟩ := hU
     go_simp
    try simp only [Act.put, zdK, zdL, zdM]
    refine Till.take (i := 6) (v := (.pointer (some ⟨g, m * 3, none⟩))) rfl (by kernel_rfl) (by kernel_rfl) (by kernel_rfl) (fun _ _ _ h => h) (by kernel_rfl) (Or.inl ⟨by rfl, fun U hU => ?_⟩) hF ?_
    ·obtain ⟨u0F, u1F⟩ := hU
     go_simp
    try simp only [Act.put, zdK, zdL, zdM]
    refine Till.take (i := 7) (v := (.pointer (some ⟨g, m * 3 + 1, none⟩))) rfl (by kernel_rfl) (by kernel_rfl) (by kernel_rfl) (fun _ _ _ h => h) (by kernel_rfl) (Or.inl ⟨by rfl, fun U hU => ?_⟩) hF ?_
    ·obtain ⟨u0F, u1F⟩ := hU
     go_simp
    try simp only [Act.put, zdK, zdL, zdM]
    refine Till.take (i := 8) (v := (.slice ga s.syms[m].args.length gc)) rfl (by kernel_rfl) (by kernel_rfl) (by kernel_rfl) (fun _ _ _ h => h) (by kernel_rfl) (Or.inl ⟨by rfl, fun U hU => ?_⟩) hF ?_
    ·obtain ⟨u0F, u1F⟩ := hU
     go_simp
    try simp only [Act.put, zdK, zdL, zdM]
    refine Till.take (i := 9) (v := (.pointer (some ⟨rb, 0, none⟩))) rfl (by kernel_rfl) (by kernel_rfl) (by kernel_rfl) (fun _ _ _ h => h) (by kernel_rfl) (Or.inl ⟨by rfl, fun U hU => ?_⟩) hF ?_
    ·obtain ⟨u0F, u1F⟩ := hU
     go_simp
    try simp only [Act.put, zdK, zdL, zdM]
    refine Till.one (i := 10) (by kernel_rfl) rfl (fun K hK => ?_)
    go_simp
    refine hK.out _ _ (fun _ => ⟨zJ t5, zJ e1⟩) ?_
    clear hK
    try simp only [Act.put, zdK, zdL, zdM]
    refine Till.one (i := 11) (by kernel_rfl) rfl (fun K hK => ?_)
    go_simp
    go_at_call 11
    refine (num_l [0, 2, -1, 1] [.int .i64 0, .int .i64 2, .int .i64 (-1), .int .i64 1] rfl rb (p + 1 + 1 + 1) _ _ (by omega) (by simp) (by simp) (by exact Lst.new hlW _ _) (by exact hr0.alloc _)).mono ?_
    rintro e w1 ⟨⟨dv, hmem, rfl⟩, hr1, ho1⟩
    have hN1 : Only [rb] W w1 := (Only.below (za W (.cells #[.int .i64 0, .int .i64 2, .int .i64 (-1), .int .i64 1] 3))).trans (Only.undrew ho1)
    have hdv64 : I64 dv := by unfold I64; simp at hmem; omega
    have hl1 := hr1.lt
    have hs1 := hN1.size
    have hva2 := (hva.only hN1 (by omega) (by simp)).below (za w1 (.cells #[.int .i64 dv] 3))
    refine hK.out _ _ (fun _ => ⟨hN1.cellk t5 (by omega), hN1.cellk e1 (by omega)⟩) ?_
    clear hK
    try simp only [Act.put, zdK, zdL, zdM]
    refine Till.one (i := 12) (by kernel_rfl) rfl (fun K hK => ?_)
    go_simp
    refine hK.out _ _ (fun _ => ⟨zJ (hN1.cellk t5 (by omega)), zJ (hN1.cellk e1 (by omega))⟩) ?_
    clear hK
    try simp only [Act.put, zdK, zdL, zdM]
    refine Till.one (i := 13) (by kernel_rfl) rfl (fun K hK => ?_)
    refine zE zaF rfl _ _ rfl (w.heap.size + 1 + 1) _ _ [] rfl (by exact hva2) ⟨w1.heap.size, 0, none⟩ 1 1 [zm dv] [.int .i64 dv] [] rfl rfl (by simpa [zm] using zaC (w := w1.alloc (.cells #[.int .i64 dv] 3)) hdv64) (by simp [zm]) (by exact zp _ _ _) (by simp) (by rw [zdX]; omega) (by rw [zdX]; omega) (by simp; omega) ?_
    intro v' w2 hown2 hg2 hv2 hs2
    obtain ⟨a4, c4, hv4, hk4, _⟩ := hown2.form
    have hl4 : (s.syms[m].args.map zm ++ [zm dv]).length = s.syms[m].args.length + 1 := by simp
    rw [hl4] at hv4
    subst hv4
    have hc5 := zS hN1 hg2 hW5 (by omega) (fun e => (hvq _ e).1 rfl)
    have hcg := zS hN1 hg2 hgl (by omega) (fun e => (hvq _ e).2.1 rfl)
    have x4 := zo hc5 t5
    have e12 := zo hcg e1
    have ef2 := zD hcg (ef (m * 3 + 1))
    refine hK.out _ _ (fun _ => ⟨x4, e12⟩) ?_
    clear hK
    try simp only [Act.put, zdK, zdL, zdM]
    refine Till.one (i := 14) (by kernel_rfl) rfl (fun K hK => ?_)
    go_simp
    refine hK.out _ _ (fun h => absurd h (by decide)) ?_
    clear hK
    try simp only [Act.put, zdK, zdL, zdM]
    refine Till.one (i := 15) (by kernel_rfl) rfl (fun K hK => ?_)
    go_simp
    refine hK.out _ _ (fun h => absurd h (by decide)) ?_
    clear hK
    try simp only [Act.put, zdK, zdL, zdM]
    refine Till.one (i := 16) (by kernel_rfl) rfl (fun K hK => ?_)
    go_simp
    refine hK.out _ _ (fun h => absurd h (by decide)) ?_
    clear hK
    try simp only [Act.put, zdK, zdL, zdM]
    refine Till.done (by kernel_rfl) ?_ _
    all_goals
     have hbn := za w1 (.cells #[.int .i64 dv] 3)
     obtain ⟨f5, hr5, hf5, hi5⟩ := hown2.fresh (Fresh.nil _ _)
     have hf5g : ∀ b ∈ f5, (w.heap.size + 1 + 1) ≤ b ∧ b ≠ g := fun b hb => ⟨(hf5.2 b hb).1, fun e => by
      rcases hi5 b hb with h | h
      ·simp at h
      ·rcases hv2 b h with h1 | h1
       ·exact (hvq b h1).2.1 e
       ·simp at h1; omega⟩
     have hrq : ∀ q, (Value.slice ga s.syms[m].args.length gc).ownBlock = some q → (w.heap.size + 1 + 1) ≤ q := fun q hq => (hva.block hq).1
     obtain ⟨f', hrw, hfB⟩ := hput w2 ⟨s.syms[m].name, s.syms[m].args ++ [dv], s.syms[m].sort⟩ a4 c4 f5 1 (.slice a4 (s.syms[m].args.length + 1) c4) (fun b h1 h2 h3 h4 h5 => zS hN1 hg2 h5 (by omega) h4) (zS hN1 hg2 hgl (by omega) (fun e => (hvq _ e).2.1 rfl)) n0 (by rw [zdV, zdU]; exact hr5) hf5g n2 (by omega) (by simp)
     have hcR := zS hN1 hg2 (b := w.heap.size + 1) (by omega) (by omega) (fun e => by have := hrq _ e; omega)
     have rf0' := zD hcR rf0
     have r0' : (w2.setCell ⟨g, m * 3 + 1, none⟩ (.slice a4 (s.syms[m].args.length + 1) c4)).cell? ⟨w.heap.size + 1, 0, none⟩ = some (.slice none 0 0) := (World.cell?_setCell_other _ _ _ _ (by intro e; simp only [Addr.mk.injEq] at e; omega)).trans (zo hcR r0)
     have z0 := World.cell?_setCell_same _ ⟨w.heap.size + 1, 0, none⟩ (.slice (some ⟨g, 0, none⟩) s.syms.length oc) r0'
     have hr2 := (hr1.alloc (.cells #[.int .i64 dv] 3)).grown hg2 (fun q hq => by have := hrq q hq; omega)
     have hN2 := ((hNw.trans hN1).alloc (.cells #[.int .i64 dv] 3)).grown hg2 (fun q hq => by have := hrq q hq; omega)
     go_wp2_with fail
     refine bodyPost_ret (v := .agg #[.slice (some ⟨g, 0, none⟩) s.syms.length oc]) (by simp [results, Tryz.results19, go_sem, z0]) rfl ?_
     exact zP (ys := s.syms.set m ⟨s.syms[m].name, s.syms[m].args ++ [dv], s.syms[m].sort⟩) (hslen _) (by rw [hslen]; omega) (hlset _ (by simp; omega)) hrw (fun b hb => by have := hfB b hb; omega) (by omega) (hr2.set hgrb) hlR (hN2.set_new (by omega)) (by omega)
   by_cases hd3 : d = 2
   ·subst hd3
    go_wp2_with fail
    have hN0 : Only [rb] W W.drew := Only.below (zd W)
    go_region_held3 (fun U => U.cell? ⟨(w.heap.size + 1 + 1 + 1), 0, none⟩ = some (.slice (some ⟨g, 0, none⟩) s.syms.length oc))
     (((repeat (first | with_reducible assumption | with_reducible exact t5 | ((with_reducible refine hN0.cellk t5 ?_); (focus omega)) | ((with_reducible refine hN1.cellk t5 ?_); (focus omega)) | with_reducible refine zaR ?_ | with_reducible refine zJ ?_ | ((with_reducible refine ho1.cellk ?_ ?_); rotate_left; (focus omega)) | ((with_reducible refine (World.cell?_setCell_other _ _ _ _ ?_).trans ?_); (focus (intro e; simp only [Addr.mk.injEq] at e; omega))))); done))
     (first
   | (go_at_call 11; (refine (num_l [1, 2, -1, 0] [.int .i64 1, .int .i64 2, .int .i64 (-1), .int .i64 0] rfl rb (p + 1 + 1 + 1) _ _ (by omega) (by simp) (by simp) ?_ ?_).mono ?_); (focus ((repeat (first | assumption | with_reducible refine Lst.drew ?_ | ((with_reducible refine Lst.new ?_ _ _); first | exact hlW | omega | (simp; omega)) | ((with_reducible refine Lst.new1 ?_ _ _ _); first | exact hlW | omega | (simp; omega)) | with_reducible refine Lst.alloc ?_ _)); done)); (first | exact hr0 | exact hr0.alloc _ | exact (hr0.alloc _).alloc _); rintro e w1 ⟨⟨dv, hmem, rfl⟩, hr1, ho1⟩; have hN1 : Only [rb] W w1 := (by first | exact hN0.trans ho1 | exact (hN0.alloc _).trans ho1 | exact ((hN0.alloc _).alloc _).trans ho1); have hl1 := hr1.lt; have hsz1 := hN1.size; have hdv64 : I64 dv := (by unfold I64; simp at hmem; omega); have e21 := hN1.cellk e2 (by omega); have ef1 := hN1.free (ef (m * 3 + 2)) hgl (by omega)))
    all_goals
     obtain ⟨f', hrw, hfB⟩ := hput w1 ⟨s.syms[m].name, s.syms[m].args, dv⟩ ga gc f2 2 (.int .i64 dv) (fun b h1 _ _ _ h2 => hzW hN1 b h1 h2) (hzW hN1 g hBg hgl) n0 (hrd2.only hN1 (fun h => by have := (hf2B _ h).1; omega)) (fun b hb => ⟨(hf2B b hb).1, (hf2B b hb).2.1⟩) hdv64 (by omega) rfl
     have rf0' := hN1.free rf0 (by omega) (by omega)
     have r0' : (w1.setCell ⟨g, m * 3 + 2, none⟩ (.int .i64 dv)).cell? ⟨w.heap.size + 1, 0, none⟩ = some (.slice none 0 0) := (World.cell?_setCell_other _ _ _ _ (by intro e; simp only [Addr.mk.injEq] at e; omega)).trans (hN1.cellk r0 (by omega))
     have z0 := World.cell?_setCell_same _ ⟨w.heap.size + 1, 0, none⟩ (.slice (some ⟨g, 0, none⟩) s.syms.length oc) r0'
     go_wp2_with fail
     refine bodyPost_ret (v := .agg #[.slice (some ⟨g, 0, none⟩) s.syms.length oc]) (by simp [results, Tryz.results19, go_sem, z0]) rfl ?_
     exact zP (ys := s.syms.set m ⟨s.syms[m].name, s.syms[m].args, dv⟩) (hslen _) (by rw [hslen]; omega) (hlset _ (by simp only; omega)) hrw (fun b hb => by have := hfB b hb; omega) (by omega) (hr1.set hgrb) hlR ((hNw.trans hN1).set_new (by omega)) (by omega)
   have hnfx := hsg.notx
   by_cases hd4 : d = 3
   ·subst hd4
    have hownA := (hsg.own.below (za W (.cells #[.string s.syms[m].name, .slice ga s.syms[m].args.length gc, .int .i64 s.syms[m].sort] 70))).below (zd _)
    have hrdA := ((Sy.close n0 hrd2 n2).below (za W (.cells #[.string s.syms[m].name, .slice ga s.syms[m].args.length gc, .int .i64 s.syms[m].sort] 70))).below (zd _)
    go_wp2_with fail
    refine Till.start (F := (fun U : World => U.cell? ⟨(w.heap.size + 1 + 1 + 1), 0, none⟩ = some (.slice (some ⟨g, 0, none⟩) s.syms.length oc))) (s0 := 9) (by kernel_rfl) ?_
    have hF : (fun U : World => U.cell? ⟨(w.heap.size + 1 + 1 + 1), 0, none⟩ = some (.slice (some ⟨g, 0, none⟩) s.syms.length oc)) _ := t5
    refine Till.take (i := 0) (v := (.pointer (some ⟨w.heap.size + 1 + 1 + 1, 0, none⟩))) rfl (by kernel_rfl) (by kernel_rfl) (by kernel_rfl) (fun _ _ _ h => h) (by kernel_rfl) (Or.inl ⟨by rfl, fun U hU => ?_⟩) hF ?_
    ·have u0F := hU
     go_simp
    try simp only [Act.put, zdK, zdL, zdM]
    refine Till.take (i := 1) (v := (.slice (some ⟨g, 0, none⟩) s.syms.length oc)) rfl (by kernel_rfl) (by kernel_rfl) (by kernel_rfl) (fun _ _ _ h => h) (by kernel_rfl) (Or.inl ⟨by rfl, fun U hU => ?_⟩) hF ?_
    ·have u0F := hU
     go_simp
    try simp only [Act.put, zdK, zdL, zdM]
    refine Till.take (i := 2) (v := (.pointer (some ⟨w.heap.size + 1 + 1 + 1, 0, none⟩))) rfl (by kernel_rfl) (by kernel_rfl) (by kernel_rfl) (fun _ _ _ h => h) (by kernel_rfl) (Or.inl ⟨by rfl, fun U hU => ?_⟩) hF ?_
    ·have u0F := hU
     go_simp
    try simp only [Act.put, zdK, zdL, zdM]
    refine Till.take (i := 3) (v := (.slice (some ⟨g, 0, none⟩) s.syms.length oc)) rfl (by kernel_rfl) (by kernel_rfl) (by kernel_rfl) (fun _ _ _ h => h) (by kernel_rfl) (Or.inl ⟨by rfl, fun U hU => ?_⟩) hF ?_
    ·have u0F := hU
     go_simp
    try simp only [Act.put, zdK, zdL, zdM]
    refine Till.take (i := 4) (v := (.int .i64 m)) rfl (by kernel_rfl) (by kernel_rfl) (by kernel_rfl) (fun _ _ _ h => h) (by kernel_rfl) (Or.inl ⟨by rfl, fun U hU => ?_⟩) hF ?_
    ·have u0F := hU
     go_simp
    try simp only [Act.put, zdK, zdL, zdM]
    refine Till.take (i := 5) (v := (.pointer (some ⟨g, m * 3, none⟩))) rfl (by kernel_rfl) (by kernel_rfl) (by kernel_rfl) (fun _ _ _ h => h) (by kernel_rfl) (Or.inl ⟨by rfl, fun U hU => ?_⟩) hF ?_
    ·have u0F := hU
     go_simp
    try simp only [Act.put, zdK, zdL, zdM]
    refine Till.one (i := 6) (by kernel_rfl) rfl (fun K hK => ?_)
    go_simp
    refine hK.out _ _ (fun _ => t5) ?_
    clear hK
    try simp only [Act.put, zdK, zdL, zdM]
    refine Till.one (i := 7) (by kernel_rfl) rfl (fun K hK => ?_)
    go_simp
    refine hK.out _ _ (fun _ => zJ t5) ?_
    clear hK
    try simp only [Act.put, zdK, zdL, zdM]
    refine Till.one (i := 8) (by kernel_rfl) rfl (fun K hK => ?_)
    refine zE zbk rfl _ _ rfl (w.heap.size + 1 + 1) _ _ fp rfl (by exact hownA) ⟨W.heap.size, 0, none⟩ 1 1 [s.syms[m].cd] [.string s.syms[m].name, .slice ga s.syms[m].args.length gc, .int .i64 s.syms[m].sort] f2 rfl rfl (by simpa using hrdA) (by simp [Sy.cd_len]) (by exact zp _ _ _) (fun y hy e => (hf2B y hy).2.1 (Option.some.inj e).symm) (by rw [zdX]; omega) (by rw [zdX]; omega) (by simp; omega) ?_
    intro v' w2 hown2 hg2 hv2 hs2
    obtain ⟨a4, c4, hv4, hk4, _⟩ := hown2.form
    have hl4 : (s.syms.map Sy.cd ++ [s.syms[m].cd]).length = s.syms.length + 1 := by simp
    rw [hl4] at hv4
    subst hv4
    have hc5 := (hg2.block (w.heap.size + 1 + 1 + 1) (by simp; omega) (fun e => hgx (Option.some.inj e).symm)).trans (heap_alloc_old W (.cells #[.string s.syms[m].name, .slice ga s.syms[m].args.length gc, .int .i64 s.syms[m].sort] 70) hW5)
    have t52 := zo hc5 t5
    have tf52 := zD hc5 tf5
    refine hK.out _ _ (fun _ => t52) ?_
    clear hK
    try simp only [Act.put, zdK, zdL, zdM]
    refine Till.one (i := 9) (by kernel_rfl) rfl (fun K hK => ?_)
    go_simp
    refine hK.out _ _ (fun h => absurd h (by decide)) ?_
    clear hK
    try simp only [Act.put, zdK, zdL, zdM]
    refine Till.one (i := 10) (by kernel_rfl) rfl (fun K hK => ?_)
    go_simp
    refine hK.out _ _ (fun h => absurd h (by decide)) ?_
    clear hK
    try simp only [Act.put, zdK, zdL, zdM]
    refine Till.done (by kernel_rfl) ?_ _
    all_goals
     obtain ⟨f', hrw, hff⟩ := hown2.rd
     have hfB : ∀ b ∈ f', (w.heap.size + 1 + 1) ≤ b ∧ b ≠ (w.heap.size + 1 + 1 + 1) := fun b hb => by
      rcases hff with ⟨_, _, rfl⟩ | ⟨b', _, hvb, rfl, _, hBb, _⟩
      ·simp at hb
      ·rcases zdW.1 hb with rfl | hb
       ·refine ⟨hBb, fun e => ?_⟩
        rcases hv2 _ hvb with h | h
        ·exact hgx ((Option.some.inj h).trans e)
        ·simp at h; omega
       ·rcases zdS.1 hb with hb | hb
        ·exact hnfx b hb
        ·exact ⟨(hf2B b hb).1, (hf2B b hb).2.2⟩
     have hcR := (hg2.block (w.heap.size + 1) (by simp; omega) (fun e => by have h : w.heap.size + 1 = g := Option.some.inj e; omega)).trans (heap_alloc_old W (.cells #[.string s.syms[m].name, .slice ga s.syms[m].args.length gc, .int .i64 s.syms[m].sort] 70) (by omega))
     have rf0' := zD hcR rf0
     have r0' : (w2.setCell ⟨w.heap.size + 1 + 1 + 1, 0, none⟩ (.slice a4 (s.syms.length + 1) c4)).cell? ⟨w.heap.size + 1, 0, none⟩ = some (.slice none 0 0) := (World.cell?_setCell_other _ _ _ _ (by intro e; simp only [Addr.mk.injEq] at e; omega)).trans (zo hcR r0)
     have u5 := World.cell?_setCell_same w2 ⟨w.heap.size + 1 + 1 + 1, 0, none⟩ (.slice a4 (s.syms.length + 1) c4) t52
     have z0 := World.cell?_setCell_same _ ⟨w.heap.size + 1, 0, none⟩ (.slice a4 (s.syms.length + 1) c4) r0'
     have hr2 := (hr0.alloc (.cells #[.string s.syms[m].name, .slice ga s.syms[m].args.length gc, .int .i64 s.syms[m].sort] 70)).drewx.grown hg2 (fun q hq => by have h : g = q := Option.some.inj hq; omega)
     have hN2 := (hNw.alloc (.cells #[.string s.syms[m].name, .slice ga s.syms[m].args.length gc, .int .i64 s.syms[m].sort] 70)).drewx.grown hg2 (fun q hq => by have h : g = q := Option.some.inj hq; omega)
     rw [show s.syms.map Sy.cd ++ [s.syms[m].cd] = (s.syms ++ [s.syms[m]]).map Sy.cd from by simp] at hrw
     go_wp2_with fail
     refine bodyPost_ret (v := .agg #[.slice a4 (s.syms.length + 1) c4]) (by simp [results, Tryz.results19, go_sem, z0]) rfl ?_
     exact zP (ys := s.syms ++ [s.syms[m]]) (by simp) (by simp; omega) (fun y hy => by rcases zdS.1 hy with h | h; have := hsa y h; omega; rw [List.mem_singleton.1 h]; omega) (hrw.same _ (zy (a := ⟨w.heap.size + 1 + 1 + 1, 0, none⟩) (fun b hb => (hfB b hb).2))) (fun b hb => by have := (hfB b hb).1; omega) (by omega) (hr2.set (by omega)) hlR (hN2.set_new (by omega)) (by omega)
   have hOw := hsg.own
   have hnr5 : (Value.slice (some ⟨g, 0, none⟩) s.syms.length oc).ownBlock ≠ some (w.heap.size + 1 + 1 + 1) := fun e => hgx (Option.some.inj e)
   have hb0 : ((d : Int) == 0) = false := beq_eq_false_iff_ne.2 (by omega)
   have hb1 : ((d : Int) == 1) = false := beq_eq_false_iff_ne.2 (by omega)
   have hb2 : ((d : Int) == 2) = false := beq_eq_false_iff_ne.2 (by omega)
   have hb3 : ((d : Int) == 3) = false := beq_eq_false_iff_ne.2 (by omega)
   clear hd1 hd2 hd3 hd4
   clear hput hrd2 e0 e1 e2 ef hva hvq hsg
   go_wp2_with fail
   go_loopg [] 8 (fun gk wr => ∃ (es : List Sy) (v : Value) (fq : List Nat), gk ≤ 8 ∧ 8 ≤ es.length + gk ∧ es.length + gk ≤ N + 8 ∧ (∀ y ∈ es, y.args.length ≤ A) ∧ Own wr (w.heap.size + 1 + 1) 70 3 v (es.map Sy.cd) fq ∧ (∀ b ∈ fq, (w.heap.size + 1 + 1) ≤ b ∧ b ≠ (w.heap.size + 1 + 1 + 1)) ∧ v.ownBlock ≠ some (w.heap.size + 1 + 1 + 1) ∧ wr.cell? ⟨w.heap.size + 1 + 1 + 1, 0, none⟩ = some v ∧ Rdr wr rb (p + 11 - gk) ∧ (w.heap.size + 1 + 1 + 1) < wr.heap.size ∧
    wr.frozen? ⟨w.heap.size + 1 + 1 + 1, 0, none⟩ = false ∧ wr.cell? ⟨w.heap.size + 1, 0, none⟩ = some (.slice none 0 0) ∧ wr.frozen? ⟨w.heap.size + 1, 0, none⟩ = false ∧ Only [rb] w wr)
   case atStart => exact ⟨s.syms, _, fp, by omega, by omega, by omega, hsa, hOw, hnfx, hnr5, t5, hr0.mono (by omega), hW5, tf5, r0, rf0, hNw⟩
   case round =>
    clear t5 tf5 r0 rf0 hNw hr0 hOw hnfx hnr5 hlW hgl hW5 hzW
    obtain ⟨es, v, fq, hk8, hel, heu, hea, hown, hfq, hvn, t5, hr0, hW5, tf5, r0, rf0, hNw⟩ := hrel
    have hlW := hr0.lt
    obtain ⟨va, vc, hve, hvc1, hvc2⟩ := hown.form
    rw [zdX] at hve hvc1
    subst hve
    by_cases he7 : es.length ≤ 7
    ·have hde : decide ((es.length : Int) ≤ 7) = true := decide_eq_true (by omega)
     go_wp2_with fail
     refine Till.start (F := (fun U : World => U.cell? ⟨(w.heap.size + 1 + 1 + 1), 0, none⟩ = some (.slice va es.length vc))) (s0 := 9) (by kernel_rfl) ?_
     have hF : (fun U : World => U.cell? ⟨(w.heap.size + 1 + 1 + 1), 0, none⟩ = some (.slice va es.length vc)) _ := t5
     refine Till.take (i := 0) (v := (.pointer (some ⟨w.heap.size + 1 + 1 + 1, 0, none⟩))) rfl (by kernel_rfl) (by kernel_rfl) (by kernel_rfl) (fun _ _ _ h => h) (by kernel_rfl) (Or.inl ⟨by rfl, fun U hU => ?_⟩) hF ?_
     ·have u0F := hU
      go_simp
     try simp only [Act.put, zdK, zdL, zdM]
     refine Till.take (i := 1) (v := (.slice va es.length vc)) rfl (by kernel_rfl) (by kernel_rfl) (by kernel_rfl) (fun _ _ _ h => h) (by kernel_rfl) (Or.inl ⟨by rfl, fun U hU => ?_⟩) hF ?_
     ·have u0F := hU
      go_simp
     try simp only [Act.put, zdK, zdL, zdM]
     refine Till.take (i := 2) (v := (.pointer (some ⟨rb, 0, none⟩))) rfl (by kernel_rfl) (by kernel_rfl) (by kernel_rfl) (fun _ _ _ h => h) (by kernel_rfl) (Or.inl ⟨by rfl, fun U hU => ?_⟩) hF ?_
     ·have u0F := hU
      go_simp
     try simp only [Act.put, zdK, zdL, zdM]
     refine Till.one (i := 3) (by kernel_rfl) rfl (fun K hK => ?_)
     go_simp
     refine hK.out _ _ (fun _ => zJ t5) ?_
     clear hK
     try simp only [Act.put, zdK, zdL, zdM]
     refine Till.one (i := 4) (by kernel_rfl) rfl (fun K hK => ?_)
     go_simp
     go_at_call 34
     refine (of_l [⟨#[97]⟩, ⟨#[98]⟩, ⟨#[122]⟩] [.string ⟨#[97]⟩, .string ⟨#[98]⟩, .string ⟨#[122]⟩] rfl rb (p + 11 - gk) _ _ (by omega) (by simp) (by simp) (by exact Lst.new hlW _ _) (by exact hr0.alloc _)).mono ?_
     rintro e w1 ⟨⟨nm, hmem, rfl⟩, hr1, ho1⟩
     have hN1 : Only [rb] wr w1 := (Only.below (za wr (.cells #[.string ⟨#[97]⟩, .string ⟨#[98]⟩, .string ⟨#[122]⟩] 9))).trans (Only.undrew ho1)
     have hnm : nm.size ≤ 1 := by simp at hmem; rcases hmem with rfl | rfl | rfl <;> decide
     have hs1 : (⟨#[122]⟩ : ByteArray).size = 1 := rfl
     obtain ⟨zn, hadd, hzn⟩ : ∃ zn : ByteArray, (∀ U, (Op.stringOp .add ⟨#[122]⟩ nm).run Tryz.prog U = .ok (.string zn) U) ∧ zn.size ≤ 2 := ⟨_, fun U => run_string_add_sum (w := U) _ _ (by omega), by rw [ByteArray.size_append]; omega⟩
     have hns : ¬ ((⟨#[122]⟩ : ByteArray).size + nm.size > 9223372036854775807) := by omega
     have hl1 := hr1.lt
     have hz1 := hN1.size
     have hown2 := (hown.only hN1 (by omega) (fun h => by have := (hfq _ h).1; omega)).below (za w1 (.cells #[.string zn, .slice none 0 0, .int .i64 0] 70))
     clear hmem
     refine hK.out _ _ (fun _ => hN1.cellk t5 (by omega)) ?_
     clear hK
     try simp only [Act.put, zdK, zdL, zdM]
     refine Till.one (i := 5) (by kernel_rfl) rfl (fun K hK => ?_)
     go_simp
     refine hK.out _ _ (fun _ => hN1.cellk t5 (by omega)) ?_
     clear hK
     try simp only [Act.put, zdK, zdL, zdM]
     refine Till.one (i := 6) (by kernel_rfl) rfl (fun K hK => ?_)
     go_simp
     refine hK.out _ _ (fun _ => hN1.cellk t5 (by omega)) ?_
     clear hK
     try simp only [Act.put, zdK, zdL, zdM]
     refine Till.one (i := 7) (by kernel_rfl) rfl (fun K hK => ?_)
     go_simp
     refine hK.out _ _ (fun _ => zJ (hN1.cellk t5 (by omega))) ?_
     clear hK
     try simp only [Act.put, zdK, zdL, zdM]
     refine Till.one (i := 8) (by kernel_rfl) rfl (fun K hK => ?_)
     refine zE zbk rfl _ _ rfl (w.heap.size + 1 + 1) _ _ fq rfl (by exact hown2) ⟨w1.heap.size, 0, none⟩ 1 1 [(⟨zn, [], 0⟩ : Sy).cd] [.string zn, .slice none 0 0, .int .i64 0] [] rfl rfl (by simpa using sym0 (w1.alloc (.cells #[.string zn, .slice none 0 0, .int .i64 0] 70)) zn 0 (by omega) (by omega)) (by simp [Sy.cd_len]) (by exact zp _ _ _) (by simp) (by rw [zdX]; omega) (by rw [zdX]; omega) (by simp; omega) ?_
     intro v' w2 hown3 hg2 hv2 hs2
     obtain ⟨a4, c4, hv4, hk4, _⟩ := hown3.form
     have hl4 : (es.map Sy.cd ++ [(⟨zn, [], 0⟩ : Sy).cd]).length = es.length + 1 := by simp
     rw [hl4] at hv4
     subst hv4
     have hvB : ∀ q, (Value.slice va es.length vc).ownBlock = some q → w.heap.size + 1 + 1 ≤ q := fun q hq => (hown.block hq).1
     have hc5 := zS hN1 hg2 hW5 (by omega) hvn
     have hcR := zS hN1 hg2 (b := w.heap.size + 1) (by omega) (by omega) (fun e => by have := hvB _ e; omega)
     have t52 := zo hc5 t5
     have tf52 := zD hc5 tf5
     have r02 := zo hcR r0
     have rf02 := zD hcR rf0
     have hr2 := (hr1.alloc (.cells #[.string zn, .slice none 0 0, .int .i64 0] 70)).grown hg2 (fun q hq => by have := hvB q hq; omega)
     have hN2 := ((hNw.trans hN1).alloc (.cells #[.string zn, .slice none 0 0, .int .i64 0] 70)).grown hg2 (fun q hq => by have := hvB q hq; omega)
     have hzg := hg2.size
     rw [World.size_alloc] at hzg
     have hvn2 : (Value.slice a4 (es.length + 1) c4).ownBlock ≠ some (w.heap.size + 1 + 1 + 1) := fun e => by
      rcases hv2 _ e with h | h
      ·exact hvn h
      ·rw [World.size_alloc] at h; omega
     refine hK.out _ _ (fun _ => t52) ?_
     clear hK
     try simp only [Act.put, zdK, zdL, zdM]
     refine Till.one (i := 9) (by kernel_rfl) rfl (fun K hK => ?_)
     go_simp
     refine hK.out _ _ (fun h => absurd h (by decide)) ?_
     clear hK
     try simp only [Act.put, zdK, zdL, zdM]
     refine Till.one (i := 10) (by kernel_rfl) rfl (fun K hK => ?_)
     go_simp
     refine hK.out _ _ (fun h => absurd h (by decide)) ?_
     clear hK
     try simp only [Act.put, zdK, zdL, zdM]
     refine Till.done (by kernel_rfl) ?_ _
     go_wp2_with fail
     go_roundg (gk - 1)
     case measure => omega
     case rel =>
      refine ⟨es ++ [⟨zn, [], 0⟩], _, fq ++ [], by omega, by simp; omega, by simp; omega, fun y hy => ?_, by rw [zdV]; exact hown3.set_ne (by simpa using fun h => (hfq _ h).2 rfl) hvn2, by simpa using hfq, hvn2, World.cell?_setCell_same w2 ⟨w.heap.size + 1 + 1 + 1, 0, none⟩ _ t52, (hr2.set (by omega)).mono (by omega), by simp [World.setCell]; omega, by simp [go_sem, tf52], (World.cell?_setCell_other _ _ _ _ (by intro e; simp only [Addr.mk.injEq] at e; omega)).trans r02, by simp [go_sem, rf02], hN2.set_new (by omega)⟩
      rcases zdS.1 hy with h | h
      ·exact hea y h
      ·rw [List.mem_singleton.1 h]; simp
    ·have hde : decide ((es.length : Int) ≤ 7) = false := decide_eq_false (by omega)
     have z0 := World.cell?_setCell_same wr ⟨w.heap.size + 1, 0, none⟩ (.slice va es.length vc) r0
     obtain ⟨f', hrw, hff⟩ := hown.rd
     have hfB : ∀ b ∈ f', (w.heap.size + 1 + 1) ≤ b := fun b hb => by
      rcases hff with ⟨_, _, rfl⟩ | ⟨b', _, hvb, rfl, _, hBb, _⟩
      ·simp at hb
      ·rcases zdW.1 hb with rfl | hb
       ·exact hBb
       ·exact (hfq b hb).1
     go_wp2_with fail
     refine bodyPost_ret (v := .agg #[.slice va es.length vc]) (by simp [results, Tryz.results19, go_sem, z0]) rfl ?_
     exact zP (ys := es) rfl (by omega) (fun y hy => by have := hea y hy; omega) hrw (fun b hb => by have := hfB b hb; omega) (by omega) hr0 hlR hNw (by omega)
end Go.Proofs.YtoehhbkhdddeeaaGreatDoor
end
