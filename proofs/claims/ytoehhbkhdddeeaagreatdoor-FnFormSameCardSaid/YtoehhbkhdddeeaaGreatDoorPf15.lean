/- Parts of the proof: RdrW. -/
import Derived.Deep.RegionHeld3
import Derived.Deep.CutRange
import Derived.Test.YtoehhbkhdddeeaaGreatDoorPf10
import Derived.Test.YtoehhbkhdddeeaaGreatDoorPf14
import Derived.Test.YtoehhbkhdddeeaaGreatDoorPf8
section
namespace Go.Proofs.YtoehhbkhdddeeaaGreatDoor
open Go Go.RowKit
set_option linter.unusedVariables false
set_option linter.unusedSimpArgs false
set_option maxRecDepth 100000
set_option maxHeartbeats 16000000
mutual
/-- Right names are short. -/
theorem zbu : ∀ (t : Tm) (d : Int), Tm.shape t d = true → wtV t.cd + 1 ≤ 3 * t.size
 | .mk n ks, d, h => by
  rw [Tm.shape_eq] at h
  simp only [Tm.name, Tm.kids, zdY, decide_eq_true_eq] at h
  have hk := zdc ks (d - 1) (by first | exact h.2 | exact h.2.2 | exact h.2.2.2)
  have hn : n.size ≤ 2 := by
   have h1 : zO n = true := by first | exact h.1.1.2 | exact h.1.2.1 | exact h.2.1 | exact h.1.2 | exact h.1.1
   simp only [zO, zdY, decide_eq_true_eq] at h1
   omega
  rw [Tm.wtV_eq, Tm.size_eq]
  simp only [Tm.name, Tm.kids]
  omega
theorem zdc : ∀ (ts : List Tm) (d : Int), Tm.shapes ts d = true → ts.length + wtR (ts.map Tm.cd) ≤ 3 * Tm.sizes ts
 | [], _, _ => by simp [wtR, Tm.sizes]
 | t :: ts, d, h => by
  simp only [Tm.shapes, zdY] at h
  have h1 := zbu t d h.1
  have h2 := zdc ts d h.2
  simp only [List.map_cons, zaw, List.length_cons, Tm.sizes]
  omega
end
theorem wt_name (t : Tm) (nm : ByteArray) : wtV (Tm.mk nm t.kids).cd ≤ wtV t.cd + nm.size := by
 rw [Tm.wtV_eq, Tm.wtV_eq t]
 show nm.size + (t.kids.length + wtR (t.kids.map Tm.cd)) ≤ _
 omega
theorem wt_more (t : Tm) (ns : List Tm) : wtV (Tm.mk t.name (t.kids ++ ns)).cd = wtV t.cd + (ns.length + wtR (ns.map Tm.cd)) := by
 rw [Tm.wtV_eq, Tm.wtV_eq t]
 show t.name.size + ((t.kids ++ ns).length + wtR ((t.kids ++ ns).map Tm.cd)) = _
 rw [zdV, zah, zdU]; omega
/-- A drawn term, its weight. -/
def DrawnTw (w : World) (cap : Nat) (e : Ending) (w' : World) : Prop := ∃ (t : Tm) (kv : Value) (fp : List Nat), (t.size ≤ cap ∧ wtV t.cd ≤ 5 * cap) ∧ e = .returned (.agg #[.string t.name, kv]) ∧ t.name.size ≤ maxLen ∧ Own w' w.heap.size 25 2 kv (t.kids.map Tm.cd) fp ∧ Fresh w.heap.size w' fp
theorem zaG {w w5 : World} {rb p q cap R base : Nat} {t : Tm} {kv u v : Value} {fp : List Nat} (hsz : t.size ≤ cap ∧ wtV t.cd ≤ 5 * cap) (hnm : t.name.size ≤ maxLen) (hown : Own w5 base 25 2 kv (t.kids.map Tm.cd) fp) (hfr : Fresh base w5 fp)
  (hR : w.heap.size ≤ R) (hRb : R < base) (hr : Rdr w5 rb q) (hRr : rb < R) (hN : Only [rb] w w5) (hq : q ≤ p) :
  DrawnTw w cap (.returned (.agg #[.string t.name, kv])) ((w5.setCell ⟨R, 0, none⟩ u).setCell ⟨R, 1, none⟩ v) ∧ Rdr ((w5.setCell ⟨R, 0, none⟩ u).setCell ⟨R, 1, none⟩ v) rb p ∧ Only [rb] w ((w5.setCell ⟨R, 0, none⟩ u).setCell ⟨R, 1, none⟩ v) := by
 have hn := hfr.notin hRb
 refine ⟨⟨t, kv, fp, hsz, rfl, hnm, ?_, ?_⟩, ((hr.set hRr).set hRr).mono hq, (hN.set_new hR).set_new hR⟩
 ·exact ((hown.set_row hRb hn).set_row hRb hn).base (fun q hq => by have := (hown.block hq).1; omega)
 ·exact (hfr.same (zai (hfr.ne hRb))).mono (by omega)
/-- A variable of the call's own, that holds a drawn term. -/
def VarTw (rb B : Nat) (v : Value) (w : World) : Prop := ∃ (bt : Nat) (t : Tm) (ka : Option Addr) (kc base : Nat) (fo : List Nat), v = .pointer (some ⟨bt, 0, none⟩) ∧ (t.size ≤ 15 ∧ wtV t.cd ≤ 60) ∧ t.name.size ≤ maxLen ∧ B ≤ base ∧ base ≤ w.heap.size ∧
 Own w base 25 2 (.slice ka t.kids.length kc) (t.kids.map Tm.cd) fo ∧ Fresh base w fo ∧ B ≤ bt ∧ bt ∉ fo ∧ (Value.slice ka t.kids.length kc).ownBlock ≠ some bt ∧ Lst rb [.string t.name, .slice ka t.kids.length kc] bt w
theorem zdu {w3 : World} {rb B base T : Nat} {t : Tm} {ka : Option Addr} {kc : Nat} {fo : List Nat} (hsz : (t.size ≤ 15 ∧ wtV t.cd ≤ 60)) (hnm : t.name.size ≤ maxLen) (hbase : B ≤ base) (hown : Own w3 base 25 2 (.slice ka t.kids.length kc) (t.kids.map Tm.cd) fo) (hfr : Fresh base w3 fo)
  (hB : B ≤ w3.heap.size) (hrb : rb < w3.heap.size) (hbs : base ≤ w3.heap.size) : VarTw rb B (.pointer (some ⟨w3.heap.size, 0, none⟩)) (w3.alloc (.cells #[.string t.name, .slice ka t.kids.length kc] T)) := by
 have hba := za w3 (.cells #[.string t.name, .slice ka t.kids.length kc] T)
 exact ⟨_, t, ka, kc, base, fo, rfl, hsz, hnm, hbase, Nat.le_trans hbs hba.size, hown.below hba, hfr.below hba, hB, fun h => by have := hfr.lt _ h; omega, fun h => by have := (hown.block h).2; omega, Lst.new hrb _ _⟩
theorem zch {w3 : World} {rb B base bt : Nat} {t : Tm} {ka : Option Addr} {kc : Nat} {fo : List Nat} (hsz : (t.size ≤ 15 ∧ wtV t.cd ≤ 60)) (hnm : t.name.size ≤ maxLen) (hbase : B ≤ base) (hown : Own w3 base 25 2 (.slice ka t.kids.length kc) (t.kids.map Tm.cd) fo) (hfr : Fresh base w3 fo)
  (hB : B ≤ bt) (hbt : bt < base) (hv : Lst rb [.string ⟨#[]⟩, .slice none 0 0] bt w3) (hbs : base ≤ w3.heap.size) : VarTw rb B (.pointer (some ⟨bt, 0, none⟩)) ((w3.setCell ⟨bt, 0, none⟩ (.string t.name)).setCell ⟨bt, 1, none⟩ (.slice ka t.kids.length kc)) := by
 have hn := hfr.notin hbt
 obtain ⟨h1, h2, h3, h4⟩ := hv
 obtain ⟨z0, z1⟩ := zas (.string t.name) (.slice ka t.kids.length kc) (h3 0 _ rfl) (h3 1 _ rfl)
 refine ⟨_, t, ka, kc, base, fo, rfl, hsz, hnm, hbase, by simpa [World.setCell] using hbs, (hown.set_row hbt hn).set_row hbt hn, hfr.same (zai (hfr.ne hbt)), hB, hn, fun h => by have := (hown.block h).1; omega, h1, by simpa [World.setCell] using h2, fun j u hu => ?_, fun j => ?_⟩
 ·match j, hu with
  | 0, hu => obtain rfl := Option.some.inj hu; exact z0
  | 1, hu => obtain rfl := Option.some.inj hu; exact z1
 ·simp [go_sem, h4]
theorem l4Some_wt (s : Sg) (vs : List Value) (sf : List Nat) (rb p : Nat) (w : World) (hp : p + 20 ≤ 1000000000) (hfew : s.few) (hnice : s.nice) (hrd : RdVs w s.cd vs sf) (hnr : rb ∉ sf) (hr : Rdr w rb p) :
  Calls Tryz.prog 32 #[.pointer (some ⟨rb, 0, none⟩), .agg vs.toArray] w fun e w' => DrawnTw w 45 e w' ∧ Rdr w' rb (p + 20) ∧ Only [rb] w w' := by
 obtain ⟨a0, c0, f0, rfl, rfl, m0⟩ := Sg.open hrd
 have hlt := hr.lt
 go_enter Tryz.func32, Tryz.ntmps32
 go_wp2_with fail
 generalize hW : (w.alloc (.cells #[.slice a0 s.syms.length c0] 43)).alloc (.cells #[.string ⟨#[]⟩, .slice none 0 0] 25) = W
 have hB : Below (w.heap.size + 1 + 1) ((w.alloc (.cells #[.slice a0 s.syms.length c0] 43)).alloc (.cells #[.string ⟨#[]⟩, .slice none 0 0] 25)) W := hW ▸ Below.refl _ _
 clear hW
 obtain ⟨hx, hy, hz, hb⟩ := box2 hB
 have x0 : W.cell? ⟨w.heap.size, 0, none⟩ = some (.slice a0 s.syms.length c0) := hx 0
 have r0 : W.cell? ⟨w.heap.size + 1, 0, none⟩ = some (.string ⟨#[]⟩) := hy 0
 have r1 : W.cell? ⟨w.heap.size + 1, 1, none⟩ = some (.slice none 0 0) := hy 1
 have rf0 := (zH hB 0).2
 have rf1 := (zH hB 1).2
 clear hx hy hB
 have hr0 := hr.below hb
 have hlW : rb < W.heap.size := by omega
 have hrd0 := hrd.below hb
 go_cut [5] from 9 to 16 (fun s5 wx => VarTw rb W.heap.size s5 wx ∧ Rdr wx rb (p + 17) ∧ Only [rb] W wx)
 case first =>
  have hN0 : Only [rb] W W.drew := Only.below (zd W)
  go_region_held3 (fun U => U.cell? ⟨w.heap.size, 0, none⟩ = some (.slice a0 s.syms.length c0))
   (((repeat (first | with_reducible assumption | with_reducible exact x0 | ((with_reducible refine hN0.cellk x0 ?_); (focus omega)) | ((with_reducible refine hN1.cellk x0 ?_); (focus omega)) | ((with_reducible refine hN2.cellk x0 ?_); (focus omega)) | ((with_reducible refine hN3.cellk x0 ?_); (focus omega)) | with_reducible refine zaR ?_ | with_reducible refine zJ ?_ | ((with_reducible refine ho1.cellk ?_ ?_); rotate_left; (focus omega)) | ((with_reducible refine ho2.cellk ?_ ?_); rotate_left; (focus omega)) | ((with_reducible refine ho3.cellk ?_ ?_); rotate_left; (focus omega)) | ((with_reducible refine (World.cell?_setCell_other _ _ _ _ ?_).trans ?_); (focus (intro e; simp only [Addr.mk.injEq] at e; omega))))); done))
   (first
   | (go_at_call 10; (refine (zz rb p 2 _ (by omega) (by omega) (by omega) ?_).mono ?_); (first | exact hr0 | exact hr0.alloc _ | exact (hr0.alloc _).alloc _); rintro e w1 ⟨⟨m1, hm1, rfl⟩, hr1, ho1⟩; have hN1 : Only [rb] W w1 := (by first | exact hN0.trans ho1 | exact (hN0.alloc _).trans ho1 | exact ((hN0.alloc _).alloc _).trans ho1); have hl1 := hr1.lt; have hsz1 := hN1.size; try (first | (refine Lst.use (lb := W.heap.size) (vs := [.string ⟨#[]⟩, .slice none 0 0]) ho1 ?_ ?_; (focus ((repeat (first | assumption | with_reducible refine Lst.drew ?_ | ((with_reducible refine Lst.new ?_ _ _); first | exact hlW | omega | (simp; omega)) | ((with_reducible refine Lst.new1 ?_ _ _ _); first | exact hlW | omega | (simp; omega)) | with_reducible refine Lst.alloc ?_ _)); done)); intro hvl1 hv1) | (refine Lst.use (lb := (W.heap.size + 1)) (vs := [.string ⟨#[]⟩, .slice none 0 0]) ho1 ?_ ?_; (focus ((repeat (first | assumption | with_reducible refine Lst.drew ?_ | ((with_reducible refine Lst.new ?_ _ _); first | exact hlW | omega | (simp; omega)) | ((with_reducible refine Lst.new1 ?_ _ _ _); first | exact hlW | omega | (simp; omega)) | with_reducible refine Lst.alloc ?_ _)); done)); intro hvl1 hv1)))
   | (go_at_call 11; (refine (num_l [2, 3, 1, 4] [.int .i64 2, .int .i64 3, .int .i64 1, .int .i64 4] rfl rb (p + 1) _ _ (by omega) (by simp) (by simp) ?_ ?_).mono ?_); (focus ((repeat (first | assumption | with_reducible refine Lst.drew ?_ | ((with_reducible refine Lst.new ?_ _ _); first | exact hlW | exact hr1.lt | omega | (simp; omega)) | ((with_reducible refine Lst.new1 ?_ _ _ _); first | exact hlW | exact hr1.lt | omega | (simp; omega)) | with_reducible refine Lst.alloc ?_ _ | with_reducible refine Lst.only ?_ ho1)); done)); (first | exact hr1 | exact hr1.alloc _ | exact (hr1.alloc _).alloc _); rintro e w2 ⟨⟨d2, hd2, rfl⟩, hr2, ho2⟩; have hN2 : Only [rb] W w2 := (by first | exact hN1.trans ho2 | exact (hN1.alloc _).trans ho2 | exact ((hN1.alloc _).alloc _).trans ho2); have hl2 := hr2.lt; have hsz2 := hN2.size; have hd : 1 ≤ d2 ∧ d2 ≤ 4 := (by simp at hd2; omega); have hsf := hrd0.only hN2 hnr; try (first | (refine Lst.use (lb := W.heap.size) (vs := [.string ⟨#[]⟩, .slice none 0 0]) ho2 ?_ ?_; (focus ((repeat (first | assumption | with_reducible refine Lst.drew ?_ | ((with_reducible refine Lst.new ?_ _ _); first | exact hlW | exact hr1.lt | omega | (simp; omega)) | ((with_reducible refine Lst.new1 ?_ _ _ _); first | exact hlW | exact hr1.lt | omega | (simp; omega)) | with_reducible refine Lst.alloc ?_ _ | with_reducible refine Lst.only ?_ ho1)); done)); intro hvl2 hv2) | (refine Lst.use (lb := (W.heap.size + 1)) (vs := [.string ⟨#[]⟩, .slice none 0 0]) ho2 ?_ ?_; (focus ((repeat (first | assumption | with_reducible refine Lst.drew ?_ | ((with_reducible refine Lst.new ?_ _ _); first | exact hlW | exact hr1.lt | omega | (simp; omega)) | ((with_reducible refine Lst.new1 ?_ _ _ _); first | exact hlW | exact hr1.lt | omega | (simp; omega)) | with_reducible refine Lst.alloc ?_ _ | with_reducible refine Lst.only ?_ ho1)); done)); intro hvl2 hv2) | (refine Lst.use (lb := w1.heap.size) (vs := [.string ⟨#[]⟩, .slice none 0 0]) ho2 ?_ ?_; (focus ((repeat (first | assumption | with_reducible refine Lst.drew ?_ | ((with_reducible refine Lst.new ?_ _ _); first | exact hlW | exact hr1.lt | omega | (simp; omega)) | ((with_reducible refine Lst.new1 ?_ _ _ _); first | exact hlW | exact hr1.lt | omega | (simp; omega)) | with_reducible refine Lst.alloc ?_ _ | with_reducible refine Lst.only ?_ ho1)); done)); intro hvl2 hv2) | (refine Lst.use (lb := (w1.heap.size + 1)) (vs := [.string ⟨#[]⟩, .slice none 0 0]) ho2 ?_ ?_; (focus ((repeat (first | assumption | with_reducible refine Lst.drew ?_ | ((with_reducible refine Lst.new ?_ _ _); first | exact hlW | exact hr1.lt | omega | (simp; omega)) | ((with_reducible refine Lst.new1 ?_ _ _ _); first | exact hlW | exact hr1.lt | omega | (simp; omega)) | with_reducible refine Lst.alloc ?_ _ | with_reducible refine Lst.only ?_ ho1)); done)); intro hvl2 hv2)))
   | (go_at_call 33; (refine (zV 4 s _ sf _ _ rb (p + 1 + 1) _ hd.1 (by omega) (by omega) (by simp only [pcap]; omega) hfew hnice (by first | exact hsf | exact hsf.below (za _ _)) hnr ?_).mono ?_); (first | exact hr2 | exact hr2.alloc _ | exact (hr2.alloc _).alloc _); rintro e w3 ⟨⟨t, kv, fo, hsz, rfl, hnm, hown, hfo⟩, hr3, ho3⟩; have hN3 : Only [rb] W w3 := (by first | exact hN2.trans ho3 | exact (hN2.alloc _).trans ho3 | exact ((hN2.alloc _).alloc _).trans ho3); have hl3 := hr3.lt; have hsz3 := hN3.size; obtain ⟨ka, kc, hkv, hk1, hk2⟩ := hown.form; rw [zdX] at hkv hk1; subst hkv; try (first | (refine Lst.use (lb := W.heap.size) (vs := [.string ⟨#[]⟩, .slice none 0 0]) ho3 ?_ ?_; (focus ((repeat (first | assumption | with_reducible refine Lst.drew ?_ | ((with_reducible refine Lst.new ?_ _ _); first | exact hlW | exact hr1.lt | exact hr2.lt | omega | (simp; omega)) | ((with_reducible refine Lst.new1 ?_ _ _ _); first | exact hlW | exact hr1.lt | exact hr2.lt | omega | (simp; omega)) | with_reducible refine Lst.alloc ?_ _ | with_reducible refine Lst.only ?_ ho1 | with_reducible refine Lst.only ?_ ho2)); done)); intro hvl3 hv3; have vf0 := hv3.2.2.2 0; have vf1 := hv3.2.2.2 1; have vc0 := hv3.2.2.1 0 _ rfl; have vc1 := hv3.2.2.1 1 _ rfl) | (refine Lst.use (lb := (W.heap.size + 1)) (vs := [.string ⟨#[]⟩, .slice none 0 0]) ho3 ?_ ?_; (focus ((repeat (first | assumption | with_reducible refine Lst.drew ?_ | ((with_reducible refine Lst.new ?_ _ _); first | exact hlW | exact hr1.lt | exact hr2.lt | omega | (simp; omega)) | ((with_reducible refine Lst.new1 ?_ _ _ _); first | exact hlW | exact hr1.lt | exact hr2.lt | omega | (simp; omega)) | with_reducible refine Lst.alloc ?_ _ | with_reducible refine Lst.only ?_ ho1 | with_reducible refine Lst.only ?_ ho2)); done)); intro hvl3 hv3; have vf0 := hv3.2.2.2 0; have vf1 := hv3.2.2.2 1; have vc0 := hv3.2.2.1 0 _ rfl; have vc1 := hv3.2.2.1 1 _ rfl) | (refine Lst.use (lb := w1.heap.size) (vs := [.string ⟨#[]⟩, .slice none 0 0]) ho3 ?_ ?_; (focus ((repeat (first | assumption | with_reducible refine Lst.drew ?_ | ((with_reducible refine Lst.new ?_ _ _); first | exact hlW | exact hr1.lt | exact hr2.lt | omega | (simp; omega)) | ((with_reducible refine Lst.new1 ?_ _ _ _); first | exact hlW | exact hr1.lt | exact hr2.lt | omega | (simp; omega)) | with_reducible refine Lst.alloc ?_ _ | with_reducible refine Lst.only ?_ ho1 | with_reducible refine Lst.only ?_ ho2)); done)); intro hvl3 hv3; have vf0 := hv3.2.2.2 0; have vf1 := hv3.2.2.2 1; have vc0 := hv3.2.2.1 0 _ rfl; have vc1 := hv3.2.2.1 1 _ rfl) | (refine Lst.use (lb := (w1.heap.size + 1)) (vs := [.string ⟨#[]⟩, .slice none 0 0]) ho3 ?_ ?_; (focus ((repeat (first | assumption | with_reducible refine Lst.drew ?_ | ((with_reducible refine Lst.new ?_ _ _); first | exact hlW | exact hr1.lt | exact hr2.lt | omega | (simp; omega)) | ((with_reducible refine Lst.new1 ?_ _ _ _); first | exact hlW | exact hr1.lt | exact hr2.lt | omega | (simp; omega)) | with_reducible refine Lst.alloc ?_ _ | with_reducible refine Lst.only ?_ ho1 | with_reducible refine Lst.only ?_ ho2)); done)); intro hvl3 hv3; have vf0 := hv3.2.2.2 0; have vf1 := hv3.2.2.2 1; have vc0 := hv3.2.2.1 0 _ rfl; have vc1 := hv3.2.2.1 1 _ rfl) | (refine Lst.use (lb := w2.heap.size) (vs := [.string ⟨#[]⟩, .slice none 0 0]) ho3 ?_ ?_; (focus ((repeat (first | assumption | with_reducible refine Lst.drew ?_ | ((with_reducible refine Lst.new ?_ _ _); first | exact hlW | exact hr1.lt | exact hr2.lt | omega | (simp; omega)) | ((with_reducible refine Lst.new1 ?_ _ _ _); first | exact hlW | exact hr1.lt | exact hr2.lt | omega | (simp; omega)) | with_reducible refine Lst.alloc ?_ _ | with_reducible refine Lst.only ?_ ho1 | with_reducible refine Lst.only ?_ ho2)); done)); intro hvl3 hv3; have vf0 := hv3.2.2.2 0; have vf1 := hv3.2.2.2 1; have vc0 := hv3.2.2.1 0 _ rfl; have vc1 := hv3.2.2.1 1 _ rfl) | (refine Lst.use (lb := (w2.heap.size + 1)) (vs := [.string ⟨#[]⟩, .slice none 0 0]) ho3 ?_ ?_; (focus ((repeat (first | assumption | with_reducible refine Lst.drew ?_ | ((with_reducible refine Lst.new ?_ _ _); first | exact hlW | exact hr1.lt | exact hr2.lt | omega | (simp; omega)) | ((with_reducible refine Lst.new1 ?_ _ _ _); first | exact hlW | exact hr1.lt | exact hr2.lt | omega | (simp; omega)) | with_reducible refine Lst.alloc ?_ _ | with_reducible refine Lst.only ?_ ho1 | with_reducible refine Lst.only ?_ ho2)); done)); intro hvl3 hv3; have vf0 := hv3.2.2.2 0; have vf1 := hv3.2.2.2 1; have vc0 := hv3.2.2.1 0 _ rfl; have vc1 := hv3.2.2.1 1 _ rfl))))
  all_goals
   have hr3' : Rdr w3 rb (p + 17) := hr3
   have hsz' : (t.size ≤ 15 ∧ wtV t.cd ≤ 60) := ⟨hsz.1, by have := zbu t _ hsz.2; have h15 : t.size ≤ 15 := hsz.1; omega⟩
   go_wp2_with fail
   go_meet
   case rel =>
    first
     | exact ⟨zdu hsz' hnm (by omega) hown hfo (by omega) (by omega) ho3.size, hr3'.alloc _, hN3.alloc _⟩
     | exact ⟨zch hsz' hnm (by rw [World.size_alloc]; omega) hown hfo (by omega) hvl3 hv3 ho3.size, (hr3'.set (by omega)).set (by omega), (hN3.set_new (by omega)).set_new (by omega)⟩
     | exact ⟨zch hsz' hnm (by omega) hown hfo (by omega) hvl3 hv3 ho3.size, (hr3'.set (by omega)).set (by omega), (hN3.set_new (by omega)).set_new (by omega)⟩
 case rest =>
 obtain ⟨⟨bt, t, ka, kc, base, fo, rfl, hsz, hnm, hbase, hbsz, hown, hfo, hbt, hnfo, hnow, hlst⟩, hr1, hN⟩ := hcut
 have hNw : Only [rb] w wc := (Only.below hb).trans hN
 have hzN := hN.size
 have hdec : Tm.sizes t.kids + 1 = t.size := by rw [Tm.size_eq]; omega
 have q0 := hN.cellk r0 (by omega)
 have q1 := hN.cellk r1 (by omega)
 have qf0 := hN.free rf0 (by omega) (by omega)
 have qf1 := hN.free rf1 (by omega) (by omega)
 clear x0 r0 r1 rf0 rf1 hrd0 hr0 hb hrd m0 hN
 go_wp2_with fail
 refine (zz rb (p + 17) 48 _ (by omega) (by omega) (by omega) hr1).mono ?_
 rintro e w5 ⟨⟨m, hm, rfl⟩, hr5, ho5⟩
 have hz5 := ho5.size
 replace q0 := ho5.cellk q0 (by omega)
 replace q1 := ho5.cellk q1 (by omega)
 replace qf0 := ho5.free qf0 (by omega) (by omega)
 replace qf1 := ho5.free qf1 (by omega) (by omega)
 replace hown := hown.only ho5 (by omega) (hfo.notin (by omega))
 replace hfo := hfo.only ho5 (by omega)
 replace hlst := hlst.only ho5
 replace hNw := hNw.trans ho5
 have t0 := hlst.2.2.1 0 _ rfl
 have t1 := hlst.2.2.1 1 _ rfl
 have tf0 := hlst.2.2.2 0
 have tf1 := hlst.2.2.2 1
 have hlb := hlst.2.1
 clear hlst ho5 hr1
 by_cases hm0 : m = 0
 ·subst hm0
  go_wp2_with fail
  refine (of_l [⟨#[]⟩, ⟨#[65]⟩, ⟨#[97, 98, 99]⟩, ⟨#[102]⟩] [.string ⟨#[]⟩, .string ⟨#[65]⟩, .string ⟨#[97, 98, 99]⟩, .string ⟨#[102]⟩] rfl rb (p + 17 + 1) _ _ (by omega) (by simp) (by simp) (Lst.new (by omega) _ _) (hr5.alloc _)).mono ?_
  rintro e w6 ⟨⟨nm, hmem, rfl⟩, hr6, ho6⟩
  have hnm3 : nm.size ≤ 3 := by (simp at hmem; rcases hmem with rfl | rfl | rfl | rfl <;> decide)
  have hnm6 : nm.size ≤ maxLen := by simp at hmem; rcases hmem with rfl | rfl | rfl | rfl <;> decide
  clear hmem
  have hN6 := (Only.below (za w5 (.cells #[.string ⟨#[]⟩, .string ⟨#[65]⟩, .string ⟨#[97, 98, 99]⟩, .string ⟨#[102]⟩] 9))).trans ho6
  have hz6 := hN6.size
  clear ho6
  replace q0 := hN6.cellk q0 (by omega)
  replace q1 := hN6.cellk q1 (by omega)
  replace qf0 := hN6.free qf0 (by omega) (by omega)
  replace qf1 := hN6.free qf1 (by omega) (by omega)
  replace t0 := hN6.cellk t0 (by omega)
  replace t1 := hN6.cellk t1 (by omega)
  replace tf0 := hN6.free tf0 (by omega) (by omega)
  replace tf1 := hN6.free tf1 (by omega) (by omega)
  replace hown := (hown.only hN6 (by omega) (hfo.notin (by omega))).set_ne (b := bt) (j := 0) (u := .string nm) hnfo hnow
  replace hfo := (hfo.only hN6 (by omega)).set_ne (b := bt) (j := 0) (u := .string nm) hnfo
  replace hNw := hNw.trans hN6
  clear hN6
  have u0 := World.cell?_setCell_same w6 ⟨bt, 0, none⟩ (.string nm) t0
  have u1 := (World.cell?_setCell_other w6 ⟨bt, 0, none⟩ ⟨bt, 1, none⟩ (.string nm) (by simp)).trans t1
  have p0 := (World.cell?_setCell_other w6 ⟨bt, 0, none⟩ ⟨w.heap.size + 1, 0, none⟩ (.string nm) (by intro e; simp only [Addr.mk.injEq] at e; omega)).trans q0
  have p1 := (World.cell?_setCell_other w6 ⟨bt, 0, none⟩ ⟨w.heap.size + 1, 1, none⟩ (.string nm) (by intro e; simp only [Addr.mk.injEq] at e; omega)).trans q1
  obtain ⟨z0, z1⟩ := zas (.string nm) (.slice ka t.kids.length kc) p0 p1
  go_wp2_with fail
  exact bodyPost_ret (v := .agg #[.string nm, .slice ka t.kids.length kc]) (by simp [results, Tryz.results32, go_sem, z0, z1]) rfl (zaG (t := .mk nm t.kids) ⟨by simp only [Tm.size]; omega, by have h1 := wt_name t nm; omega⟩ hnm6 hown hfo (by omega) (by omega) (hr6.set (by omega)) (by omega) (hNw.set_new (by omega)) (by omega))
 have hfm := hfo.lt
 have hkl : ((t.kids.map Tm.cd)).length ≤ 100 := by rw [zdX]; have := Tm.sizes_len t.kids; omega
 obtain ⟨ff, hrd, hfree, _⟩ := hown.fresh hfo
 clear tf0
 by_cases hm1 : m = 1
 ·subst hm1
  clear hm0
  go_wp2_with fail
  refine (zad t.size t _ _ (Nat.le_refl _) (by omega) (TmR.mk hnm ⟨ff, hrd⟩)).mono ?_
  rintro e w6 ⟨kv6, fp6, rfl, hr6', hf6, hb6⟩
  obtain ⟨a6, c6, rfl, hg1, hg2⟩ := zao hr6'
  have hz6 := hb6.size
  have t06 := zb t0 hb6
  have t16 := zb t1 hb6
  have hba : Below w6.heap.size w6 ((w6.alloc (.cells #[.string t.name, .slice a6 t.kids.length c6] 25)).alloc (.cells #[.string t.name, .slice a6 t.kids.length c6] 25)) := ((Below.refl _ _).alloc (Nat.le_refl _) _).alloc (by simp) _
  have HB := hb6.trans (hba.mono hz6)
  have hownU := hown.below HB
  have hfoU := hfo.below HB
  have hrn := hr6'.below hba
  have hfnU := hf6.below hba
  have hsU : ((w6.alloc (.cells #[.string t.name, .slice a6 t.kids.length c6] 25)).alloc (.cells #[.string t.name, .slice a6 t.kids.length c6] 25)).heap.size = w6.heap.size + 1 + 1 := by simp
  replace q0 := zb q0 HB
  replace q1 := zb q1 HB
  replace qf0 := (zh (HB.block (w.heap.size + 1) (by omega))).trans qf0
  replace qf1 := (zh (HB.block (w.heap.size + 1) (by omega))).trans qf1
  replace t0 := zb t0 HB
  replace t1 := zb t1 HB
  replace tf1 := (zh (HB.block bt (by omega))).trans tf1
  replace hr5 := hr5.below HB
  replace hNw := hNw.trans (Only.below HB)
  have hbt6 : bt < w6.heap.size := by omega
  go_wp2_with (at_builtin; refine zq zaz rfl _ _ rfl base _ _ _ rfl hownU ⟨w6.heap.size + 1, 0, none⟩ 1 1 [t.cd] [.string t.name, .slice a6 t.kids.length c6] fp6 rfl rfl ?rd ?k ?cells ?na ?bytes ?len ?base ?next)
  case rd => simpa using Tm.rdvs hnm hrn
  case k => simp [Tm.cd_len]
  case cells => have h := zp (w6.alloc (.cells #[.string t.name, .slice a6 t.kids.length c6] 25)) [.string t.name, .slice a6 t.kids.length c6] 25; rw [World.size_alloc] at h; exact h
  case na => exact hown.away (Nat.le_refl _) hfnU
  case bytes => omega
  case len => omega
  case base => omega
  case next =>
   intro v8 w8 hown8 hg hv8 hs8
   obtain ⟨a8, c8, hv8e, hk8, hm8⟩ := hown8.form
   obtain ⟨⟨c1, cf1, f0, f1, d0, d1, c0⟩, k1, k2, k3, k4, k5, k6, k7, k8⟩ := zcf (R := w.heap.size + 1) (bt := bt) (mid := w5.heap.size) hg (by rw [hsU]; exact hv8) hs8 hownU hown8 hfoU hfm (by omega) hfnU (by omega) hnfo hnow (by rw [hsU]; omega) hr5 (by omega) (by omega) hNw (by omega) (by omega) (by omega) (by rw [hsU]; omega) (by omega) t0 t1 tf1 q0 q1 qf0 qf1
   have hl8 : (t.kids.map Tm.cd ++ [t.cd]).length = t.kids.length + 1 := by simp
   rw [hl8] at hv8e
   subst hv8e
   clear hg hv8 hs8 hown8 t0 t1 tf1 q0 q1 qf0 qf1 hownU hfoU hfnU
   obtain ⟨z0, z1⟩ := zas (.string t.name) (.slice a8 (t.kids.length + 1) c8) k7 k8
   have hsn : Tm.sizes [t] = 1 * t.size := by simp [Tm.sizes]; try omega
   go_wp2_with fail
   exact bodyPost_ret (v := .agg #[.string t.name, .slice a8 (t.kids.length + 1) c8]) (by simp [results, Tryz.results32, go_sem, z0, z1]) rfl (zaG (t := .mk t.name (t.kids ++ [t])) ⟨by simp only [Tm.size, Tm.sizes_append, hsn]; omega, by rw [wt_more]; simp only [List.length_cons, List.length_nil, List.map_cons, List.map_nil, zaw, wtR]; omega⟩ hnm (by simpa [Tm.kids, zdV] using k1) k2 (by omega) (by omega) k3 (by omega) k4 (by omega))
 by_cases hm2 : m = 2
 ·subst hm2
  clear hm0 hm1
  go_wp2_with fail
  refine (zad t.size t _ _ (Nat.le_refl _) (by omega) (TmR.mk hnm ⟨ff, hrd⟩)).mono ?_
  rintro e w6 ⟨kv6, fp6, rfl, hr6', hf6, hb6⟩
  obtain ⟨a6, c6, rfl, hg1, hg2⟩ := zao hr6'
  have hz6 := hb6.size
  have t06 := zb t0 hb6
  have t16 := zb t1 hb6
  have hbt6 : bt < w6.heap.size := by omega
  have hrd6 := (hrd.below hb6).below (za w6 (.cells #[.string t.name, .slice a6 t.kids.length c6] 25))
  go_wp2_with fail
  refine (zad t.size t _ _ (Nat.le_refl _) (by omega) (TmR.mk hnm ⟨ff, hrd6⟩)).mono ?_
  rintro e w7 ⟨kv7, fp7, rfl, hr7', hf7, hb7⟩
  obtain ⟨a7, c7, rfl, hg3, hg4⟩ := zao hr7'
  have hz7 := hb7.size
  rw [World.size_alloc] at hz7
  have hb67 := (za w6 (.cells #[.string t.name, .slice a6 t.kids.length c6] 25)).trans (hb7.mono (by simp))
  have x60 : w7.cell? ⟨w6.heap.size, 0, none⟩ = some (.string t.name) := zb (zj w6 _ _ 0 _ rfl) hb7
  have x61 : w7.cell? ⟨w6.heap.size, 1, none⟩ = some (.slice a6 t.kids.length c6) := zb (zj w6 _ _ 1 _ rfl) hb7
  have t07 := zb t06 hb67
  have t17 := zb t16 hb67
  have hbt7 : bt < w7.heap.size := by omega
  have hl67 : w6.heap.size < w7.heap.size := by omega
  have hba : Below w7.heap.size w7 ((w7.alloc (.cells #[.string t.name, .slice a7 t.kids.length c7] 25)).alloc (.cells #[.string t.name, .slice a6 t.kids.length c6, .string t.name, .slice a7 t.kids.length c7] 25)) := ((Below.refl _ _).alloc (Nat.le_refl _) _).alloc (by simp) _
  have hb6U := hb67.trans (hba.mono (by omega))
  have HB := hb6.trans (hb6U.mono hz6)
  have hownU := hown.below HB
  have hfoU := hfo.below HB
  have hrn6 := hr6'.below hb6U
  have hrn7 := hr7'.below hba
  have hfnU : Fresh w5.heap.size ((w7.alloc (.cells #[.string t.name, .slice a7 t.kids.length c7] 25)).alloc (.cells #[.string t.name, .slice a6 t.kids.length c6, .string t.name, .slice a7 t.kids.length c7] 25)) (fp6 ++ fp7) := Fresh.app (hf6.below hb6U) hf6.lt hz6 ((hf7.below hba).mono (by simp))
  have hsU : ((w7.alloc (.cells #[.string t.name, .slice a7 t.kids.length c7] 25)).alloc (.cells #[.string t.name, .slice a6 t.kids.length c6, .string t.name, .slice a7 t.kids.length c7] 25)).heap.size = w7.heap.size + 1 + 1 := by simp
  replace q0 := zb q0 HB
  replace q1 := zb q1 HB
  replace qf0 := (zh (HB.block (w.heap.size + 1) (by omega))).trans qf0
  replace qf1 := (zh (HB.block (w.heap.size + 1) (by omega))).trans qf1
  replace t0 := zb t0 HB
  replace t1 := zb t1 HB
  replace tf1 := (zh (HB.block bt (by omega))).trans tf1
  replace hr5 := hr5.below HB
  replace hNw := hNw.trans (Only.below HB)
  go_wp2_with (at_builtin; refine zq zaz rfl _ _ rfl base _ _ _ rfl hownU ⟨w7.heap.size + 1, 0, none⟩ 2 2 [t.cd, t.cd] [.string t.name, .slice a6 t.kids.length c6, .string t.name, .slice a7 t.kids.length c7] (fp6 ++ fp7) rfl rfl ?rd ?k ?cells ?na ?bytes ?len ?base ?next)
  case rd => simpa using (Tm.rdvs hnm hrn6).app (Tm.rdvs hnm hrn7)
  case k => simp [Tm.cd_len]
  case cells => have h := zp (w7.alloc (.cells #[.string t.name, .slice a7 t.kids.length c7] 25)) [.string t.name, .slice a6 t.kids.length c6, .string t.name, .slice a7 t.kids.length c7] 25; rw [World.size_alloc] at h; exact h
  case na => exact hown.away (Nat.le_refl _) hfnU
  case bytes => omega
  case len => omega
  case base => omega
  case next =>
   intro v8 w8 hown8 hg hv8 hs8
   obtain ⟨a8, c8, hv8e, hk8, hm8⟩ := hown8.form
   obtain ⟨⟨c1, cf1, f0, f1, d0, d1, c0⟩, k1, k2, k3, k4, k5, k6, k7, k8⟩ := zcf (R := w.heap.size + 1) (bt := bt) (mid := w5.heap.size) hg (by rw [hsU]; exact hv8) hs8 hownU hown8 hfoU hfm (by omega) hfnU (by omega) hnfo hnow (by rw [hsU]; omega) hr5 (by omega) (by omega) hNw (by omega) (by omega) (by omega) (by rw [hsU]; omega) (by omega) t0 t1 tf1 q0 q1 qf0 qf1
   have hl8 : (t.kids.map Tm.cd ++ [t.cd, t.cd]).length = t.kids.length + 2 := by simp
   rw [hl8] at hv8e
   subst hv8e
   clear hg hv8 hs8 hown8 t0 t1 tf1 q0 q1 qf0 qf1 hownU hfoU hfnU
   obtain ⟨z0, z1⟩ := zas (.string t.name) (.slice a8 (t.kids.length + 2) c8) k7 k8
   have hsn : Tm.sizes [t, t] = 2 * t.size := by simp [Tm.sizes]; try omega
   go_wp2_with fail
   exact bodyPost_ret (v := .agg #[.string t.name, .slice a8 (t.kids.length + 2) c8]) (by simp [results, Tryz.results32, go_sem, z0, z1]) rfl (zaG (t := .mk t.name (t.kids ++ [t, t])) ⟨by simp only [Tm.size, Tm.sizes_append, hsn]; omega, by rw [wt_more]; simp only [List.length_cons, List.length_nil, List.map_cons, List.map_nil, zaw, wtR]; omega⟩ hnm (by simpa [Tm.kids, zdV] using k1) k2 (by omega) (by omega) k3 (by omega) k4 (by omega))
 obtain ⟨z0, z1⟩ := zas (.string t.name) (.slice ka t.kids.length kc) q0 q1
 go_wp2_with fail
 exact bodyPost_ret (v := .agg #[.string t.name, .slice ka t.kids.length kc]) (by simp [results, Tryz.results32, go_sem, z0, z1]) rfl (zaG (by omega) hnm hown hfo (by omega) (by omega) hr5 (by omega) hNw (by omega))
end Go.Proofs.YtoehhbkhdddeeaaGreatDoor
end
