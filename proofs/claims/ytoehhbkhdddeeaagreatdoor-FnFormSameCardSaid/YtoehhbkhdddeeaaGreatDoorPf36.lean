/- Parts of the proof: PutD. -/
import Derived.Deep.RegionHeld3
import Derived.Deep.CutRange
import Derived.Test.YtoehhbkhdddeeaaGreatDoorPf25
import Derived.Test.YtoehhbkhdddeeaaGreatDoorPf35
section
namespace Go.Proofs.YtoehhbkhdddeeaaGreatDoor
open Go Go.RowKit
set_option linter.unusedVariables false
set_option linter.unusedSimpArgs false
set_option maxRecDepth 100000
set_option maxHeartbeats 16000000
/-- A drawn atom. -/
def DrawnAt (w : World) (e : Ending) (w' : World) : Prop := ∃ (y : Atm) (a2 : Option Addr) (c2 : Nat) (fA : List Nat) (a4 : Option Addr) (c4 : Nat) (fB : List Nat) (a5 : Option Addr) (c5 : Nat) (a6 : Option Addr) (c6 : Nat) (fn : List Nat), y.few ∧
 e = .returned (.agg #[.int .i64 y.kind, .string y.a.name, .slice a2 y.a.kids.length c2, .string y.b.name, .slice a4 y.b.kids.length c4, .slice a5 y.nums.length c5, .slice a6 y.times.length c6, .int .i64 y.bound, .bool y.strict]) ∧ AtOx w' w.heap.size y a2 c2 fA a4 c4 fB a5 c5 a6 c6 fn
theorem zci (s : Sg) (vs : List Value) (sf : List Nat) (rb p : Nat) (w : World) (hp : p + 100 ≤ 1000000000) (hfew : s.few) (hnice : s.nice) (hrd : RdVs w s.cd vs sf) (hnr : rb ∉ sf) (hr : Rdr w rb p) :
  Calls Tryz.prog 31 #[.pointer (some ⟨rb, 0, none⟩), .agg vs.toArray] w fun e w' => DrawnAt w e w' ∧ Rdr w' rb (p + 100) ∧ Only [rb] w w' := by
 obtain ⟨a0, c0, f0, rfl, rfl, m0⟩ := Sg.open hrd
 have hlt := hr.lt
 have hB2 : Below w.heap.size w ((w.alloc (.cells #[.slice a0 s.syms.length c0] 43)).alloc (.cells #[.int .i64 0, .string ⟨#[]⟩, .slice none 0 0, .string ⟨#[]⟩, .slice none 0 0, .slice none 0 0, .slice none 0 0, .int .i64 0, .bool false] 28)) := ((Below.refl _ _).alloc (Nat.le_refl _) _).alloc (by simp) _
 have hR0 : Lst rb [.int .i64 0, .string ⟨#[]⟩, .slice none 0 0, .string ⟨#[]⟩, .slice none 0 0, .slice none 0 0, .slice none 0 0, .int .i64 0, .bool false] (w.heap.size + 1) ((w.alloc (.cells #[.slice a0 s.syms.length c0] 43)).alloc (.cells #[.int .i64 0, .string ⟨#[]⟩, .slice none 0 0, .string ⟨#[]⟩, .slice none 0 0, .slice none 0 0, .slice none 0 0, .int .i64 0, .bool false] 28)) := Lst.new1 hlt _ [.int .i64 0, .string ⟨#[]⟩, .slice none 0 0, .string ⟨#[]⟩, .slice none 0 0, .slice none 0 0, .slice none 0 0, .int .i64 0, .bool false] 28
 have x0 : ((w.alloc (.cells #[.slice a0 s.syms.length c0] 43)).alloc (.cells #[.int .i64 0, .string ⟨#[]⟩, .slice none 0 0, .string ⟨#[]⟩, .slice none 0 0, .slice none 0 0, .slice none 0 0, .int .i64 0, .bool false] 28)).cell? ⟨w.heap.size, 0, none⟩ = some (.slice a0 s.syms.length c0) := zJ (zx w _ _ 0)
 have hX0 : Lst rb [.slice a0 s.syms.length c0] w.heap.size ((w.alloc (.cells #[.slice a0 s.syms.length c0] 43)).alloc (.cells #[.int .i64 0, .string ⟨#[]⟩, .slice none 0 0, .string ⟨#[]⟩, .slice none 0 0, .slice none 0 0, .slice none 0 0, .int .i64 0, .bool false] 28)) := (Lst.new hlt [.slice a0 s.syms.length c0] 43).alloc _
 have hs0 : ((w.alloc (.cells #[.slice a0 s.syms.length c0] 43)).alloc (.cells #[.int .i64 0, .string ⟨#[]⟩, .slice none 0 0, .string ⟨#[]⟩, .slice none 0 0, .slice none 0 0, .slice none 0 0, .int .i64 0, .bool false] 28)).heap.size = w.heap.size + 1 + 1 := by simp
 go_enter Tryz.func31, Tryz.ntmps31
 go_wp2_with fail
 generalize (w.alloc (.cells #[.slice a0 s.syms.length c0] 43)).alloc (.cells #[.int .i64 0, .string ⟨#[]⟩, .slice none 0 0, .string ⟨#[]⟩, .slice none 0 0, .slice none 0 0, .slice none 0 0, .int .i64 0, .bool false] 28) = W0 at *
 refine (zz rb p 2 _ (by omega) (by omega) (by omega) (hr.below hB2)).mono ?_
 rintro e w1 ⟨⟨d, hd, rfl⟩, hr1, ho1⟩
 have hNA : Only [rb] w w1 := (Only.below hB2).trans ho1
 have hRA := hR0.only ho1
 have xA := ho1.cellk x0 (by omega)
 have hXA := hX0.only ho1
 have hzA := ho1.size
 clear hR0 x0 hX0 ho1 hB2
 by_cases h0 : d = 0
 ·subst h0
  go_wp2_with fail
  refine (zz rb (p + 1) 2 _ (by omega) (by omega) (by omega) hr1).mono ?_
  rintro e wq ⟨⟨so, hso, rfl⟩, hr0, ho0⟩
  go_upto_region 3 with fail
  have x2 := ho0.cellk xA (by omega)
  have hR0 := hRA.only ho0
  have hl0 := hr0.lt
  have hzq := ho0.size
  have hzq2 : w.heap.size + 1 + 1 ≤ wq.heap.size := by omega
  have hrd0 := hrd.only (hNA.trans ho0) hnr
  have hNQ := Lib.hid (hNA.trans ho0)
  clear xA hXA hRA hr1 ho0 hNA hzA
  have hN0 : Only [rb] wq wq.drew := Only.below (zd wq)
  go_region_held3 (fun U => U.cell? ⟨w.heap.size, 0, none⟩ = some (.slice a0 s.syms.length c0))
   (((repeat (first | with_reducible assumption | with_reducible exact x2 | with_reducible refine zaR ?_ | with_reducible refine zJ ?_ | ((with_reducible refine hN0.cellk x2 ?_); (focus omega)) | ((with_reducible refine hN1.cellk x2 ?_); (focus omega)) | ((with_reducible refine hN2.cellk x2 ?_); (focus omega)) | ((with_reducible refine hN3.cellk x2 ?_); (focus omega)) | ((with_reducible refine hN4.cellk x2 ?_); (focus omega)) | ((with_reducible refine ho1.cellk ?_ ?_); rotate_left; (focus omega)) | ((with_reducible refine ho2.cellk ?_ ?_); rotate_left; (focus omega)) | ((with_reducible refine ho3.cellk ?_ ?_); rotate_left; (focus omega)) | ((with_reducible refine ho4.cellk ?_ ?_); rotate_left; (focus omega)) | ((with_reducible refine (World.cell?_setCell_other _ _ _ _ ?_).trans ?_); (focus (intro e; simp only [Addr.mk.injEq] at e; omega))))); done))
   (first
    | (go_at_call 11; (with_reducible refine (zar 2 [1, 2] [.int .i64 1, .int .i64 2] rfl rfl rb (p + 1 + 1) _ _ (by omega) (by simp) (by simp) ?_ ?_).mono ?_); (focus ((repeat (first | with_reducible assumption | ((with_reducible refine Lst.new ?_ _ _); (first | exact hl0 | omega | (simp; omega))) | ((with_reducible refine Lst.new1 ?_ _ _ _); (first | exact hl0 | omega | (simp; omega))) | ((with_reducible refine Lst.next2 ?_ _ _ _ _); (first | exact hl0 | omega | (simp; omega))) | with_reducible refine Lst.drew ?_ | with_reducible refine Lst.alloc ?_ _)); done)); (first | exact hr0 | exact hr0.alloc _ | exact (hr0.alloc _).alloc _ | exact ((hr0.alloc _).alloc _).alloc _); rintro e w1 ⟨⟨d1, hd1, rfl⟩, hr1, ho1⟩; have hN1 : Only [rb] wq w1 := (by first | exact hN0.trans ho1 | exact (hN0.alloc _).trans ho1 | exact ((hN0.alloc _).alloc _).trans ho1 | exact (((hN0.alloc _).alloc _).alloc _).trans ho1); have hl1 := hr1.lt; have hz1 := hN1.size; have hR1 : Lst rb [.int .i64 0, .string ⟨#[]⟩, .slice none 0 0, .string ⟨#[]⟩, .slice none 0 0, .slice none 0 0, .slice none 0 0, .int .i64 0, .bool false] (w.heap.size + 1) w1 := Lst.only (by repeat (first | exact hR0 | with_reducible refine Lst.drew ?_ | with_reducible refine Lst.alloc ?_ _)) ho1; have hd : 1 ≤ d1 ∧ d1 ≤ 4 := (by simp at hd1; omega); have hsf1 := hrd0.only hN1 hnr)
    | (go_at_call 33; (with_reducible refine (zV 4 s _ sf _ _ rb (p + 1 + 1 + 1) _ hd.1 (by omega) (by omega) (by simp only [pcap]; omega) hfew hnice (by first | exact hsf1 | exact hsf1.below (za _ _) | exact hsf1.below (((Below.refl _ _).alloc (Nat.le_refl _) _).alloc (by simp) _)) hnr ?_).mono ?_); (first | exact hr1 | exact hr1.alloc _ | exact (hr1.alloc _).alloc _ | exact ((hr1.alloc _).alloc _).alloc _); rintro e w2 ⟨⟨t1, kv1, fo1, hs1, rfl, hnm1, hown1, hfo1⟩, hr2, ho2⟩; have hN2 : Only [rb] wq w2 := (by first | exact hN1.trans ho2 | exact (hN1.alloc _).trans ho2 | exact ((hN1.alloc _).alloc _).trans ho2 | exact (((hN1.alloc _).alloc _).alloc _).trans ho2); have hl2 := hr2.lt; have hz2 := hN2.size; have hR2 : Lst rb [.int .i64 0, .string ⟨#[]⟩, .slice none 0 0, .string ⟨#[]⟩, .slice none 0 0, .slice none 0 0, .slice none 0 0, .int .i64 0, .bool false] (w.heap.size + 1) w2 := Lst.only (by repeat (first | exact hR1 | with_reducible refine Lst.drew ?_ | with_reducible refine Lst.alloc ?_ _)) ho2; obtain ⟨ka, kc, hkv, hk1, hk2⟩ := hown1.form; rw [zdX] at hkv hk1; subst hkv; obtain ⟨fa, hra, hfa, _⟩ := hown1.fresh hfo1; have hfal := hfa.lt; have hsf2 := hrd0.only hN2 hnr)
    | (go_at_call 11; (with_reducible refine (zar 3 [1, 1, 2] [.int .i64 1, .int .i64 1, .int .i64 2] rfl rfl rb (p + 1 + 1 + 1 + pcap 4) _ _ (by simp only [pcap]; omega) (by simp) (by simp) ?_ ?_).mono ?_); (focus ((repeat (first | with_reducible assumption | ((with_reducible refine Lst.new ?_ _ _); (first | exact hl0 | exact hl1 | exact hl2 | omega | (simp; omega))) | ((with_reducible refine Lst.new1 ?_ _ _ _); (first | exact hl0 | exact hl1 | exact hl2 | omega | (simp; omega))) | ((with_reducible refine Lst.next2 ?_ _ _ _ _); (first | exact hl0 | exact hl1 | exact hl2 | omega | (simp; omega))) | with_reducible refine Lst.drew ?_ | with_reducible refine Lst.alloc ?_ _ | with_reducible refine Lst.only ?_ ho1 | with_reducible refine Lst.only ?_ ho2)); done)); (first | exact hr2 | exact hr2.alloc _ | exact (hr2.alloc _).alloc _ | exact ((hr2.alloc _).alloc _).alloc _); rintro e w3 ⟨⟨d3, hd3, rfl⟩, hr3, ho3⟩; have hN3 : Only [rb] wq w3 := (by first | exact hN2.trans ho3 | exact (hN2.alloc _).trans ho3 | exact ((hN2.alloc _).alloc _).trans ho3 | exact (((hN2.alloc _).alloc _).alloc _).trans ho3); have hl3 := hr3.lt; have hz3 := hN3.size; have hR3 : Lst rb [.int .i64 0, .string ⟨#[]⟩, .slice none 0 0, .string ⟨#[]⟩, .slice none 0 0, .slice none 0 0, .slice none 0 0, .int .i64 0, .bool false] (w.heap.size + 1) w3 := Lst.only (by repeat (first | exact hR2 | with_reducible refine Lst.drew ?_ | with_reducible refine Lst.alloc ?_ _)) ho3; have hd2 : 1 ≤ d3 ∧ d3 ≤ 4 := (by simp at hd3; omega); have hsf3 := hrd0.only hN3 hnr; have hM3 : Only [rb] w2 w3 := (by first | exact ho3 | exact (Only.below (za w2 _)).trans ho3 | exact (Only.below (((Below.refl w2.heap.size w2).alloc (Nat.le_refl _) _).alloc (by simp) _)).trans ho3))
    | (go_at_call 33; (with_reducible refine (zV 4 s _ sf _ _ rb (p + 1 + 1 + 1 + pcap 4 + 1) _ hd2.1 (by omega) (by omega) (by simp only [pcap]; omega) hfew hnice (by first | exact hsf3 | exact hsf3.below (za _ _) | exact hsf3.below (((Below.refl _ _).alloc (Nat.le_refl _) _).alloc (by simp) _)) hnr ?_).mono ?_); (first | exact hr3 | exact hr3.alloc _ | exact (hr3.alloc _).alloc _ | exact ((hr3.alloc _).alloc _).alloc _); rintro e w4 ⟨⟨t2, kv2, fo2, hs2, rfl, hnm2, hown2, hfo2⟩, hr4, ho4⟩; have hN4 : Only [rb] wq w4 := (by first | exact hN3.trans ho4 | exact (hN3.alloc _).trans ho4 | exact ((hN3.alloc _).alloc _).trans ho4 | exact (((hN3.alloc _).alloc _).alloc _).trans ho4); have hl4 := hr4.lt; have hz4 := hN4.size; have hR4 : Lst rb [.int .i64 0, .string ⟨#[]⟩, .slice none 0 0, .string ⟨#[]⟩, .slice none 0 0, .slice none 0 0, .slice none 0 0, .int .i64 0, .bool false] (w.heap.size + 1) w4 := Lst.only (by repeat (first | exact hR3 | with_reducible refine Lst.drew ?_ | with_reducible refine Lst.alloc ?_ _)) ho4; obtain ⟨kb, kd, hkv2, hk3, hk4⟩ := hown2.form; rw [zdX] at hkv2 hk3; subst hkv2; obtain ⟨fb, hrb, hfb, _⟩ := hown2.fresh hfo2; have hM4 : Only [rb] w3 w4 := (by first | exact ho4 | exact (Only.below (za w3 _)).trans ho4 | exact (Only.below (((Below.refl w3.heap.size w3).alloc (Nat.le_refl _) _).alloc (by simp) _)).trans ho4); have vf0 := hR4.2.2.2 0; have vc0 := hR4.2.2.1 0 _ rfl; have vf1 := hR4.2.2.2 1; have vc1 := hR4.2.2.1 1 _ rfl; have vf2 := hR4.2.2.2 2; have vc2 := hR4.2.2.1 2 _ rfl; have vf3 := hR4.2.2.2 3; have vc3 := hR4.2.2.1 3 _ rfl; have vf4 := hR4.2.2.2 4; have vc4 := hR4.2.2.1 4 _ rfl; have vf5 := hR4.2.2.2 5; have vc5 := hR4.2.2.1 5 _ rfl; have vf6 := hR4.2.2.2 6; have vc6 := hR4.2.2.1 6 _ rfl; have vf7 := hR4.2.2.2 7; have vc7 := hR4.2.2.1 7 _ rfl; have vf8 := hR4.2.2.2 8; have vc8 := hR4.2.2.1 8 _ rfl))
  all_goals
   have hra3 := hra.only hM3 (hfa.notin (by first | exact hl1 | (simp only [World.size_alloc]; omega)))
   have hra4 := hra3.only hM4 (hfa.notin (by first | exact hl1 | (simp only [World.size_alloc]; omega)))
   have A4 : AtOx w4 (w.heap.size + 1 + 1) ⟨1, t1, t2, [], [], 0, false⟩ ka kc fa kb kd fb none 0 none 0 [] := AtOx.eqn _ _ hnm1 hra4 hnm2 hrb (fun b hb => hb.elim (fun h => by have := (hfa.2 b h).1; (try simp only [World.size_alloc] at this); omega) (fun h => by have := (hfb.2 b h).1; (try simp only [World.size_alloc] at this); omega))
   have A5 := (A4.sets (b := w.heap.size + 1) [(0, .int .i64 1), (1, .string t1.name), (2, .slice ka t1.kids.length kc), (3, .string t2.name), (4, .slice kb t2.kids.length kd), (5, .slice none 0 0), (6, .slice none 0 0), (7, .int .i64 0), (8, .bool false)] (by omega)).mono (lo' := w.heap.size) (by omega)
   have O5 := Only.setsR (b := w.heap.size + 1) (by omega) [(0, .int .i64 1), (1, .string t1.name), (2, .slice ka t1.kids.length kc), (3, .string t2.name), (4, .slice kb t2.kids.length kd), (5, .slice none 0 0), (6, .slice none 0 0), (7, .int .i64 0), (8, .bool false)] (hNQ.out.trans hN4)
   have R9 := Rdr.sets (b := w.heap.size + 1) (by omega) [(0, .int .i64 1), (1, .string t1.name), (2, .slice ka t1.kids.length kc), (3, .string t2.name), (4, .slice kb t2.kids.length kd), (5, .slice none 0 0), (6, .slice none 0 0), (7, .int .i64 0), (8, .bool false)] (hr4.mono (q := p + 100) (by simp only [pcap]; omega))
   have NS := zI (u := w4) (b := w.heap.size + 1) (.int .i64 1) (.string t1.name) (.slice ka t1.kids.length kc) (.string t2.name) (.slice kb t2.kids.length kd) (.slice none 0 0) (.slice none 0 0) (.int .i64 0) (.bool false) (fun j hj => by
    rcases j with _ | _ | _ | _ | _ | _ | _ | _ | _ | j
    all_goals first | exact ⟨_, hR4.2.2.1 _ _ rfl⟩ | omega)
   clear A4 hra hra3 hra4 hrb hR4 hR3 hR2 hR1 hR0 hr4 hr3 hr2 hr1 hsf1 hsf2 hsf3 hrd0 hM3 hM4 hN4 hN3 hN2 hN1 hN0 ho1 ho2 ho3 ho4
   simp only [zi] at A5 O5 R9 NS
   obtain ⟨R0, R1, R2, R3, R4, R5, R6, R7, R8⟩ := NS
   go_wp2_with fail
   refine bodyPost_ret (v := .agg #[.int .i64 1, .string t1.name, .slice ka t1.kids.length kc, .string t2.name, .slice kb t2.kids.length kd, .slice none 0 0, .slice none 0 0, .int .i64 0, .bool false]) (by simp [results, Tryz.results31, go_sem, R0, R1, R2, R3, R4, R5, R6, R7, R8]) rfl ?_
   exact ⟨⟨⟨1, t1, t2, [], [], 0, false⟩, ka, kc, fa, kb, kd, fb, none, 0, none, 0, [], ⟨⟨by have := hs1.1; simp only [pcap] at this; show t1.size ≤ 100; omega, by have := hs1.1; have h2 := zbu t1 _ hs1.2; simp only [pcap] at this; show wtV t1.cd ≤ 500; omega⟩, ⟨by have := hs2.1; simp only [pcap] at this; show t2.size ≤ 100; omega, by have := hs2.1; have h2 := zbu t2 _ hs2.2; simp only [pcap] at this; show wtV t2.cd ≤ 500; omega⟩, by simp, rfl, by simp⟩, rfl, A5⟩, R9, O5⟩
 ·obtain rfl : d = 1 := by omega
  go_wp2_with fail
  refine (zar 6 [0, 1, -1, 2, 3, -4] [.int .i64 0, .int .i64 1, .int .i64 (-1), .int .i64 2, .int .i64 3, .int .i64 (-4)] rfl rfl rb (p + 1) _ _ (by omega) (by simp) (by simp) (by exact Lst.new hr1.lt _ _) (hr1.below (za _ _))).mono ?_
  rintro e w2 ⟨⟨bd, hbd, rfl⟩, hr2, ho2⟩
  have hb64 : I64 bd := by unfold I64; simp at hbd; omega
  have hNB := (hNA.alloc _).trans ho2
  have hRB := (hRA.alloc (.cells #[.int .i64 0, .int .i64 1, .int .i64 (-1), .int .i64 2, .int .i64 3, .int .i64 (-4)] 3)).only ho2
  have hXB := (hXA.alloc (.cells #[.int .i64 0, .int .i64 1, .int .i64 (-1), .int .i64 2, .int .i64 3, .int .i64 (-4)] 3)).only ho2
  have hzB := ho2.size
  rw [World.size_alloc] at hzB
  clear hNA hRA xA hXA ho2 hr1 hbd
  go_wp2_with fail
  refine (zz rb (p + 1 + 1) 3 _ (by omega) (by omega) (by omega) hr2).mono ?_
  rintro e w3 ⟨⟨m, hm, rfl⟩, hr3, ho3⟩
  have hNC := hNB.trans ho3
  have hRC := hRB.only ho3
  have hXC := hXB.only ho3
  have hzC := ho3.size
  clear hNB hRB hXB ho3 hr2
  obtain ⟨st, hst⟩ : ∃ st : Bool, st = ((m : Int) == 0) := ⟨_, rfl⟩
  go_upto_region 5 with fail
  rw [← hst]
  clear hst
  obtain ⟨bt, hbt⟩ : ∃ b, b = w3.heap.size := ⟨_, rfl⟩
  have hV0 : Lst rb [.int .i64 2, .string ⟨#[]⟩, .slice none 0 0, .string ⟨#[]⟩, .slice none 0 0, .slice none 0 0, .slice none 0 0, .int .i64 bd, .bool st] bt (w3.alloc (.cells #[.int .i64 2, .string ⟨#[]⟩, .slice none 0 0, .string ⟨#[]⟩, .slice none 0 0, .slice none 0 0, .slice none 0 0, .int .i64 bd, .bool st] 28)) := by rw [hbt]; exact Lst.new hr3.lt _ _
  have hRD := hRC.alloc (.cells #[.int .i64 2, .string ⟨#[]⟩, .slice none 0 0, .string ⟨#[]⟩, .slice none 0 0, .slice none 0 0, .slice none 0 0, .int .i64 bd, .bool st] 28)
  have hXD := hXC.alloc (.cells #[.int .i64 2, .string ⟨#[]⟩, .slice none 0 0, .string ⟨#[]⟩, .slice none 0 0, .slice none 0 0, .slice none 0 0, .int .i64 bd, .bool st] 28)
  have hr4 := hr3.alloc (.cells #[.int .i64 2, .string ⟨#[]⟩, .slice none 0 0, .string ⟨#[]⟩, .slice none 0 0, .slice none 0 0, .slice none 0 0, .int .i64 bd, .bool st] 28)
  have hND := hNC.alloc (.cells #[.int .i64 2, .string ⟨#[]⟩, .slice none 0 0, .string ⟨#[]⟩, .slice none 0 0, .slice none 0 0, .slice none 0 0, .int .i64 bd, .bool st] 28)
  have hbt1 : w.heap.size + 1 + 1 ≤ bt := by omega
  have hbtz : bt + 1 ≤ (w3.alloc (.cells #[.int .i64 2, .string ⟨#[]⟩, .slice none 0 0, .string ⟨#[]⟩, .slice none 0 0, .slice none 0 0, .slice none 0 0, .int .i64 bd, .bool st] 28)).heap.size := by rw [World.size_alloc]; omega
  rw [← hbt]
  generalize w3.alloc (.cells #[.int .i64 2, .string ⟨#[]⟩, .slice none 0 0, .string ⟨#[]⟩, .slice none 0 0, .slice none 0 0, .slice none 0 0, .int .i64 bd, .bool st] 28) = w4 at *
  clear hbt hRC hXC hr3 hNC hzC hzB hzA hm
  go_wp2_with fail
  refine (zar 4 [1, 2, 2, 3] [.int .i64 1, .int .i64 2, .int .i64 2, .int .i64 3] rfl rfl rb (p + 1 + 1 + 1) _ _ (by omega) (by simp) (by simp) (by exact Lst.new hr4.lt _ _) (hr4.below (za _ _))).mono ?_
  rintro e w5 ⟨⟨n0, hn0, rfl⟩, hr5, ho5⟩
  obtain ⟨n, rfl, hn3⟩ : ∃ n : Nat, n0 = (n : Int) ∧ n ≤ 3 := ⟨n0.toNat, by simp at hn0; omega, by simp at hn0; omega⟩
  have hV5 := (hV0.alloc (.cells #[.int .i64 1, .int .i64 2, .int .i64 2, .int .i64 3] 3)).only ho5
  have hR5 := (hRD.alloc (.cells #[.int .i64 1, .int .i64 2, .int .i64 2, .int .i64 3] 3)).only ho5
  have hX5 := (hXD.alloc (.cells #[.int .i64 1, .int .i64 2, .int .i64 2, .int .i64 3] 3)).only ho5
  have hN5 := (hND.alloc _).trans ho5
  have hz5 := ho5.size
  rw [World.size_alloc] at hz5
  clear hV0 hRD hXD hND ho5 hr4 hn0
  go_wp2_with fail
  go_loopw [7] (fun iv wr => ∃ (n : Nat) (y : Atm) (a5 : Option Addr) (c5 : Nat) (a6 : Option Addr) (c6 : Nat) (fn : List Nat) (q : Nat), iv = .int .i64 n ∧ n + y.nums.length ≤ 3 ∧ q + n * 20 ≤ p + 90 ∧ Hid (y.kind = 2 ∧ y.a = .mk ⟨#[]⟩ [] ∧ y.b = .mk ⟨#[]⟩ [] ∧ y.times.length = y.nums.length) ∧ Hid (∀ u ∈ y.nums, u.good) ∧ AtOx wr (bt + 1) y none 0 [] none 0 [] a5 c5 a6 c6 fn ∧ Lst rb [.int .i64 y.kind, .string y.a.name, .slice none y.a.kids.length 0, .string y.b.name, .slice none y.b.kids.length 0, .slice a5 y.nums.length c5, .slice a6 y.times.length c6, .int .i64 y.bound, .bool y.strict] bt wr ∧ Lst rb [.slice a0 s.syms.length c0] w.heap.size wr ∧ Lst rb [.int .i64 0, .string ⟨#[]⟩, .slice none 0 0, .string ⟨#[]⟩, .slice none 0 0, .slice none 0 0, .slice none 0 0, .int .i64 0, .bool false] (w.heap.size + 1) wr ∧ Rdr wr rb q ∧ Only [rb] w wr ∧ bt + 1 ≤ wr.heap.size) (fun iv _ => (intOf iv).toNat)
  case atStart => exact ⟨n, ⟨2, .mk ⟨#[]⟩ [], .mk ⟨#[]⟩ [], [], [], bd, st⟩, none, 0, none, 0, [], p + 1 + 1 + 1 + 1, rfl, by simp; omega, by omega, Lib.hid ⟨rfl, rfl, rfl, rfl⟩, Lib.hid (by simp), AtOx.zero _ _ _ (by unfold I64; simp) hb64, hV5, hX5, hR5, hr5, hN5, by omega⟩
  case round =>
   clear hV5 hX5 hR5 hr5 hN5
   obtain ⟨n, y, a5, c5, a6, c6, fn, q, rfl, hny, hq, HY, HG, AO, hV, hX, hRS, hrr, hNW, hzr⟩ := hrel
   by_cases hn : (0 : Int) < (n : Int)
   ·have hrd0 := hrd.only hNW hnr
    go_upto_region 8 with fail
    refine Till.start (F := (fun U : World => Lst rb [.int .i64 y.kind, .string y.a.name, .slice none y.a.kids.length 0, .string y.b.name, .slice none y.b.kids.length 0, .slice a5 y.nums.length c5, .slice a6 y.times.length c6, .int .i64 y.bound, .bool y.strict] bt U ∧ Lst rb [.slice a0 s.syms.length c0] w.heap.size U)) (s0 := 11) (by kernel_rfl) ?_
    have hF : (fun U : World => Lst rb [.int .i64 y.kind, .string y.a.name, .slice none y.a.kids.length 0, .string y.b.name, .slice none y.b.kids.length 0, .slice a5 y.nums.length c5, .slice a6 y.times.length c6, .int .i64 y.bound, .bool y.strict] bt U ∧ Lst rb [.slice a0 s.syms.length c0] w.heap.size U) wr.drew := ⟨hV, hX⟩
    have hRd : Rdr wr.drew rb q := hrr
    have hN : Only [rb] wr wr.drew := Only.below (zd wr)
    generalize wr.drew = v0 at hF hRd hN ⊢
    refine Till.take (i := 0) (v := (.agg #[.int .i64 y.kind, .string y.a.name, .slice none y.a.kids.length 0, .string y.b.name, .slice none y.b.kids.length 0, .slice a5 y.nums.length c5, .slice a6 y.times.length c6, .int .i64 y.bound, .bool y.strict])) rfl (by kernel_rfl) (by kernel_rfl) (by kernel_rfl) (fun _ _ _ h => h) (by kernel_rfl) (Or.inl ⟨by rfl, fun U hU => ?_⟩) hF ?_
    ·have u0 := hU.1.2.2.1 0 _ rfl; have u1 := hU.1.2.2.1 1 _ rfl; have u2 := hU.1.2.2.1 2 _ rfl; have u3 := hU.1.2.2.1 3 _ rfl; have u4 := hU.1.2.2.1 4 _ rfl; have u5 := hU.1.2.2.1 5 _ rfl; have u6 := hU.1.2.2.1 6 _ rfl; have u7 := hU.1.2.2.1 7 _ rfl; have u8 := hU.1.2.2.1 8 _ rfl; have ux := hU.2.2.2.1 0 _ rfl; clear hU; go_simp
    try simp only [Act.put, zdK, zdL, zdM]
    refine Till.take (i := 1) (v := (.pointer (some ⟨rb, 0, none⟩))) rfl (by kernel_rfl) (by kernel_rfl) (by kernel_rfl) (fun _ _ _ h => h) (by kernel_rfl) (Or.inl ⟨by rfl, fun U hU => ?_⟩) hF ?_
    ·have u0 := hU.1.2.2.1 0 _ rfl; have u1 := hU.1.2.2.1 1 _ rfl; have u2 := hU.1.2.2.1 2 _ rfl; have u3 := hU.1.2.2.1 3 _ rfl; have u4 := hU.1.2.2.1 4 _ rfl; have u5 := hU.1.2.2.1 5 _ rfl; have u6 := hU.1.2.2.1 6 _ rfl; have u7 := hU.1.2.2.1 7 _ rfl; have u8 := hU.1.2.2.1 8 _ rfl; have ux := hU.2.2.2.1 0 _ rfl; clear hU; go_simp
    try simp only [Act.put, zdK, zdL, zdM]
    refine Till.take (i := 2) (v := (.agg #[.slice a0 s.syms.length c0])) rfl (by kernel_rfl) (by kernel_rfl) (by kernel_rfl) (fun _ _ _ h => h) (by kernel_rfl) (Or.inl ⟨by rfl, fun U hU => ?_⟩) hF ?_
    ·have u0 := hU.1.2.2.1 0 _ rfl; have u1 := hU.1.2.2.1 1 _ rfl; have u2 := hU.1.2.2.1 2 _ rfl; have u3 := hU.1.2.2.1 3 _ rfl; have u4 := hU.1.2.2.1 4 _ rfl; have u5 := hU.1.2.2.1 5 _ rfl; have u6 := hU.1.2.2.1 6 _ rfl; have u7 := hU.1.2.2.1 7 _ rfl; have u8 := hU.1.2.2.1 8 _ rfl; have ux := hU.2.2.2.1 0 _ rfl; clear hU; go_simp
    try simp only [Act.put, zdK, zdL, zdM]
    refine Till.take (i := 3) (v := (.pointer (some ⟨rb, 0, none⟩))) rfl (by kernel_rfl) (by kernel_rfl) (by kernel_rfl) (fun _ _ _ h => h) (by kernel_rfl) (Or.inl ⟨by rfl, fun U hU => ?_⟩) hF ?_
    ·have u0 := hU.1.2.2.1 0 _ rfl; have u1 := hU.1.2.2.1 1 _ rfl; have u2 := hU.1.2.2.1 2 _ rfl; have u3 := hU.1.2.2.1 3 _ rfl; have u4 := hU.1.2.2.1 4 _ rfl; have u5 := hU.1.2.2.1 5 _ rfl; have u6 := hU.1.2.2.1 6 _ rfl; have u7 := hU.1.2.2.1 7 _ rfl; have u8 := hU.1.2.2.1 8 _ rfl; have ux := hU.2.2.2.1 0 _ rfl; clear hU; go_simp
    try simp only [Act.put, zdK, zdL, zdM]
    refine Till.take (i := 7) (v := (.pointer (some ⟨rb, 0, none⟩))) rfl (by kernel_rfl) (by kernel_rfl) (by kernel_rfl) (fun _ _ _ h => h) (by kernel_rfl) (Or.inl ⟨by rfl, fun U hU => ?_⟩) hF ?_
    ·have u0 := hU.1.2.2.1 0 _ rfl; have u1 := hU.1.2.2.1 1 _ rfl; have u2 := hU.1.2.2.1 2 _ rfl; have u3 := hU.1.2.2.1 3 _ rfl; have u4 := hU.1.2.2.1 4 _ rfl; have u5 := hU.1.2.2.1 5 _ rfl; have u6 := hU.1.2.2.1 6 _ rfl; have u7 := hU.1.2.2.1 7 _ rfl; have u8 := hU.1.2.2.1 8 _ rfl; have ux := hU.2.2.2.1 0 _ rfl; clear hU; go_simp
    try simp only [Act.put, zdK, zdL, zdM]
    refine Till.two (i := 4) (j := 8) (by kernel_rfl) rfl rfl (fun K hK => ?_) (fun K hK => ?_)
    ·skip
     go_simp
     have hl4 : Lst rb [.int .i64 1, .int .i64 1, .int .i64 2] (v0).heap.size ((v0).alloc (.cells #[.int .i64 1, .int .i64 1, .int .i64 2] 3)) := Lst.new hRd.lt _ _
     have hBn := za (v0) (.cells #[.int .i64 1, .int .i64 1, .int .i64 2] 3)
     replace hRd := hRd.alloc (.cells #[.int .i64 1, .int .i64 1, .int .i64 2] 3)
     replace hN := hN.alloc (.cells #[.int .i64 1, .int .i64 1, .int .i64 2] 3)
     replace hF : (fun U : World => Lst rb [.int .i64 y.kind, .string y.a.name, .slice none y.a.kids.length 0, .string y.b.name, .slice none y.b.kids.length 0, .slice a5 y.nums.length c5, .slice a6 y.times.length c6, .int .i64 y.bound, .bool y.strict] bt U ∧ Lst rb [.slice a0 s.syms.length c0] w.heap.size U) _ := ⟨hF.1.alloc (.cells #[.int .i64 1, .int .i64 1, .int .i64 2] 3), hF.2.alloc (.cells #[.int .i64 1, .int .i64 1, .int .i64 2] 3)⟩
     clear hBn
     generalize (v0).alloc (.cells #[.int .i64 1, .int .i64 1, .int .i64 2] 3) = v1 at *
     refine hK.out _ _ (fun _ => hF) ?_
     clear hK
     try simp only [Act.put, zdK, zdL, zdM]
     refine Till.two (i := 5) (j := 8) (by kernel_rfl) rfl rfl (fun K hK => ?_) (fun K hK => ?_)
     ·skip
      go_simp; go_at_call 11
      refine (zar 3 [1, 1, 2] [.int .i64 1, .int .i64 1, .int .i64 2] rfl rfl rb q _ _ (by (try simp only [pcap]); omega) (by simp) (by simp) (by exact hl4) (by exact hRd)).mono ?_
      rintro e v2 ⟨⟨dv, hdv, rfl⟩, hRn, ho⟩
      have hdv' : 1 ≤ dv ∧ dv ≤ 4 := (by simp at hdv; omega)
      clear hRd
      have hRd := hRn
      clear hRn
      replace hN := hN.trans ho
      replace hF : (fun U : World => Lst rb [.int .i64 y.kind, .string y.a.name, .slice none y.a.kids.length 0, .string y.b.name, .slice none y.b.kids.length 0, .slice a5 y.nums.length c5, .slice a6 y.times.length c6, .int .i64 y.bound, .bool y.strict] bt U ∧ Lst rb [.slice a0 s.syms.length c0] w.heap.size U) _ := ⟨hF.1.only ho, hF.2.only ho⟩
      clear ho hdv hl4
      refine hK.out _ _ (fun _ => hF) ?_
      clear hK
      try simp only [Act.put, zdK, zdL, zdM]
      refine Till.two (i := 6) (j := 8) (by kernel_rfl) rfl rfl (fun K hK => ?_) (fun K hK => ?_)
      ·skip
       go_simp; go_at_call 33
       refine (zV 4 s _ sf _ _ rb (q + 1) _ hdv'.1 (by omega) (by omega) (by simp only [pcap]; omega) hfew hnice (by exact hrd0.only hN hnr) hnr (by exact hRd)).mono ?_
       rintro e v3 ⟨⟨t, kv, fo, hs, rfl, hnm, hown, hfo⟩, hRn, ho⟩
       obtain ⟨ka, kc, hkv, hk1, hk2⟩ := hown.form; rw [zdX] at hkv hk1; subst hkv; obtain ⟨fa, hra, hfa, _⟩ := hown.fresh hfo
       have hzz := hN.size
       have hfa' : ∀ b ∈ fa, bt + 1 ≤ b := fun b hb => by have := (hfa.2 b hb).1; omega
       clear hown hfo hfa hzz
       clear hRd
       have hRd := hRn
       clear hRn
       replace hN := hN.trans ho
       replace hF : (fun U : World => Lst rb [.int .i64 y.kind, .string y.a.name, .slice none y.a.kids.length 0, .string y.b.name, .slice none y.b.kids.length 0, .slice a5 y.nums.length c5, .slice a6 y.times.length c6, .int .i64 y.bound, .bool y.strict] bt U ∧ Lst rb [.slice a0 s.syms.length c0] w.heap.size U) _ := ⟨hF.1.only ho, hF.2.only ho⟩
       clear ho
       refine hK.out _ _ (fun _ => hF) ?_
       clear hK
       try simp only [Act.put, zdK, zdL, zdM]
       refine Till.one (i := 8) (by kernel_rfl) rfl (fun K hK => ?_)
       go_simp
       have hl8 : Lst rb [.int .i64 1, .int .i64 (-1), .int .i64 1, .int .i64 (-1), .int .i64 2, .int .i64 (-2)] (v3).heap.size ((v3).alloc (.cells #[.int .i64 1, .int .i64 (-1), .int .i64 1, .int .i64 (-1), .int .i64 2, .int .i64 (-2)] 3)) := Lst.new hRd.lt _ _
       have hBn := za (v3) (.cells #[.int .i64 1, .int .i64 (-1), .int .i64 1, .int .i64 (-1), .int .i64 2, .int .i64 (-2)] 3)
       replace hRd := hRd.alloc (.cells #[.int .i64 1, .int .i64 (-1), .int .i64 1, .int .i64 (-1), .int .i64 2, .int .i64 (-2)] 3)
       replace hN := hN.alloc (.cells #[.int .i64 1, .int .i64 (-1), .int .i64 1, .int .i64 (-1), .int .i64 2, .int .i64 (-2)] 3)
       replace hF : (fun U : World => Lst rb [.int .i64 y.kind, .string y.a.name, .slice none y.a.kids.length 0, .string y.b.name, .slice none y.b.kids.length 0, .slice a5 y.nums.length c5, .slice a6 y.times.length c6, .int .i64 y.bound, .bool y.strict] bt U ∧ Lst rb [.slice a0 s.syms.length c0] w.heap.size U) _ := ⟨hF.1.alloc (.cells #[.int .i64 1, .int .i64 (-1), .int .i64 1, .int .i64 (-1), .int .i64 2, .int .i64 (-2)] 3), hF.2.alloc (.cells #[.int .i64 1, .int .i64 (-1), .int .i64 1, .int .i64 (-1), .int .i64 2, .int .i64 (-2)] 3)⟩
       replace hra := hra.below hBn
       clear hBn
       generalize (v3).alloc (.cells #[.int .i64 1, .int .i64 (-1), .int .i64 1, .int .i64 (-1), .int .i64 2, .int .i64 (-2)] 3) = v4 at *
       refine hK.out _ _ (fun _ => hF) ?_
       clear hK
       try simp only [Act.put, zdK, zdL, zdM]
       refine Till.one (i := 9) (by kernel_rfl) rfl (fun K hK => ?_)
       go_simp; go_at_call 11
       refine (zar 6 [1, -1, 1, -1, 2, -2] [.int .i64 1, .int .i64 (-1), .int .i64 1, .int .i64 (-1), .int .i64 2, .int .i64 (-2)] rfl rfl rb (q + 1 + pcap 4) _ _ (by (try simp only [pcap]); omega) (by simp) (by simp) (by exact hl8) (by exact hRd)).mono ?_
       rintro e v5 ⟨⟨tv, htv, rfl⟩, hRn, ho⟩
       have htv' : I64 tv := (by simp at htv; unfold I64; omega)
       clear hRd
       have hRd := hRn
       clear hRn
       replace hN := hN.trans ho
       replace hF : (fun U : World => Lst rb [.int .i64 y.kind, .string y.a.name, .slice none y.a.kids.length 0, .string y.b.name, .slice none y.b.kids.length 0, .slice a5 y.nums.length c5, .slice a6 y.times.length c6, .int .i64 y.bound, .bool y.strict] bt U ∧ Lst rb [.slice a0 s.syms.length c0] w.heap.size U) _ := ⟨hF.1.only ho, hF.2.only ho⟩
       replace hra := hra.only ho (fun h => by have := hfa' _ h; omega)
       clear ho htv hl8
       refine hK.out _ _ (fun _ => hF) ?_
       clear hK
       try simp only [Act.put, zdK, zdL, zdM]
       refine Till.one (i := 10) (by kernel_rfl) rfl (fun K hK => ?_)
       go_simp; go_at_call 49
       have A1 := AO.only hN (by omega)
       obtain ⟨fy, hy, hfy⟩ := A1.rd
       refine (zaU y t tv _ _ fy fa _ HY.out.2.2.2.symm (by omega) HG.out ⟨by have := hs.1; simp only [pcap] at this; omega, hs.2⟩ htv' (by exact hy) (by exact Tm.close hnm hra)).mono ?_
       intro e v6 hpo
       obtain ⟨z, e5, g5, e6, g6, fz, z1, z2, z3, z4, z5, z6, z7, rfl, AZ, hbz⟩ := PutOut.at (lo := bt + 1) hpo A1.k A1.bd hfy hfa' (by have := hN.size; omega)
       have HZ := Lib.hid (And.intro z1 (And.intro z2 (And.intro z3 z6)))
       clear z1 z2 z3 z4 z6
       replace hRd := hRd.below hbz
       replace hN := hN.trans (Only.below hbz)
       replace hF : (fun U : World => Lst rb [.int .i64 y.kind, .string y.a.name, .slice none y.a.kids.length 0, .string y.b.name, .slice none y.b.kids.length 0, .slice a5 y.nums.length c5, .slice a6 y.times.length c6, .int .i64 y.bound, .bool y.strict] bt U ∧ Lst rb [.slice a0 s.syms.length c0] w.heap.size U) _ := ⟨hF.1.below hbz, hF.2.below hbz⟩
       clear hpo hy hfy A1 hra
       refine hK.out _ _ (fun _ => hF) ?_
       clear hK
       try simp only [Act.put, zdK, zdL, zdM]
       refine Till.one (i := 11) (by kernel_rfl) rfl (fun K hK => ?_)
       have hfr := hF.1.2.2.2
       have c20 := hF.1.2.2.1 0 _ rfl; have f20 := hfr 0
       have c21 := hF.1.2.2.1 1 _ rfl; have f21 := hfr 1
       have c22 := hF.1.2.2.1 2 _ rfl; have f22 := hfr 2
       have c23 := hF.1.2.2.1 3 _ rfl; have f23 := hfr 3
       have c24 := hF.1.2.2.1 4 _ rfl; have f24 := hfr 4
       have c25 := hF.1.2.2.1 5 _ rfl; have f25 := hfr 5
       have c26 := hF.1.2.2.1 6 _ rfl; have f26 := hfr 6
       have c27 := hF.1.2.2.1 7 _ rfl; have f27 := hfr 7
       have c28 := hF.1.2.2.1 8 _ rfl; have f28 := hfr 8
       go_simp
       refine hK.out _ _ (fun h => absurd h (by decide)) ?_
       clear hK
       try simp only [Act.put, zdK, zdL, zdM]
       refine Till.done (by kernel_rfl) ?_ _
       all_goals
        have AZ' := AZ.sets (b := bt) [(0, .int .i64 z.kind), (1, .string z.a.name), (2, .slice none z.a.kids.length 0), (3, .string z.b.name), (4, .slice none z.b.kids.length 0), (5, .slice e5 z.nums.length g5), (6, .slice e6 z.times.length g6), (7, .int .i64 z.bound), (8, .bool z.strict)] (by omega)
        have hV' := Lst.nine (.int .i64 z.kind) (.string z.a.name) (.slice none z.a.kids.length 0) (.string z.b.name) (.slice none z.b.kids.length 0) (.slice e5 z.nums.length g5) (.slice e6 z.times.length g6) (.int .i64 z.bound) (.bool z.strict) hF.1
        have hX' := hF.2.sets_other (b := bt) (.inl (by omega)) [(0, .int .i64 z.kind), (1, .string z.a.name), (2, .slice none z.a.kids.length 0), (3, .string z.b.name), (4, .slice none z.b.kids.length 0), (5, .slice e5 z.nums.length g5), (6, .slice e6 z.times.length g6), (7, .int .i64 z.bound), (8, .bool z.strict)]
        have hRS' := (hRS.only hN).sets_other (b := bt) (.inl (by omega)) [(0, .int .i64 z.kind), (1, .string z.a.name), (2, .slice none z.a.kids.length 0), (3, .string z.b.name), (4, .slice none z.b.kids.length 0), (5, .slice e5 z.nums.length g5), (6, .slice e6 z.times.length g6), (7, .int .i64 z.bound), (8, .bool z.strict)]
        have hrr' := (Rdr.sets (b := bt) (by omega) [(0, .int .i64 z.kind), (1, .string z.a.name), (2, .slice none z.a.kids.length 0), (3, .string z.b.name), (4, .slice none z.b.kids.length 0), (5, .slice e5 z.nums.length g5), (6, .slice e6 z.times.length g6), (7, .int .i64 z.bound), (8, .bool z.strict)] hRd).mono (q := q + 20) (by simp only [pcap]; omega)
        have hNW' := Only.setsR (b := bt) (by omega) [(0, .int .i64 z.kind), (1, .string z.a.name), (2, .slice none z.a.kids.length 0), (3, .string z.b.name), (4, .slice none z.b.kids.length 0), (5, .slice e5 z.nums.length g5), (6, .slice e6 z.times.length g6), (7, .int .i64 z.bound), (8, .bool z.strict)] (hNW.trans hN)
        have hsz' := hNW'.size
        simp only [zi] at AZ' hV' hX' hRS' hrr' hNW' hsz'
        clear AZ hF hRS hRd hNW hN AO hV hX hrr hrd0
        generalize (((((((((v6.setCell ⟨bt, 0, none⟩ (.int .i64 z.kind)).setCell ⟨bt, 1, none⟩ (.string z.a.name)).setCell ⟨bt, 2, none⟩ (.slice none z.a.kids.length 0)).setCell ⟨bt, 3, none⟩ (.string z.b.name)).setCell ⟨bt, 4, none⟩ (.slice none z.b.kids.length 0)).setCell ⟨bt, 5, none⟩ (.slice e5 z.nums.length g5)).setCell ⟨bt, 6, none⟩ (.slice e6 z.times.length g6)).setCell ⟨bt, 7, none⟩ (.int .i64 z.bound)).setCell ⟨bt, 8, none⟩ (.bool z.strict)) = W9 at *
        go_wp2_with fail
        go_roundw
        case rel => exact ⟨n - 1, z, e5, g5, e6, g6, fz, q + 20, by go_num, by omega, by omega, Lib.hid ⟨HZ.out.1.trans HY.out.1, HZ.out.2.1, HZ.out.2.2.1, HZ.out.2.2.2⟩, Lib.hid z7, AZ', hV', hX', hRS', hrr', hNW', hV'.2.1⟩
        case measure => simp [intOf]; omega
      ·skip
       go_simp
       have hl8 : Lst rb [.int .i64 1, .int .i64 (-1), .int .i64 1, .int .i64 (-1), .int .i64 2, .int .i64 (-2)] (v2).heap.size ((v2).alloc (.cells #[.int .i64 1, .int .i64 (-1), .int .i64 1, .int .i64 (-1), .int .i64 2, .int .i64 (-2)] 3)) := Lst.new hRd.lt _ _
       have hBn := za (v2) (.cells #[.int .i64 1, .int .i64 (-1), .int .i64 1, .int .i64 (-1), .int .i64 2, .int .i64 (-2)] 3)
       replace hRd := hRd.alloc (.cells #[.int .i64 1, .int .i64 (-1), .int .i64 1, .int .i64 (-1), .int .i64 2, .int .i64 (-2)] 3)
       replace hN := hN.alloc (.cells #[.int .i64 1, .int .i64 (-1), .int .i64 1, .int .i64 (-1), .int .i64 2, .int .i64 (-2)] 3)
       replace hF : (fun U : World => Lst rb [.int .i64 y.kind, .string y.a.name, .slice none y.a.kids.length 0, .string y.b.name, .slice none y.b.kids.length 0, .slice a5 y.nums.length c5, .slice a6 y.times.length c6, .int .i64 y.bound, .bool y.strict] bt U ∧ Lst rb [.slice a0 s.syms.length c0] w.heap.size U) _ := ⟨hF.1.alloc (.cells #[.int .i64 1, .int .i64 (-1), .int .i64 1, .int .i64 (-1), .int .i64 2, .int .i64 (-2)] 3), hF.2.alloc (.cells #[.int .i64 1, .int .i64 (-1), .int .i64 1, .int .i64 (-1), .int .i64 2, .int .i64 (-2)] 3)⟩
       clear hBn
       generalize (v2).alloc (.cells #[.int .i64 1, .int .i64 (-1), .int .i64 1, .int .i64 (-1), .int .i64 2, .int .i64 (-2)] 3) = v3 at *
       refine hK.out _ _ (fun _ => hF) ?_
       clear hK
       try simp only [Act.put, zdK, zdL, zdM]
       refine Till.one (i := 6) (by kernel_rfl) rfl (fun K hK => ?_)
       go_simp; go_at_call 33
       refine (zV 4 s _ sf _ _ rb (q + 1) _ hdv'.1 (by omega) (by omega) (by simp only [pcap]; omega) hfew hnice (by exact hrd0.only hN hnr) hnr (by exact hRd)).mono ?_
       rintro e v4 ⟨⟨t, kv, fo, hs, rfl, hnm, hown, hfo⟩, hRn, ho⟩
       obtain ⟨ka, kc, hkv, hk1, hk2⟩ := hown.form; rw [zdX] at hkv hk1; subst hkv; obtain ⟨fa, hra, hfa, _⟩ := hown.fresh hfo
       have hzz := hN.size
       have hfa' : ∀ b ∈ fa, bt + 1 ≤ b := fun b hb => by have := (hfa.2 b hb).1; omega
       clear hown hfo hfa hzz
       clear hRd
       have hRd := hRn
       clear hRn
       replace hN := hN.trans ho
       replace hF : (fun U : World => Lst rb [.int .i64 y.kind, .string y.a.name, .slice none y.a.kids.length 0, .string y.b.name, .slice none y.b.kids.length 0, .slice a5 y.nums.length c5, .slice a6 y.times.length c6, .int .i64 y.bound, .bool y.strict] bt U ∧ Lst rb [.slice a0 s.syms.length c0] w.heap.size U) _ := ⟨hF.1.only ho, hF.2.only ho⟩
       replace hl8 := hl8.only ho
       clear ho
       refine hK.out _ _ (fun _ => hF) ?_
       clear hK
       try simp only [Act.put, zdK, zdL, zdM]
       refine Till.one (i := 9) (by kernel_rfl) rfl (fun K hK => ?_)
       go_simp; go_at_call 11
       refine (zar 6 [1, -1, 1, -1, 2, -2] [.int .i64 1, .int .i64 (-1), .int .i64 1, .int .i64 (-1), .int .i64 2, .int .i64 (-2)] rfl rfl rb (q + 1 + pcap 4) _ _ (by (try simp only [pcap]); omega) (by simp) (by simp) (by exact hl8) (by exact hRd)).mono ?_
       rintro e v5 ⟨⟨tv, htv, rfl⟩, hRn, ho⟩
       have htv' : I64 tv := (by simp at htv; unfold I64; omega)
       clear hRd
       have hRd := hRn
       clear hRn
       replace hN := hN.trans ho
       replace hF : (fun U : World => Lst rb [.int .i64 y.kind, .string y.a.name, .slice none y.a.kids.length 0, .string y.b.name, .slice none y.b.kids.length 0, .slice a5 y.nums.length c5, .slice a6 y.times.length c6, .int .i64 y.bound, .bool y.strict] bt U ∧ Lst rb [.slice a0 s.syms.length c0] w.heap.size U) _ := ⟨hF.1.only ho, hF.2.only ho⟩
       replace hra := hra.only ho (fun h => by have := hfa' _ h; omega)
       clear ho htv hl8
       refine hK.out _ _ (fun _ => hF) ?_
       clear hK
       try simp only [Act.put, zdK, zdL, zdM]
       refine Till.one (i := 10) (by kernel_rfl) rfl (fun K hK => ?_)
       go_simp; go_at_call 49
       have A1 := AO.only hN (by omega)
       obtain ⟨fy, hy, hfy⟩ := A1.rd
       refine (zaU y t tv _ _ fy fa _ HY.out.2.2.2.symm (by omega) HG.out ⟨by have := hs.1; simp only [pcap] at this; omega, hs.2⟩ htv' (by exact hy) (by exact Tm.close hnm hra)).mono ?_
       intro e v6 hpo
       obtain ⟨z, e5, g5, e6, g6, fz, z1, z2, z3, z4, z5, z6, z7, rfl, AZ, hbz⟩ := PutOut.at (lo := bt + 1) hpo A1.k A1.bd hfy hfa' (by have := hN.size; omega)
       have HZ := Lib.hid (And.intro z1 (And.intro z2 (And.intro z3 z6)))
       clear z1 z2 z3 z4 z6
       replace hRd := hRd.below hbz
       replace hN := hN.trans (Only.below hbz)
       replace hF : (fun U : World => Lst rb [.int .i64 y.kind, .string y.a.name, .slice none y.a.kids.length 0, .string y.b.name, .slice none y.b.kids.length 0, .slice a5 y.nums.length c5, .slice a6 y.times.length c6, .int .i64 y.bound, .bool y.strict] bt U ∧ Lst rb [.slice a0 s.syms.length c0] w.heap.size U) _ := ⟨hF.1.below hbz, hF.2.below hbz⟩
       clear hpo hy hfy A1 hra
       refine hK.out _ _ (fun _ => hF) ?_
       clear hK
       try simp only [Act.put, zdK, zdL, zdM]
       refine Till.one (i := 11) (by kernel_rfl) rfl (fun K hK => ?_)
       have hfr := hF.1.2.2.2
       have c20 := hF.1.2.2.1 0 _ rfl; have f20 := hfr 0
       have c21 := hF.1.2.2.1 1 _ rfl; have f21 := hfr 1
       have c22 := hF.1.2.2.1 2 _ rfl; have f22 := hfr 2
       have c23 := hF.1.2.2.1 3 _ rfl; have f23 := hfr 3
       have c24 := hF.1.2.2.1 4 _ rfl; have f24 := hfr 4
       have c25 := hF.1.2.2.1 5 _ rfl; have f25 := hfr 5
       have c26 := hF.1.2.2.1 6 _ rfl; have f26 := hfr 6
       have c27 := hF.1.2.2.1 7 _ rfl; have f27 := hfr 7
       have c28 := hF.1.2.2.1 8 _ rfl; have f28 := hfr 8
       go_simp
       refine hK.out _ _ (fun h => absurd h (by decide)) ?_
       clear hK
       try simp only [Act.put, zdK, zdL, zdM]
       refine Till.done (by kernel_rfl) ?_ _
       all_goals
        have AZ' := AZ.sets (b := bt) [(0, .int .i64 z.kind), (1, .string z.a.name), (2, .slice none z.a.kids.length 0), (3, .string z.b.name), (4, .slice none z.b.kids.length 0), (5, .slice e5 z.nums.length g5), (6, .slice e6 z.times.length g6), (7, .int .i64 z.bound), (8, .bool z.strict)] (by omega)
        have hV' := Lst.nine (.int .i64 z.kind) (.string z.a.name) (.slice none z.a.kids.length 0) (.string z.b.name) (.slice none z.b.kids.length 0) (.slice e5 z.nums.length g5) (.slice e6 z.times.length g6) (.int .i64 z.bound) (.bool z.strict) hF.1
        have hX' := hF.2.sets_other (b := bt) (.inl (by omega)) [(0, .int .i64 z.kind), (1, .string z.a.name), (2, .slice none z.a.kids.length 0), (3, .string z.b.name), (4, .slice none z.b.kids.length 0), (5, .slice e5 z.nums.length g5), (6, .slice e6 z.times.length g6), (7, .int .i64 z.bound), (8, .bool z.strict)]
        have hRS' := (hRS.only hN).sets_other (b := bt) (.inl (by omega)) [(0, .int .i64 z.kind), (1, .string z.a.name), (2, .slice none z.a.kids.length 0), (3, .string z.b.name), (4, .slice none z.b.kids.length 0), (5, .slice e5 z.nums.length g5), (6, .slice e6 z.times.length g6), (7, .int .i64 z.bound), (8, .bool z.strict)]
        have hrr' := (Rdr.sets (b := bt) (by omega) [(0, .int .i64 z.kind), (1, .string z.a.name), (2, .slice none z.a.kids.length 0), (3, .string z.b.name), (4, .slice none z.b.kids.length 0), (5, .slice e5 z.nums.length g5), (6, .slice e6 z.times.length g6), (7, .int .i64 z.bound), (8, .bool z.strict)] hRd).mono (q := q + 20) (by simp only [pcap]; omega)
        have hNW' := Only.setsR (b := bt) (by omega) [(0, .int .i64 z.kind), (1, .string z.a.name), (2, .slice none z.a.kids.length 0), (3, .string z.b.name), (4, .slice none z.b.kids.length 0), (5, .slice e5 z.nums.length g5), (6, .slice e6 z.times.length g6), (7, .int .i64 z.bound), (8, .bool z.strict)] (hNW.trans hN)
        have hsz' := hNW'.size
        simp only [zi] at AZ' hV' hX' hRS' hrr' hNW' hsz'
        clear AZ hF hRS hRd hNW hN AO hV hX hrr hrd0
        generalize (((((((((v6.setCell ⟨bt, 0, none⟩ (.int .i64 z.kind)).setCell ⟨bt, 1, none⟩ (.string z.a.name)).setCell ⟨bt, 2, none⟩ (.slice none z.a.kids.length 0)).setCell ⟨bt, 3, none⟩ (.string z.b.name)).setCell ⟨bt, 4, none⟩ (.slice none z.b.kids.length 0)).setCell ⟨bt, 5, none⟩ (.slice e5 z.nums.length g5)).setCell ⟨bt, 6, none⟩ (.slice e6 z.times.length g6)).setCell ⟨bt, 7, none⟩ (.int .i64 z.bound)).setCell ⟨bt, 8, none⟩ (.bool z.strict)) = W9 at *
        go_wp2_with fail
        go_roundw
        case rel => exact ⟨n - 1, z, e5, g5, e6, g6, fz, q + 20, by go_num, by omega, by omega, Lib.hid ⟨HZ.out.1.trans HY.out.1, HZ.out.2.1, HZ.out.2.2.1, HZ.out.2.2.2⟩, Lib.hid z7, AZ', hV', hX', hRS', hrr', hNW', hV'.2.1⟩
        case measure => simp [intOf]; omega
     ·skip
      go_simp
      have hl8 : Lst rb [.int .i64 1, .int .i64 (-1), .int .i64 1, .int .i64 (-1), .int .i64 2, .int .i64 (-2)] (v1).heap.size ((v1).alloc (.cells #[.int .i64 1, .int .i64 (-1), .int .i64 1, .int .i64 (-1), .int .i64 2, .int .i64 (-2)] 3)) := Lst.new hRd.lt _ _
      have hBn := za (v1) (.cells #[.int .i64 1, .int .i64 (-1), .int .i64 1, .int .i64 (-1), .int .i64 2, .int .i64 (-2)] 3)
      replace hRd := hRd.alloc (.cells #[.int .i64 1, .int .i64 (-1), .int .i64 1, .int .i64 (-1), .int .i64 2, .int .i64 (-2)] 3)
      replace hN := hN.alloc (.cells #[.int .i64 1, .int .i64 (-1), .int .i64 1, .int .i64 (-1), .int .i64 2, .int .i64 (-2)] 3)
      replace hF : (fun U : World => Lst rb [.int .i64 y.kind, .string y.a.name, .slice none y.a.kids.length 0, .string y.b.name, .slice none y.b.kids.length 0, .slice a5 y.nums.length c5, .slice a6 y.times.length c6, .int .i64 y.bound, .bool y.strict] bt U ∧ Lst rb [.slice a0 s.syms.length c0] w.heap.size U) _ := ⟨hF.1.alloc (.cells #[.int .i64 1, .int .i64 (-1), .int .i64 1, .int .i64 (-1), .int .i64 2, .int .i64 (-2)] 3), hF.2.alloc (.cells #[.int .i64 1, .int .i64 (-1), .int .i64 1, .int .i64 (-1), .int .i64 2, .int .i64 (-2)] 3)⟩
      replace hl4 := hl4.alloc (.cells #[.int .i64 1, .int .i64 (-1), .int .i64 1, .int .i64 (-1), .int .i64 2, .int .i64 (-2)] 3)
      clear hBn
      generalize (v1).alloc (.cells #[.int .i64 1, .int .i64 (-1), .int .i64 1, .int .i64 (-1), .int .i64 2, .int .i64 (-2)] 3) = v2 at *
      refine hK.out _ _ (fun _ => hF) ?_
      clear hK
      try simp only [Act.put, zdK, zdL, zdM]
      refine Till.one (i := 5) (by kernel_rfl) rfl (fun K hK => ?_)
      go_simp; go_at_call 11
      refine (zar 3 [1, 1, 2] [.int .i64 1, .int .i64 1, .int .i64 2] rfl rfl rb q _ _ (by (try simp only [pcap]); omega) (by simp) (by simp) (by exact hl4) (by exact hRd)).mono ?_
      rintro e v3 ⟨⟨dv, hdv, rfl⟩, hRn, ho⟩
      have hdv' : 1 ≤ dv ∧ dv ≤ 4 := (by simp at hdv; omega)
      clear hRd
      have hRd := hRn
      clear hRn
      replace hN := hN.trans ho
      replace hF : (fun U : World => Lst rb [.int .i64 y.kind, .string y.a.name, .slice none y.a.kids.length 0, .string y.b.name, .slice none y.b.kids.length 0, .slice a5 y.nums.length c5, .slice a6 y.times.length c6, .int .i64 y.bound, .bool y.strict] bt U ∧ Lst rb [.slice a0 s.syms.length c0] w.heap.size U) _ := ⟨hF.1.only ho, hF.2.only ho⟩
      replace hl8 := hl8.only ho
      clear ho hdv hl4
      refine hK.out _ _ (fun _ => hF) ?_
      clear hK
      try simp only [Act.put, zdK, zdL, zdM]
      refine Till.one (i := 6) (by kernel_rfl) rfl (fun K hK => ?_)
      go_simp; go_at_call 33
      refine (zV 4 s _ sf _ _ rb (q + 1) _ hdv'.1 (by omega) (by omega) (by simp only [pcap]; omega) hfew hnice (by exact hrd0.only hN hnr) hnr (by exact hRd)).mono ?_
      rintro e v4 ⟨⟨t, kv, fo, hs, rfl, hnm, hown, hfo⟩, hRn, ho⟩
      obtain ⟨ka, kc, hkv, hk1, hk2⟩ := hown.form; rw [zdX] at hkv hk1; subst hkv; obtain ⟨fa, hra, hfa, _⟩ := hown.fresh hfo
      have hzz := hN.size
      have hfa' : ∀ b ∈ fa, bt + 1 ≤ b := fun b hb => by have := (hfa.2 b hb).1; omega
      clear hown hfo hfa hzz
      clear hRd
      have hRd := hRn
      clear hRn
      replace hN := hN.trans ho
      replace hF : (fun U : World => Lst rb [.int .i64 y.kind, .string y.a.name, .slice none y.a.kids.length 0, .string y.b.name, .slice none y.b.kids.length 0, .slice a5 y.nums.length c5, .slice a6 y.times.length c6, .int .i64 y.bound, .bool y.strict] bt U ∧ Lst rb [.slice a0 s.syms.length c0] w.heap.size U) _ := ⟨hF.1.only ho, hF.2.only ho⟩
      replace hl8 := hl8.only ho
      clear ho
      refine hK.out _ _ (fun _ => hF) ?_
      clear hK
      try simp only [Act.put, zdK, zdL, zdM]
      refine Till.one (i := 9) (by kernel_rfl) rfl (fun K hK => ?_)
      go_simp; go_at_call 11
      refine (zar 6 [1, -1, 1, -1, 2, -2] [.int .i64 1, .int .i64 (-1), .int .i64 1, .int .i64 (-1), .int .i64 2, .int .i64 (-2)] rfl rfl rb (q + 1 + pcap 4) _ _ (by (try simp only [pcap]); omega) (by simp) (by simp) (by exact hl8) (by exact hRd)).mono ?_
      rintro e v5 ⟨⟨tv, htv, rfl⟩, hRn, ho⟩
      have htv' : I64 tv := (by simp at htv; unfold I64; omega)
      clear hRd
      have hRd := hRn
      clear hRn
      replace hN := hN.trans ho
      replace hF : (fun U : World => Lst rb [.int .i64 y.kind, .string y.a.name, .slice none y.a.kids.length 0, .string y.b.name, .slice none y.b.kids.length 0, .slice a5 y.nums.length c5, .slice a6 y.times.length c6, .int .i64 y.bound, .bool y.strict] bt U ∧ Lst rb [.slice a0 s.syms.length c0] w.heap.size U) _ := ⟨hF.1.only ho, hF.2.only ho⟩
      replace hra := hra.only ho (fun h => by have := hfa' _ h; omega)
      clear ho htv hl8
      refine hK.out _ _ (fun _ => hF) ?_
      clear hK
      try simp only [Act.put, zdK, zdL, zdM]
      refine Till.one (i := 10) (by kernel_rfl) rfl (fun K hK => ?_)
      go_simp; go_at_call 49
      have A1 := AO.only hN (by omega)
      obtain ⟨fy, hy, hfy⟩ := A1.rd
      refine (zaU y t tv _ _ fy fa _ HY.out.2.2.2.symm (by omega) HG.out ⟨by have := hs.1; simp only [pcap] at this; omega, hs.2⟩ htv' (by exact hy) (by exact Tm.close hnm hra)).mono ?_
      intro e v6 hpo
      obtain ⟨z, e5, g5, e6, g6, fz, z1, z2, z3, z4, z5, z6, z7, rfl, AZ, hbz⟩ := PutOut.at (lo := bt + 1) hpo A1.k A1.bd hfy hfa' (by have := hN.size; omega)
      have HZ := Lib.hid (And.intro z1 (And.intro z2 (And.intro z3 z6)))
      clear z1 z2 z3 z4 z6
      replace hRd := hRd.below hbz
      replace hN := hN.trans (Only.below hbz)
      replace hF : (fun U : World => Lst rb [.int .i64 y.kind, .string y.a.name, .slice none y.a.kids.length 0, .string y.b.name, .slice none y.b.kids.length 0, .slice a5 y.nums.length c5, .slice a6 y.times.length c6, .int .i64 y.bound, .bool y.strict] bt U ∧ Lst rb [.slice a0 s.syms.length c0] w.heap.size U) _ := ⟨hF.1.below hbz, hF.2.below hbz⟩
      clear hpo hy hfy A1 hra
      refine hK.out _ _ (fun _ => hF) ?_
      clear hK
      try simp only [Act.put, zdK, zdL, zdM]
      refine Till.one (i := 11) (by kernel_rfl) rfl (fun K hK => ?_)
      have hfr := hF.1.2.2.2
      have c20 := hF.1.2.2.1 0 _ rfl; have f20 := hfr 0
      have c21 := hF.1.2.2.1 1 _ rfl; have f21 := hfr 1
      have c22 := hF.1.2.2.1 2 _ rfl; have f22 := hfr 2
      have c23 := hF.1.2.2.1 3 _ rfl; have f23 := hfr 3
      have c24 := hF.1.2.2.1 4 _ rfl; have f24 := hfr 4
      have c25 := hF.1.2.2.1 5 _ rfl; have f25 := hfr 5
      have c26 := hF.1.2.2.1 6 _ rfl; have f26 := hfr 6
      have c27 := hF.1.2.2.1 7 _ rfl; have f27 := hfr 7
      have c28 := hF.1.2.2.1 8 _ rfl; have f28 := hfr 8
      go_simp
      refine hK.out _ _ (fun h => absurd h (by decide)) ?_
      clear hK
      try simp only [Act.put, zdK, zdL, zdM]
      refine Till.done (by kernel_rfl) ?_ _
      all_goals
       have AZ' := AZ.sets (b := bt) [(0, .int .i64 z.kind), (1, .string z.a.name), (2, .slice none z.a.kids.length 0), (3, .string z.b.name), (4, .slice none z.b.kids.length 0), (5, .slice e5 z.nums.length g5), (6, .slice e6 z.times.length g6), (7, .int .i64 z.bound), (8, .bool z.strict)] (by omega)
       have hV' := Lst.nine (.int .i64 z.kind) (.string z.a.name) (.slice none z.a.kids.length 0) (.string z.b.name) (.slice none z.b.kids.length 0) (.slice e5 z.nums.length g5) (.slice e6 z.times.length g6) (.int .i64 z.bound) (.bool z.strict) hF.1
       have hX' := hF.2.sets_other (b := bt) (.inl (by omega)) [(0, .int .i64 z.kind), (1, .string z.a.name), (2, .slice none z.a.kids.length 0), (3, .string z.b.name), (4, .slice none z.b.kids.length 0), (5, .slice e5 z.nums.length g5), (6, .slice e6 z.times.length g6), (7, .int .i64 z.bound), (8, .bool z.strict)]
       have hRS' := (hRS.only hN).sets_other (b := bt) (.inl (by omega)) [(0, .int .i64 z.kind), (1, .string z.a.name), (2, .slice none z.a.kids.length 0), (3, .string z.b.name), (4, .slice none z.b.kids.length 0), (5, .slice e5 z.nums.length g5), (6, .slice e6 z.times.length g6), (7, .int .i64 z.bound), (8, .bool z.strict)]
       have hrr' := (Rdr.sets (b := bt) (by omega) [(0, .int .i64 z.kind), (1, .string z.a.name), (2, .slice none z.a.kids.length 0), (3, .string z.b.name), (4, .slice none z.b.kids.length 0), (5, .slice e5 z.nums.length g5), (6, .slice e6 z.times.length g6), (7, .int .i64 z.bound), (8, .bool z.strict)] hRd).mono (q := q + 20) (by simp only [pcap]; omega)
       have hNW' := Only.setsR (b := bt) (by omega) [(0, .int .i64 z.kind), (1, .string z.a.name), (2, .slice none z.a.kids.length 0), (3, .string z.b.name), (4, .slice none z.b.kids.length 0), (5, .slice e5 z.nums.length g5), (6, .slice e6 z.times.length g6), (7, .int .i64 z.bound), (8, .bool z.strict)] (hNW.trans hN)
       have hsz' := hNW'.size
       simp only [zi] at AZ' hV' hX' hRS' hrr' hNW' hsz'
       clear AZ hF hRS hRd hNW hN AO hV hX hrr hrd0
       generalize (((((((((v6.setCell ⟨bt, 0, none⟩ (.int .i64 z.kind)).setCell ⟨bt, 1, none⟩ (.string z.a.name)).setCell ⟨bt, 2, none⟩ (.slice none z.a.kids.length 0)).setCell ⟨bt, 3, none⟩ (.string z.b.name)).setCell ⟨bt, 4, none⟩ (.slice none z.b.kids.length 0)).setCell ⟨bt, 5, none⟩ (.slice e5 z.nums.length g5)).setCell ⟨bt, 6, none⟩ (.slice e6 z.times.length g6)).setCell ⟨bt, 7, none⟩ (.int .i64 z.bound)).setCell ⟨bt, 8, none⟩ (.bool z.strict)) = W9 at *
       go_wp2_with fail
       go_roundw
       case rel => exact ⟨n - 1, z, e5, g5, e6, g6, fz, q + 20, by go_num, by omega, by omega, Lib.hid ⟨HZ.out.1.trans HY.out.1, HZ.out.2.1, HZ.out.2.2.1, HZ.out.2.2.2⟩, Lib.hid z7, AZ', hV', hX', hRS', hrr', hNW', hV'.2.1⟩
       case measure => simp [intOf]; omega
    ·skip
     go_simp
     have hl8 : Lst rb [.int .i64 1, .int .i64 (-1), .int .i64 1, .int .i64 (-1), .int .i64 2, .int .i64 (-2)] (v0).heap.size ((v0).alloc (.cells #[.int .i64 1, .int .i64 (-1), .int .i64 1, .int .i64 (-1), .int .i64 2, .int .i64 (-2)] 3)) := Lst.new hRd.lt _ _
     have hBn := za (v0) (.cells #[.int .i64 1, .int .i64 (-1), .int .i64 1, .int .i64 (-1), .int .i64 2, .int .i64 (-2)] 3)
     replace hRd := hRd.alloc (.cells #[.int .i64 1, .int .i64 (-1), .int .i64 1, .int .i64 (-1), .int .i64 2, .int .i64 (-2)] 3)
     replace hN := hN.alloc (.cells #[.int .i64 1, .int .i64 (-1), .int .i64 1, .int .i64 (-1), .int .i64 2, .int .i64 (-2)] 3)
     replace hF : (fun U : World => Lst rb [.int .i64 y.kind, .string y.a.name, .slice none y.a.kids.length 0, .string y.b.name, .slice none y.b.kids.length 0, .slice a5 y.nums.length c5, .slice a6 y.times.length c6, .int .i64 y.bound, .bool y.strict] bt U ∧ Lst rb [.slice a0 s.syms.length c0] w.heap.size U) _ := ⟨hF.1.alloc (.cells #[.int .i64 1, .int .i64 (-1), .int .i64 1, .int .i64 (-1), .int .i64 2, .int .i64 (-2)] 3), hF.2.alloc (.cells #[.int .i64 1, .int .i64 (-1), .int .i64 1, .int .i64 (-1), .int .i64 2, .int .i64 (-2)] 3)⟩
     clear hBn
     generalize (v0).alloc (.cells #[.int .i64 1, .int .i64 (-1), .int .i64 1, .int .i64 (-1), .int .i64 2, .int .i64 (-2)] 3) = v1 at *
     refine hK.out _ _ (fun _ => hF) ?_
     clear hK
     try simp only [Act.put, zdK, zdL, zdM]
     refine Till.one (i := 4) (by kernel_rfl) rfl (fun K hK => ?_)
     go_simp
     have hl4 : Lst rb [.int .i64 1, .int .i64 1, .int .i64 2] (v1).heap.size ((v1).alloc (.cells #[.int .i64 1, .int .i64 1, .int .i64 2] 3)) := Lst.new hRd.lt _ _
     have hBn := za (v1) (.cells #[.int .i64 1, .int .i64 1, .int .i64 2] 3)
     replace hRd := hRd.alloc (.cells #[.int .i64 1, .int .i64 1, .int .i64 2] 3)
     replace hN := hN.alloc (.cells #[.int .i64 1, .int .i64 1, .int .i64 2] 3)
     replace hF : (fun U : World => Lst rb [.int .i64 y.kind, .string y.a.name, .slice none y.a.kids.length 0, .string y.b.name, .slice none y.b.kids.length 0, .slice a5 y.nums.length c5, .slice a6 y.times.length c6, .int .i64 y.bound, .bool y.strict] bt U ∧ Lst rb [.slice a0 s.syms.length c0] w.heap.size U) _ := ⟨hF.1.alloc (.cells #[.int .i64 1, .int .i64 1, .int .i64 2] 3), hF.2.alloc (.cells #[.int .i64 1, .int .i64 1, .int .i64 2] 3)⟩
     replace hl8 := hl8.alloc (.cells #[.int .i64 1, .int .i64 1, .int .i64 2] 3)
     clear hBn
     generalize (v1).alloc (.cells #[.int .i64 1, .int .i64 1, .int .i64 2] 3) = v2 at *
     refine hK.out _ _ (fun _ => hF) ?_
     clear hK
     try simp only [Act.put, zdK, zdL, zdM]
     refine Till.one (i := 5) (by kernel_rfl) rfl (fun K hK => ?_)
     go_simp; go_at_call 11
     refine (zar 3 [1, 1, 2] [.int .i64 1, .int .i64 1, .int .i64 2] rfl rfl rb q _ _ (by (try simp only [pcap]); omega) (by simp) (by simp) (by exact hl4) (by exact hRd)).mono ?_
     rintro e v3 ⟨⟨dv, hdv, rfl⟩, hRn, ho⟩
     have hdv' : 1 ≤ dv ∧ dv ≤ 4 := (by simp at hdv; omega)
     clear hRd
     have hRd := hRn
     clear hRn
     replace hN := hN.trans ho
     replace hF : (fun U : World => Lst rb [.int .i64 y.kind, .string y.a.name, .slice none y.a.kids.length 0, .string y.b.name, .slice none y.b.kids.length 0, .slice a5 y.nums.length c5, .slice a6 y.times.length c6, .int .i64 y.bound, .bool y.strict] bt U ∧ Lst rb [.slice a0 s.syms.length c0] w.heap.size U) _ := ⟨hF.1.only ho, hF.2.only ho⟩
     replace hl8 := hl8.only ho
     clear ho hdv hl4
     refine hK.out _ _ (fun _ => hF) ?_
     clear hK
     try simp only [Act.put, zdK, zdL, zdM]
     refine Till.one (i := 6) (by kernel_rfl) rfl (fun K hK => ?_)
     go_simp; go_at_call 33
     refine (zV 4 s _ sf _ _ rb (q + 1) _ hdv'.1 (by omega) (by omega) (by simp only [pcap]; omega) hfew hnice (by exact hrd0.only hN hnr) hnr (by exact hRd)).mono ?_
     rintro e v4 ⟨⟨t, kv, fo, hs, rfl, hnm, hown, hfo⟩, hRn, ho⟩
     obtain ⟨ka, kc, hkv, hk1, hk2⟩ := hown.form; rw [zdX] at hkv hk1; subst hkv; obtain ⟨fa, hra, hfa, _⟩ := hown.fresh hfo
     have hzz := hN.size
     have hfa' : ∀ b ∈ fa, bt + 1 ≤ b := fun b hb => by have := (hfa.2 b hb).1; omega
     clear hown hfo hfa hzz
     clear hRd
     have hRd := hRn
     clear hRn
     replace hN := hN.trans ho
     replace hF : (fun U : World => Lst rb [.int .i64 y.kind, .string y.a.name, .slice none y.a.kids.length 0, .string y.b.name, .slice none y.b.kids.length 0, .slice a5 y.nums.length c5, .slice a6 y.times.length c6, .int .i64 y.bound, .bool y.strict] bt U ∧ Lst rb [.slice a0 s.syms.length c0] w.heap.size U) _ := ⟨hF.1.only ho, hF.2.only ho⟩
     replace hl8 := hl8.only ho
     clear ho
     refine hK.out _ _ (fun _ => hF) ?_
     clear hK
     try simp only [Act.put, zdK, zdL, zdM]
     refine Till.one (i := 9) (by kernel_rfl) rfl (fun K hK => ?_)
     go_simp; go_at_call 11
     refine (zar 6 [1, -1, 1, -1, 2, -2] [.int .i64 1, .int .i64 (-1), .int .i64 1, .int .i64 (-1), .int .i64 2, .int .i64 (-2)] rfl rfl rb (q + 1 + pcap 4) _ _ (by (try simp only [pcap]); omega) (by simp) (by simp) (by exact hl8) (by exact hRd)).mono ?_
     rintro e v5 ⟨⟨tv, htv, rfl⟩, hRn, ho⟩
     have htv' : I64 tv := (by simp at htv; unfold I64; omega)
     clear hRd
     have hRd := hRn
     clear hRn
     replace hN := hN.trans ho
     replace hF : (fun U : World => Lst rb [.int .i64 y.kind, .string y.a.name, .slice none y.a.kids.length 0, .string y.b.name, .slice none y.b.kids.length 0, .slice a5 y.nums.length c5, .slice a6 y.times.length c6, .int .i64 y.bound, .bool y.strict] bt U ∧ Lst rb [.slice a0 s.syms.length c0] w.heap.size U) _ := ⟨hF.1.only ho, hF.2.only ho⟩
     replace hra := hra.only ho (fun h => by have := hfa' _ h; omega)
     clear ho htv hl8
     refine hK.out _ _ (fun _ => hF) ?_
     clear hK
     try simp only [Act.put, zdK, zdL, zdM]
     refine Till.one (i := 10) (by kernel_rfl) rfl (fun K hK => ?_)
     go_simp; go_at_call 49
     have A1 := AO.only hN (by omega)
     obtain ⟨fy, hy, hfy⟩ := A1.rd
     refine (zaU y t tv _ _ fy fa _ HY.out.2.2.2.symm (by omega) HG.out ⟨by have := hs.1; simp only [pcap] at this; omega, hs.2⟩ htv' (by exact hy) (by exact Tm.close hnm hra)).mono ?_
     intro e v6 hpo
     obtain ⟨z, e5, g5, e6, g6, fz, z1, z2, z3, z4, z5, z6, z7, rfl, AZ, hbz⟩ := PutOut.at (lo := bt + 1) hpo A1.k A1.bd hfy hfa' (by have := hN.size; omega)
     have HZ := Lib.hid (And.intro z1 (And.intro z2 (And.intro z3 z6)))
     clear z1 z2 z3 z4 z6
     replace hRd := hRd.below hbz
     replace hN := hN.trans (Only.below hbz)
     replace hF : (fun U : World => Lst rb [.int .i64 y.kind, .string y.a.name, .slice none y.a.kids.length 0, .string y.b.name, .slice none y.b.kids.length 0, .slice a5 y.nums.length c5, .slice a6 y.times.length c6, .int .i64 y.bound, .bool y.strict] bt U ∧ Lst rb [.slice a0 s.syms.length c0] w.heap.size U) _ := ⟨hF.1.below hbz, hF.2.below hbz⟩
     clear hpo hy hfy A1 hra
     refine hK.out _ _ (fun _ => hF) ?_
     clear hK
     try simp only [Act.put, zdK, zdL, zdM]
     refine Till.one (i := 11) (by kernel_rfl) rfl (fun K hK => ?_)
     have hfr := hF.1.2.2.2
     have c20 := hF.1.2.2.1 0 _ rfl; have f20 := hfr 0
     have c21 := hF.1.2.2.1 1 _ rfl; have f21 := hfr 1
     have c22 := hF.1.2.2.1 2 _ rfl; have f22 := hfr 2
     have c23 := hF.1.2.2.1 3 _ rfl; have f23 := hfr 3
     have c24 := hF.1.2.2.1 4 _ rfl; have f24 := hfr 4
     have c25 := hF.1.2.2.1 5 _ rfl; have f25 := hfr 5
     have c26 := hF.1.2.2.1 6 _ rfl; have f26 := hfr 6
     have c27 := hF.1.2.2.1 7 _ rfl; have f27 := hfr 7
     have c28 := hF.1.2.2.1 8 _ rfl; have f28 := hfr 8
     go_simp
     refine hK.out _ _ (fun h => absurd h (by decide)) ?_
     clear hK
     try simp only [Act.put, zdK, zdL, zdM]
     refine Till.done (by kernel_rfl) ?_ _
     all_goals
      have AZ' := AZ.sets (b := bt) [(0, .int .i64 z.kind), (1, .string z.a.name), (2, .slice none z.a.kids.length 0), (3, .string z.b.name), (4, .slice none z.b.kids.length 0), (5, .slice e5 z.nums.length g5), (6, .slice e6 z.times.length g6), (7, .int .i64 z.bound), (8, .bool z.strict)] (by omega)
      have hV' := Lst.nine (.int .i64 z.kind) (.string z.a.name) (.slice none z.a.kids.length 0) (.string z.b.name) (.slice none z.b.kids.length 0) (.slice e5 z.nums.length g5) (.slice e6 z.times.length g6) (.int .i64 z.bound) (.bool z.strict) hF.1
      have hX' := hF.2.sets_other (b := bt) (.inl (by omega)) [(0, .int .i64 z.kind), (1, .string z.a.name), (2, .slice none z.a.kids.length 0), (3, .string z.b.name), (4, .slice none z.b.kids.length 0), (5, .slice e5 z.nums.length g5), (6, .slice e6 z.times.length g6), (7, .int .i64 z.bound), (8, .bool z.strict)]
      have hRS' := (hRS.only hN).sets_other (b := bt) (.inl (by omega)) [(0, .int .i64 z.kind), (1, .string z.a.name), (2, .slice none z.a.kids.length 0), (3, .string z.b.name), (4, .slice none z.b.kids.length 0), (5, .slice e5 z.nums.length g5), (6, .slice e6 z.times.length g6), (7, .int .i64 z.bound), (8, .bool z.strict)]
      have hrr' := (Rdr.sets (b := bt) (by omega) [(0, .int .i64 z.kind), (1, .string z.a.name), (2, .slice none z.a.kids.length 0), (3, .string z.b.name), (4, .slice none z.b.kids.length 0), (5, .slice e5 z.nums.length g5), (6, .slice e6 z.times.length g6), (7, .int .i64 z.bound), (8, .bool z.strict)] hRd).mono (q := q + 20) (by simp only [pcap]; omega)
      have hNW' := Only.setsR (b := bt) (by omega) [(0, .int .i64 z.kind), (1, .string z.a.name), (2, .slice none z.a.kids.length 0), (3, .string z.b.name), (4, .slice none z.b.kids.length 0), (5, .slice e5 z.nums.length g5), (6, .slice e6 z.times.length g6), (7, .int .i64 z.bound), (8, .bool z.strict)] (hNW.trans hN)
      have hsz' := hNW'.size
      simp only [zi] at AZ' hV' hX' hRS' hrr' hNW' hsz'
      clear AZ hF hRS hRd hNW hN AO hV hX hrr hrd0
      generalize (((((((((v6.setCell ⟨bt, 0, none⟩ (.int .i64 z.kind)).setCell ⟨bt, 1, none⟩ (.string z.a.name)).setCell ⟨bt, 2, none⟩ (.slice none z.a.kids.length 0)).setCell ⟨bt, 3, none⟩ (.string z.b.name)).setCell ⟨bt, 4, none⟩ (.slice none z.b.kids.length 0)).setCell ⟨bt, 5, none⟩ (.slice e5 z.nums.length g5)).setCell ⟨bt, 6, none⟩ (.slice e6 z.times.length g6)).setCell ⟨bt, 7, none⟩ (.int .i64 z.bound)).setCell ⟨bt, 8, none⟩ (.bool z.strict)) = W9 at *
      go_wp2_with fail
      go_roundw
      case rel => exact ⟨n - 1, z, e5, g5, e6, g6, fz, q + 20, by go_num, by omega, by omega, Lib.hid ⟨HZ.out.1.trans HY.out.1, HZ.out.2.1, HZ.out.2.2.1, HZ.out.2.2.2⟩, Lib.hid z7, AZ', hV', hX', hRS', hrr', hNW', hV'.2.1⟩
      case measure => simp [intOf]; omega
   ·obtain rfl : n = 0 := by omega
    have q0 := hV.2.2.1 0 _ rfl; have vc0 := hRS.2.2.1 0 _ rfl; have vf0 := hRS.2.2.2 0
    have q1 := hV.2.2.1 1 _ rfl; have vc1 := hRS.2.2.1 1 _ rfl; have vf1 := hRS.2.2.2 1
    have q2 := hV.2.2.1 2 _ rfl; have vc2 := hRS.2.2.1 2 _ rfl; have vf2 := hRS.2.2.2 2
    have q3 := hV.2.2.1 3 _ rfl; have vc3 := hRS.2.2.1 3 _ rfl; have vf3 := hRS.2.2.2 3
    have q4 := hV.2.2.1 4 _ rfl; have vc4 := hRS.2.2.1 4 _ rfl; have vf4 := hRS.2.2.2 4
    have q5 := hV.2.2.1 5 _ rfl; have vc5 := hRS.2.2.1 5 _ rfl; have vf5 := hRS.2.2.2 5
    have q6 := hV.2.2.1 6 _ rfl; have vc6 := hRS.2.2.1 6 _ rfl; have vf6 := hRS.2.2.2 6
    have q7 := hV.2.2.1 7 _ rfl; have vc7 := hRS.2.2.1 7 _ rfl; have vf7 := hRS.2.2.2 7
    have q8 := hV.2.2.1 8 _ rfl; have vc8 := hRS.2.2.1 8 _ rfl; have vf8 := hRS.2.2.2 8
    have A5 := (AO.sets (b := w.heap.size + 1) [(0, .int .i64 y.kind), (1, .string y.a.name), (2, .slice none y.a.kids.length 0), (3, .string y.b.name), (4, .slice none y.b.kids.length 0), (5, .slice a5 y.nums.length c5), (6, .slice a6 y.times.length c6), (7, .int .i64 y.bound), (8, .bool y.strict)] (by omega)).mono (lo' := w.heap.size) (by omega)
    have O5 := Only.setsR (b := w.heap.size + 1) (by omega) [(0, .int .i64 y.kind), (1, .string y.a.name), (2, .slice none y.a.kids.length 0), (3, .string y.b.name), (4, .slice none y.b.kids.length 0), (5, .slice a5 y.nums.length c5), (6, .slice a6 y.times.length c6), (7, .int .i64 y.bound), (8, .bool y.strict)] hNW
    have R9 := Rdr.sets (b := w.heap.size + 1) (by omega) [(0, .int .i64 y.kind), (1, .string y.a.name), (2, .slice none y.a.kids.length 0), (3, .string y.b.name), (4, .slice none y.b.kids.length 0), (5, .slice a5 y.nums.length c5), (6, .slice a6 y.times.length c6), (7, .int .i64 y.bound), (8, .bool y.strict)] (hrr.mono (q := p + 100) (by omega))
    have NS := zI (u := wr) (b := w.heap.size + 1) (.int .i64 y.kind) (.string y.a.name) (.slice none y.a.kids.length 0) (.string y.b.name) (.slice none y.b.kids.length 0) (.slice a5 y.nums.length c5) (.slice a6 y.times.length c6) (.int .i64 y.bound) (.bool y.strict) (fun j hj => by
     rcases j with _ | _ | _ | _ | _ | _ | _ | _ | _ | j
     all_goals first | exact ⟨_, hRS.2.2.1 _ _ rfl⟩ | omega)
    clear hV hX hRS hrr hNW AO
    simp only [zi] at A5 O5 R9 NS
    obtain ⟨R0, R1, R2, R3, R4, R5, R6, R7, R8⟩ := NS
    go_wp2_with fail
    refine bodyPost_ret (v := .agg #[.int .i64 y.kind, .string y.a.name, .slice none y.a.kids.length 0, .string y.b.name, .slice none y.b.kids.length 0, .slice a5 y.nums.length c5, .slice a6 y.times.length c6, .int .i64 y.bound, .bool y.strict]) (by simp [results, Tryz.results31, go_sem, R0, R1, R2, R3, R4, R5, R6, R7, R8]) rfl ?_
    exact ⟨⟨y, none, 0, [], none, 0, [], a5, c5, a6, c6, fn, ⟨by rw [HY.out.2.1]; exact zdd, by rw [HY.out.2.2.1]; exact zdd, by omega, HY.out.2.2.2, HG.out⟩, rfl, A5⟩, R9, O5⟩
end Go.Proofs.YtoehhbkhdddeeaaGreatDoor
end
