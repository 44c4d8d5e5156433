/- Parts of the proof: OpenAll. -/
import Derived.Test.YtoehhbkhdddeeaaDoorPx2
import Derived.Test.YtoehhbkhdddeeaaDoorPx5
import Derived.Test.YtoehhbkhdddeeaaDoorProg
section
namespace Go.Proofs.YtoehhbkhdddeeaaDoor
open Go Go.RowKit
set_option linter.unusedVariables false
set_option linter.unusedSimpArgs false
set_option maxRecDepth 100000
set_option maxHeartbeats 16000000
theorem zE {α : Type} {xs : List α} {i n : Nat} {y : Option α} (h : xs.length = n) (hi : i < n) (e : y = xs[i]?) : ∃ z, y = some z := ⟨xs[i], by rw [e, List.getElem?_eq_getElem (by omega)]⟩
theorem listN2 {α : Type} {l : List α} (h : l.length = 2) : ∃ c0 c1, l = [c0, c1] := by
 match l, h with
 | [c0, c1], _ => exact ⟨_, _, rfl⟩
theorem listN9 {α : Type} {l : List α} (h : l.length = 9) : ∃ c0 c1 c2 c3 c4 c5 c6 c7 c8, l = [c0, c1, c2, c3, c4, c5, c6, c7, c8] := by
 match l, h with
 | [c0, c1, c2, c3, c4, c5, c6, c7, c8], _ => exact ⟨_, _, _, _, _, _, _, _, _, rfl⟩
theorem listN10 {α : Type} {l : List α} (h : l.length = 10) : ∃ c0 c1 c2 c3 c4 c5 c6 c7 c8 c9, l = [c0, c1, c2, c3, c4, c5, c6, c7, c8, c9] := by
 match l, h with
 | [c0, c1, c2, c3, c4, c5, c6, c7, c8, c9], _ => exact ⟨_, _, _, _, _, _, _, _, _, _, rfl⟩
theorem listN12 {α : Type} {l : List α} (h : l.length = 12) : ∃ c0 c1 c2 c3 c4 c5 c6 c7 c8 c9 c10 c11, l = [c0, c1, c2, c3, c4, c5, c6, c7, c8, c9, c10, c11] := by
 match l, h with
 | [c0, c1, c2, c3, c4, c5, c6, c7, c8, c9, c10, c11], _ => exact ⟨_, _, _, _, _, _, _, _, _, _, _, _, rfl⟩
theorem open_Ints {H : Type} {enc : TypeId × Value → H} {w : World} {base : Nat} {spare : Nat → Bool} {held : Bool} (fuel : Nat) (cs : List Value) (x : DataW H × List MemPlace) (h : DataW.trod enc Tryd.prog w base spare held fuel 26 cs = some x) : ∃ (ys : List Int) (v : Value) (fp : List Nat), cs = [v] ∧ Rd w (.sl (ys.map zn)) v fp :=
 zaD zn Tryd.underlying26 (C := 1) (show Tryd.prog.cellsOf 3 = 1 by kernel_rfl) (by omega) h (fun n _ cs' x' h' => by obtain ⟨y, hy⟩ := zbK Tryd.underlying3 h'; exact ⟨y, [], hy⟩)
theorem zbv {H : Type} {enc : TypeId × Value → H} {w : World} {base : Nat} {spare : Nat → Bool} {held : Bool} : ∀ (fuel : Nat) (cs : List Value) (x : DataW H × List MemPlace), DataW.trod enc Tryd.prog w base spare held fuel 48 cs = some x → ∃ (d : Tm) (fp : List Nat), RdVs w d.cd cs fp := by
 intro fuel
 induction fuel using Nat.strongRecOn with
 | _ fuel ih =>
  intro cs x h
  obtain ⟨xs, m, hm, _, hlen, hxl, hf⟩ := DataW.trod_struct Tryd.underlying48 h
  rw [show Tryd.prog.cellsOf 48 = 2 by kernel_rfl] at hlen
  have hxl2 : xs.length = 2 := hxl
  have g0 : DataW.trod enc Tryd.prog w base spare held m 9 ((cs.drop 0).take (Tryd.prog.cellsOf 9)) = xs[0]? := hf 0 _ rfl
  have g1 : DataW.trod enc Tryd.prog w base spare held m 46 ((cs.drop 1).take (Tryd.prog.cellsOf 46)) = xs[1]? := hf 1 _ rfl
  clear hf hxl
  obtain ⟨c0, c1, rfl⟩ := listN2 hlen
  obtain ⟨z0, e0⟩ := zE hxl2 (by omega) g0
  rw [show Tryd.prog.cellsOf 9 = 1 by kernel_rfl] at e0
  replace e0 : DataW.trod enc Tryd.prog w base spare held m 9 [c0] = some z0 := e0
  obtain ⟨y0, h0⟩ := rd_str Tryd.underlying9 e0
  obtain ⟨z1, e1⟩ := zE hxl2 (by omega) g1
  rw [show Tryd.prog.cellsOf 46 = 1 by kernel_rfl] at e1
  replace e1 : DataW.trod enc Tryd.prog w base spare held m 46 [c1] = some z1 := e1
  obtain ⟨y1, v1, p1, hv1, h1'⟩ := zaD Tm.cd Tryd.underlying46 (C := 2) (show Tryd.prog.cellsOf 48 = 2 by kernel_rfl) (by omega) e1 (fun n hn cs' x' h' => ih n (by omega) cs' x' h')
  obtain rfl := list1 hv1
  have h1 := RdVs.single h1'
  refine ⟨Tm.mk y0 y1, (([] : List Nat) ++ p1), ?_⟩
  rw [Tm.cd_app]
  exact (h0.app h1)
theorem open_Tms {H : Type} {enc : TypeId × Value → H} {w : World} {base : Nat} {spare : Nat → Bool} {held : Bool} (fuel : Nat) (cs : List Value) (x : DataW H × List MemPlace) (h : DataW.trod enc Tryd.prog w base spare held fuel 46 cs = some x) : ∃ (ys : List Tm) (v : Value) (fp : List Nat), cs = [v] ∧ Rd w (.sl (ys.map Tm.cd)) v fp :=
 zaD Tm.cd Tryd.underlying46 (C := 2) (show Tryd.prog.cellsOf 48 = 2 by kernel_rfl) (by omega) h (fun n _ cs' x' h' => zbv n cs' x' h')
theorem open_Atm {H : Type} {enc : TypeId × Value → H} {w : World} {base : Nat} {spare : Nat → Bool} {held : Bool} (fuel : Nat) (cs : List Value) (x : DataW H × List MemPlace) (h : DataW.trod enc Tryd.prog w base spare held fuel 50 cs = some x) : ∃ (d : Atm) (fp : List Nat), RdVs w d.cd cs fp := by
 obtain ⟨xs, m, hm, _, hlen, hxl, hf⟩ := DataW.trod_struct Tryd.underlying50 h
 rw [show Tryd.prog.cellsOf 50 = 9 by kernel_rfl] at hlen
 have hxl2 : xs.length = 7 := hxl
 have g0 : DataW.trod enc Tryd.prog w base spare held m 3 ((cs.drop 0).take (Tryd.prog.cellsOf 3)) = xs[0]? := hf 0 _ rfl
 have g1 : DataW.trod enc Tryd.prog w base spare held m 48 ((cs.drop 1).take (Tryd.prog.cellsOf 48)) = xs[1]? := hf 1 _ rfl
 have g2 : DataW.trod enc Tryd.prog w base spare held m 48 ((cs.drop 3).take (Tryd.prog.cellsOf 48)) = xs[2]? := hf 2 _ rfl
 have g3 : DataW.trod enc Tryd.prog w base spare held m 46 ((cs.drop 5).take (Tryd.prog.cellsOf 46)) = xs[3]? := hf 3 _ rfl
 have g4 : DataW.trod enc Tryd.prog w base spare held m 26 ((cs.drop 6).take (Tryd.prog.cellsOf 26)) = xs[4]? := hf 4 _ rfl
 have g5 : DataW.trod enc Tryd.prog w base spare held m 3 ((cs.drop 7).take (Tryd.prog.cellsOf 3)) = xs[5]? := hf 5 _ rfl
 have g6 : DataW.trod enc Tryd.prog w base spare held m 4 ((cs.drop 8).take (Tryd.prog.cellsOf 4)) = xs[6]? := hf 6 _ rfl
 clear hf hxl
 obtain ⟨c0, c1, c2, c3, c4, c5, c6, c7, c8, rfl⟩ := listN9 hlen
 obtain ⟨z0, e0⟩ := zE hxl2 (by omega) g0
 rw [show Tryd.prog.cellsOf 3 = 1 by kernel_rfl] at e0
 replace e0 : DataW.trod enc Tryd.prog w base spare held m 3 [c0] = some z0 := e0
 obtain ⟨y0, h0⟩ := zbK Tryd.underlying3 e0
 obtain ⟨z1, e1⟩ := zE hxl2 (by omega) g1
 rw [show Tryd.prog.cellsOf 48 = 2 by kernel_rfl] at e1
 replace e1 : DataW.trod enc Tryd.prog w base spare held m 48 [c1, c2] = some z1 := e1
 obtain ⟨y1, p1, h1⟩ := zbv m _ _ e1
 obtain ⟨z2, e2⟩ := zE hxl2 (by omega) g2
 rw [show Tryd.prog.cellsOf 48 = 2 by kernel_rfl] at e2
 replace e2 : DataW.trod enc Tryd.prog w base spare held m 48 [c3, c4] = some z2 := e2
 obtain ⟨y2, p2, h2⟩ := zbv m _ _ e2
 obtain ⟨z3, e3⟩ := zE hxl2 (by omega) g3
 rw [show Tryd.prog.cellsOf 46 = 1 by kernel_rfl] at e3
 replace e3 : DataW.trod enc Tryd.prog w base spare held m 46 [c5] = some z3 := e3
 obtain ⟨y3, v3, p3, hv3, h3'⟩ := open_Tms m _ _ e3
 obtain rfl := list1 hv3
 have h3 := RdVs.single h3'
 obtain ⟨z4, e4⟩ := zE hxl2 (by omega) g4
 rw [show Tryd.prog.cellsOf 26 = 1 by kernel_rfl] at e4
 replace e4 : DataW.trod enc Tryd.prog w base spare held m 26 [c6] = some z4 := e4
 obtain ⟨y4, v4, p4, hv4, h4'⟩ := open_Ints m _ _ e4
 obtain rfl := list1 hv4
 have h4 := RdVs.single h4'
 obtain ⟨z5, e5⟩ := zE hxl2 (by omega) g5
 rw [show Tryd.prog.cellsOf 3 = 1 by kernel_rfl] at e5
 replace e5 : DataW.trod enc Tryd.prog w base spare held m 3 [c7] = some z5 := e5
 obtain ⟨y5, h5⟩ := zbK Tryd.underlying3 e5
 obtain ⟨z6, e6⟩ := zE hxl2 (by omega) g6
 rw [show Tryd.prog.cellsOf 4 = 1 by kernel_rfl] at e6
 replace e6 : DataW.trod enc Tryd.prog w base spare held m 4 [c8] = some z6 := e6
 obtain ⟨y6, h6⟩ := rd_bool Tryd.underlying4 e6
 refine ⟨⟨y0, y1, y2, y3, y4, y5, y6⟩, (([] : List Nat) ++ (p1 ++ (p2 ++ (p3 ++ (p4 ++ (([] : List Nat) ++ ([] : List Nat))))))), ?_⟩
 exact (h0.app (h1.app (h2.app (h3.app (h4.app (h5.app h6))))))
theorem open_Lt {H : Type} {enc : TypeId × Value → H} {w : World} {base : Nat} {spare : Nat → Bool} {held : Bool} (fuel : Nat) (cs : List Value) (x : DataW H × List MemPlace) (h : DataW.trod enc Tryd.prog w base spare held fuel 52 cs = some x) : ∃ (d : Lt) (fp : List Nat), RdVs w d.cd cs fp := by
 obtain ⟨xs, m, hm, _, hlen, hxl, hf⟩ := DataW.trod_struct Tryd.underlying52 h
 rw [show Tryd.prog.cellsOf 52 = 10 by kernel_rfl] at hlen
 have hxl2 : xs.length = 2 := hxl
 have g0 : DataW.trod enc Tryd.prog w base spare held m 50 ((cs.drop 0).take (Tryd.prog.cellsOf 50)) = xs[0]? := hf 0 _ rfl
 have g1 : DataW.trod enc Tryd.prog w base spare held m 4 ((cs.drop 9).take (Tryd.prog.cellsOf 4)) = xs[1]? := hf 1 _ rfl
 clear hf hxl
 obtain ⟨c0, c1, c2, c3, c4, c5, c6, c7, c8, c9, rfl⟩ := listN10 hlen
 obtain ⟨z0, e0⟩ := zE hxl2 (by omega) g0
 rw [show Tryd.prog.cellsOf 50 = 9 by kernel_rfl] at e0
 replace e0 : DataW.trod enc Tryd.prog w base spare held m 50 [c0, c1, c2, c3, c4, c5, c6, c7, c8] = some z0 := e0
 obtain ⟨y0, p0, h0⟩ := open_Atm m _ _ e0
 obtain ⟨z1, e1⟩ := zE hxl2 (by omega) g1
 rw [show Tryd.prog.cellsOf 4 = 1 by kernel_rfl] at e1
 replace e1 : DataW.trod enc Tryd.prog w base spare held m 4 [c9] = some z1 := e1
 obtain ⟨y1, h1⟩ := rd_bool Tryd.underlying4 e1
 refine ⟨⟨y0, y1⟩, (p0 ++ ([] : List Nat)), ?_⟩
 exact (h0.app h1)
theorem open_Fm {H : Type} {enc : TypeId × Value → H} {w : World} {base : Nat} {spare : Nat → Bool} {held : Bool} : ∀ (fuel : Nat) (cs : List Value) (x : DataW H × List MemPlace), DataW.trod enc Tryd.prog w base spare held fuel 55 cs = some x → ∃ (d : Fm) (fp : List Nat), RdVs w d.cd cs fp := by
 intro fuel
 induction fuel using Nat.strongRecOn with
 | _ fuel ih =>
  intro cs x h
  obtain ⟨xs, m, hm, _, hlen, hxl, hf⟩ := DataW.trod_struct Tryd.underlying55 h
  rw [show Tryd.prog.cellsOf 55 = 12 by kernel_rfl] at hlen
  have hxl2 : xs.length = 3 := hxl
  have g0 : DataW.trod enc Tryd.prog w base spare held m 3 ((cs.drop 0).take (Tryd.prog.cellsOf 3)) = xs[0]? := hf 0 _ rfl
  have g1 : DataW.trod enc Tryd.prog w base spare held m 52 ((cs.drop 1).take (Tryd.prog.cellsOf 52)) = xs[1]? := hf 1 _ rfl
  have g2 : DataW.trod enc Tryd.prog w base spare held m 53 ((cs.drop 11).take (Tryd.prog.cellsOf 53)) = xs[2]? := hf 2 _ rfl
  clear hf hxl
  obtain ⟨c0, c1, c2, c3, c4, c5, c6, c7, c8, c9, c10, c11, rfl⟩ := listN12 hlen
  obtain ⟨z0, e0⟩ := zE hxl2 (by omega) g0
  rw [show Tryd.prog.cellsOf 3 = 1 by kernel_rfl] at e0
  replace e0 : DataW.trod enc Tryd.prog w base spare held m 3 [c0] = some z0 := e0
  obtain ⟨y0, h0⟩ := zbK Tryd.underlying3 e0
  obtain ⟨z1, e1⟩ := zE hxl2 (by omega) g1
  rw [show Tryd.prog.cellsOf 52 = 10 by kernel_rfl] at e1
  replace e1 : DataW.trod enc Tryd.prog w base spare held m 52 [c1, c2, c3, c4, c5, c6, c7, c8, c9, c10] = some z1 := e1
  obtain ⟨y1, p1, h1⟩ := open_Lt m _ _ e1
  obtain ⟨z2, e2⟩ := zE hxl2 (by omega) g2
  rw [show Tryd.prog.cellsOf 53 = 1 by kernel_rfl] at e2
  replace e2 : DataW.trod enc Tryd.prog w base spare held m 53 [c11] = some z2 := e2
  obtain ⟨y2, v2, p2, hv2, h2'⟩ := zaD Fm.cd Tryd.underlying53 (C := 12) (show Tryd.prog.cellsOf 55 = 12 by kernel_rfl) (by omega) e2 (fun n hn cs' x' h' => ih n (by omega) cs' x' h')
  obtain rfl := list1 hv2
  have h2 := RdVs.single h2'
  refine ⟨Fm.mk y0 y1 y2, (([] : List Nat) ++ (p1 ++ p2)), ?_⟩
  rw [Fm.cd_eq]
  exact (h0.app (h1.app h2))
end Go.Proofs.YtoehhbkhdddeeaaDoor
end
