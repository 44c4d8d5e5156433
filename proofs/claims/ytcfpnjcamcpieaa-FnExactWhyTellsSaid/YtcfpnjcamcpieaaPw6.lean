/- Parts of the proof: OpenAll. -/
import Derived.Test.YtcfpnjcamcpieaaPw2
import Derived.Test.YtcfpnjcamcpieaaPw5
import Derived.Test.YtcfpnjcamcpieaaProg
section
namespace Go.Proofs.Ytcfpnjcamcpieaa
open Go Go.RowKit
set_option linter.unusedVariables false
set_option linter.unusedSimpArgs false
set_option maxRecDepth 100000
set_option maxHeartbeats 16000000
theorem zag {α : Type} {xs : List α} {i n : Nat} {y : Option α} (h : xs.length = n) (hi : i < n) (e : y = xs[i]?) : ∃ z, y = some z := ⟨xs[i], by rw [e, List.getElem?_eq_getElem (by omega)]⟩
theorem listN1 {α : Type} {l : List α} (h : l.length = 1) : ∃ c0, l = [c0] := by
 match l, h with
 | [c0], _ => exact ⟨_, rfl⟩
theorem listN2 {α : Type} {l : List α} (h : l.length = 2) : ∃ c0 c1, l = [c0, c1] := by
 match l, h with
 | [c0, c1], _ => exact ⟨_, _, rfl⟩
theorem listN3 {α : Type} {l : List α} (h : l.length = 3) : ∃ c0 c1 c2, l = [c0, c1, c2] := by
 match l, h with
 | [c0, c1, c2], _ => exact ⟨_, _, _, rfl⟩
theorem listN4 {α : Type} {l : List α} (h : l.length = 4) : ∃ c0 c1 c2 c3, l = [c0, c1, c2, c3] := by
 match l, h with
 | [c0, c1, c2, c3], _ => exact ⟨_, _, _, _, rfl⟩
theorem listN5 {α : Type} {l : List α} (h : l.length = 5) : ∃ c0 c1 c2 c3 c4, l = [c0, c1, c2, c3, c4] := by
 match l, h with
 | [c0, c1, c2, c3, c4], _ => exact ⟨_, _, _, _, _, rfl⟩
theorem open_Ints {H : Type} {enc : TypeId × Value → H} {w : World} {base : Nat} {spare : Nat → Bool} {held : Bool} (fuel : Nat) (cs : List Value) (x : DataW H × List MemPlace) (h : DataW.trod enc Try.prog w base spare held fuel 85 cs = some x) : ∃ (ys : List Int) (v : Value) (fp : List Nat), cs = [v] ∧ Rd w (.sl (ys.map zt)) v fp :=
 zaU zt Try.underlying85 (C := 1) (show Try.prog.cellsOf 3 = 1 by kernel_rfl) (by omega) h (fun n _ cs' x' h' => by obtain ⟨y, hy⟩ := zcw Try.underlying3 h'; exact ⟨y, [], hy⟩)
theorem open_Sy {H : Type} {enc : TypeId × Value → H} {w : World} {base : Nat} {spare : Nat → Bool} {held : Bool} (fuel : Nat) (cs : List Value) (x : DataW H × List MemPlace) (h : DataW.trod enc Try.prog w base spare held fuel 87 cs = some x) : ∃ (d : Sy) (fp : List Nat), RdVs w d.cd cs fp := by
 obtain ⟨xs, m, hm, _, hlen, hxl, hf⟩ := DataW.trod_struct Try.underlying87 h
 rw [show Try.prog.cellsOf 87 = 3 by kernel_rfl] at hlen
 have hxl2 : xs.length = 3 := hxl
 have g0 : DataW.trod enc Try.prog w base spare held m 9 ((cs.drop 0).take (Try.prog.cellsOf 9)) = xs[0]? := hf 0 _ rfl
 have g1 : DataW.trod enc Try.prog w base spare held m 85 ((cs.drop 1).take (Try.prog.cellsOf 85)) = xs[1]? := hf 1 _ rfl
 have g2 : DataW.trod enc Try.prog w base spare held m 3 ((cs.drop 2).take (Try.prog.cellsOf 3)) = xs[2]? := hf 2 _ rfl
 clear hf hxl
 obtain ⟨c0, c1, c2, rfl⟩ := listN3 hlen
 obtain ⟨z0, e0⟩ := zag hxl2 (by omega) g0
 rw [show Try.prog.cellsOf 9 = 1 by kernel_rfl] at e0
 replace e0 : DataW.trod enc Try.prog w base spare held m 9 [c0] = some z0 := e0
 obtain ⟨y0, h0⟩ := rd_str Try.underlying9 e0
 obtain ⟨z1, e1⟩ := zag hxl2 (by omega) g1
 rw [show Try.prog.cellsOf 85 = 1 by kernel_rfl] at e1
 replace e1 : DataW.trod enc Try.prog w base spare held m 85 [c1] = some z1 := e1
 obtain ⟨y1, v1, p1, hv1, h1'⟩ := open_Ints m _ _ e1
 obtain rfl := list1 hv1
 have h1 := RdVs.single h1'
 obtain ⟨z2, e2⟩ := zag hxl2 (by omega) g2
 rw [show Try.prog.cellsOf 3 = 1 by kernel_rfl] at e2
 replace e2 : DataW.trod enc Try.prog w base spare held m 3 [c2] = some z2 := e2
 obtain ⟨y2, h2⟩ := zcw Try.underlying3 e2
 refine ⟨⟨y0, y1, y2⟩, (([] : List Nat) ++ (p1 ++ ([] : List Nat))), ?_⟩
 exact (h0.app (h1.app h2))
theorem open_Sys {H : Type} {enc : TypeId × Value → H} {w : World} {base : Nat} {spare : Nat → Bool} {held : Bool} (fuel : Nat) (cs : List Value) (x : DataW H × List MemPlace) (h : DataW.trod enc Try.prog w base spare held fuel 22 cs = some x) : ∃ (ys : List Sy) (v : Value) (fp : List Nat), cs = [v] ∧ Rd w (.sl (ys.map Sy.cd)) v fp :=
 zaU Sy.cd Try.underlying22 (C := 3) (show Try.prog.cellsOf 87 = 3 by kernel_rfl) (by omega) h (fun n _ cs' x' h' => open_Sy n cs' x' h')
theorem open_Sg {H : Type} {enc : TypeId × Value → H} {w : World} {base : Nat} {spare : Nat → Bool} {held : Bool} (fuel : Nat) (cs : List Value) (x : DataW H × List MemPlace) (h : DataW.trod enc Try.prog w base spare held fuel 24 cs = some x) : ∃ (d : Sg) (fp : List Nat), RdVs w d.cd cs fp := by
 obtain ⟨xs, m, hm, _, hlen, hxl, hf⟩ := DataW.trod_struct Try.underlying24 h
 rw [show Try.prog.cellsOf 24 = 1 by kernel_rfl] at hlen
 have hxl2 : xs.length = 1 := hxl
 have g0 : DataW.trod enc Try.prog w base spare held m 22 ((cs.drop 0).take (Try.prog.cellsOf 22)) = xs[0]? := hf 0 _ rfl
 clear hf hxl
 obtain ⟨c0, rfl⟩ := listN1 hlen
 obtain ⟨z0, e0⟩ := zag hxl2 (by omega) g0
 rw [show Try.prog.cellsOf 22 = 1 by kernel_rfl] at e0
 replace e0 : DataW.trod enc Try.prog w base spare held m 22 [c0] = some z0 := e0
 obtain ⟨y0, v0, p0, hv0, h0'⟩ := open_Sys m _ _ e0
 obtain rfl := list1 hv0
 have h0 := RdVs.single h0'
 refine ⟨⟨y0⟩, p0, ?_⟩
 exact h0
theorem zcf {H : Type} {enc : TypeId × Value → H} {w : World} {base : Nat} {spare : Nat → Bool} {held : Bool} : ∀ (fuel : Nat) (cs : List Value) (x : DataW H × List MemPlace), DataW.trod enc Try.prog w base spare held fuel 28 cs = some x → ∃ (d : Tm) (fp : List Nat), RdVs w d.cd cs fp := by
 intro fuel
 induction fuel using Nat.strongRecOn with
 | _ fuel ih =>
  intro cs x h
  obtain ⟨xs, m, hm, _, hlen, hxl, hf⟩ := DataW.trod_struct Try.underlying28 h
  rw [show Try.prog.cellsOf 28 = 2 by kernel_rfl] at hlen
  have hxl2 : xs.length = 2 := hxl
  have g0 : DataW.trod enc Try.prog w base spare held m 9 ((cs.drop 0).take (Try.prog.cellsOf 9)) = xs[0]? := hf 0 _ rfl
  have g1 : DataW.trod enc Try.prog w base spare held m 26 ((cs.drop 1).take (Try.prog.cellsOf 26)) = xs[1]? := hf 1 _ rfl
  clear hf hxl
  obtain ⟨c0, c1, rfl⟩ := listN2 hlen
  obtain ⟨z0, e0⟩ := zag hxl2 (by omega) g0
  rw [show Try.prog.cellsOf 9 = 1 by kernel_rfl] at e0
  replace e0 : DataW.trod enc Try.prog w base spare held m 9 [c0] = some z0 := e0
  obtain ⟨y0, h0⟩ := rd_str Try.underlying9 e0
  obtain ⟨z1, e1⟩ := zag hxl2 (by omega) g1
  rw [show Try.prog.cellsOf 26 = 1 by kernel_rfl] at e1
  replace e1 : DataW.trod enc Try.prog w base spare held m 26 [c1] = some z1 := e1
  obtain ⟨y1, v1, p1, hv1, h1'⟩ := zaU Tm.cd Try.underlying26 (C := 2) (show Try.prog.cellsOf 28 = 2 by kernel_rfl) (by omega) e1 (fun n hn cs' x' h' => ih n (by omega) cs' x' h')
  obtain rfl := list1 hv1
  have h1 := RdVs.single h1'
  refine ⟨Tm.mk y0 y1, (([] : List Nat) ++ p1), ?_⟩
  rw [Tm.cd_app]
  exact (h0.app h1)
theorem open_Eqn {H : Type} {enc : TypeId × Value → H} {w : World} {base : Nat} {spare : Nat → Bool} {held : Bool} (fuel : Nat) (cs : List Value) (x : DataW H × List MemPlace) (h : DataW.trod enc Try.prog w base spare held fuel 64 cs = some x) : ∃ (d : Eqn) (fp : List Nat), RdVs w d.cd cs fp := by
 obtain ⟨xs, m, hm, _, hlen, hxl, hf⟩ := DataW.trod_struct Try.underlying64 h
 rw [show Try.prog.cellsOf 64 = 4 by kernel_rfl] at hlen
 have hxl2 : xs.length = 2 := hxl
 have g0 : DataW.trod enc Try.prog w base spare held m 28 ((cs.drop 0).take (Try.prog.cellsOf 28)) = xs[0]? := hf 0 _ rfl
 have g1 : DataW.trod enc Try.prog w base spare held m 28 ((cs.drop 2).take (Try.prog.cellsOf 28)) = xs[1]? := hf 1 _ rfl
 clear hf hxl
 obtain ⟨c0, c1, c2, c3, rfl⟩ := listN4 hlen
 obtain ⟨z0, e0⟩ := zag hxl2 (by omega) g0
 rw [show Try.prog.cellsOf 28 = 2 by kernel_rfl] at e0
 replace e0 : DataW.trod enc Try.prog w base spare held m 28 [c0, c1] = some z0 := e0
 obtain ⟨y0, p0, h0⟩ := zcf m _ _ e0
 obtain ⟨z1, e1⟩ := zag hxl2 (by omega) g1
 rw [show Try.prog.cellsOf 28 = 2 by kernel_rfl] at e1
 replace e1 : DataW.trod enc Try.prog w base spare held m 28 [c2, c3] = some z1 := e1
 obtain ⟨y1, p1, h1⟩ := zcf m _ _ e1
 refine ⟨⟨y0, y1⟩, (p0 ++ p1), ?_⟩
 exact (h0.app h1)
theorem open_Wy {H : Type} {enc : TypeId × Value → H} {w : World} {base : Nat} {spare : Nat → Bool} {held : Bool} : ∀ (fuel : Nat) (cs : List Value) (x : DataW H × List MemPlace), DataW.trod enc Try.prog w base spare held fuel 31 cs = some x → ∃ (d : Wy) (fp : List Nat), RdVs w d.cd cs fp := by
 intro fuel
 induction fuel using Nat.strongRecOn with
 | _ fuel ih =>
  intro cs x h
  obtain ⟨xs, m, hm, _, hlen, hxl, hf⟩ := DataW.trod_struct Try.underlying31 h
  rw [show Try.prog.cellsOf 31 = 5 by kernel_rfl] at hlen
  have hxl2 : xs.length = 4 := hxl
  have g0 : DataW.trod enc Try.prog w base spare held m 3 ((cs.drop 0).take (Try.prog.cellsOf 3)) = xs[0]? := hf 0 _ rfl
  have g1 : DataW.trod enc Try.prog w base spare held m 3 ((cs.drop 1).take (Try.prog.cellsOf 3)) = xs[1]? := hf 1 _ rfl
  have g2 : DataW.trod enc Try.prog w base spare held m 28 ((cs.drop 2).take (Try.prog.cellsOf 28)) = xs[2]? := hf 2 _ rfl
  have g3 : DataW.trod enc Try.prog w base spare held m 29 ((cs.drop 4).take (Try.prog.cellsOf 29)) = xs[3]? := hf 3 _ rfl
  clear hf hxl
  obtain ⟨c0, c1, c2, c3, c4, rfl⟩ := listN5 hlen
  obtain ⟨z0, e0⟩ := zag hxl2 (by omega) g0
  rw [show Try.prog.cellsOf 3 = 1 by kernel_rfl] at e0
  replace e0 : DataW.trod enc Try.prog w base spare held m 3 [c0] = some z0 := e0
  obtain ⟨y0, h0⟩ := zcw Try.underlying3 e0
  obtain ⟨z1, e1⟩ := zag hxl2 (by omega) g1
  rw [show Try.prog.cellsOf 3 = 1 by kernel_rfl] at e1
  replace e1 : DataW.trod enc Try.prog w base spare held m 3 [c1] = some z1 := e1
  obtain ⟨y1, h1⟩ := zcw Try.underlying3 e1
  obtain ⟨z2, e2⟩ := zag hxl2 (by omega) g2
  rw [show Try.prog.cellsOf 28 = 2 by kernel_rfl] at e2
  replace e2 : DataW.trod enc Try.prog w base spare held m 28 [c2, c3] = some z2 := e2
  obtain ⟨y2, p2, h2⟩ := zcf m _ _ e2
  obtain ⟨z3, e3⟩ := zag hxl2 (by omega) g3
  rw [show Try.prog.cellsOf 29 = 1 by kernel_rfl] at e3
  replace e3 : DataW.trod enc Try.prog w base spare held m 29 [c4] = some z3 := e3
  obtain ⟨y3, v3, p3, hv3, h3'⟩ := zaU Wy.cd Try.underlying29 (C := 5) (show Try.prog.cellsOf 31 = 5 by kernel_rfl) (by omega) e3 (fun n hn cs' x' h' => ih n (by omega) cs' x' h')
  obtain rfl := list1 hv3
  have h3 := RdVs.single h3'
  refine ⟨Wy.mk y0 y1 y2 y3, (([] : List Nat) ++ (([] : List Nat) ++ (p2 ++ p3))), ?_⟩
  rw [Wy.cd_eq]
  exact (h0.app (h1.app (h2.app h3)))
theorem open_Eqns {H : Type} {enc : TypeId × Value → H} {w : World} {base : Nat} {spare : Nat → Bool} {held : Bool} (fuel : Nat) (cs : List Value) (x : DataW H × List MemPlace) (h : DataW.trod enc Try.prog w base spare held fuel 25 cs = some x) : ∃ (ys : List Eqn) (v : Value) (fp : List Nat), cs = [v] ∧ Rd w (.sl (ys.map Eqn.cd)) v fp :=
 zaU Eqn.cd Try.underlying25 (C := 4) (show Try.prog.cellsOf 64 = 4 by kernel_rfl) (by omega) h (fun n _ cs' x' h' => open_Eqn n cs' x' h')
end Go.Proofs.Ytcfpnjcamcpieaa
end
