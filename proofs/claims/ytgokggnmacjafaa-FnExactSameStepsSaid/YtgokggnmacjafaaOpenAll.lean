/- The arguments of the laws own types, read. -/
import Derived.Test.YtgokggnmacjafaaOpen
import Derived.Test.YtgokggnmacjafaaReads
import Derived.Test.YtgokggnmacjafaaProg
namespace Go.Proofs.Ytgokggnmacjafaa
open Go Go.RowKit
set_option linter.unusedVariables false
set_option linter.unusedSimpArgs false


theorem some_of {α : Type} {xs : List α} {i n : Nat} {y : Option α} (h : xs.length = n) (hi : i < n) (e : y = xs[i]?) : ∃ z, y = some z := ⟨xs[i], by rw [e, List.getElem?_eq_getElem (by omega)]⟩
theorem listN1 {α : Type} {l : List α} (h : l.length = 1) : ∃ c0, l = [c0] := by
  match l, h with
  | [c0], _ => exact ⟨_, rfl⟩
theorem listN2 {α : Type} {l : List α} (h : l.length = 2) : ∃ c0 c1, l = [c0, c1] := by
  match l, h with
  | [c0, c1], _ => exact ⟨_, _, rfl⟩
theorem listN3 {α : Type} {l : List α} (h : l.length = 3) : ∃ c0 c1 c2, l = [c0, c1, c2] := by
  match l, h with
  | [c0, c1, c2], _ => exact ⟨_, _, _, rfl⟩
theorem listN4 {α : Type} {l : List α} (h : l.length = 4) : ∃ c0 c1 c2 c3, l = [c0, c1, c2, c3] := by
  match l, h with
  | [c0, c1, c2, c3], _ => exact ⟨_, _, _, _, rfl⟩
theorem listN5 {α : Type} {l : List α} (h : l.length = 5) : ∃ c0 c1 c2 c3 c4, l = [c0, c1, c2, c3, c4] := by
  match l, h with
  | [c0, c1, c2, c3, c4], _ => exact ⟨_, _, _, _, _, rfl⟩
theorem listN9 {α : Type} {l : List α} (h : l.length = 9) : ∃ c0 c1 c2 c3 c4 c5 c6 c7 c8, l = [c0, c1, c2, c3, c4, c5, c6, c7, c8] := by
  match l, h with
  | [c0, c1, c2, c3, c4, c5, c6, c7, c8], _ => exact ⟨_, _, _, _, _, _, _, _, _, rfl⟩
theorem listN10 {α : Type} {l : List α} (h : l.length = 10) : ∃ c0 c1 c2 c3 c4 c5 c6 c7 c8 c9, l = [c0, c1, c2, c3, c4, c5, c6, c7, c8, c9] := by
  match l, h with
  | [c0, c1, c2, c3, c4, c5, c6, c7, c8, c9], _ => exact ⟨_, _, _, _, _, _, _, _, _, _, rfl⟩
theorem listN12 {α : Type} {l : List α} (h : l.length = 12) : ∃ c0 c1 c2 c3 c4 c5 c6 c7 c8 c9 c10 c11, l = [c0, c1, c2, c3, c4, c5, c6, c7, c8, c9, c10, c11] := by
  match l, h with
  | [c0, c1, c2, c3, c4, c5, c6, c7, c8, c9, c10, c11], _ => exact ⟨_, _, _, _, _, _, _, _, _, _, _, _, rfl⟩
theorem listN13 {α : Type} {l : List α} (h : l.length = 13) : ∃ c0 c1 c2 c3 c4 c5 c6 c7 c8 c9 c10 c11 c12, l = [c0, c1, c2, c3, c4, c5, c6, c7, c8, c9, c10, c11, c12] := by
  match l, h with
  | [c0, c1, c2, c3, c4, c5, c6, c7, c8, c9, c10, c11, c12], _ => exact ⟨_, _, _, _, _, _, _, _, _, _, _, _, _, rfl⟩
theorem listN14 {α : Type} {l : List α} (h : l.length = 14) : ∃ c0 c1 c2 c3 c4 c5 c6 c7 c8 c9 c10 c11 c12 c13, l = [c0, c1, c2, c3, c4, c5, c6, c7, c8, c9, c10, c11, c12, c13] := by
  match l, h with
  | [c0, c1, c2, c3, c4, c5, c6, c7, c8, c9, c10, c11, c12, c13], _ => exact ⟨_, _, _, _, _, _, _, _, _, _, _, _, _, _, rfl⟩
theorem open_Ints {H : Type} {enc : TypeId × Value → H} {w : World} {base : Nat} {spare : Nat → Bool} {held : Bool} (fuel : Nat) (cs : List Value) (x : DataW H × List MemPlace) (h : DataW.trod enc Try.prog w base spare held fuel 29 cs = some x) : ∃ (ys : List Int) (v : Value) (fp : List Nat), cs = [v] ∧ Rd w (.sl (ys.map intCd)) v fp :=
  rd_slice intCd Try.underlying29 (C := 1) (show Try.prog.cellsOf 3 = 1 by kernel_rfl) (by omega) h (fun n _ cs' x' h' => by obtain ⟨y, hy⟩ := rd_int Try.underlying3 h'; exact ⟨y, [], hy⟩)
theorem open_Sy {H : Type} {enc : TypeId × Value → H} {w : World} {base : Nat} {spare : Nat → Bool} {held : Bool} (fuel : Nat) (cs : List Value) (x : DataW H × List MemPlace) (h : DataW.trod enc Try.prog w base spare held fuel 203 cs = some x) : ∃ (d : Sy) (fp : List Nat), RdVs w d.cd cs fp := by
  obtain ⟨xs, m, hm, _, hlen, hxl, hf⟩ := DataW.trod_struct Try.underlying203 h
  rw [show Try.prog.cellsOf 203 = 3 by kernel_rfl] at hlen
  have hxl2 : xs.length = 3 := hxl
  have g0 : DataW.trod enc Try.prog w base spare held m 9 ((cs.drop 0).take (Try.prog.cellsOf 9)) = xs[0]? := hf 0 _ rfl
  have g1 : DataW.trod enc Try.prog w base spare held m 29 ((cs.drop 1).take (Try.prog.cellsOf 29)) = xs[1]? := hf 1 _ rfl
  have g2 : DataW.trod enc Try.prog w base spare held m 3 ((cs.drop 2).take (Try.prog.cellsOf 3)) = xs[2]? := hf 2 _ rfl
  clear hf hxl
  obtain ⟨c0, c1, c2, rfl⟩ := listN3 hlen
  obtain ⟨z0, e0⟩ := some_of hxl2 (by omega) g0
  rw [show Try.prog.cellsOf 9 = 1 by kernel_rfl] at e0
  replace e0 : DataW.trod enc Try.prog w base spare held m 9 [c0] = some z0 := e0
  obtain ⟨y0, h0⟩ := rd_str Try.underlying9 e0
  obtain ⟨z1, e1⟩ := some_of hxl2 (by omega) g1
  rw [show Try.prog.cellsOf 29 = 1 by kernel_rfl] at e1
  replace e1 : DataW.trod enc Try.prog w base spare held m 29 [c1] = some z1 := e1
  obtain ⟨y1, v1, p1, hv1, h1'⟩ := open_Ints m _ _ e1
  obtain rfl := list1 hv1
  have h1 := RdVs.single h1'
  obtain ⟨z2, e2⟩ := some_of hxl2 (by omega) g2
  rw [show Try.prog.cellsOf 3 = 1 by kernel_rfl] at e2
  replace e2 : DataW.trod enc Try.prog w base spare held m 3 [c2] = some z2 := e2
  obtain ⟨y2, h2⟩ := rd_int Try.underlying3 e2
  refine ⟨⟨y0, y1, y2⟩, (([] : List Nat) ++ (p1 ++ ([] : List Nat))), ?_⟩
  exact (h0.app (h1.app h2))
theorem open_Sys {H : Type} {enc : TypeId × Value → H} {w : World} {base : Nat} {spare : Nat → Bool} {held : Bool} (fuel : Nat) (cs : List Value) (x : DataW H × List MemPlace) (h : DataW.trod enc Try.prog w base spare held fuel 53 cs = some x) : ∃ (ys : List Sy) (v : Value) (fp : List Nat), cs = [v] ∧ Rd w (.sl (ys.map Sy.cd)) v fp :=
  rd_slice Sy.cd Try.underlying53 (C := 3) (show Try.prog.cellsOf 203 = 3 by kernel_rfl) (by omega) h (fun n _ cs' x' h' => open_Sy n cs' x' h')
theorem open_Sg {H : Type} {enc : TypeId × Value → H} {w : World} {base : Nat} {spare : Nat → Bool} {held : Bool} (fuel : Nat) (cs : List Value) (x : DataW H × List MemPlace) (h : DataW.trod enc Try.prog w base spare held fuel 55 cs = some x) : ∃ (d : Sg) (fp : List Nat), RdVs w d.cd cs fp := by
  obtain ⟨xs, m, hm, _, hlen, hxl, hf⟩ := DataW.trod_struct Try.underlying55 h
  rw [show Try.prog.cellsOf 55 = 1 by kernel_rfl] at hlen
  have hxl2 : xs.length = 1 := hxl
  have g0 : DataW.trod enc Try.prog w base spare held m 53 ((cs.drop 0).take (Try.prog.cellsOf 53)) = xs[0]? := hf 0 _ rfl
  clear hf hxl
  obtain ⟨c0, rfl⟩ := listN1 hlen
  obtain ⟨z0, e0⟩ := some_of hxl2 (by omega) g0
  rw [show Try.prog.cellsOf 53 = 1 by kernel_rfl] at e0
  replace e0 : DataW.trod enc Try.prog w base spare held m 53 [c0] = some z0 := e0
  obtain ⟨y0, v0, p0, hv0, h0'⟩ := open_Sys m _ _ e0
  obtain rfl := list1 hv0
  have h0 := RdVs.single h0'
  refine ⟨⟨y0⟩, p0, ?_⟩
  exact h0
theorem open_Tm {H : Type} {enc : TypeId × Value → H} {w : World} {base : Nat} {spare : Nat → Bool} {held : Bool} : ∀ (fuel : Nat) (cs : List Value) (x : DataW H × List MemPlace), DataW.trod enc Try.prog w base spare held fuel 59 cs = some x → ∃ (d : Tm) (fp : List Nat), RdVs w d.cd cs fp := by
  intro fuel
  induction fuel using Nat.strongRecOn with
  | _ fuel ih =>
    intro cs x h
    obtain ⟨xs, m, hm, _, hlen, hxl, hf⟩ := DataW.trod_struct Try.underlying59 h
    rw [show Try.prog.cellsOf 59 = 2 by kernel_rfl] at hlen
    have hxl2 : xs.length = 2 := hxl
    have g0 : DataW.trod enc Try.prog w base spare held m 9 ((cs.drop 0).take (Try.prog.cellsOf 9)) = xs[0]? := hf 0 _ rfl
    have g1 : DataW.trod enc Try.prog w base spare held m 57 ((cs.drop 1).take (Try.prog.cellsOf 57)) = xs[1]? := hf 1 _ rfl
    clear hf hxl
    obtain ⟨c0, c1, rfl⟩ := listN2 hlen
    obtain ⟨z0, e0⟩ := some_of hxl2 (by omega) g0
    rw [show Try.prog.cellsOf 9 = 1 by kernel_rfl] at e0
    replace e0 : DataW.trod enc Try.prog w base spare held m 9 [c0] = some z0 := e0
    obtain ⟨y0, h0⟩ := rd_str Try.underlying9 e0
    obtain ⟨z1, e1⟩ := some_of hxl2 (by omega) g1
    rw [show Try.prog.cellsOf 57 = 1 by kernel_rfl] at e1
    replace e1 : DataW.trod enc Try.prog w base spare held m 57 [c1] = some z1 := e1
    obtain ⟨y1, v1, p1, hv1, h1'⟩ := rd_slice Tm.cd Try.underlying57 (C := 2) (show Try.prog.cellsOf 59 = 2 by kernel_rfl) (by omega) e1 (fun n hn cs' x' h' => ih n (by omega) cs' x' h')
    obtain rfl := list1 hv1
    have h1 := RdVs.single h1'
    refine ⟨Tm.mk y0 y1, (([] : List Nat) ++ p1), ?_⟩
    rw [Tm.cd_app]
    exact (h0.app h1)
theorem open_Eqn {H : Type} {enc : TypeId × Value → H} {w : World} {base : Nat} {spare : Nat → Bool} {held : Bool} (fuel : Nat) (cs : List Value) (x : DataW H × List MemPlace) (h : DataW.trod enc Try.prog w base spare held fuel 146 cs = some x) : ∃ (d : Eqn) (fp : List Nat), RdVs w d.cd cs fp := by
  obtain ⟨xs, m, hm, _, hlen, hxl, hf⟩ := DataW.trod_struct Try.underlying146 h
  rw [show Try.prog.cellsOf 146 = 4 by kernel_rfl] at hlen
  have hxl2 : xs.length = 2 := hxl
  have g0 : DataW.trod enc Try.prog w base spare held m 59 ((cs.drop 0).take (Try.prog.cellsOf 59)) = xs[0]? := hf 0 _ rfl
  have g1 : DataW.trod enc Try.prog w base spare held m 59 ((cs.drop 2).take (Try.prog.cellsOf 59)) = xs[1]? := hf 1 _ rfl
  clear hf hxl
  obtain ⟨c0, c1, c2, c3, rfl⟩ := listN4 hlen
  obtain ⟨z0, e0⟩ := some_of hxl2 (by omega) g0
  rw [show Try.prog.cellsOf 59 = 2 by kernel_rfl] at e0
  replace e0 : DataW.trod enc Try.prog w base spare held m 59 [c0, c1] = some z0 := e0
  obtain ⟨y0, p0, h0⟩ := open_Tm m _ _ e0
  obtain ⟨z1, e1⟩ := some_of hxl2 (by omega) g1
  rw [show Try.prog.cellsOf 59 = 2 by kernel_rfl] at e1
  replace e1 : DataW.trod enc Try.prog w base spare held m 59 [c2, c3] = some z1 := e1
  obtain ⟨y1, p1, h1⟩ := open_Tm m _ _ e1
  refine ⟨⟨y0, y1⟩, (p0 ++ p1), ?_⟩
  exact (h0.app h1)
theorem open_Wy {H : Type} {enc : TypeId × Value → H} {w : World} {base : Nat} {spare : Nat → Bool} {held : Bool} : ∀ (fuel : Nat) (cs : List Value) (x : DataW H × List MemPlace), DataW.trod enc Try.prog w base spare held fuel 88 cs = some x → ∃ (d : Wy) (fp : List Nat), RdVs w d.cd cs fp := by
  intro fuel
  induction fuel using Nat.strongRecOn with
  | _ fuel ih =>
    intro cs x h
    obtain ⟨xs, m, hm, _, hlen, hxl, hf⟩ := DataW.trod_struct Try.underlying88 h
    rw [show Try.prog.cellsOf 88 = 5 by kernel_rfl] at hlen
    have hxl2 : xs.length = 4 := hxl
    have g0 : DataW.trod enc Try.prog w base spare held m 3 ((cs.drop 0).take (Try.prog.cellsOf 3)) = xs[0]? := hf 0 _ rfl
    have g1 : DataW.trod enc Try.prog w base spare held m 3 ((cs.drop 1).take (Try.prog.cellsOf 3)) = xs[1]? := hf 1 _ rfl
    have g2 : DataW.trod enc Try.prog w base spare held m 59 ((cs.drop 2).take (Try.prog.cellsOf 59)) = xs[2]? := hf 2 _ rfl
    have g3 : DataW.trod enc Try.prog w base spare held m 86 ((cs.drop 4).take (Try.prog.cellsOf 86)) = xs[3]? := hf 3 _ rfl
    clear hf hxl
    obtain ⟨c0, c1, c2, c3, c4, rfl⟩ := listN5 hlen
    obtain ⟨z0, e0⟩ := some_of hxl2 (by omega) g0
    rw [show Try.prog.cellsOf 3 = 1 by kernel_rfl] at e0
    replace e0 : DataW.trod enc Try.prog w base spare held m 3 [c0] = some z0 := e0
    obtain ⟨y0, h0⟩ := rd_int Try.underlying3 e0
    obtain ⟨z1, e1⟩ := some_of hxl2 (by omega) g1
    rw [show Try.prog.cellsOf 3 = 1 by kernel_rfl] at e1
    replace e1 : DataW.trod enc Try.prog w base spare held m 3 [c1] = some z1 := e1
    obtain ⟨y1, h1⟩ := rd_int Try.underlying3 e1
    obtain ⟨z2, e2⟩ := some_of hxl2 (by omega) g2
    rw [show Try.prog.cellsOf 59 = 2 by kernel_rfl] at e2
    replace e2 : DataW.trod enc Try.prog w base spare held m 59 [c2, c3] = some z2 := e2
    obtain ⟨y2, p2, h2⟩ := open_Tm m _ _ e2
    obtain ⟨z3, e3⟩ := some_of hxl2 (by omega) g3
    rw [show Try.prog.cellsOf 86 = 1 by kernel_rfl] at e3
    replace e3 : DataW.trod enc Try.prog w base spare held m 86 [c4] = some z3 := e3
    obtain ⟨y3, v3, p3, hv3, h3'⟩ := rd_slice Wy.cd Try.underlying86 (C := 5) (show Try.prog.cellsOf 88 = 5 by kernel_rfl) (by omega) e3 (fun n hn cs' x' h' => ih n (by omega) cs' x' h')
    obtain rfl := list1 hv3
    have h3 := RdVs.single h3'
    refine ⟨Wy.mk y0 y1 y2 y3, (([] : List Nat) ++ (([] : List Nat) ++ (p2 ++ p3))), ?_⟩
    rw [Wy.cd_eq]
    exact (h0.app (h1.app (h2.app h3)))
theorem open_Tms {H : Type} {enc : TypeId × Value → H} {w : World} {base : Nat} {spare : Nat → Bool} {held : Bool} (fuel : Nat) (cs : List Value) (x : DataW H × List MemPlace) (h : DataW.trod enc Try.prog w base spare held fuel 57 cs = some x) : ∃ (ys : List Tm) (v : Value) (fp : List Nat), cs = [v] ∧ Rd w (.sl (ys.map Tm.cd)) v fp :=
  rd_slice Tm.cd Try.underlying57 (C := 2) (show Try.prog.cellsOf 59 = 2 by kernel_rfl) (by omega) h (fun n _ cs' x' h' => open_Tm n cs' x' h')
theorem open_Bools {H : Type} {enc : TypeId × Value → H} {w : World} {base : Nat} {spare : Nat → Bool} {held : Bool} (fuel : Nat) (cs : List Value) (x : DataW H × List MemPlace) (h : DataW.trod enc Try.prog w base spare held fuel 44 cs = some x) : ∃ (ys : List Bool) (v : Value) (fp : List Nat), cs = [v] ∧ Rd w (.sl (ys.map boolCd)) v fp :=
  rd_slice boolCd Try.underlying44 (C := 1) (show Try.prog.cellsOf 4 = 1 by kernel_rfl) (by omega) h (fun n _ cs' x' h' => by obtain ⟨y, hy⟩ := rd_bool Try.underlying4 h'; exact ⟨y, [], hy⟩)
theorem open_Eqns {H : Type} {enc : TypeId × Value → H} {w : World} {base : Nat} {spare : Nat → Bool} {held : Bool} (fuel : Nat) (cs : List Value) (x : DataW H × List MemPlace) (h : DataW.trod enc Try.prog w base spare held fuel 56 cs = some x) : ∃ (ys : List Eqn) (v : Value) (fp : List Nat), cs = [v] ∧ Rd w (.sl (ys.map Eqn.cd)) v fp :=
  rd_slice Eqn.cd Try.underlying56 (C := 4) (show Try.prog.cellsOf 146 = 4 by kernel_rfl) (by omega) h (fun n _ cs' x' h' => open_Eqn n cs' x' h')
end Go.Proofs.Ytgokggnmacjafaa
