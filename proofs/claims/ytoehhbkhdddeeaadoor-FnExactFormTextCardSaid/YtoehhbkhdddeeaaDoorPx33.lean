/- Parts of the proof: Wt LitT. -/
import Derived.Test.YtoehhbkhdddeeaaDoorPx11
import Derived.Deep.RegionHeld3
import Derived.Test.YtoehhbkhdddeeaaDoorPx32
import Derived.Test.YtoehhbkhdddeeaaDoorPx13
section
namespace Go.Proofs.YtoehhbkhdddeeaaDoor
open Go Go.RowKit
set_option linter.unusedVariables false
set_option linter.unusedSimpArgs false
set_option maxRecDepth 100000
set_option maxHeartbeats 16000000
theorem Tm.wtV_eq (t : Tm) : wtV t.cd = t.name.size + (t.kids.length + wtR (t.kids.map Tm.cd)) := by
 rw [Tm.cd_eq]; simp [wtV, wtC]
theorem zam (e : List CD) (es : List (List CD)) : wtR (e :: es) = wtV e + wtR es := by simp [wtR]
mutual
theorem Tm.size_wtV : ∀ (t : Tm), t.size ≤ 1 + wtV t.cd
 | .mk n ks => by
  have := Tm.sizes_wtR ks
  rw [Tm.wtV_eq]
  simp only [Tm.size, Tm.kids]
  omega
theorem Tm.sizes_wtR : ∀ (ts : List Tm), Tm.sizes ts ≤ ts.length + wtR (ts.map Tm.cd)
 | [] => by simp [Tm.sizes]
 | t :: ts => by
  have h1 := Tm.size_wtV t
  have h2 := Tm.sizes_wtR ts
  simp only [Tm.sizes, List.length_cons, List.map_cons, zam]
  omega
end
theorem zb6 (ts : List Tm) (v : Value) (w : World) (hbig : Tm.sizes ts ≤ 1000000000) (hv : TmsR w ts v) : Calls Tryd.prog 31 #[v] w (zb1 (.sl (ts.map Tm.cd)) w) :=
 zaA (Tm.sizes ts) (fun t v w h1 h2 h3 => zai _ t v w h1 h2 h3) ts v w (fun t ht => Tm.size_mem ht) hbig hv
theorem Atm.small_of {x : Atm} (h : wtV x.cd ≤ 1048576) : x.small := by
 have h1 := Tm.size_wtV x.a
 have h2 := Tm.size_wtV x.b
 have h3 := Tm.sizes_wtR x.nums
 simp only [Atm.cd, zq, zO, zG, zad] at h
 unfold Atm.small; omega
theorem Lt.small_of {x : Lt} (h : wtV x.cd ≤ 1048576) : x.atom.small := Atm.small_of (by rw [Lt.cd, zq] at h; omega)
theorem Lt.times_ok {x : Lt} (h : wtV x.cd ≤ 1048576) : x.atom.times.length ≤ 1048576 := by
 rw [Lt.cd, zq] at h
 simp only [Atm.cd, zq, zO, zG, zad, zcq] at h
 omega
theorem zbT (w : World) {α : Type} (cd : α → List CD) : Rd w (.sl (([] : List α).map cd)) (.slice none 0 0) [] := by
 simp only [List.map_nil, Rd]; exact ⟨none, 0, rfl, by simp, by simp [maxLen], by simp⟩
end Go.Proofs.YtoehhbkhdddeeaaDoor
end
