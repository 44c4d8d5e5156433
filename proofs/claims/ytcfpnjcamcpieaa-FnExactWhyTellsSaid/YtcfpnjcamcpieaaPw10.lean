/- Parts of the proof: ExLib Wt. -/
import Derived.Lib.QuietBelow
import Derived.Test.YtcfpnjcamcpieaaPw7
import Derived.Test.YtcfpnjcamcpieaaPw5
import Derived.Test.YtcfpnjcamcpieaaPw9
section
namespace Go.Proofs.Ytcfpnjcamcpieaa
open Go Go.RowKit
set_option linter.unusedVariables false
set_option linter.unusedSimpArgs false
set_option maxRecDepth 100000
set_option maxHeartbeats 16000000
mutual
def wtC : CD → Nat
 | .str s => s.size
 | .sl es => es.length + wtR es
 | _ => 0
def wtR : List (List CD) → Nat
 | [] => 0
 | e :: es => wtV e + wtR es
def wtV : List CD → Nat
 | [] => 0
 | d :: ds => wtC d + wtV ds
end
mutual
def ndC : CD → Nat
 | .sl es => 1 + ndR es
 | _ => 1
def ndR : List (List CD) → Nat
 | [] => 0
 | e :: es => 1 + ndV e + ndR es
def ndV : List CD → Nat
 | [] => 0
 | d :: ds => ndC d + ndV ds
end
theorem zH : ∀ (a b : List CD), wtV (a ++ b) = wtV a + wtV b
 | [], b => by simp [wtV]
 | d :: ds, b => by simp only [List.cons_append, wtV, zH ds b]; omega
theorem za2 : ∀ (a b : List (List CD)), wtR (a ++ b) = wtR a + wtR b
 | [], b => by simp [wtR]
 | d :: ds, b => by simp only [List.cons_append, wtR, za2 ds b]; omega
theorem zbQ : ∀ {es : List (List CD)} {e : List CD}, e ∈ es → ndV e < ndR es
 | [], e, h => by simp at h
 | d :: ds, e, h => by
  simp only [ndR]
  rcases zda.1 h with rfl | h
  ·omega
  ·have := zbQ h; omega
theorem ndV_sl {es : List (List CD)} {ds : List CD} (h : CD.sl es ∈ ds) : ndR es < ndV ds := by
 induction ds with
 | nil => simp at h
 | cons d ds ih =>
  simp only [ndV]
  rcases zda.1 h with rfl | h
  ·simp only [ndC]; omega
  ·have := ih h; omega
theorem zE {α : Type} (f : α → List CD) (ts : List α) (k : Nat) (h : k < ts.length) : wtR ((ts.map f).take (k + 1)) = wtR ((ts.map f).take k) + wtV (f ts[k]) := by
 rw [zc5 (by simpa using h), za2]; simp [wtR]
theorem zN {α : Type} (f : α → List CD) (ts : List α) (k : Nat) : wtR ((ts.map f).take k) ≤ wtR (ts.map f) := by
 have := za2 ((ts.map f).take k) ((ts.map f).drop k); rw [List.take_append_drop] at this; omega
theorem wtR_ints (ns : List Int) : wtR (ns.map zt) = 0 := by induction ns with
 | nil => rfl
 | cons n ns ih => simp only [List.map_cons, wtR, ih, zt, wtV, wtC]
theorem zal (n : Int) : wtV [.int n] = 0 := rfl
theorem zab (n : Bool) : wtV [.bool n] = 0 := rfl
theorem zao (n : ByteArray) : wtV [.str n] = n.size := by simp [wtV, wtC]
theorem zay {α : Type} (f : α → List CD) (xs : List α) : wtV [.sl (xs.map f)] = xs.length + wtR (xs.map f) := by simp [wtV, wtC]
/-- What is left of a bound when n is taken; -1 where it does not suffice. -/
def SzRes (left : Int) (n : Nat) (r : Int) : Prop := ((n : Int) ≤ left ∧ r = left - n) ∨ (left < n ∧ r = -1)
def zaM (left : Int) (n : Nat) (w : World) (e : Ending) (w' : World) : Prop := (∃ r, e = .returned (.int .i64 r) ∧ SzRes left n r) ∧ Below w.heap.size w w'
theorem za {w1 w2 : World} {b : Nat} {cs : Array Value} (h : ∀ j, w1.cell? ⟨b, j, none⟩ = cs[j]?) (hl : b < w1.heap.size) (hb : Below w1.heap.size w1 w2) : ∀ j, w2.cell? ⟨b, j, none⟩ = cs[j]? :=
 fun j => (hb.cell (p := ⟨b, j, none⟩) hl).trans (h j)
theorem Tm.kid_nd {x k : Tm} (h : k ∈ x.kids) : ndV k.cd < ndV x.cd := by
 have h1 := zbQ (List.mem_map_of_mem (f := Tm.cd) h)
 have h2 : ndR (x.kids.map Tm.cd) < ndV x.cd := ndV_sl (by rw [Tm.cd_eq]; simp)
 omega
theorem Wy.kid_nd {x k : Wy} (h : k ∈ x.kids) : ndV k.cd < ndV x.cd := by
 have h1 := zbQ (List.mem_map_of_mem (f := Wy.cd) h)
 have h2 : ndR (x.kids.map Wy.cd) < ndV x.cd := ndV_sl (by rw [Wy.cd_eq]; simp)
 omega
theorem Tm.wtV_eq (t : Tm) : wtV t.cd = t.name.size + (t.kids.length + wtR (t.kids.map Tm.cd)) := by
 rw [Tm.cd_eq]; simp [wtV, wtC]
theorem zcA (e : List CD) (es : List (List CD)) : wtR (e :: es) = wtV e + wtR es := by simp [wtR]
mutual
theorem Tm.size_wtV : ∀ (t : Tm), t.size ≤ 1 + wtV t.cd
 | .mk n ks => by
  have := Tm.sizes_wtR ks
  rw [Tm.wtV_eq]
  simp only [Tm.size, Tm.kids]
  omega
theorem Tm.sizes_wtR : ∀ (ts : List Tm), Tm.sizes ts ≤ ts.length + wtR (ts.map Tm.cd)
 | [] => by simp [Tm.sizes]
 | t :: ts => by
  have h1 := Tm.size_wtV t
  have h2 := Tm.sizes_wtR ts
  simp only [Tm.sizes, List.length_cons, List.map_cons, zcA]
  omega
end
theorem zcB : ∀ (es : List Eqn), Tm.sizes (es.flatMap (fun e => [e.a, e.b])) ≤ 2 * es.length + wtR (es.map Eqn.cd)
 | [] => by simp [Tm.sizes]
 | e :: es => by
  have h1 := Tm.size_wtV e.a
  have h2 := Tm.size_wtV e.b
  have h3 := zcB es
  have h4 : wtV e.cd = wtV e.a.cd + wtV e.b.cd := by rw [Eqn.cd, zH]
  rw [List.flatMap_cons, Tm.sizes_append]
  simp only [Tm.sizes, List.length_cons, List.map_cons, zcA]
  omega
end Go.Proofs.Ytcfpnjcamcpieaa
end
