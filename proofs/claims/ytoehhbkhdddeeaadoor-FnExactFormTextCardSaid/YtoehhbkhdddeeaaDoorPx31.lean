/- Parts of the proof: LitX. -/
import Derived.Test.YtoehhbkhdddeeaaDoorPx30
section
namespace Go.Proofs.YtoehhbkhdddeeaaDoor
open Go Go.RowKit
set_option linter.unusedVariables false
set_option linter.unusedSimpArgs false
set_option maxRecDepth 100000
set_option maxHeartbeats 16000000
def Lt.text (x : Lt) : ByteArray := if x.no = true then ⟨#[110, 111, 116, 32]⟩ ++ x.atom.text else x.atom.text
theorem Atm.sumT_size {x : Atm} (h : x.okB = true) (k : x.kind ≠ 1) (hi : ∀ j (h : j < x.times.length), I64 x.times[j]) : ∀ j, j ≤ x.nums.length → (x.sumT j).size ≤ 72 * j := by
 rcases Atm.okB_kind h with ⟨k1, _⟩ | ⟨_, _, hs⟩
 ·exact absurd k1 k
 have HW := Atm.sum_wf hs
 simp only [Atm.sumB, Atm.hdB, zcr, decide_eq_true_eq] at hs
 have hnt : x.nums.length = x.times.length := hs.1.2.2.1
 intro j
 induction j with
 | zero => intro _; exact Nat.le_refl 0
 | succ j ih =>
  intro hj
  have h1 := ih (by omega)
  have h2 := Tm.wf_text (HW _ (zcm (show j < x.nums.length by omega)))
  have h3 := zU (hi j (by omega))
  have z1 : (⟨#[42]⟩ : ByteArray).size = 1 := rfl
  have z2 : (⟨#[32]⟩ : ByteArray).size = 1 := rfl
  rw [Atm.sumT_succ (by omega) (by omega)]
  simp only [ByteArray.size_append]
  omega
theorem Atm.text_size {x : Atm} (h : x.okB = true) (hi : ∀ j (h : j < x.times.length), I64 x.times[j]) (hb : I64 x.bound) : x.text.size ≤ 400 := by
 unfold Atm.text
 by_cases k : x.kind = 1
 ·rw [if_pos k]
  rw [Atm.okB_eq k] at h
  simp only [Atm.eqB, zcr] at h
  have h1 := Tm.wf_text h.1
  have h2 := Tm.wf_text h.2.1
  have z1 : (⟨#[61]⟩ : ByteArray).size = 1 := rfl
  simp only [ByteArray.size_append]
  omega
 ·rw [if_neg k]
  have h1 := Atm.sumT_size h k hi x.nums.length (Nat.le_refl _)
  have h2 := zU hb
  have h3 := zbm x.strict
  have z1 : (⟨#[32]⟩ : ByteArray).size = 1 := rfl
  have h4 : x.nums.length ≤ 4 := by
   rcases Atm.okB_kind h with ⟨k1, _⟩ | ⟨_, _, hs⟩
   ·exact absurd k1 k
   simp only [Atm.sumB, Atm.hdB, zcr, decide_eq_true_eq] at hs
   exact hs.1.2.2.2.1.2
  simp only [ByteArray.size_append]
  omega
theorem Lt.text_size {x : Lt} (h : x.atom.text.size ≤ 400) : x.text.size ≤ 404 := by
 unfold Lt.text
 have z1 : (⟨#[110, 111, 116, 32]⟩ : ByteArray).size = 4 := rfl
 split
 ·simp only [ByteArray.size_append]; omega
 ·omega
theorem zbA (x : Lt) (hok : x.atom.okB = true) (vs : List Value) (f : List Nat) (w : World) (hbig : x.atom.small) (hv : RdVs w x.cd vs f) (htab : Tab9 w) :
  Calls Tryd.prog 88 #[.agg vs.toArray] w fun e w' => e = .returned (.string x.text) ∧ Below w.heap.size w w' := by
 obtain ⟨a2, c2, f2, a4, c4, f4, a5, c5, f5, a6, c6, f6, rfl, _, m0, m1, m2, m3, m4, m5, m6, m7⟩ := Lt.open hv
 have hat := Atm.close m0 m1 m2 m3 m4 m5 m6 m7
 have hX := Box.new w [.int .i64 x.atom.kind, .string x.atom.a.name, .slice a2 x.atom.a.kids.length c2, .string x.atom.b.name, .slice a4 x.atom.b.kids.length c4, .slice a5 x.atom.nums.length c5, .slice a6 x.atom.times.length c6, .int .i64 x.atom.bound, .bool x.atom.strict, .bool x.no] 30
 have hb0 := za w (.cells #[.int .i64 x.atom.kind, .string x.atom.a.name, .slice a2 x.atom.a.kids.length c2, .string x.atom.b.name, .slice a4 x.atom.b.kids.length c4, .slice a5 x.atom.nums.length c5, .slice a6 x.atom.times.length c6, .int .i64 x.atom.bound, .bool x.atom.strict, .bool x.no] 30)
 have h9 := zbn x.atom hok _ _ _ hbig (by exact hat.below hb0) (htab.below hb0)
 have hz : x.atom.text.size ≤ 400 := Atm.text_size hok (fun j hj => by
  obtain ⟨b', off', rfl, hbs', _⟩ := zk m6 (by omega)
  exact (zC m6 hj).2) m7
 have ha := zh Tryd.prog ⟨#[110, 111, 116, 32]⟩ x.atom.text (by have z1 : (⟨#[110, 111, 116, 32]⟩ : ByteArray).size = 4 := rfl; omega)
 have hno1 : ¬ ((⟨#[110, 111, 116, 32]⟩ : ByteArray).size + x.atom.text.size > 9223372036854775807) := by have z1 : (⟨#[110, 111, 116, 32]⟩ : ByteArray).size = 4 := rfl; omega
 have HT := Lib.hid (show x.text = if x.no = true then ⟨#[110, 111, 116, 32]⟩ ++ x.atom.text else x.atom.text from rfl)
 obtain ⟨y1, hy1⟩ : ∃ y1, (⟨#[110, 111, 116, 32]⟩ : ByteArray) ++ x.atom.text = y1 := ⟨_, rfl⟩
 rw [hy1] at ha HT
 clear hy1
 generalize x.atom.text = tx at *
 go_enter Tryd.func88, Tryd.ntmps88
 go_upto_region 1 with fail
 generalize w.alloc (.cells #[.int .i64 x.atom.kind, .string x.atom.a.name, .slice a2 x.atom.a.kids.length c2, .string x.atom.b.name, .slice a4 x.atom.b.kids.length c4, .slice a5 x.atom.nums.length c5, .slice a6 x.atom.times.length c6, .int .i64 x.atom.bound, .bool x.atom.strict, .bool x.no] 30) = w0 at *
 have x0 := hX.2.1 0 _ rfl; have x1 := hX.2.1 1 _ rfl; have x2 := hX.2.1 2 _ rfl; have x3 := hX.2.1 3 _ rfl; have x4 := hX.2.1 4 _ rfl; have x5 := hX.2.1 5 _ rfl; have x6 := hX.2.1 6 _ rfl; have x7 := hX.2.1 7 _ rfl; have x8 := hX.2.1 8 _ rfl; have x9 := hX.2.1 9 _ rfl
 cases hno : x.no
 ·have HT2 : Hid (x.text = tx) := Lib.hid (by rw [HT.out, hno]; rfl)
  rw [hno] at x9
  go_wp2_with fail
  refine h9.mono ?_
  rintro e w1 ⟨rfl, hb1⟩
  go_wp2_with fail
  go_ret
  exact ⟨by rw [HT2.out]; rfl, hb0.trans (hb1.mono hb0.size)⟩
 ·have HT2 : Hid (x.text = y1) := Lib.hid (by rw [HT.out, hno]; rfl)
  rw [hno] at x9
  go_wp2_with fail
  refine h9.mono ?_
  rintro e w1 ⟨rfl, hb1⟩
  go_wp2_with fail
  go_ret
  exact ⟨by rw [HT2.out]; rfl, hb0.trans (hb1.mono hb0.size)⟩
end Go.Proofs.YtoehhbkhdddeeaaDoor
end
