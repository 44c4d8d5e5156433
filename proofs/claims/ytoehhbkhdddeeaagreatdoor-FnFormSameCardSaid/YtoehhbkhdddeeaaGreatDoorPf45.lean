/- Parts of the proof: LitX FormX0. -/
import Derived.Test.YtoehhbkhdddeeaaGreatDoorPf44
import Derived.Test.YtoehhbkhdddeeaaGreatDoorPf30
section
namespace Go.Proofs.YtoehhbkhdddeeaaGreatDoor
open Go Go.RowKit
set_option linter.unusedVariables false
set_option linter.unusedSimpArgs false
set_option maxRecDepth 100000
set_option maxHeartbeats 16000000
def Lt.text (x : Lt) : ByteArray := if x.no = true then ⟨#[110, 111, 116, 32]⟩ ++ x.atom.text else x.atom.text
theorem Atm.sumT_size {x : Atm} (h : x.okB = true) (k : x.kind ≠ 1) (hi : ∀ j (h : j < x.times.length), I64 x.times[j]) : ∀ j, j ≤ x.nums.length → (x.sumT j).size ≤ 72 * j := by
 rcases Atm.okB_kind h with ⟨k1, _⟩ | ⟨_, _, hs⟩
 ·exact absurd k1 k
 have HW := Atm.sum_wf hs
 simp only [Atm.sumB, Atm.hdB, zdY, decide_eq_true_eq] at hs
 have hnt : x.nums.length = x.times.length := hs.1.2.2.1
 intro j
 induction j with
 | zero => intro _; exact Nat.le_refl 0
 | succ j ih =>
  intro hj
  have h1 := ih (by omega)
  have h2 := Tm.wf_text (HW _ (zdT (show j < x.nums.length by omega)))
  have h3 := zaX (hi j (by omega))
  have z1 : (⟨#[42]⟩ : ByteArray).size = 1 := rfl
  have z2 : (⟨#[32]⟩ : ByteArray).size = 1 := rfl
  rw [Atm.sumT_succ (by omega) (by omega)]
  simp only [ByteArray.size_append]
  omega
theorem Atm.text_size {x : Atm} (h : x.okB = true) (hi : ∀ j (h : j < x.times.length), I64 x.times[j]) (hb : I64 x.bound) : x.text.size ≤ 400 := by
 unfold Atm.text
 by_cases k : x.kind = 1
 ·rw [if_pos k]
  rw [Atm.okB_eq k] at h
  simp only [Atm.eqB, zdY] at h
  have h1 := Tm.wf_text h.1
  have h2 := Tm.wf_text h.2.1
  have z1 : (⟨#[61]⟩ : ByteArray).size = 1 := rfl
  simp only [ByteArray.size_append]
  omega
 ·rw [if_neg k]
  have h1 := Atm.sumT_size h k hi x.nums.length (Nat.le_refl _)
  have h2 := zaX hb
  have h3 := zcp x.strict
  have z1 : (⟨#[32]⟩ : ByteArray).size = 1 := rfl
  have h4 : x.nums.length ≤ 4 := by
   rcases Atm.okB_kind h with ⟨k1, _⟩ | ⟨_, _, hs⟩
   ·exact absurd k1 k
   simp only [Atm.sumB, Atm.hdB, zdY, decide_eq_true_eq] at hs
   exact hs.1.2.2.2.1.2
  simp only [ByteArray.size_append]
  omega
theorem Lt.text_size {x : Lt} (h : x.atom.text.size ≤ 400) : x.text.size ≤ 404 := by
 unfold Lt.text
 have z1 : (⟨#[110, 111, 116, 32]⟩ : ByteArray).size = 4 := rfl
 split
 ·simp only [ByteArray.size_append]; omega
 ·omega
theorem zcV (x : Lt) (hok : x.atom.okB = true) (vs : List Value) (f : List Nat) (w : World) (hbig : x.atom.small) (hv : RdVs w x.cd vs f) (htab : Tab9 w) :
  Calls Tryz.prog 26 #[.agg vs.toArray] w fun e w' => e = .returned (.string x.text) ∧ Below w.heap.size w w' := by
 obtain ⟨a2, c2, f2, a4, c4, f4, a5, c5, f5, a6, c6, f6, rfl, _, m0, m1, m2, m3, m4, m5, m6, m7⟩ := Lt.open hv
 have hat := Atm.close m0 m1 m2 m3 m4 m5 m6 m7
 have hX := Box.new w [.int .i64 x.atom.kind, .string x.atom.a.name, .slice a2 x.atom.a.kids.length c2, .string x.atom.b.name, .slice a4 x.atom.b.kids.length c4, .slice a5 x.atom.nums.length c5, .slice a6 x.atom.times.length c6, .int .i64 x.atom.bound, .bool x.atom.strict, .bool x.no] 30
 have hb0 := za w (.cells #[.int .i64 x.atom.kind, .string x.atom.a.name, .slice a2 x.atom.a.kids.length c2, .string x.atom.b.name, .slice a4 x.atom.b.kids.length c4, .slice a5 x.atom.nums.length c5, .slice a6 x.atom.times.length c6, .int .i64 x.atom.bound, .bool x.atom.strict, .bool x.no] 30)
 have h9 := zcq x.atom hok _ _ _ hbig (by exact hat.below hb0) (htab.below hb0)
 have hz : x.atom.text.size ≤ 400 := Atm.text_size hok (fun j hj => by
  obtain ⟨b', off', rfl, hbs', _⟩ := zl m6 (by omega)
  exact (zK m6 hj).2) m7
 have ha := zv Tryz.prog ⟨#[110, 111, 116, 32]⟩ x.atom.text (by have z1 : (⟨#[110, 111, 116, 32]⟩ : ByteArray).size = 4 := rfl; omega)
 have hno1 : ¬ ((⟨#[110, 111, 116, 32]⟩ : ByteArray).size + x.atom.text.size > 9223372036854775807) := by have z1 : (⟨#[110, 111, 116, 32]⟩ : ByteArray).size = 4 := rfl; omega
 have HT := Lib.hid (show x.text = if x.no = true then ⟨#[110, 111, 116, 32]⟩ ++ x.atom.text else x.atom.text from rfl)
 obtain ⟨y1, hy1⟩ : ∃ y1, (⟨#[110, 111, 116, 32]⟩ : ByteArray) ++ x.atom.text = y1 := ⟨_, rfl⟩
 rw [hy1] at ha HT
 clear hy1
 generalize x.atom.text = tx at *
 go_enter Tryz.func26, Tryz.ntmps26
 go_upto_region 1 with fail
 generalize w.alloc (.cells #[.int .i64 x.atom.kind, .string x.atom.a.name, .slice a2 x.atom.a.kids.length c2, .string x.atom.b.name, .slice a4 x.atom.b.kids.length c4, .slice a5 x.atom.nums.length c5, .slice a6 x.atom.times.length c6, .int .i64 x.atom.bound, .bool x.atom.strict, .bool x.no] 30) = w0 at *
 have x0 := hX.2.1 0 _ rfl; have x1 := hX.2.1 1 _ rfl; have x2 := hX.2.1 2 _ rfl; have x3 := hX.2.1 3 _ rfl; have x4 := hX.2.1 4 _ rfl; have x5 := hX.2.1 5 _ rfl; have x6 := hX.2.1 6 _ rfl; have x7 := hX.2.1 7 _ rfl; have x8 := hX.2.1 8 _ rfl; have x9 := hX.2.1 9 _ rfl
 cases hno : x.no
 ·have HT2 : Hid (x.text = tx) := Lib.hid (by rw [HT.out, hno]; rfl)
  rw [hno] at x9
  go_wp2_with fail
  refine h9.mono ?_
  rintro e w1 ⟨rfl, hb1⟩
  go_wp2_with fail
  go_ret
  exact ⟨by rw [HT2.out]; rfl, hb0.trans (hb1.mono hb0.size)⟩
 ·have HT2 : Hid (x.text = y1) := Lib.hid (by rw [HT.out, hno]; rfl)
  rw [hno] at x9
  go_wp2_with fail
  refine h9.mono ?_
  rintro e w1 ⟨rfl, hb1⟩
  go_wp2_with fail
  go_ret
  exact ⟨by rw [HT2.out]; rfl, hb0.trans (hb1.mono hb0.size)⟩
/-- The sign of a kind. -/
def Fm.sgn (k : Int) : UInt8 := if k = 2 then 33 else if k = 3 then 38 else if k = 4 then 124 else if k = 5 then 62 else 126
/-- The text of a form, byte by byte. -/
def Fm.bs : Fm → List UInt8
 | .mk k l ks => if k = 1 then 123 :: (l.text.data.toList ++ [125]) else Fm.sgn k :: 40 :: (Lib.join (ks.map Fm.bs) [44] ++ [41])
theorem Fm.bs_eq (f : Fm) : f.bs = if f.kind = 1 then 123 :: (f.lit.text.data.toList ++ [125]) else Fm.sgn f.kind :: 40 :: (Lib.join (f.kids.map Fm.bs) [44] ++ [41]) := by cases f; rw [Fm.bs]; rfl
def Fm.text (f : Fm) : ByteArray := ⟨f.bs.toArray⟩
theorem Fm.text_len (f : Fm) : f.text.size = f.bs.length := by simp [Fm.text, ByteArray.size]
theorem Atm.okB_i64 {x : Atm} (h : x.okB = true) : (∀ j (hj : j < x.times.length), I64 x.times[j]) ∧ I64 x.bound := by
 rcases Atm.okB_kind h with ⟨_, he⟩ | ⟨_, _, hs⟩
 ·simp only [Atm.eqB, zdY, beq_iff_eq] at he
  have h1 := he.2.2.2.1
  have h2 := he.2.2.2.2.1
  exact ⟨fun j hj => by omega, by rw [h2]; constructor <;> omega⟩
 ·have hs0 := hs
  simp only [Atm.sumB, Atm.hdB, zdY, decide_eq_true_eq, List.all_eq_true, List.mem_range] at hs
  have hnt : x.nums.length = x.times.length := hs.1.2.2.1
  refine ⟨fun j hj => ?_, by have := hs.1.2.2.2.2; constructor <;> omega⟩
  have h1 := hs.2 j (by omega)
  rw [Atm.num_eq (by omega) hj] at h1
  simp only [zdY, decide_eq_true_eq] at h1
  have h2 := h1.2.1
  constructor <;> omega
theorem Atm.text_ok {x : Atm} (h : x.okB = true) : x.text.size ≤ 400 := Atm.text_size h (Atm.okB_i64 h).1 (Atm.okB_i64 h).2
theorem zcr (xs : List (List UInt8)) : (Lib.join xs [44]).length ≤ (xs.map (·.length + 1)).sum := by
 cases xs with
 | nil => simp [Lib.join_nil]
 | cons x xs =>
  rw [Lib.join_cons]
  have h : ∀ l : List (List UInt8), (Lib.joinTail [44] l).length = (l.map (·.length + 1)).sum := by
   intro l
   induction l with
   | nil => rfl
   | cons a l ih => simp [Lib.joinTail] at ih ⊢; omega
  simp [h]
theorem Fm.shape_kind {f : Fm} {d : Nat} (h : Fm.shape d f = true) (k1 : f.kind ≠ 1) : Fm.shapes (d - 1) f.kids = true ∧ 1 ≤ d ∧ 0 < f.kids.length ∧ f.kids.length ≤ 2 ∧ (f.kind = 2 ∨ f.kind = 3 ∨ f.kind = 4 ∨ f.kind = 5 ∨ f.kind = 6) := by
 rw [Fm.shape_eq] at h
 by_cases h1 : d < 1 ∨ Fm.nk f.kind ≠ (f.kids.length : Int)
 ·rw [if_pos h1] at h; cases h
 rw [if_neg h1, if_neg k1] at h
 simp only [zdY] at h
 have h2 : Fm.nk f.kind = (f.kids.length : Int) := by
  rcases Decidable.em (Fm.nk f.kind = (f.kids.length : Int)) with h' | h'
  ·exact h'
  ·exact absurd (.inr h') h1
 have h3 : f.kind = 2 ∨ f.kind = 3 ∨ f.kind = 4 ∨ f.kind = 5 ∨ f.kind = 6 := by
  unfold Fm.nk at h2
  repeat' split at h2
  all_goals omega
 refine ⟨h.1, by omega, ?_, ?_, h3⟩
 all_goals
  rcases h3 with h3 | h3 | h3 | h3 | h3 <;> rw [h3] at h2 <;> simp [Fm.nk] at h2 <;> omega
theorem Fm.shape_lit {f : Fm} {d : Nat} (h : Fm.shape d f = true) (k1 : f.kind = 1) : f.lit.atom.okB = true := by
 rw [Fm.shape_eq] at h
 by_cases h1 : d < 1 ∨ Fm.nk f.kind ≠ (f.kids.length : Int)
 ·rw [if_pos h1] at h; cases h
 ·rw [if_neg h1, if_pos k1] at h; exact h
mutual
theorem Fm.bs_len : ∀ (f : Fm) (d : Nat), Fm.shape d f = true → (Fm.bs f).length + 1 ≤ 411 * Fm.many d f
 | .mk k l ks, d, h => by
  by_cases k1 : k = 1
  ·have h2 := Lt.text_size (Atm.text_ok (Fm.shape_lit h (show (Fm.mk k l ks).kind = 1 from k1)))
   have h3 : l.text.data.toList.length = l.text.size := by rw [Array.length_toList]; rfl
   have h4 : (Fm.mk k l ks).lit = l := rfl
   rw [h4] at h2
   rw [Fm.bs_eq, Fm.many_eq, if_pos (show (Fm.mk k l ks).kind = 1 from k1), h4]
   simp only [List.length_cons, zdU, List.length_nil]
   omega
  ·obtain ⟨h1, hd, _⟩ := Fm.shape_kind h (show (Fm.mk k l ks).kind ≠ 1 from k1)
   have h2 := Fm.bss_len ks (d - 1) h1
   have h3 := zcr (ks.map Fm.bs)
   have h4 : (Fm.mk k l ks).kids = ks := rfl
   rw [Fm.bs_eq, Fm.many_eq, if_neg (show (Fm.mk k l ks).kind ≠ 1 from k1), if_pos (by omega), h4]
   simp only [List.length_cons, zdU, List.length_nil]
   omega
theorem Fm.bss_len : ∀ (ks : List Fm) (d : Nat), Fm.shapes d ks = true → ((ks.map Fm.bs).map (·.length + 1)).sum ≤ 411 * Fm.manys d ks
 | [], d, _ => by simp [Fm.manys]
 | k :: ks, d, h => by
  simp only [Fm.shapes, zdY] at h
  have h1 := Fm.bs_len k d h.1
  have h2 := Fm.bss_len ks d h.2
  simp only [List.map_cons, List.sum_cons, Fm.manys]
  omega
end
theorem Fm.okF_shape {f : Fm} (h : f.okF = true) : Fm.shape 5 f = true ∧ Fm.many 5 f ≤ 10 := by
 rw [Fm.okF_right] at h
 simp only [Fm.rightF, zdY, decide_eq_true_eq] at h
 exact h.1
theorem Fm.text_ne (f : Fm) : f.text ≠ ⟨#[]⟩ := by
 intro h
 have h1 := congrArg ByteArray.size h
 rw [Fm.text_len, Fm.bs_eq] at h1
 have h3 : (⟨#[]⟩ : ByteArray).size = 0 := rfl
 rw [h3] at h1
 split at h1 <;> simp at h1
/-- What the reference has written behind k parts. -/
def Fm.upto (f : Fm) (k : Nat) : ByteArray := ⟨(Fm.sgn f.kind :: 40 :: Lib.join ((f.kids.take k).map Fm.bs) [44]).toArray⟩
theorem Fm.upto_zero (f : Fm) : f.upto 0 = ⟨#[Fm.sgn f.kind]⟩ ++ ⟨#[40]⟩ := Tm.bytes_eq (by simp [Fm.upto, Lib.join_nil, ByteArray.data_append])
/-- The program's join. -/
theorem Fm.text_join (f : Fm) (k1 : f.kind ≠ 1) : ((⟨#[Fm.sgn f.kind]⟩ ++ ⟨#[40]⟩) ++ ⟨(Lib.join ((f.kids.map Fm.text).map (·.data.toList)) [44]).toArray⟩) ++ ⟨#[41]⟩ = f.text := by
 refine Tm.bytes_eq ?_
 rw [Fm.text, Fm.bs_eq, if_neg k1]
 have e : (f.kids.map Fm.text).map (·.data.toList) = f.kids.map Fm.bs := by simp [Fm.text, Function.comp_def]
 rw [e]
 simp [ByteArray.data_append]
theorem Fm.join_len (f : Fm) (d : Nat) (k1 : f.kind ≠ 1) (h : Fm.shape d f = true) : (Lib.join ((f.kids.map Fm.text).map (·.data.toList)) [44]).length ≤ 411 * Fm.many d f := by
 have e : (f.kids.map Fm.text).map (·.data.toList) = f.kids.map Fm.bs := by simp [Fm.text, Function.comp_def]
 rw [e]
 obtain ⟨h1, h2, _⟩ := Fm.shape_kind h k1
 have h3 := Fm.bss_len f.kids (d - 1) h1
 have h4 := zcr (f.kids.map Fm.bs)
 rw [Fm.many_eq, if_pos (by omega)]
 omega
theorem Fm.text_lit (f : Fm) (k1 : f.kind = 1) : (⟨#[123]⟩ ++ f.lit.text) ++ ⟨#[125]⟩ = f.text := by
 refine Tm.bytes_eq ?_
 rw [Fm.text, Fm.bs_eq, if_pos k1]
 simp [ByteArray.data_append]
theorem Fm.manys_mem {ks : List Fm} {d : Nat} {x : Fm} (h : x ∈ ks) : Fm.many d x ≤ Fm.manys d ks := by
 induction ks with
 | nil => cases h
 | cons k ks ih =>
  simp only [Fm.manys]
  rcases zdW.1 h with rfl | h
  ·omega
  ·have := ih h; omega
theorem Fm.shapes_mem {ks : List Fm} {d : Nat} {x : Fm} (h : Fm.shapes d ks = true) (hx : x ∈ ks) : Fm.shape d x = true := by
 rw [Fm.shapes_all, List.all_eq_true] at h
 exact h x hx
end Go.Proofs.YtoehhbkhdddeeaaGreatDoor
end
