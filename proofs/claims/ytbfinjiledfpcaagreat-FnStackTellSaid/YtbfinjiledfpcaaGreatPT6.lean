/- Parts of the proof: Text Eqs AtomP Shelf TextW AtomW. -/
import Derived.Lib.Join
import Derived.Test.YtbfinjiledfpcaaGreatPT2
import Derived.Deep.RegionHeld3
import Derived.Test.YtbfinjiledfpcaaGreatPT5
import Derived.Test.YtbfinjiledfpcaaGreatPT4
import Derived.Shelf.Strings.Builder1
import Derived.Shelf.Strings.Builder2
import Derived.Shelf.Strings.OnBuilder
import Derived.Test.YtbfinjiledfpcaaGreatProg
import Derived.Laws.Concat
import Derived.Deep.QuietTactic
import Derived.BigQuiet
import Derived.Lib.QuietBelow
import Derived.Test.YtbfinjiledfpcaaGreatPT3
section
namespace Go.Proofs.YtbfinjiledfpcaaGreat
open Go Go.RowKit
set_option linter.unusedVariables false
set_option linter.unusedSimpArgs false
set_option maxRecDepth 100000
set_option maxHeartbeats 16000000
namespace Tm
def zaL : List (List UInt8) → List UInt8
 | [] => []
 | x :: xs => 40 :: (x ++ Lib.joinTail [44] xs)
def shut (n : Nat) : List UInt8 := if n = 0 then [] else [41]
def bs : Tm → List UInt8
 | .mk n ks => n.data.toList ++ (zaL (ks.map bs) ++ shut ks.length)
def text (t : Tm) : ByteArray := ⟨t.bs.toArray⟩
theorem zfj (t : Tm) : t.bs = t.name.data.toList ++ (zaL (t.K.map bs) ++ shut t.K.length) := by cases t; rw [bs]; rfl
theorem zeB (xs : List (List UInt8)) (y : List UInt8) : zaL (xs ++ [y]) = zaL xs ++ (if xs.length = 0 then 40 else 44) :: y := by
 cases xs with
 | nil => simp [zaL, Lib.joinTail]
 | cons x xs => simp [zaL, Lib.joinTail]
theorem zbY : ∀ (xs : List (List UInt8)), (zaL xs).length = (xs.map (·.length + 1)).sum
 | [] => rfl
 | x :: xs => by
  have h : ∀ l : List (List UInt8), (Lib.joinTail [44] l).length = (l.map (·.length + 1)).sum := by
   intro l
   induction l with
   | nil => rfl
   | cons a l ih => simp [Lib.joinTail] at ih ⊢; omega
  simp [zaL, h]; omega
theorem nameB_size {n : ByteArray} (h : zat n = true) : n.size ≤ 2 := by
 simp only [zat, zgm, decide_eq_true_eq] at h; omega
mutual
theorem bs_len : ∀ (t : Tm) (d : Int), shape t d = true → (bs t).length + 1 ≤ 4 * size t
 | .mk n ks, d, h => by
  simp only [shape, zgm, decide_eq_true_eq] at h; have h1 := bss_len ks (d - 1) h.2; have h2 := nameB_size h.1.1.2
  have h3 : (shut ks.length).length ≤ 1 := by unfold shut; split <;> simp
  have h4 : n.data.toList.length = n.size := by rw [Array.length_toList]; rfl
  rw [zfj]; simp only [name, K, zgi, size]; omega
theorem bss_len : ∀ (ts : List Tm) (d : Int), shapes ts d = true → (zaL (ts.map bs)).length ≤ 4 * sizes ts
 | [], d, _ => by simp [zaL]
 | t :: ts, d, h => by
  simp only [shapes, zgm] at h; have h1 := bs_len t d h.1; have h2 := bss_len ts d h.2; rw [zbY] at h2 ⊢; simp only [List.map_cons, List.sum_cons, sizes] at h2 ⊢; omega
end
theorem text_size (t : Tm) : t.text.size = t.bs.length := by simp [text, ByteArray.size]
def sign (k : Nat) : ByteArray := if k = 0 then ⟨#[40]⟩ else ⟨#[44]⟩
/-- What the reference has written behind k parts. -/
def upto (t : Tm) (k : Nat) : ByteArray := ⟨(t.name.data.toList ++ zaL ((t.K.take k).map bs)).toArray⟩
theorem zbG {a b : ByteArray} (h : a.data.toList = b.data.toList) : a = b := by
 cases a; cases b; simp only at h; congr 1; exact Array.toList_inj.1 h
theorem upto_zero (t : Tm) : t.upto 0 = t.name := zbG (by simp [upto, zaL])
theorem upto_succ (t : Tm) (k : Nat) (h : k < t.K.length) : t.upto (k + 1) = (t.upto k ++ sign k) ++ (t.K[k]).text := by
 refine zbG ?_
 have e : (t.K.take (k + 1)).map bs = (t.K.take k).map bs ++ [bs t.K[k]] := by
  rw [zgf h, zgj]; rfl
 have e2 : ((t.K.take k).map bs).length = k := by rw [zgl, List.length_take]; omega
 simp only [upto, e, zeB, e2, text, sign]
 by_cases hk : k = 0 <;> simp [hk, ByteArray.data_append]
theorem upto_all (t : Tm) (h : 0 < t.K.length) : t.upto t.K.length ++ ⟨#[41]⟩ = t.text := by
 refine zbG ?_; rw [text, zfj]; simp [upto, shut, show t.K.length ≠ 0 by omega, ByteArray.data_append]
theorem text_none (t : Tm) (h : t.K.length = 0) : t.text = t.name := by
 refine zbG ?_; have h' := List.length_eq_zero_iff.1 h; rw [text, zfj]; simp [h', zaL, shut]
theorem upto_size (t : Tm) (k : Nat) (d : Int) (h : shape t d = true) : (t.upto k).size ≤ 4 * t.size := by
 have h1 : (zaL ((t.K.take k).map bs)).length ≤ (zaL (t.K.map bs)).length := by
  rw [zbY, zbY]
  have e : t.K.map bs = (t.K.take k).map bs ++ (t.K.drop k).map bs := by rw [← zgj, List.take_append_drop]
  rw [e, zgj, List.sum_append]; omega
 have h2 := bs_len t d h; rw [zfj] at h2; simp only [upto, ByteArray.size, List.size_toArray, zgi] at h2 ⊢; omega
/-- impl's join. -/
theorem text_join (t : Tm) (h : 0 < t.K.length) : ((t.name ++ ⟨#[40]⟩) ++ ⟨(Lib.join ((t.K.map text).map (·.data.toList)) [44]).toArray⟩) ++ ⟨#[41]⟩ = t.text := by
 refine zbG ?_; rw [text, zfj]
 obtain ⟨x, xs, hx⟩ : ∃ x xs, t.K = x :: xs := by cases hk : t.K with | nil => rw [hk] at h; simp at h | cons x xs => exact ⟨x, xs, rfl⟩
 have e : (t.K.map text).map (·.data.toList) = t.K.map bs := by simp [text, Function.comp_def]
 rw [e, hx]; simp [Lib.join_cons, zaL, shut, ByteArray.data_append]
theorem join_len (t : Tm) (d : Int) (h : shape t d = true) : (Lib.join ((t.K.map text).map (·.data.toList)) [44]).length ≤ 4 * t.size := by
 have h2 := bs_len t d h; rw [zfj] at h2
 have e : (t.K.map text).map (·.data.toList) = t.K.map bs := by simp [text, Function.comp_def]
 rw [e]
 cases hk : t.K with
 | nil => simp [Lib.join_nil]
 | cons x xs =>
  rw [hk] at h2; simp only [List.map_cons, zaL, zgi, zgw] at h2; rw [List.map_cons, Lib.join_cons, zgi]; omega
end Tm
def Eqn.okB (s : Sg) (e : Eqn) : Bool := match e.a.tsrt s, e.b.tsrt s with | some m, some n => m == n | _, _ => false
theorem Eqn.okB_a {s : Sg} {e : Eqn} (h : e.a.tsrt s = none) : e.okB s = false := by simp [Eqn.okB, h]
theorem Eqn.okB_b {s : Sg} {e : Eqn} (h : e.b.tsrt s = none) : e.okB s = false := by unfold Eqn.okB; rw [h]; split <;> simp_all
theorem Eqn.okB_ab {s : Sg} {e : Eqn} {m n : Int} (h : e.a.tsrt s = some m) (h' : e.b.tsrt s = some n) : e.okB s = (m == n) := by simp [Eqn.okB, h, h']
theorem zfn (s : Sg) (q : Eqn) (us vs : List Value) (f f' : List Nat) (w : World) (hx : RdVs w q.cd us f') (hv : RdVs w s.cd vs f) :
  Calls Tryz.prog 89 #[.agg us.toArray, .agg vs.toArray] w fun e w' => e = .returned (.bool (q.okB s)) ∧ Below w.heap.size w w' := by
 obtain ⟨a0, c0, f0, rfl, _, m0⟩ := Sg.open hv; obtain ⟨b1, e1, g1, b3, e3, g3, rfl, _, t0, t1, t2, t3⟩ := Eqn.open hx; go_enter Tryz.func89, Tryz.ntmps89; go_wp2_with fail; refine (zbh s q.a _ _ _ _ _ (by exact hv.below (((zgz _ _).alloc (zgo _) _).alloc (by simp) _)) (by exact (Tm.rdv t0 t1).below (((zgz _ _).alloc (zgo _) _).alloc (by simp) _))).mono ?_; rintro e w1 ⟨rfl, hb1⟩; obtain ⟨hxL, hyL, hzL, hBL⟩ := box2 (w := w) (wr := w1) (cs := #[.string q.a.name, .slice b1 q.a.K.length e1, .string q.b.name, .slice b3 q.b.K.length e3]) (ds := #[.slice a0 s.Y.length c0]) (T := 112) (U := 25) (zm hb1 (by simp)); have cx2 := hxL 2; have cx3 := hxL 3; have cy0 := hyL 0; simp only [zgd, zgb, zgc] at cx2 cx3 cy0; clear hxL hyL hb1; have H1 : Hid (∃ o, q.a.tsrt s = o) := zgn ⟨_, rfl⟩; obtain ⟨o1, ho1⟩ := H1.out; have HO1 := zgn ho1; rw [ho1]; clear ho1 H1; go_wp2_with fail; refine (zbh s q.b _ _ _ _ _ (hv.below hBL) ((Tm.rdv t2 t3).below hBL)).mono ?_; rintro e w2 ⟨rfl, hb2⟩; have hB2 := hBL.trans (hb2.mono hBL.size); clear hb2
 cases o1 with
 | none =>
  have HF := zgn (Eqn.okB_a HO1.out); simp only [Option.getD_none, Option.isSome_none]; go_wp2_with fail; go_ret; exact ⟨retB HF.out.symm, hB2⟩
 | some m =>
  simp only [Option.getD_some, Option.isSome_some]
  cases ho2 : q.b.tsrt s with
  | none =>
   have HF := zgn (Eqn.okB_b ho2); clear ho2; simp only [Option.getD_none, Option.isSome_none]; go_wp2_with fail; go_ret; exact ⟨retB HF.out.symm, hB2⟩
  | some n =>
   have HF := zgn (Eqn.okB_ab HO1.out ho2); clear ho2; simp only [Option.getD_some, Option.isSome_some]; go_wp2_with fail; go_ret
   exact ⟨retB (by rw [HF.out]; try rfl), hB2⟩
def Tm.noneB (t : Tm) : Bool := t.name.toList == [] && ((t.K.length : Int) == 0)
def Atm.prevB (x : Atm) (t : Tm) : Nat → Bool
 | 0 => true
 | j + 1 => (match x.N[j]? with | none => true | some u => nmLt u.text t.text)
def Atm.numAt (x : Atm) (k : Nat) : Bool :=
 match x.N[k]?, x.T[k]? with
 | some t, some n => t.wf && ((decide ((-50 : Int) ≤ n) && decide (n ≤ 50)) && ((n != 0) && x.prevB t k))
 | _, _ => true
def Atm.eqB (x : Atm) : Bool := x.a.wf && (x.b.wf && ((x.N.length : Int) == 0 && ((x.T.length : Int) == 0 && (x.O == 0 && !x.C))))
def Atm.hdB (x : Atm) : Bool := x.a.noneB && (x.b.noneB && (decide (x.N.length = x.T.length) && ((decide (1 ≤ x.N.length) && decide (x.N.length ≤ 4)) && (decide (-1000 ≤ x.O) && decide (x.O ≤ 1000)))))
def Atm.sumB (x : Atm) : Bool := x.hdB && (List.range x.N.length).all x.numAt
def Atm.okB (x : Atm) : Bool := if x.kind = 1 then x.eqB else if x.kind = 2 then x.sumB else false
theorem Atm.okB_eq {x : Atm} (h : x.kind = 1) : x.okB = x.eqB := if_pos h
theorem Atm.okB_sum {x : Atm} (h : x.kind = 2) : x.okB = x.sumB := by rw [Atm.okB, if_neg (by omega), if_pos h]
theorem Atm.okB_no {x : Atm} (h1 : ¬ x.kind = 1) (h2 : ¬ x.kind = 2) : x.okB = false := by rw [Atm.okB, if_neg h1, if_neg h2]
theorem Atm.sumB_hd {x : Atm} (h : x.hdB = false) : x.sumB = false := by simp [Atm.sumB, h]
theorem Atm.sumB_no {x : Atm} {k : Nat} (hk : k < x.N.length) (h : x.numAt k = false) : x.sumB = false := by
 have : (List.range x.N.length).all x.numAt = false := by rw [List.all_eq_false]; exact ⟨k, by simpa using hk, by simp [h]⟩
 simp [Atm.sumB, this]
def Atm.upto (x : Atm) (k : Nat) : Prop := ∀ j, j < k → x.numAt j = true
theorem Atm.upto_zero (x : Atm) : x.upto 0 := fun j h => by omega
theorem Atm.upto_succ {x : Atm} {k : Nat} (h : x.upto k) (h' : x.numAt k = true) : x.upto (k + 1) := fun j hj => by
 rcases Nat.lt_or_ge j k with h1 | h1
 ·exact h j h1
 ·obtain rfl : j = k := by omega
  exact h'
theorem Atm.sumB_all {x : Atm} {k : Nat} (hd : x.hdB = true) (hk : x.N.length ≤ k) (h : x.upto k) : x.sumB = true := by
 have : (List.range x.N.length).all x.numAt = true := by rw [List.all_eq_true]; intro j hj; exact h j (by have := List.mem_range.1 hj; omega)
 simp [Atm.sumB, this, hd]
theorem Atm.num_eq {x : Atm} {k : Nat} (h : k < x.N.length) (h' : k < x.T.length) : x.numAt k = (x.N[k].wf && ((decide ((-50 : Int) ≤ x.T[k]) && decide (x.T[k] ≤ 50)) && ((x.T[k] != 0) && x.prevB x.N[k] k))) := by
 simp only [Atm.numAt, zgp h, zgp h']
theorem Atm.num_wf {x : Atm} {k : Nat} (h : k < x.N.length) (h' : k < x.T.length) (e : x.N[k].wf = false) : x.numAt k = false := by rw [Atm.num_eq h h', e]; rfl
theorem Atm.num_in {x : Atm} {k : Nat} (h : k < x.N.length) (h' : k < x.T.length) (e : (decide ((-50 : Int) ≤ x.T[k]) && decide (x.T[k] ≤ 50)) = false) : x.numAt k = false := by rw [Atm.num_eq h h', e]; simp
theorem Atm.num_nil {x : Atm} {k : Nat} (h : k < x.N.length) (h' : k < x.T.length) (e : (x.T[k] == 0) = true) : x.numAt k = false := by rw [Atm.num_eq h h', bne, e]; simp
theorem Atm.num_first {x : Atm} {k : Nat} (hk : k = 0) (h : k < x.N.length) (h' : k < x.T.length) (e1 : x.N[k].wf = true) (e2 : (decide ((-50 : Int) ≤ x.T[k]) && decide (x.T[k] ≤ 50)) = true) (e3 : (x.T[k] == 0) = false) : x.numAt k = true := by
 rw [Atm.num_eq h h', e1, e2, bne, e3]; subst hk; rfl
theorem Atm.num_next {x : Atm} {k j : Nat} (hk : k = j + 1) (hj : j < x.N.length) (h : k < x.N.length) (h' : k < x.T.length) (e1 : x.N[k].wf = true) (e2 : (decide ((-50 : Int) ≤ x.T[k]) && decide (x.T[k] ≤ 50)) = true) (e3 : (x.T[k] == 0) = false) : x.numAt k = nmLt x.N[j].text x.N[k].text := by
 rw [Atm.num_eq h h', e1, e2, bne, e3]; subst hk; simp only [Atm.prevB, zgp hj]; simp
theorem Atm.upto_wf {x : Atm} {k j : Nat} (h : x.upto k) (hl : x.N.length = x.T.length) (hj : j < k) (hn : j < x.N.length) : x.N[j].wf = true := by
 have h1 := h j hj; rw [Atm.num_eq hn (by omega)] at h1; simp only [zgm] at h1; exact h1.1
theorem Atm.sum_wf {x : Atm} (h : x.sumB = true) : ∀ t ∈ x.N, t.wf = true := by
 intro t ht; simp only [Atm.sumB, Atm.hdB, zgm, decide_eq_true_eq, List.all_eq_true] at h; obtain ⟨j, hj, rfl⟩ := List.getElem_of_mem ht; have h1 := h.2 j (by simpa using hj); rw [Atm.num_eq hj (by omega)] at h1; simp only [zgm] at h1; exact h1.1
/-- The terms of an atom. -/
def Atm.tms (x : Atm) : List Tm := if x.kind = 1 then [x.a, x.b] else x.N
theorem Atm.tms_wf {x : Atm} (h : x.okB = true) : ∀ t ∈ x.tms, t.wf = true := by
 intro t ht
 by_cases h1 : x.kind = 1
 ·rw [Atm.okB_eq h1] at h
  simp only [Atm.tms, h1, if_true, zgk, List.not_mem_nil, or_false] at ht; simp only [Atm.eqB, zgm] at h
  rcases ht with rfl | rfl
  ·exact h.1
  ·exact h.2.1
 ·by_cases h2 : x.kind = 2
  ·rw [Atm.okB_sum h2] at h
   rw [Atm.tms, if_neg h1] at ht; exact Atm.sum_wf h t ht
  ·rw [Atm.okB_no h1 h2] at h; simp at h
def Lt.tms (x : Lt) : List Tm := if x.M.okB = true then x.M.tms else []
end Go.Proofs.YtbfinjiledfpcaaGreat
end
namespace Go.Proofs
open Go.Shelf
def Tryz.lays156_ren : Go.Shelf.Ren := ⟨fun | 156 => 145 | 165 => 155 | 166 => 156 | 169 => 157 | 240 => 160 | 241 => 161 | 276 => 162 | 277 => 163 | n => n, fun | 31 => 132 | 9 => 9 | 3 => 3 | 4 => 4 | 0 => 0 | 20 => 20 | 72 => 159 | 76 => 163 | 70 => 157 | 37 => 22 | 75 => 162 | 127 => 167 | 164 => 168 | 5 => 5 | 80 => 165 | n => n, fun | n => n⟩
theorem Tryz.lays156 : Go.Proofs.Lays.n156 Tryz.prog Tryz.lays156_ren := {
 mixed := by kernel_rfl
 f156 := Tryz.func145.trans (congrArg some (by kernel_rfl))
 f165 := Tryz.func155.trans (congrArg some (by kernel_rfl))
 f166 := Tryz.func156.trans (congrArg some (by kernel_rfl))
 f169 := Tryz.func157.trans (congrArg some (by kernel_rfl))
 f240 := Tryz.func160.trans (congrArg some (by kernel_rfl))
 f241 := Tryz.func161.trans (congrArg some (by kernel_rfl))
 f276 := Tryz.func162.trans (congrArg some (by kernel_rfl))
 f277 := Tryz.func163.trans (congrArg some (by kernel_rfl))
 t0 := Tryz.underlying0
 a0 := Tryz.isAgg0
 z0 := Tryz.sizeOf0
 v0 := Tryz.zeroValue0
 t3 := Tryz.underlying3
 a3 := Tryz.isAgg3
 z3 := Tryz.sizeOf3
 v3 := Tryz.zeroValue3
 t4 := Tryz.underlying4
 a4 := Tryz.isAgg4
 z4 := Tryz.sizeOf4
 v4 := Tryz.zeroValue4
 t9 := Tryz.underlying9
 a9 := Tryz.isAgg9
 z9 := Tryz.sizeOf9
 v9 := Tryz.zeroValue9
 t20 := Tryz.underlying20
 a20 := Tryz.isAgg20
 z20 := Tryz.sizeOf20
 v20 := Tryz.zeroValue20
 t31 := Tryz.underlying132
 a31 := Tryz.isAgg132
 z31 := Tryz.sizeOf132
 v31 := Tryz.zeroValue132
 t37 := Tryz.underlying22
 a37 := Tryz.isAgg22
 z37 := Tryz.sizeOf22
 v37 := Tryz.zeroValue22
 t70 := Tryz.underlying157
 a70 := Tryz.isAgg157
 z70 := Tryz.sizeOf157
 v70 := Tryz.zeroValue157
 t72 := Tryz.underlying159
 a72 := Tryz.isAgg159
 z72 := Tryz.sizeOf159
 v72 := Tryz.zeroValue159
 t75 := Tryz.underlying162
 a75 := Tryz.isAgg162
 z75 := Tryz.sizeOf162
 v75 := Tryz.zeroValue162
 t76 := Tryz.underlying163
 a76 := Tryz.isAgg163
 z76 := Tryz.sizeOf163
 v76 := Tryz.zeroValue163
 t127 := Tryz.underlying167
 a127 := Tryz.isAgg167
 z127 := Tryz.sizeOf167
 v127 := Tryz.zeroValue167
 t164 := Tryz.underlying168
 a164 := Tryz.isAgg168
 z164 := Tryz.sizeOf168
 v164 := Tryz.zeroValue168 }
theorem Tryz.Builder_Extra_156 : Builder.Extra Tryz.prog Tryz.lays156_ren := {
 sizeBuilder := by kernel_rfl
 liesBuilder := by kernel_rfl
 t5 := Tryz.underlying5
 a5 := Tryz.isAgg5
 z5 := Tryz.sizeOf5
 v5 := Tryz.zeroValue5
 infoByte := by kernel_rfl
 cellsByte := by kernel_rfl
 sizeByte := by kernel_rfl
 neB5 := by decide }
open Go.RowKit in
theorem Tryz.strings_Join (bk o c : Nat) (xs : List ByteArray) (sep : ByteArray) (w : World) (hcells : ∀ (j : Nat) x, xs[j]? = some x → w.cell? ⟨bk, o + j, none⟩ = some (.string x)) (hbk : bk < w.heap.size) (hN : xs.length ≤ 140737488355328) (hcap : xs.length ≤ c) (hlen : (Lib.join (xs.map (·.data.toList)) sep.data.toList).length ≤ 140737488355328) :
  Calls Tryz.prog 145 #[.slice (some ⟨bk, o, none⟩) xs.length c, .string sep] w fun e w' => e = .returned (.string ⟨(Lib.join (xs.map (·.data.toList)) sep.data.toList).toArray⟩) ∧ Below w.heap.size w w' := Any.strings_Join Tryz.lays156 Tryz.Builder_Extra_156 bk o c xs sep w hcells hbk hN hcap hlen
end Go.Proofs
section
namespace Go.Proofs.YtbfinjiledfpcaaGreat
open Go Go.RowKit
set_option linter.unusedVariables false
set_option linter.unusedSimpArgs false
set_option maxRecDepth 100000
set_option maxHeartbeats 16000000
theorem slStr : SlTy Tryz.prog 132 9 (.string ByteArray.empty) 1 16 :=
 ⟨Tryz.underlying132, by kernel_rfl, rfl, by omega⟩
def zd4 (s : ByteArray) : List CD := [.str s]
theorem Tm.shape_kids {t : Tm} {d : Int} (h : Tm.shape t d = true) : ∀ k ∈ t.K, Tm.shape k (d - 1) = true := by
 rw [Tm.shape_eq] at h; simp only [zgm] at h; have h2 := h.2; rw [Tm.shapes_all, List.all_eq_true] at h2; exact h2
theorem Tm.shape_len {t : Tm} {d : Int} (h : Tm.shape t d = true) : t.K.length ≤ 2 ∧ zat t.name = true := by
 rw [Tm.shape_eq] at h; simp only [zgm, decide_eq_true_eq] at h; exact ⟨h.1.2, h.1.1.2⟩
theorem sz1 (c : UInt8) : (⟨#[c]⟩ : ByteArray).size = 1 := rfl
theorem zaY (P : Program) (a b : ByteArray) (h : a.size + b.size ≤ 9223372036854775807) : ∀ W, (Op.stringOp .add a b).run P W = .ok (.string (a ++ b)) W := fun W => run_string_add_sum W a b h
theorem strFlat : ∀ (xs : List ByteArray), (xs.map zd4).flatten = xs.map CD.str
 | [] => rfl
 | a :: l => by simp only [List.map_cons, List.flatten_cons, strFlat l, zd4]; rfl
theorem rd_rows {w : World} {es : List (List CD)} {b off n c : Nat} {fp : List Nat} (h : Rd w (.sl es) (.slice (some ⟨b, off, none⟩) n c) fp) (hne : es ≠ []) : ∃ f, RdRows w b off es f := by
 simp only [Rd] at h; obtain ⟨a', c', h1, _, _, h2 | ⟨_, b', off', f, rfl, _, _, h3⟩⟩ := h
 ·exact absurd h2.1 hne
 ·simp only [Value.slice.injEq, Option.some.injEq, Addr.mk.injEq] at h1
  obtain ⟨⟨rfl, rfl, _⟩, _⟩ := h1; exact ⟨f, h3⟩
theorem strRows {w : World} {b off : Nat} {xs : List ByteArray} {f : List Nat} (h : RdRows w b off (xs.map zd4) f) : ∀ (j : Nat) x, xs[j]? = some x → w.cell? ⟨b, off + j, none⟩ = some (.string x) := by
 intro j x hj; obtain ⟨vs, hc, hr⟩ := h.flat; rw [strFlat] at hr
 have : ∀ (xs : List ByteArray) (vs : List Value) (f : List Nat) (j : Nat) (x : ByteArray), RdVs w (xs.map CD.str) vs f → xs[j]? = some x → vs[j]? = some (.string x) := by
  intro xs
  induction xs with
  | nil => intro vs f j x _ hj; simp at hj
  | cons a l ih =>
   intro vs f j x hr hj; simp only [List.map_cons, RdVs] at hr; obtain ⟨v, us, f1, f2, rfl, rfl, h1, h2⟩ := hr; simp only [Rd] at h1
   cases j with
   | zero => simp at hj ⊢; subst hj; exact h1.1
   | succ j => simp at hj ⊢; exact ih us f2 j x h2 hj
 exact hc j _ (this xs vs _ j x hr hj)
theorem zaZ (n : Nat) : ∀ (t : Tm) (d : Int) (v : Value) (w : World), t.size ≤ n → t.size ≤ 1100000 → Tm.shape t d = true → TmR w t v →
  Calls Tryz.prog 131 #[v] w fun e w' => e = .returned (.string t.text) ∧ Below w.heap.size w w' := by
 induction n with
 | zero => intro t; have := t.size_pos; omega
 | succ n ih =>
  rintro t d v w hn hbig hsh ⟨kv, rfl, hs, hk⟩; obtain ⟨a, cap, rfl, hc1, hc2⟩ := hk.form
  have HK : Hid (∀ x ∈ t.K, x.size ≤ n) := fun x hx => by have := Tm.size_kid_mem hx; omega
  have HS : Hid (∀ x ∈ t.K, Tm.shape x (d - 1) = true) := zgn (Tm.shape_kids hsh); have hlen := (Tm.shape_len hsh).1; have hnm := Tm.nameB_size (Tm.shape_len hsh).2; have HJ := zgn (Tm.join_len t d hsh); have HX := zgn (fun h : 0 < t.K.length => Tm.text_join t h); have HT0 := zgn (Tm.text_none t); have IH := zgn ih; clear ih
  by_cases h0 : t.K.length = 0
  ·have HE := zgn (HT0.out h0)
   have h0' : ((t.K.length : Int) == 0) = true := by simp [h0]
   clear hnm; go_enter Tryz.func131, Tryz.ntmps131; go_wp2_with fail; go_ret; exact ⟨retS HE.out.symm, zb _ _⟩
  have h0' : ((t.K.length : Int) == 0) = false := by simpa using h0
  go_enter Tryz.func131, Tryz.ntmps131; go_wp2_with fail
  go_loopw [3, 15] (fun ov i wr => ∃ (k : Nat) (fp : List Nat), k ≤ t.K.length ∧ i = .int .i64 k ∧ Own wr (w.heap.size + 1) 9 1 ov (((t.K.take k).map Tm.text).map zd4) fp ∧ fp = [] ∧ Below (w.heap.size + 1) (w.alloc (.cells #[.string t.name, .slice a t.K.length cap] 28)) wr) (fun _ i _ => t.K.length - (intOf i).toNat)
  case atStart => exact ⟨0, [], zgx _, rfl, Own.nil _ _ _ _, rfl, zgz _ _⟩
  case round =>
   obtain ⟨k, fp, hkl, rfl, hown, rfl, hb⟩ := hrel; obtain ⟨hx, hz, hB⟩ := box1 hb
   by_cases hlt : k < t.K.length
   ·obtain ⟨b, off, rfl, hbs⟩ := hk.addr (by omega)
    obtain ⟨ka, kc, c0, c1, hss, hkk⟩ := (hk.below hB).at hlt
    have hbz : b < wr.heap.size := by omega
    have hks := Tm.size_mem (zgh hlt); rw [Tm.size_eq] at hbig; go_wp2_with fail; refine (IH.out t.K[k] (d - 1) _ _ (HK.out _ (zgh hlt)) (by omega) (HS.out _ (zgh hlt)) (by exact (TmR.mk hss hkk).below ((zgz _ _).alloc (zgo _) _))).mono ?_; rintro e w2 ⟨rfl, hb2⟩; have hbw : Below wr.heap.size wr w2 := ((zgz _ _).alloc (zgo _) _).trans (hb2.mono (by simp)); have hz2 := hbw.size; have hown2 := (hown.below (hbw.alloc hz2 (.cells #[.string t.K[k].text] 9)))
    have hl : (((t.K.take k).map Tm.text).map zd4).length ≤ t.K.length := by simp; omega
    have htx : t.K[k].text.size ≤ maxLen := by
     have h1 := Tm.bs_len t.K[k] (d - 1) (HS.out _ (zgh hlt)); rw [Tm.text_size]; simp only [maxLen]; omega
    go_wp2_with (at_builtin; refine zz slStr rfl _ _ rfl (w.heap.size + 1) _ _ _ rfl hown2 ⟨w2.heap.size, 0, none⟩ 1 1 [zd4 t.K[k].text] [.string t.K[k].text] [] rfl rfl ?rd ?k ?cells ?na ?bytes ?len ?base ?next)
    case rd => simp only [zd4, List.flatten_cons, List.flatten_nil, List.append_nil]; exact RdVs.single (by simp only [Rd]; exact ⟨trivial, htx, trivial⟩)
    case k => simp [zd4]
    case cells => exact zq _ _ _
    case na => simp
    case bytes => omega
    case len => omega
    case base => simp; omega
    case next =>
     intro v' w4 hown4 hg hv' hs4; go_wp2_with fail; go_roundw
     case rel =>
      refine ⟨k + 1, _, by omega, by go_num, ?_, rfl, ?_⟩
      ·rw [zgf hlt, zgj, zgj]; simpa using hown4
      ·exact zo ((hb.trans (hbw.mono hz)).alloc (by omega) _) hg (by simp; omega) (fun k hk => (hown.block hk).1)
     case measure => simp [intOf]; omega
   ·have he : t.K.take k = t.K := zgq (by omega)
    rw [he] at hown; clear he; obtain ⟨fp', hr⟩ := hown.rd'; obtain ⟨oa, ocap, rfl, ho1, ho2⟩ := zg hr; obtain ⟨b', off', rfl, hbs', _⟩ := zl hr (by simp; omega); obtain ⟨fr, hrows⟩ := rd_rows hr (by simp; intro h; rw [h] at h0; simp at h0); have HX2 := zgn (HX.out (by omega)); have HJ2 := zgn HJ.out; have cx0 := hx 0; simp only [zgd, zgb, zgc] at cx0; obtain ⟨J, hJ⟩ : ∃ J : ByteArray, ⟨(Lib.join ((t.K.map Tm.text).map (·.data.toList)) [44]).toArray⟩ = J := ⟨_, rfl⟩
    have hJs : J.size ≤ 4 * t.size := by rw [← hJ]; have := HJ2.out; simpa [ByteArray.size] using this
    have HT := HX2.out; rw [hJ] at HT; obtain ⟨y1, hy1⟩ : ∃ y, t.name ++ ⟨#[40]⟩ = y := ⟨_, rfl⟩; obtain ⟨y2, hy2⟩ : ∃ y, y1 ++ J = y := ⟨_, rfl⟩
    have hs1 : y1.size = t.name.size + 1 := by rw [← hy1, ByteArray.size_append]; rfl
    have hs2 : y2.size = y1.size + J.size := by rw [← hy2, ByteArray.size_append]
    rw [hy1, hy2] at HT; have ha1 := zaY Tryz.prog t.name ⟨#[40]⟩ (by rw [sz1]; omega); have ha2 := zaY Tryz.prog y1 J (by omega); have ha3 := zaY Tryz.prog y2 ⟨#[41]⟩ (by rw [sz1]; omega); rw [hy1] at ha1; rw [hy2] at ha2; rw [HT] at ha3
    have hno1 : ¬ (t.name.size + 1 > 9223372036854775807) := by omega
    have hno2 : ¬ (y1.size + J.size > 9223372036854775807) := by omega
    have hno3 : ¬ (y2.size + 1 > 9223372036854775807) := by omega
    have HCJ : Hid (∀ W, Below wr.heap.size wr W → Calls Tryz.prog 145 #[.slice (some ⟨b', off', none⟩) t.K.length ocap, .string ⟨#[44]⟩] W fun e w' => e = .returned (.string J) ∧ Below W.heap.size W w') := zgn (fun W hW => by
     have h := Tryz.strings_Join b' off' ocap (t.K.map Tm.text) ⟨#[44]⟩ W (fun j x hj => za (strRows hrows j x hj) hW) (zge hbs' hW.size) (by simp; omega) (by simpa using ho1) (by have := HJ2.out; simp only at this ⊢; omega); rw [zgl] at h; rw [← hJ]
     exact h)
    clear hJ hy1 hy2 HT hJs hs1 hs2 HX2 HJ2 hrows hr hown; go_wp2_with fail; have q0 := cell_regrown cx0; refine wp_region_quiet_below (by kernel_rfl) (by kernel_rfl) ?_
    repeat (first | go_big_quiet_skip | quiet_step ((go_at_call 145; refine zgr (HCJ.out _ (below_regrown _ _ _)))))
    refine wpQuiet_nil ?_; intro w9 hw9; obtain ⟨⟨dq, osq⟩, hw9⟩ := hw9; have hb9 : Below wr.heap.size wr w9 := hw9 ▸ below_regrown wr dq osq; clear hw9 q0; go_wp2_with fail; go_ret; exact ⟨rfl, hB.trans (hb9.mono hB.size)⟩
theorem zaI (n : Nat) : ∀ (t : Tm) (d : Int) (v : Value) (w : World), t.size ≤ n → t.size ≤ 1100000 → Tm.shape t d = true → TmR w t v →
  Calls Tryz.prog 148 #[v] w fun e w' => e = .returned (.string t.text) ∧ Below w.heap.size w w' := by
 induction n with
 | zero => intro t; have := t.size_pos; omega
 | succ n ih =>
  rintro t d v w hn hbig hsh ⟨kv, rfl, hs, hk⟩; obtain ⟨a, cap, rfl, hc1, hc2⟩ := hk.form
  have HK : Hid (∀ x ∈ t.K, x.size ≤ n) := fun x hx => by have := Tm.size_kid_mem hx; omega
  have HS : Hid (∀ x ∈ t.K, Tm.shape x (d - 1) = true) := zgn (Tm.shape_kids hsh); have hlen := (Tm.shape_len hsh).1; have HU := zgn (fun k => Tm.upto_size t k d hsh); have HU2 := zgn (fun k h => Tm.upto_succ t k h); have HA := zgn (fun h : 0 < t.K.length => Tm.upto_all t h); have HT0 := zgn (Tm.text_none t); have HZ := zgn (Tm.upto_zero t); have IH := zgn ih; clear ih; go_enter Tryz.func148, Tryz.ntmps148; go_wp2_with fail
  go_loopw [3, 4] (fun ov i wr => ∃ (k : Nat), k ≤ t.K.length ∧ i = .int .i64 k ∧ ov = .string (t.upto k) ∧ Below (w.heap.size + 1) (w.alloc (.cells #[.string t.name, .slice a t.K.length cap] 28)) wr) (fun _ i _ => t.K.length - (intOf i).toNat)
  case atStart => exact ⟨0, zgx _, rfl, by rw [HZ.out], zgz _ _⟩
  case round =>
   obtain ⟨k, hkl, rfl, rfl, hb⟩ := hrel; obtain ⟨hx, hz, hB⟩ := box1 hb; have cx1 := hx 1; simp only [zgd, zgb, zgc] at cx1; have hu := HU.out k
   by_cases hlt : k < t.K.length
   ·obtain ⟨b, off, rfl, hbs⟩ := hk.addr (by omega)
    obtain ⟨ka, kc, c0, c1, hss, hkk⟩ := (hk.below hB).at hlt
    have hbz : b < wr.heap.size := by omega
    have hks := Tm.size_mem (zgh hlt); have hsz0 := Tm.size_eq t
    have htx : t.K[k].text.size ≤ 4400000 := by
     have h1 := Tm.bs_len t.K[k] (d - 1) (HS.out _ (zgh hlt)); rw [Tm.text_size]; omega
    have HN := zgn (HU2.out k hlt)
    by_cases hk0 : k = 0
    ·have tk : ((k : Int) == 0) = true := by simp [hk0]
     have HSG : Hid (Tm.sign k = ⟨#[40]⟩) := zgn (by simp [Tm.sign, hk0]); obtain ⟨y1, hy1⟩ : ∃ y, t.upto k ++ ⟨#[40]⟩ = y := ⟨_, rfl⟩; have ha1 := zaY Tryz.prog (t.upto k) ⟨#[40]⟩ (by rw [sz1]; omega) wr
     have hno1 : ¬ ((t.upto k).size + (⟨#[40]⟩ : ByteArray).size > 9223372036854775807) := by rw [sz1]; omega
     have hno2 : ¬ ((t.upto k).size + 1 > 9223372036854775807) := by omega
     have ha2' := zaY Tryz.prog (t.upto k ++ ⟨#[40]⟩) t.K[k].text (by rw [ByteArray.size_append, sz1]; omega); have HN2 : Hid ((t.upto k ++ ⟨#[40]⟩) ++ t.K[k].text = t.upto (k + 1)) := zgn (by rw [HN.out, HSG.out])
     have hno3 : ¬ ((t.upto k ++ ⟨#[40]⟩).size + t.K[k].text.size > 9223372036854775807) := by rw [ByteArray.size_append, sz1]; omega
     rw [hy1] at hno3; rw [HN2.out, hy1] at ha2'; rw [hy1] at ha1; have HY := zgn ha2'; clear hy1 ha2' hu hk0; go_wp2_with fail; refine (IH.out t.K[k] (d - 1) _ _ (HK.out _ (zgh hlt)) (by omega) (HS.out _ (zgh hlt)) (by exact TmR.mk hss hkk)).mono ?_; rintro e w2 ⟨rfl, hb2⟩; have ha2 := HY.out w2; go_wp2_with fail; go_roundw
     case rel => exact ⟨k + 1, by omega, by go_num, rfl, hb.trans (hb2.mono hz)⟩
     case measure => simp [intOf]; omega
    ·have tk : ((k : Int) == 0) = false := by simp [hk0]
     have HSG : Hid (Tm.sign k = ⟨#[44]⟩) := zgn (by simp [Tm.sign, hk0]); obtain ⟨y1, hy1⟩ : ∃ y, t.upto k ++ ⟨#[44]⟩ = y := ⟨_, rfl⟩; have ha1 := zaY Tryz.prog (t.upto k) ⟨#[44]⟩ (by rw [sz1]; omega) wr
     have hno1 : ¬ ((t.upto k).size + (⟨#[44]⟩ : ByteArray).size > 9223372036854775807) := by rw [sz1]; omega
     have hno2 : ¬ ((t.upto k).size + 1 > 9223372036854775807) := by omega
     have ha2' := zaY Tryz.prog (t.upto k ++ ⟨#[44]⟩) t.K[k].text (by rw [ByteArray.size_append, sz1]; omega); have HN2 : Hid ((t.upto k ++ ⟨#[44]⟩) ++ t.K[k].text = t.upto (k + 1)) := zgn (by rw [HN.out, HSG.out])
     have hno3 : ¬ ((t.upto k ++ ⟨#[44]⟩).size + t.K[k].text.size > 9223372036854775807) := by rw [ByteArray.size_append, sz1]; omega
     rw [hy1] at hno3; rw [HN2.out, hy1] at ha2'; rw [hy1] at ha1; have HY := zgn ha2'; clear hy1 ha2' hu hk0; go_wp2_with fail; refine (IH.out t.K[k] (d - 1) _ _ (HK.out _ (zgh hlt)) (by omega) (HS.out _ (zgh hlt)) (by exact TmR.mk hss hkk)).mono ?_; rintro e w2 ⟨rfl, hb2⟩; have ha2 := HY.out w2; go_wp2_with fail; go_roundw
     case rel => exact ⟨k + 1, by omega, by go_num, rfl, hb.trans (hb2.mono hz)⟩
     case measure => simp [intOf]; omega
   ·obtain rfl : k = t.K.length := by omega
    by_cases h0 : t.K.length = 0
    ·have HE : Hid (t.text = t.upto t.K.length) := zgn (by rw [HT0.out h0, h0, HZ.out])
     have h0' : decide ((0 : Int) < (t.K.length : Int)) = false := by simp [h0]
     go_wp2_with fail; go_ret; exact ⟨retS HE.out.symm, hB⟩
    ·have HE := zgn (HA.out (by omega))
     have h0' : decide ((0 : Int) < (t.K.length : Int)) = true := by simp; omega
     have ha1 := zaY Tryz.prog (t.upto t.K.length) ⟨#[41]⟩ (by rw [sz1]; omega) wr; rw [HE.out] at ha1; go_wp2_with fail; go_ret; exact ⟨rfl, hB⟩
theorem zdl (t : Tm) (v : Value) (w : World) (hv : TmR w t v) : Calls Tryz.prog 130 #[v] w fun e w' => e = .returned (.bool t.noneB) ∧ Below w.heap.size w w' := by
 obtain ⟨kv, rfl, hs, hk⟩ := hv; obtain ⟨a, cap, rfl, hc1, hc2⟩ := hk.form; have HB : Hid (t.noneB = (t.name.toList == [] && ((t.K.length : Int) == 0))) := zgn rfl
 cases h1 : (t.name.toList == [])
 all_goals
  have H1 := zgn h1; go_enter Tryz.func130, Tryz.ntmps130; go_wp2_with fail; go_ret
  exact ⟨retB (by rw [HB.out, H1.out]; first | rfl | simp | (simp [Bool.beq_eq_decide_eq])), zb _ _⟩
theorem zdm (t : Tm) (v : Value) (w : World) (hv : TmR w t v) : Calls Tryz.prog 149 #[v] w fun e w' => e = .returned (.bool t.noneB) ∧ Below w.heap.size w w' := by
 obtain ⟨kv, rfl, hs, hk⟩ := hv; obtain ⟨a, cap, rfl, hc1, hc2⟩ := hk.form; have HB : Hid (t.noneB = (t.name.toList == [] && ((t.K.length : Int) == 0))) := zgn rfl
 cases h1 : (t.name.toList == [])
 all_goals
  have H1 := zgn h1; go_enter Tryz.func149, Tryz.ntmps149; go_wp2_with fail; go_ret
  exact ⟨retB (by rw [HB.out, H1.out]; first | rfl | simp | (simp [Bool.beq_eq_decide_eq])), zb _ _⟩
theorem zdD (t : TypeId) (a b : ByteArray) : binOp .geq t (.string a) (.string b) = pure (.bool (!nmLt a b)) := by simp [binOp, Op.stringOp, nmLt]
def Atm.small (x : Atm) : Prop := x.a.size ≤ 1100000 ∧ x.b.size ≤ 1100000 ∧ Tm.sizes x.N ≤ 1100000
theorem Tm.wf_shape {t : Tm} (h : t.wf = true) : Tm.shape t 4 = true := by simp only [Tm.wf, zgm] at h; exact h.1
theorem Tm.wf_size {t : Tm} (h : t.wf = true) : t.size ≤ 12 := by simp only [Tm.wf, zgm, decide_eq_true_eq] at h; exact h.2
theorem zdn (x : Atm) (vs : List Value) (f : List Nat) (w : World) (hbig : x.small) (hv : RdVs w x.cd vs f) :
  Calls Tryz.prog 88 #[.agg vs.toArray] w fun e w' => e = .returned (.bool x.okB) ∧ Below w.heap.size w w' := by
 obtain ⟨a2, c2, f2, a4, c4, f4, a5, c5, f5, a6, c6, f6, rfl, _, m0, m1, m2, m3, m4, m5, m6, m7⟩ := Atm.open hv; have hlen := zao m5; have HBIG := zgn hbig; unfold Atm.small at hbig
 by_cases k1 : x.kind = 1
 ·skip
  have tk : (x.kind == 1) = true := by simp [k1]
  have KE := zgn (Atm.okB_eq k1); clear k1; go_enter Tryz.func88, Tryz.ntmps88; go_wp2_with fail; refine (zac x.a _ _ (by exact (TmR.mk m1 ⟨f2, m2⟩).below (zb _ _))).mono ?_; rintro e wi0 ⟨rfl, hb⟩; obtain ⟨hx, hz, hB⟩ := box1 (w := w) (wr := wi0) (cs := (yNa x a2 c2 a4 c4 a5 c5 a6 c6)) (T := 31) (zm hb (by simp)); clear hb; obtain ⟨C0, C1, C2, C3, C4, C5, C6, C7, C8⟩ := yQ9 hx; simp only [zgd, zgb, zgc] at C0 C1 C2 C3 C4 C5 C6 C7 C8
  cases h0 : x.a.wf
  ·have HF : Hid (x.okB = false) := zgn (by rw [KE.out, Atm.eqB, h0]; simp)
   clear h0; go_wp2_with fail; go_ret; exact ⟨retB HF.out.symm, hB⟩
  have H0 := zgn h0; clear h0; go_wp2_with fail; refine (zac x.b _ _ (by exact (TmR.mk m3 ⟨f4, m4⟩).below hB)).mono ?_; rintro e wi1 ⟨rfl, hb⟩; replace hB := hB.trans (hb.mono (by omega)); replace hx := zh hx (by omega) hb; replace hz := zgy hz hb.size; replace C0 := za C0 hb; replace C1 := za C1 hb; replace C2 := za C2 hb; replace C3 := za C3 hb; replace C4 := za C4 hb; replace C5 := za C5 hb; replace C6 := za C6 hb; replace C7 := za C7 hb; replace C8 := za C8 hb; clear hb
  cases h1 : x.b.wf
  ·have HF : Hid (x.okB = false) := zgn (by rw [KE.out, Atm.eqB, h1, H0.out]; simp)
   clear h1; go_wp2_with fail; go_ret; exact ⟨retB HF.out.symm, hB⟩
  have H1 := zgn h1; clear h1
  cases h2 : ((x.N.length : Int) == 0)
  ·have HF : Hid (x.okB = false) := zgn (by rw [KE.out, Atm.eqB, h2, H0.out, H1.out]; simp)
   go_wp2_with fail; go_ret; exact ⟨retB HF.out.symm, hB⟩
  have H2 := zgn h2
  cases h3 : ((x.T.length : Int) == 0)
  ·have HF : Hid (x.okB = false) := zgn (by rw [KE.out, Atm.eqB, h3, H0.out, H1.out, H2.out]; simp)
   go_wp2_with fail; go_ret; exact ⟨retB HF.out.symm, hB⟩
  have H3 := zgn h3
  cases h4 : (x.O == 0)
  ·have HF : Hid (x.okB = false) := zgn (by rw [KE.out, Atm.eqB, h4, H0.out, H1.out, H2.out, H3.out]; simp)
   go_wp2_with fail; go_ret; exact ⟨retB HF.out.symm, hB⟩
  have H4 := zgn h4; have HF : Hid (x.okB = !x.C) := zgn (by rw [KE.out, Atm.eqB, H0.out, H1.out, H2.out, H3.out, H4.out]; simp); go_wp2_with fail; go_ret; exact ⟨retB HF.out.symm, hB⟩
 have tk : (x.kind == 1) = false := by simp [k1]
 by_cases k2 : x.kind = 2
 rotate_left
 ·skip
  have tk2 : (x.kind == 2) = false := by simp [k2]
  have HF := zgn (Atm.okB_no k1 k2); clear k1 k2; go_enter Tryz.func88, Tryz.ntmps88; go_wp2_with fail; go_ret; exact ⟨retB HF.out.symm, zb _ _⟩
 have tk2 : (x.kind == 2) = true := by simp [k2]
 have KE := zgn (Atm.okB_sum k2); clear k1 k2; go_enter Tryz.func88, Tryz.ntmps88; go_wp2_with fail; refine (zdl x.a _ _ (by exact (TmR.mk m1 ⟨f2, m2⟩).below (zb _ _))).mono ?_; rintro e wi0 ⟨rfl, hb⟩; obtain ⟨hx, hz, hB⟩ := box1 (w := w) (wr := wi0) (cs := (yNa x a2 c2 a4 c4 a5 c5 a6 c6)) (T := 31) (zm hb (by simp)); clear hb; obtain ⟨C0, C1, C2, C3, C4, C5, C6, C7, C8⟩ := yQ9 hx; simp only [zgd, zgb, zgc] at C0 C1 C2 C3 C4 C5 C6 C7 C8
 cases h0 : x.a.noneB
 ·have HF : Hid (x.okB = false) := zgn (by rw [KE.out, Atm.sumB_hd (by rw [Atm.hdB, h0]; simp)])
  clear h0; go_wp2_with fail; go_ret; exact ⟨retB HF.out.symm, hB⟩
 have H0 := zgn h0; clear h0; go_wp2_with fail; refine (zdl x.b _ _ (by exact (TmR.mk m3 ⟨f4, m4⟩).below hB)).mono ?_; rintro e wi1 ⟨rfl, hb⟩; replace hB := hB.trans (hb.mono (by omega)); replace hx := zh hx (by omega) hb; replace hz := zgy hz hb.size; replace C0 := za C0 hb; replace C1 := za C1 hb; replace C2 := za C2 hb; replace C3 := za C3 hb; replace C4 := za C4 hb; replace C5 := za C5 hb; replace C6 := za C6 hb; replace C7 := za C7 hb; replace C8 := za C8 hb; clear hb
 cases h1 : x.b.noneB
 ·have HF : Hid (x.okB = false) := zgn (by rw [KE.out, Atm.sumB_hd (by rw [Atm.hdB, h1, H0.out]; simp)])
  clear h1; go_wp2_with fail; go_ret; exact ⟨retB HF.out.symm, hB⟩
 have H1 := zgn h1; clear h1; go_wp2_with fail; refine (zZ _ _ _ _).mono ?_; rintro e wj ⟨rfl, rfl⟩
 have hq : (decide (1 ≤ x.N.length) && decide (x.N.length ≤ 4)) = (decide ((1 : Int) ≤ (x.N.length : Int)) && decide ((x.N.length : Int) ≤ 4)) := by rw [Bool.eq_iff_iff]; simp; try omega
 have HQ := zgn hq; clear hq
 cases h2 : (decide ((1 : Int) ≤ (x.N.length : Int)) && decide ((x.N.length : Int) ≤ 4))
 ·have HF : Hid (x.okB = false) := zgn (by rw [KE.out, Atm.sumB_hd (by rw [Atm.hdB, H0.out, H1.out, HQ.out, h2]; simp)])
  go_wp2_with fail; go_ret; exact ⟨retB HF.out.symm, hB⟩
 have H2 : Hid ((decide (1 ≤ x.N.length) && decide (x.N.length ≤ 4)) = true) := zgn (by rw [HQ.out, h2]); clear h2
 cases h3 : ((x.T.length : Int) != (x.N.length : Int))
 rotate_left
 ·have HF : Hid (x.okB = false) := zgn (by rw [KE.out, Atm.sumB_hd (by rw [Atm.hdB, H0.out, H1.out, decide_eq_false (fun h => by rw [bne_iff_ne] at h3; exact h3 (by rw [h]))]; simp)])
  go_wp2_with fail; go_ret; exact ⟨retB HF.out.symm, hB⟩
 have H3 : Hid (x.N.length = x.T.length) := zgn (by simp at h3; omega); go_wp2_with fail; refine (zZ _ _ _ _).mono ?_; rintro e wj ⟨rfl, rfl⟩
 cases h4 : (decide ((-1000 : Int) ≤ x.O) && decide (x.O ≤ 1000))
 ·have HF : Hid (x.okB = false) := zgn (by rw [KE.out, Atm.sumB_hd (by rw [Atm.hdB, H0.out, H1.out, H2.out, decide_eq_true H3.out, h4]; simp)])
  go_wp2_with fail; go_ret; exact ⟨retB HF.out.symm, hB⟩
 have HD : Hid (x.hdB = true) := zgn (by rw [Atm.hdB, H0.out, H1.out, H2.out, decide_eq_true H3.out, h4]; rfl); clear h4; go_wp2_with fail
 go_loopw [76] (fun i wq => ∃ k : Nat, k ≤ x.N.length ∧ i = .int .i64 k ∧ Hid (x.upto k) ∧ (∀ j, wq.cell? ⟨w.heap.size, j, none⟩ = (yNa x a2 c2 a4 c4 a5 c5 a6 c6)[j]?) ∧ w.heap.size + 1 ≤ wq.heap.size ∧ Below w.heap.size w wq) (fun i _ => x.N.length - (intOf i).toNat)
 case atStart => exact ⟨0, zgx _, rfl, zgn x.upto_zero, hx, hz, hB⟩
 case round =>
  clear hx hz hB C0 C1 C2 C3 C4 C5 C6 C7 C8; obtain ⟨k, hkl, rfl, hall, hx, hz, hB⟩ := hrel
  by_cases hlt : k < x.N.length
  ·skip
   have hlt' : k < x.T.length := by have := H3.out; omega
   obtain ⟨b, off, rfl, hbs, _⟩ := zl m5 (by omega); obtain ⟨b', off', rfl, hbs', _⟩ := zl m6 (by omega); obtain ⟨e1, g1, h1, d0, d1, t0, t1, _⟩ := Tm.at (m5.below hB) hlt; obtain ⟨n0, _⟩ := zan (m6.below hB) hlt'
   have hbz : b < wr.heap.size := by omega
   have hbz' : b' < wr.heap.size := by omega
   have hz0 : w.heap.size < wr.heap.size := by omega
   have C5 := hx 5; have C6 := hx 6; simp only [zgd, zgb, zgc] at C5 C6; have hbox := zt wr #[.string x.N[k].name, .slice e1 x.N[k].K.length g1] 28
   have hsz : (wr.alloc (.cells #[.string x.N[k].name, .slice e1 x.N[k].K.length g1] 28)).heap.size = wr.heap.size + 1 := by simp
   obtain ⟨w2, hw2⟩ : ∃ w2, w2 = wr.alloc (.cells #[.string x.N[k].name, .slice e1 x.N[k].K.length g1] 28) := ⟨_, rfl⟩; have hbw : Below wr.heap.size wr w2 := hw2 ▸ zb _ _; have HTK := Tm.size_mem (zgh hlt); have HTW := zgn (fun j (h : j < x.N.length) (hj : j < k) => Tm.wf_shape (Atm.upto_wf hall.out H3.out hj h)); have TK : TmR wr x.N[k] (.agg #[.string x.N[k].name, .slice e1 x.N[k].K.length g1]) := TmR.mk t0 ⟨h1, t1⟩; go_wp2_with fail; rw [← hw2] at hbox hsz ⊢; clear hw2; have N0 := hbox 0; have N1 := hbox 1; simp only [zgd, zgb, zgc] at N0 N1; have D5 := za C5 hbw; have D6 := za C6 hbw; have n0' := za n0 hbw; have TKw := TK.below hbw; have hB2 := hB.trans (hbw.mono hB.size); clear d0 d1 n0 C5 C6 TK hbox
   rcases Nat.eq_zero_or_pos k with hk0 | hkp
   ·skip
    have tg : decide ((0 : Int) < (k : Int)) = false := by simp; omega
    have tg2 : ¬ 0 < k := by omega
    have HK0 := zgn hk0; clear hk0
    cases hw : x.N[k].wf
    ·have HF : Hid (x.okB = false) := zgn (by rw [KE.out]; exact Atm.sumB_no hlt (Atm.num_wf hlt hlt' hw))
     have q0 := cell_regrown N0; have q1 := cell_regrown N1; have q2 := cell_regrown D5; have q3 := cell_regrown D6; have q4 := cell_regrown n0'; refine wp_region_quiet_below (by kernel_rfl) (by kernel_rfl) ?_
     repeat (first | go_big_quiet_skip | quiet_step (first | (go_at_call 129; with_reducible refine zgr (zac x.N[k] _ _ (TKw.below (below_regrown _ _ _)))) | (go_at_call 75; with_reducible refine zgr ((zZ _ _ _ _).mono (fun e w' h => ⟨h.1, h.2 ▸ zgz _ _⟩)))))
     refine wpQuiet_nil ?_; intro w9 hw9; obtain ⟨⟨dq, osq⟩, hw9⟩ := hw9; have hb9 : Below w2.heap.size w2 w9 := hw9 ▸ below_regrown w2 dq osq; clear hw9 q0 q1 q2 q3 q4; go_wp2_with fail; go_ret; exact ⟨retB HF.out.symm, hB2.trans (hb9.mono hB2.size)⟩
    have HW := zgn hw
    cases hi : (decide ((-50 : Int) ≤ x.T[k]) && decide (x.T[k] ≤ 50))
    ·have HF : Hid (x.okB = false) := zgn (by rw [KE.out]; exact Atm.sumB_no hlt (Atm.num_in hlt hlt' hi))
     have q0 := cell_regrown N0; have q1 := cell_regrown N1; have q2 := cell_regrown D5; have q3 := cell_regrown D6; have q4 := cell_regrown n0'; refine wp_region_quiet_below (by kernel_rfl) (by kernel_rfl) ?_
     repeat (first | go_big_quiet_skip | quiet_step (first | (go_at_call 129; with_reducible refine zgr (zac x.N[k] _ _ (TKw.below (below_regrown _ _ _)))) | (go_at_call 75; with_reducible refine zgr ((zZ _ _ _ _).mono (fun e w' h => ⟨h.1, h.2 ▸ zgz _ _⟩)))))
     refine wpQuiet_nil ?_; intro w9 hw9; obtain ⟨⟨dq, osq⟩, hw9⟩ := hw9; have hb9 : Below w2.heap.size w2 w9 := hw9 ▸ below_regrown w2 dq osq; clear hw9 q0 q1 q2 q3 q4; go_wp2_with fail; go_ret; exact ⟨retB HF.out.symm, hB2.trans (hb9.mono hB2.size)⟩
    have HI := zgn hi
    cases hn : (x.T[k] == 0)
    rotate_left
    ·have HF : Hid (x.okB = false) := zgn (by rw [KE.out]; exact Atm.sumB_no hlt (Atm.num_nil hlt hlt' hn))
     have q0 := cell_regrown N0; have q1 := cell_regrown N1; have q2 := cell_regrown D5; have q3 := cell_regrown D6; have q4 := cell_regrown n0'; refine wp_region_quiet_below (by kernel_rfl) (by kernel_rfl) ?_
     repeat (first | go_big_quiet_skip | quiet_step (first | (go_at_call 129; with_reducible refine zgr (zac x.N[k] _ _ (TKw.below (below_regrown _ _ _)))) | (go_at_call 75; with_reducible refine zgr ((zZ _ _ _ _).mono (fun e w' h => ⟨h.1, h.2 ▸ zgz _ _⟩)))))
     refine wpQuiet_nil ?_; intro w9 hw9; obtain ⟨⟨dq, osq⟩, hw9⟩ := hw9; have hb9 : Below w2.heap.size w2 w9 := hw9 ▸ below_regrown w2 dq osq; clear hw9 q0 q1 q2 q3 q4; go_wp2_with fail; go_ret; exact ⟨retB HF.out.symm, hB2.trans (hb9.mono hB2.size)⟩
    have HS := zgn (Atm.upto_succ hall.out (Atm.num_first HK0.out hlt hlt' HW.out HI.out hn)); have q0 := cell_regrown N0; have q1 := cell_regrown N1; have q2 := cell_regrown D5; have q3 := cell_regrown D6; have q4 := cell_regrown n0'; refine wp_region_quiet_below (by kernel_rfl) (by kernel_rfl) ?_
    repeat (first | go_big_quiet_skip | quiet_step (first | (go_at_call 129; with_reducible refine zgr (zac x.N[k] _ _ (TKw.below (below_regrown _ _ _)))) | (go_at_call 75; with_reducible refine zgr ((zZ _ _ _ _).mono (fun e w' h => ⟨h.1, h.2 ▸ zgz _ _⟩)))))
    refine wpQuiet_nil ?_; intro w9 hw9; obtain ⟨⟨dq, osq⟩, hw9⟩ := hw9; have hb9 : Below w2.heap.size w2 w9 := hw9 ▸ below_regrown w2 dq osq; clear hw9 q0 q1 q2 q3 q4; go_wp2_with fail; go_roundw
    case rel => exact ⟨k + 1, by omega, by go_num, HS, zh (zh hx hz0 hbw) (zge hz0 hbw.size) hb9, zgy (zgy hz hbw.size) hb9.size, hB2.trans (hb9.mono hB2.size)⟩
    case measure => simp [intOf]; omega
   ·skip
    obtain ⟨j, hj⟩ : ∃ j, k = j + 1 := ⟨k - 1, by omega⟩
    have hlj : j < x.N.length := by omega
    obtain ⟨e2, g2, h2, d2, d3, t2, t3, _⟩ := Tm.at (m5.below hB) hlj; have TJw : TmR w2 x.N[j] (.agg #[.string x.N[j].name, .slice e2 x.N[j].K.length g2]) := (TmR.mk t2 ⟨h2, t3⟩).below hbw; have HTJ := Tm.size_mem (zgh hlj)
    have HSZ : x.N[j].size ≤ 1100000 := by omega
    have HSK : x.N[k].size ≤ 1100000 := by omega
    have HSJ := HTW.out j hlj (by omega); have d2' := za d2 hbw; have d3' := za d3 hbw
    have tg : decide ((0 : Int) < (k : Int)) = true := by simp; omega
    have hs1 : IntKind.i64.wrap ((k : Int) - 1) = (j : Int) := by rw [IntWalk.i64_in _ (by omega)]; omega
    have HKJ := zgn hj; clear d2 d3 hj
    cases hw : x.N[k].wf
    ·have HF : Hid (x.okB = false) := zgn (by rw [KE.out]; exact Atm.sumB_no hlt (Atm.num_wf hlt hlt' hw))
     have q0 := cell_regrown N0; have q1 := cell_regrown N1; have q2 := cell_regrown D5; have q3 := cell_regrown D6; have q4 := cell_regrown n0'; have q5 := cell_regrown d2'; have q6 := cell_regrown d3'; refine wp_region_quiet_below (by kernel_rfl) (by kernel_rfl) ?_
     repeat (first | go_big_quiet_skip | quiet_step (first | (go_at_call 129; with_reducible refine zgr (zac x.N[k] _ _ (TKw.below (below_regrown _ _ _)))) | (go_at_call 75; with_reducible refine zgr ((zZ _ _ _ _).mono (fun e w' h => ⟨h.1, h.2 ▸ zgz _ _⟩)))))
     refine wpQuiet_nil ?_; intro w9 hw9; obtain ⟨⟨dq, osq⟩, hw9⟩ := hw9; have hb9 : Below w2.heap.size w2 w9 := hw9 ▸ below_regrown w2 dq osq; clear hw9 q0 q1 q2 q3 q4 q5 q6; go_wp2_with fail; go_ret; exact ⟨retB HF.out.symm, hB2.trans (hb9.mono hB2.size)⟩
    have HW := zgn hw
    cases hi : (decide ((-50 : Int) ≤ x.T[k]) && decide (x.T[k] ≤ 50))
    ·have HF : Hid (x.okB = false) := zgn (by rw [KE.out]; exact Atm.sumB_no hlt (Atm.num_in hlt hlt' hi))
     have q0 := cell_regrown N0; have q1 := cell_regrown N1; have q2 := cell_regrown D5; have q3 := cell_regrown D6; have q4 := cell_regrown n0'; have q5 := cell_regrown d2'; have q6 := cell_regrown d3'; refine wp_region_quiet_below (by kernel_rfl) (by kernel_rfl) ?_
     repeat (first | go_big_quiet_skip | quiet_step (first | (go_at_call 129; with_reducible refine zgr (zac x.N[k] _ _ (TKw.below (below_regrown _ _ _)))) | (go_at_call 75; with_reducible refine zgr ((zZ _ _ _ _).mono (fun e w' h => ⟨h.1, h.2 ▸ zgz _ _⟩)))))
     refine wpQuiet_nil ?_; intro w9 hw9; obtain ⟨⟨dq, osq⟩, hw9⟩ := hw9; have hb9 : Below w2.heap.size w2 w9 := hw9 ▸ below_regrown w2 dq osq; clear hw9 q0 q1 q2 q3 q4 q5 q6; go_wp2_with fail; go_ret; exact ⟨retB HF.out.symm, hB2.trans (hb9.mono hB2.size)⟩
    have HI := zgn hi
    cases hn : (x.T[k] == 0)
    rotate_left
    ·have HF : Hid (x.okB = false) := zgn (by rw [KE.out]; exact Atm.sumB_no hlt (Atm.num_nil hlt hlt' hn))
     have q0 := cell_regrown N0; have q1 := cell_regrown N1; have q2 := cell_regrown D5; have q3 := cell_regrown D6; have q4 := cell_regrown n0'; have q5 := cell_regrown d2'; have q6 := cell_regrown d3'; refine wp_region_quiet_below (by kernel_rfl) (by kernel_rfl) ?_
     repeat (first | go_big_quiet_skip | quiet_step (first | (go_at_call 129; with_reducible refine zgr (zac x.N[k] _ _ (TKw.below (below_regrown _ _ _)))) | (go_at_call 75; with_reducible refine zgr ((zZ _ _ _ _).mono (fun e w' h => ⟨h.1, h.2 ▸ zgz _ _⟩)))))
     refine wpQuiet_nil ?_; intro w9 hw9; obtain ⟨⟨dq, osq⟩, hw9⟩ := hw9; have hb9 : Below w2.heap.size w2 w9 := hw9 ▸ below_regrown w2 dq osq; clear hw9 q0 q1 q2 q3 q4 q5 q6; go_wp2_with fail; go_ret; exact ⟨retB HF.out.symm, hB2.trans (hb9.mono hB2.size)⟩
    have HNE := zgn (Atm.num_next HKJ.out hlj hlt hlt' HW.out HI.out hn); have hge := zdD 9 x.N[j].text x.N[k].text
    cases hl : nmLt x.N[j].text x.N[k].text
    ·have HF : Hid (x.okB = false) := zgn (by rw [KE.out]; exact Atm.sumB_no hlt (by rw [HNE.out, hl]))
     rw [hl] at hge; simp only [Bool.not_false] at hge; clear hl; have q0 := cell_regrown N0; have q1 := cell_regrown N1; have q2 := cell_regrown D5; have q3 := cell_regrown D6; have q4 := cell_regrown n0'; have q5 := cell_regrown d2'; have q6 := cell_regrown d3'; refine wp_region_quiet_below (by kernel_rfl) (by kernel_rfl) ?_
     repeat (first | go_big_quiet_skip | quiet_step (first | (go_at_call 129; with_reducible refine zgr (zac x.N[k] _ _ (TKw.below (below_regrown _ _ _)))) | (go_at_call 75; with_reducible refine zgr ((zZ _ _ _ _).mono (fun e w' h => ⟨h.1, h.2 ▸ zgz _ _⟩))) | (go_at_call 131; with_reducible refine zgr (zaZ _ x.N[j] 4 _ _ (zgo _) HSZ HSJ (TJw.below (below_regrown _ _ _)))) | (go_at_call 131; with_reducible refine zgr (zaZ _ x.N[k] 4 _ _ (zgo _) HSK (Tm.wf_shape HW.out) (TKw.below (below_regrown _ _ _))))))
     refine wpQuiet_nil ?_; intro w9 hw9; obtain ⟨⟨dq, osq⟩, hw9⟩ := hw9; have hb9 : Below w2.heap.size w2 w9 := hw9 ▸ below_regrown w2 dq osq; clear hw9 q0 q1 q2 q3 q4 q5 q6; go_wp2_with fail; go_ret; exact ⟨retB HF.out.symm, hB2.trans (hb9.mono hB2.size)⟩
    ·have HS := zgn (Atm.upto_succ hall.out (by rw [HNE.out, hl]))
     rw [hl] at hge; simp only [Bool.not_true] at hge; clear hl; have q0 := cell_regrown N0; have q1 := cell_regrown N1; have q2 := cell_regrown D5; have q3 := cell_regrown D6; have q4 := cell_regrown n0'; have q5 := cell_regrown d2'; have q6 := cell_regrown d3'; refine wp_region_quiet_below (by kernel_rfl) (by kernel_rfl) ?_
     repeat (first | go_big_quiet_skip | quiet_step (first | (go_at_call 129; with_reducible refine zgr (zac x.N[k] _ _ (TKw.below (below_regrown _ _ _)))) | (go_at_call 75; with_reducible refine zgr ((zZ _ _ _ _).mono (fun e w' h => ⟨h.1, h.2 ▸ zgz _ _⟩))) | (go_at_call 131; with_reducible refine zgr (zaZ _ x.N[j] 4 _ _ (zgo _) HSZ HSJ (TJw.below (below_regrown _ _ _)))) | (go_at_call 131; with_reducible refine zgr (zaZ _ x.N[k] 4 _ _ (zgo _) HSK (Tm.wf_shape HW.out) (TKw.below (below_regrown _ _ _))))))
     refine wpQuiet_nil ?_; intro w9 hw9; obtain ⟨⟨dq, osq⟩, hw9⟩ := hw9; have hb9 : Below w2.heap.size w2 w9 := hw9 ▸ below_regrown w2 dq osq; clear hw9 q0 q1 q2 q3 q4 q5 q6; go_wp2_with fail; go_roundw
     case rel => exact ⟨k + 1, by omega, by go_num, HS, zh (zh hx hz0 hbw) (zge hz0 hbw.size) hb9, zgy (zgy hz hbw.size) hb9.size, hB2.trans (hb9.mono hB2.size)⟩
     case measure => simp [intOf]; omega
  ·have HF : Hid (x.okB = true) := zgn (by rw [KE.out]; exact Atm.sumB_all HD.out (by omega) hall.out)
   go_wp2_with fail; go_ret; exact ⟨retB HF.out.symm, hB⟩
end Go.Proofs.YtbfinjiledfpcaaGreat
end
