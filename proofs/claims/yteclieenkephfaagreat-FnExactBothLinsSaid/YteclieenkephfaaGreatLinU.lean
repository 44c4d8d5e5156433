/- The constraints of literals, plain: what they are, and what valid literals give. -/
import Derived.Test.YteclieenkephfaaGreatLinT
import Derived.Test.YteclieenkephfaaGreatNumsP
namespace Go.Proofs.YteclieenkephfaaGreat
open Go Go.RowKit
set_option linter.unusedVariables false
set_option linter.unusedSimpArgs false

mutual
theorem addP_once : ∀ (t : Tm) (l : List Tm), l.Nodup → (Tm.addP l t).Nodup
  | .mk n ks, l, h => by
    have h1 := addPs_once ks l h
    simp only [Tm.addP]
    split
    · exact h1
    · rename_i hm
      exact List.nodup_append.2 ⟨h1, by simp, fun a ha b hb e => by rw [List.mem_singleton] at hb; subst hb; subst e; exact hm ha⟩
theorem addPs_once : ∀ (ts l : List Tm), l.Nodup → (Tm.addPs l ts).Nodup
  | [], l, h => by simpa [Tm.addPs] using h
  | t :: ts, l, h => by simp only [Tm.addPs]; exact addPs_once ts _ (addP_once t l h)
end
def z4 : List Int := [0, 0, 0, 0]
/-- A sum's constraint. -/
def sumL (nums : List Tm) (l : Lt) : Ln := ⟨linC nums l.atom.nums l.atom.times z4, l.atom.bound, l.atom.strict⟩
def turnL (l : Lt) (x : Ln) : Ln := if l.no = true then x.not else x
def eqL (nums : List Tm) (l : Lt) : List Ln := [⟨linC nums [l.atom.a, l.atom.b] [1, -1] z4, 0, false⟩, ⟨linC nums [l.atom.a, l.atom.b] [-1, 1] z4, 0, false⟩]
/-- The constraints of one literal. -/
def lins1 (nums : List Tm) (l : Lt) : List Ln := if l.atom.kind = 2 then [turnL l (sumL nums l)] else if l.no = false ∧ l.atom.a ∈ nums then eqL nums l else []
def linsP (nums : List Tm) (ls : List Lt) : List Ln := ls.flatMap (lins1 nums)
theorem linsP_succ (nums : List Tm) (ls : List Lt) (k : Nat) (h : k < ls.length) : linsP nums (ls.take (k + 1)) = linsP nums (ls.take k) ++ lins1 nums ls[k] := by
  rw [List.take_succ_eq_append_getElem h, linsP, List.flatMap_append]; simp [linsP]
theorem lins1_sum {nums : List Tm} {l : Lt} (h : l.atom.kind = 2) : lins1 nums l = [turnL l (sumL nums l)] := if_pos h
theorem lins1_eq {nums : List Tm} {l : Lt} (h : ¬ l.atom.kind = 2) (h1 : l.no = false) (h2 : l.atom.a ∈ nums) : lins1 nums l = eqL nums l := by unfold lins1; rw [if_neg h, if_pos ⟨h1, h2⟩]
theorem lins1_no {nums : List Tm} {l : Lt} (h : ¬ l.atom.kind = 2) (h1 : l.no = true) : lins1 nums l = [] := by unfold lins1; rw [if_neg h, if_neg]; rintro ⟨h2, _⟩; rw [h1] at h2; simp at h2
theorem lins1_none {nums : List Tm} {l : Lt} (h : ¬ l.atom.kind = 2) (h2 : l.atom.a ∉ nums) : lins1 nums l = [] := by unfold lins1; rw [if_neg h, if_neg]; rintro ⟨_, h3⟩; exact h2 h3
theorem lins1_len (nums : List Tm) (l : Lt) : (lins1 nums l).length ≤ 2 := by
  unfold lins1; split
  · simp
  · split <;> simp [eqL]
theorem linsP_len (nums : List Tm) : ∀ (ls : List Lt), (linsP nums ls).length ≤ 2 * ls.length
  | [] => by simp [linsP]
  | l :: ls => by
    have h1 := linsP_len nums ls
    have h2 := lins1_len nums l
    unfold linsP at h1 ⊢
    rw [List.flatMap_cons, List.length_append, List.length_cons]; omega
/-- What the walks want of a literal. -/
structure GoodL (nums : List Tm) (l : Lt) : Prop where
  sumIn : l.atom.kind = 2 → ∀ t ∈ l.atom.nums, t ∈ nums
  sumLen : l.atom.kind = 2 → l.atom.times.length = l.atom.nums.length
  sumFew : l.atom.kind = 2 → l.atom.nums.length ≤ 4
  sumOnce : l.atom.kind = 2 → l.atom.nums.Nodup
  sumSmall : l.atom.kind = 2 → ∀ x ∈ l.atom.times, -1000000000 ≤ x ∧ x ≤ 1000000000
  eqIn : ¬ l.atom.kind = 2 → l.atom.a ∈ nums → l.atom.b ∈ nums
theorem bl_irrefl : ∀ (x : List UInt8), Op.bytesLess x x = false
  | [] => rfl
  | a :: x => by simp [Op.bytesLess, bl_irrefl x]
theorem bl_trans : ∀ (x y z : List UInt8), Op.bytesLess x y = true → Op.bytesLess y z = true → Op.bytesLess x z = true
  | x, y, [], _, h => by cases y <;> simp [Op.bytesLess] at h
  | [], _, c :: z, _, _ => rfl
  | a :: x, [], _ :: _, h, _ => by simp [Op.bytesLess] at h
  | a :: x, b :: y, c :: z, h, h' => by
    simp only [Op.bytesLess, Bool.or_eq_true, decide_eq_true_eq, Bool.and_eq_true, beq_iff_eq] at h h' ⊢
    rcases h with h | ⟨rfl, h⟩
    · rcases h' with h' | ⟨rfl, h'⟩
      · exact .inl (UInt8.lt_trans h h')
      · exact .inl h
    · rcases h' with h' | ⟨rfl, h'⟩
      · exact .inl h'
      · exact .inr ⟨rfl, bl_trans x y z h h'⟩
theorem Atm.asc {x : Atm} (h : x.sumB = true) : ∀ (j i : Nat) (hi : i < j) (hj : j < x.nums.length), nmLt x.nums[i].text x.nums[j].text = true
  | 0, i, hi, _ => by omega
  | j + 1, i, hi, hj => by
    simp only [Atm.sumB, Bool.and_eq_true, List.all_eq_true, List.mem_range] at h
    have h1 := h.2 (j + 1) hj
    have hlen : x.nums.length = x.times.length := by
      have := h.1; simp only [Atm.hdB, Bool.and_eq_true, decide_eq_true_eq] at this; exact this.2.2.1
    unfold Atm.numAt at h1
    rw [List.getElem?_eq_getElem hj, List.getElem?_eq_getElem (by omega)] at h1
    simp only [Bool.and_eq_true] at h1
    have h2 := h1.2.2.2
    simp only [Atm.prevB] at h2
    rw [List.getElem?_eq_getElem (by omega)] at h2
    have h3 := h2
    rcases Nat.lt_or_ge i j with h4 | h4
    · exact bl_trans _ _ _ (Atm.asc (by simp only [Atm.sumB, Bool.and_eq_true, List.all_eq_true, List.mem_range]; exact h) j i h4 (by omega)) h3
    · obtain rfl : i = j := by omega
      exact h3
theorem Atm.once {x : Atm} (h : x.sumB = true) : x.nums.Nodup := by
  unfold List.Nodup
  rw [List.pairwise_iff_getElem]
  intro i j hi hj hij e
  have := Atm.asc h j i hij hj
  rw [e] at this
  unfold nmLt at this
  rw [bl_irrefl] at this
  simp at this
theorem goodL_of {s : Sg} {ls : List Lt} (h : bothB s ls = true) : ∀ l ∈ ls, GoodL (numsB s ls) l := by
  intro l hl
  obtain ⟨hs, _, hall⟩ := bothB_ats h
  rw [List.all_eq_true] at hall
  have hat := hall l hl
  simp only [atomB, Bool.and_eq_true] at hat
  have hin : ∀ t ∈ l.atom.tms, t ∈ Tm.addPs [] (litsT ls) := fun t ht => by
    have := (Tm.allIns_iff (Tm.addPs [] (litsT ls)) (litsT ls)).1 (Tm.addPs_all _ _) t (List.mem_flatMap.2 ⟨l, hl, ht⟩)
    rw [Tm.allIn_eq] at this
    exact this.1
  have hnm : ∀ t ∈ l.atom.tms, t.isNum s = true → t ∈ numsB s ls := fun t ht hn => by
    unfold numsB; rw [if_pos h]
    exact List.mem_filter.2 ⟨hin t ht, hn⟩
  have hsum : l.atom.kind = 2 → l.atom.sumB = true := fun h2 => by rw [← Atm.okB_sum h2]; exact hat.2.1
  have hhd : l.atom.kind = 2 → l.atom.hdB = true := fun h2 => by
    have := hsum h2; simp only [Atm.sumB, Bool.and_eq_true] at this; exact this.1
  refine ⟨fun h2 t ht => ?_, fun h2 => ?_, fun h2 => ?_, fun h2 => Atm.once (hsum h2), fun h2 x hx => ?_, fun h2 ha => ?_⟩
  · have h3 := hat.2.2
    rw [if_neg (by omega), List.all_eq_true] at h3
    exact hnm t (by unfold Atm.tms; rw [if_neg (by omega)]; exact ht) (h3 t ht)
  · have := hhd h2; simp only [Atm.hdB, Bool.and_eq_true, decide_eq_true_eq] at this; exact this.2.2.1.symm
  · have := hhd h2; simp only [Atm.hdB, Bool.and_eq_true, decide_eq_true_eq] at this; exact this.2.2.2.1.2
  · obtain ⟨k, hk, rfl⟩ := List.getElem_of_mem hx
    have hlen : l.atom.nums.length = l.atom.times.length := by
      have := hhd h2; simp only [Atm.hdB, Bool.and_eq_true, decide_eq_true_eq] at this; exact this.2.2.1
    have h4 := hsum h2
    simp only [Atm.sumB, Bool.and_eq_true, List.all_eq_true, List.mem_range] at h4
    have h5 := h4.2 k (by omega)
    unfold Atm.numAt at h5
    rw [List.getElem?_eq_getElem (by omega), List.getElem?_eq_getElem hk] at h5
    simp only [Bool.and_eq_true, decide_eq_true_eq] at h5
    omega
  · have hk1 : l.atom.kind = 1 := by
      by_cases h1 : l.atom.kind = 1
      · exact h1
      · have := hat.2.1; rw [Atm.okB_no h1 h2] at this; simp at this
    have h3 := hat.2.2
    rw [if_pos hk1] at h3
    unfold numsB at ha
    rw [if_pos h] at ha
    have ha2 := (List.mem_filter.1 ha).2
    refine hnm _ (by unfold Atm.tms; rw [if_pos hk1]; simp) ?_
    unfold Eqn.okB at h3
    unfold Tm.isNum at ha2 ⊢
    have ha3 : l.atom.a.tsrt s = some 1 := by simpa using ha2
    simp only [ha3] at h3
    cases hb : l.atom.b.tsrt s with
    | none => rw [hb] at h3; simp at h3
    | some n => rw [hb] at h3; simp at h3; simp [← h3]
theorem numsB_nodup (s : Sg) (ls : List Lt) : (numsB s ls).Nodup := by
  unfold numsB; split
  · exact (addPs_once _ _ List.nodup_nil).filter _
  · exact List.nodup_nil
theorem numsB_few {s : Sg} {ls : List Lt} : (numsB s ls).length ≤ 4 := by
  unfold numsB; split
  · rename_i h
    simp only [bothB, Bool.and_eq_true, decide_eq_true_eq] at h
    exact h.2.2.2.2
  · simp
theorem linsP_linT {nums : List Tm} {l : Lt} (h : l.atom.kind = 2) (hg : GoodL nums l) (hn : nums.Nodup) (h4 : nums.length ≤ 4) : linT nums l = turnL l (sumL nums l) := by
  have e := linS_eq (nums := nums) l.atom.nums l.atom.times [0, 0, 0, 0] (hg.sumOnce h) hn (hg.sumIn h) (fun t ht => by
    have := (Tm.pos_yes (hg.sumIn h t ht)).1
    have h3 : Tm.pos nums t < 4 := by omega
    generalize Tm.pos nums t = p at h3
    match p, h3 with
    | 0, _ => rfl
    | 1, _ => rfl
    | 2, _ => rfl
    | 3, _ => rfl) h4
  unfold linT turnL sumL z4
  rw [e]
theorem diff_turn {nums : List Tm} {a b : Tm} (ha : a ∈ nums) (hb : b ∈ nums) (h4 : nums.length ≤ 4) : linC nums [b, a] [1, -1] [0, 0, 0, 0] = linC nums [a, b] [-1, 1] [0, 0, 0, 0] := by
  have h1 := (Tm.pos_yes ha).1
  have h2 := (Tm.pos_yes hb).1
  show addAt (addAt _ (Tm.pos nums b) 1) (Tm.pos nums a) (-1) = addAt (addAt _ (Tm.pos nums a) (-1)) (Tm.pos nums b) 1
  have h3 : Tm.pos nums a < 4 := by omega
  have h5 : Tm.pos nums b < 4 := by omega
  generalize Tm.pos nums a = p at h3
  generalize Tm.pos nums b = q at h5
  match p, q, h3, h5 with
  | 0, 0, _, _ => rfl
  | 0, 1, _, _ => rfl
  | 0, 2, _, _ => rfl
  | 0, 3, _, _ => rfl
  | 1, 0, _, _ => rfl
  | 1, 1, _, _ => rfl
  | 1, 2, _, _ => rfl
  | 1, 3, _, _ => rfl
  | 2, 0, _, _ => rfl
  | 2, 1, _, _ => rfl
  | 2, 2, _, _ => rfl
  | 2, 3, _, _ => rfl
  | 3, 0, _, _ => rfl
  | 3, 1, _, _ => rfl
  | 3, 2, _, _ => rfl
  | 3, 3, _, _ => rfl
end Go.Proofs.YteclieenkephfaaGreat
