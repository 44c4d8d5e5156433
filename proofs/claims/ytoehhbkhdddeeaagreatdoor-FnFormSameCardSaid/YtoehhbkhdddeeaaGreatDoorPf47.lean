/- Parts of the proof: FormY. -/
import Derived.Test.YtoehhbkhdddeeaaGreatDoorPf45
section
namespace Go.Proofs.YtoehhbkhdddeeaaGreatDoor
open Go Go.RowKit
set_option linter.unusedVariables false
set_option linter.unusedSimpArgs false
set_option maxRecDepth 100000
set_option maxHeartbeats 16000000
mutual
theorem Tm.cd_inj7 : ∀ (t u : Tm), t.cd = u.cd → t = u
 | .mk n ks, .mk m js, h => by
  rw [Tm.cd_eq, Tm.cd_eq] at h
  simp only [Tm.name, Tm.kids, List.cons.injEq, CD.str.injEq, CD.sl.injEq, and_true] at h
  rw [h.1, Tm.cds_inj7 ks js h.2]
theorem Tm.cds_inj7 : ∀ (ks js : List Tm), ks.map Tm.cd = js.map Tm.cd → ks = js
 | [], [], _ => rfl
 | [], _ :: _, h => by simp at h
 | _ :: _, [], h => by simp at h
 | k :: ks, j :: js, h => by
  simp only [List.map_cons, List.cons.injEq] at h
  rw [Tm.cd_inj7 k j h.1, Tm.cds_inj7 ks js h.2]
end
theorem zct : ∀ (l m : List Int), l.map zm = m.map zm → l = m
 | [], [], _ => rfl
 | [], _ :: _, h => by simp at h
 | _ :: _, [], h => by simp at h
 | k :: ks, j :: js, h => by
  simp only [List.map_cons, List.cons.injEq, zm, CD.int.injEq, and_true] at h
  rw [h.1, zct ks js h.2]
theorem Atm.cd_inj7 (x y : Atm) (h : x.cd = y.cd) : x = y := by
 obtain ⟨k, a, b, n, t, c, s⟩ := x
 obtain ⟨k', a', b', n', t', c', s'⟩ := y
 simp only [Atm.cd, Tm.cd_eq, List.cons_append, List.nil_append, List.cons.injEq, CD.int.injEq, CD.str.injEq, CD.sl.injEq, CD.bool.injEq, and_true] at h
 obtain ⟨h1, h2, h3, h4, h5, h6, h7, h8, h9⟩ := h
 have ea : a = a' := Tm.cd_inj7 a a' (by rw [Tm.cd_eq, Tm.cd_eq, h2, h3])
 have eb : b = b' := Tm.cd_inj7 b b' (by rw [Tm.cd_eq, Tm.cd_eq, h4, h5])
 rw [h1, ea, eb, Tm.cds_inj7 _ _ h6, zct _ _ h7, h8, h9]
theorem Lt.cd_inj7 (x y : Lt) (h : x.cd = y.cd) : x = y := by
 obtain ⟨a, n⟩ := x
 obtain ⟨b, m⟩ := y
 simp only [Lt.cd] at h
 have hl : a.cd.length = b.cd.length := by simp [Atm.cd, Tm.cd_eq]
 obtain ⟨h1, h2⟩ := List.append_inj h hl
 rw [Atm.cd_inj7 a b h1]
 simp only [List.cons.injEq, CD.bool.injEq, and_true] at h2
 rw [h2]
mutual
theorem Fm.cd_inj7 : ∀ (f g : Fm), f.cd = g.cd → f = g
 | .mk k l ks, .mk m n js, h => by
  rw [Fm.cd_eq, Fm.cd_eq] at h
  simp only [Fm.kind, Fm.lit, Fm.kids, List.cons_append, List.nil_append, List.cons.injEq, CD.int.injEq] at h
  have hl : l.cd.length = n.cd.length := by simp [Lt.cd, Atm.cd, Tm.cd_eq]
  obtain ⟨h1, h2⟩ := List.append_inj h.2 hl
  simp only [List.cons.injEq, CD.sl.injEq, and_true] at h2
  rw [h.1, Lt.cd_inj7 l n h1, Fm.cds_inj7 ks js h2]
theorem Fm.cds_inj7 : ∀ (ks js : List Fm), ks.map Fm.cd = js.map Fm.cd → ks = js
 | [], [], _ => rfl
 | [], _ :: _, h => by simp at h
 | _ :: _, [], h => by simp at h
 | k :: ks, j :: js, h => by
  simp only [List.map_cons, List.cons.injEq] at h
  rw [Fm.cd_inj7 k j h.1, Fm.cds_inj7 ks js h.2]
end
theorem zbz {p : UInt8 → Bool} : ∀ (a b r s : List UInt8), a.all p = true → b.all p = true → (∀ c, r.head? = some c → p c = false) → (∀ c, s.head? = some c → p c = false) → a ++ r = b ++ s → a = b ∧ r = s
 | [], [], r, s, _, _, _, _, h => ⟨rfl, h⟩
 | [], c :: b, r, s, _, hb, hr, _, h => by
  simp only [List.nil_append, List.cons_append] at h
  have h1 := hr c (by rw [h]; rfl)
  simp only [List.all_cons, zdY] at hb
  rw [hb.1] at h1; cases h1
 | c :: a, [], r, s, ha, _, _, hs, h => by
  simp only [List.nil_append, List.cons_append] at h
  have h1 := hs c (by rw [← h]; rfl)
  simp only [List.all_cons, zdY] at ha
  rw [ha.1] at h1; cases h1
 | c :: a, e :: b, r, s, ha, hb, hr, hs, h => by
  simp only [List.cons_append, List.cons.injEq] at h
  simp only [List.all_cons, zdY] at ha hb
  obtain ⟨e1, e2⟩ := zbz a b r s ha.2 hb.2 hr hs h.2
  exact ⟨by rw [h.1, e1], e2⟩
/-- What may stand behind a term. -/
def StopL (r : List UInt8) : Prop := ∀ c, r.head? = some c → zal c = false ∧ c ≠ 40
theorem StopL.cons {c : UInt8} {r : List UInt8} (h : (!zal c && c != 40) = true) : StopL (c :: r) := by
 intro d hd
 simp only [List.head?_cons, Option.some.injEq] at hd
 subst hd
 simpa using h
theorem zaO (x : List UInt8) (xs : List (List UInt8)) : Lib.joinTail [44] (x :: xs) = 44 :: (x ++ Lib.joinTail [44] xs) := by simp [Lib.joinTail]
theorem zbA : Lib.joinTail [44] [] = [] := rfl
theorem zaY (xs : List (List UInt8)) (r : List UInt8) : StopL (Lib.joinTail [44] xs ++ 41 :: r) := by
 cases xs with
 | nil => rw [zbA]; exact StopL.cons (by decide)
 | cons x xs => rw [zaO]; exact StopL.cons (by decide)
theorem zaZ {n : ByteArray} (h : zO n = true) : n.data.toList.all zal = true := by
 simp only [zO, zdY] at h; exact h.2
theorem za5 (ks : List Tm) (r : List UInt8) (h : StopL r) : ∀ c, (Tm.pieces (ks.map Tm.bs) ++ (Tm.shut ks.length ++ r)).head? = some c → zal c = false := by
 intro c hc
 cases ks with
 | nil => simp only [List.map_nil, Tm.pieces, Tm.shut, List.length_nil, if_true, List.nil_append] at hc; exact (h c hc).1
 | cons k ks =>
  simp only [List.map_cons, Tm.pieces, List.cons_append, List.head?_cons, Option.some.injEq] at hc
  subst hc; decide
mutual
theorem Tm.bs_inj7 : ∀ (t u : Tm) (d e : Int) (r s : List UInt8), Tm.shape t d = true → Tm.shape u e = true → StopL r → StopL s → t.bs ++ r = u.bs ++ s → t = u ∧ r = s
 | .mk n ks, .mk m js, d, e, r, s, ht, hu, hr, hs, h => by
  rw [Tm.shape_eq] at ht hu
  simp only [Tm.name, Tm.kids, zdY] at ht hu
  rw [Tm.bs_eq, Tm.bs_eq] at h
  simp only [Tm.name, Tm.kids, List.append_assoc] at h
  obtain ⟨h1, h2⟩ := zbz _ _ _ _ (zaZ ht.1.1.2) (zaZ hu.1.1.2) (za5 ks r hr) (za5 js s hs) h
  have e0 : n = m := Tm.bytes_eq h1
  subst e0
  match ks, js, ht, hu, h2 with
  | [], [], _, _, h2 =>
   simp only [List.map_nil, Tm.pieces, Tm.shut, List.length_nil, if_true, List.nil_append] at h2
   exact ⟨rfl, h2⟩
  | [], j :: js, _, _, h2 =>
   simp only [List.map_nil, List.map_cons, Tm.pieces, Tm.shut, List.length_nil, if_true, List.nil_append, List.cons_append] at h2
   exact absurd rfl (hr 40 (by rw [h2]; rfl)).2
  | k :: ks, [], _, _, h2 =>
   simp only [List.map_nil, List.map_cons, Tm.pieces, Tm.shut, List.length_nil, if_true, List.nil_append, List.cons_append] at h2
   exact absurd rfl (hs 40 (by rw [← h2]; rfl)).2
  | k :: ks, j :: js, ht, hu, h2 =>
   have z1 : Tm.shut (k :: ks).length = [41] := by simp [Tm.shut]
   have z2 : Tm.shut (j :: js).length = [41] := by simp [Tm.shut]
   rw [z1, z2] at h2
   simp only [List.map_cons, Tm.pieces, List.cons_append, List.append_assoc, List.nil_append, List.cons.injEq, true_and] at h2
   simp only [Tm.shapes, zdY] at ht hu
   obtain ⟨h3, h4⟩ := Tm.bs_inj7 k j _ _ _ _ ht.2.1 hu.2.1 (zaY _ _) (zaY _ _) h2
   obtain ⟨h5, h6⟩ := Tm.bss_inj7 ks js _ _ _ _ ht.2.2 hu.2.2 h4
   exact ⟨by rw [h3, h5], h6⟩
theorem Tm.bss_inj7 : ∀ (ks js : List Tm) (d e : Int) (r s : List UInt8), Tm.shapes ks d = true → Tm.shapes js e = true → Lib.joinTail [44] (ks.map Tm.bs) ++ 41 :: r = Lib.joinTail [44] (js.map Tm.bs) ++ 41 :: s → ks = js ∧ r = s
 | [], [], d, e, r, s, _, _, h => by
  simp only [List.map_nil, zbA, List.nil_append, List.cons.injEq, true_and] at h
  exact ⟨rfl, h⟩
 | [], j :: js, d, e, r, s, _, _, h => by
  simp only [List.map_nil, List.map_cons, zbA, zaO, List.nil_append, List.cons_append, List.cons.injEq] at h
  exact absurd h.1 (by decide)
 | k :: ks, [], d, e, r, s, _, _, h => by
  simp only [List.map_nil, List.map_cons, zbA, zaO, List.nil_append, List.cons_append, List.cons.injEq] at h
  exact absurd h.1 (by decide)
 | k :: ks, j :: js, d, e, r, s, ht, hu, h => by
  simp only [List.map_cons, zaO, List.cons_append, List.append_assoc, List.cons.injEq, true_and] at h
  simp only [Tm.shapes, zdY] at ht hu
  obtain ⟨h3, h4⟩ := Tm.bs_inj7 k j _ _ _ _ ht.1 hu.1 (zaY _ _) (zaY _ _) h
  obtain ⟨h5, h6⟩ := Tm.bss_inj7 ks js _ _ _ _ ht.2 hu.2 h4
  exact ⟨by rw [h3, h5], h6⟩
end
def dig9 (c : UInt8) : Bool := decide (48 ≤ c.toNat) && decide (c.toNat ≤ 57)
theorem zb7 {u : Nat} (h : u < 10) : dig9 (UInt8.ofNat (48 + u)) = true ∧ (UInt8.ofNat (48 + u)).toNat = 48 + u := by
 have e : (UInt8.ofNat (48 + u)).toNat = 48 + u := by rw [UInt8.toNat_ofNat']; omega
 exact ⟨by unfold dig9; rw [e]; simp; omega, e⟩
theorem zbB : ∀ (u : Nat), (Lib.decDigits u).all dig9 = true := by
 intro u
 induction u using Nat.strongRecOn with
 | _ u ih =>
  rw [Lib.decDigits]
  split
  ·rename_i h; rw [List.all_cons, (zb7 h).1]; rfl
  ·rename_i h
   rw [List.all_append, ih (u / 10) (by omega), List.all_cons, (zb7 (Nat.mod_lt u (by decide : 0 < 10))).1]
   rfl
def val9 (l : List UInt8) : Nat := l.foldl (fun a c => a * 10 + (c.toNat - 48)) 0
theorem zb8 : ∀ (u : Nat), val9 (Lib.decDigits u) = u := by
 intro u
 induction u using Nat.strongRecOn with
 | _ u ih =>
  rw [Lib.decDigits]
  split
  ·rename_i h
   show 0 * 10 + ((UInt8.ofNat (48 + u)).toNat - 48) = u
   rw [(zb7 h).2]; omega
  ·rename_i h
   have h1 := ih (u / 10) (by omega)
   unfold val9 at h1 ⊢
   rw [List.foldl_append, h1]
   simp only [List.foldl_cons, List.foldl_nil, (zb7 (Nat.mod_lt u (by decide : 0 < 10))).2]
   omega
theorem zdl {u v : Nat} (h : Lib.decDigits u = Lib.decDigits v) : u = v := by
 rw [← zb8 u, h, zb8]
theorem zbC (u : Nat) : ∃ c l, Lib.decDigits u = c :: l ∧ dig9 c = true := by
 have h := zbB u
 cases hl : Lib.decDigits u with
 | nil =>
  have h2 := zb8 u
  rw [hl] at h2
  have h3 : u = 0 := by rw [← h2]; rfl
  rw [h3, Lib.decDigits] at hl
  simp at hl
 | cons c l =>
  rw [hl] at h
  simp only [List.all_cons, zdY] at h
  exact ⟨c, l, rfl, h.1⟩
def StopD (r : List UInt8) : Prop := ∀ c, r.head? = some c → dig9 c = false
theorem StopD.cons {c : UInt8} {r : List UInt8} (h : dig9 c = false) : StopD (c :: r) := by
 intro d hd
 simp only [List.head?_cons, Option.some.injEq] at hd
 subst hd; exact h
theorem za6 (n : Int) : ∃ c l, Lib.itoa n = c :: l ∧ (c == 45 || dig9 c) = true := by
 unfold Lib.itoa
 split
 ·exact ⟨_, _, rfl, rfl⟩
 ·obtain ⟨c, l, h, hc⟩ := zbC n.toNat
  exact ⟨c, l, h, by rw [hc, Bool.or_true]⟩
theorem zcu (n m : Int) (r s : List UInt8) (hr : StopD r) (hs : StopD s) (h : Lib.itoa n ++ r = Lib.itoa m ++ s) : n = m ∧ r = s := by
 unfold Lib.itoa at h
 by_cases hn : n < 0 <;> by_cases hm : m < 0
 ·rw [if_pos hn, if_pos hm] at h
  simp only [List.cons_append, List.cons.injEq, true_and] at h
  obtain ⟨h1, h2⟩ := zbz _ _ _ _ (zbB _) (zbB _) hr hs h
  have h3 := zdl h1
  exact ⟨by omega, h2⟩
 ·rw [if_pos hn, if_neg hm] at h
  obtain ⟨c, l, hl, hc⟩ := zbC m.toNat
  rw [hl] at h
  simp only [List.cons_append, List.cons.injEq] at h
  rw [← h.1] at hc; exact absurd hc (by decide)
 ·rw [if_neg hn, if_pos hm] at h
  obtain ⟨c, l, hl, hc⟩ := zbC n.toNat
  rw [hl] at h
  simp only [List.cons_append, List.cons.injEq] at h
  rw [h.1] at hc; exact absurd hc (by decide)
 ·rw [if_neg hn, if_neg hm] at h
  obtain ⟨h1, h2⟩ := zbz _ _ _ _ (zbB _) (zbB _) hr hs h
  have h3 := zdl h1
  exact ⟨by omega, h2⟩
/-- A number of a sum with its term. -/
def ent9 (t : Int) (u : Tm) : List UInt8 := Lib.itoa t ++ 42 :: (u.bs ++ [32])
def zaP : List Int → List Tm → List UInt8
 | t :: ts, u :: us => ent9 t u ++ zaP ts us
 | _, _ => []
theorem zbU : ∀ (ts : List Int) (us : List Tm) (t : Int) (u : Tm), ts.length = us.length → zaP (ts ++ [t]) (us ++ [u]) = zaP ts us ++ ent9 t u
 | [], [], t, u, _ => by simp [zaP]
 | [], _ :: _, _, _, h => by simp at h
 | _ :: _, [], _, _, h => by simp at h
 | a :: ts, b :: us, t, u, h => by
  simp only [List.cons_append, zaP, zbU ts us t u (by simpa using h), List.append_assoc]
theorem Atm.sumT_ents {x : Atm} (hl : x.nums.length = x.times.length) : ∀ k, k ≤ x.nums.length → (x.sumT k).data.toList = zaP (x.times.take k) (x.nums.take k) := by
 intro k
 induction k with
 | zero => intro _; simp [Atm.sumT, zaP]
 | succ k ih =>
  intro hk
  rw [Atm.sumT_succ (by omega) (by omega), zdR (by omega : k < x.times.length), zdR (by omega : k < x.nums.length), zbU _ _ _ _ (by simp; omega), ← ih (by omega)]
  simp [ByteArray.data_append, dec9, ent9, Tm.text]
theorem zcv : ∀ (ts : List Int) (us : List Tm) (vs : List Int) (ws : List Tm) (r s : List UInt8), ts.length = us.length → vs.length = ws.length → (∀ u ∈ us, Tm.shape u 4 = true) → (∀ u ∈ ws, Tm.shape u 4 = true) → zaP ts us ++ 60 :: r = zaP vs ws ++ 60 :: s → ts = vs ∧ us = ws ∧ r = s
 | [], [], [], [], r, s, _, _, _, _, h => by
  simp only [zaP, List.nil_append, List.cons.injEq, true_and] at h
  exact ⟨rfl, rfl, h⟩
 | [], [], v :: vs, w :: ws, r, s, _, _, _, _, h => by
  obtain ⟨c, l, hl, hc⟩ := za6 v
  simp only [zaP, ent9, hl, List.nil_append, List.cons_append, List.cons.injEq] at h
  rw [← h.1] at hc; exact absurd hc (by decide)
 | v :: vs, w :: ws, [], [], r, s, _, _, _, _, h => by
  obtain ⟨c, l, hl, hc⟩ := za6 v
  simp only [zaP, ent9, hl, List.nil_append, List.cons_append, List.cons.injEq] at h
  rw [h.1] at hc; exact absurd hc (by decide)
 | t :: ts, u :: us, v :: vs, w :: ws, r, s, h1, h2, hu, hw, h => by
  simp only [zaP, ent9, List.append_assoc, List.cons_append, List.nil_append] at h
  obtain ⟨e1, h⟩ := zcu t v _ _ (StopD.cons (by decide)) (StopD.cons (by decide)) h
  simp only [List.cons.injEq, true_and] at h
  obtain ⟨e2, h⟩ := Tm.bs_inj7 u w 4 4 _ _ (hu u (List.mem_cons_self ..)) (hw w (List.mem_cons_self ..)) (StopL.cons (by decide)) (StopL.cons (by decide)) h
  simp only [List.cons.injEq, true_and] at h
  obtain ⟨e3, e4, e5⟩ := zcv ts us vs ws r s (by simpa using h1) (by simpa using h2) (fun u h => hu u (List.mem_cons_of_mem _ h)) (fun u h => hw u (List.mem_cons_of_mem _ h)) h
  exact ⟨by rw [e1, e3], by rw [e2, e4], e5⟩
 | [], _ :: _, _, _, _, _, h, _, _, _, _ => by simp at h
 | _ :: _, [], _, _, _, _, h, _, _, _, _ => by simp at h
 | _, _, [], _ :: _, _, _, _, h, _, _, _ => by simp at h
 | _, _, _ :: _, [], _, _, _, h, _, _, _ => by simp at h
theorem Tm.noneB_eq {t : Tm} (h : t.noneB = true) : t = .mk ⟨#[]⟩ [] := by
 cases t with
 | mk n ks =>
  simp only [Tm.noneB, Tm.name, Tm.kids, zdY, beq_iff_eq] at h
  have h1 : ks = [] := List.eq_nil_of_length_eq_zero (by omega)
  have h2 : n.data.toList = [] := by
   have h3 := h.1
   rw [ByteArray.toList_eq] at h3
   exact h3
  have h4 : n = ⟨#[]⟩ := Tm.bytes_eq (by rw [h2])
  rw [h1, h4]
theorem Atm.text_eq1 {x : Atm} (k : x.kind = 1) : x.text.data.toList = x.a.bs ++ 61 :: x.b.bs := by
 unfold Atm.text
 rw [if_pos k]
 simp [ByteArray.data_append, Tm.text]
theorem Atm.text_sum {x : Atm} (k : ¬ x.kind = 1) (hl : x.nums.length = x.times.length) : x.text.data.toList = zaP x.times x.nums ++ 60 :: ((if x.strict = true then [32] else [61, 32]) ++ Lib.itoa x.bound) := by
 unfold Atm.text
 rw [if_neg k]
 simp only [ByteArray.data_append, Array.toList_append]
 rw [Atm.sumT_ents hl _ (Nat.le_refl _), List.take_of_length_le (by omega), List.take_of_length_le (by omega)]
 cases x.strict <;> simp [sgnT, dec9]
theorem Tm.bs_head {t : Tm} {d : Int} (h : Tm.shape t d = true) : ∃ c l, t.bs = c :: l ∧ zal c = true := by
 rw [Tm.shape_eq] at h
 simp only [zdY] at h
 have h1 := h.1.1.2
 have h2 := zaZ h1
 simp only [zO, zdY, decide_eq_true_eq] at h1
 rw [Tm.bs_eq]
 have h4 : t.name.data.toList.length = t.name.size := by rw [Array.length_toList]; rfl
 cases hn : t.name.data.toList with
 | nil => rw [hn] at h4; simp at h4; omega
 | cons c l =>
  rw [hn] at h2
  simp only [List.all_cons, zdY] at h2
  exact ⟨c, l ++ (Tm.pieces (t.kids.map Tm.bs) ++ Tm.shut t.kids.length), by simp, h2.1⟩
theorem zcw {c : UInt8} (h : zal c = true) (h' : (c == 45 || dig9 c) = true) : False := by
 simp only [zal, dig9, zdY, Bool.or_eq_true, beq_iff_eq, decide_eq_true_eq] at h h'
 rcases h' with rfl | h'
 ·revert h; decide
 ·omega
structure Atm.SumP (x : Atm) : Prop where
 kind : x.kind = 2
 a : x.a = .mk ⟨#[]⟩ []
 b : x.b = .mk ⟨#[]⟩ []
 len : x.nums.length = x.times.length
 pos : 1 ≤ x.nums.length
 sh : ∀ u ∈ x.nums, Tm.shape u 4 = true
theorem Atm.sumP {x : Atm} (k : x.kind = 2) (hs : x.sumB = true) : x.SumP := by
 have HW := Atm.sum_wf hs
 simp only [Atm.sumB, Atm.hdB, zdY, decide_eq_true_eq] at hs
 exact ⟨k, Tm.noneB_eq hs.1.1, Tm.noneB_eq hs.1.2.1, hs.1.2.2.1, hs.1.2.2.2.1.1, fun u hu => Tm.wf_shape (HW u hu)⟩
structure Atm.EqP (x : Atm) : Prop where
 kind : x.kind = 1
 a : Tm.shape x.a 4 = true
 b : Tm.shape x.b 4 = true
 nums : x.nums = []
 times : x.times = []
 bound : x.bound = 0
 strict : x.strict = false
theorem Atm.eqP {x : Atm} (k : x.kind = 1) (he : x.eqB = true) : x.EqP := by
 simp only [Atm.eqB, zdY, beq_iff_eq, Bool.not_eq_true'] at he
 exact ⟨k, Tm.wf_shape he.1, Tm.wf_shape he.2.1, List.eq_nil_of_length_eq_zero (by have := he.2.2.1; omega), List.eq_nil_of_length_eq_zero (by have := he.2.2.2.1; omega), he.2.2.2.2.1, he.2.2.2.2.2⟩
theorem Atm.SumP.head {x : Atm} (h : x.SumP) : ∃ c l, x.text.data.toList = c :: l ∧ (c == 45 || dig9 c) = true := by
 rw [Atm.text_sum (by rw [h.kind]; decide) h.len]
 have h1 := h.pos
 have h2 := h.len
 match hn : x.nums, ht : x.times with
 | [], _ => rw [hn] at h1; simp at h1
 | u :: us, [] => rw [hn, ht] at h2; simp at h2
 | u :: us, t :: ts =>
  obtain ⟨c, l, hl, hc⟩ := za6 t
  exact ⟨c, _, by simp only [zaP, ent9, hl, List.cons_append]; rfl, hc⟩
theorem Atm.EqP.head {x : Atm} (h : x.EqP) : ∃ c l, x.text.data.toList = c :: l ∧ zal c = true := by
 obtain ⟨c, l, hl, hc⟩ := Tm.bs_head h.a
 exact ⟨c, _, by rw [Atm.text_eq1 h.kind, hl, List.cons_append], hc⟩
theorem Atm.text_inj7 {x y : Atm} (hx : x.okB = true) (hy : y.okB = true) (r s : List UInt8) (h : x.text.data.toList ++ 125 :: r = y.text.data.toList ++ 125 :: s) : x = y ∧ r = s := by
 rcases Atm.okB_kind hx with ⟨k1, e1⟩ | ⟨_, k1, e1⟩ <;> rcases Atm.okB_kind hy with ⟨k2, e2⟩ | ⟨_, k2, e2⟩
 ·have p := Atm.eqP k1 e1
  have q := Atm.eqP k2 e2
  rw [Atm.text_eq1 k1, Atm.text_eq1 k2] at h
  simp only [List.append_assoc, List.cons_append] at h
  obtain ⟨h1, h⟩ := Tm.bs_inj7 _ _ 4 4 _ _ p.a q.a (StopL.cons (by decide)) (StopL.cons (by decide)) h
  simp only [List.cons.injEq, true_and] at h
  obtain ⟨h2, h⟩ := Tm.bs_inj7 _ _ 4 4 _ _ p.b q.b (StopL.cons (by decide)) (StopL.cons (by decide)) h
  simp only [List.cons.injEq, true_and] at h
  refine ⟨?_, h⟩
  obtain ⟨p1, _, _, p2, p3, p4, p5⟩ := p
  obtain ⟨q1, _, _, q2, q3, q4, q5⟩ := q
  cases x; cases y
  simp only at *
  simp only [Atm.mk.injEq]
  exact ⟨by rw [p1, q1], h1, h2, by rw [p2, q2], by rw [p3, q3], by rw [p4, q4], by rw [p5, q5]⟩
 ·obtain ⟨c, l, hl, hc⟩ := (Atm.eqP k1 e1).head
  obtain ⟨d, m, hm, hd⟩ := (Atm.sumP k2 e2).head
  rw [hl, hm] at h
  simp only [List.cons_append, List.cons.injEq] at h
  rw [h.1] at hc; exact (zcw hc hd).elim
 ·obtain ⟨c, l, hl, hc⟩ := (Atm.sumP k1 e1).head
  obtain ⟨d, m, hm, hd⟩ := (Atm.eqP k2 e2).head
  rw [hl, hm] at h
  simp only [List.cons_append, List.cons.injEq] at h
  rw [h.1] at hc; exact (zcw hd hc).elim
 ·have p := Atm.sumP k1 e1
  have q := Atm.sumP k2 e2
  rw [Atm.text_sum (by rw [k1]; decide) p.len, Atm.text_sum (by rw [k2]; decide) q.len] at h
  simp only [List.append_assoc, List.cons_append] at h
  obtain ⟨h1, h2, h⟩ := zcv _ _ _ _ _ _ p.len.symm q.len.symm p.sh q.sh h
  have h3 : x.strict = y.strict ∧ Lib.itoa x.bound ++ 125 :: r = Lib.itoa y.bound ++ 125 :: s := by
   cases hs1 : x.strict <;> cases hs2 : y.strict <;> rw [hs1, hs2] at h <;> simp only [if_true, if_false, Bool.false_eq_true, List.cons_append, List.nil_append, List.cons.injEq, true_and] at h
   ·exact ⟨rfl, h⟩
   ·exact absurd h.1 (by decide)
   ·exact absurd h.1 (by decide)
   ·exact ⟨rfl, h⟩
  obtain ⟨h4, h5⟩ := zcu _ _ _ _ (StopD.cons (by decide)) (StopD.cons (by decide)) h3.2
  simp only [List.cons.injEq, true_and] at h5
  refine ⟨?_, h5⟩
  obtain ⟨p1, p2, p3, _, _, _⟩ := p
  obtain ⟨q1, q2, q3, _, _, _⟩ := q
  have h6 := h3.1
  cases x; cases y
  simp only at *
  simp only [Atm.mk.injEq]
  exact ⟨by rw [p1, q1], by rw [p2, q2], by rw [p3, q3], h2, h1, h4, h6⟩
theorem Atm.text_not {x : Atm} (hx : x.okB = true) (r s : List UInt8) (h : x.text.data.toList ++ r = 110 :: 111 :: 116 :: 32 :: s) : False := by
 rcases Atm.okB_kind hx with ⟨k1, e1⟩ | ⟨_, k1, e1⟩
 ·have p := Atm.eqP k1 e1
  have hs := p.a
  rw [Tm.shape_eq] at hs
  simp only [zdY] at hs
  rw [Atm.text_eq1 k1, Tm.bs_eq] at h
  simp only [List.append_assoc, List.cons_append] at h
  have h' : x.a.name.data.toList ++ (Tm.pieces (x.a.kids.map Tm.bs) ++ (Tm.shut x.a.kids.length ++ 61 :: (x.b.bs ++ r))) = [110, 111, 116] ++ 32 :: s := h
  obtain ⟨h1, _⟩ := zbz _ _ _ _ (zaZ hs.1.1.2) (by decide) (za5 _ _ (StopL.cons (by decide))) (fun c hc => by
   simp only [List.head?_cons, Option.some.injEq] at hc
   subst hc; decide) h'
  have h2 := Tm.nameB_size hs.1.1.2
  have h4 : x.a.name.data.toList.length = x.a.name.size := by rw [Array.length_toList]; rfl
  rw [h1] at h4
  simp at h4
  omega
 ·obtain ⟨c, l, hl, hc⟩ := (Atm.sumP k1 e1).head
  rw [hl] at h
  simp only [List.cons_append, List.cons.injEq] at h
  rw [h.1] at hc; exact absurd hc (by decide)
theorem Lt.text_inj7 {x y : Lt} (hx : x.atom.okB = true) (hy : y.atom.okB = true) (r s : List UInt8) (h : x.text.data.toList ++ 125 :: r = y.text.data.toList ++ 125 :: s) : x = y ∧ r = s := by
 unfold Lt.text at h
 have e0 : ∀ a : ByteArray, ((⟨#[110, 111, 116, 32]⟩ : ByteArray) ++ a).data.toList = 110 :: 111 :: 116 :: 32 :: a.data.toList := fun a => by simp [ByteArray.data_append]
 cases hn : x.no <;> cases hm : y.no <;> rw [hn, hm] at h <;> simp only [if_true, if_false, Bool.false_eq_true, e0, List.cons_append, List.cons.injEq, true_and] at h
 ·obtain ⟨h1, h2⟩ := Atm.text_inj7 hx hy r s h
  refine ⟨?_, h2⟩
  cases x; cases y
  simp only at *
  rw [hn, hm, h1]
 ·exact (Atm.text_not hx _ _ h).elim
 ·exact (Atm.text_not hy _ _ h.symm).elim
 ·obtain ⟨h1, h2⟩ := Atm.text_inj7 hx hy r s h
  refine ⟨?_, h2⟩
  cases x; cases y
  simp only at *
  rw [hn, hm, h1]
theorem Lt.bare_eq {x : Lt} (h : x.bare = true) : x = ⟨Atm.zero, false⟩ := by
 simp only [Lt.bare, zdY, Bool.not_eq_true'] at h
 have h1 := Atm.cd_inj7 _ _ ((zac _ _).1 h.2)
 cases x
 simp only at *
 rw [h1, h.1]
theorem Fm.shape_all7 {f : Fm} {d : Nat} (h : Fm.shape d f = true) : (Fm.nk f.kind = (f.kids.length : Int)) ∧ ((f.kind = 1 ∧ f.lit.atom.okB = true ∧ f.kids = []) ∨ (f.kind ≠ 1 ∧ Fm.shapes (d - 1) f.kids = true ∧ f.lit = ⟨Atm.zero, false⟩ ∧ f.kids ≠ [])) := by
 have h0 := h
 rw [Fm.shape_eq] at h
 by_cases h1 : d < 1 ∨ Fm.nk f.kind ≠ (f.kids.length : Int)
 ·rw [if_pos h1] at h; cases h
 rw [if_neg h1] at h
 have h2 : Fm.nk f.kind = (f.kids.length : Int) := by
  rcases Decidable.em (Fm.nk f.kind = (f.kids.length : Int)) with h' | h'
  ·exact h'
  ·exact absurd (.inr h') h1
 refine ⟨h2, ?_⟩
 by_cases k : f.kind = 1
 ·rw [if_pos k] at h
  exact .inl ⟨k, h, List.eq_nil_of_length_eq_zero (by have := Fm.nk_zero.2 k; omega)⟩
 ·rw [if_neg k] at h
  simp only [zdY] at h
  have h3 := (Fm.shape_kind h0 k).2.2.1
  exact .inr ⟨k, h.1, Lt.bare_eq h.2, fun e => by rw [e] at h3; simp at h3⟩
theorem Fm.sgn_inj {k m : Int} (hk : k = 2 ∨ k = 3 ∨ k = 4 ∨ k = 5 ∨ k = 6) (hm : m = 2 ∨ m = 3 ∨ m = 4 ∨ m = 5 ∨ m = 6) (h : Fm.sgn k = Fm.sgn m) : k = m := by
 rcases hk with rfl | rfl | rfl | rfl | rfl <;> rcases hm with rfl | rfl | rfl | rfl | rfl <;> first | rfl | (exact absurd h (by decide))
theorem Fm.sgn_no {k : Int} (h : Fm.sgn k = 123) : False := by
 unfold Fm.sgn at h
 repeat' split at h
 all_goals exact absurd h (by decide)
theorem Fm.bs_lit {k : Int} {l : Lt} {ks : List Fm} (h : k = 1) : (Fm.mk k l ks).bs = 123 :: (l.text.data.toList ++ [125]) := by rw [Fm.bs, if_pos h]
theorem Fm.bs_kids {k : Int} {l : Lt} {ks : List Fm} (h : k ≠ 1) : (Fm.mk k l ks).bs = Fm.sgn k :: 40 :: (Lib.join (ks.map Fm.bs) [44] ++ [41]) := by rw [Fm.bs, if_neg h]
mutual
theorem Fm.bs_inj7 : ∀ (f g : Fm) (d e : Nat) (r s : List UInt8), Fm.shape d f = true → Fm.shape e g = true → f.bs ++ r = g.bs ++ s → f = g ∧ r = s
 | .mk k l ks, .mk m n js, d, e, r, s, hf, hg, h => by
  obtain ⟨n1, c1⟩ := Fm.shape_all7 hf
  obtain ⟨n2, c2⟩ := Fm.shape_all7 hg
  have q1 := fun k1 => (Fm.shape_kind hf k1).2.2.2.2
  have q2 := fun k1 => (Fm.shape_kind hg k1).2.2.2.2
  simp only [Fm.kind, Fm.lit, Fm.kids] at n1 n2 c1 c2 q1 q2
  rcases c1 with ⟨k1, o1, z1⟩ | ⟨k1, s1, z1, w1⟩ <;> rcases c2 with ⟨k2, o2, z2⟩ | ⟨k2, s2, z2, w2⟩
  ·rw [Fm.bs_lit k1, Fm.bs_lit k2] at h
   simp only [List.cons_append, List.append_assoc, List.nil_append, List.cons.injEq, true_and] at h
   obtain ⟨h1, h2⟩ := Lt.text_inj7 o1 o2 r s h
   exact ⟨by rw [k1, k2, h1, z1, z2], h2⟩
  ·rw [Fm.bs_lit k1, Fm.bs_kids k2] at h
   simp only [List.cons_append, List.cons.injEq] at h
   exact (Fm.sgn_no h.1.symm).elim
  ·rw [Fm.bs_kids k1, Fm.bs_lit k2] at h
   simp only [List.cons_append, List.cons.injEq] at h
   exact (Fm.sgn_no h.1).elim
  ·rw [Fm.bs_kids k1, Fm.bs_kids k2] at h
   simp only [List.cons_append, List.append_assoc, List.nil_append, List.cons.injEq, true_and] at h
   have hk := Fm.sgn_inj (q1 k1) (q2 k2) h.1
   subst hk
   match ks, js, s1, s2, w1, w2, h.2 with
   | [], _, _, _, w1, _, _ => exact absurd rfl w1
   | _ :: _, [], _, _, _, w2, _ => exact absurd rfl w2
   | x :: ks, y :: js, s1, s2, _, _, h2 =>
    simp only [Fm.shapes, zdY] at s1 s2
    rw [List.map_cons, List.map_cons, Lib.join_cons, Lib.join_cons, List.append_assoc, List.append_assoc] at h2
    obtain ⟨h3, h4⟩ := Fm.bs_inj7 x y _ _ _ _ s1.1 s2.1 h2
    obtain ⟨h5, h6⟩ := Fm.bss_inj7 ks js _ _ _ _ s1.2 s2.2 h4
    exact ⟨by rw [z1, z2, h3, h5], h6⟩
theorem Fm.bss_inj7 : ∀ (ks js : List Fm) (d e : Nat) (r s : List UInt8), Fm.shapes d ks = true → Fm.shapes e js = true → Lib.joinTail [44] (ks.map Fm.bs) ++ 41 :: r = Lib.joinTail [44] (js.map Fm.bs) ++ 41 :: s → ks = js ∧ r = s
 | [], [], d, e, r, s, _, _, h => by
  simp only [List.map_nil, zbA, List.nil_append, List.cons.injEq, true_and] at h
  exact ⟨rfl, h⟩
 | [], j :: js, d, e, r, s, _, _, h => by
  simp only [List.map_nil, List.map_cons, zbA, zaO, List.nil_append, List.cons_append, List.cons.injEq] at h
  exact absurd h.1 (by decide)
 | k :: ks, [], d, e, r, s, _, _, h => by
  simp only [List.map_nil, List.map_cons, zbA, zaO, List.nil_append, List.cons_append, List.cons.injEq] at h
  exact absurd h.1 (by decide)
 | k :: ks, j :: js, d, e, r, s, ht, hu, h => by
  simp only [List.map_cons, zaO, List.cons_append, List.append_assoc, List.cons.injEq, true_and] at h
  simp only [Fm.shapes, zdY] at ht hu
  obtain ⟨h3, h4⟩ := Fm.bs_inj7 k j _ _ _ _ ht.1 hu.1 h
  obtain ⟨h5, h6⟩ := Fm.bss_inj7 ks js _ _ _ _ ht.2 hu.2 h4
  exact ⟨by rw [h3, h5], h6⟩
end
/-- Two right forms are one just if their texts are. -/
theorem Fm.text_iff {f g : Fm} (hf : f.okF = true) (hg : g.okF = true) : eqV f.cd g.cd = decide (f.text = g.text) := by
 rw [Bool.eq_iff_iff, zac, decide_eq_true_eq]
 constructor
 ·intro h; rw [Fm.cd_inj7 f g h]
 ·intro h
  have h1 : f.bs = g.bs := by
   have := congrArg (fun b : ByteArray => b.data.toList) h
   simpa [Fm.text] using this
  rw [(Fm.bs_inj7 f g 5 5 [] [] (Fm.okF_shape hf).1 (Fm.okF_shape hg).1 (by rw [h1])).1]
end Go.Proofs.YtoehhbkhdddeeaaGreatDoor
end
