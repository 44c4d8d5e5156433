/- Parts of the proof: Term. -/
import Derived.Test.YtlefdhhnlbpbkaaGreatPv1
section
namespace Go.Proofs.YtlefdhhnlbpbkaaGreat
open Go Go.RowKit
set_option linter.unusedVariables false
set_option linter.unusedSimpArgs false
set_option maxRecDepth 100000
set_option maxHeartbeats 16000000
inductive Tm where
 | mk (name : ByteArray) (kids : List Tm)
namespace Tm
def name : Tm → ByteArray | .mk n _ => n
def kids : Tm → List Tm | .mk _ k => k
def cd : Tm → List CD
 | .mk n ks => [.str n, .sl (ks.map cd)]
mutual
def size : Tm → Nat | .mk _ ks => 1 + sizes ks
def sizes : List Tm → Nat | [] => 0 | t :: ts => size t + sizes ts
end
theorem size_eq (t : Tm) : t.size = 1 + sizes t.kids := by cases t; simp [size, kids]
theorem cd_eq (t : Tm) : t.cd = [.str t.name, .sl (t.kids.map cd)] := by cases t; simp [cd, name, kids]
theorem size_pos (t : Tm) : 0 < t.size := by rw [size_eq]; omega
theorem size_mem : ∀ {ts : List Tm} {t : Tm}, t ∈ ts → t.size ≤ sizes ts
 | [], t, h => by simp at h
 | u :: us, t, h => by
  simp only [sizes]
  rcases zev.1 h with rfl | h
  ·omega
  ·have := size_mem h; omega
theorem size_kid {t : Tm} {i : Nat} (h : i < t.kids.length) : t.kids[i].size < t.size := by
 have := size_mem (zes h); rw [size_eq t]; omega
theorem size_kid_mem {t u : Tm} (h : u ∈ t.kids) : u.size < t.size := by have := size_mem h; rw [size_eq t]; omega
theorem sizes_len : ∀ (ts : List Tm), ts.length ≤ sizes ts
 | [] => by simp
 | t :: ts => by have := sizes_len ts; have := size_pos t; simp only [sizes, List.length_cons]; omega
theorem sizes_append : ∀ (a b : List Tm), sizes (a ++ b) = sizes a + sizes b
 | [], b => by simp [sizes]
 | t :: ts, b => by simp only [List.cons_append, sizes, sizes_append ts b]; omega
theorem sizes_take (ts : List Tm) (k : Nat) : sizes (ts.take k) ≤ sizes ts := by
 have := sizes_append (ts.take k) (ts.drop k); rw [List.take_append_drop] at this; omega
theorem cd_len (t : Tm) : t.cd.length = 2 := by cases t; simp [cd]
mutual
def beq : Tm → Tm → Bool
 | .mk n ks, .mk m js => decide (n = m) && beqs ks js
def beqs : List Tm → List Tm → Bool
 | [], [] => true
 | t :: ts, u :: us => beq t u && beqs ts us
 | _, _ => false
end
mutual
theorem beq_iff : ∀ (a b : Tm), beq a b = true ↔ a = b
 | .mk n ks, .mk m js => by simp [beq, beqs_iff ks js]
theorem beqs_iff : ∀ (a b : List Tm), beqs a b = true ↔ a = b
 | [], [] => by simp [beqs]
 | [], _ :: _ => by simp [beqs]
 | _ :: _, [] => by simp [beqs]
 | t :: ts, u :: us => by simp [beqs, beq_iff t u, beqs_iff ts us]
end
instance : DecidableEq Tm := fun a b => if h : beq a b = true then .isTrue ((beq_iff a b).1 h) else .isFalse fun e => h ((beq_iff a b).2 e)
end Tm
def zaW (c : UInt8) : Bool := decide (97 ≤ (c.toNat : Int)) && decide ((c.toNat : Int) ≤ 122)
/-- A name: one or two small letters. -/
def zaa (s : ByteArray) : Bool := (decide (1 ≤ (s.size : Int)) && decide ((s.size : Int) ≤ 2)) && s.data.toList.all zaW
namespace Tm
mutual
/-- impl.termSize -/
def tsz : Tm → Int → Int
 | .mk n ks, d => if zaa n = true ∧ ks.length ≤ 2 ∧ d ≤ 4 then 1 + tszs ks (d + 1) else 13
def tszs : List Tm → Int → Int
 | [], _ => 0
 | t :: ts, d => tsz t d + tszs ts d
end
theorem tsz_eq (t : Tm) (d : Int) : tsz t d = if zaa t.name = true ∧ t.kids.length ≤ 2 ∧ d ≤ 4 then 1 + tszs t.kids (d + 1) else 13 := by cases t; simp only [tsz]; rfl
theorem zbr : ∀ (a b : List Tm) (d : Int), tszs (a ++ b) d = tszs a d + tszs b d
 | [], b, d => by simp [tszs]
 | t :: ts, b, d => by simp only [List.cons_append, tszs, zbr ts b]; omega
theorem tszs_succ (ts : List Tm) (d : Int) (k : Nat) (h : k < ts.length) : tszs (ts.take (k + 1)) d = tszs (ts.take k) d + tsz ts[k] d := by
 rw [zeq h, zbr]; simp [tszs]
/-- Its bounds. -/
def cap5 : Nat → Nat | 0 => 13 | n + 1 => 13 + 2 * cap5 n
theorem tsz_bd : ∀ (n : Nat) (t : Tm) (d : Int), 5 - n ≤ d → 1 ≤ tsz t d ∧ tsz t d ≤ cap5 n
 | 0, t, d, h => by rw [tsz_eq, if_neg (by omega)]; simp [cap5]
 | n + 1, t, d, h => by
  rw [tsz_eq]
  split
  ·rename_i hc
   have h2 := hc.2.1
   have hk : ∀ ts : List Tm, 0 ≤ tszs ts (d + 1) ∧ tszs ts (d + 1) ≤ cap5 n * ts.length := by
    intro ts
    induction ts with
    | nil => simp [tszs]
    | cons u us ih =>
     have := tsz_bd n u (d + 1) (by omega)
     simp only [tszs, List.length_cons, Int.natCast_add, Int.natCast_one, Int.mul_add, Int.mul_one]
     omega
   have h3 := hk t.kids
   have h4 : cap5 n * t.kids.length ≤ cap5 n * 2 := Nat.mul_le_mul_left _ h2
   simp only [cap5]
   refine ⟨by omega, ?_⟩
   have : (cap5 n : Int) * (t.kids.length : Int) ≤ (cap5 n : Int) * 2 := by exact_mod_cast h4
   omega
  ·simp [cap5]; omega
theorem tsz_bd' (t : Tm) (d : Int) (h : 1 ≤ d) : 1 ≤ tsz t d ∧ tsz t d ≤ 403 := tsz_bd 4 t d (by omega)
theorem tszs_bd (ts : List Tm) (d : Int) (h : 1 ≤ d) : 0 ≤ tszs ts d ∧ tszs ts d ≤ 403 * ts.length := by
 induction ts with
 | nil => simp [tszs]
 | cons u us ih => have := tsz_bd' u d h; simp only [tszs, List.length_cons]; omega
mutual
/-- spec.l4Shape -/
def shape : Tm → Int → Bool
 | .mk n ks, d => decide (1 ≤ d) && zaa n && decide (ks.length ≤ 2) && shapes ks (d - 1)
def shapes : List Tm → Int → Bool
 | [], _ => true
 | t :: ts, d => shape t d && shapes ts d
end
theorem shape_eq (t : Tm) (d : Int) : shape t d = (decide (1 ≤ d) && zaa t.name && decide (t.kids.length ≤ 2) && shapes t.kids (d - 1)) := by cases t; simp only [shape]; rfl
theorem shapes_all : ∀ (ts : List Tm) (d : Int), shapes ts d = ts.all (shape · d)
 | [], d => by simp [shapes]
 | t :: ts, d => by simp [shapes, shapes_all ts d]
theorem shapes_take (ts : List Tm) (d : Int) (k : Nat) (h : k < ts.length) : shapes (ts.take (k + 1)) d = (shapes (ts.take k) d && shape ts[k] d) ∧ (shape ts[k] d = false → shapes ts d = false) := by
 constructor
 ·rw [shapes_all, shapes_all, zeq h, List.all_append]
  simp only [List.all_cons, List.all_nil, Bool.and_true]
 ·intro hf
  rw [shapes_all, List.all_eq_false]
  exact ⟨ts[k], zes h, by simp [hf]⟩
mutual
/-- spec.l4Many -/
def many : Tm → Int → Int
 | .mk _ ks, d => if 0 < d then 1 + manys ks (d - 1) else 1
def manys : List Tm → Int → Int
 | [], _ => 0
 | t :: ts, d => many t d + manys ts d
end
theorem many_eq (t : Tm) (d : Int) : many t d = if 0 < d then 1 + manys t.kids (d - 1) else 1 := by cases t; simp [many, kids]
theorem zbg : ∀ (a b : List Tm) (d : Int), manys (a ++ b) d = manys a d + manys b d
 | [], b, d => by simp [manys]
 | t :: ts, b, d => by simp only [List.cons_append, manys, zbg ts b]; omega
theorem manys_succ (ts : List Tm) (d : Int) (k : Nat) (h : k < ts.length) : manys (ts.take (k + 1)) d = manys (ts.take k) d + many ts[k] d := by
 rw [zeq h, zbg]; simp [manys]
mutual
theorem many_bd : ∀ (t : Tm) (d : Int), 1 ≤ many t d ∧ many t d ≤ size t
 | .mk n ks, d => by
  have := manys_bd ks (d - 1)
  simp only [many, size]
  split <;> omega
theorem manys_bd : ∀ (ts : List Tm) (d : Int), 0 ≤ manys ts d ∧ manys ts d ≤ sizes ts
 | [], d => by simp [manys, sizes]
 | t :: ts, d => by
  have := many_bd t d
  have := manys_bd ts d
  simp only [manys, sizes]; omega
end
mutual
theorem zbW : ∀ (t : Tm) (d : Int), shape t d = true → many t d = size t
 | .mk n ks, d, h => by
  simp only [shape, zex, decide_eq_true_eq] at h
  have := zbh ks (d - 1) h.2
  simp only [many, size]
  rw [if_pos (by omega)]; omega
theorem zbh : ∀ (ts : List Tm) (d : Int), shapes ts d = true → manys ts d = sizes ts
 | [], d, _ => by simp [manys, sizes]
 | t :: ts, d, h => by
  simp only [shapes, zex] at h
  have := zbW t d h.1
  have := zbh ts d h.2
  simp only [manys, sizes]; omega
end
mutual
theorem zcH : ∀ (t : Tm) (d : Int), if shape t d = true then tsz t (5 - d) = size t else 13 ≤ tsz t (5 - d)
 | .mk n ks, d => by
  have hk := zbs ks (d - 1)
  simp only [shape, tsz, size, zex, decide_eq_true_eq]
  rw [show (5 : Int) - d + 1 = 5 - (d - 1) from by omega]
  by_cases h1 : zaa n = true ∧ ks.length ≤ 2 ∧ 5 - d ≤ 4
  ·rw [if_pos h1]
   by_cases h2 : shapes ks (d - 1) = true
   ·rw [if_pos h2] at hk
    rw [if_pos ⟨⟨⟨by omega, h1.1⟩, h1.2.1⟩, h2⟩]; omega
   ·rw [if_neg h2] at hk
    rw [if_neg (fun h => h2 h.2)]; omega
  ·rw [if_neg h1, if_neg (fun h => h1 ⟨h.1.1.2, h.1.2, by omega⟩)]; omega
theorem zbs : ∀ (ts : List Tm) (d : Int), if shapes ts d = true then tszs ts (5 - d) = sizes ts else 13 ≤ tszs ts (5 - d)
 | [], d => by simp [shapes, tszs, sizes]
 | t :: ts, d => by
  have h1 := zcH t d
  have h2 := zbs ts d
  have h3 : 0 ≤ tsz t (5 - d) := by
   by_cases h : 1 ≤ 5 - d
   ·have := tsz_bd' t _ h; omega
   ·by_cases hs : shape t d = true
    ·rw [if_pos hs] at h1; omega
    ·rw [if_neg hs] at h1; omega
  have h4 : 0 ≤ tszs ts (5 - d) := by
   by_cases hs : shapes ts d = true
   ·rw [if_pos hs] at h2; omega
   ·rw [if_neg hs] at h2; omega
  simp only [shapes, tszs, sizes, zex]
  by_cases ha : shape t d = true
  ·rw [if_pos ha] at h1
   by_cases hb : shapes ts d = true
   ·rw [if_pos hb] at h2; rw [if_pos ⟨ha, hb⟩]; omega
   ·rw [if_neg hb] at h2; rw [if_neg (fun h => hb h.2)]; omega
  ·rw [if_neg ha] at h1
   rw [if_neg (fun h => ha h.1)]; omega
end
/-- A well-formed term. -/
def wf (t : Tm) : Bool := shape t 4 && decide (t.size ≤ 12)
theorem wf_impl (t : Tm) : decide (tsz t 1 ≤ 12) = wf t := by
 have h := zcH t 4
 unfold wf
 rw [Bool.eq_iff_iff]
 simp only [decide_eq_true_eq, zex]
 rw [show (5 : Int) - 4 = 1 from rfl] at h
 by_cases hs : shape t 4 = true
 ·rw [if_pos hs] at h; rw [h]; simp [hs]; omega
 ·rw [if_neg hs] at h; simp [hs]; omega
theorem wf_spec (t : Tm) : (shape t 4 && decide (many t 4 ≤ 12)) = wf t := by
 unfold wf
 by_cases hs : shape t 4 = true
 ·rw [zbW t 4 hs]; simp [hs]; omega
 ·simp [hs]
mutual
/-- withParts, l4Parts -/
def addP : List Tm → Tm → List Tm
 | l, .mk n ks => if (.mk n ks) ∈ addPs l ks then addPs l ks else addPs l ks ++ [.mk n ks]
def addPs : List Tm → List Tm → List Tm
 | l, [] => l
 | l, t :: ts => addPs (addP l t) ts
end
theorem addP_eq (l : List Tm) (t : Tm) : addP l t = if t ∈ addPs l t.kids then addPs l t.kids else addPs l t.kids ++ [t] := by cases t; simp only [addP]; rfl
theorem addPs_append : ∀ (l a b : List Tm), addPs l (a ++ b) = addPs (addPs l a) b
 | l, [], b => by simp [addPs]
 | l, t :: ts, b => by simp [addPs, addPs_append]
theorem addPs_succ (l ts : List Tm) (k : Nat) (h : k < ts.length) : addPs l (ts.take (k + 1)) = addP (addPs l (ts.take k)) ts[k] := by
 rw [zeq h, addPs_append]; simp [addPs]
/-- TermParts -/
def parts (ts : List Tm) : List Tm := if ts.all wf then addPs [] ts else []
mutual
/-- All parts of a term are in a list. -/
def zcn : List Tm → Tm → Prop
 | l, .mk n ks => (.mk n ks) ∈ l ∧ zap l ks
def zap : List Tm → List Tm → Prop
 | _, [] => True
 | l, t :: ts => zcn l t ∧ zap l ts
end
theorem allIn_eq (l : List Tm) (t : Tm) : zcn l t ↔ t ∈ l ∧ zap l t.kids := by cases t; simp [zcn, kids]
theorem allIns_iff (l : List Tm) : ∀ ts, zap l ts ↔ ∀ t ∈ ts, zcn l t
 | [] => by simp [zap]
 | t :: ts => by simp [zap, allIns_iff l ts]
mutual
theorem za4 {l l' : List Tm} (h : ∀ x ∈ l, x ∈ l') : ∀ t, zcn l t → zcn l' t
 | .mk n ks, ha => by simp only [zcn] at ha ⊢; exact ⟨h _ ha.1, zaP h ks ha.2⟩
theorem zaP {l l' : List Tm} (h : ∀ x ∈ l, x ∈ l') : ∀ ts, zap l ts → zap l' ts
 | [], _ => by simp [zap]
 | t :: ts, ha => by simp only [zap] at ha ⊢; exact ⟨za4 h t ha.1, zaP h ts ha.2⟩
end
mutual
theorem addP_sub : ∀ (t : Tm) (l : List Tm), ∀ x ∈ l, x ∈ addP l t
 | .mk n ks, l, x, hx => by
  have := zbt ks l x hx
  simp only [addP]
  split
  ·exact this
  ·exact List.mem_append_left _ this
theorem zbt : ∀ (ts l : List Tm), ∀ x ∈ l, x ∈ addPs l ts
 | [], l, x, hx => by simpa [addPs] using hx
 | t :: ts, l, x, hx => by simp only [addPs]; exact zbt ts _ x (addP_sub t l x hx)
end
mutual
theorem addP_all : ∀ (t : Tm) (l : List Tm), zcn (addP l t) t
 | .mk n ks, l => by
  have h := addPs_all ks l
  simp only [addP]
  split
  ·rename_i hm; exact (allIn_eq _ _).2 ⟨hm, h⟩
  ·exact (allIn_eq _ _).2 ⟨by simp, zaP (fun x hx => List.mem_append_left _ hx) _ h⟩
theorem addPs_all : ∀ (ts l : List Tm), zap (addPs l ts) ts
 | [], l => by simp [zap]
 | t :: ts, l => by
  simp only [addPs, zap]
  exact ⟨za4 (zbt ts _) t (addP_all t l), addPs_all ts _⟩
end
mutual
theorem addP_len : ∀ (t : Tm) (l : List Tm), (addP l t).length ≤ l.length + size t
 | .mk n ks, l => by
  have := addPs_len ks l
  simp only [addP, size]
  split <;> simp <;> omega
theorem addPs_len : ∀ (ts l : List Tm), (addPs l ts).length ≤ l.length + sizes ts
 | [], l => by simp [addPs, sizes]
 | t :: ts, l => by
  have := addPs_len ts (addP l t)
  have := addP_len t l
  simp only [addPs, sizes]; omega
end
theorem beq_self (t : Tm) : beq t t = true := (beq_iff _ _).2 rfl
theorem beq_no {t u : Tm} (h : beq t u = false) : t ≠ u := by rintro rfl; rw [beq_self] at h; simp at h
/-- The place of a term in a list, or -1. -/
def IsPlace (l : List Tm) (t : Tm) (n : Int) : Prop := (n = -1 ∧ t ∉ l) ∨ ∃ k : Nat, k < l.length ∧ n = k ∧ l[k]? = some t
theorem IsPlace.neg {l : List Tm} {t : Tm} {n : Int} (h : IsPlace l t n) : n < 0 ↔ t ∉ l := by
 rcases h with ⟨rfl, h⟩ | ⟨k, hk, rfl, h⟩
 ·simp [h]
 ·have : t ∈ l := by rw [List.getElem?_eq_some_iff] at h; obtain ⟨_, rfl⟩ := h; exact zes _
  constructor
  ·intro h'; omega
  ·intro h'; exact absurd this h'
theorem IsPlace.bd {l : List Tm} {t : Tm} {n : Int} (h : IsPlace l t n) : -1 ≤ n ∧ n < l.length + 1 := by
 rcases h with ⟨rfl, h⟩ | ⟨k, hk, rfl, h⟩ <;> omega
end Tm
end Go.Proofs.YtlefdhhnlbpbkaaGreat
end
