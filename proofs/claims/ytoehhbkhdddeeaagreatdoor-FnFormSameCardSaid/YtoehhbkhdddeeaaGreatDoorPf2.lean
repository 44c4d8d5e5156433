/- Parts of the proof: Term Types. -/
import Derived.Test.YtoehhbkhdddeeaaGreatDoorPf1
section
namespace Go.Proofs.YtoehhbkhdddeeaaGreatDoor
open Go Go.RowKit
set_option linter.unusedVariables false
set_option linter.unusedSimpArgs false
set_option maxRecDepth 100000
set_option maxHeartbeats 16000000
inductive Tm where
 | mk (name : ByteArray) (kids : List Tm)
namespace Tm
def name : Tm → ByteArray | .mk n _ => n
def kids : Tm → List Tm | .mk _ k => k
def cd : Tm → List CD
 | .mk n ks => [.str n, .sl (ks.map cd)]
mutual
def size : Tm → Nat | .mk _ ks => 1 + sizes ks
def sizes : List Tm → Nat | [] => 0 | t :: ts => size t + sizes ts
end
theorem size_eq (t : Tm) : t.size = 1 + sizes t.kids := by cases t; simp [size, kids]
theorem cd_eq (t : Tm) : t.cd = [.str t.name, .sl (t.kids.map cd)] := by cases t; simp [cd, name, kids]
theorem size_pos (t : Tm) : 0 < t.size := by rw [size_eq]; omega
theorem size_mem : ∀ {ts : List Tm} {t : Tm}, t ∈ ts → t.size ≤ sizes ts
 | [], t, h => by simp at h
 | u :: us, t, h => by
  simp only [sizes]
  rcases zdW.1 h with rfl | h
  ·omega
  ·have := size_mem h; omega
theorem size_kid {t : Tm} {i : Nat} (h : i < t.kids.length) : t.kids[i].size < t.size := by
 have := size_mem (zdT h); rw [size_eq t]; omega
theorem size_kid_mem {t u : Tm} (h : u ∈ t.kids) : u.size < t.size := by have := size_mem h; rw [size_eq t]; omega
theorem sizes_len : ∀ (ts : List Tm), ts.length ≤ sizes ts
 | [] => by simp
 | t :: ts => by have := sizes_len ts; have := size_pos t; simp only [sizes, List.length_cons]; omega
theorem sizes_append : ∀ (a b : List Tm), sizes (a ++ b) = sizes a + sizes b
 | [], b => by simp [sizes]
 | t :: ts, b => by simp only [List.cons_append, sizes, sizes_append ts b]; omega
theorem sizes_take (ts : List Tm) (k : Nat) : sizes (ts.take k) ≤ sizes ts := by
 have := sizes_append (ts.take k) (ts.drop k); rw [List.take_append_drop] at this; omega
theorem cd_len (t : Tm) : t.cd.length = 2 := by cases t; simp [cd]
mutual
def beq : Tm → Tm → Bool
 | .mk n ks, .mk m js => decide (n = m) && beqs ks js
def beqs : List Tm → List Tm → Bool
 | [], [] => true
 | t :: ts, u :: us => beq t u && beqs ts us
 | _, _ => false
end
mutual
theorem beq_iff : ∀ (a b : Tm), beq a b = true ↔ a = b
 | .mk n ks, .mk m js => by simp [beq, beqs_iff ks js]
theorem beqs_iff : ∀ (a b : List Tm), beqs a b = true ↔ a = b
 | [], [] => by simp [beqs]
 | [], _ :: _ => by simp [beqs]
 | _ :: _, [] => by simp [beqs]
 | t :: ts, u :: us => by simp [beqs, beq_iff t u, beqs_iff ts us]
end
instance : DecidableEq Tm := fun a b => if h : beq a b = true then .isTrue ((beq_iff a b).1 h) else .isFalse fun e => h ((beq_iff a b).2 e)
end Tm
def zal (c : UInt8) : Bool := decide (97 ≤ (c.toNat : Int)) && decide ((c.toNat : Int) ≤ 122)
/-- A name: one or two small letters. -/
def zO (s : ByteArray) : Bool := (decide (1 ≤ (s.size : Int)) && decide ((s.size : Int) ≤ 2)) && s.data.toList.all zal
namespace Tm
mutual
/-- impl.termSize -/
def tsz : Tm → Int → Int
 | .mk n ks, d => if zO n = true ∧ ks.length ≤ 2 ∧ d ≤ 4 then 1 + tszs ks (d + 1) else 13
def tszs : List Tm → Int → Int
 | [], _ => 0
 | t :: ts, d => tsz t d + tszs ts d
end
theorem tsz_eq (t : Tm) (d : Int) : tsz t d = if zO t.name = true ∧ t.kids.length ≤ 2 ∧ d ≤ 4 then 1 + tszs t.kids (d + 1) else 13 := by cases t; simp only [tsz]; rfl
theorem zbm : ∀ (a b : List Tm) (d : Int), tszs (a ++ b) d = tszs a d + tszs b d
 | [], b, d => by simp [tszs]
 | t :: ts, b, d => by simp only [List.cons_append, tszs, zbm ts b]; omega
theorem tszs_succ (ts : List Tm) (d : Int) (k : Nat) (h : k < ts.length) : tszs (ts.take (k + 1)) d = tszs (ts.take k) d + tsz ts[k] d := by
 rw [zdR h, zbm]; simp [tszs]
/-- Its bounds. -/
def cap5 : Nat → Nat | 0 => 13 | n + 1 => 13 + 2 * cap5 n
theorem tsz_bd : ∀ (n : Nat) (t : Tm) (d : Int), 5 - n ≤ d → 1 ≤ tsz t d ∧ tsz t d ≤ cap5 n
 | 0, t, d, h => by rw [tsz_eq, if_neg (by omega)]; simp [cap5]
 | n + 1, t, d, h => by
  rw [tsz_eq]
  split
  ·rename_i hc
   have h2 := hc.2.1
   have hk : ∀ ts : List Tm, 0 ≤ tszs ts (d + 1) ∧ tszs ts (d + 1) ≤ cap5 n * ts.length := by
    intro ts
    induction ts with
    | nil => simp [tszs]
    | cons u us ih =>
     have := tsz_bd n u (d + 1) (by omega)
     simp only [tszs, List.length_cons, Int.natCast_add, Int.natCast_one, Int.mul_add, Int.mul_one]
     omega
   have h3 := hk t.kids
   have h4 : cap5 n * t.kids.length ≤ cap5 n * 2 := Nat.mul_le_mul_left _ h2
   simp only [cap5]
   refine ⟨by omega, ?_⟩
   have : (cap5 n : Int) * (t.kids.length : Int) ≤ (cap5 n : Int) * 2 := by exact_mod_cast h4
   omega
  ·simp [cap5]; omega
theorem tsz_bd' (t : Tm) (d : Int) (h : 1 ≤ d) : 1 ≤ tsz t d ∧ tsz t d ≤ 403 := tsz_bd 4 t d (by omega)
theorem tszs_bd (ts : List Tm) (d : Int) (h : 1 ≤ d) : 0 ≤ tszs ts d ∧ tszs ts d ≤ 403 * ts.length := by
 induction ts with
 | nil => simp [tszs]
 | cons u us ih => have := tsz_bd' u d h; simp only [tszs, List.length_cons]; omega
mutual
/-- spec.l4Shape -/
def shape : Tm → Int → Bool
 | .mk n ks, d => decide (1 ≤ d) && zO n && decide (ks.length ≤ 2) && shapes ks (d - 1)
def shapes : List Tm → Int → Bool
 | [], _ => true
 | t :: ts, d => shape t d && shapes ts d
end
theorem shape_eq (t : Tm) (d : Int) : shape t d = (decide (1 ≤ d) && zO t.name && decide (t.kids.length ≤ 2) && shapes t.kids (d - 1)) := by cases t; simp only [shape]; rfl
theorem shapes_all : ∀ (ts : List Tm) (d : Int), shapes ts d = ts.all (shape · d)
 | [], d => by simp [shapes]
 | t :: ts, d => by simp [shapes, shapes_all ts d]
theorem shapes_take (ts : List Tm) (d : Int) (k : Nat) (h : k < ts.length) : shapes (ts.take (k + 1)) d = (shapes (ts.take k) d && shape ts[k] d) ∧ (shape ts[k] d = false → shapes ts d = false) := by
 constructor
 ·rw [shapes_all, shapes_all, zdR h, List.all_append]
  simp only [List.all_cons, List.all_nil, Bool.and_true]
 ·intro hf
  rw [shapes_all, List.all_eq_false]
  exact ⟨ts[k], zdT h, by simp [hf]⟩
mutual
/-- spec.l4Many -/
def many : Tm → Int → Int
 | .mk _ ks, d => if 0 < d then 1 + manys ks (d - 1) else 1
def manys : List Tm → Int → Int
 | [], _ => 0
 | t :: ts, d => many t d + manys ts d
end
theorem many_eq (t : Tm) (d : Int) : many t d = if 0 < d then 1 + manys t.kids (d - 1) else 1 := by cases t; simp [many, kids]
theorem za8 : ∀ (a b : List Tm) (d : Int), manys (a ++ b) d = manys a d + manys b d
 | [], b, d => by simp [manys]
 | t :: ts, b, d => by simp only [List.cons_append, manys, za8 ts b]; omega
theorem manys_succ (ts : List Tm) (d : Int) (k : Nat) (h : k < ts.length) : manys (ts.take (k + 1)) d = manys (ts.take k) d + many ts[k] d := by
 rw [zdR h, za8]; simp [manys]
mutual
theorem many_bd : ∀ (t : Tm) (d : Int), 1 ≤ many t d ∧ many t d ≤ size t
 | .mk n ks, d => by
  have := manys_bd ks (d - 1)
  simp only [many, size]
  split <;> omega
theorem manys_bd : ∀ (ts : List Tm) (d : Int), 0 ≤ manys ts d ∧ manys ts d ≤ sizes ts
 | [], d => by simp [manys, sizes]
 | t :: ts, d => by
  have := many_bd t d
  have := manys_bd ts d
  simp only [manys, sizes]; omega
end
mutual
theorem zbF : ∀ (t : Tm) (d : Int), shape t d = true → many t d = size t
 | .mk n ks, d, h => by
  simp only [shape, zdY, decide_eq_true_eq] at h
  have := za9 ks (d - 1) h.2
  simp only [many, size]
  rw [if_pos (by omega)]; omega
theorem za9 : ∀ (ts : List Tm) (d : Int), shapes ts d = true → manys ts d = sizes ts
 | [], d, _ => by simp [manys, sizes]
 | t :: ts, d, h => by
  simp only [shapes, zdY] at h
  have := zbF t d h.1
  have := za9 ts d h.2
  simp only [manys, sizes]; omega
end
mutual
theorem zcb : ∀ (t : Tm) (d : Int), if shape t d = true then tsz t (5 - d) = size t else 13 ≤ tsz t (5 - d)
 | .mk n ks, d => by
  have hk := zbn ks (d - 1)
  simp only [shape, tsz, size, zdY, decide_eq_true_eq]
  rw [show (5 : Int) - d + 1 = 5 - (d - 1) from by omega]
  by_cases h1 : zO n = true ∧ ks.length ≤ 2 ∧ 5 - d ≤ 4
  ·rw [if_pos h1]
   by_cases h2 : shapes ks (d - 1) = true
   ·rw [if_pos h2] at hk
    rw [if_pos ⟨⟨⟨by omega, h1.1⟩, h1.2.1⟩, h2⟩]; omega
   ·rw [if_neg h2] at hk
    rw [if_neg (fun h => h2 h.2)]; omega
  ·rw [if_neg h1, if_neg (fun h => h1 ⟨h.1.1.2, h.1.2, by omega⟩)]; omega
theorem zbn : ∀ (ts : List Tm) (d : Int), if shapes ts d = true then tszs ts (5 - d) = sizes ts else 13 ≤ tszs ts (5 - d)
 | [], d => by simp [shapes, tszs, sizes]
 | t :: ts, d => by
  have h1 := zcb t d
  have h2 := zbn ts d
  have h3 : 0 ≤ tsz t (5 - d) := by
   by_cases h : 1 ≤ 5 - d
   ·have := tsz_bd' t _ h; omega
   ·by_cases hs : shape t d = true
    ·rw [if_pos hs] at h1; omega
    ·rw [if_neg hs] at h1; omega
  have h4 : 0 ≤ tszs ts (5 - d) := by
   by_cases hs : shapes ts d = true
   ·rw [if_pos hs] at h2; omega
   ·rw [if_neg hs] at h2; omega
  simp only [shapes, tszs, sizes, zdY]
  by_cases ha : shape t d = true
  ·rw [if_pos ha] at h1
   by_cases hb : shapes ts d = true
   ·rw [if_pos hb] at h2; rw [if_pos ⟨ha, hb⟩]; omega
   ·rw [if_neg hb] at h2; rw [if_neg (fun h => hb h.2)]; omega
  ·rw [if_neg ha] at h1
   rw [if_neg (fun h => ha h.1)]; omega
end
/-- A well-formed term. -/
def wf (t : Tm) : Bool := shape t 4 && decide (t.size ≤ 12)
theorem wf_impl (t : Tm) : decide (tsz t 1 ≤ 12) = wf t := by
 have h := zcb t 4
 unfold wf
 rw [Bool.eq_iff_iff]
 simp only [decide_eq_true_eq, zdY]
 rw [show (5 : Int) - 4 = 1 from rfl] at h
 by_cases hs : shape t 4 = true
 ·rw [if_pos hs] at h; rw [h]; simp [hs]; omega
 ·rw [if_neg hs] at h; simp [hs]; omega
theorem wf_spec (t : Tm) : (shape t 4 && decide (many t 4 ≤ 12)) = wf t := by
 unfold wf
 by_cases hs : shape t 4 = true
 ·rw [zbF t 4 hs]; simp [hs]; omega
 ·simp [hs]
mutual
/-- withParts, l4Parts -/
def addP : List Tm → Tm → List Tm
 | l, .mk n ks => if (.mk n ks) ∈ addPs l ks then addPs l ks else addPs l ks ++ [.mk n ks]
def addPs : List Tm → List Tm → List Tm
 | l, [] => l
 | l, t :: ts => addPs (addP l t) ts
end
theorem addP_eq (l : List Tm) (t : Tm) : addP l t = if t ∈ addPs l t.kids then addPs l t.kids else addPs l t.kids ++ [t] := by cases t; simp only [addP]; rfl
theorem addPs_append : ∀ (l a b : List Tm), addPs l (a ++ b) = addPs (addPs l a) b
 | l, [], b => by simp [addPs]
 | l, t :: ts, b => by simp [addPs, addPs_append]
theorem addPs_succ (l ts : List Tm) (k : Nat) (h : k < ts.length) : addPs l (ts.take (k + 1)) = addP (addPs l (ts.take k)) ts[k] := by
 rw [zdR h, addPs_append]; simp [addPs]
/-- TermParts -/
def parts (ts : List Tm) : List Tm := if ts.all wf then addPs [] ts else []
mutual
theorem addP_len : ∀ (t : Tm) (l : List Tm), (addP l t).length ≤ l.length + size t
 | .mk n ks, l => by
  have := addPs_len ks l
  simp only [addP, size]
  split <;> simp <;> omega
theorem addPs_len : ∀ (ts l : List Tm), (addPs l ts).length ≤ l.length + sizes ts
 | [], l => by simp [addPs, sizes]
 | t :: ts, l => by
  have := addPs_len ts (addP l t)
  have := addP_len t l
  simp only [addPs, sizes]; omega
end
theorem beq_self (t : Tm) : beq t t = true := (beq_iff _ _).2 rfl
theorem beq_no {t u : Tm} (h : beq t u = false) : t ≠ u := by rintro rfl; rw [beq_self] at h; simp at h
/-- The place of a term in a list, or -1. -/
def IsPlace (l : List Tm) (t : Tm) (n : Int) : Prop := (n = -1 ∧ t ∉ l) ∨ ∃ k : Nat, k < l.length ∧ n = k ∧ l[k]? = some t
theorem IsPlace.neg {l : List Tm} {t : Tm} {n : Int} (h : IsPlace l t n) : n < 0 ↔ t ∉ l := by
 rcases h with ⟨rfl, h⟩ | ⟨k, hk, rfl, h⟩
 ·simp [h]
 ·have : t ∈ l := by rw [List.getElem?_eq_some_iff] at h; obtain ⟨_, rfl⟩ := h; exact zdT _
  constructor
  ·intro h'; omega
  ·intro h'; exact absurd this h'
theorem IsPlace.bd {l : List Tm} {t : Tm} {n : Int} (h : IsPlace l t n) : -1 ≤ n ∧ n < l.length + 1 := by
 rcases h with ⟨rfl, h⟩ | ⟨k, hk, rfl, h⟩ <;> omega
end Tm
def zm (n : Int) : List CD := [.int n]
def zbI (ns : List Int) : List CD := [.sl (ns.map zm)]
structure Sy where
 name : ByteArray
 args : List Int
 sort : Int
def Sy.cd (x : Sy) : List CD := [.str x.name] ++ ([.sl (x.args.map zm)] ++ [.int x.sort])
structure Sg where
 syms : List Sy
def Sg.cd (x : Sg) : List CD := [.sl (x.syms.map Sy.cd)]
structure Eqn where
 a : Tm
 b : Tm
def Eqn.cd (x : Eqn) : List CD := x.a.cd ++ x.b.cd
structure Stp where
 a : Int
 b : Int
 given : Int
def Stp.cd (x : Stp) : List CD := [.int x.a] ++ ([.int x.b] ++ [.int x.given])
inductive Wy where
 | mk (rule : Int) (n : Int) (t : Tm) (kids : List Wy)
def Wy.rule : Wy → Int | .mk rule _ _ _ => rule
def Wy.n : Wy → Int | .mk _ n _ _ => n
def Wy.t : Wy → Tm | .mk _ _ t _ => t
def Wy.kids : Wy → List Wy | .mk _ _ _ kids => kids
def Wy.cd : Wy → List CD
 | .mk rule n t kids => [.int rule] ++ ([.int n] ++ (t.cd ++ [.sl (kids.map Wy.cd)]))
theorem Wy.cd_eq (x : Wy) : x.cd = [.int x.rule] ++ ([.int x.n] ++ (x.t.cd ++ [.sl (x.kids.map Wy.cd)])) := by cases x; simp [Wy.cd, Wy.rule, Wy.n, Wy.t, Wy.kids]
structure Atm where
 kind : Int
 a : Tm
 b : Tm
 nums : List Tm
 times : List Int
 bound : Int
 strict : Bool
def Atm.cd (x : Atm) : List CD := [.int x.kind] ++ (x.a.cd ++ (x.b.cd ++ ([.sl (x.nums.map Tm.cd)] ++ ([.sl (x.times.map zm)] ++ ([.int x.bound] ++ [.bool x.strict])))))
structure Lt where
 atom : Atm
 no : Bool
def Lt.cd (x : Lt) : List CD := x.atom.cd ++ [.bool x.no]
inductive Fm where
 | mk (kind : Int) (lit : Lt) (kids : List Fm)
def Fm.kind : Fm → Int | .mk kind _ _ => kind
def Fm.lit : Fm → Lt | .mk _ lit _ => lit
def Fm.kids : Fm → List Fm | .mk _ _ kids => kids
def Fm.cd : Fm → List CD
 | .mk kind lit kids => [.int kind] ++ (lit.cd ++ [.sl (kids.map Fm.cd)])
theorem Fm.cd_eq (x : Fm) : x.cd = [.int x.kind] ++ (x.lit.cd ++ [.sl (x.kids.map Fm.cd)]) := by cases x; simp [Fm.cd, Fm.kind, Fm.lit, Fm.kids]
def fmsCd (fs : List Fm) : List CD := [.sl (fs.map Fm.cd)]
inductive Cs where
 | mk (kind : Int) (n : Int) (why : Wy) (times : List Int) (a : Tm) (b : Tm) (kids : List Cs)
def Cs.kind : Cs → Int | .mk kind _ _ _ _ _ _ => kind
def Cs.n : Cs → Int | .mk _ n _ _ _ _ _ => n
def Cs.why : Cs → Wy | .mk _ _ why _ _ _ _ => why
def Cs.times : Cs → List Int | .mk _ _ _ times _ _ _ => times
def Cs.a : Cs → Tm | .mk _ _ _ _ a _ _ => a
def Cs.b : Cs → Tm | .mk _ _ _ _ _ b _ => b
def Cs.kids : Cs → List Cs | .mk _ _ _ _ _ _ kids => kids
def Cs.cd : Cs → List CD
 | .mk kind n why times a b kids => [.int kind] ++ ([.int n] ++ (why.cd ++ ([.sl (times.map zm)] ++ (a.cd ++ (b.cd ++ [.sl (kids.map Cs.cd)])))))
theorem Cs.cd_eq (x : Cs) : x.cd = [.int x.kind] ++ ([.int x.n] ++ (x.why.cd ++ ([.sl (x.times.map zm)] ++ (x.a.cd ++ (x.b.cd ++ [.sl (x.kids.map Cs.cd)]))))) := by cases x; simp [Cs.cd, Cs.kind, Cs.n, Cs.why, Cs.times, Cs.a, Cs.b, Cs.kids]
structure Lm where
 marks : List Int
 case : Cs
def Lm.cd (x : Lm) : List CD := [.sl (x.marks.map zm)] ++ x.case.cd
structure Pp where
 lemmas : List Lm
 log : List (List Int)
def Pp.cd (x : Pp) : List CD := [.sl (x.lemmas.map Lm.cd)] ++ [.sl (x.log.map zbI)]
structure Stk where
 sig : Sg
 levels : List (List Fm)
def Stk.cd (x : Stk) : List CD := x.sig.cd ++ [.sl (x.levels.map fmsCd)]
structure Cnf where
 many : Int
 list : List (List Int)
def Cnf.cd (x : Cnf) : List CD := [.int x.many] ++ [.sl (x.list.map zbI)]
structure Ln where
 coefs : List Int
 bound : Int
 strict : Bool
def Ln.cd (x : Ln) : List CD := [.sl (x.coefs.map zm)] ++ ([.int x.bound] ++ [.bool x.strict])
structure Rt where
 n : Int
 d : Int
def Rt.cd (x : Rt) : List CD := [.int x.n] ++ [.int x.d]
structure Rw where
 name : ByteArray
 args : List Rt
 val : Rt
def Rw.cd (x : Rw) : List CD := [.str x.name] ++ ([.sl (x.args.map Rt.cd)] ++ x.val.cd)
structure Md where
 rows : List Rw
def Md.cd (x : Md) : List CD := [.sl (x.rows.map Rw.cd)]
end Go.Proofs.YtoehhbkhdddeeaaGreatDoor
end
