/- Parts of the proof: Term Types Clo. -/
import Derived.Test.YtlefdhhnlbpbkaaGreatPt1
section
namespace Go.Proofs.YtlefdhhnlbpbkaaGreat
open Go Go.RowKit
set_option linter.unusedVariables false
set_option linter.unusedSimpArgs false
set_option maxRecDepth 100000
set_option maxHeartbeats 16000000
inductive Tm where
 | mk (name : ByteArray) (kids : List Tm)
namespace Tm
def name : Tm → ByteArray | .mk n _ => n
def kids : Tm → List Tm | .mk _ k => k
def cd : Tm → List CD
 | .mk n ks => [.str n, .sl (ks.map cd)]
mutual
def size : Tm → Nat | .mk _ ks => 1 + sizes ks
def sizes : List Tm → Nat | [] => 0 | t :: ts => size t + sizes ts
end
theorem size_eq (t : Tm) : t.size = 1 + sizes t.kids := by cases t; simp [size, kids]
theorem cd_eq (t : Tm) : t.cd = [.str t.name, .sl (t.kids.map cd)] := by cases t; simp [cd, name, kids]
theorem size_pos (t : Tm) : 0 < t.size := by rw [size_eq]; omega
theorem size_mem : ∀ {ts : List Tm} {t : Tm}, t ∈ ts → t.size ≤ sizes ts
 | [], t, h => by simp at h
 | u :: us, t, h => by
  simp only [sizes]
  rcases zeM.1 h with rfl | h
  ·omega
  ·have := size_mem h; omega
theorem size_kid {t : Tm} {i : Nat} (h : i < t.kids.length) : t.kids[i].size < t.size := by
 have := size_mem (zeJ h); rw [size_eq t]; omega
theorem size_kid_mem {t u : Tm} (h : u ∈ t.kids) : u.size < t.size := by have := size_mem h; rw [size_eq t]; omega
theorem sizes_len : ∀ (ts : List Tm), ts.length ≤ sizes ts
 | [] => by simp
 | t :: ts => by have := sizes_len ts; have := size_pos t; simp only [sizes, List.length_cons]; omega
theorem sizes_append : ∀ (a b : List Tm), sizes (a ++ b) = sizes a + sizes b
 | [], b => by simp [sizes]
 | t :: ts, b => by simp only [List.cons_append, sizes, sizes_append ts b]; omega
theorem sizes_take (ts : List Tm) (k : Nat) : sizes (ts.take k) ≤ sizes ts := by
 have := sizes_append (ts.take k) (ts.drop k); rw [List.take_append_drop] at this; omega
theorem cd_len (t : Tm) : t.cd.length = 2 := by cases t; simp [cd]
/-- Induction over a term and its kids. -/
theorem ind {p : Tm → Prop} (h : ∀ n ks, (∀ k, k ∈ ks → p k) → p (.mk n ks)) : ∀ t, p t := by
 intro t
 generalize hn : t.size = n
 induction n using Nat.strongRecOn generalizing t with
 | _ n ih =>
  cases t with
  | mk nm ks => exact h nm ks fun k hk => ih k.size (by subst hn; have := size_kid_mem (t := .mk nm ks) hk; exact this) k rfl
mutual
def beq : Tm → Tm → Bool
 | .mk n ks, .mk m js => decide (n = m) && beqs ks js
def beqs : List Tm → List Tm → Bool
 | [], [] => true
 | t :: ts, u :: us => beq t u && beqs ts us
 | _, _ => false
end
mutual
theorem beq_iff : ∀ (a b : Tm), beq a b = true ↔ a = b
 | .mk n ks, .mk m js => by simp [beq, beqs_iff ks js]
theorem beqs_iff : ∀ (a b : List Tm), beqs a b = true ↔ a = b
 | [], [] => by simp [beqs]
 | [], _ :: _ => by simp [beqs]
 | _ :: _, [] => by simp [beqs]
 | t :: ts, u :: us => by simp [beqs, beq_iff t u, beqs_iff ts us]
end
instance : DecidableEq Tm := fun a b => if h : beq a b = true then .isTrue ((beq_iff a b).1 h) else .isFalse fun e => h ((beq_iff a b).2 e)
end Tm
def za1 (c : UInt8) : Bool := decide (97 ≤ (c.toNat : Int)) && decide ((c.toNat : Int) ≤ 122)
/-- A name: one or two small letters. -/
def zai (s : ByteArray) : Bool := (decide (1 ≤ (s.size : Int)) && decide ((s.size : Int) ≤ 2)) && s.data.toList.all za1
namespace Tm
mutual
/-- impl.termSize -/
def tsz : Tm → Int → Int
 | .mk n ks, d => if zai n = true ∧ ks.length ≤ 2 ∧ d ≤ 4 then 1 + tszs ks (d + 1) else 13
def tszs : List Tm → Int → Int
 | [], _ => 0
 | t :: ts, d => tsz t d + tszs ts d
end
theorem tsz_eq (t : Tm) (d : Int) : tsz t d = if zai t.name = true ∧ t.kids.length ≤ 2 ∧ d ≤ 4 then 1 + tszs t.kids (d + 1) else 13 := by cases t; simp only [tsz]; rfl
theorem zbz : ∀ (a b : List Tm) (d : Int), tszs (a ++ b) d = tszs a d + tszs b d
 | [], b, d => by simp [tszs]
 | t :: ts, b, d => by simp only [List.cons_append, tszs, zbz ts b]; omega
theorem tszs_succ (ts : List Tm) (d : Int) (k : Nat) (h : k < ts.length) : tszs (ts.take (k + 1)) d = tszs (ts.take k) d + tsz ts[k] d := by
 rw [zeH h, zbz]; simp [tszs]
/-- Its bounds. -/
def cap5 : Nat → Nat | 0 => 13 | n + 1 => 13 + 2 * cap5 n
theorem tsz_bd : ∀ (n : Nat) (t : Tm) (d : Int), 5 - n ≤ d → 1 ≤ tsz t d ∧ tsz t d ≤ cap5 n
 | 0, t, d, h => by rw [tsz_eq, if_neg (by omega)]; simp [cap5]
 | n + 1, t, d, h => by
  rw [tsz_eq]
  split
  ·rename_i hc
   have h2 := hc.2.1
   have hk : ∀ ts : List Tm, 0 ≤ tszs ts (d + 1) ∧ tszs ts (d + 1) ≤ cap5 n * ts.length := by
    intro ts
    induction ts with
    | nil => simp [tszs]
    | cons u us ih =>
     have := tsz_bd n u (d + 1) (by omega)
     simp only [tszs, List.length_cons, Int.natCast_add, Int.natCast_one, Int.mul_add, Int.mul_one]
     omega
   have h3 := hk t.kids
   have h4 : cap5 n * t.kids.length ≤ cap5 n * 2 := Nat.mul_le_mul_left _ h2
   simp only [cap5]
   refine ⟨by omega, ?_⟩
   have : (cap5 n : Int) * (t.kids.length : Int) ≤ (cap5 n : Int) * 2 := by exact_mod_cast h4
   omega
  ·simp [cap5]; omega
theorem tsz_bd' (t : Tm) (d : Int) (h : 1 ≤ d) : 1 ≤ tsz t d ∧ tsz t d ≤ 403 := tsz_bd 4 t d (by omega)
theorem tszs_bd (ts : List Tm) (d : Int) (h : 1 ≤ d) : 0 ≤ tszs ts d ∧ tszs ts d ≤ 403 * ts.length := by
 induction ts with
 | nil => simp [tszs]
 | cons u us ih => have := tsz_bd' u d h; simp only [tszs, List.length_cons]; omega
mutual
/-- spec.l4Shape -/
def shape : Tm → Int → Bool
 | .mk n ks, d => decide (1 ≤ d) && zai n && decide (ks.length ≤ 2) && shapes ks (d - 1)
def shapes : List Tm → Int → Bool
 | [], _ => true
 | t :: ts, d => shape t d && shapes ts d
end
theorem shape_eq (t : Tm) (d : Int) : shape t d = (decide (1 ≤ d) && zai t.name && decide (t.kids.length ≤ 2) && shapes t.kids (d - 1)) := by cases t; simp only [shape]; rfl
theorem shapes_all : ∀ (ts : List Tm) (d : Int), shapes ts d = ts.all (shape · d)
 | [], d => by simp [shapes]
 | t :: ts, d => by simp [shapes, shapes_all ts d]
theorem shapes_take (ts : List Tm) (d : Int) (k : Nat) (h : k < ts.length) : shapes (ts.take (k + 1)) d = (shapes (ts.take k) d && shape ts[k] d) ∧ (shape ts[k] d = false → shapes ts d = false) := by
 constructor
 ·rw [shapes_all, shapes_all, zeH h, List.all_append]
  simp only [List.all_cons, List.all_nil, Bool.and_true]
 ·intro hf
  rw [shapes_all, List.all_eq_false]
  exact ⟨ts[k], zeJ h, by simp [hf]⟩
mutual
/-- spec.l4Many -/
def many : Tm → Int → Int
 | .mk _ ks, d => if 0 < d then 1 + manys ks (d - 1) else 1
def manys : List Tm → Int → Int
 | [], _ => 0
 | t :: ts, d => many t d + manys ts d
end
theorem many_eq (t : Tm) (d : Int) : many t d = if 0 < d then 1 + manys t.kids (d - 1) else 1 := by cases t; simp [many, kids]
theorem zbp : ∀ (a b : List Tm) (d : Int), manys (a ++ b) d = manys a d + manys b d
 | [], b, d => by simp [manys]
 | t :: ts, b, d => by simp only [List.cons_append, manys, zbp ts b]; omega
theorem manys_succ (ts : List Tm) (d : Int) (k : Nat) (h : k < ts.length) : manys (ts.take (k + 1)) d = manys (ts.take k) d + many ts[k] d := by
 rw [zeH h, zbp]; simp [manys]
mutual
theorem many_bd : ∀ (t : Tm) (d : Int), 1 ≤ many t d ∧ many t d ≤ size t
 | .mk n ks, d => by
  have := manys_bd ks (d - 1)
  simp only [many, size]
  split <;> omega
theorem manys_bd : ∀ (ts : List Tm) (d : Int), 0 ≤ manys ts d ∧ manys ts d ≤ sizes ts
 | [], d => by simp [manys, sizes]
 | t :: ts, d => by
  have := many_bd t d
  have := manys_bd ts d
  simp only [manys, sizes]; omega
end
mutual
theorem zb1 : ∀ (t : Tm) (d : Int), shape t d = true → many t d = size t
 | .mk n ks, d, h => by
  simp only [shape, zeO, decide_eq_true_eq] at h
  have := zbq ks (d - 1) h.2
  simp only [many, size]
  rw [if_pos (by omega)]; omega
theorem zbq : ∀ (ts : List Tm) (d : Int), shapes ts d = true → manys ts d = sizes ts
 | [], d, _ => by simp [manys, sizes]
 | t :: ts, d, h => by
  simp only [shapes, zeO] at h
  have := zb1 t d h.1
  have := zbq ts d h.2
  simp only [manys, sizes]; omega
end
mutual
theorem zcO : ∀ (t : Tm) (d : Int), if shape t d = true then tsz t (5 - d) = size t else 13 ≤ tsz t (5 - d)
 | .mk n ks, d => by
  have hk := zbA ks (d - 1)
  simp only [shape, tsz, size, zeO, decide_eq_true_eq]
  rw [show (5 : Int) - d + 1 = 5 - (d - 1) from by omega]
  by_cases h1 : zai n = true ∧ ks.length ≤ 2 ∧ 5 - d ≤ 4
  ·rw [if_pos h1]
   by_cases h2 : shapes ks (d - 1) = true
   ·rw [if_pos h2] at hk
    rw [if_pos ⟨⟨⟨by omega, h1.1⟩, h1.2.1⟩, h2⟩]; omega
   ·rw [if_neg h2] at hk
    rw [if_neg (fun h => h2 h.2)]; omega
  ·rw [if_neg h1, if_neg (fun h => h1 ⟨h.1.1.2, h.1.2, by omega⟩)]; omega
theorem zbA : ∀ (ts : List Tm) (d : Int), if shapes ts d = true then tszs ts (5 - d) = sizes ts else 13 ≤ tszs ts (5 - d)
 | [], d => by simp [shapes, tszs, sizes]
 | t :: ts, d => by
  have h1 := zcO t d
  have h2 := zbA ts d
  have h3 : 0 ≤ tsz t (5 - d) := by
   by_cases h : 1 ≤ 5 - d
   ·have := tsz_bd' t _ h; omega
   ·by_cases hs : shape t d = true
    ·rw [if_pos hs] at h1; omega
    ·rw [if_neg hs] at h1; omega
  have h4 : 0 ≤ tszs ts (5 - d) := by
   by_cases hs : shapes ts d = true
   ·rw [if_pos hs] at h2; omega
   ·rw [if_neg hs] at h2; omega
  simp only [shapes, tszs, sizes, zeO]
  by_cases ha : shape t d = true
  ·rw [if_pos ha] at h1
   by_cases hb : shapes ts d = true
   ·rw [if_pos hb] at h2; rw [if_pos ⟨ha, hb⟩]; omega
   ·rw [if_neg hb] at h2; rw [if_neg (fun h => hb h.2)]; omega
  ·rw [if_neg ha] at h1
   rw [if_neg (fun h => ha h.1)]; omega
end
/-- A well-formed term. -/
def wf (t : Tm) : Bool := shape t 4 && decide (t.size ≤ 12)
theorem wf_impl (t : Tm) : decide (tsz t 1 ≤ 12) = wf t := by
 have h := zcO t 4
 unfold wf
 rw [Bool.eq_iff_iff]
 simp only [decide_eq_true_eq, zeO]
 rw [show (5 : Int) - 4 = 1 from rfl] at h
 by_cases hs : shape t 4 = true
 ·rw [if_pos hs] at h; rw [h]; simp [hs]; omega
 ·rw [if_neg hs] at h; simp [hs]; omega
theorem wf_spec (t : Tm) : (shape t 4 && decide (many t 4 ≤ 12)) = wf t := by
 unfold wf
 by_cases hs : shape t 4 = true
 ·rw [zb1 t 4 hs]; simp [hs]; omega
 ·simp [hs]
mutual
/-- withParts, l4Parts -/
def addP : List Tm → Tm → List Tm
 | l, .mk n ks => if (.mk n ks) ∈ addPs l ks then addPs l ks else addPs l ks ++ [.mk n ks]
def addPs : List Tm → List Tm → List Tm
 | l, [] => l
 | l, t :: ts => addPs (addP l t) ts
end
theorem addP_eq (l : List Tm) (t : Tm) : addP l t = if t ∈ addPs l t.kids then addPs l t.kids else addPs l t.kids ++ [t] := by cases t; simp only [addP]; rfl
theorem addPs_append : ∀ (l a b : List Tm), addPs l (a ++ b) = addPs (addPs l a) b
 | l, [], b => by simp [addPs]
 | l, t :: ts, b => by simp [addPs, addPs_append]
theorem addPs_succ (l ts : List Tm) (k : Nat) (h : k < ts.length) : addPs l (ts.take (k + 1)) = addP (addPs l (ts.take k)) ts[k] := by
 rw [zeH h, addPs_append]; simp [addPs]
/-- TermParts -/
def parts (ts : List Tm) : List Tm := if ts.all wf then addPs [] ts else []
mutual
/-- All parts of a term are in a list. -/
def zcs : List Tm → Tm → Prop
 | l, .mk n ks => (.mk n ks) ∈ l ∧ zat l ks
def zat : List Tm → List Tm → Prop
 | _, [] => True
 | l, t :: ts => zcs l t ∧ zat l ts
end
theorem allIn_eq (l : List Tm) (t : Tm) : zcs l t ↔ t ∈ l ∧ zat l t.kids := by cases t; simp [zcs, kids]
theorem allIns_iff (l : List Tm) : ∀ ts, zat l ts ↔ ∀ t ∈ ts, zcs l t
 | [] => by simp [zat]
 | t :: ts => by simp [zat, allIns_iff l ts]
mutual
theorem zbd {l l' : List Tm} (h : ∀ x ∈ l, x ∈ l') : ∀ t, zcs l t → zcs l' t
 | .mk n ks, ha => by simp only [zcs] at ha ⊢; exact ⟨h _ ha.1, zaS h ks ha.2⟩
theorem zaS {l l' : List Tm} (h : ∀ x ∈ l, x ∈ l') : ∀ ts, zat l ts → zat l' ts
 | [], _ => by simp [zat]
 | t :: ts, ha => by simp only [zat] at ha ⊢; exact ⟨zbd h t ha.1, zaS h ts ha.2⟩
end
mutual
theorem addP_sub : ∀ (t : Tm) (l : List Tm), ∀ x ∈ l, x ∈ addP l t
 | .mk n ks, l, x, hx => by
  have := zbB ks l x hx
  simp only [addP]
  split
  ·exact this
  ·exact List.mem_append_left _ this
theorem zbB : ∀ (ts l : List Tm), ∀ x ∈ l, x ∈ addPs l ts
 | [], l, x, hx => by simpa [addPs] using hx
 | t :: ts, l, x, hx => by simp only [addPs]; exact zbB ts _ x (addP_sub t l x hx)
end
mutual
theorem addP_all : ∀ (t : Tm) (l : List Tm), zcs (addP l t) t
 | .mk n ks, l => by
  have h := addPs_all ks l
  simp only [addP]
  split
  ·rename_i hm; exact (allIn_eq _ _).2 ⟨hm, h⟩
  ·exact (allIn_eq _ _).2 ⟨by simp, zaS (fun x hx => List.mem_append_left _ hx) _ h⟩
theorem addPs_all : ∀ (ts l : List Tm), zat (addPs l ts) ts
 | [], l => by simp [zat]
 | t :: ts, l => by
  simp only [addPs, zat]
  exact ⟨zbd (zbB ts _) t (addP_all t l), addPs_all ts _⟩
end
mutual
theorem addP_len : ∀ (t : Tm) (l : List Tm), (addP l t).length ≤ l.length + size t
 | .mk n ks, l => by
  have := addPs_len ks l
  simp only [addP, size]
  split <;> simp <;> omega
theorem addPs_len : ∀ (ts l : List Tm), (addPs l ts).length ≤ l.length + sizes ts
 | [], l => by simp [addPs, sizes]
 | t :: ts, l => by
  have := addPs_len ts (addP l t)
  have := addP_len t l
  simp only [addPs, sizes]; omega
end
theorem beq_self (t : Tm) : beq t t = true := (beq_iff _ _).2 rfl
theorem beq_no {t u : Tm} (h : beq t u = false) : t ≠ u := by rintro rfl; rw [beq_self] at h; simp at h
/-- The place of a term in a list, or -1. -/
def IsPlace (l : List Tm) (t : Tm) (n : Int) : Prop := (n = -1 ∧ t ∉ l) ∨ ∃ k : Nat, k < l.length ∧ n = k ∧ l[k]? = some t
theorem IsPlace.neg {l : List Tm} {t : Tm} {n : Int} (h : IsPlace l t n) : n < 0 ↔ t ∉ l := by
 rcases h with ⟨rfl, h⟩ | ⟨k, hk, rfl, h⟩
 ·simp [h]
 ·have : t ∈ l := by rw [List.getElem?_eq_some_iff] at h; obtain ⟨_, rfl⟩ := h; exact zeJ _
  constructor
  ·intro h'; omega
  ·intro h'; exact absurd this h'
theorem IsPlace.bd {l : List Tm} {t : Tm} {n : Int} (h : IsPlace l t n) : -1 ≤ n ∧ n < l.length + 1 := by
 rcases h with ⟨rfl, h⟩ | ⟨k, hk, rfl, h⟩ <;> omega
end Tm
def zv (n : Int) : List CD := [.int n]
def zb4 (ns : List Int) : List CD := [.sl (ns.map zv)]
structure Sy where
 name : ByteArray
 args : List Int
 sort : Int
def Sy.cd (x : Sy) : List CD := [.str x.name] ++ ([.sl (x.args.map zv)] ++ [.int x.sort])
structure Sg where
 syms : List Sy
def Sg.cd (x : Sg) : List CD := [.sl (x.syms.map Sy.cd)]
structure Eqn where
 a : Tm
 b : Tm
def Eqn.cd (x : Eqn) : List CD := x.a.cd ++ x.b.cd
structure Stp where
 a : Int
 b : Int
 given : Int
def Stp.cd (x : Stp) : List CD := [.int x.a] ++ ([.int x.b] ++ [.int x.given])
inductive Wy where
 | mk (rule : Int) (n : Int) (t : Tm) (kids : List Wy)
def Wy.rule : Wy → Int | .mk rule _ _ _ => rule
def Wy.n : Wy → Int | .mk _ n _ _ => n
def Wy.t : Wy → Tm | .mk _ _ t _ => t
def Wy.kids : Wy → List Wy | .mk _ _ _ kids => kids
def Wy.cd : Wy → List CD
 | .mk rule n t kids => [.int rule] ++ ([.int n] ++ (t.cd ++ [.sl (kids.map Wy.cd)]))
theorem Wy.cd_eq (x : Wy) : x.cd = [.int x.rule] ++ ([.int x.n] ++ (x.t.cd ++ [.sl (x.kids.map Wy.cd)])) := by cases x; simp [Wy.cd, Wy.rule, Wy.n, Wy.t, Wy.kids]
structure Atm where
 kind : Int
 a : Tm
 b : Tm
 nums : List Tm
 times : List Int
 bound : Int
 strict : Bool
def Atm.cd (x : Atm) : List CD := [.int x.kind] ++ (x.a.cd ++ (x.b.cd ++ ([.sl (x.nums.map Tm.cd)] ++ ([.sl (x.times.map zv)] ++ ([.int x.bound] ++ [.bool x.strict])))))
structure Lt where
 atom : Atm
 no : Bool
def Lt.cd (x : Lt) : List CD := x.atom.cd ++ [.bool x.no]
inductive Fm where
 | mk (kind : Int) (lit : Lt) (kids : List Fm)
def Fm.kind : Fm → Int | .mk kind _ _ => kind
def Fm.lit : Fm → Lt | .mk _ lit _ => lit
def Fm.kids : Fm → List Fm | .mk _ _ kids => kids
def Fm.cd : Fm → List CD
 | .mk kind lit kids => [.int kind] ++ (lit.cd ++ [.sl (kids.map Fm.cd)])
theorem Fm.cd_eq (x : Fm) : x.cd = [.int x.kind] ++ (x.lit.cd ++ [.sl (x.kids.map Fm.cd)]) := by cases x; simp [Fm.cd, Fm.kind, Fm.lit, Fm.kids]
def fmsCd (fs : List Fm) : List CD := [.sl (fs.map Fm.cd)]
inductive Cs where
 | mk (kind : Int) (n : Int) (why : Wy) (times : List Int) (a : Tm) (b : Tm) (kids : List Cs)
def Cs.kind : Cs → Int | .mk kind _ _ _ _ _ _ => kind
def Cs.n : Cs → Int | .mk _ n _ _ _ _ _ => n
def Cs.why : Cs → Wy | .mk _ _ why _ _ _ _ => why
def Cs.times : Cs → List Int | .mk _ _ _ times _ _ _ => times
def Cs.a : Cs → Tm | .mk _ _ _ _ a _ _ => a
def Cs.b : Cs → Tm | .mk _ _ _ _ _ b _ => b
def Cs.kids : Cs → List Cs | .mk _ _ _ _ _ _ kids => kids
def Cs.cd : Cs → List CD
 | .mk kind n why times a b kids => [.int kind] ++ ([.int n] ++ (why.cd ++ ([.sl (times.map zv)] ++ (a.cd ++ (b.cd ++ [.sl (kids.map Cs.cd)])))))
theorem Cs.cd_eq (x : Cs) : x.cd = [.int x.kind] ++ ([.int x.n] ++ (x.why.cd ++ ([.sl (x.times.map zv)] ++ (x.a.cd ++ (x.b.cd ++ [.sl (x.kids.map Cs.cd)]))))) := by cases x; simp [Cs.cd, Cs.kind, Cs.n, Cs.why, Cs.times, Cs.a, Cs.b, Cs.kids]
structure Lm where
 marks : List Int
 case : Cs
def Lm.cd (x : Lm) : List CD := [.sl (x.marks.map zv)] ++ x.case.cd
structure Pp where
 lemmas : List Lm
 log : List (List Int)
def Pp.cd (x : Pp) : List CD := [.sl (x.lemmas.map Lm.cd)] ++ [.sl (x.log.map zb4)]
structure Stk where
 sig : Sg
 levels : List (List Fm)
def Stk.cd (x : Stk) : List CD := x.sig.cd ++ [.sl (x.levels.map fmsCd)]
structure Cnf where
 many : Int
 list : List (List Int)
def Cnf.cd (x : Cnf) : List CD := [.int x.many] ++ [.sl (x.list.map zb4)]
structure Ln where
 coefs : List Int
 bound : Int
 strict : Bool
def Ln.cd (x : Ln) : List CD := [.sl (x.coefs.map zv)] ++ ([.int x.bound] ++ [.bool x.strict])
structure Rt where
 n : Int
 d : Int
def Rt.cd (x : Rt) : List CD := [.int x.n] ++ [.int x.d]
structure Rw where
 name : ByteArray
 args : List Rt
 val : Rt
def Rw.cd (x : Rw) : List CD := [.str x.name] ++ ([.sl (x.args.map Rt.cd)] ++ x.val.cd)
structure Md where
 rows : List Rw
def Md.cd (x : Md) : List CD := [.sl (x.rows.map Rw.cd)]
/-- The place of a term among parts (0 where it is not there). -/
def Tm.pos (l : List Tm) (t : Tm) : Nat := (l.findIdx? (fun u => u.beq t)).getD 0
theorem Tm.pos_yes {l : List Tm} {t : Tm} (h : t ∈ l) : Tm.pos l t < l.length ∧ l[Tm.pos l t]? = some t := by
 unfold Tm.pos
 cases hf : l.findIdx? (fun u => u.beq t) with
 | none =>
  rw [List.findIdx?_eq_none_iff] at hf
  have := hf t h
  rw [Tm.beq_self] at this; simp at this
 | some k =>
  rw [List.findIdx?_eq_some_iff_getElem] at hf
  obtain ⟨hl, hb, _⟩ := hf
  refine ⟨by simpa using hl, ?_⟩
  simp only [Option.getD_some]
  rw [List.getElem?_eq_getElem hl, (Tm.beq_iff _ _).1 hb]
/-- In a list where each stands once there is one place. -/
theorem Tm.IsPlace.pos {l : List Tm} {t : Tm} {n : Int} (h : Tm.IsPlace l t n) (hn : l.Nodup) (ht : t ∈ l) : n = (Tm.pos l t : Nat) := by
 rcases h with ⟨_, h⟩ | ⟨k, hk, rfl, h⟩
 ·exact absurd ht h
 ·obtain ⟨h1, h2⟩ := Tm.pos_yes ht
  have h3 := (List.getElem?_eq_some_iff.1 h).2
  have h4 := (List.getElem?_eq_some_iff.1 h2).2
  have : k = Tm.pos l t := (List.getElem_inj hn).1 (h3.trans h4.symm)
  rw [this]
namespace Clo
def cl (c : List Nat) (i : Nat) : Nat := c.getD i 0
def hi (c : List Nat) (a b : Nat) : Nat := max (cl c a) (cl c b)
def lo (c : List Nat) (a b : Nat) : Nat := min (cl c a) (cl c b)
/-- l5Join, merge. -/
def join (c : List Nat) (a b : Nat) : List Nat := c.map fun k => if k = hi c a b then lo c a b else k
theorem join_len (c : List Nat) (a b : Nat) : (join c a b).length = c.length := by unfold join; rw [zeN]
theorem zar {c : List Nat} {a b i : Nat} (h : i < c.length) : cl (join c a b) i = if cl c i = hi c a b then lo c a b else cl c i := by
 unfold join cl
 rw [List.getD_eq_getElem?_getD, List.getD_eq_getElem?_getD, List.getElem?_map, List.getElem?_eq_getElem h]; rfl
/-- Classes: each has its least one for its number. -/
def Good (n : Nat) (c : List Nat) : Prop := c.length = n ∧ ∀ i, i < n → cl c i ≤ i ∧ cl c (cl c i) = cl c i
theorem Good.start (n : Nat) : Good n (List.range n) := by
 refine ⟨List.length_range, fun i hi => ?_⟩
 have : cl (List.range n) i = i := by unfold cl; rw [List.getD_eq_getElem?_getD, List.getElem?_range hi]; rfl
 rw [this]; exact ⟨Nat.le_refl _, this⟩
theorem Good.join {n : Nat} {c : List Nat} (h : Good n c) {a b : Nat} (ha : a < n) (hb : b < n) : Good n (join c a b) := by
 obtain ⟨hl, hg⟩ := h
 have hla : cl c (lo c a b) = lo c a b ∧ lo c a b < n := by
  unfold lo
  have h1 := hg a ha
  have h2 := hg b hb
  rcases Nat.le_total (cl c a) (cl c b) with h | h
  ·rw [Nat.min_eq_left h]; exact ⟨h1.2, by omega⟩
  ·rw [Nat.min_eq_right h]; exact ⟨h2.2, by omega⟩
 have hlh : lo c a b ≤ hi c a b := by unfold lo hi; omega
 refine ⟨by rw [join_len]; exact hl, fun i hi' => ?_⟩
 have hgi := hg i hi'
 rw [zar (by omega)]
 split
 ·rename_i he
  refine ⟨by omega, ?_⟩
  rw [zar (by omega), hla.1]
  split
  ·rfl
  ·rfl
 ·rename_i he
  refine ⟨hgi.1, ?_⟩
  rw [zar (by omega), hgi.2, if_neg he]
/-- How many first ones there are. -/
def roots (n : Nat) (c : List Nat) : Nat := (List.range n).countP fun i => cl c i == i
theorem zdm (n : Nat) : roots n (List.range n) = n := by
 unfold roots
 rw [List.countP_eq_length.2, List.length_range]
 intro i hi
 have : cl (List.range n) i = i := by unfold cl; rw [List.getD_eq_getElem?_getD, List.getElem?_range (List.mem_range.1 hi)]; rfl
 rw [this]; simp
theorem range_split {n i : Nat} (h : i < n) : List.range n = List.range i ++ i :: (List.range (n - i - 1)).map (fun j => i + 1 + j) := by
 have : n = i + (1 + (n - i - 1)) := by omega
 conv => lhs; rw [this, List.range_add, List.range_add]
 simp [Function.comp_def, Nat.add_assoc]
theorem count_range {n i : Nat} (h : i < n) : (List.range n).count i = 1 := by
 rw [range_split h, List.count_append, List.count_cons_self, List.count_eq_zero.2, List.count_eq_zero.2]
 ·intro hm; rw [List.mem_map] at hm; obtain ⟨j, _, e⟩ := hm; omega
 ·intro hm; have := List.mem_range.1 hm; omega
theorem countP_one {p q : Nat → Bool} {x : Nat} : ∀ (l : List Nat), (∀ i ∈ l, (if p i = true then 1 else 0) = (if q i = true then 1 else 0) + (if i = x then 1 else 0)) → l.countP p = l.countP q + l.count x
 | [], _ => by simp
 | i :: l, h => by
  have h1 := h i (by simp)
  have h2 := countP_one l (fun j hj => h j (List.mem_cons_of_mem _ hj))
  rw [List.countP_cons, List.countP_cons, List.count_cons, h2]
  by_cases hx : i = x
  ·subst hx
   simp only [if_true, beq_self_eq_true] at h1 ⊢
   omega
  ·have hb : (i == x) = false := by simpa using hx
   simp only [if_neg hx, hb] at h1 ⊢
   simp only [Bool.false_eq_true, if_false]
   omega
theorem zbg {n : Nat} {c : List Nat} (h : Good n c) {a b : Nat} (ha : a < n) (hb : b < n) (hne : cl c a ≠ cl c b) : roots n c = roots n (Clo.join c a b) + 1 := by
 obtain ⟨hl, hg⟩ := h
 have h1 := hg a ha
 have h2 := hg b hb
 have hhi : cl c (hi c a b) = hi c a b ∧ hi c a b < n ∧ lo c a b < hi c a b ∧ cl c (lo c a b) = lo c a b := by
  unfold hi lo
  rcases Nat.le_total (cl c a) (cl c b) with h | h
  ·rw [Nat.max_eq_right h, Nat.min_eq_left h]; exact ⟨h2.2, by omega, by omega, h1.2⟩
  ·rw [Nat.max_eq_left h, Nat.min_eq_right h]; exact ⟨h1.2, by omega, by omega, h2.2⟩
 have := countP_one (p := fun i => cl c i == i) (q := fun i => cl (Clo.join c a b) i == i) (x := hi c a b) (List.range n) (fun i hir => by
  have hin := List.mem_range.1 hir
  rw [zar (by omega)]
  by_cases he : cl c i = hi c a b
  ·rw [if_pos he]
   have hq : ¬ lo c a b = i := fun e => by have := hhi.2.2.2; rw [e] at this; omega
   by_cases hx : i = hi c a b
   ·have : (cl c i == i) = true := by rw [he, hx]; simp
    rw [if_pos this, if_neg (by simpa using hq), if_pos hx]
   ·have : ¬ (cl c i == i) = true := by simp; intro e; exact hx (e.symm.trans he)
    rw [if_neg this, if_neg (by simpa using hq), if_neg hx]
  ·rw [if_neg he]
   have hx : ¬ i = hi c a b := fun e => by apply he; rw [e]; exact hhi.1
   rw [if_neg hx]; omega)
 unfold roots
 rw [this, count_range hhi.2.1]
theorem roots_pos {n : Nat} {c : List Nat} (h : Good n c) {a : Nat} (ha : a < n) : 1 ≤ roots n c := by
 have h1 := h.2 a ha
 unfold roots
 exact List.countP_pos_iff.2 ⟨cl c a, List.mem_range.2 (by omega), by simpa using h1.2⟩
/-- All parts of two are in one class each. -/
def kidsB (ps : List Tm) (c : List Nat) : List Tm → List Tm → Bool
 | [], [] => true
 | x :: xs, y :: ys => (cl c (Tm.pos ps x) == cl c (Tm.pos ps y)) && kidsB ps c xs ys
 | _, _ => false
/-- l5Alike, congruent. -/
def alikeB (ps : List Tm) (c : List Nat) (x y : Tm) : Bool := (decide (x.name = y.name) && decide (0 < x.kids.length)) && kidsB ps c x.kids y.kids
def badB (ps : List Tm) (c : List Nat) (k i : Nat) : Bool := match ps[k]?, ps[i]? with
 | some x, some y => (cl c k != cl c i) && alikeB ps c x y
 | _, _ => false
/-- l5Next, pair. -/
def next (ps : List Tm) (c : List Nat) : Option (Nat × Nat) := (List.range ps.length).findSome? fun i => ((List.range i).find? fun k => badB ps c k i).map fun k => (k, i)
/-- No pair up to here. -/
def Upto (ps : List Tm) (c : List Nat) (i : Nat) : Prop := ∀ j, j < i → ∀ k, k < j → badB ps c k j = false
def Upto2 (ps : List Tm) (c : List Nat) (i k : Nat) : Prop := ∀ j, j < k → badB ps c j i = false
theorem zcS {ps : List Tm} {c : List Nat} {i : Nat} (h : ∀ k, k < i → badB ps c k i = false) : (List.range i).find? (fun k => badB ps c k i) = none := by
 rw [List.find?_eq_none]; intro k hk; rw [h k (List.mem_range.1 hk)]; simp
theorem next_none {ps : List Tm} {c : List Nat} (h : Upto ps c ps.length) : next ps c = none := by
 unfold next
 rw [List.findSome?_eq_none_iff]
 intro i hi
 rw [zcS (h i (List.mem_range.1 hi))]; rfl
theorem next_some {ps : List Tm} {c : List Nat} {i k : Nat} (h1 : Upto ps c i) (h2 : Upto2 ps c i k) (hk : k < i) (hi : i < ps.length) (hb : badB ps c k i = true) : next ps c = some (k, i) := by
 unfold next
 rw [range_split hi, List.findSome?_append]
 have e1 : (List.range i).findSome? (fun i => ((List.range i).find? fun k => badB ps c k i).map fun k => (k, i)) = none := by
  rw [List.findSome?_eq_none_iff]
  intro j hj
  rw [zcS (h1 j (List.mem_range.1 hj))]; rfl
 rw [e1, Option.none_or, List.findSome?_cons]
 have e2 : (List.range i).find? (fun k => badB ps c k i) = some k := by
  rw [range_split hk, List.find?_append]
  have e3 : (List.range k).find? (fun k => badB ps c k i) = none := by
   rw [List.find?_eq_none]; intro j hj; rw [h2 j (List.mem_range.1 hj)]; simp
  rw [e3, Option.none_or, List.find?_cons, hb]
 rw [e2]; rfl
theorem next_spec {ps : List Tm} {c : List Nat} {k i : Nat} (h : next ps c = some (k, i)) : k < i ∧ i < ps.length ∧ badB ps c k i = true := by
 unfold next at h
 obtain ⟨j, hj, e⟩ := List.exists_of_findSome?_eq_some h
 cases hf : (List.range j).find? (fun k => badB ps c k j) with
 | none => rw [hf] at e; simp at e
 | some q =>
  rw [hf] at e
  simp only [Option.map_some, Option.some.injEq, Prod.mk.injEq] at e
  obtain ⟨rfl, rfl⟩ := e
  have h1 := List.mem_of_find?_eq_some hf
  have h2 := List.find?_some hf
  exact ⟨List.mem_range.1 h1, List.mem_range.1 hj, h2⟩
theorem bad_ne {ps : List Tm} {c : List Nat} {k i : Nat} (h : badB ps c k i = true) : cl c k ≠ cl c i := by
 unfold badB at h
 split at h
 ·simp only [zeO, bne_iff_ne, ne_eq] at h; exact h.1
 ·simp at h
/-- The steps of congruence, as many as there may be. -/
def run (ps : List Tm) : Nat → List Nat → List Stp → List Nat × List Stp
 | 0, c, st => (c, st)
 | f + 1, c, st => match next ps c with
  | none => (c, st)
  | some (k, i) => run ps f (join c k i) (st ++ [⟨k, i, -1⟩])
theorem run_none {ps : List Tm} {c : List Nat} {st : List Stp} (h : next ps c = none) : ∀ f, run ps f c st = (c, st)
 | 0 => rfl
 | f + 1 => by unfold run; rw [h]
theorem run_some {ps : List Tm} {c : List Nat} {st : List Stp} {f k i : Nat} (h : next ps c = some (k, i)) : run ps (f + 1) c st = run ps f (join c k i) (st ++ [⟨k, i, -1⟩]) := by
 conv => lhs; unfold run
 rw [h]
/-- The given equations, each a step where its sides are two classes. -/
def given (ps : List Tm) : List Eqn → Nat → List Nat → List Stp → List Nat × List Stp
 | [], _, c, st => (c, st)
 | e :: es, n, c, st => if cl c (Tm.pos ps e.a) = cl c (Tm.pos ps e.b) then given ps es (n + 1) c st else given ps es (n + 1) (join c (Tm.pos ps e.a) (Tm.pos ps e.b)) (st ++ [⟨Tm.pos ps e.a, Tm.pos ps e.b, n⟩])
/-- l5Run, closed. -/
def close (ps : List Tm) (es : List Eqn) : List Nat × List Stp :=
 let g := given ps es 0 (List.range ps.length) []
 run ps ps.length g.1 g.2
end Clo
end Go.Proofs.YtlefdhhnlbpbkaaGreat
end
