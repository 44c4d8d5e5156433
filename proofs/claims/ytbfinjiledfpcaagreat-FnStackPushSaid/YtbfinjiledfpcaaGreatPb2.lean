/- Parts of the proof: Term TermW Types. -/
import Derived.Test.YtbfinjiledfpcaaGreatPb1
import Derived.WalkSpells
import Derived.WalkLawsBesides
import Derived.Handy
import Derived.Deep.RegionWith
import Derived.BigQuiet
import Derived.Deep.QuietTactic
import Derived.Test.YtbfinjiledfpcaaGreatProg
section
namespace Go.Proofs.YtbfinjiledfpcaaGreat
open Go Go.RowKit
set_option linter.unusedVariables false
set_option linter.unusedSimpArgs false
set_option maxRecDepth 100000
set_option maxHeartbeats 16000000
inductive Tm where
 | mk (name : ByteArray) (kids : List Tm)
namespace Tm
def name : Tm → ByteArray | .mk n _ => n
def kids : Tm → List Tm | .mk _ k => k
def cd : Tm → List CD
 | .mk n ks => [.str n, .sl (ks.map cd)]
mutual
def size : Tm → Nat | .mk _ ks => 1 + sizes ks
def sizes : List Tm → Nat | [] => 0 | t :: ts => size t + sizes ts
end
theorem size_eq (t : Tm) : t.size = 1 + sizes t.kids := by cases t; simp [size, kids]
theorem cd_eq (t : Tm) : t.cd = [.str t.name, .sl (t.kids.map cd)] := by cases t; simp [cd, name, kids]
theorem size_pos (t : Tm) : 0 < t.size := by rw [size_eq]; omega
theorem size_mem : ∀ {ts : List Tm} {t : Tm}, t ∈ ts → t.size ≤ sizes ts
 | [], t, h => by simp at h
 | u :: us, t, h => by
  simp only [sizes]
  rcases zfN.1 h with rfl | h
  ·omega
  ·have := size_mem h; omega
theorem size_kid {t : Tm} {i : Nat} (h : i < t.kids.length) : t.kids[i].size < t.size := by
 have := size_mem (zfK h); rw [size_eq t]; omega
theorem size_kid_mem {t u : Tm} (h : u ∈ t.kids) : u.size < t.size := by have := size_mem h; rw [size_eq t]; omega
theorem sizes_len : ∀ (ts : List Tm), ts.length ≤ sizes ts
 | [] => by simp
 | t :: ts => by have := sizes_len ts; have := size_pos t; simp only [sizes, List.length_cons]; omega
theorem sizes_append : ∀ (a b : List Tm), sizes (a ++ b) = sizes a + sizes b
 | [], b => by simp [sizes]
 | t :: ts, b => by simp only [List.cons_append, sizes, sizes_append ts b]; omega
theorem sizes_take (ts : List Tm) (k : Nat) : sizes (ts.take k) ≤ sizes ts := by
 have := sizes_append (ts.take k) (ts.drop k); rw [List.take_append_drop] at this; omega
theorem cd_len (t : Tm) : t.cd.length = 2 := by cases t; simp [cd]
mutual
def beq : Tm → Tm → Bool
 | .mk n ks, .mk m js => decide (n = m) && beqs ks js
def beqs : List Tm → List Tm → Bool
 | [], [] => true
 | t :: ts, u :: us => beq t u && beqs ts us
 | _, _ => false
end
mutual
theorem beq_iff : ∀ (a b : Tm), beq a b = true ↔ a = b
 | .mk n ks, .mk m js => by simp [beq, beqs_iff ks js]
theorem beqs_iff : ∀ (a b : List Tm), beqs a b = true ↔ a = b
 | [], [] => by simp [beqs]
 | [], _ :: _ => by simp [beqs]
 | _ :: _, [] => by simp [beqs]
 | t :: ts, u :: us => by simp [beqs, beq_iff t u, beqs_iff ts us]
end
instance : DecidableEq Tm := fun a b => if h : beq a b = true then .isTrue ((beq_iff a b).1 h) else .isFalse fun e => h ((beq_iff a b).2 e)
end Tm
def zbF (c : UInt8) : Bool := decide (97 ≤ (c.toNat : Int)) && decide ((c.toNat : Int) ≤ 122)
/-- A name: one or two small letters. -/
def zax (s : ByteArray) : Bool := (decide (1 ≤ (s.size : Int)) && decide ((s.size : Int) ≤ 2)) && s.data.toList.all zbF
namespace Tm
mutual
/-- impl.termSize -/
def tsz : Tm → Int → Int
 | .mk n ks, d => if zax n = true ∧ ks.length ≤ 2 ∧ d ≤ 4 then 1 + tszs ks (d + 1) else 13
def tszs : List Tm → Int → Int
 | [], _ => 0
 | t :: ts, d => tsz t d + tszs ts d
end
theorem tsz_eq (t : Tm) (d : Int) : tsz t d = if zax t.name = true ∧ t.kids.length ≤ 2 ∧ d ≤ 4 then 1 + tszs t.kids (d + 1) else 13 := by cases t; simp only [tsz]; rfl
theorem zcr : ∀ (a b : List Tm) (d : Int), tszs (a ++ b) d = tszs a d + tszs b d
 | [], b, d => by simp [tszs]
 | t :: ts, b, d => by simp only [List.cons_append, tszs, zcr ts b]; omega
theorem tszs_succ (ts : List Tm) (d : Int) (k : Nat) (h : k < ts.length) : tszs (ts.take (k + 1)) d = tszs (ts.take k) d + tsz ts[k] d := by
 rw [zfI h, zcr]; simp [tszs]
/-- Its bounds. -/
def cap5 : Nat → Nat | 0 => 13 | n + 1 => 13 + 2 * cap5 n
theorem tsz_bd : ∀ (n : Nat) (t : Tm) (d : Int), 5 - n ≤ d → 1 ≤ tsz t d ∧ tsz t d ≤ cap5 n
 | 0, t, d, h => by rw [tsz_eq, if_neg (by omega)]; simp [cap5]
 | n + 1, t, d, h => by
  rw [tsz_eq]
  split
  ·rename_i hc
   have h2 := hc.2.1
   have hk : ∀ ts : List Tm, 0 ≤ tszs ts (d + 1) ∧ tszs ts (d + 1) ≤ cap5 n * ts.length := by
    intro ts
    induction ts with
    | nil => simp [tszs]
    | cons u us ih =>
     have := tsz_bd n u (d + 1) (by omega)
     simp only [tszs, List.length_cons, Int.natCast_add, Int.natCast_one, Int.mul_add, Int.mul_one]
     omega
   have h3 := hk t.kids
   have h4 : cap5 n * t.kids.length ≤ cap5 n * 2 := Nat.mul_le_mul_left _ h2
   simp only [cap5]
   refine ⟨by omega, ?_⟩
   have : (cap5 n : Int) * (t.kids.length : Int) ≤ (cap5 n : Int) * 2 := by exact_mod_cast h4
   omega
  ·simp [cap5]; omega
theorem tsz_bd' (t : Tm) (d : Int) (h : 1 ≤ d) : 1 ≤ tsz t d ∧ tsz t d ≤ 403 := tsz_bd 4 t d (by omega)
theorem tszs_bd (ts : List Tm) (d : Int) (h : 1 ≤ d) : 0 ≤ tszs ts d ∧ tszs ts d ≤ 403 * ts.length := by
 induction ts with
 | nil => simp [tszs]
 | cons u us ih => have := tsz_bd' u d h; simp only [tszs, List.length_cons]; omega
mutual
/-- spec.l4Shape -/
def shape : Tm → Int → Bool
 | .mk n ks, d => decide (1 ≤ d) && zax n && decide (ks.length ≤ 2) && shapes ks (d - 1)
def shapes : List Tm → Int → Bool
 | [], _ => true
 | t :: ts, d => shape t d && shapes ts d
end
theorem shape_eq (t : Tm) (d : Int) : shape t d = (decide (1 ≤ d) && zax t.name && decide (t.kids.length ≤ 2) && shapes t.kids (d - 1)) := by cases t; simp only [shape]; rfl
theorem shapes_all : ∀ (ts : List Tm) (d : Int), shapes ts d = ts.all (shape · d)
 | [], d => by simp [shapes]
 | t :: ts, d => by simp [shapes, shapes_all ts d]
theorem shapes_take (ts : List Tm) (d : Int) (k : Nat) (h : k < ts.length) : shapes (ts.take (k + 1)) d = (shapes (ts.take k) d && shape ts[k] d) ∧ (shape ts[k] d = false → shapes ts d = false) := by
 constructor
 ·rw [shapes_all, shapes_all, zfI h, List.all_append]
  simp only [List.all_cons, List.all_nil, Bool.and_true]
 ·intro hf
  rw [shapes_all, List.all_eq_false]
  exact ⟨ts[k], zfK h, by simp [hf]⟩
mutual
/-- spec.l4Many -/
def many : Tm → Int → Int
 | .mk _ ks, d => if 0 < d then 1 + manys ks (d - 1) else 1
def manys : List Tm → Int → Int
 | [], _ => 0
 | t :: ts, d => many t d + manys ts d
end
theorem many_eq (t : Tm) (d : Int) : many t d = if 0 < d then 1 + manys t.kids (d - 1) else 1 := by cases t; simp [many, kids]
theorem manys_append : ∀ (a b : List Tm) (d : Int), manys (a ++ b) d = manys a d + manys b d
 | [], b, d => by simp [manys]
 | t :: ts, b, d => by simp only [List.cons_append, manys, manys_append ts b]; omega
theorem manys_succ (ts : List Tm) (d : Int) (k : Nat) (h : k < ts.length) : manys (ts.take (k + 1)) d = manys (ts.take k) d + many ts[k] d := by
 rw [zfI h, manys_append]; simp [manys]
mutual
theorem many_bd : ∀ (t : Tm) (d : Int), 1 ≤ many t d ∧ many t d ≤ size t
 | .mk n ks, d => by
  have := manys_bd ks (d - 1)
  simp only [many, size]
  split <;> omega
theorem manys_bd : ∀ (ts : List Tm) (d : Int), 0 ≤ manys ts d ∧ manys ts d ≤ sizes ts
 | [], d => by simp [manys, sizes]
 | t :: ts, d => by
  have := many_bd t d
  have := manys_bd ts d
  simp only [manys, sizes]; omega
end
mutual
theorem zc7 : ∀ (t : Tm) (d : Int), shape t d = true → many t d = size t
 | .mk n ks, d, h => by
  simp only [shape, zfP, decide_eq_true_eq] at h
  have := zb8 ks (d - 1) h.2
  simp only [many, size]
  rw [if_pos (by omega)]; omega
theorem zb8 : ∀ (ts : List Tm) (d : Int), shapes ts d = true → manys ts d = sizes ts
 | [], d, _ => by simp [manys, sizes]
 | t :: ts, d, h => by
  simp only [shapes, zfP] at h
  have := zc7 t d h.1
  have := zb8 ts d h.2
  simp only [manys, sizes]; omega
end
mutual
theorem zdN : ∀ (t : Tm) (d : Int), if shape t d = true then tsz t (5 - d) = size t else 13 ≤ tsz t (5 - d)
 | .mk n ks, d => by
  have hk := zcs ks (d - 1)
  simp only [shape, tsz, size, zfP, decide_eq_true_eq]
  rw [show (5 : Int) - d + 1 = 5 - (d - 1) from by omega]
  by_cases h1 : zax n = true ∧ ks.length ≤ 2 ∧ 5 - d ≤ 4
  ·rw [if_pos h1]
   by_cases h2 : shapes ks (d - 1) = true
   ·rw [if_pos h2] at hk
    rw [if_pos ⟨⟨⟨by omega, h1.1⟩, h1.2.1⟩, h2⟩]; omega
   ·rw [if_neg h2] at hk
    rw [if_neg (fun h => h2 h.2)]; omega
  ·rw [if_neg h1, if_neg (fun h => h1 ⟨h.1.1.2, h.1.2, by omega⟩)]; omega
theorem zcs : ∀ (ts : List Tm) (d : Int), if shapes ts d = true then tszs ts (5 - d) = sizes ts else 13 ≤ tszs ts (5 - d)
 | [], d => by simp [shapes, tszs, sizes]
 | t :: ts, d => by
  have h1 := zdN t d
  have h2 := zcs ts d
  have h3 : 0 ≤ tsz t (5 - d) := by
   by_cases h : 1 ≤ 5 - d
   ·have := tsz_bd' t _ h; omega
   ·by_cases hs : shape t d = true
    ·rw [if_pos hs] at h1; omega
    ·rw [if_neg hs] at h1; omega
  have h4 : 0 ≤ tszs ts (5 - d) := by
   by_cases hs : shapes ts d = true
   ·rw [if_pos hs] at h2; omega
   ·rw [if_neg hs] at h2; omega
  simp only [shapes, tszs, sizes, zfP]
  by_cases ha : shape t d = true
  ·rw [if_pos ha] at h1
   by_cases hb : shapes ts d = true
   ·rw [if_pos hb] at h2; rw [if_pos ⟨ha, hb⟩]; omega
   ·rw [if_neg hb] at h2; rw [if_neg (fun h => hb h.2)]; omega
  ·rw [if_neg ha] at h1
   rw [if_neg (fun h => ha h.1)]; omega
end
/-- A well-formed term. -/
def wf (t : Tm) : Bool := shape t 4 && decide (t.size ≤ 12)
theorem wf_impl (t : Tm) : decide (tsz t 1 ≤ 12) = wf t := by
 have h := zdN t 4
 unfold wf
 rw [Bool.eq_iff_iff]
 simp only [decide_eq_true_eq, zfP]
 rw [show (5 : Int) - 4 = 1 from rfl] at h
 by_cases hs : shape t 4 = true
 ·rw [if_pos hs] at h; rw [h]; simp [hs]; omega
 ·rw [if_neg hs] at h; simp [hs]; omega
theorem wf_spec (t : Tm) : (shape t 4 && decide (many t 4 ≤ 12)) = wf t := by
 unfold wf
 by_cases hs : shape t 4 = true
 ·rw [zc7 t 4 hs]; simp [hs]; omega
 ·simp [hs]
mutual
/-- withParts, l4Parts -/
def addP : List Tm → Tm → List Tm
 | l, .mk n ks => if (.mk n ks) ∈ addPs l ks then addPs l ks else addPs l ks ++ [.mk n ks]
def addPs : List Tm → List Tm → List Tm
 | l, [] => l
 | l, t :: ts => addPs (addP l t) ts
end
theorem addP_eq (l : List Tm) (t : Tm) : addP l t = if t ∈ addPs l t.kids then addPs l t.kids else addPs l t.kids ++ [t] := by cases t; simp only [addP]; rfl
theorem addPs_append : ∀ (l a b : List Tm), addPs l (a ++ b) = addPs (addPs l a) b
 | l, [], b => by simp [addPs]
 | l, t :: ts, b => by simp [addPs, addPs_append]
theorem addPs_succ (l ts : List Tm) (k : Nat) (h : k < ts.length) : addPs l (ts.take (k + 1)) = addP (addPs l (ts.take k)) ts[k] := by
 rw [zfI h, addPs_append]; simp [addPs]
/-- TermParts -/
def parts (ts : List Tm) : List Tm := if ts.all wf then addPs [] ts else []
mutual
theorem addP_len : ∀ (t : Tm) (l : List Tm), (addP l t).length ≤ l.length + size t
 | .mk n ks, l => by
  have := addPs_len ks l
  simp only [addP, size]
  split <;> simp <;> omega
theorem addPs_len : ∀ (ts l : List Tm), (addPs l ts).length ≤ l.length + sizes ts
 | [], l => by simp [addPs, sizes]
 | t :: ts, l => by
  have := addPs_len ts (addP l t)
  have := addP_len t l
  simp only [addPs, sizes]; omega
end
theorem beq_self (t : Tm) : beq t t = true := (beq_iff _ _).2 rfl
theorem beq_no {t u : Tm} (h : beq t u = false) : t ≠ u := by rintro rfl; rw [beq_self] at h; simp at h
/-- The place of a term in a list, or -1. -/
def IsPlace (l : List Tm) (t : Tm) (n : Int) : Prop := (n = -1 ∧ t ∉ l) ∨ ∃ k : Nat, k < l.length ∧ n = k ∧ l[k]? = some t
theorem IsPlace.neg {l : List Tm} {t : Tm} {n : Int} (h : IsPlace l t n) : n < 0 ↔ t ∉ l := by
 rcases h with ⟨rfl, h⟩ | ⟨k, hk, rfl, h⟩
 ·simp [h]
 ·have : t ∈ l := by rw [List.getElem?_eq_some_iff] at h; obtain ⟨_, rfl⟩ := h; exact zfK _
  constructor
  ·intro h'; omega
  ·intro h'; exact absurd this h'
theorem IsPlace.bd {l : List Tm} {t : Tm} {n : Int} (h : IsPlace l t n) : -1 ≤ n ∧ n < l.length + 1 := by
 rcases h with ⟨rfl, h⟩ | ⟨k, hk, rfl, h⟩ <;> omega
end Tm
/-- The reading of a list of terms, whatever blocks it passes. -/
def TmsR (w : World) (ts : List Tm) (v : Value) : Prop := ∃ fp, Rd w (.sl (ts.map Tm.cd)) v fp
def TmR (w : World) (t : Tm) (v : Value) : Prop := ∃ kv, v = .agg #[.string t.name, kv] ∧ t.name.size ≤ maxLen ∧ TmsR w t.kids kv
theorem TmsR.form {w : World} {ts : List Tm} {v : Value} (h : TmsR w ts v) : ∃ a cap, v = .slice a ts.length cap ∧ ts.length ≤ cap ∧ cap ≤ 9223372036854775807 := by
  obtain ⟨fp, h⟩ := h
  obtain ⟨a, cap, h1, h2, h3⟩ := h.sl_form
  exact ⟨a, cap, by simpa using h1, by simpa using h2, h3⟩
theorem za4 {w : World} {ts : List Tm} {v : Value} {fp : List Nat} (h : Rd w (.sl (ts.map Tm.cd)) v fp) : ∃ a cap, v = .slice a ts.length cap ∧ ts.length ≤ cap ∧ cap ≤ 9223372036854775807 := TmsR.form ⟨fp, h⟩
theorem TmsR.addr {w : World} {ts : List Tm} {a : Option Addr} {n cap : Nat} (h : TmsR w ts (.slice a n cap)) (hne : 0 < ts.length) : ∃ b off, a = some ⟨b, off, none⟩ ∧ b < w.heap.size := by
  obtain ⟨fp, h⟩ := h
  obtain ⟨b, off, f, h1, h2, _⟩ := h.addr (by simpa using hne)
  exact ⟨b, off, h1, h2⟩
theorem TmsR.at {w : World} {ts : List Tm} {b off n cap : Nat} (h : TmsR w ts (.slice (some ⟨b, off, none⟩) n cap)) {k : Nat} (hk : k < ts.length) :
    ∃ ka kc, w.cell? ⟨b, off + k * 2, none⟩ = some (.string ts[k].name) ∧ w.cell? ⟨b, off + k * 2 + 1, none⟩ = some (.slice ka ts[k].kids.length kc) ∧ ts[k].name.size ≤ maxLen ∧ TmsR w ts[k].kids (.slice ka ts[k].kids.length kc) := by
  obtain ⟨fp, h⟩ := h
  obtain ⟨vs, f, h1, h2, h3⟩ := h.row (k := 2) (by simp only [List.mem_map]; rintro e ⟨t, _, rfl⟩; exact t.cd_len) k (by simpa using hk)
  rw [List.getElem_map, Tm.cd_eq] at h2
  simp only [RdVs] at h2
  obtain ⟨v0, vs', f1, f2, rfl, rfl, hv0, v1, vs'', f3, f4, rfl, rfl, hv1, rfl, rfl⟩ := h2
  simp only [Rd] at hv0
  obtain ⟨rfl, hs, rfl⟩ := hv0
  obtain ⟨a, cap', h4, _⟩ := hv1.sl_form
  rw [zfO] at h4
  subst h4
  exact ⟨a, cap', h1 0 _ rfl, h1 1 _ rfl, hs, _, hv1⟩
theorem TmsR.below {w w' : World} {ts : List Tm} {v : Value} (h : TmsR w ts v) (hb : Below w.heap.size w w') : TmsR w' ts v := by
  obtain ⟨fp, h⟩ := h; exact ⟨fp, h.below hb⟩
theorem TmR.below {w w' : World} {t : Tm} {v : Value} (h : TmR w t v) (hb : Below w.heap.size w w') : TmR w' t v := by
  obtain ⟨kv, h1, h2, h3⟩ := h; exact ⟨kv, h1, h2, h3.below hb⟩
theorem TmR.mk {w : World} {t : Tm} {kv : Value} (h : t.name.size ≤ maxLen) (hk : TmsR w t.kids kv) : TmR w t (.agg #[.string t.name, kv]) := ⟨kv, rfl, h, hk⟩
theorem Tm.rdvs {w : World} {t : Tm} {kv : Value} {f : List Nat} (hs : t.name.size ≤ maxLen) (h : Rd w (.sl (t.kids.map Tm.cd)) kv f) : RdVs w t.cd [.string t.name, kv] f := by
  rw [Tm.cd_eq]; simp only [RdVs, Rd.eq_3]
  exact ⟨_, _, [], f, rfl, rfl, ⟨rfl, hs, rfl⟩, _, _, f, [], rfl, by simp, h, rfl, rfl⟩
theorem TmR.drew {w : World} {t : Tm} {v : Value} (h : TmR w t v) : TmR w.drew t v := h.below (zz w)
/-- The reading passes no cell of the row 'av'. -/
def TmsRa (av : Option Nat) (w : World) (ts : List Tm) (v : Value) : Prop := ∃ fp, Rd w (.sl (ts.map Tm.cd)) v fp ∧ ∀ b ∈ fp, av ≠ some b
theorem TmsRa.toR {av : Option Nat} {w : World} {ts : List Tm} {v : Value} (h : TmsRa av w ts v) : TmsR w ts v := by obtain ⟨fp, h, _⟩ := h; exact ⟨fp, h⟩
theorem TmsRa.below {av : Option Nat} {w w' : World} {ts : List Tm} {v : Value} (h : TmsRa av w ts v) (hb : Below w.heap.size w w') : TmsRa av w' ts v := by obtain ⟨fp, h, hn⟩ := h; exact ⟨fp, h.below hb, hn⟩
theorem TmsRa.moved {w w' : World} {ts : List Tm} {v x x' : Value} (h : TmsRa x.ownBlock w ts v) (hm : Moved w x w' x') : TmsRa x'.ownBlock w' ts v := by
  obtain ⟨fp, h, hn⟩ := h; exact ⟨fp, h.same _ (hm.same (h.lt _) hn), hm.away (h.lt _) hn⟩
theorem TmsRa.addr {av : Option Nat} {w : World} {ts : List Tm} {a : Option Addr} {n cap : Nat} (h : TmsRa av w ts (.slice a n cap)) (hne : 0 < ts.length) : ∃ b off, a = some ⟨b, off, none⟩ ∧ b < w.heap.size ∧ av ≠ some b := by
  obtain ⟨fp, h, hn⟩ := h
  obtain ⟨b, off, f, h1, h2, rfl, _⟩ := h.addr (by simpa using hne)
  exact ⟨b, off, h1, h2, hn b (by simp)⟩
theorem TmsRa.at {av : Option Nat} {w : World} {ts : List Tm} {b off n cap : Nat} (h : TmsRa av w ts (.slice (some ⟨b, off, none⟩) n cap)) {k : Nat} (hk : k < ts.length) :
    ∃ ka kc, w.cell? ⟨b, off + k * 2, none⟩ = some (.string ts[k].name) ∧ w.cell? ⟨b, off + k * 2 + 1, none⟩ = some (.slice ka ts[k].kids.length kc) ∧ ts[k].name.size ≤ maxLen ∧ TmsRa av w ts[k].kids (.slice ka ts[k].kids.length kc) := by
  obtain ⟨fp, h, hn⟩ := h
  obtain ⟨vs, f, h1, h2, h3⟩ := h.row (k := 2) (by simp only [List.mem_map]; rintro e ⟨t, _, rfl⟩; exact t.cd_len) k (by simpa using hk)
  rw [List.getElem_map, Tm.cd_eq] at h2
  simp only [RdVs] at h2
  obtain ⟨v0, vs', f1, f2, rfl, rfl, hv0, v1, vs'', f3, f4, rfl, rfl, hv1, rfl, rfl⟩ := h2
  simp only [Rd] at hv0
  obtain ⟨rfl, hs, rfl⟩ := hv0
  obtain ⟨a, cap', h4, _⟩ := hv1.sl_form
  rw [zfO] at h4
  subst h4
  exact ⟨a, cap', h1 0 _ rfl, h1 1 _ rfl, hs, _, hv1, fun x hx => hn x (h3 x (by simpa using hx))⟩
def TmRa (av : Option Nat) (w : World) (t : Tm) (v : Value) : Prop := ∃ kv, v = .agg #[.string t.name, kv] ∧ t.name.size ≤ maxLen ∧ TmsRa av w t.kids kv
theorem TmRa.mk {av : Option Nat} {w : World} {t : Tm} {kv : Value} (h : t.name.size ≤ maxLen) (hk : TmsRa av w t.kids kv) : TmRa av w t (.agg #[.string t.name, kv]) := ⟨kv, rfl, h, hk⟩
theorem zaa (n lo hi : Int) (w : World) : Calls Tryz.prog 75 #[.int .i64 n, .int .i64 lo, .int .i64 hi] w fun e w' => e = .returned (.bool (decide (lo ≤ n) && decide (n ≤ hi))) ∧ w = w' := by
  go_enter Tryz.func75, Tryz.ntmps75
  go_wp2
  all_goals (go_ret; exact ⟨by simp; try omega, rfl⟩)
theorem zc8 {s : ByteArray} {k : Nat} (h : k < s.size) : (s.data.toList.take (k + 1)).all zbF = ((s.data.toList.take k).all zbF && zbF s[k]) := by
  have : s.data.toList.take (k + 1) = s.data.toList.take k ++ [s[k]] := by
    rw [zfI (by simpa using h)]; rfl
  rw [this]; simp
theorem zeh {s : ByteArray} {k : Nat} (h : k < s.size) (h2 : zbF s[k] = false) : s.data.toList.all zbF = false := by
  rw [List.all_eq_false]
  exact ⟨s[k], by simp [ByteArray.getElem_eq_getElem_data], by simpa using h2⟩
theorem zct {s : ByteArray} {k : Nat} (h : k < s.size) (h2 : (s[k].toNat : Int) < 97 ∨ 122 < (s[k].toNat : Int)) : zax s = false := by
  have : zbF s[k] = false := by simp only [zbF, Bool.and_eq_false_iff, decide_eq_false_iff_not]; omega
  simp [zax, zeh h this]
theorem zbZ (s : ByteArray) (w : World) (hs : s.size ≤ maxLen) : Calls Tryz.prog 125 #[.string s] w fun e w' => e = .returned (.bool (zax s)) ∧ w = w' := by
  unfold maxLen at hs
  by_cases h1 : 1 ≤ s.size ∧ s.size ≤ 2
  · have t1 : decide (1 ≤ (s.size : Int)) = true := by simp; omega
    have t2 : decide ((s.size : Int) ≤ 2) = true := by simp; omega
    go_enter Tryz.func125, Tryz.ntmps125
    go_wp2_with (go_at_call 75; refine (zaa _ _ _ _).mono ?_; rintro e w' ⟨rfl, rfl⟩)
    go_loop [3, 10] (fun _ i => ∃ k : Nat, k ≤ s.size ∧ i = .int .i64 k ∧ Hid ((s.data.toList.take k).all zbF = true)) (fun _ i => s.size - (intOf i).toNat)
    case atStart => exact ⟨0, Nat.zero_le _, rfl, by simp [Hid]⟩
    case round =>
      obtain ⟨k, hk, rfl, hall⟩ := hrel
      by_cases hlt : k < s.size
      · go_wp2
        all_goals first
          | (go_ret; exact ⟨retB (zct hlt (by omega)).symm, rfl⟩)
          | (go_round
             case rel => exact ⟨k + 1, by omega, by go_num, (by rw [zc8 hlt, hall.out]; simp [zbF]; omega : (s.data.toList.take (k + 1)).all zbF = true)⟩
             case measure => simp [intOf]; omega)
      · go_wp2
        go_ret
        have he : k = s.size := by omega
        have h3 := hall.out
        rw [he, List.take_of_length_le (by simp)] at h3
        refine ⟨?_, rfl⟩
        simp only [zax, t1, t2, h3]; rfl
  · have t1 : (decide (1 ≤ (s.size : Int)) && decide ((s.size : Int) ≤ 2)) = false := by simp; omega
    go_enter Tryz.func125, Tryz.ntmps125
    go_wp2_with (go_at_call 75; refine (zaa _ _ _ _).mono ?_; rintro e w' ⟨rfl, rfl⟩)
    go_ret
    exact ⟨by simp only [zax, t1]; rfl, rfl⟩
theorem zdO (n : Nat) : ∀ (t : Tm) (v : Value) (deep : Int) (w : World), t.size ≤ n → 1 ≤ deep → deep ≤ 5 → TmR w t v →
    Calls Tryz.prog 144 #[v, .int .i64 deep] w fun e w' => e = .returned (.int .i64 (t.tsz deep)) ∧ Below w.heap.size w w' := by
  induction n with
  | zero => intro t; have := t.size_pos; omega
  | succ n ih =>
    rintro t v deep w hn hd0 hd ⟨kv, rfl, hs, hk⟩
    obtain ⟨a, cap, rfl, hc1, hc2⟩ := hk.form
    by_cases hc : zax t.name = true ∧ t.kids.length ≤ 2 ∧ deep ≤ 4
    · have hfin := Lib.hid (Tm.tsz_eq t deep)
      rw [if_pos hc] at hfin
      obtain ⟨hn1, hn2, hn3⟩ := hc
      go_enter Tryz.func144, Tryz.ntmps144
      go_wp2_with (go_at_call 125; refine (zbZ _ _ hs).mono ?_; rintro e w' ⟨rfl, rfl⟩)
      go_loopw [5, 25] (fun nn i wr => ∃ k : Nat, k ≤ t.kids.length ∧ i = .int .i64 k ∧ nn = .int .i64 (1 + Tm.tszs (t.kids.take k) (deep + 1)) ∧ Below w.heap.size w wr) (fun _ i _ => t.kids.length - (intOf i).toNat)
      case atStart => exact ⟨0, Nat.zero_le _, rfl, rfl, (Below.refl _ _).alloc (Nat.le_refl _) _⟩
      case round =>
        obtain ⟨k, hkl, rfl, rfl, hb⟩ := hrel
        have bd1 := Tm.tszs_bd (t.kids.take k) (deep + 1) (by omega)
        have hl : (t.kids.take k).length ≤ k := List.length_take_le _ _
        by_cases hlt : k < t.kids.length
        · obtain ⟨b, off, rfl, hbs⟩ := hk.addr (by omega)
          obtain ⟨ka, kc, c0, c1, hss, hkk⟩ := (hk.below hb).at hlt
          have bd2 := Tm.tsz_bd' t.kids[k] (deep + 1) (by omega)
          have hz := hb.size
          have hkn := Tm.size_kid hlt
          go_wp2_with (go_at_call 144; refine (ih t.kids[k] _ _ _ (by omega) (by omega) (by omega) ((TmR.mk hss hkk).below ((Below.refl _ _).alloc (Nat.le_refl _) _))).mono ?_; rintro e w' ⟨rfl, hb2⟩)
          go_roundw
          case rel => exact ⟨k + 1, by omega, by go_num, by rw [Tm.tszs_succ _ _ _ hlt]; go_num, (hb.alloc hz _).trans (hb2.mono (by simp; omega))⟩
          case measure => simp [intOf]; omega
        · have he : t.kids.take k = t.kids := List.take_of_length_le (by omega)
          rw [he] at bd1
          go_wp2
          go_ret
          exact ⟨retI (by rw [hfin.out, he]), hb⟩
    · have hfin := Lib.hid (Tm.tsz_eq t deep)
      rw [if_neg hc] at hfin
      have HC := Lib.hid hc
      clear hc
      go_enter Tryz.func144, Tryz.ntmps144
      go_wp2_with (go_at_call 125; refine (zbZ _ _ hs).mono ?_; rintro e w' ⟨rfl, rfl⟩)
      all_goals first
        | (go_ret; exact ⟨retI hfin.out.symm, (Below.refl _ _).alloc (Nat.le_refl _) _⟩)
        | exact absurd ⟨‹zax t.name = true›, by omega, by omega⟩ HC.out
theorem zae (t : Tm) (v : Value) (w : World) (h : TmR w t v) : Calls Tryz.prog 129 #[v] w fun e w' => e = .returned (.bool t.wf) ∧ Below w.heap.size w w' := by
  obtain ⟨kv, rfl, hs, hk⟩ := h
  obtain ⟨a, cap, rfl, hc1, hc2⟩ := hk.form
  go_enter Tryz.func129, Tryz.ntmps129
  go_wp2_with (go_at_call 144; refine (zdO t.size t _ _ _ (Nat.le_refl _) (by omega) (by omega) ((TmR.mk hs hk).below ((Below.refl _ _).alloc (Nat.le_refl _) _))).mono ?_; rintro e w' ⟨rfl, hb2⟩)
  go_ret
  exact ⟨retB (Tm.wf_impl t), ((Below.refl _ _).alloc (Nat.le_refl _) _).trans (hb2.mono (by simp))⟩
theorem zar (s : ByteArray) (w : World) (hs : s.size ≤ maxLen) : Calls Tryz.prog 99 #[.string s] w fun e w' => e = .returned (.bool (zax s)) ∧ w = w' := by
  unfold maxLen at hs
  go_enter Tryz.func99, Tryz.ntmps99
  go_wp2
  go_loop [3] (fun i => ∃ k : Nat, k ≤ s.size ∧ i = .int .i64 k ∧ Hid ((s.data.toList.take k).all zbF = true)) (fun i => s.size - (intOf i).toNat)
  case atStart => exact ⟨0, Nat.zero_le _, rfl, by simp [Hid]⟩
  case round =>
    obtain ⟨k, hk, rfl, hall⟩ := hrel
    by_cases hlt : k < s.size
    · go_wp2
      all_goals first
        | (go_ret; exact ⟨retB (zct hlt (by omega)).symm, rfl⟩)
        | (go_round
           case rel => exact ⟨k + 1, by omega, by go_num, (by rw [zc8 hlt, hall.out]; simp [zbF]; omega : (s.data.toList.take (k + 1)).all zbF = true)⟩
           case measure => simp [intOf]; omega)
    · have he : k = s.size := by omega
      have h3 := hall.out
      rw [he, List.take_of_length_le (by simp)] at h3
      have H3 := Lib.hid h3
      clear h3 hall he
      go_wp2
      all_goals (go_ret; refine ⟨retB ?_, rfl⟩; simp only [zax, H3.out]; simp; try omega)
theorem zei (n : Nat) : ∀ (t : Tm) (v : Value) (deep : Int) (w : World), t.size ≤ n → 0 ≤ deep → deep ≤ 1000 → TmR w t v →
    Calls Tryz.prog 150 #[v, .int .i64 deep] w fun e w' => e = .returned (.bool (t.shape deep)) ∧ Below w.heap.size w w' := by
  induction n with
  | zero => intro t; have := t.size_pos; omega
  | succ n ih =>
    rintro t v deep w hn hd0 hd ⟨kv, rfl, hs, hk⟩
    obtain ⟨a, cap, rfl, hc1, hc2⟩ := hk.form
    by_cases hc : 1 ≤ deep ∧ zax t.name = true ∧ t.kids.length ≤ 2
    · have hfin : t.shape deep = Tm.shapes t.kids (deep - 1) := by rw [Tm.shape_eq]; simp [hc.1, hc.2.1, hc.2.2]
      have HF := Lib.hid hfin
      clear hfin
      obtain ⟨hn1, hn2, hn3⟩ := hc
      go_enter Tryz.func150, Tryz.ntmps150
      go_wp2_with (go_at_call 99; refine (zar _ _ hs).mono ?_; rintro e w' ⟨rfl, rfl⟩)
      go_loopw [5] (fun i wr => ∃ k : Nat, k ≤ t.kids.length ∧ i = .int .i64 k ∧ Hid (Tm.shapes (t.kids.take k) (deep - 1) = true) ∧ Below (w.heap.size + 1) (w.alloc (.cells #[.string t.name, .slice a t.kids.length cap] 28)) wr) (fun i _ => t.kids.length - (intOf i).toNat)
      case atStart => exact ⟨0, Nat.zero_le _, rfl, rfl, Below.refl _ _⟩
      case round =>
        obtain ⟨k, hkl, rfl, hall, hb⟩ := hrel
        obtain ⟨hx, hz, hbb⟩ := box1 hb
        have x1 : wr.cell? ⟨w.heap.size, 1, none⟩ = some (.slice a t.kids.length cap) := hx 1
        clear hx
        by_cases hlt : k < t.kids.length
        · obtain ⟨b, off, rfl, hbs⟩ := hk.addr (by omega)
          obtain ⟨ka, kc, c0, c1, hss, hkk⟩ := (hk.below hbb).at hlt
          have hkn := Tm.size_kid hlt
          have hsplit := Tm.shapes_take t.kids (deep - 1) k hlt
          have HS := Lib.hid hsplit
          clear hsplit
          go_wp2_with (go_at_call 150; refine (ih t.kids[k] _ _ _ (by omega) (by omega) (by omega) (TmR.mk hss hkk)).mono ?_; rintro e w' ⟨rfl, hb2⟩)
          · go_ret
            have h := HS.out.2 (by simp_all)
            exact ⟨retB (by rw [HF.out, h]), hbb.trans (hb2.mono (by omega))⟩
          · go_roundw
            case rel => exact ⟨k + 1, by omega, by go_num, (by rw [HS.out.1, hall.out]; simp_all : Tm.shapes (t.kids.take (k + 1)) (deep - 1) = true), hb.trans (hb2.mono (by omega))⟩
            case measure => simp [intOf]; omega
        · have he : t.kids.take k = t.kids := List.take_of_length_le (by omega)
          rw [he] at hall
          go_wp2
          go_ret
          exact ⟨retB (by rw [HF.out, hall.out]), hbb⟩
    · have hfin : t.shape deep = false := by
        rw [Tm.shape_eq]
        by_cases h1 : 1 ≤ deep
        · by_cases h2 : zax t.name = true
          · have : ¬ t.kids.length ≤ 2 := fun h => hc ⟨h1, h2, h⟩
            simp [this]
          · simp [h2]
        · simp [h1]
      have HF := Lib.hid hfin
      have HC := Lib.hid hc
      clear hc hfin
      go_enter Tryz.func150, Tryz.ntmps150
      go_wp2_with (go_at_call 99; refine (zar _ _ hs).mono ?_; rintro e w' ⟨rfl, rfl⟩)
      all_goals first
        | (go_ret; exact ⟨retB HF.out.symm, (Below.refl _ _).alloc (Nat.le_refl _) _⟩)
        | exact absurd ⟨by omega, ‹zax t.name = true›, by omega⟩ HC.out
theorem ze2 (n : Nat) : ∀ (t : Tm) (v : Value) (deep : Int) (w : World), t.size ≤ n → 0 ≤ deep → deep ≤ 1000 → t.size ≤ 1000000000 → TmR w t v →
    Calls Tryz.prog 151 #[v, .int .i64 deep] w fun e w' => e = .returned (.int .i64 (t.many deep)) ∧ Below w.heap.size w w' := by
  induction n with
  | zero => intro t; have := t.size_pos; omega
  | succ n ih =>
    rintro t v deep w hn hd0 hd hbig ⟨kv, rfl, hs, hk⟩
    obtain ⟨a, cap, rfl, hc1, hc2⟩ := hk.form
    have HF := Lib.hid (Tm.many_eq t deep)
    go_enter Tryz.func151, Tryz.ntmps151
    go_wp2
    go_loopw [5, 6] (fun nn i wr => ∃ k : Nat, k ≤ t.kids.length ∧ (0 < k → 0 < deep) ∧ i = .int .i64 k ∧ nn = .int .i64 (1 + Tm.manys (t.kids.take k) (deep - 1)) ∧ Below (w.heap.size + 1) (w.alloc (.cells #[.string t.name, .slice a t.kids.length cap] 28)) wr) (fun _ i _ => t.kids.length - (intOf i).toNat)
    case atStart => exact ⟨0, Nat.zero_le _, by omega, rfl, by simp [Tm.manys], Below.refl _ _⟩
    case round =>
      obtain ⟨k, hkl, hkd, rfl, rfl, hb⟩ := hrel
      obtain ⟨hx, hz, hbb⟩ := box1 hb
      have x1 : wr.cell? ⟨w.heap.size, 1, none⟩ = some (.slice a t.kids.length cap) := hx 1
      clear hx
      have bd1 := Tm.manys_bd (t.kids.take k) (deep - 1)
      have bd3 := Tm.sizes_take t.kids k
      have bd4 : Tm.sizes t.kids ≤ t.size := by rw [Tm.size_eq t]; omega
      by_cases hlt : k < t.kids.length ∧ 0 < deep
      · obtain ⟨hlt, hdp⟩ := hlt
        obtain ⟨b, off, rfl, hbs⟩ := hk.addr (by omega)
        obtain ⟨ka, kc, c0, c1, hss, hkk⟩ := (hk.below hbb).at hlt
        have hkn := Tm.size_kid hlt
        have bd2 := Tm.many_bd t.kids[k] (deep - 1)
        go_wp2_with (go_at_call 151; refine (ih t.kids[k] _ _ _ (by omega) (by omega) (by omega) (by omega) (TmR.mk hss hkk)).mono ?_; rintro e w' ⟨rfl, hb2⟩)
        go_roundw
        case rel => exact ⟨k + 1, by omega, by omega, by go_num, by rw [Tm.manys_succ _ _ _ hlt]; go_num, hb.trans (hb2.mono (by omega))⟩
        case measure => simp [intOf]; omega
      · have hdec : (decide ((k : Int) < t.kids.length) && decide (0 < deep)) = false := by simp; omega
        have hfin : t.many deep = 1 + Tm.manys (t.kids.take k) (deep - 1) := by
          rw [HF.out]
          by_cases hd1 : 0 < deep
          · rw [if_pos hd1, List.take_of_length_le (by omega)]
          · have : k = 0 := by omega
            rw [if_neg hd1, this]; simp [Tm.manys]
        have HG := Lib.hid hfin
        clear hfin
        by_cases hlt1 : k < t.kids.length
        · have hd2 : decide (0 < deep) = false := by simp; omega
          go_wp2
          all_goals (go_ret; exact ⟨retI HG.out.symm, hbb⟩)
        · go_wp2
          all_goals (go_ret; exact ⟨retI HG.out.symm, hbb⟩)
theorem zV (t : Tm) (v : Value) (w : World) (hbig : t.size ≤ 1000000000) (h : TmR w t v) : Calls Tryz.prog 138 #[v] w fun e w' => e = .returned (.bool t.wf) ∧ Below w.heap.size w w' := by
  obtain ⟨kv, rfl, hs, hk⟩ := h
  obtain ⟨a, cap, rfl, hc1, hc2⟩ := hk.form
  have HF := Lib.hid (Tm.wf_spec t)
  have hb0 : Below w.heap.size w (w.alloc (.cells #[.string t.name, .slice a t.kids.length cap] 28)) := (Below.refl _ _).alloc (Nat.le_refl _) _
  have hk0 := hk.below hb0
  by_cases hsh : t.shape 4 = true
  all_goals
    go_enter Tryz.func138, Tryz.ntmps138
    go_wp2_with fail
    refine (zei t.size t _ _ _ (Nat.le_refl _) (by omega) (by omega) (TmR.mk hs hk0)).mono ?_
    rintro e w1 ⟨rfl, hb⟩
    have hb' := hb
    rw [World.size_alloc] at hb'
    obtain ⟨hx, hz, hbb⟩ := box1 hb'
    have x0 : w1.cell? ⟨w.heap.size, 0, none⟩ = some (.string t.name) := hx 0
    have x1 : w1.cell? ⟨w.heap.size, 1, none⟩ = some (.slice a t.kids.length cap) := hx 1
    clear hx
    go_wp2_with (go_at_call 151; refine (ze2 t.size t _ _ _ (Nat.le_refl _) (by omega) (by omega) hbig (TmR.mk hs (hk.below hbb))).mono ?_; rintro e w2 ⟨rfl, hb2⟩)
    go_ret
  · exact ⟨retB (by rw [← HF.out]; simp [hsh]), hbb.trans (hb2.mono (by omega))⟩
  · exact ⟨retB (by rw [← HF.out]; simp [hsh]), hbb⟩
def zD (n : Int) : List CD := [.int n]
structure Sy where
 name : ByteArray
 args : List Int
 sort : Int
def Sy.cd (x : Sy) : List CD := [.str x.name] ++ ([.sl (x.args.map zD)] ++ [.int x.sort])
structure Sg where
 syms : List Sy
def Sg.cd (x : Sg) : List CD := [.sl (x.syms.map Sy.cd)]
structure Eqn where
 a : Tm
 b : Tm
def Eqn.cd (x : Eqn) : List CD := x.a.cd ++ x.b.cd
structure Atm where
 kind : Int
 a : Tm
 b : Tm
 nums : List Tm
 times : List Int
 bound : Int
 strict : Bool
def Atm.cd (x : Atm) : List CD := [.int x.kind] ++ (x.a.cd ++ (x.b.cd ++ ([.sl (x.nums.map Tm.cd)] ++ ([.sl (x.times.map zD)] ++ ([.int x.bound] ++ [.bool x.strict])))))
structure Lt where
 atom : Atm
 no : Bool
def Lt.cd (x : Lt) : List CD := x.atom.cd ++ [.bool x.no]
inductive Fm where
 | mk (kind : Int) (lit : Lt) (kids : List Fm)
def Fm.kind : Fm → Int | .mk kind _ _ => kind
def Fm.lit : Fm → Lt | .mk _ lit _ => lit
def Fm.kids : Fm → List Fm | .mk _ _ kids => kids
def Fm.cd : Fm → List CD
 | .mk kind lit kids => [.int kind] ++ (lit.cd ++ [.sl (kids.map Fm.cd)])
theorem Fm.cd_eq (x : Fm) : x.cd = [.int x.kind] ++ (x.lit.cd ++ [.sl (x.kids.map Fm.cd)]) := by cases x; simp [Fm.cd, Fm.kind, Fm.lit, Fm.kids]
def zH (fs : List Fm) : List CD := [.sl (fs.map Fm.cd)]
structure Stk where
 sig : Sg
 levels : List (List Fm)
def Stk.cd (x : Stk) : List CD := x.sig.cd ++ [.sl (x.levels.map zH)]
end Go.Proofs.YtbfinjiledfpcaaGreat
end
