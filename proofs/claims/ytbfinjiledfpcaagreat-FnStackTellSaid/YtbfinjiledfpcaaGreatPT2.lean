/- Parts of the proof: Term TermW Types TermW2. -/
import Derived.Test.YtbfinjiledfpcaaGreatPT1
import Derived.WalkSpells
import Derived.WalkLawsBesides
import Derived.Handy
import Derived.Deep.RegionWith
import Derived.BigQuiet
import Derived.Deep.QuietTactic
import Derived.Test.YtbfinjiledfpcaaGreatProg
import Derived.Lib.QuietBelow
section
namespace Go.Proofs.YtbfinjiledfpcaaGreat
open Go Go.RowKit
set_option linter.unusedVariables false
set_option linter.unusedSimpArgs false
set_option maxRecDepth 100000
set_option maxHeartbeats 16000000
inductive Tm where
 | mk (name : ByteArray) (kids : List Tm)
namespace Tm
def name : Tm → ByteArray | .mk n _ => n
def K : Tm → List Tm | .mk _ k => k
def cd : Tm → List CD
 | .mk n ks => [.str n, .sl (ks.map cd)]
mutual
def size : Tm → Nat | .mk _ ks => 1 + sizes ks
def sizes : List Tm → Nat | [] => 0 | t :: ts => size t + sizes ts
end
theorem size_eq (t : Tm) : t.size = 1 + sizes t.K := by cases t; simp [size, K]
theorem cd_eq (t : Tm) : t.cd = [.str t.name, .sl (t.K.map cd)] := by cases t; simp [cd, name, K]
theorem size_pos (t : Tm) : 0 < t.size := by rw [size_eq]; omega
theorem size_mem : ∀ {ts : List Tm} {t : Tm}, t ∈ ts → t.size ≤ sizes ts
 | [], t, h => by simp at h
 | u :: us, t, h => by
  simp only [sizes]
  rcases zgk.1 h with rfl | h
  ·omega
  ·have := size_mem h; omega
theorem size_kid {t : Tm} {i : Nat} (h : i < t.K.length) : t.K[i].size < t.size := by
 have := size_mem (zgh h); rw [size_eq t]; omega
theorem size_kid_mem {t u : Tm} (h : u ∈ t.K) : u.size < t.size := by have := size_mem h; rw [size_eq t]; omega
theorem sizes_len : ∀ (ts : List Tm), ts.length ≤ sizes ts
 | [] => by simp
 | t :: ts => by have := sizes_len ts; have := size_pos t; simp only [sizes, zgw]; omega
theorem sizes_append : ∀ (a b : List Tm), sizes (a ++ b) = sizes a + sizes b
 | [], b => by simp [sizes]
 | t :: ts, b => by simp only [List.cons_append, sizes, sizes_append ts b]; omega
theorem sizes_take (ts : List Tm) (k : Nat) : sizes (ts.take k) ≤ sizes ts := by
 have := sizes_append (ts.take k) (ts.drop k); rw [List.take_append_drop] at this; omega
theorem cd_len (t : Tm) : t.cd.length = 2 := by cases t; simp [cd]
mutual
def beq : Tm → Tm → Bool
 | .mk n ks, .mk m js => decide (n = m) && beqs ks js
def beqs : List Tm → List Tm → Bool
 | [], [] => true
 | t :: ts, u :: us => beq t u && beqs ts us
 | _, _ => false
end
mutual
theorem beq_iff : ∀ (a b : Tm), beq a b = true ↔ a = b
 | .mk n ks, .mk m js => by simp [beq, beqs_iff ks js]
theorem beqs_iff : ∀ (a b : List Tm), beqs a b = true ↔ a = b
 | [], [] => by simp [beqs]
 | [], _ :: _ => by simp [beqs]
 | _ :: _, [] => by simp [beqs]
 | t :: ts, u :: us => by simp [beqs, beq_iff t u, beqs_iff ts us]
end
instance : DecidableEq Tm := fun a b => if h : beq a b = true then .isTrue ((beq_iff a b).1 h) else .isFalse fun e => h ((beq_iff a b).2 e)
end Tm
def zbF (c : UInt8) : Bool := decide (97 ≤ (c.toNat : Int)) && decide ((c.toNat : Int) ≤ 122)
/-- A name: one or two small letters. -/
def zat (s : ByteArray) : Bool := (decide (1 ≤ (s.size : Int)) && decide ((s.size : Int) ≤ 2)) && s.data.toList.all zbF
namespace Tm
mutual
/-- impl.termSize -/
def tsz : Tm → Int → Int
 | .mk n ks, d => if zat n = true ∧ ks.length ≤ 2 ∧ d ≤ 4 then 1 + tszs ks (d + 1) else 13
def tszs : List Tm → Int → Int
 | [], _ => 0
 | t :: ts, d => tsz t d + tszs ts d
end
theorem tsz_eq (t : Tm) (d : Int) : tsz t d = if zat t.name = true ∧ t.K.length ≤ 2 ∧ d ≤ 4 then 1 + tszs t.K (d + 1) else 13 := by cases t; simp only [tsz]; rfl
theorem zcp : ∀ (a b : List Tm) (d : Int), tszs (a ++ b) d = tszs a d + tszs b d
 | [], b, d => by simp [tszs]
 | t :: ts, b, d => by simp only [List.cons_append, tszs, zcp ts b]; omega
theorem tszs_succ (ts : List Tm) (d : Int) (k : Nat) (h : k < ts.length) : tszs (ts.take (k + 1)) d = tszs (ts.take k) d + tsz ts[k] d := by
 rw [zgf h, zcp]; simp [tszs]
/-- Its bounds. -/
def cap5 : Nat → Nat | 0 => 13 | n + 1 => 13 + 2 * cap5 n
theorem tsz_bd : ∀ (n : Nat) (t : Tm) (d : Int), 5 - n ≤ d → 1 ≤ tsz t d ∧ tsz t d ≤ cap5 n
 | 0, t, d, h => by rw [tsz_eq, if_neg (by omega)]; simp [cap5]
 | n + 1, t, d, h => by
  rw [tsz_eq]
  split
  ·rename_i hc
   have h2 := hc.2.1
   have hk : ∀ ts : List Tm, 0 ≤ tszs ts (d + 1) ∧ tszs ts (d + 1) ≤ cap5 n * ts.length := by
    intro ts
    induction ts with
    | nil => simp [tszs]
    | cons u us ih =>
     have := tsz_bd n u (d + 1) (by omega); simp only [tszs, zgw, Int.natCast_add, Int.natCast_one, Int.mul_add, Int.mul_one]; omega
   have h3 := hk t.K; have h4 : cap5 n * t.K.length ≤ cap5 n * 2 := Nat.mul_le_mul_left _ h2; simp only [cap5]; refine ⟨by omega, ?_⟩
   have : (cap5 n : Int) * (t.K.length : Int) ≤ (cap5 n : Int) * 2 := by exact_mod_cast h4
   omega
  ·simp [cap5]; omega
theorem tsz_bd' (t : Tm) (d : Int) (h : 1 ≤ d) : 1 ≤ tsz t d ∧ tsz t d ≤ 403 := tsz_bd 4 t d (by omega)
theorem tszs_bd (ts : List Tm) (d : Int) (h : 1 ≤ d) : 0 ≤ tszs ts d ∧ tszs ts d ≤ 403 * ts.length := by
 induction ts with
 | nil => simp [tszs]
 | cons u us ih => have := tsz_bd' u d h; simp only [tszs, zgw]; omega
mutual
/-- spec.l4Shape -/
def shape : Tm → Int → Bool
 | .mk n ks, d => decide (1 ≤ d) && zat n && decide (ks.length ≤ 2) && shapes ks (d - 1)
def shapes : List Tm → Int → Bool
 | [], _ => true
 | t :: ts, d => shape t d && shapes ts d
end
theorem shape_eq (t : Tm) (d : Int) : shape t d = (decide (1 ≤ d) && zat t.name && decide (t.K.length ≤ 2) && shapes t.K (d - 1)) := by cases t; simp only [shape]; rfl
theorem shapes_all : ∀ (ts : List Tm) (d : Int), shapes ts d = ts.all (shape · d)
 | [], d => by simp [shapes]
 | t :: ts, d => by simp [shapes, shapes_all ts d]
theorem shapes_take (ts : List Tm) (d : Int) (k : Nat) (h : k < ts.length) : shapes (ts.take (k + 1)) d = (shapes (ts.take k) d && shape ts[k] d) ∧ (shape ts[k] d = false → shapes ts d = false) := by
 constructor
 ·rw [shapes_all, shapes_all, zgf h, List.all_append]
  simp only [List.all_cons, List.all_nil, Bool.and_true]
 ·intro hf
  rw [shapes_all, List.all_eq_false]; exact ⟨ts[k], zgh h, by simp [hf]⟩
mutual
/-- spec.l4Many -/
def many : Tm → Int → Int
 | .mk _ ks, d => if 0 < d then 1 + manys ks (d - 1) else 1
def manys : List Tm → Int → Int
 | [], _ => 0
 | t :: ts, d => many t d + manys ts d
end
theorem many_eq (t : Tm) (d : Int) : many t d = if 0 < d then 1 + manys t.K (d - 1) else 1 := by cases t; simp [many, K]
theorem manys_append : ∀ (a b : List Tm) (d : Int), manys (a ++ b) d = manys a d + manys b d
 | [], b, d => by simp [manys]
 | t :: ts, b, d => by simp only [List.cons_append, manys, manys_append ts b]; omega
theorem manys_succ (ts : List Tm) (d : Int) (k : Nat) (h : k < ts.length) : manys (ts.take (k + 1)) d = manys (ts.take k) d + many ts[k] d := by
 rw [zgf h, manys_append]; simp [manys]
mutual
theorem many_bd : ∀ (t : Tm) (d : Int), 1 ≤ many t d ∧ many t d ≤ size t
 | .mk n ks, d => by
  have := manys_bd ks (d - 1); simp only [many, size]
  split <;> omega
theorem manys_bd : ∀ (ts : List Tm) (d : Int), 0 ≤ manys ts d ∧ manys ts d ≤ sizes ts
 | [], d => by simp [manys, sizes]
 | t :: ts, d => by
  have := many_bd t d; have := manys_bd ts d; simp only [manys, sizes]; omega
end
mutual
theorem zdf : ∀ (t : Tm) (d : Int), shape t d = true → many t d = size t
 | .mk n ks, d, h => by
  simp only [shape, zgm, decide_eq_true_eq] at h; have := zb8 ks (d - 1) h.2; simp only [many, size]; rw [if_pos (by omega)]; omega
theorem zb8 : ∀ (ts : List Tm) (d : Int), shapes ts d = true → manys ts d = sizes ts
 | [], d, _ => by simp [manys, sizes]
 | t :: ts, d, h => by
  simp only [shapes, zgm] at h; have := zdf t d h.1; have := zb8 ts d h.2; simp only [manys, sizes]; omega
end
mutual
theorem zdZ : ∀ (t : Tm) (d : Int), if shape t d = true then tsz t (5 - d) = size t else 13 ≤ tsz t (5 - d)
 | .mk n ks, d => by
  have hk := zcq ks (d - 1); simp only [shape, tsz, size, zgm, decide_eq_true_eq]; rw [show (5 : Int) - d + 1 = 5 - (d - 1) from by omega]
  by_cases h1 : zat n = true ∧ ks.length ≤ 2 ∧ 5 - d ≤ 4
  ·rw [if_pos h1]
   by_cases h2 : shapes ks (d - 1) = true
   ·rw [if_pos h2] at hk
    rw [if_pos ⟨⟨⟨by omega, h1.1⟩, h1.2.1⟩, h2⟩]; omega
   ·rw [if_neg h2] at hk
    rw [if_neg (fun h => h2 h.2)]; omega
  ·rw [if_neg h1, if_neg (fun h => h1 ⟨h.1.1.2, h.1.2, by omega⟩)]; omega
theorem zcq : ∀ (ts : List Tm) (d : Int), if shapes ts d = true then tszs ts (5 - d) = sizes ts else 13 ≤ tszs ts (5 - d)
 | [], d => by simp [shapes, tszs, sizes]
 | t :: ts, d => by
  have h1 := zdZ t d; have h2 := zcq ts d
  have h3 : 0 ≤ tsz t (5 - d) := by
   by_cases h : 1 ≤ 5 - d
   ·have := tsz_bd' t _ h; omega
   ·by_cases hs : shape t d = true
    ·rw [if_pos hs] at h1; omega
    ·rw [if_neg hs] at h1; omega
  have h4 : 0 ≤ tszs ts (5 - d) := by
   by_cases hs : shapes ts d = true
   ·rw [if_pos hs] at h2; omega
   ·rw [if_neg hs] at h2; omega
  simp only [shapes, tszs, sizes, zgm]
  by_cases ha : shape t d = true
  ·rw [if_pos ha] at h1
   by_cases hb : shapes ts d = true
   ·rw [if_pos hb] at h2; rw [if_pos ⟨ha, hb⟩]; omega
   ·rw [if_neg hb] at h2; rw [if_neg (fun h => hb h.2)]; omega
  ·rw [if_neg ha] at h1
   rw [if_neg (fun h => ha h.1)]; omega
end
/-- A well-formed term. -/
def wf (t : Tm) : Bool := shape t 4 && decide (t.size ≤ 12)
theorem wf_impl (t : Tm) : decide (tsz t 1 ≤ 12) = wf t := by
 have h := zdZ t 4; unfold wf; rw [Bool.eq_iff_iff]; simp only [decide_eq_true_eq, zgm]; rw [show (5 : Int) - 4 = 1 from rfl] at h
 by_cases hs : shape t 4 = true
 ·rw [if_pos hs] at h; rw [h]; simp [hs]; omega
 ·rw [if_neg hs] at h; simp [hs]; omega
theorem wf_spec (t : Tm) : (shape t 4 && decide (many t 4 ≤ 12)) = wf t := by
 unfold wf
 by_cases hs : shape t 4 = true
 ·rw [zdf t 4 hs]; simp [hs]; omega
 ·simp [hs]
mutual
/-- withParts, l4Parts -/
def addP : List Tm → Tm → List Tm
 | l, .mk n ks => if (.mk n ks) ∈ addPs l ks then addPs l ks else addPs l ks ++ [.mk n ks]
def addPs : List Tm → List Tm → List Tm
 | l, [] => l
 | l, t :: ts => addPs (addP l t) ts
end
theorem addP_eq (l : List Tm) (t : Tm) : addP l t = if t ∈ addPs l t.K then addPs l t.K else addPs l t.K ++ [t] := by cases t; simp only [addP]; rfl
theorem addPs_append : ∀ (l a b : List Tm), addPs l (a ++ b) = addPs (addPs l a) b
 | l, [], b => by simp [addPs]
 | l, t :: ts, b => by simp [addPs, addPs_append]
theorem addPs_succ (l ts : List Tm) (k : Nat) (h : k < ts.length) : addPs l (ts.take (k + 1)) = addP (addPs l (ts.take k)) ts[k] := by
 rw [zgf h, addPs_append]; simp [addPs]
/-- TermParts -/
def parts (ts : List Tm) : List Tm := if ts.all wf then addPs [] ts else []
mutual
theorem addP_len : ∀ (t : Tm) (l : List Tm), (addP l t).length ≤ l.length + size t
 | .mk n ks, l => by
  have := addPs_len ks l; simp only [addP, size]
  split <;> simp <;> omega
theorem addPs_len : ∀ (ts l : List Tm), (addPs l ts).length ≤ l.length + sizes ts
 | [], l => by simp [addPs, sizes]
 | t :: ts, l => by
  have := addPs_len ts (addP l t); have := addP_len t l; simp only [addPs, sizes]; omega
end
theorem beq_self (t : Tm) : beq t t = true := (beq_iff _ _).2 rfl
theorem beq_no {t u : Tm} (h : beq t u = false) : t ≠ u := by rintro rfl; rw [beq_self] at h; simp at h
/-- The place of a term in a list, or -1. -/
def IsPlace (l : List Tm) (t : Tm) (n : Int) : Prop := (n = -1 ∧ t ∉ l) ∨ ∃ k : Nat, k < l.length ∧ n = k ∧ l[k]? = some t
theorem IsPlace.neg {l : List Tm} {t : Tm} {n : Int} (h : IsPlace l t n) : n < 0 ↔ t ∉ l := by
 rcases h with ⟨rfl, h⟩ | ⟨k, hk, rfl, h⟩
 ·simp [h]
 ·have : t ∈ l := by rw [List.getElem?_eq_some_iff] at h; obtain ⟨_, rfl⟩ := h; exact zgh _
  constructor
  ·intro h'; omega
  ·intro h'; exact absurd this h'
theorem IsPlace.bd {l : List Tm} {t : Tm} {n : Int} (h : IsPlace l t n) : -1 ≤ n ∧ n < l.length + 1 := by
 rcases h with ⟨rfl, h⟩ | ⟨k, hk, rfl, h⟩ <;> omega
end Tm
/-- The reading of a list of terms, whatever blocks it passes. -/
def TmsR (w : World) (ts : List Tm) (v : Value) : Prop := ∃ fp, Rd w (.sl (ts.map Tm.cd)) v fp
def TmR (w : World) (t : Tm) (v : Value) : Prop := ∃ kv, v = .agg #[.string t.name, kv] ∧ t.name.size ≤ maxLen ∧ TmsR w t.K kv
theorem TmsR.form {w : World} {ts : List Tm} {v : Value} (h : TmsR w ts v) : ∃ a cap, v = .slice a ts.length cap ∧ ts.length ≤ cap ∧ cap ≤ 9223372036854775807 := by
  obtain ⟨fp, h⟩ := h; obtain ⟨a, cap, h1, h2, h3⟩ := h.sl_form; exact ⟨a, cap, by simpa using h1, by simpa using h2, h3⟩
theorem zaJ {w : World} {ts : List Tm} {v : Value} {fp : List Nat} (h : Rd w (.sl (ts.map Tm.cd)) v fp) : ∃ a cap, v = .slice a ts.length cap ∧ ts.length ≤ cap ∧ cap ≤ 9223372036854775807 := TmsR.form ⟨fp, h⟩
theorem TmsR.addr {w : World} {ts : List Tm} {a : Option Addr} {n cap : Nat} (h : TmsR w ts (.slice a n cap)) (hne : 0 < ts.length) : ∃ b off, a = some ⟨b, off, none⟩ ∧ b < w.heap.size := by
  obtain ⟨fp, h⟩ := h; obtain ⟨b, off, f, h1, h2, _⟩ := h.addr (by simpa using hne); exact ⟨b, off, h1, h2⟩
theorem TmsR.at {w : World} {ts : List Tm} {b off n cap : Nat} (h : TmsR w ts (.slice (some ⟨b, off, none⟩) n cap)) {k : Nat} (hk : k < ts.length) :
    ∃ ka kc, w.cell? ⟨b, off + k * 2, none⟩ = some (.string ts[k].name) ∧ w.cell? ⟨b, off + k * 2 + 1, none⟩ = some (.slice ka ts[k].K.length kc) ∧ ts[k].name.size ≤ maxLen ∧ TmsR w ts[k].K (.slice ka ts[k].K.length kc) := by
  obtain ⟨fp, h⟩ := h; obtain ⟨vs, f, h1, h2, h3⟩ := h.row (k := 2) (by simp only [List.mem_map]; rintro e ⟨t, _, rfl⟩; exact t.cd_len) k (by simpa using hk); rw [List.getElem_map, Tm.cd_eq] at h2; simp only [RdVs] at h2; obtain ⟨v0, vs', f1, f2, rfl, rfl, hv0, v1, vs'', f3, f4, rfl, rfl, hv1, rfl, rfl⟩ := h2; simp only [Rd] at hv0; obtain ⟨rfl, hs, rfl⟩ := hv0; obtain ⟨a, cap', h4, _⟩ := hv1.sl_form; rw [zgl] at h4; subst h4; exact ⟨a, cap', h1 0 _ rfl, h1 1 _ rfl, hs, _, hv1⟩
theorem TmsR.below {w w' : World} {ts : List Tm} {v : Value} (h : TmsR w ts v) (hb : Below w.heap.size w w') : TmsR w' ts v := by
  obtain ⟨fp, h⟩ := h; exact ⟨fp, h.below hb⟩
theorem TmR.below {w w' : World} {t : Tm} {v : Value} (h : TmR w t v) (hb : Below w.heap.size w w') : TmR w' t v := by
  obtain ⟨kv, h1, h2, h3⟩ := h; exact ⟨kv, h1, h2, h3.below hb⟩
theorem TmR.mk {w : World} {t : Tm} {kv : Value} (h : t.name.size ≤ maxLen) (hk : TmsR w t.K kv) : TmR w t (.agg #[.string t.name, kv]) := ⟨kv, rfl, h, hk⟩
theorem Tm.rdvs {w : World} {t : Tm} {kv : Value} {f : List Nat} (hs : t.name.size ≤ maxLen) (h : Rd w (.sl (t.K.map Tm.cd)) kv f) : RdVs w t.cd [.string t.name, kv] f := by
  rw [Tm.cd_eq]; simp only [RdVs, Rd.eq_3]; exact ⟨_, _, [], f, rfl, rfl, ⟨rfl, hs, rfl⟩, _, _, f, [], rfl, by simp, h, rfl, rfl⟩
theorem TmR.drew {w : World} {t : Tm} {v : Value} (h : TmR w t v) : TmR w.drew t v := h.below (zj w)
/-- The reading passes no cell of the row 'av'. -/
def TmsRa (av : Option Nat) (w : World) (ts : List Tm) (v : Value) : Prop := ∃ fp, Rd w (.sl (ts.map Tm.cd)) v fp ∧ ∀ b ∈ fp, av ≠ some b
theorem TmsRa.toR {av : Option Nat} {w : World} {ts : List Tm} {v : Value} (h : TmsRa av w ts v) : TmsR w ts v := by obtain ⟨fp, h, _⟩ := h; exact ⟨fp, h⟩
theorem TmsRa.below {av : Option Nat} {w w' : World} {ts : List Tm} {v : Value} (h : TmsRa av w ts v) (hb : Below w.heap.size w w') : TmsRa av w' ts v := by obtain ⟨fp, h, hn⟩ := h; exact ⟨fp, h.below hb, hn⟩
theorem TmsRa.moved {w w' : World} {ts : List Tm} {v x x' : Value} (h : TmsRa x.ownBlock w ts v) (hm : Moved w x w' x') : TmsRa x'.ownBlock w' ts v := by
  obtain ⟨fp, h, hn⟩ := h; exact ⟨fp, h.same _ (hm.same (h.lt _) hn), hm.away (h.lt _) hn⟩
theorem TmsRa.addr {av : Option Nat} {w : World} {ts : List Tm} {a : Option Addr} {n cap : Nat} (h : TmsRa av w ts (.slice a n cap)) (hne : 0 < ts.length) : ∃ b off, a = some ⟨b, off, none⟩ ∧ b < w.heap.size ∧ av ≠ some b := by
  obtain ⟨fp, h, hn⟩ := h; obtain ⟨b, off, f, h1, h2, rfl, _⟩ := h.addr (by simpa using hne); exact ⟨b, off, h1, h2, hn b (by simp)⟩
theorem TmsRa.at {av : Option Nat} {w : World} {ts : List Tm} {b off n cap : Nat} (h : TmsRa av w ts (.slice (some ⟨b, off, none⟩) n cap)) {k : Nat} (hk : k < ts.length) :
    ∃ ka kc, w.cell? ⟨b, off + k * 2, none⟩ = some (.string ts[k].name) ∧ w.cell? ⟨b, off + k * 2 + 1, none⟩ = some (.slice ka ts[k].K.length kc) ∧ ts[k].name.size ≤ maxLen ∧ TmsRa av w ts[k].K (.slice ka ts[k].K.length kc) := by
  obtain ⟨fp, h, hn⟩ := h; obtain ⟨vs, f, h1, h2, h3⟩ := h.row (k := 2) (by simp only [List.mem_map]; rintro e ⟨t, _, rfl⟩; exact t.cd_len) k (by simpa using hk); rw [List.getElem_map, Tm.cd_eq] at h2; simp only [RdVs] at h2; obtain ⟨v0, vs', f1, f2, rfl, rfl, hv0, v1, vs'', f3, f4, rfl, rfl, hv1, rfl, rfl⟩ := h2; simp only [Rd] at hv0; obtain ⟨rfl, hs, rfl⟩ := hv0; obtain ⟨a, cap', h4, _⟩ := hv1.sl_form; rw [zgl] at h4; subst h4; exact ⟨a, cap', h1 0 _ rfl, h1 1 _ rfl, hs, _, hv1, fun x hx => hn x (h3 x (by simpa using hx))⟩
def TmRa (av : Option Nat) (w : World) (t : Tm) (v : Value) : Prop := ∃ kv, v = .agg #[.string t.name, kv] ∧ t.name.size ≤ maxLen ∧ TmsRa av w t.K kv
theorem TmRa.mk {av : Option Nat} {w : World} {t : Tm} {kv : Value} (h : t.name.size ≤ maxLen) (hk : TmsRa av w t.K kv) : TmRa av w t (.agg #[.string t.name, kv]) := ⟨kv, rfl, h, hk⟩
theorem zZ (n lo hi : Int) (w : World) : Calls Tryz.prog 75 #[.int .i64 n, .int .i64 lo, .int .i64 hi] w fun e w' => e = .returned (.bool (decide (lo ≤ n) && decide (n ≤ hi))) ∧ w = w' := by
  go_enter Tryz.func75, Tryz.ntmps75
  go_wp2
  all_goals (go_ret; exact ⟨by simp; try omega, rfl⟩)
theorem zdg {s : ByteArray} {k : Nat} (h : k < s.size) : (s.data.toList.take (k + 1)).all zbF = ((s.data.toList.take k).all zbF && zbF s[k]) := by
  have : s.data.toList.take (k + 1) = s.data.toList.take k ++ [s[k]] := by
    rw [zgf (by simpa using h)]; rfl
  rw [this]; simp
theorem zey {s : ByteArray} {k : Nat} (h : k < s.size) (h2 : zbF s[k] = false) : s.data.toList.all zbF = false := by
  rw [List.all_eq_false]; exact ⟨s[k], by simp [ByteArray.getElem_eq_getElem_data], by simpa using h2⟩
theorem zcr {s : ByteArray} {k : Nat} (h : k < s.size) (h2 : (s[k].toNat : Int) < 97 ∨ 122 < (s[k].toNat : Int)) : zat s = false := by
  have : zbF s[k] = false := by simp only [zbF, Bool.and_eq_false_iff, decide_eq_false_iff_not]; omega
  simp [zat, zey h this]
theorem zbX (s : ByteArray) (w : World) (hs : s.size ≤ maxLen) : Calls Tryz.prog 125 #[.string s] w fun e w' => e = .returned (.bool (zat s)) ∧ w = w' := by
  unfold maxLen at hs
  by_cases h1 : 1 ≤ s.size ∧ s.size ≤ 2
  · have t1 : decide (1 ≤ (s.size : Int)) = true := by simp; omega
    have t2 : decide ((s.size : Int) ≤ 2) = true := by simp; omega
    go_enter Tryz.func125, Tryz.ntmps125; go_wp2_with (go_at_call 75; refine (zZ _ _ _ _).mono ?_; rintro e w' ⟨rfl, rfl⟩)
    go_loop [3, 10] (fun _ i => ∃ k : Nat, k ≤ s.size ∧ i = .int .i64 k ∧ Hid ((s.data.toList.take k).all zbF = true)) (fun _ i => s.size - (intOf i).toNat)
    case atStart => exact ⟨0, zgx _, rfl, by simp [Hid]⟩
    case round =>
      obtain ⟨k, hk, rfl, hall⟩ := hrel
      by_cases hlt : k < s.size
      · go_wp2
        all_goals first
          | (go_ret; exact ⟨retB (zcr hlt (by omega)).symm, rfl⟩)
          | (go_round
             case rel => exact ⟨k + 1, by omega, by go_num, (by rw [zdg hlt, hall.out]; simp [zbF]; omega : (s.data.toList.take (k + 1)).all zbF = true)⟩
             case measure => simp [intOf]; omega)
      · go_wp2
        go_ret
        have he : k = s.size := by omega
        have h3 := hall.out; rw [he, zgq (by simp)] at h3; refine ⟨?_, rfl⟩; simp only [zat, t1, t2, h3]; rfl
  · have t1 : (decide (1 ≤ (s.size : Int)) && decide ((s.size : Int) ≤ 2)) = false := by simp; omega
    go_enter Tryz.func125, Tryz.ntmps125; go_wp2_with (go_at_call 75; refine (zZ _ _ _ _).mono ?_; rintro e w' ⟨rfl, rfl⟩); go_ret; exact ⟨by simp only [zat, t1]; rfl, rfl⟩
theorem zd0 (n : Nat) : ∀ (t : Tm) (v : Value) (deep : Int) (w : World), t.size ≤ n → 1 ≤ deep → deep ≤ 5 → TmR w t v →
    Calls Tryz.prog 144 #[v, .int .i64 deep] w fun e w' => e = .returned (.int .i64 (t.tsz deep)) ∧ Below w.heap.size w w' := by
  induction n with
  | zero => intro t; have := t.size_pos; omega
  | succ n ih =>
    rintro t v deep w hn hd0 hd ⟨kv, rfl, hs, hk⟩; obtain ⟨a, cap, rfl, hc1, hc2⟩ := hk.form
    by_cases hc : zat t.name = true ∧ t.K.length ≤ 2 ∧ deep ≤ 4
    · have hfin := zgn (Tm.tsz_eq t deep)
      rw [if_pos hc] at hfin; obtain ⟨hn1, hn2, hn3⟩ := hc; go_enter Tryz.func144, Tryz.ntmps144; go_wp2_with (go_at_call 125; refine (zbX _ _ hs).mono ?_; rintro e w' ⟨rfl, rfl⟩)
      go_loopw [5, 25] (fun nn i wr => ∃ k : Nat, k ≤ t.K.length ∧ i = .int .i64 k ∧ nn = .int .i64 (1 + Tm.tszs (t.K.take k) (deep + 1)) ∧ Below w.heap.size w wr) (fun _ i _ => t.K.length - (intOf i).toNat)
      case atStart => exact ⟨0, zgx _, rfl, rfl, (zgz _ _).alloc (zgo _) _⟩
      case round =>
        obtain ⟨k, hkl, rfl, rfl, hb⟩ := hrel; have bd1 := Tm.tszs_bd (t.K.take k) (deep + 1) (by omega); have hl : (t.K.take k).length ≤ k := List.length_take_le _ _
        by_cases hlt : k < t.K.length
        · obtain ⟨b, off, rfl, hbs⟩ := hk.addr (by omega)
          obtain ⟨ka, kc, c0, c1, hss, hkk⟩ := (hk.below hb).at hlt; have bd2 := Tm.tsz_bd' t.K[k] (deep + 1) (by omega); have hz := hb.size; have hkn := Tm.size_kid hlt; go_wp2_with (go_at_call 144; refine (ih t.K[k] _ _ _ (by omega) (by omega) (by omega) ((TmR.mk hss hkk).below ((zgz _ _).alloc (zgo _) _))).mono ?_; rintro e w' ⟨rfl, hb2⟩); go_roundw
          case rel => exact ⟨k + 1, by omega, by go_num, by rw [Tm.tszs_succ _ _ _ hlt]; go_num, (hb.alloc hz _).trans (hb2.mono (by simp; omega))⟩
          case measure => simp [intOf]; omega
        · have he : t.K.take k = t.K := zgq (by omega)
          rw [he] at bd1
          go_wp2
          go_ret; exact ⟨retI (by rw [hfin.out, he]), hb⟩
    · have hfin := zgn (Tm.tsz_eq t deep)
      rw [if_neg hc] at hfin; have HC := zgn hc; clear hc; go_enter Tryz.func144, Tryz.ntmps144; go_wp2_with (go_at_call 125; refine (zbX _ _ hs).mono ?_; rintro e w' ⟨rfl, rfl⟩)
      all_goals first
        | (go_ret; exact ⟨retI hfin.out.symm, (zgz _ _).alloc (zgo _) _⟩)
        | exact absurd ⟨‹zat t.name = true›, by omega, by omega⟩ HC.out
theorem zac (t : Tm) (v : Value) (w : World) (h : TmR w t v) : Calls Tryz.prog 129 #[v] w fun e w' => e = .returned (.bool t.wf) ∧ Below w.heap.size w w' := by
  obtain ⟨kv, rfl, hs, hk⟩ := h; obtain ⟨a, cap, rfl, hc1, hc2⟩ := hk.form; go_enter Tryz.func129, Tryz.ntmps129; go_wp2_with (go_at_call 144; refine (zd0 t.size t _ _ _ (zgo _) (by omega) (by omega) ((TmR.mk hs hk).below ((zgz _ _).alloc (zgo _) _))).mono ?_; rintro e w' ⟨rfl, hb2⟩); go_ret; exact ⟨retB (Tm.wf_impl t), ((zgz _ _).alloc (zgo _) _).trans (hb2.mono (by simp))⟩
theorem zap (s : ByteArray) (w : World) (hs : s.size ≤ maxLen) : Calls Tryz.prog 99 #[.string s] w fun e w' => e = .returned (.bool (zat s)) ∧ w = w' := by
  unfold maxLen at hs; go_enter Tryz.func99, Tryz.ntmps99
  go_wp2
  go_loop [3] (fun i => ∃ k : Nat, k ≤ s.size ∧ i = .int .i64 k ∧ Hid ((s.data.toList.take k).all zbF = true)) (fun i => s.size - (intOf i).toNat)
  case atStart => exact ⟨0, zgx _, rfl, by simp [Hid]⟩
  case round =>
    obtain ⟨k, hk, rfl, hall⟩ := hrel
    by_cases hlt : k < s.size
    · go_wp2
      all_goals first
        | (go_ret; exact ⟨retB (zcr hlt (by omega)).symm, rfl⟩)
        | (go_round
           case rel => exact ⟨k + 1, by omega, by go_num, (by rw [zdg hlt, hall.out]; simp [zbF]; omega : (s.data.toList.take (k + 1)).all zbF = true)⟩
           case measure => simp [intOf]; omega)
    · have he : k = s.size := by omega
      have h3 := hall.out; rw [he, zgq (by simp)] at h3; have H3 := zgn h3; clear h3 hall he
      go_wp2
      all_goals (go_ret; refine ⟨retB ?_, rfl⟩; simp only [zat, H3.out]; simp; try omega)
theorem zez (n : Nat) : ∀ (t : Tm) (v : Value) (deep : Int) (w : World), t.size ≤ n → 0 ≤ deep → deep ≤ 1000 → TmR w t v →
    Calls Tryz.prog 150 #[v, .int .i64 deep] w fun e w' => e = .returned (.bool (t.shape deep)) ∧ Below w.heap.size w w' := by
  induction n with
  | zero => intro t; have := t.size_pos; omega
  | succ n ih =>
    rintro t v deep w hn hd0 hd ⟨kv, rfl, hs, hk⟩; obtain ⟨a, cap, rfl, hc1, hc2⟩ := hk.form
    by_cases hc : 1 ≤ deep ∧ zat t.name = true ∧ t.K.length ≤ 2
    · have hfin : t.shape deep = Tm.shapes t.K (deep - 1) := by rw [Tm.shape_eq]; simp [hc.1, hc.2.1, hc.2.2]
      have HF := zgn hfin; clear hfin; obtain ⟨hn1, hn2, hn3⟩ := hc; go_enter Tryz.func150, Tryz.ntmps150; go_wp2_with (go_at_call 99; refine (zap _ _ hs).mono ?_; rintro e w' ⟨rfl, rfl⟩)
      go_loopw [5] (fun i wr => ∃ k : Nat, k ≤ t.K.length ∧ i = .int .i64 k ∧ Hid (Tm.shapes (t.K.take k) (deep - 1) = true) ∧ Below (w.heap.size + 1) (w.alloc (.cells #[.string t.name, .slice a t.K.length cap] 28)) wr) (fun i _ => t.K.length - (intOf i).toNat)
      case atStart => exact ⟨0, zgx _, rfl, rfl, zgz _ _⟩
      case round =>
        obtain ⟨k, hkl, rfl, hall, hb⟩ := hrel; obtain ⟨hx, hz, hbb⟩ := box1 hb; have x1 : wr.cell? ⟨w.heap.size, 1, none⟩ = some (.slice a t.K.length cap) := hx 1; clear hx
        by_cases hlt : k < t.K.length
        · obtain ⟨b, off, rfl, hbs⟩ := hk.addr (by omega)
          obtain ⟨ka, kc, c0, c1, hss, hkk⟩ := (hk.below hbb).at hlt; have hkn := Tm.size_kid hlt; have hsplit := Tm.shapes_take t.K (deep - 1) k hlt; have HS := zgn hsplit; clear hsplit; go_wp2_with (go_at_call 150; refine (ih t.K[k] _ _ _ (by omega) (by omega) (by omega) (TmR.mk hss hkk)).mono ?_; rintro e w' ⟨rfl, hb2⟩)
          · go_ret
            have h := HS.out.2 (by simp_all); exact ⟨retB (by rw [HF.out, h]), hbb.trans (hb2.mono (by omega))⟩
          · go_roundw
            case rel => exact ⟨k + 1, by omega, by go_num, (by rw [HS.out.1, hall.out]; simp_all : Tm.shapes (t.K.take (k + 1)) (deep - 1) = true), hb.trans (hb2.mono (by omega))⟩
            case measure => simp [intOf]; omega
        · have he : t.K.take k = t.K := zgq (by omega)
          rw [he] at hall
          go_wp2
          go_ret; exact ⟨retB (by rw [HF.out, hall.out]), hbb⟩
    · have hfin : t.shape deep = false := by
        rw [Tm.shape_eq]
        by_cases h1 : 1 ≤ deep
        · by_cases h2 : zat t.name = true
          · have : ¬ t.K.length ≤ 2 := fun h => hc ⟨h1, h2, h⟩
            simp [this]
          · simp [h2]
        · simp [h1]
      have HF := zgn hfin; have HC := zgn hc; clear hc hfin; go_enter Tryz.func150, Tryz.ntmps150; go_wp2_with (go_at_call 99; refine (zap _ _ hs).mono ?_; rintro e w' ⟨rfl, rfl⟩)
      all_goals first
        | (go_ret; exact ⟨retB HF.out.symm, (zgz _ _).alloc (zgo _) _⟩)
        | exact absurd ⟨by omega, ‹zat t.name = true›, by omega⟩ HC.out
theorem zfi (n : Nat) : ∀ (t : Tm) (v : Value) (deep : Int) (w : World), t.size ≤ n → 0 ≤ deep → deep ≤ 1000 → t.size ≤ 1000000000 → TmR w t v →
    Calls Tryz.prog 151 #[v, .int .i64 deep] w fun e w' => e = .returned (.int .i64 (t.many deep)) ∧ Below w.heap.size w w' := by
  induction n with
  | zero => intro t; have := t.size_pos; omega
  | succ n ih =>
    rintro t v deep w hn hd0 hd hbig ⟨kv, rfl, hs, hk⟩; obtain ⟨a, cap, rfl, hc1, hc2⟩ := hk.form; have HF := zgn (Tm.many_eq t deep); go_enter Tryz.func151, Tryz.ntmps151
    go_wp2
    go_loopw [5, 6] (fun nn i wr => ∃ k : Nat, k ≤ t.K.length ∧ (0 < k → 0 < deep) ∧ i = .int .i64 k ∧ nn = .int .i64 (1 + Tm.manys (t.K.take k) (deep - 1)) ∧ Below (w.heap.size + 1) (w.alloc (.cells #[.string t.name, .slice a t.K.length cap] 28)) wr) (fun _ i _ => t.K.length - (intOf i).toNat)
    case atStart => exact ⟨0, zgx _, by omega, rfl, by simp [Tm.manys], zgz _ _⟩
    case round =>
      obtain ⟨k, hkl, hkd, rfl, rfl, hb⟩ := hrel; obtain ⟨hx, hz, hbb⟩ := box1 hb; have x1 : wr.cell? ⟨w.heap.size, 1, none⟩ = some (.slice a t.K.length cap) := hx 1; clear hx; have bd1 := Tm.manys_bd (t.K.take k) (deep - 1); have bd3 := Tm.sizes_take t.K k
      have bd4 : Tm.sizes t.K ≤ t.size := by rw [Tm.size_eq t]; omega
      by_cases hlt : k < t.K.length ∧ 0 < deep
      · obtain ⟨hlt, hdp⟩ := hlt
        obtain ⟨b, off, rfl, hbs⟩ := hk.addr (by omega); obtain ⟨ka, kc, c0, c1, hss, hkk⟩ := (hk.below hbb).at hlt; have hkn := Tm.size_kid hlt; have bd2 := Tm.many_bd t.K[k] (deep - 1); go_wp2_with (go_at_call 151; refine (ih t.K[k] _ _ _ (by omega) (by omega) (by omega) (by omega) (TmR.mk hss hkk)).mono ?_; rintro e w' ⟨rfl, hb2⟩); go_roundw
        case rel => exact ⟨k + 1, by omega, by omega, by go_num, by rw [Tm.manys_succ _ _ _ hlt]; go_num, hb.trans (hb2.mono (by omega))⟩
        case measure => simp [intOf]; omega
      · have hdec : (decide ((k : Int) < t.K.length) && decide (0 < deep)) = false := by simp; omega
        have hfin : t.many deep = 1 + Tm.manys (t.K.take k) (deep - 1) := by
          rw [HF.out]
          by_cases hd1 : 0 < deep
          · rw [if_pos hd1, zgq (by omega)]
          · have : k = 0 := by omega
            rw [if_neg hd1, this]; simp [Tm.manys]
        have HG := zgn hfin; clear hfin
        by_cases hlt1 : k < t.K.length
        · have hd2 : decide (0 < deep) = false := by simp; omega
          go_wp2
          all_goals (go_ret; exact ⟨retI HG.out.symm, hbb⟩)
        · go_wp2
          all_goals (go_ret; exact ⟨retI HG.out.symm, hbb⟩)
theorem zV (t : Tm) (v : Value) (w : World) (hbig : t.size ≤ 1000000000) (h : TmR w t v) : Calls Tryz.prog 138 #[v] w fun e w' => e = .returned (.bool t.wf) ∧ Below w.heap.size w w' := by
  obtain ⟨kv, rfl, hs, hk⟩ := h; obtain ⟨a, cap, rfl, hc1, hc2⟩ := hk.form; have HF := zgn (Tm.wf_spec t); have hb0 : Below w.heap.size w (w.alloc (.cells #[.string t.name, .slice a t.K.length cap] 28)) := (zgz _ _).alloc (zgo _) _; have hk0 := hk.below hb0
  by_cases hsh : t.shape 4 = true
  all_goals
    go_enter Tryz.func138, Tryz.ntmps138; go_wp2_with fail; refine (zez t.size t _ _ _ (zgo _) (by omega) (by omega) (TmR.mk hs hk0)).mono ?_; rintro e w1 ⟨rfl, hb⟩; have hb' := hb; rw [zgs] at hb'; obtain ⟨hx, hz, hbb⟩ := box1 hb'; have x0 : w1.cell? ⟨w.heap.size, 0, none⟩ = some (.string t.name) := hx 0; have x1 : w1.cell? ⟨w.heap.size, 1, none⟩ = some (.slice a t.K.length cap) := hx 1; clear hx; go_wp2_with (go_at_call 151; refine (zfi t.size t _ _ _ (zgo _) (by omega) (by omega) hbig (TmR.mk hs (hk.below hbb))).mono ?_; rintro e w2 ⟨rfl, hb2⟩); go_ret
  · exact ⟨retB (by rw [← HF.out]; simp [hsh]), hbb.trans (hb2.mono (by omega))⟩
  · exact ⟨retB (by rw [← HF.out]; simp [hsh]), hbb⟩
def zv (n : Int) : List CD := [.int n]
structure Sy where
 name : ByteArray
 args : List Int
 sort : Int
def Sy.cd (x : Sy) : List CD := [.str x.name] ++ ([.sl (x.args.map zv)] ++ [.int x.sort])
structure Sg where
 Y : List Sy
def Sg.cd (x : Sg) : List CD := [.sl (x.Y.map Sy.cd)]
structure Eqn where
 a : Tm
 b : Tm
def Eqn.cd (x : Eqn) : List CD := x.a.cd ++ x.b.cd
structure Atm where
 kind : Int
 a : Tm
 b : Tm
 N : List Tm
 T : List Int
 O : Int
 C : Bool
def Atm.cd (x : Atm) : List CD := [.int x.kind] ++ (x.a.cd ++ (x.b.cd ++ ([.sl (x.N.map Tm.cd)] ++ ([.sl (x.T.map zv)] ++ ([.int x.O] ++ [.bool x.C])))))
structure Lt where
 M : Atm
 no : Bool
def Lt.cd (x : Lt) : List CD := x.M.cd ++ [.bool x.no]
inductive Fm where
 | mk (kind : Int) (lit : Lt) (kids : List Fm)
def Fm.kind : Fm → Int | .mk kind _ _ => kind
def Fm.L : Fm → Lt | .mk _ lit _ => lit
def Fm.K : Fm → List Fm | .mk _ _ kids => kids
def Fm.cd : Fm → List CD
 | .mk kind lit kids => [.int kind] ++ (lit.cd ++ [.sl (kids.map Fm.cd)])
theorem Fm.cd_eq (x : Fm) : x.cd = [.int x.kind] ++ (x.L.cd ++ [.sl (x.K.map Fm.cd)]) := by cases x; simp [Fm.cd, Fm.kind, Fm.L, Fm.K]
def zG (fs : List Fm) : List CD := [.sl (fs.map Fm.cd)]
structure Stk where
 sig : Sg
 E : List (List Fm)
def Stk.cd (x : Stk) : List CD := x.sig.cd ++ [.sl (x.E.map zG)]
abbrev yNl (x : Atm) (a0 : Option Addr) (c0 : Nat) (a1 : Option Addr) (c1 : Nat) (a2 : Option Addr) (c2 : Nat) (a3 : Option Addr) (c3 : Nat) : List Value := [.int .i64 x.kind, .string x.a.name, .slice a0 x.a.K.length c0, .string x.b.name, .slice a1 x.b.K.length c1, .slice a2 x.N.length c2, .slice a3 x.T.length c3, .int .i64 x.O, .bool x.C]
abbrev yNa (x : Atm) (a0 : Option Addr) (c0 : Nat) (a1 : Option Addr) (c1 : Nat) (a2 : Option Addr) (c2 : Nat) (a3 : Option Addr) (c3 : Nat) : Array Value := #[.int .i64 x.kind, .string x.a.name, .slice a0 x.a.K.length c0, .string x.b.name, .slice a1 x.b.K.length c1, .slice a2 x.N.length c2, .slice a3 x.T.length c3, .int .i64 x.O, .bool x.C]
abbrev yNp (x : Atm) (a0 : Option Addr) (c0 : Nat) (a1 : Option Addr) (c1 : Nat) (a2 : Option Addr) (c2 : Nat) (a3 : Option Addr) (c3 : Nat) : List (Nat × Value) := [(0, .int .i64 x.kind), (1, .string x.a.name), (2, .slice a0 x.a.K.length c0), (3, .string x.b.name), (4, .slice a1 x.b.K.length c1), (5, .slice a2 x.N.length c2), (6, .slice a3 x.T.length c3), (7, .int .i64 x.O), (8, .bool x.C)]
abbrev yNc (x : Atm) (a0 : Option Addr) (c0 : Nat) (a1 : Option Addr) (c1 : Nat) (a2 : Option Addr) (c2 : Nat) (a3 : Option Addr) (c3 : Nat) (U : World) (b : Nat) (R : Prop) : Prop := U.cell? ⟨b, 0, none⟩ = some (.int .i64 x.kind) ∧ U.cell? ⟨b, 1, none⟩ = some (.string x.a.name) ∧ U.cell? ⟨b, 2, none⟩ = some (.slice a0 x.a.K.length c0) ∧ U.cell? ⟨b, 3, none⟩ = some (.string x.b.name) ∧ U.cell? ⟨b, 4, none⟩ = some (.slice a1 x.b.K.length c1) ∧ U.cell? ⟨b, 5, none⟩ = some (.slice a2 x.N.length c2) ∧ U.cell? ⟨b, 6, none⟩ = some (.slice a3 x.T.length c3) ∧ U.cell? ⟨b, 7, none⟩ = some (.int .i64 x.O) ∧ U.cell? ⟨b, 8, none⟩ = some (.bool x.C) ∧ R
abbrev yNd (x : Atm) (a0 : Option Addr) (c0 : Nat) (a1 : Option Addr) (c1 : Nat) (a2 : Option Addr) (c2 : Nat) (a3 : Option Addr) (c3 : Nat) (U : World) (b : Nat) : Prop := U.cell? ⟨b, 0, none⟩ = some (.int .i64 x.kind) ∧ U.cell? ⟨b, 1, none⟩ = some (.string x.a.name) ∧ U.cell? ⟨b, 2, none⟩ = some (.slice a0 x.a.K.length c0) ∧ U.cell? ⟨b, 3, none⟩ = some (.string x.b.name) ∧ U.cell? ⟨b, 4, none⟩ = some (.slice a1 x.b.K.length c1) ∧ U.cell? ⟨b, 5, none⟩ = some (.slice a2 x.N.length c2) ∧ U.cell? ⟨b, 6, none⟩ = some (.slice a3 x.T.length c3) ∧ U.cell? ⟨b, 7, none⟩ = some (.int .i64 x.O) ∧ U.cell? ⟨b, 8, none⟩ = some (.bool x.C)
abbrev yOl (x : Atm) (a0 : Option Addr) (c0 : Nat) (a1 : Option Addr) (c1 : Nat) (a2 : Option Addr) (c2 : Nat) : List Value := [.int .i64 x.kind, .string x.a.name, .slice a0 x.a.K.length c0, .string x.b.name, .slice a1 x.b.K.length c1, .slice none 0 0, .slice a2 x.T.length c2, .int .i64 x.O, .bool x.C]
abbrev yOa (x : Atm) (a0 : Option Addr) (c0 : Nat) (a1 : Option Addr) (c1 : Nat) (a2 : Option Addr) (c2 : Nat) : Array Value := #[.int .i64 x.kind, .string x.a.name, .slice a0 x.a.K.length c0, .string x.b.name, .slice a1 x.b.K.length c1, .slice none 0 0, .slice a2 x.T.length c2, .int .i64 x.O, .bool x.C]
abbrev yOp (x : Atm) (a0 : Option Addr) (c0 : Nat) (a1 : Option Addr) (c1 : Nat) (a2 : Option Addr) (c2 : Nat) : List (Nat × Value) := [(0, .int .i64 x.kind), (1, .string x.a.name), (2, .slice a0 x.a.K.length c0), (3, .string x.b.name), (4, .slice a1 x.b.K.length c1), (5, .slice none 0 0), (6, .slice a2 x.T.length c2), (7, .int .i64 x.O), (8, .bool x.C)]
abbrev yOc (x : Atm) (a0 : Option Addr) (c0 : Nat) (a1 : Option Addr) (c1 : Nat) (a2 : Option Addr) (c2 : Nat) (U : World) (b : Nat) (R : Prop) : Prop := U.cell? ⟨b, 0, none⟩ = some (.int .i64 x.kind) ∧ U.cell? ⟨b, 1, none⟩ = some (.string x.a.name) ∧ U.cell? ⟨b, 2, none⟩ = some (.slice a0 x.a.K.length c0) ∧ U.cell? ⟨b, 3, none⟩ = some (.string x.b.name) ∧ U.cell? ⟨b, 4, none⟩ = some (.slice a1 x.b.K.length c1) ∧ U.cell? ⟨b, 5, none⟩ = some (.slice none 0 0) ∧ U.cell? ⟨b, 6, none⟩ = some (.slice a2 x.T.length c2) ∧ U.cell? ⟨b, 7, none⟩ = some (.int .i64 x.O) ∧ U.cell? ⟨b, 8, none⟩ = some (.bool x.C) ∧ R
abbrev yOd (x : Atm) (a0 : Option Addr) (c0 : Nat) (a1 : Option Addr) (c1 : Nat) (a2 : Option Addr) (c2 : Nat) (U : World) (b : Nat) : Prop := U.cell? ⟨b, 0, none⟩ = some (.int .i64 x.kind) ∧ U.cell? ⟨b, 1, none⟩ = some (.string x.a.name) ∧ U.cell? ⟨b, 2, none⟩ = some (.slice a0 x.a.K.length c0) ∧ U.cell? ⟨b, 3, none⟩ = some (.string x.b.name) ∧ U.cell? ⟨b, 4, none⟩ = some (.slice a1 x.b.K.length c1) ∧ U.cell? ⟨b, 5, none⟩ = some (.slice none 0 0) ∧ U.cell? ⟨b, 6, none⟩ = some (.slice a2 x.T.length c2) ∧ U.cell? ⟨b, 7, none⟩ = some (.int .i64 x.O) ∧ U.cell? ⟨b, 8, none⟩ = some (.bool x.C)
abbrev yTl (x : Fm) (a0 : Option Addr) (c0 : Nat) (a1 : Option Addr) (c1 : Nat) (a2 : Option Addr) (c2 : Nat) (a3 : Option Addr) (c3 : Nat) (a4 : Option Addr) (c4 : Nat) : List Value := [.int .i64 x.kind, .int .i64 x.L.M.kind, .string x.L.M.a.name, .slice a0 x.L.M.a.K.length c0, .string x.L.M.b.name, .slice a1 x.L.M.b.K.length c1, .slice a2 x.L.M.N.length c2, .slice a3 x.L.M.T.length c3, .int .i64 x.L.M.O, .bool x.L.M.C, .bool x.L.no, .slice a4 x.K.length c4]
abbrev yTa (x : Fm) (a0 : Option Addr) (c0 : Nat) (a1 : Option Addr) (c1 : Nat) (a2 : Option Addr) (c2 : Nat) (a3 : Option Addr) (c3 : Nat) (a4 : Option Addr) (c4 : Nat) : Array Value := #[.int .i64 x.kind, .int .i64 x.L.M.kind, .string x.L.M.a.name, .slice a0 x.L.M.a.K.length c0, .string x.L.M.b.name, .slice a1 x.L.M.b.K.length c1, .slice a2 x.L.M.N.length c2, .slice a3 x.L.M.T.length c3, .int .i64 x.L.M.O, .bool x.L.M.C, .bool x.L.no, .slice a4 x.K.length c4]
abbrev yTp (x : Fm) (a0 : Option Addr) (c0 : Nat) (a1 : Option Addr) (c1 : Nat) (a2 : Option Addr) (c2 : Nat) (a3 : Option Addr) (c3 : Nat) (a4 : Option Addr) (c4 : Nat) : List (Nat × Value) := [(0, .int .i64 x.kind), (1, .int .i64 x.L.M.kind), (2, .string x.L.M.a.name), (3, .slice a0 x.L.M.a.K.length c0), (4, .string x.L.M.b.name), (5, .slice a1 x.L.M.b.K.length c1), (6, .slice a2 x.L.M.N.length c2), (7, .slice a3 x.L.M.T.length c3), (8, .int .i64 x.L.M.O), (9, .bool x.L.M.C), (10, .bool x.L.no), (11, .slice a4 x.K.length c4)]
abbrev yTc (x : Fm) (a0 : Option Addr) (c0 : Nat) (a1 : Option Addr) (c1 : Nat) (a2 : Option Addr) (c2 : Nat) (a3 : Option Addr) (c3 : Nat) (a4 : Option Addr) (c4 : Nat) (U : World) (b : Nat) (R : Prop) : Prop := U.cell? ⟨b, 0, none⟩ = some (.int .i64 x.kind) ∧ U.cell? ⟨b, 1, none⟩ = some (.int .i64 x.L.M.kind) ∧ U.cell? ⟨b, 2, none⟩ = some (.string x.L.M.a.name) ∧ U.cell? ⟨b, 3, none⟩ = some (.slice a0 x.L.M.a.K.length c0) ∧ U.cell? ⟨b, 4, none⟩ = some (.string x.L.M.b.name) ∧ U.cell? ⟨b, 5, none⟩ = some (.slice a1 x.L.M.b.K.length c1) ∧ U.cell? ⟨b, 6, none⟩ = some (.slice a2 x.L.M.N.length c2) ∧ U.cell? ⟨b, 7, none⟩ = some (.slice a3 x.L.M.T.length c3) ∧ U.cell? ⟨b, 8, none⟩ = some (.int .i64 x.L.M.O) ∧ U.cell? ⟨b, 9, none⟩ = some (.bool x.L.M.C) ∧ U.cell? ⟨b, 10, none⟩ = some (.bool x.L.no) ∧ U.cell? ⟨b, 11, none⟩ = some (.slice a4 x.K.length c4) ∧ R
abbrev yTd (x : Fm) (a0 : Option Addr) (c0 : Nat) (a1 : Option Addr) (c1 : Nat) (a2 : Option Addr) (c2 : Nat) (a3 : Option Addr) (c3 : Nat) (a4 : Option Addr) (c4 : Nat) (U : World) (b : Nat) : Prop := U.cell? ⟨b, 0, none⟩ = some (.int .i64 x.kind) ∧ U.cell? ⟨b, 1, none⟩ = some (.int .i64 x.L.M.kind) ∧ U.cell? ⟨b, 2, none⟩ = some (.string x.L.M.a.name) ∧ U.cell? ⟨b, 3, none⟩ = some (.slice a0 x.L.M.a.K.length c0) ∧ U.cell? ⟨b, 4, none⟩ = some (.string x.L.M.b.name) ∧ U.cell? ⟨b, 5, none⟩ = some (.slice a1 x.L.M.b.K.length c1) ∧ U.cell? ⟨b, 6, none⟩ = some (.slice a2 x.L.M.N.length c2) ∧ U.cell? ⟨b, 7, none⟩ = some (.slice a3 x.L.M.T.length c3) ∧ U.cell? ⟨b, 8, none⟩ = some (.int .i64 x.L.M.O) ∧ U.cell? ⟨b, 9, none⟩ = some (.bool x.L.M.C) ∧ U.cell? ⟨b, 10, none⟩ = some (.bool x.L.no) ∧ U.cell? ⟨b, 11, none⟩ = some (.slice a4 x.K.length c4)
abbrev yZl : List Value := [.int .i64 0, .string ⟨#[]⟩, .slice none 0 0, .string ⟨#[]⟩, .slice none 0 0, .slice none 0 0, .slice none 0 0, .int .i64 0, .bool false]
abbrev yZa : Array Value := #[.int .i64 0, .string ⟨#[]⟩, .slice none 0 0, .string ⟨#[]⟩, .slice none 0 0, .slice none 0 0, .slice none 0 0, .int .i64 0, .bool false]
abbrev yYl : List Value := [.int .i64 0, .int .i64 0, .string ⟨#[]⟩, .slice none 0 0, .string ⟨#[]⟩, .slice none 0 0, .slice none 0 0, .slice none 0 0, .int .i64 0, .bool false, .bool false, .slice none 0 0]
abbrev yYa : Array Value := #[.int .i64 0, .int .i64 0, .string ⟨#[]⟩, .slice none 0 0, .string ⟨#[]⟩, .slice none 0 0, .slice none 0 0, .slice none 0 0, .int .i64 0, .bool false, .bool false, .slice none 0 0]
theorem yQ3 {P : Nat → Prop} (h : ∀ j, P j) : P 0 ∧ P 1 ∧ P 2 := ⟨h 0, h 1, h 2⟩
theorem yQ5 {P : Nat → Prop} (h : ∀ j, P j) : P 0 ∧ P 1 ∧ P 2 ∧ P 3 ∧ P 4 := ⟨h 0, h 1, h 2, h 3, h 4⟩
theorem yQ9 {P : Nat → Prop} (h : ∀ j, P j) : P 0 ∧ P 1 ∧ P 2 ∧ P 3 ∧ P 4 ∧ P 5 ∧ P 6 ∧ P 7 ∧ P 8 := ⟨h 0, h 1, h 2, h 3, h 4, h 5, h 6, h 7, h 8⟩
theorem yR9 {L : List Value} {C : Nat → Value → Prop} {v0 v1 v2 v3 v4 v5 v6 v7 v8 : Value} (h : ∀ k v, L[k]? = some v → C k v) (e : L = [v0, v1, v2, v3, v4, v5, v6, v7, v8]) : C 0 v0 ∧ C 1 v1 ∧ C 2 v2 ∧ C 3 v3 ∧ C 4 v4 ∧ C 5 v5 ∧ C 6 v6 ∧ C 7 v7 ∧ C 8 v8 := by
 subst e; exact ⟨h 0 _ rfl, h 1 _ rfl, h 2 _ rfl, h 3 _ rfl, h 4 _ rfl, h 5 _ rfl, h 6 _ rfl, h 7 _ rfl, h 8 _ rfl⟩
theorem yQ12 {P : Nat → Prop} (h : ∀ j, P j) : P 0 ∧ P 1 ∧ P 2 ∧ P 3 ∧ P 4 ∧ P 5 ∧ P 6 ∧ P 7 ∧ P 8 ∧ P 9 ∧ P 10 ∧ P 11 := ⟨h 0, h 1, h 2, h 3, h 4, h 5, h 6, h 7, h 8, h 9, h 10, h 11⟩
theorem yR12 {L : List Value} {C : Nat → Value → Prop} {v0 v1 v2 v3 v4 v5 v6 v7 v8 v9 v10 v11 : Value} (h : ∀ k v, L[k]? = some v → C k v) (e : L = [v0, v1, v2, v3, v4, v5, v6, v7, v8, v9, v10, v11]) : C 0 v0 ∧ C 1 v1 ∧ C 2 v2 ∧ C 3 v3 ∧ C 4 v4 ∧ C 5 v5 ∧ C 6 v6 ∧ C 7 v7 ∧ C 8 v8 ∧ C 9 v9 ∧ C 10 v10 ∧ C 11 v11 := by
 subst e; exact ⟨h 0 _ rfl, h 1 _ rfl, h 2 _ rfl, h 3 _ rfl, h 4 _ rfl, h 5 _ rfl, h 6 _ rfl, h 7 _ rfl, h 8 _ rfl, h 9 _ rfl, h 10 _ rfl, h 11 _ rfl⟩
theorem Tm.ext {t u : Tm} (h : t.name = u.name) (h' : t.K = u.K) : t = u := by cases t; cases u; simp_all [Tm.name, Tm.K]
theorem zb9 {α : Type} {a b : List α} {k : Nat} (h1 : k < a.length) (h2 : k < b.length) (h : a.take k = b.take k) (he : a[k] = b[k]) : a.take (k + 1) = b.take (k + 1) := by
 rw [zgf h1, zgf h2, h, he]
theorem zbr (n : Nat) : ∀ (t u : Tm) (v x : Value) (w : World), t.size ≤ n → TmR w t v → TmR w u x →
  Calls Tryz.prog 152 #[v, x] w fun e w' => e = .returned (.bool (t.beq u)) ∧ Below w.heap.size w w' := by
 induction n with
 | zero => intro t; have := t.size_pos; omega
 | succ n ih =>
  rintro t u v x w hn ⟨kv, rfl, hs, hk⟩ ⟨kx, rfl, hs', hk'⟩; obtain ⟨a, cap, rfl, hc1, hc2⟩ := hk.form; obtain ⟨a', cap', rfl, hc1', hc2'⟩ := hk'.form
  by_cases hc : t.name.toList = u.name.toList ∧ t.K.length = u.K.length
  ·obtain ⟨hnm, hl⟩ := hc
   have hlb : ((t.K.length : Int) != (u.K.length : Int)) = false := by rw [hl]; simp
   have HL := zgn hl
   have hl1 : t.K.length ≤ u.K.length := by omega
   have hl2 : u.K.length ≤ t.K.length := by omega
   have HN := zgn (zaD.1 hnm); clear hl; go_enter Tryz.func152, Tryz.ntmps152
   go_wp2
   go_loopw [5] (fun i wr => ∃ k : Nat, k ≤ t.K.length ∧ i = .int .i64 k ∧ Hid (t.K.take k = u.K.take k) ∧ Below (w.heap.size + 1 + 1) ((w.alloc (.cells #[.string t.name, .slice a t.K.length cap] 28)).alloc (.cells #[.string u.name, .slice a' u.K.length cap'] 28)) wr) (fun i _ => t.K.length - (intOf i).toNat)
   case atStart => exact ⟨0, zgx _, rfl, rfl, zgz _ _⟩
   case round =>
    obtain ⟨k, hkl, rfl, hall, hb⟩ := hrel; obtain ⟨hx, hy, hz, hbb⟩ := box2 hb; have x1 : wr.cell? ⟨w.heap.size, 1, none⟩ = some (.slice a t.K.length cap) := hx 1; have y1 : wr.cell? ⟨w.heap.size + 1, 1, none⟩ = some (.slice a' u.K.length cap') := hy 1; clear hx hy
    by_cases hlt : k < t.K.length
    ·obtain ⟨b, off, rfl, hbs⟩ := hk.addr (by omega)
     obtain ⟨b', off', rfl, hbs'⟩ := hk'.addr (by omega)
     have hlt' : k < u.K.length := by omega
     obtain ⟨ka, kc, c0, c1, hss, hkk⟩ := (hk.below hbb).at hlt; obtain ⟨ka', kc', c0', c1', hss', hkk'⟩ := (hk'.below hbb).at hlt'; have hkn := Tm.size_kid hlt
     go_wp2
     have q0 := cell_regrown c0; have q1 := cell_regrown c1; have q0' := cell_regrown c0'; have q1' := cell_regrown c1'; have qx := cell_regrown x1; have qy := cell_regrown y1; refine wp_region_quiet_below (by kernel_rfl) (by kernel_rfl) ?_
     repeat (quiet_step (refine zgr (ih t.K[k] u.K[k] _ _ _ (by omega) ((TmR.mk hss hkk).below (below_regrown _ _ _)) ((TmR.mk hss' hkk').below (below_regrown _ _ _)))))
     refine wpQuiet_nil ?_; intro w2 hw2; obtain ⟨⟨dq, osq⟩, hw2⟩ := hw2; have hb2 : Below wr.heap.size wr w2 := hw2 ▸ below_regrown wr dq osq; clear hw2 q0 q1 q0' q1' qx qy
     go_wp2
     ·have he : t.K[k].beq u.K[k] = false := by simpa using ‹(!t.K[k].beq u.K[k]) = true›
      go_ret; refine ⟨retB ?_, hbb.trans (hb2.mono (by omega))⟩; rw [eq_comm, Bool.eq_false_iff]; intro h; rw [Tm.beq_iff] at h; subst h; rw [(Tm.beq_iff _ _).2 rfl] at he; simp at he
     ·have he : t.K[k].beq u.K[k] = true := by simpa using ‹(!t.K[k].beq u.K[k]) = false›
      go_roundw
      case rel => exact ⟨k + 1, by omega, by go_num, zb9 hlt hlt' hall.out ((Tm.beq_iff _ _).1 he), hb.trans (hb2.mono (by omega))⟩
      case measure => simp [intOf]; omega
    ·have he : t.K.take k = t.K := zgq (by omega)
     have he' : u.K.take k = u.K := zgq (by omega); rw [he, he'] at hall
     go_wp2
     go_ret; exact ⟨retB ((Tm.beq_iff _ _).2 (Tm.ext HN.out hall.out)).symm, hbb⟩
  ·have hfin : t.beq u = false := by
    rw [Bool.eq_false_iff]; intro h; rw [Tm.beq_iff] at h; subst h; exact hc ⟨rfl, rfl⟩
   have HF := zgn hfin; have HC := zgn hc; clear hfin hc
   by_cases hnm : t.name.toList = u.name.toList
   ·have hlb : ((t.K.length : Int) != (u.K.length : Int)) = true := by
     rw [bne_iff_ne]; intro h; exact HC.out ⟨hnm, by omega⟩
    go_enter Tryz.func152, Tryz.ntmps152
    go_wp2
    go_ret; exact ⟨retB HF.out.symm, ((zgz _ _).alloc (zgo _) _).alloc (by simp) _⟩
   ·go_enter Tryz.func152, Tryz.ntmps152
    go_wp2
    all_goals (go_ret; exact ⟨retB HF.out.symm, ((zgz _ _).alloc (zgo _) _).alloc (by simp) _⟩)
theorem zdh {l : List Tm} {t : Tm} {k : Nat} (hk : k < l.length) (h : t ∉ l.take k) (hn : l[k] ≠ t) : t ∉ l.take (k + 1) := by
 rw [zgf hk]; simp only [zgg, List.mem_singleton]; rintro (h' | h')
 ·exact h h'
 ·exact hn h'.symm
/-- spec.l4Place -/
theorem zeC (l : List Tm) (t : Tm) (v x : Value) (w : World) (hv : TmsR w l v) (hx : TmR w t x) :
  Calls Tryz.prog 154 #[v, x] w fun e w' => (∃ n, e = .returned (.int .i64 n) ∧ Tm.IsPlace l t n) ∧ Below w.heap.size w w' := by
 obtain ⟨kx, rfl, hs, hk⟩ := hx; obtain ⟨a, cap, rfl, hc1, hc2⟩ := hk.form; obtain ⟨a', cap', rfl, hc1', hc2'⟩ := hv.form; go_enter Tryz.func154, Tryz.ntmps154
 go_wp2
 go_loopw [5] (fun i wr => ∃ k : Nat, k ≤ l.length ∧ i = .int .i64 k ∧ Hid (t ∉ l.take k) ∧ Below (w.heap.size + 1) (w.alloc (.cells #[.string t.name, .slice a t.K.length cap] 28)) wr) (fun i _ => l.length - (intOf i).toNat)
 case atStart => exact ⟨0, zgx _, rfl, (by simp : t ∉ l.take 0), zgz _ _⟩
 case round =>
  obtain ⟨k, hkl, rfl, hall, hb⟩ := hrel; obtain ⟨hx, hz, hbb⟩ := box1 hb; have x0 : wr.cell? ⟨w.heap.size, 0, none⟩ = some (.string t.name) := hx 0; have x1 : wr.cell? ⟨w.heap.size, 1, none⟩ = some (.slice a t.K.length cap) := hx 1; clear hx
  by_cases hlt : k < l.length
  ·obtain ⟨b, off, rfl, hbs⟩ := hv.addr (by omega)
   obtain ⟨ka, kc, c0, c1, hss, hkk⟩ := (hv.below hbb).at hlt; have hkw := hk.below hbb
   go_wp2
   have q0 := cell_regrown c0; have q1 := cell_regrown c1; have qx := cell_regrown x0; have qy := cell_regrown x1; refine wp_region_quiet_below (by kernel_rfl) (by kernel_rfl) ?_
   repeat (quiet_step (refine zgr (zbr _ l[k] t _ _ _ (zgo _) ((TmR.mk hss hkk).below (below_regrown _ _ _)) ((TmR.mk hs hkw).below (below_regrown _ _ _)))))
   refine wpQuiet_nil ?_; intro w2 hw2; obtain ⟨⟨dq, osq⟩, hw2⟩ := hw2; have hb2 : Below wr.heap.size wr w2 := hw2 ▸ below_regrown wr dq osq; clear hw2 q0 q1 qx qy
   go_wp2
   ·have he : l[k].beq t = true := by assumption
    go_ret; exact ⟨⟨k, rfl, .inr ⟨k, hlt, rfl, by rw [zgp hlt, (Tm.beq_iff _ _).1 he]⟩⟩, hbb.trans (hb2.mono (by omega))⟩
   ·have he : l[k].beq t = false := by assumption
    go_roundw
    case rel => exact ⟨k + 1, by omega, by go_num, zdh hlt hall.out (Tm.beq_no he), hb.trans (hb2.mono (by omega))⟩
    case measure => simp [intOf]; omega
  ·have he : l.take k = l := zgq (by omega)
   rw [he] at hall
   go_wp2
   go_ret; exact ⟨⟨-1, rfl, .inl ⟨rfl, hall.out⟩⟩, hbb⟩
/-- slices.EqualFunc at terms, over impl.TermSame. -/
theorem zbs (n : Nat) (ih : ∀ (t u : Tm) (v x : Value) (w : World), t.size ≤ n → TmR w t v → TmR w u x →
   Calls Tryz.prog 46 #[v, x] w fun e w' => e = .returned (.bool (t.beq u)) ∧ Below w.heap.size w w') :
  ∀ (ts us : List Tm) (v x : Value) (w : World), (∀ t ∈ ts, t.size ≤ n) → TmsR w ts v → TmsR w us x →
  Calls Tryz.prog 47 #[v, x, .func (.func 46) #[] #[]] w fun e w' => e = .returned (.bool (Tm.beqs ts us)) ∧ Below w.heap.size w w' := by
 intro ts us v x w hn hv hx; obtain ⟨a, cap, rfl, hc1, hc2⟩ := hv.form; obtain ⟨a', cap', rfl, hc1', hc2'⟩ := hx.form; have IH := zgn ih; clear ih
 by_cases hl : ts.length = us.length
 ·have hlb : ((ts.length : Int) != (us.length : Int)) = false := by rw [hl]; simp
  have hl1 : ts.length ≤ us.length := by omega
  have hl2 : us.length ≤ ts.length := by omega
  clear hl; go_enter Tryz.func47, Tryz.ntmps47; go_wp2_with fail
  go_loopw [17] (fun i wr => ∃ k : Nat, k ≤ ts.length ∧ i = .int .i64 k ∧ Hid (ts.take k = us.take k) ∧ Below w.heap.size w wr) (fun i _ => ts.length - (intOf i).toNat)
  case atStart => exact ⟨0, zgx _, rfl, rfl, zgz _ _⟩
  case round =>
   obtain ⟨k, hkl, rfl, hall, hb⟩ := hrel; have hz := hb.size
   by_cases hlt : k < ts.length
   ·obtain ⟨b, off, rfl, hbs⟩ := hv.addr (by omega)
    obtain ⟨b', off', rfl, hbs'⟩ := hx.addr (by omega)
    have hlt' : k < us.length := by omega
    obtain ⟨ka, kc, c0, c1, hss, hkk⟩ := (hv.below hb).at hlt; obtain ⟨ka', kc', c0', c1', hss', hkk'⟩ := (hx.below hb).at hlt'
    have hbz : b' < wr.heap.size := by omega
    go_wp2_with fail; refine (IH.out ts[k] us[k] _ _ _ (hn _ (zgh hlt)) (by exact (TmR.mk hss hkk).below (((zgz _ _).alloc (zgo _) _).alloc (by simp) _)) (by exact (TmR.mk hss' hkk').below (((zgz _ _).alloc (zgo _) _).alloc (by simp) _))).mono ?_; rintro e w2 ⟨rfl, hb2⟩; have hb3 : Below wr.heap.size wr w2 := (((zgz _ _).alloc (zgo _) _).alloc (by simp) _).trans (hb2.mono (by simp; omega)); clear hb2; go_wp2_with fail
    ·have he : ts[k].beq us[k] = false := by simpa using ‹(!ts[k].beq us[k]) = true›
     go_ret; refine ⟨retB ?_, hb.trans (hb3.mono (by omega))⟩; rw [eq_comm, Bool.eq_false_iff]; intro h; rw [Tm.beqs_iff] at h; subst h; exact Tm.beq_no he rfl
    ·have he : ts[k].beq us[k] = true := by simpa using ‹(!ts[k].beq us[k]) = false›
     go_roundw
     case rel => exact ⟨k + 1, by omega, by go_num, zb9 hlt hlt' hall.out ((Tm.beq_iff _ _).1 he), hb.trans (hb3.mono (by omega))⟩
     case measure => simp [intOf]; omega
   ·have he : ts.take k = ts := zgq (by omega)
    have he' : us.take k = us := zgq (by omega); rw [he, he'] at hall; go_wp2_with fail; go_ret; exact ⟨retB ((Tm.beqs_iff _ _).2 hall.out).symm, hb⟩
 ·have hlb : ((ts.length : Int) != (us.length : Int)) = true := by rw [bne_iff_ne]; omega
  have hfin : Tm.beqs ts us = false := by
   rw [Bool.eq_false_iff]; intro h; rw [Tm.beqs_iff] at h; exact hl (by rw [h])
  have HF := zgn hfin; clear hl hfin; go_enter Tryz.func47, Tryz.ntmps47; go_wp2_with fail; go_ret; exact ⟨retB HF.out.symm, zgz _ _⟩
theorem zbf (n : Nat) : ∀ (t u : Tm) (v x : Value) (w : World), t.size ≤ n → TmR w t v → TmR w u x →
  Calls Tryz.prog 46 #[v, x] w fun e w' => e = .returned (.bool (t.beq u)) ∧ Below w.heap.size w w' := by
 induction n with
 | zero => intro t; have := t.size_pos; omega
 | succ n ih =>
  rintro t u v x w hn ⟨kv, rfl, hs, hk⟩ ⟨kx, rfl, hs', hk'⟩; obtain ⟨a, cap, rfl, hc1, hc2⟩ := hk.form; obtain ⟨a', cap', rfl, hc1', hc2'⟩ := hk'.form
  have HB := zgn (show t.beq u = (decide (t.name = u.name) && Tm.beqs t.K u.K) from by cases t; cases u; rfl)
  have HK : Hid (∀ x ∈ t.K, x.size ≤ n) := fun x hx => by have := Tm.size_kid_mem hx; omega
  have IH := zgn ih; clear ih
  by_cases hnm : t.name.toList = u.name.toList
  ·have HN := zgn (zaD.1 hnm)
   go_enter Tryz.func46, Tryz.ntmps46; go_wp2_with fail; refine (zbs n IH.out t.K u.K _ _ _ HK.out (hk.below (((zgz _ _).alloc (zgo _) _).alloc (by simp) _)) (hk'.below (((zgz _ _).alloc (zgo _) _).alloc (by simp) _))).mono ?_; rintro e w2 ⟨rfl, hb2⟩; go_wp2_with fail; go_ret; exact ⟨retB (by rw [HB.out, HN.out]; simp), (((zgz _ _).alloc (zgo _) _).alloc (by simp) _).trans (hb2.mono (by simp; omega))⟩
  ·have HN := zgn (fun h => hnm (zaD.2 h))
   go_enter Tryz.func46, Tryz.ntmps46; go_wp2_with fail; go_ret; exact ⟨retB (by rw [HB.out, decide_eq_false HN.out]; rfl), ((zgz _ _).alloc (zgo _) _).alloc (by simp) _⟩
theorem zcX (t u : Tm) (v : Value) (w : World) (b : Nat) (kv : Value) (hx : TmR w u v) (hb : w.cell? ⟨b, 0, none⟩ = some (.string t.name)) (hb1 : w.cell? ⟨b, 1, none⟩ = some kv) (hs : t.name.size ≤ maxLen) (hk : TmsR w t.K kv) :
  Calls Tryz.prog 159 #[v, .pointer (some ⟨b, 0, none⟩)] w fun e w' => e = .returned (.bool (t.beq u)) ∧ Below w.heap.size w w' := by
 obtain ⟨kx, rfl, hs', hk'⟩ := hx; obtain ⟨a, cap, rfl, hc1, hc2⟩ := hk'.form; obtain ⟨a', cap', rfl, hc1', hc2'⟩ := hk.form; have hbz : b < w.heap.size := World.block_lt_of_cell? w _ hb; go_enter Tryz.func159, Tryz.ntmps159; go_wp2_with fail; refine (zbf _ t u _ _ _ (zgo _) (by exact (TmR.mk hs hk).below (zb _ _)) (by exact (TmR.mk hs' hk').below (zb _ _))).mono ?_; rintro e w2 ⟨rfl, hb2⟩; go_wp2_with fail; go_ret; exact ⟨rfl, (zb _ _).trans (hb2.mono (by simp))⟩
theorem zdx (l : List Tm) (t : Tm) (v x : Value) (w : World) (hv : TmsR w l v) (hx : TmR w t x) :
  Calls Tryz.prog 147 #[v, x] w fun e w' => (∃ n, e = .returned (.int .i64 n) ∧ Tm.IsPlace l t n) ∧ Below w.heap.size w w' := by
 obtain ⟨kx, rfl, hs, hk⟩ := hx; obtain ⟨a, cap, rfl, hc1, hc2⟩ := hk.form; obtain ⟨a', cap', rfl, hc1', hc2'⟩ := hv.form
 have idx : ∀ (pb : Nat) (w : World), TmsR w l (.slice a' l.length cap') → w.cell? ⟨pb, 0, none⟩ = some (.string t.name) → w.cell? ⟨pb, 1, none⟩ = some (.slice a t.K.length cap) → TmsR w t.K (.slice a t.K.length cap) → 
   Calls Tryz.prog 133 #[.slice a' l.length cap', .func (.func 159) #[] #[.pointer (some ⟨pb, 0, none⟩)]] w fun e w' => (∃ n, e = .returned (.int .i64 n) ∧ Tm.IsPlace l t n) ∧ Below w.heap.size w w' := by
  clear hv hk; intro pb w hv p0 p1 hk; have hpz : pb < w.heap.size := World.block_lt_of_cell? w _ p0; go_enter Tryz.func133, Tryz.ntmps133; go_wp2_with fail
  go_loopw [5, 8] (fun _ i wr => ∃ k : Nat, k ≤ l.length ∧ i = .int .i64 k ∧ Hid (t ∉ l.take k) ∧ Below w.heap.size w wr) (fun _ i _ => l.length - (intOf i).toNat)
  case atStart => exact ⟨0, zgx _, rfl, (by simp : t ∉ l.take 0), zgz _ _⟩
  case round =>
   obtain ⟨k, hkl, rfl, hall, hb⟩ := hrel; have hz := hb.size
   by_cases hlt : k < l.length
   ·obtain ⟨b, off, rfl, hbs⟩ := hv.addr (by omega)
    obtain ⟨ka, kc, c0, c1, hss, hkk⟩ := (hv.below hb).at hlt
    have hbz : b < wr.heap.size := by omega
    have q0 := (hb.cell (p := ⟨pb, 0, none⟩) hpz).trans p0; have q1 := (hb.cell (p := ⟨pb, 1, none⟩) hpz).trans p1; go_wp2_with fail; refine (zcX t l[k] _ _ pb _ (TmR.mk hss hkk) q0 q1 hs (hk.below hb)).mono ?_; rintro e w2 ⟨rfl, hb2⟩; go_wp2_with fail
    ·have he : t.beq l[k] = true := by assumption
     go_ret; exact ⟨⟨k, rfl, .inr ⟨k, hlt, rfl, by rw [zgp hlt, (Tm.beq_iff _ _).1 he]⟩⟩, hb.trans (hb2.mono (by omega))⟩
    ·have he : t.beq l[k] = false := by assumption
     go_roundw
     case rel => exact ⟨k + 1, by omega, by go_num, zdh hlt hall.out (Tm.beq_no he).symm, hb.trans (hb2.mono (by omega))⟩
     case measure => simp [intOf]; omega
   ·have he : l.take k = l := zgq (by omega)
    rw [he] at hall; go_wp2_with fail; go_ret; exact ⟨⟨-1, rfl, .inl ⟨rfl, hall.out⟩⟩, hb⟩
 have IDX := zgn idx; clear idx; go_enter Tryz.func147, Tryz.ntmps147; go_wp2_with fail; refine (IDX.out w.heap.size _ (by exact hv.below (zb _ _)) (zt _ _ _ _) (zt _ _ _ _) (by exact hk.below (zb _ _))).mono ?_; rintro e w2 ⟨⟨n, rfl, hn⟩, hb2⟩; go_wp2_with fail; go_ret; exact ⟨⟨n, rfl, hn⟩, (zb _ _).trans (hb2.mono (by simp))⟩
end Go.Proofs.YtbfinjiledfpcaaGreat
end
