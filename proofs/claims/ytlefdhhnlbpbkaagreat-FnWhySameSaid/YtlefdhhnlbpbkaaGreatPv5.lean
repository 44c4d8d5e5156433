/- Parts of the proof: Types Clo. -/
import Derived.Test.YtlefdhhnlbpbkaaGreatPv2
section
namespace Go.Proofs.YtlefdhhnlbpbkaaGreat
open Go Go.RowKit
set_option linter.unusedVariables false
set_option linter.unusedSimpArgs false
set_option maxRecDepth 100000
set_option maxHeartbeats 16000000
def zk (n : Int) : List CD := [.int n]
def zbZ (ns : List Int) : List CD := [.sl (ns.map zk)]
structure Sy where
 name : ByteArray
 args : List Int
 sort : Int
def Sy.cd (x : Sy) : List CD := [.str x.name] ++ ([.sl (x.args.map zk)] ++ [.int x.sort])
structure Sg where
 syms : List Sy
def Sg.cd (x : Sg) : List CD := [.sl (x.syms.map Sy.cd)]
structure Eqn where
 a : Tm
 b : Tm
def Eqn.cd (x : Eqn) : List CD := x.a.cd ++ x.b.cd
structure Stp where
 a : Int
 b : Int
 given : Int
def Stp.cd (x : Stp) : List CD := [.int x.a] ++ ([.int x.b] ++ [.int x.given])
inductive Wy where
 | mk (rule : Int) (n : Int) (t : Tm) (kids : List Wy)
def Wy.rule : Wy → Int | .mk rule _ _ _ => rule
def Wy.n : Wy → Int | .mk _ n _ _ => n
def Wy.t : Wy → Tm | .mk _ _ t _ => t
def Wy.kids : Wy → List Wy | .mk _ _ _ kids => kids
def Wy.cd : Wy → List CD
 | .mk rule n t kids => [.int rule] ++ ([.int n] ++ (t.cd ++ [.sl (kids.map Wy.cd)]))
theorem Wy.cd_eq (x : Wy) : x.cd = [.int x.rule] ++ ([.int x.n] ++ (x.t.cd ++ [.sl (x.kids.map Wy.cd)])) := by cases x; simp [Wy.cd, Wy.rule, Wy.n, Wy.t, Wy.kids]
structure Atm where
 kind : Int
 a : Tm
 b : Tm
 nums : List Tm
 times : List Int
 bound : Int
 strict : Bool
def Atm.cd (x : Atm) : List CD := [.int x.kind] ++ (x.a.cd ++ (x.b.cd ++ ([.sl (x.nums.map Tm.cd)] ++ ([.sl (x.times.map zk)] ++ ([.int x.bound] ++ [.bool x.strict])))))
structure Lt where
 atom : Atm
 no : Bool
def Lt.cd (x : Lt) : List CD := x.atom.cd ++ [.bool x.no]
inductive Fm where
 | mk (kind : Int) (lit : Lt) (kids : List Fm)
def Fm.kind : Fm → Int | .mk kind _ _ => kind
def Fm.lit : Fm → Lt | .mk _ lit _ => lit
def Fm.kids : Fm → List Fm | .mk _ _ kids => kids
def Fm.cd : Fm → List CD
 | .mk kind lit kids => [.int kind] ++ (lit.cd ++ [.sl (kids.map Fm.cd)])
theorem Fm.cd_eq (x : Fm) : x.cd = [.int x.kind] ++ (x.lit.cd ++ [.sl (x.kids.map Fm.cd)]) := by cases x; simp [Fm.cd, Fm.kind, Fm.lit, Fm.kids]
def fmsCd (fs : List Fm) : List CD := [.sl (fs.map Fm.cd)]
inductive Cs where
 | mk (kind : Int) (n : Int) (why : Wy) (times : List Int) (a : Tm) (b : Tm) (kids : List Cs)
def Cs.kind : Cs → Int | .mk kind _ _ _ _ _ _ => kind
def Cs.n : Cs → Int | .mk _ n _ _ _ _ _ => n
def Cs.why : Cs → Wy | .mk _ _ why _ _ _ _ => why
def Cs.times : Cs → List Int | .mk _ _ _ times _ _ _ => times
def Cs.a : Cs → Tm | .mk _ _ _ _ a _ _ => a
def Cs.b : Cs → Tm | .mk _ _ _ _ _ b _ => b
def Cs.kids : Cs → List Cs | .mk _ _ _ _ _ _ kids => kids
def Cs.cd : Cs → List CD
 | .mk kind n why times a b kids => [.int kind] ++ ([.int n] ++ (why.cd ++ ([.sl (times.map zk)] ++ (a.cd ++ (b.cd ++ [.sl (kids.map Cs.cd)])))))
theorem Cs.cd_eq (x : Cs) : x.cd = [.int x.kind] ++ ([.int x.n] ++ (x.why.cd ++ ([.sl (x.times.map zk)] ++ (x.a.cd ++ (x.b.cd ++ [.sl (x.kids.map Cs.cd)]))))) := by cases x; simp [Cs.cd, Cs.kind, Cs.n, Cs.why, Cs.times, Cs.a, Cs.b, Cs.kids]
structure Lm where
 marks : List Int
 case : Cs
def Lm.cd (x : Lm) : List CD := [.sl (x.marks.map zk)] ++ x.case.cd
structure Pp where
 lemmas : List Lm
 log : List (List Int)
def Pp.cd (x : Pp) : List CD := [.sl (x.lemmas.map Lm.cd)] ++ [.sl (x.log.map zbZ)]
structure Stk where
 sig : Sg
 levels : List (List Fm)
def Stk.cd (x : Stk) : List CD := x.sig.cd ++ [.sl (x.levels.map fmsCd)]
structure Cnf where
 many : Int
 list : List (List Int)
def Cnf.cd (x : Cnf) : List CD := [.int x.many] ++ [.sl (x.list.map zbZ)]
structure Ln where
 coefs : List Int
 bound : Int
 strict : Bool
def Ln.cd (x : Ln) : List CD := [.sl (x.coefs.map zk)] ++ ([.int x.bound] ++ [.bool x.strict])
structure Rt where
 n : Int
 d : Int
def Rt.cd (x : Rt) : List CD := [.int x.n] ++ [.int x.d]
structure Rw where
 name : ByteArray
 args : List Rt
 val : Rt
def Rw.cd (x : Rw) : List CD := [.str x.name] ++ ([.sl (x.args.map Rt.cd)] ++ x.val.cd)
structure Md where
 rows : List Rw
def Md.cd (x : Md) : List CD := [.sl (x.rows.map Rw.cd)]
/-- The place of a term among parts (0 where it is not there). -/
def Tm.pos (l : List Tm) (t : Tm) : Nat := (l.findIdx? (fun u => u.beq t)).getD 0
theorem Tm.pos_yes {l : List Tm} {t : Tm} (h : t ∈ l) : Tm.pos l t < l.length ∧ l[Tm.pos l t]? = some t := by
 unfold Tm.pos
 cases hf : l.findIdx? (fun u => u.beq t) with
 | none =>
  rw [List.findIdx?_eq_none_iff] at hf
  have := hf t h
  rw [Tm.beq_self] at this; simp at this
 | some k =>
  rw [List.findIdx?_eq_some_iff_getElem] at hf
  obtain ⟨hl, hb, _⟩ := hf
  refine ⟨by simpa using hl, ?_⟩
  simp only [Option.getD_some]
  rw [List.getElem?_eq_getElem hl, (Tm.beq_iff _ _).1 hb]
/-- In a list where each stands once there is one place. -/
theorem Tm.IsPlace.pos {l : List Tm} {t : Tm} {n : Int} (h : Tm.IsPlace l t n) (hn : l.Nodup) (ht : t ∈ l) : n = (Tm.pos l t : Nat) := by
 rcases h with ⟨_, h⟩ | ⟨k, hk, rfl, h⟩
 ·exact absurd ht h
 ·obtain ⟨h1, h2⟩ := Tm.pos_yes ht
  have h3 := (List.getElem?_eq_some_iff.1 h).2
  have h4 := (List.getElem?_eq_some_iff.1 h2).2
  have : k = Tm.pos l t := (List.getElem_inj hn).1 (h3.trans h4.symm)
  rw [this]
namespace Clo
def cl (c : List Nat) (i : Nat) : Nat := c.getD i 0
def hi (c : List Nat) (a b : Nat) : Nat := max (cl c a) (cl c b)
def lo (c : List Nat) (a b : Nat) : Nat := min (cl c a) (cl c b)
/-- l5Join, merge. -/
def join (c : List Nat) (a b : Nat) : List Nat := c.map fun k => if k = hi c a b then lo c a b else k
theorem join_len (c : List Nat) (a b : Nat) : (join c a b).length = c.length := by unfold join; rw [zew]
theorem zan {c : List Nat} {a b i : Nat} (h : i < c.length) : cl (join c a b) i = if cl c i = hi c a b then lo c a b else cl c i := by
 unfold join cl
 rw [List.getD_eq_getElem?_getD, List.getD_eq_getElem?_getD, List.getElem?_map, List.getElem?_eq_getElem h]; rfl
/-- Classes: each has its least one for its number. -/
def Good (n : Nat) (c : List Nat) : Prop := c.length = n ∧ ∀ i, i < n → cl c i ≤ i ∧ cl c (cl c i) = cl c i
theorem Good.start (n : Nat) : Good n (List.range n) := by
 refine ⟨List.length_range, fun i hi => ?_⟩
 have : cl (List.range n) i = i := by unfold cl; rw [List.getD_eq_getElem?_getD, List.getElem?_range hi]; rfl
 rw [this]; exact ⟨Nat.le_refl _, this⟩
theorem Good.join {n : Nat} {c : List Nat} (h : Good n c) {a b : Nat} (ha : a < n) (hb : b < n) : Good n (join c a b) := by
 obtain ⟨hl, hg⟩ := h
 have hla : cl c (lo c a b) = lo c a b ∧ lo c a b < n := by
  unfold lo
  have h1 := hg a ha
  have h2 := hg b hb
  rcases Nat.le_total (cl c a) (cl c b) with h | h
  ·rw [Nat.min_eq_left h]; exact ⟨h1.2, by omega⟩
  ·rw [Nat.min_eq_right h]; exact ⟨h2.2, by omega⟩
 have hlh : lo c a b ≤ hi c a b := by unfold lo hi; omega
 refine ⟨by rw [join_len]; exact hl, fun i hi' => ?_⟩
 have hgi := hg i hi'
 rw [zan (by omega)]
 split
 ·rename_i he
  refine ⟨by omega, ?_⟩
  rw [zan (by omega), hla.1]
  split
  ·rfl
  ·rfl
 ·rename_i he
  refine ⟨hgi.1, ?_⟩
  rw [zan (by omega), hgi.2, if_neg he]
/-- How many first ones there are. -/
def roots (n : Nat) (c : List Nat) : Nat := (List.range n).countP fun i => cl c i == i
theorem zdf (n : Nat) : roots n (List.range n) = n := by
 unfold roots
 rw [List.countP_eq_length.2, List.length_range]
 intro i hi
 have : cl (List.range n) i = i := by unfold cl; rw [List.getD_eq_getElem?_getD, List.getElem?_range (List.mem_range.1 hi)]; rfl
 rw [this]; simp
theorem range_split {n i : Nat} (h : i < n) : List.range n = List.range i ++ i :: (List.range (n - i - 1)).map (fun j => i + 1 + j) := by
 have : n = i + (1 + (n - i - 1)) := by omega
 conv => lhs; rw [this, List.range_add, List.range_add]
 simp [Function.comp_def, Nat.add_assoc]
theorem count_range {n i : Nat} (h : i < n) : (List.range n).count i = 1 := by
 rw [range_split h, List.count_append, List.count_cons_self, List.count_eq_zero.2, List.count_eq_zero.2]
 ·intro hm; rw [List.mem_map] at hm; obtain ⟨j, _, e⟩ := hm; omega
 ·intro hm; have := List.mem_range.1 hm; omega
theorem countP_one {p q : Nat → Bool} {x : Nat} : ∀ (l : List Nat), (∀ i ∈ l, (if p i = true then 1 else 0) = (if q i = true then 1 else 0) + (if i = x then 1 else 0)) → l.countP p = l.countP q + l.count x
 | [], _ => by simp
 | i :: l, h => by
  have h1 := h i (by simp)
  have h2 := countP_one l (fun j hj => h j (List.mem_cons_of_mem _ hj))
  rw [List.countP_cons, List.countP_cons, List.count_cons, h2]
  by_cases hx : i = x
  ·subst hx
   simp only [if_true, beq_self_eq_true] at h1 ⊢
   omega
  ·have hb : (i == x) = false := by simpa using hx
   simp only [if_neg hx, hb] at h1 ⊢
   simp only [Bool.false_eq_true, if_false]
   omega
theorem za7 {n : Nat} {c : List Nat} (h : Good n c) {a b : Nat} (ha : a < n) (hb : b < n) (hne : cl c a ≠ cl c b) : roots n c = roots n (Clo.join c a b) + 1 := by
 obtain ⟨hl, hg⟩ := h
 have h1 := hg a ha
 have h2 := hg b hb
 have hhi : cl c (hi c a b) = hi c a b ∧ hi c a b < n ∧ lo c a b < hi c a b ∧ cl c (lo c a b) = lo c a b := by
  unfold hi lo
  rcases Nat.le_total (cl c a) (cl c b) with h | h
  ·rw [Nat.max_eq_right h, Nat.min_eq_left h]; exact ⟨h2.2, by omega, by omega, h1.2⟩
  ·rw [Nat.max_eq_left h, Nat.min_eq_right h]; exact ⟨h1.2, by omega, by omega, h2.2⟩
 have := countP_one (p := fun i => cl c i == i) (q := fun i => cl (Clo.join c a b) i == i) (x := hi c a b) (List.range n) (fun i hir => by
  have hin := List.mem_range.1 hir
  rw [zan (by omega)]
  by_cases he : cl c i = hi c a b
  ·rw [if_pos he]
   have hq : ¬ lo c a b = i := fun e => by have := hhi.2.2.2; rw [e] at this; omega
   by_cases hx : i = hi c a b
   ·have : (cl c i == i) = true := by rw [he, hx]; simp
    rw [if_pos this, if_neg (by simpa using hq), if_pos hx]
   ·have : ¬ (cl c i == i) = true := by simp; intro e; exact hx (e.symm.trans he)
    rw [if_neg this, if_neg (by simpa using hq), if_neg hx]
  ·rw [if_neg he]
   have hx : ¬ i = hi c a b := fun e => by apply he; rw [e]; exact hhi.1
   rw [if_neg hx]; omega)
 unfold roots
 rw [this, count_range hhi.2.1]
theorem roots_pos {n : Nat} {c : List Nat} (h : Good n c) {a : Nat} (ha : a < n) : 1 ≤ roots n c := by
 have h1 := h.2 a ha
 unfold roots
 exact List.countP_pos_iff.2 ⟨cl c a, List.mem_range.2 (by omega), by simpa using h1.2⟩
/-- All parts of two are in one class each. -/
def kidsB (ps : List Tm) (c : List Nat) : List Tm → List Tm → Bool
 | [], [] => true
 | x :: xs, y :: ys => (cl c (Tm.pos ps x) == cl c (Tm.pos ps y)) && kidsB ps c xs ys
 | _, _ => false
/-- l5Alike, congruent. -/
def alikeB (ps : List Tm) (c : List Nat) (x y : Tm) : Bool := (decide (x.name = y.name) && decide (0 < x.kids.length)) && kidsB ps c x.kids y.kids
def badB (ps : List Tm) (c : List Nat) (k i : Nat) : Bool := match ps[k]?, ps[i]? with
 | some x, some y => (cl c k != cl c i) && alikeB ps c x y
 | _, _ => false
/-- l5Next, pair. -/
def next (ps : List Tm) (c : List Nat) : Option (Nat × Nat) := (List.range ps.length).findSome? fun i => ((List.range i).find? fun k => badB ps c k i).map fun k => (k, i)
/-- No pair up to here. -/
def Upto (ps : List Tm) (c : List Nat) (i : Nat) : Prop := ∀ j, j < i → ∀ k, k < j → badB ps c k j = false
def Upto2 (ps : List Tm) (c : List Nat) (i k : Nat) : Prop := ∀ j, j < k → badB ps c j i = false
theorem zcL {ps : List Tm} {c : List Nat} {i : Nat} (h : ∀ k, k < i → badB ps c k i = false) : (List.range i).find? (fun k => badB ps c k i) = none := by
 rw [List.find?_eq_none]; intro k hk; rw [h k (List.mem_range.1 hk)]; simp
theorem next_none {ps : List Tm} {c : List Nat} (h : Upto ps c ps.length) : next ps c = none := by
 unfold next
 rw [List.findSome?_eq_none_iff]
 intro i hi
 rw [zcL (h i (List.mem_range.1 hi))]; rfl
theorem next_some {ps : List Tm} {c : List Nat} {i k : Nat} (h1 : Upto ps c i) (h2 : Upto2 ps c i k) (hk : k < i) (hi : i < ps.length) (hb : badB ps c k i = true) : next ps c = some (k, i) := by
 unfold next
 rw [range_split hi, List.findSome?_append]
 have e1 : (List.range i).findSome? (fun i => ((List.range i).find? fun k => badB ps c k i).map fun k => (k, i)) = none := by
  rw [List.findSome?_eq_none_iff]
  intro j hj
  rw [zcL (h1 j (List.mem_range.1 hj))]; rfl
 rw [e1, Option.none_or, List.findSome?_cons]
 have e2 : (List.range i).find? (fun k => badB ps c k i) = some k := by
  rw [range_split hk, List.find?_append]
  have e3 : (List.range k).find? (fun k => badB ps c k i) = none := by
   rw [List.find?_eq_none]; intro j hj; rw [h2 j (List.mem_range.1 hj)]; simp
  rw [e3, Option.none_or, List.find?_cons, hb]
 rw [e2]; rfl
theorem next_spec {ps : List Tm} {c : List Nat} {k i : Nat} (h : next ps c = some (k, i)) : k < i ∧ i < ps.length ∧ badB ps c k i = true := by
 unfold next at h
 obtain ⟨j, hj, e⟩ := List.exists_of_findSome?_eq_some h
 cases hf : (List.range j).find? (fun k => badB ps c k j) with
 | none => rw [hf] at e; simp at e
 | some q =>
  rw [hf] at e
  simp only [Option.map_some, Option.some.injEq, Prod.mk.injEq] at e
  obtain ⟨rfl, rfl⟩ := e
  have h1 := List.mem_of_find?_eq_some hf
  have h2 := List.find?_some hf
  exact ⟨List.mem_range.1 h1, List.mem_range.1 hj, h2⟩
theorem bad_ne {ps : List Tm} {c : List Nat} {k i : Nat} (h : badB ps c k i = true) : cl c k ≠ cl c i := by
 unfold badB at h
 split at h
 ·simp only [zex, bne_iff_ne, ne_eq] at h; exact h.1
 ·simp at h
/-- The steps of congruence, as many as there may be. -/
def run (ps : List Tm) : Nat → List Nat → List Stp → List Nat × List Stp
 | 0, c, st => (c, st)
 | f + 1, c, st => match next ps c with
  | none => (c, st)
  | some (k, i) => run ps f (join c k i) (st ++ [⟨k, i, -1⟩])
theorem run_none {ps : List Tm} {c : List Nat} {st : List Stp} (h : next ps c = none) : ∀ f, run ps f c st = (c, st)
 | 0 => rfl
 | f + 1 => by unfold run; rw [h]
theorem run_some {ps : List Tm} {c : List Nat} {st : List Stp} {f k i : Nat} (h : next ps c = some (k, i)) : run ps (f + 1) c st = run ps f (join c k i) (st ++ [⟨k, i, -1⟩]) := by
 conv => lhs; unfold run
 rw [h]
/-- The given equations, each a step where its sides are two classes. -/
def given (ps : List Tm) : List Eqn → Nat → List Nat → List Stp → List Nat × List Stp
 | [], _, c, st => (c, st)
 | e :: es, n, c, st => if cl c (Tm.pos ps e.a) = cl c (Tm.pos ps e.b) then given ps es (n + 1) c st else given ps es (n + 1) (join c (Tm.pos ps e.a) (Tm.pos ps e.b)) (st ++ [⟨Tm.pos ps e.a, Tm.pos ps e.b, n⟩])
/-- l5Run, closed. -/
def close (ps : List Tm) (es : List Eqn) : List Nat × List Stp :=
 let g := given ps es 0 (List.range ps.length) []
 run ps ps.length g.1 g.2
end Clo
end Go.Proofs.YtlefdhhnlbpbkaaGreat
end
