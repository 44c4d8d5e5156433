/- Parts of the proof: WhyP WhQ Ever WhyH. -/
import Derived.Test.YtlefdhhnlbpbkaaPb13
import Derived.Test.YtlefdhhnlbpbkaaPb18
import Derived.Test.YtlefdhhnlbpbkaaPb10
import Derived.Test.YtlefdhhnlbpbkaaPb19
import Derived.Deep.RegionHeld3
import Derived.BigQuiet
import Derived.BigRegion
import Derived.Test.YtlefdhhnlbpbkaaPb7
section
namespace Go.Proofs.Ytlefdhhnlbpbkaa
open Go Go.RowKit
set_option linter.unusedVariables false
set_option linter.unusedSimpArgs false
set_option maxRecDepth 100000
set_option maxHeartbeats 16000000
def zcj (t : Tm) : Bool := t.name.toList == [] && ((t.kids.length : Int) == 0)
/-- What a rule tells of what its parts tell. -/
def zL (es : List Eqn) (r n : Int) (t : Tm) (l : List Eqn) : Option Eqn :=
 if r = 1 then (if n = 0 ∧ l.length = 0 ∧ t.wf = true then some ⟨t, t⟩ else none)
 else if r = 2 then (if l.length = 0 ∧ zcj t = true ∧ 0 ≤ n then es[n.toNat]? else none)
 else if r = 3 then (if n = 0 ∧ zcj t = true then (match l with | [e] => some ⟨e.b, e.a⟩ | _ => none) else none)
 else if r = 4 then (if n = 0 ∧ zcj t = true then (match l with | [e, f] => if e.b.beq f.a = true then some ⟨e.a, f.b⟩ else none | _ => none) else none)
 else if r = 5 then (if n = 0 ∧ 0 < l.length ∧ t.kids.length = 0 ∧ (Tm.mk t.name (l.map Eqn.a)).wf = true ∧ (Tm.mk t.name (l.map Eqn.b)).wf = true then some ⟨.mk t.name (l.map Eqn.a), .mk t.name (l.map Eqn.b)⟩ else none)
 else none
mutual
def Wy.tells (es : List Eqn) : Nat → Wy → Option Eqn
 | d, .mk r n t ks => if d = 0 then none else (Wy.tellsL es (d - 1) ks).bind (zL es r n t)
def Wy.tellsL (es : List Eqn) : Nat → List Wy → Option (List Eqn)
 | _, [] => some []
 | d, k :: ks => (Wy.tells es d k).bind fun e => (Wy.tellsL es d ks).bind fun l => some (e :: l)
end
theorem Wy.tells_eq (es : List Eqn) (d : Nat) (r n : Int) (t : Tm) (ks : List Wy) : Wy.tells es d (.mk r n t ks) = if d = 0 then none else (Wy.tellsL es (d - 1) ks).bind (zL es r n t) := by simp only [Wy.tells]
theorem Wy.tellsL_app (es : List Eqn) (d : Nat) : ∀ (a b : List Wy), Wy.tellsL es d (a ++ b) = (Wy.tellsL es d a).bind fun l => (Wy.tellsL es d b).bind fun m => some (l ++ m)
 | [], b => by simp only [List.nil_append, Wy.tellsL, Option.bind_some]; cases Wy.tellsL es d b <;> rfl
 | k :: a, b => by
  simp only [List.cons_append, Wy.tellsL, Wy.tellsL_app es d a b]
  cases Wy.tells es d k <;> simp
  cases Wy.tellsL es d a <;> simp
  cases Wy.tellsL es d b <;> simp
theorem Wy.tellsL_yes {es : List Eqn} {d : Nat} {ks : List Wy} {k : Nat} (hk : k < ks.length) {l : List Eqn} {e : Eqn} (h : Wy.tellsL es d (ks.take k) = some l) (he : Wy.tells es d ks[k] = some e) : Wy.tellsL es d (ks.take (k + 1)) = some (l ++ [e]) := by
 rw [zd0 hk, Wy.tellsL_app, h]; simp [Wy.tellsL, he]
theorem Wy.tellsL_no {es : List Eqn} {d : Nat} {ks : List Wy} {k : Nat} (hk : k < ks.length) {l : List Eqn} (h : Wy.tellsL es d (ks.take k) = some l) (he : Wy.tells es d ks[k] = none) : Wy.tellsL es d ks = none := by
 have h1 : ks = ks.take k ++ ks[k] :: ks.drop (k + 1) := by rw [← List.drop_eq_getElem_cons hk, List.take_append_drop]
 rw [h1, Wy.tellsL_app, h]; simp [Wy.tellsL, he]
theorem Wy.tells_none {es : List Eqn} {d : Nat} {r n : Int} {t : Tm} {ks : List Wy} {l : List Eqn} (h : Wy.tellsL es d ks = some l) (h1 : zL es r n t l = none) : Wy.tells es (d + 1) (.mk r n t ks) = none := by
 rw [Wy.tells_eq, if_neg (by omega), Nat.add_sub_cancel, h]; simp [h1]
theorem Wy.tells_some {es : List Eqn} {d : Nat} {r n : Int} {t : Tm} {ks : List Wy} {l : List Eqn} {e : Eqn} (h : Wy.tellsL es d ks = some l) (h1 : zL es r n t l = some e) : Wy.tells es (d + 1) (.mk r n t ks) = some e := by
 rw [Wy.tells_eq, if_neg (by omega), Nat.add_sub_cancel, h]; simp [h1]
theorem Wy.tells_bad {es : List Eqn} {d : Nat} {r n : Int} {t : Tm} {ks : List Wy} (h : Wy.tellsL es d ks = none) : Wy.tells es (d + 1) (.mk r n t ks) = none := by
 rw [Wy.tells_eq, if_neg (by omega), Nat.add_sub_cancel, h]; rfl
theorem Wy.tells_zero {es : List Eqn} (x : Wy) : Wy.tells es 0 x = none := by cases x; rw [Wy.tells_eq]; rfl
/-- All that is told is small. -/
def Eqn.lit (e : Eqn) : Prop := e.a.size ≤ 12 ∧ e.b.size ≤ 12
theorem zba {t : Tm} (h : t.wf = true) : t.size ≤ 12 := by unfold Tm.wf at h; simp only [zd7, decide_eq_true_eq] at h; exact h.2
theorem tell1_lit {es : List Eqn} {r n : Int} {t : Tm} {l : List Eqn} {q : Eqn} (hes : ∀ e ∈ es, e.lit) (hl : ∀ e ∈ l, e.lit) (h : zL es r n t l = some q) : q.lit := by
 unfold zL at h
 split at h
 ·split at h
  ·rename_i h1; obtain rfl := Option.some.inj h; exact ⟨zba h1.2.2, zba h1.2.2⟩
  ·cases h
 split at h
 ·split at h
  ·exact hes _ (List.mem_of_getElem? h)
  ·cases h
 split at h
 ·split at h
  ·split at h
   ·rename_i e; obtain rfl := Option.some.inj h; exact ⟨(hl e (by simp)).2, (hl e (by simp)).1⟩
   ·cases h
  ·cases h
 split at h
 ·split at h
  ·split at h
   ·rename_i e f
    split at h
    ·obtain rfl := Option.some.inj h; exact ⟨(hl e (by simp)).1, (hl f (by simp)).2⟩
    ·cases h
   ·cases h
  ·cases h
 split at h
 ·split at h
  ·rename_i h1; obtain rfl := Option.some.inj h; exact ⟨zba h1.2.2.2.1, zba h1.2.2.2.2⟩
  ·cases h
 ·cases h
mutual
theorem Wy.tells_lit {es : List Eqn} (hes : ∀ e ∈ es, e.lit) : ∀ (d : Nat) (x : Wy) (q : Eqn), Wy.tells es d x = some q → q.lit
 | d, .mk r n t ks, q, h => by
  rw [Wy.tells_eq] at h
  split at h
  ·cases h
  ·obtain ⟨l, h1, h2⟩ := Option.bind_eq_some_iff.1 h
   exact tell1_lit hes (Wy.tellsL_lit hes (d - 1) ks l h1) h2
theorem Wy.tellsL_lit {es : List Eqn} (hes : ∀ e ∈ es, e.lit) : ∀ (d : Nat) (ks : List Wy) (l : List Eqn), Wy.tellsL es d ks = some l → ∀ e ∈ l, e.lit
 | d, [], l, h => by simp [Wy.tellsL] at h; subst h; intro e he; cases he
 | d, k :: ks, l, h => by
  simp only [Wy.tellsL, Option.bind_eq_some_iff] at h
  obtain ⟨e, h1, m, h2, h3⟩ := h
  obtain rfl := Option.some.inj h3
  intro y hy
  rcases zd5.1 hy with rfl | hy
  ·exact Wy.tells_lit hes d k _ h1
  ·exact Wy.tellsL_lit hes d ks m h2 y hy
end
/-- No reason in it has too many parts. -/
inductive Wy.thin : Wy → Prop where
 | mk (r n : Int) (t : Tm) (ks : List Wy) (ht : t.size ≤ 1000000000) (h : ks.length ≤ 1048576) (hk : ∀ y ∈ ks, Wy.thin y) : Wy.thin (.mk r n t ks)
theorem Wy.thin_kids {x : Wy} (h : x.thin) : x.kids.length ≤ 1048576 ∧ ∀ y ∈ x.kids, y.thin := by cases h with | mk r n t ks ht h hk => exact ⟨h, hk⟩
/-- What WhyTells gives. -/
def whyT (s : Sg) (es : List Eqn) (x : Wy) : Option Eqn := if eqsB s es = true then (match Wy.tells es 400 x with | none => none | some q => if eqsB s [q] = true then some q else none) else none
/-- A step between parts. -/
def zav (ps : List Tm) (s : Stp) : Prop := ∃ a b : Nat, s.a = (a : Int) ∧ s.b = (b : Int) ∧ ∃ (ha : a < ps.length) (hb : b < ps.length), (-1 ≤ s.given ∧ s.given ≤ 1000000) ∧ (s.given < 0 → ps[a].kids.length = ps[b].kids.length)
theorem zb3 {ps : List Tm} {c : List Nat} : ∀ {xs ys : List Tm}, Clo.kidsB ps c xs ys = true → xs.length = ys.length
 | [], [], _ => rfl
 | x :: xs, y :: ys, h => by
  simp only [Clo.kidsB, zd7] at h
  simp [zb3 h.2]
 | [], _ :: _, h => by simp [Clo.kidsB] at h
 | _ :: _, [], h => by simp [Clo.kidsB] at h
theorem zby {ps : List Tm} : ∀ (es : List Eqn) (n : Nat) (c : List Nat) (st : List Stp), (∀ e ∈ es, e.a ∈ ps ∧ e.b ∈ ps) → n + es.length ≤ 1000000 → (∀ s ∈ st, zav ps s) → ∀ s ∈ (Clo.given ps es n c st).2, zav ps s
 | [], n, c, st, _, _, h => h
 | e :: es, n, c, st, hin, hn, h => by
  unfold Clo.given
  simp only [List.length_cons] at hn
  have hi : ∀ q ∈ es, q.a ∈ ps ∧ q.b ∈ ps := fun q hq => hin q (List.mem_cons_of_mem _ hq)
  have he := hin e (by simp)
  split
  ·exact zby es _ _ _ hi (by omega) h
  ·refine zby es _ _ _ hi (by omega) fun s hs => ?_
   rcases zd1.1 hs with hs | hs
   ·exact h s hs
   ·obtain rfl := List.mem_singleton.1 hs
    exact ⟨_, _, rfl, rfl, (Tm.pos_yes he.1).1, (Tm.pos_yes he.2).1, ⟨by simp only; omega, by simp only; omega⟩, fun h9 => by simp only at h9; omega⟩
theorem run_fit {ps : List Tm} : ∀ (f : Nat) (c : List Nat) (st : List Stp), (∀ s ∈ st, zav ps s) → ∀ s ∈ (Clo.run ps f c st).2, zav ps s
 | 0, c, st, h => h
 | f + 1, c, st, h => by
  cases hn : Clo.next ps c with
  | none => rw [Clo.run_none hn]; exact h
  | some q =>
   obtain ⟨k, i⟩ := q
   rw [Clo.run_some hn]
   obtain ⟨hk, hi, hb⟩ := Clo.next_spec hn
   refine run_fit f _ _ fun s hs => ?_
   rcases zd1.1 hs with hs | hs
   ·exact h s hs
   ·obtain rfl := List.mem_singleton.1 hs
    have hkl : k < ps.length := by omega
    refine ⟨k, i, rfl, rfl, hkl, hi, ⟨by simp, by simp⟩, fun _ => ?_⟩
    unfold Clo.badB at hb
    rw [List.getElem?_eq_getElem hkl, List.getElem?_eq_getElem hi] at hb
    simp only [Clo.alikeB, zd7] at hb
    exact zb3 hb.2.2
theorem close_fit {ps : List Tm} {es : List Eqn} (hin : ∀ e ∈ es, e.a ∈ ps ∧ e.b ∈ ps) (hn : es.length ≤ 1000000) : ∀ s ∈ (Clo.close ps es).2, zav ps s :=
 run_fit _ _ _ (zby es 0 _ [] hin (by omega) (by simp))
/-- Where a step leads from a part; none: below 0. -/
def Stp.next (s : Stp) (from_ : Int) : Int := if s.b = from_ then s.a else if s.a = from_ then s.b else -1
def Stp.sign (s : Stp) (from_ : Int) (i : Nat) : Int := if s.b = from_ then -1 - (i : Int) else (i : Int)
/-- The way, as l5Way finds it. -/
def way (st : List Stp) (n : Nat) : Nat → Int → Int → List Int → Option (List Int)
 | 0, _, _, _ => none
 | N + 1, a, b, seen => if a = b then some [] else (List.range n).findSome? fun i => match st[i]? with
  | none => none
  | some s => if s.next a < 0 ∨ s.next a ∈ seen then none else (way st n N (s.next a) b (seen ++ [s.next a])).map (s.sign a i :: ·)
def zbK (st : List Stp) (n N : Nat) (a b : Int) (seen : List Int) (i : Nat) : Option (List Int) := match st[i]? with
  | none => none
  | some s => if s.next a < 0 ∨ s.next a ∈ seen then none else (way st n N (s.next a) b (seen ++ [s.next a])).map (s.sign a i :: ·)
theorem zdj (st : List Stp) (n N : Nat) (a : Int) (seen : List Int) : way st n (N + 1) a a seen = some [] := by unfold way; rw [if_pos rfl]
theorem zck {st : List Stp} {n N : Nat} {a b : Int} {seen : List Int} (h : a ≠ b) : way st n (N + 1) a b seen = (List.range n).findSome? (zbK st n N a b seen) := by
 conv => lhs; unfold way
 rw [if_neg h]; rfl
theorem zb4 {st : List Stp} {n N i : Nat} {a b : Int} {seen : List Int} (hi : i < st.length) (h : st[i].next a < 0 ∨ st[i].next a ∈ seen) : zbK st n N a b seen i = none := by
 unfold zbK; rw [List.getElem?_eq_getElem hi]; simp only; rw [if_pos h]
theorem zdk {st : List Stp} {n N i : Nat} {a b : Int} {seen : List Int} (hi : i < st.length) (h : ¬ (st[i].next a < 0 ∨ st[i].next a ∈ seen)) : zbK st n N a b seen i = (way st n N (st[i].next a) b (seen ++ [st[i].next a])).map (st[i].sign a i :: ·) := by
 unfold zbK; rw [List.getElem?_eq_getElem hi]; simp only; rw [if_neg h]
/-- The first so many lead nowhere. -/
def WayNo (st : List Stp) (n N : Nat) (a b : Int) (seen : List Int) (i : Nat) : Prop := ∀ j, j < i → zbK st n N a b seen j = none
theorem WayNo.succ {st : List Stp} {n N i : Nat} {a b : Int} {seen : List Int} (h : WayNo st n N a b seen i) (hi : zbK st n N a b seen i = none) : WayNo st n N a b seen (i + 1) := fun j hj => by
 rcases Nat.lt_or_ge j i with h1 | h1
 ·exact h j h1
 ·have : j = i := by omega
  subst this; exact hi
theorem WayNo.none {st : List Stp} {n N : Nat} {a b : Int} {seen : List Int} (h : WayNo st n N a b seen n) (hab : a ≠ b) : way st n (N + 1) a b seen = none := by
 rw [zck hab, List.findSome?_eq_none_iff]
 intro i hi
 exact h i (List.mem_range.1 hi)
theorem WayNo.some {st : List Stp} {n N i : Nat} {a b : Int} {seen : List Int} (h : WayNo st n N a b seen i) (hab : a ≠ b) (hi : i < n) {l : List Int} (hl : zbK st n N a b seen i = some l) : way st n (N + 1) a b seen = some l := by
 rw [zck hab, Clo.range_split hi, List.findSome?_append]
 have e1 : (List.range i).findSome? (zbK st n N a b seen) = Option.none := by
  rw [List.findSome?_eq_none_iff]
  intro j hj
  exact h j (List.mem_range.1 hj)
 rw [e1, Option.none_or, List.findSome?_cons, hl]
/-- How many parts are not seen yet. -/
def zbz (m : Nat) (seen : List Int) : Nat := (List.range m).countP fun i : Nat => decide ((i : Int) ∉ seen)
theorem zb5 {m : Nat} {seen : List Int} {k : Nat} (hk : k < m) (h : (k : Int) ∉ seen) : zbz m (seen ++ [(k : Int)]) + 1 ≤ zbz m seen := by
 have h1 := Clo.countP_one (p := fun i => decide ((i : Int) ∉ seen)) (q := fun i => decide ((i : Int) ∉ seen ++ [(k : Int)])) (x := k) (List.range m) (fun i _ => by
  by_cases hik : i = k
  ·subst hik; simp [h]
  ·have : ¬ ((i : Int) = (k : Int)) := by omega
   simp [hik, this])
 rw [Clo.count_range hk] at h1
 unfold zbz; omega
theorem unseen_le (m : Nat) (seen : List Int) : zbz m seen ≤ m := by
 unfold zbz
 have := List.countP_le_length (p := fun i : Nat => decide ((i : Int) ∉ seen)) (l := List.range m)
 simpa using this
/-- Each of the way's numbers names a step among the first n, or the same gone backwards. -/
def WayIn (n : Nat) (l : List Int) : Prop := ∀ k ∈ l, -(n : Int) ≤ k ∧ k < n
theorem zdl (st : List Stp) (n : Nat) : ∀ (N : Nat) (a b : Int) (seen l : List Int), way st n N a b seen = some l → WayIn n l ∧ l.length ≤ N
 | 0, a, b, seen, l, h => by simp [way] at h
 | N + 1, a, b, seen, l, h => by
  by_cases hab : a = b
  ·subst hab
   rw [zdj] at h
   obtain rfl := Option.some.inj h
   exact ⟨(fun k hk => by cases hk), Nat.zero_le _⟩
  ·rw [zck hab] at h
   obtain ⟨i, hi, h1⟩ := List.exists_of_findSome?_eq_some h
   have hin := List.mem_range.1 hi
   unfold zbK at h1
   split at h1
   ·cases h1
   ·rename_i s hs
    split at h1
    ·cases h1
    ·simp only [Option.map_eq_some_iff] at h1
     obtain ⟨m, h2, rfl⟩ := h1
     have h3 := zdl st n N _ _ _ _ h2
     refine ⟨fun k hk => ?_, by simp only [List.length_cons]; omega⟩
     rcases zd5.1 hk with rfl | hk
     ·unfold Stp.sign; split <;> omega
     ·exact h3.1 k hk
/-- What the reference gives back: the numbers. -/
def wayL (st : List Stp) (n N : Nat) (a b : Int) (seen : List Int) : List Int := (way st n N a b seen).getD []
/-- Why a step makes its parts one. -/
def oneW (ps : List Tm) (st : List Stp) (rec : Nat → Nat → Wy) (i : Nat) : Wy := match st[i]? with
 | none => .mk 0 0 ⟨⟨#[]⟩, []⟩ []
 | some s => if 0 ≤ s.given then .mk 2 s.given ⟨⟨#[]⟩, []⟩ [] else
  match ps[s.a.toNat]?, ps[s.b.toNat]? with
  | some x, some y => .mk 5 0 ⟨x.name, []⟩ ((x.kids.zip y.kids).map fun p => rec (Tm.pos ps p.1) (Tm.pos ps p.2))
  | _, _ => .mk 0 0 ⟨⟨#[]⟩, []⟩ []
/-- One link of the way. -/
def zbb (one : Nat → Wy) (k : Int) : Wy := if k < 0 then .mk 3 0 ⟨⟨#[]⟩, []⟩ [one (-1 - k).toNat] else one k.toNat
def zag (one : Nat → Wy) : List Int → Wy
 | [] => .mk 0 0 ⟨⟨#[]⟩, []⟩ []
 | k :: ks => ks.foldl (fun out q => .mk 4 0 ⟨⟨#[]⟩, []⟩ [out, zbb one q]) (zbb one k)
theorem zc2 (one : Nat → Wy) (ks : List Int) (h : ks ≠ []) (k : Int) : zag one (ks ++ [k]) = .mk 4 0 ⟨⟨#[]⟩, []⟩ [zag one ks, zbb one k] := by
 cases ks with
 | nil => exact absurd rfl h
 | cons q ks => simp [zag, List.foldl_append]
/-- The reason, as l5Why builds it. -/
def whyW (ps : List Tm) (st : List Stp) : Nat → Nat → Nat → Nat → Wy
 | 0, _, a, _ => .mk 1 0 (ps.getD a ⟨⟨#[]⟩, []⟩) []
 | F + 1, n, a, b => match wayL st n (ps.length + 1) a b [(a : Int)] with
  | [] => .mk 1 0 (ps.getD a ⟨⟨#[]⟩, []⟩) []
  | k :: ks => zag (fun i => oneW ps st (fun p q => whyW ps st F i p q) i) (k :: ks)
theorem wayL_zero (st : List Stp) (N : Nat) (a b : Int) (seen : List Int) : wayL st 0 N a b seen = [] := by
 unfold wayL
 cases h : way st 0 N a b seen with
 | none => rfl
 | some l =>
  have h1 := zdl st 0 N a b seen l h
  cases l with
  | nil => rfl
  | cons k l => have := h1.1 k (by simp); omega
theorem zcC {ps : List Tm} {st : List Stp} {F n a b : Nat} (hn : n ≤ F) (h : wayL st n (ps.length + 1) a b [(a : Int)] = []) : whyW ps st F n a b = .mk 1 0 (ps.getD a ⟨⟨#[]⟩, []⟩) [] := by
 cases F with
 | zero => rfl
 | succ F => unfold whyW; rw [h]
theorem zdC {ps : List Tm} {st : List Stp} {F n a b : Nat} {l : List Int} (h : wayL st n (ps.length + 1) a b [(a : Int)] = l) (hl : l ≠ []) : whyW ps st (F + 1) n a b = zag (fun i => oneW ps st (fun p q => whyW ps st F i p q) i) l := by
 cases l with
 | nil => exact absurd rfl hl
 | cons k ks =>
  conv => lhs; unfold whyW
  rw [h]
section
variable {P : Program} {ops : Array Oper} {Q : Exit → Act → World → Prop} {F : World → Prop}
/-- Whatever comes up next; F holds behind it. -/
def Ever (P : Program) (ops : Array Oper) (Q : Exit → Act → World → Prop) (F : World → Prop) : Nat → Array Bool → Act → World → Prop
 | 0, up, a, w => Region.ready .any ops up = [] ∧ Q .normal a w
 | n + 1, up, a, w => (Region.ready .any ops up = [] → Q .normal a w) ∧
   ∀ i, i ∈ Region.ready .any ops up → wpOp P ops Q i (fun b u => F u ∧ Ever P ops Q F n (up.setIfInBounds i true) b u) a w
theorem Ever.drop : ∀ (n : Nat) (up : Array Bool) (a : Act) (w : World), Ever P ops Q F n up a w → wpAny P .any ops Q n up a w
 | 0, _, _, _, h => h
 | n + 1, _, _, _, h => ⟨h.1, fun i hi => wpOp_mono (fun b u k => Ever.drop n _ b u k.2) (h.2 i hi)⟩
theorem Ever.start {id : Nat} {a : Act} {w : World} (hm : P.follows .mixedOrders = true) (h : Ever P ops Q F ops.size (Array.replicate ops.size false) a w.drew) : (Code.region id ops true).wp P Q a w :=
 wp_region_any hm (Ever.drop _ _ _ _ h)
theorem Ever.done {up : Array Bool} {a : Act} {w : World} (hr : Region.ready .any ops up = []) (h : Q .normal a w) : ∀ n, Ever P ops Q F n up a w
 | 0 => ⟨hr, h⟩
 | _ + 1 => ⟨fun _ => h, by rw [hr]; simp⟩
/-- One alone may come up. -/
theorem Ever.one {i : Nat} {o : Oper} {n : Nat} {up : Array Bool} {a : Act} {w : World} (hr : Region.ready .any ops up = [i]) (ho : ops[i]? = some o)
  (h : ∀ K' : Act → World → Prop, Hid (∀ b u, F u → Ever P ops Q F n (up.setIfInBounds i true) b u → K' b u) → if Region.wanted o (yielded ops a.tmps) = true then Oper.wp P o a w K' Q else K' (a.put o.dst undef) w) :
  Ever P ops Q F (n + 1) up a w := by
 refine ⟨fun h0 => (by rw [hr] at h0; cases h0), fun j hj => ?_⟩
 rw [hr] at hj
 obtain rfl := List.mem_singleton.1 hj
 exact wpOp_step ho fun K' hK => h K' (Lib.hid fun b u h1 h2 => hK b u ⟨h1, h2⟩)
/-- One that only reads is taken first. -/
theorem Ever.early {i : Nat} {oi : Oper} {v : Value} (hi : ops[i]? = some oi) (hsel : ∀ (j : Nat) (o : Oper) cs b, ops[j]? = some o → o.op ≠ .select cs b)
  (hQ : ∀ c a w, Q (.panic c) (a.put oi.dst v) w → Q (.panic c) a w) :
  ∀ (n : Nat) (up : Array Bool) (a : Act) (w : World), (∀ j oj, ops[j]? = some oj → j ≠ i → up.getD j true = false → (∀ e ∈ oj.after, Region.binds .any e = true → e.on ≠ i) → oi.apart ops oj = true) →
   i ∈ Region.ready .any ops up → YieldsIf P ops F oi v a → F w →
   Ever P ops Q F n (up.setIfInBounds i true) (a.put oi.dst v) w → Ever P ops Q F (n + 1) up a w
 | 0, up, a, w, _, hr, hy, hF, H => by
  refine ⟨fun h => (by rw [h] at hr; cases hr), fun j hj => ?_⟩
  by_cases hji : j = i
  ·subst hji; exact hy.wpOp hi hF ⟨hF, H⟩
  ·have := ready_mono hj hji
   rw [H.1] at this; cases this
 | n + 1, up, a, w, hfree, hr, hy, hF, H => by
  refine ⟨fun h => (by rw [h] at hr; cases hr), fun j hj => ?_⟩
  by_cases hji : j = i
  ·subst hji; exact hy.wpOp hi hF ⟨hF, H⟩
  obtain ⟨hjun, oj, hoj, hall⟩ := mem_ready.1 hj
  have hiun : up.getD i true = false := (mem_ready.1 hr).1
  have hnot : ∀ e ∈ oj.after, Region.binds .any e = true → e.on ≠ i := fun e he hb heq => by
   have h1 := hall e he hb
   rw [heq] at h1
   rcases Nat.lt_or_ge i up.size with h' | h'
   ·simp [h'] at hiun h1; rw [hiun] at h1; cases h1
   ·simp [Array.getElem?_eq_none h'] at h1
  refine wpOp_mono (fun b u k => ?_) (wpOp_putIf hoj (hfree j oj hoj hji hjun hnot) (fun cs b => hsel i oi cs b hi) (fun cs b => hsel j oj cs b hoj) hQ hy (H.2 j (ready_mono hj hji)))
  obtain ⟨k1, k2, k3⟩ := k
  refine ⟨k2, Ever.early hi hsel hQ n _ b u (fun m om hm hmi hun hno => hfree m om hm hmi ?_ hno) (ready_mono hr (Ne.symm hji)) k1 k2 ?_⟩
  ·by_cases hjm : j = m
   ·subst hjm; exact hjun
   ·rwa [getD_set_ne true hjm] at hun
  ·rw [Array.setIfInBounds_comm _ _ hji]; exact k3
theorem Ever.take {i : Nat} {oi : Oper} {v : Value} {n : Nat} {up : Array Bool} {a : Act} {w : World} (hi : ops[i]? = some oi) (hs : Region.noSelect ops = true) (hf : Region.free .any ops up i = true) (hr : (Region.ready .any ops up).contains i = true)
  (hQ : ∀ c a w, Q (.panic c) (a.put oi.dst v) w → Q (.panic c) a w) (hy : YieldsIf P ops F oi v a) (hF : F w)
  (h : Ever P ops Q F n (up.setIfInBounds i true) (a.put oi.dst v) w) : Ever P ops Q F (n + 1) up a w :=
 Ever.early hi (Region.noSelect_spec hs) hQ n up a w (Region.free_spec hi hf) (by simpa using hr) hy hF h
end
/-- What comes back: an equation, read where one is told, and whether one is. -/
def zM (lo : Nat) (o : Option Eqn) (w : World) (e : Ending) (w' : World) : Prop := ∃ (n0 : ByteArray) (a1 : Option Addr) (m1 c1 : Nat) (n2 : ByteArray) (a3 : Option Addr) (m3 c3 : Nat), e = .returned (.tuple #[.agg #[.string n0, .slice a1 m1 c1, .string n2, .slice a3 m3 c3], .bool o.isSome]) ∧
 (∀ q, o = some q → ∃ f, RdVs w' q.cd [.string n0, .slice a1 m1 c1, .string n2, .slice a3 m3 c3] f ∧ ∀ b ∈ f, b < lo ∨ w.heap.size ≤ b) ∧ Below w.heap.size w w'
theorem zaC (t : Tm) (v : Value) (w : World) (hv : TmR w t v) : Calls Try.prog 52 #[v] w fun e w' => e = .returned (.bool (zcj t)) ∧ Below w.heap.size w w' := by
 obtain ⟨kv, rfl, hs, hk⟩ := hv
 obtain ⟨a, cap, rfl, hc1, hc2⟩ := hk.form
 have HB : Hid (zcj t = (t.name.toList == [] && ((t.kids.length : Int) == 0))) := Lib.hid rfl
 cases h1 : (t.name.toList == [])
 all_goals
  have H1 := Lib.hid h1
  go_enter Try.func52, Try.ntmps52
  go_wp2_with fail
  go_ret
  exact ⟨retB (by rw [HB.out, H1.out]; first | rfl | simp | (simp [Bool.beq_eq_decide_eq])), zb _ _⟩
theorem zv {w w' : World} {lo : Nat} {o : Option Eqn} (h : o = none) (hb : Below w.heap.size w w') : zM lo o w (.returned (.tuple #[.agg #[.string ⟨#[]⟩, .slice none 0 0, .string ⟨#[]⟩, .slice none 0 0], .bool false])) w' := by
 subst h; exact ⟨_, _, _, _, _, _, _, _, rfl, (fun q hq => by cases hq), hb⟩
theorem zaH {w w' : World} {lo : Nat} {o : Option Eqn} {q : Eqn} {b : Bool} {n0 n2 : ByteArray} {a1 a3 : Option Addr} {m1 c1 m3 c3 : Nat} {f : List Nat} (h : o = if b = true then some q else none) (hr : RdVs w' q.cd [.string n0, .slice a1 m1 c1, .string n2, .slice a3 m3 c3] f) (hf : ∀ b ∈ f, b < lo ∨ w.heap.size ≤ b) (hb : Below w.heap.size w w') :
  zM lo o w (.returned (.tuple #[.agg #[.string n0, .slice a1 m1 c1, .string n2, .slice a3 m3 c3], .bool b])) w' := by
 subst h
 refine ⟨_, _, _, _, _, _, _, _, by cases b <;> rfl, (fun p hp => ?_), hb⟩
 cases b
 ·simp at hp
 ·simp at hp; subst hp; exact ⟨f, hr, hf⟩
theorem zcN {w : World} {r : Nat} {v0 v1 v2 v3 : Value} (b : Nat) (h : b ≠ r) : ((((w.setCell ⟨r, 0, none⟩ v0).setCell ⟨r, 1, none⟩ v1).setCell ⟨r, 2, none⟩ v2).setCell ⟨r, 3, none⟩ v3).heap[b]? = w.heap[b]? :=
 (Below.heap_setCell _ _ _ _ h).trans ((Below.heap_setCell _ _ _ _ h).trans ((Below.heap_setCell _ _ _ _ h).trans (Below.heap_setCell _ _ _ _ h)))
theorem so4 {w : World} {r b j : Nat} {v0 v1 v2 v3 u : Value} (h : b ≠ r) (hc : w.cell? ⟨b, j, none⟩ = some u) : ((((w.setCell ⟨r, 0, none⟩ v0).setCell ⟨r, 1, none⟩ v1).setCell ⟨r, 2, none⟩ v2).setCell ⟨r, 3, none⟩ v3).cell? ⟨b, j, none⟩ = some u :=
 zh (zcN b h) hc
theorem zcc {w : World} {base lo hi e k : Nat} {v : Value} {es : List (List CD)} {fp : List Nat} (h : Own w base e k v es fp) (hf : ∀ b ∈ fp, b < lo ∨ hi ≤ b) (hb : hi ≤ base := by omega) : ∃ fq, Rd w (.sl es) v fq ∧ ∀ b ∈ fq, b < lo ∨ hi ≤ b := by
 obtain ⟨fq, h1, h2⟩ := h.rd
 refine ⟨fq, h1, fun b hb' => ?_⟩
 rcases h2 with ⟨_, _, rfl⟩ | ⟨g, c, _, rfl, _, h3, _⟩
 ·cases hb'
 ·rcases zd5.1 hb' with rfl | h4
  ·right; omega
  ·exact hf b h4
theorem wf_name {n : ByteArray} {ks : List Tm} (h : zZ n = false) : (Tm.mk n ks).wf = false := by
 unfold Tm.wf
 rw [Tm.shape_eq]
 simp [Tm.name, h]
theorem cong_rd {w : World} {n : ByteArray} {l : List Eqn} {ga ja : Option Addr} {gc jc : Nat} {fra frb : List Nat} (m2 : n.size ≤ maxLen) (h1 : Rd w (.sl ((l.map Eqn.a).map Tm.cd)) (.slice ga l.length gc) fra) (h2 : Rd w (.sl ((l.map Eqn.b).map Tm.cd)) (.slice ja l.length jc) frb) :
  RdVs w (Eqn.mk (.mk n (l.map Eqn.a)) (.mk n (l.map Eqn.b))).cd [.string n, .slice ga l.length gc, .string n, .slice ja l.length jc] (fra ++ frb) := by
 have e1 : (Eqn.mk (.mk n (l.map Eqn.a)) (.mk n (l.map Eqn.b))).a.kids.length = l.length := by simp [Tm.kids]
 have e2 : (Eqn.mk (.mk n (l.map Eqn.a)) (.mk n (l.map Eqn.b))).b.kids.length = l.length := by simp [Tm.kids]
 have h := Eqn.close (x := ⟨.mk n (l.map Eqn.a), .mk n (l.map Eqn.b)⟩) (a1 := ga) (c1 := gc) (f1 := fra) (a3 := ja) (c3 := jc) (f3 := frb) m2 (by rw [e1]; exact h1) m2 (by rw [e2]; exact h2)
 rw [e1, e2] at h
 exact h
end Go.Proofs.Ytlefdhhnlbpbkaa
end
