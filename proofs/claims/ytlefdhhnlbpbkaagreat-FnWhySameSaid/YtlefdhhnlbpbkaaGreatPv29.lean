/- Parts of the proof: WhQ WhPu. -/
import Derived.Test.YtlefdhhnlbpbkaaGreatPv17
import Derived.Test.YtlefdhhnlbpbkaaGreatPv28
section
namespace Go.Proofs.YtlefdhhnlbpbkaaGreat
open Go Go.RowKit
set_option linter.unusedVariables false
set_option linter.unusedSimpArgs false
set_option maxRecDepth 100000
set_option maxHeartbeats 16000000
/-- A step between parts. -/
def zax (ps : List Tm) (s : Stp) : Prop := ∃ a b : Nat, s.a = (a : Int) ∧ s.b = (b : Int) ∧ ∃ (ha : a < ps.length) (hb : b < ps.length), (-1 ≤ s.given ∧ s.given ≤ 1000000) ∧ (s.given < 0 → ps[a].kids.length = ps[b].kids.length)
theorem zca {ps : List Tm} {c : List Nat} : ∀ {xs ys : List Tm}, Clo.kidsB ps c xs ys = true → xs.length = ys.length
 | [], [], _ => rfl
 | x :: xs, y :: ys, h => by
  simp only [Clo.kidsB, zex] at h
  simp [zca h.2]
 | [], _ :: _, h => by simp [Clo.kidsB] at h
 | _ :: _, [], h => by simp [Clo.kidsB] at h
theorem zbC {ps : List Tm} : ∀ (es : List Eqn) (n : Nat) (c : List Nat) (st : List Stp), (∀ e ∈ es, e.a ∈ ps ∧ e.b ∈ ps) → n + es.length ≤ 1000000 → (∀ s ∈ st, zax ps s) → ∀ s ∈ (Clo.given ps es n c st).2, zax ps s
 | [], n, c, st, _, _, h => h
 | e :: es, n, c, st, hin, hn, h => by
  unfold Clo.given
  simp only [List.length_cons] at hn
  have hi : ∀ q ∈ es, q.a ∈ ps ∧ q.b ∈ ps := fun q hq => hin q (List.mem_cons_of_mem _ hq)
  have he := hin e (by simp)
  split
  ·exact zbC es _ _ _ hi (by omega) h
  ·refine zbC es _ _ _ hi (by omega) fun s hs => ?_
   rcases zer.1 hs with hs | hs
   ·exact h s hs
   ·obtain rfl := List.mem_singleton.1 hs
    exact ⟨_, _, rfl, rfl, (Tm.pos_yes he.1).1, (Tm.pos_yes he.2).1, ⟨by simp only; omega, by simp only; omega⟩, fun h9 => by simp only at h9; omega⟩
theorem run_fit {ps : List Tm} : ∀ (f : Nat) (c : List Nat) (st : List Stp), (∀ s ∈ st, zax ps s) → ∀ s ∈ (Clo.run ps f c st).2, zax ps s
 | 0, c, st, h => h
 | f + 1, c, st, h => by
  cases hn : Clo.next ps c with
  | none => rw [Clo.run_none hn]; exact h
  | some q =>
   obtain ⟨k, i⟩ := q
   rw [Clo.run_some hn]
   obtain ⟨hk, hi, hb⟩ := Clo.next_spec hn
   refine run_fit f _ _ fun s hs => ?_
   rcases zer.1 hs with hs | hs
   ·exact h s hs
   ·obtain rfl := List.mem_singleton.1 hs
    have hkl : k < ps.length := by omega
    refine ⟨k, i, rfl, rfl, hkl, hi, ⟨by simp, by simp⟩, fun _ => ?_⟩
    unfold Clo.badB at hb
    rw [List.getElem?_eq_getElem hkl, List.getElem?_eq_getElem hi] at hb
    simp only [Clo.alikeB, zex] at hb
    exact zca hb.2.2
theorem close_fit {ps : List Tm} {es : List Eqn} (hin : ∀ e ∈ es, e.a ∈ ps ∧ e.b ∈ ps) (hn : es.length ≤ 1000000) : ∀ s ∈ (Clo.close ps es).2, zax ps s :=
 run_fit _ _ _ (zbC es 0 _ [] hin (by omega) (by simp))
/-- Where a step leads from a part; none: below 0. -/
def Stp.next (s : Stp) (from_ : Int) : Int := if s.b = from_ then s.a else if s.a = from_ then s.b else -1
def Stp.sign (s : Stp) (from_ : Int) (i : Nat) : Int := if s.b = from_ then -1 - (i : Int) else (i : Int)
/-- The way, as l5Way finds it. -/
def way (st : List Stp) (n : Nat) : Nat → Int → Int → List Int → Option (List Int)
 | 0, _, _, _ => none
 | N + 1, a, b, seen => if a = b then some [] else (List.range n).findSome? fun i => match st[i]? with
  | none => none
  | some s => if s.next a < 0 ∨ s.next a ∈ seen then none else (way st n N (s.next a) b (seen ++ [s.next a])).map (s.sign a i :: ·)
def zbD (st : List Stp) (n N : Nat) (a b : Int) (seen : List Int) (i : Nat) : Option (List Int) := match st[i]? with
  | none => none
  | some s => if s.next a < 0 ∨ s.next a ∈ seen then none else (way st n N (s.next a) b (seen ++ [s.next a])).map (s.sign a i :: ·)
theorem zcw (st : List Stp) (n N : Nat) (a : Int) (seen : List Int) : way st n (N + 1) a a seen = some [] := by unfold way; rw [if_pos rfl]
theorem zbo {st : List Stp} {n N : Nat} {a b : Int} {seen : List Int} (h : a ≠ b) : way st n (N + 1) a b seen = (List.range n).findSome? (zbD st n N a b seen) := by
 conv => lhs; unfold way
 rw [if_neg h]; rfl
theorem zcb {st : List Stp} {n N i : Nat} {a b : Int} {seen : List Int} (hi : i < st.length) (h : st[i].next a < 0 ∨ st[i].next a ∈ seen) : zbD st n N a b seen i = none := by
 unfold zbD; rw [List.getElem?_eq_getElem hi]; simp only; rw [if_pos h]
theorem zdE {st : List Stp} {n N i : Nat} {a b : Int} {seen : List Int} (hi : i < st.length) (h : ¬ (st[i].next a < 0 ∨ st[i].next a ∈ seen)) : zbD st n N a b seen i = (way st n N (st[i].next a) b (seen ++ [st[i].next a])).map (st[i].sign a i :: ·) := by
 unfold zbD; rw [List.getElem?_eq_getElem hi]; simp only; rw [if_neg h]
/-- The first so many lead nowhere. -/
def WayNo (st : List Stp) (n N : Nat) (a b : Int) (seen : List Int) (i : Nat) : Prop := ∀ j, j < i → zbD st n N a b seen j = none
theorem WayNo.succ {st : List Stp} {n N i : Nat} {a b : Int} {seen : List Int} (h : WayNo st n N a b seen i) (hi : zbD st n N a b seen i = none) : WayNo st n N a b seen (i + 1) := fun j hj => by
 rcases Nat.lt_or_ge j i with h1 | h1
 ·exact h j h1
 ·have : j = i := by omega
  subst this; exact hi
theorem WayNo.none {st : List Stp} {n N : Nat} {a b : Int} {seen : List Int} (h : WayNo st n N a b seen n) (hab : a ≠ b) : way st n (N + 1) a b seen = none := by
 rw [zbo hab, List.findSome?_eq_none_iff]
 intro i hi
 exact h i (List.mem_range.1 hi)
theorem WayNo.some {st : List Stp} {n N i : Nat} {a b : Int} {seen : List Int} (h : WayNo st n N a b seen i) (hab : a ≠ b) (hi : i < n) {l : List Int} (hl : zbD st n N a b seen i = some l) : way st n (N + 1) a b seen = some l := by
 rw [zbo hab, Clo.range_split hi, List.findSome?_append]
 have e1 : (List.range i).findSome? (zbD st n N a b seen) = Option.none := by
  rw [List.findSome?_eq_none_iff]
  intro j hj
  exact h j (List.mem_range.1 hj)
 rw [e1, Option.none_or, List.findSome?_cons, hl]
/-- How many parts are not seen yet. -/
def zbE (m : Nat) (seen : List Int) : Nat := (List.range m).countP fun i : Nat => decide ((i : Int) ∉ seen)
theorem zcc {m : Nat} {seen : List Int} {k : Nat} (hk : k < m) (h : (k : Int) ∉ seen) : zbE m (seen ++ [(k : Int)]) + 1 ≤ zbE m seen := by
 have h1 := Clo.countP_one (p := fun i => decide ((i : Int) ∉ seen)) (q := fun i => decide ((i : Int) ∉ seen ++ [(k : Int)])) (x := k) (List.range m) (fun i _ => by
  by_cases hik : i = k
  ·subst hik; simp [h]
  ·have : ¬ ((i : Int) = (k : Int)) := by omega
   simp [hik, this])
 rw [Clo.count_range hk] at h1
 unfold zbE; omega
theorem unseen_le (m : Nat) (seen : List Int) : zbE m seen ≤ m := by
 unfold zbE
 have := List.countP_le_length (p := fun i : Nat => decide ((i : Int) ∉ seen)) (l := List.range m)
 simpa using this
/-- Each of the way's numbers names a step among the first n, or the same gone backwards. -/
def WayIn (n : Nat) (l : List Int) : Prop := ∀ k ∈ l, -(n : Int) ≤ k ∧ k < n
theorem zdF (st : List Stp) (n : Nat) : ∀ (N : Nat) (a b : Int) (seen l : List Int), way st n N a b seen = some l → WayIn n l ∧ l.length ≤ N
 | 0, a, b, seen, l, h => by simp [way] at h
 | N + 1, a, b, seen, l, h => by
  by_cases hab : a = b
  ·subst hab
   rw [zcw] at h
   obtain rfl := Option.some.inj h
   exact ⟨(fun k hk => by cases hk), Nat.zero_le _⟩
  ·rw [zbo hab] at h
   obtain ⟨i, hi, h1⟩ := List.exists_of_findSome?_eq_some h
   have hin := List.mem_range.1 hi
   unfold zbD at h1
   split at h1
   ·cases h1
   ·rename_i s hs
    split at h1
    ·cases h1
    ·simp only [Option.map_eq_some_iff] at h1
     obtain ⟨m, h2, rfl⟩ := h1
     have h3 := zdF st n N _ _ _ _ h2
     refine ⟨fun k hk => ?_, by simp only [List.length_cons]; omega⟩
     rcases zev.1 hk with rfl | hk
     ·unfold Stp.sign; split <;> omega
     ·exact h3.1 k hk
/-- What the reference gives back: the numbers. -/
def wayL (st : List Stp) (n N : Nat) (a b : Int) (seen : List Int) : List Int := (way st n N a b seen).getD []
/-- Why a step makes its parts one. -/
def oneW (ps : List Tm) (st : List Stp) (rec : Nat → Nat → Wy) (i : Nat) : Wy := match st[i]? with
 | none => .mk 0 0 ⟨⟨#[]⟩, []⟩ []
 | some s => if 0 ≤ s.given then .mk 2 s.given ⟨⟨#[]⟩, []⟩ [] else
  match ps[s.a.toNat]?, ps[s.b.toNat]? with
  | some x, some y => .mk 5 0 ⟨x.name, []⟩ ((x.kids.zip y.kids).map fun p => rec (Tm.pos ps p.1) (Tm.pos ps p.2))
  | _, _ => .mk 0 0 ⟨⟨#[]⟩, []⟩ []
/-- One link of the way. -/
def zaD (one : Nat → Wy) (k : Int) : Wy := if k < 0 then .mk 3 0 ⟨⟨#[]⟩, []⟩ [one (-1 - k).toNat] else one k.toNat
def zV (one : Nat → Wy) : List Int → Wy
 | [] => .mk 0 0 ⟨⟨#[]⟩, []⟩ []
 | k :: ks => ks.foldl (fun out q => .mk 4 0 ⟨⟨#[]⟩, []⟩ [out, zaD one q]) (zaD one k)
theorem zdl (one : Nat → Wy) (ks : List Int) (h : ks ≠ []) (k : Int) : zV one (ks ++ [k]) = .mk 4 0 ⟨⟨#[]⟩, []⟩ [zV one ks, zaD one k] := by
 cases ks with
 | nil => exact absurd rfl h
 | cons q ks => simp [zV, List.foldl_append]
/-- The reason, as l5Why builds it. -/
def whyW (ps : List Tm) (st : List Stp) : Nat → Nat → Nat → Nat → Wy
 | 0, _, a, _ => .mk 1 0 (ps.getD a ⟨⟨#[]⟩, []⟩) []
 | F + 1, n, a, b => match wayL st n (ps.length + 1) a b [(a : Int)] with
  | [] => .mk 1 0 (ps.getD a ⟨⟨#[]⟩, []⟩) []
  | k :: ks => zV (fun i => oneW ps st (fun p q => whyW ps st F i p q) i) (k :: ks)
theorem wayL_zero (st : List Stp) (N : Nat) (a b : Int) (seen : List Int) : wayL st 0 N a b seen = [] := by
 unfold wayL
 cases h : way st 0 N a b seen with
 | none => rfl
 | some l =>
  have h1 := zdF st 0 N a b seen l h
  cases l with
  | nil => rfl
  | cons k l => have := h1.1 k (by simp); omega
theorem zcQ {ps : List Tm} {st : List Stp} {F n a b : Nat} (hn : n ≤ F) (h : wayL st n (ps.length + 1) a b [(a : Int)] = []) : whyW ps st F n a b = .mk 1 0 (ps.getD a ⟨⟨#[]⟩, []⟩) [] := by
 cases F with
 | zero => rfl
 | succ F => unfold whyW; rw [h]
theorem zd3 {ps : List Tm} {st : List Stp} {F n a b : Nat} {l : List Int} (h : wayL st n (ps.length + 1) a b [(a : Int)] = l) (hl : l ≠ []) : whyW ps st (F + 1) n a b = zV (fun i => oneW ps st (fun p q => whyW ps st F i p q) i) l := by
 cases l with
 | nil => exact absurd rfl hl
 | cons k ks =>
  conv => lhs; unfold whyW
  rw [h]
/-- The step that a number of a way names. -/
def zaO (k : Int) : Nat := if k < 0 then (-1 - k).toNat else k.toNat
theorem zbJ (s : Stp) (a : Int) (i : Nat) : zaO (s.sign a i) = i := by
 unfold zaO Stp.sign
 by_cases h : s.b = a
 ·rw [if_pos h, if_pos (by omega)]; omega
 ·rw [if_neg h, if_neg (by omega)]; omega
theorem zdL (st : List Stp) (n : Nat) : ∀ (N : Nat) (a b : Int) (seen l : List Int), a ∈ seen → way st n N a b seen = some l → (l.map zaO).Nodup ∧ ∀ k ∈ l, zaO k < n ∧ ∃ s, st[zaO k]? = some s ∧ (s.a ∉ seen ∨ s.b ∉ seen)
 | 0, a, b, seen, l, _, h => by simp [way] at h
 | N + 1, a, b, seen, l, ha, h => by
  by_cases hab : a = b
  ·subst hab
   rw [zcw] at h
   obtain rfl := Option.some.inj h
   exact ⟨by simp, fun k hk => by cases hk⟩
  ·rw [zbo hab] at h
   obtain ⟨i, hi, h1⟩ := List.exists_of_findSome?_eq_some h
   have hin := List.mem_range.1 hi
   unfold zbD at h1
   split at h1
   ·cases h1
   ·rename_i s hs
    split at h1
    ·cases h1
    ·rename_i hx
     simp only [Option.map_eq_some_iff] at h1
     obtain ⟨m, h2, rfl⟩ := h1
     have hx1 : ¬ s.next a < 0 := fun h => hx (.inl h)
     have hx2 : s.next a ∉ seen := fun h => hx (.inr h)
     obtain ⟨h3, h4⟩ := zdL st n N _ _ _ _ (List.mem_append_right _ (by simp)) h2
     have hends : (s.a ∈ seen ++ [s.next a] ∧ s.b ∈ seen ++ [s.next a]) ∧ (s.a ∉ seen ∨ s.b ∉ seen) := by
      unfold Stp.next at hx1 hx2 ⊢
      by_cases hb : s.b = a
      ·rw [if_pos hb] at hx1 hx2 ⊢
       exact ⟨⟨by simp, List.mem_append_left _ (hb ▸ ha)⟩, .inl hx2⟩
      ·rw [if_neg hb] at hx1 hx2 ⊢
       by_cases hc : s.a = a
       ·rw [if_pos hc] at hx1 hx2 ⊢
        exact ⟨⟨List.mem_append_left _ (hc ▸ ha), by simp⟩, .inr hx2⟩
       ·rw [if_neg hc] at hx1
        exact absurd (by decide) hx1
     refine ⟨?_, fun k hk => ?_⟩
     ·rw [List.map_cons, List.nodup_cons, zbJ]
      refine ⟨fun hm => ?_, h3⟩
      obtain ⟨k, hk, e⟩ := List.mem_map.1 hm
      obtain ⟨_, s', hs', hn⟩ := h4 k hk
      rw [e, hs] at hs'
      obtain rfl := Option.some.inj hs'
      rcases hn with hn | hn
      ·exact hn hends.1.1
      ·exact hn hends.1.2
     ·rcases zev.1 hk with rfl | hk
      ·rw [zbJ]; exact ⟨hin, s, hs, hends.2⟩
      ·obtain ⟨h5, s', h6, h7⟩ := h4 k hk
       refine ⟨h5, s', h6, ?_⟩
       rcases h7 with h7 | h7
       ·exact .inl fun h => h7 (List.mem_append_left _ h)
       ·exact .inr fun h => h7 (List.mem_append_left _ h)
/-- The sum over those below n that are p. -/
def zbl (c : Nat → Nat) (p : Nat → Bool) : Nat → Nat
 | 0 => 0
 | n + 1 => zbl c p n + (if p n = true then c n else 0)
theorem zcY (c : Nat → Nat) (p : Nat → Bool) (i : Nat) (hp : p i = true) : ∀ n, i < n → zbl c p n = c i + zbl c (fun j => p j && j != i) n
 | 0, h => by omega
 | n + 1, h => by
  have hkeep : ∀ m, m ≤ i → zbl c (fun j => p j && j != i) m = zbl c p m := by
   intro m
   induction m with
   | zero => intro _; rfl
   | succ m ih =>
    intro hm
    have h1 : (m != i) = true := by simp; omega
    simp only [zbl, ih (by omega), h1, Bool.and_true]
  by_cases hn : i = n
  ·subst hn
   simp only [zbl, hp, bne_self_eq_false, Bool.and_false, Bool.false_eq_true, if_true, if_false]
   rw [hkeep i (Nat.le_refl _)]; omega
  ·have h1 : (n != i) = true := by simp; omega
   simp only [zbl, zcY c p i hp n (by omega), h1, Bool.and_true]
   omega
theorem zdM (c : Nat → Nat) : ∀ (l : List Nat) (p : Nat → Bool) (n : Nat), l.Nodup → (∀ i ∈ l, i < n ∧ p i = true) → (l.map c).sum ≤ zbl c p n
 | [], p, n, _, _ => by simp
 | i :: l, p, n, hd, h => by
  rw [List.nodup_cons] at hd
  obtain ⟨h1, h2⟩ := h i (by simp)
  have h3 := zdM c l (fun j => p j && j != i) n hd.2 (fun j hj => by
   obtain ⟨h4, h5⟩ := h j (by simp [hj])
   have h6 : j ≠ i := fun e => hd.1 (e ▸ hj)
   exact ⟨h4, by simp [h5, h6]⟩)
  rw [zcY c p i h2 n h1]
  simp only [List.map_cons, List.sum_cons]
  omega
theorem zcZ (c : Nat → Nat) (p : Nat → Bool) : ∀ n, (∀ i, i < n → c i ≤ 2 * 3 ^ i) → zbl c p n + 1 ≤ 3 ^ n
 | 0, _ => by simp [zbl]
 | n + 1, h => by
  have h1 := zcZ c p n (fun i hi => h i (by omega))
  have h2 := h n (by omega)
  simp only [zbl]
  have h3 : (3 : Nat) ^ (n + 1) = 3 * 3 ^ n := by rw [Nat.pow_succ]; omega
  split <;> omega
theorem zc0 (one : Nat → Wy) (k : Int) : (zaD one k).uses = (one (zaO k)).uses := by
 unfold zaD zaO
 split
 ·rw [Wy.uses_mk]; simp [Wy.usesL]
 ·rfl
theorem zec (one : Nat → Wy) : ∀ (l : List Int), (zV one l).uses.length = ((l.map zaO).map (fun i => (one i).uses.length)).sum
 | [] => by rw [zV, Wy.uses_eq]; simp [Wy.rule, Wy.kids, Wy.usesL]
 | k :: ks => by
  have key : ∀ (l : List Int) (w : Wy), (l.foldl (fun out q => Wy.mk 4 0 ⟨⟨#[]⟩, []⟩ [out, zaD one q]) w).uses.length = w.uses.length + ((l.map zaO).map (fun i => (one i).uses.length)).sum := by
   intro l
   induction l with
   | nil => intro w; simp
   | cons q l ih =>
    intro w
    rw [List.foldl_cons, ih]
    have h1 : (Wy.mk 4 0 ⟨⟨#[]⟩, []⟩ [w, zaD one q]).uses.length = w.uses.length + (one (zaO q)).uses.length := by
     rw [Wy.uses_mk]; simp [Wy.usesL, zc0]
    rw [h1]
    simp only [List.map_cons, List.sum_cons]
    omega
  simp only [zV]
  rw [key, zc0]
  simp only [List.map_cons, List.sum_cons]
theorem zdN {m : Nat} : ∀ (ks : List Wy), (∀ k ∈ ks, k.uses.length ≤ m) → (Wy.usesL ks).length ≤ ks.length * m
 | [], _ => by simp [Wy.usesL]
 | k :: ks, h => by
  have h1 := h k (by simp)
  have h2 := zdN ks (fun k hk => h k (by simp [hk]))
  simp only [Wy.usesL, zet, List.length_cons, Nat.add_mul]
  omega
theorem one_uses {ps : List Tm} {st : List Stp} {rec : Nat → Nat → Wy} {i m : Nat} (hk : ∀ t ∈ ps, t.kids.length ≤ 2) (hm : 1 ≤ m) (h : ∀ p q, (rec p q).uses.length ≤ m) : (oneW ps st rec i).uses.length ≤ 2 * m := by
 unfold oneW
 split
 ·rw [Wy.uses_mk]; simp [Wy.usesL]
 ·rename_i s hs
  split
  ·rw [Wy.uses_mk]; simp [Wy.usesL]; omega
  ·split
   ·rename_i x y hx hy
    rw [Wy.uses_mk]
    have h1 := hk x (List.mem_of_getElem? hx)
    have h2 := zdN (m := m) ((x.kids.zip y.kids).map fun p => rec (Tm.pos ps p.1) (Tm.pos ps p.2)) (fun k hk => by
     obtain ⟨p, _, rfl⟩ := List.mem_map.1 hk
     exact h _ _)
    have h3 : ((x.kids.zip y.kids).map fun p => rec (Tm.pos ps p.1) (Tm.pos ps p.2)).length ≤ 2 := by
     rw [zew, List.length_zip]; omega
    have h4 : ((x.kids.zip y.kids).map fun p => rec (Tm.pos ps p.1) (Tm.pos ps p.2)).length * m ≤ 2 * m := Nat.mul_le_mul_right _ h3
    rw [if_neg (by decide)]
    simp only [List.nil_append]
    omega
   ·rw [Wy.uses_mk]; simp [Wy.usesL]
theorem zc1 {ps : List Tm} {st : List Stp} (hk : ∀ t ∈ ps, t.kids.length ≤ 2) : ∀ (F n a b : Nat), (whyW ps st F n a b).uses.length ≤ 3 ^ n
 | 0, n, a, b => by
  simp only [whyW]
  rw [Wy.uses_mk]; simp [Wy.usesL]
 | F + 1, n, a, b => by
  unfold whyW
  split
  ·rw [Wy.uses_mk]; simp [Wy.usesL]
  ·rename_i k ks hl
   rw [zec]
   have hw : way st n (ps.length + 1) a b [(a : Int)] = some (k :: ks) := by
    unfold wayL at hl
    cases h : way st n (ps.length + 1) (a : Int) (b : Int) [(a : Int)] with
    | none => rw [h] at hl; simp at hl
    | some l => rw [h] at hl; simp only [Option.getD_some] at hl; rw [hl]
   obtain ⟨h1, h2⟩ := zdL st n _ _ _ _ _ (by simp) hw
   have h3 := zdM (fun i => (oneW ps st (fun p q => whyW ps st F i p q) i).uses.length) _ (fun _ => true) n h1 (fun i hi => by
    obtain ⟨q, hq, rfl⟩ := List.mem_map.1 hi
    exact ⟨(h2 q hq).1, rfl⟩)
   have h4 := zcZ (fun i => (oneW ps st (fun p q => whyW ps st F i p q) i).uses.length) (fun _ => true) n (fun i _ => one_uses hk (Nat.one_le_pow _ _ (by decide)) (fun p q => zc1 hk F i p q))
   omega
theorem zch {t : Tm} (h : ∃ d, Tm.shape t d = true) : t.kids.length ≤ 2 ∧ ∀ k ∈ t.kids, ∃ d, Tm.shape k d = true := by
 obtain ⟨d, h⟩ := h
 rw [Tm.shape_eq] at h
 simp only [zex, decide_eq_true_eq] at h
 refine ⟨h.1.2, fun k hk => ⟨d - 1, ?_⟩⟩
 have h2 := h.2
 rw [Tm.shapes_all, List.all_eq_true] at h2
 exact h2 k hk
theorem zbK {t : Tm} (h : t.wf = true) : ∃ d, Tm.shape t d = true := by
 unfold Tm.wf at h
 simp only [zex] at h
 exact ⟨4, h.1⟩
theorem moreP_two {s : Sg} {es : List Eqn} {ms : List Tm} (h : zar s es ms = true) : ∀ t ∈ zx es ms, t.kids.length ≤ 2 := by
 simp only [zar, zex, List.all_eq_true] at h
 have key : ∀ t ∈ zx es ms, ∃ d, Tm.shape t d = true := by
  refine Tm.addPs_pred (p := fun t => ∃ d, Tm.shape t d = true) (fun t ht k hk => (zch ht).2 k hk) _ [] (fun t ht => ?_) (by simp)
  rcases zer.1 ht with ht | ht
  ·obtain ⟨e, he, hm⟩ := List.mem_flatMap.1 ht
   have h1 := h.1
   simp only [eqsB, zex, List.all_eq_true] at h1
   obtain ⟨h2, h3⟩ := Eqn.okB_wf (h1.2.2.1 e he)
   simp only [zev, List.not_mem_nil, or_false] at hm
   rcases hm with rfl | rfl
   ·exact zbK h2
   ·exact zbK h3
  ·have := h.2.1 t ht
   unfold Tm.tsrt at this
   split at this
   ·rename_i h4; exact zbK h4.2
   ·simp at this
 exact fun t ht => (zch (key t ht)).1
theorem cloS_len (es : List Eqn) (ms : List Tm) : (cloS es ms).length ≤ (zx es ms).length := by
 have h1 := (cloS_ok es ms).1
 have h2 := zds (cloC es ms) (zx es ms).length
 omega
end Go.Proofs.YtlefdhhnlbpbkaaGreat
end
