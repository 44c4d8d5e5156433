/- Parts of the proof: WhQ WhR WhPu. -/
import Derived.Test.YtlefdhhnlbpbkaaGreatPt32
import Derived.Test.YtlefdhhnlbpbkaaGreatPt17
import Derived.Deep.CutRange
import Derived.Test.YtlefdhhnlbpbkaaGreatPt33
import Derived.Test.YtlefdhhnlbpbkaaGreatPt34
section
namespace Go.Proofs.YtlefdhhnlbpbkaaGreat
open Go Go.RowKit
set_option linter.unusedVariables false
set_option linter.unusedSimpArgs false
set_option maxRecDepth 100000
set_option maxHeartbeats 16000000
/-- A step between parts. -/
def zaB (ps : List Tm) (s : Stp) : Prop := ∃ a b : Nat, s.a = (a : Int) ∧ s.b = (b : Int) ∧ ∃ (ha : a < ps.length) (hb : b < ps.length), (-1 ≤ s.given ∧ s.given ≤ 1000000) ∧ (s.given < 0 → ps[a].kids.length = ps[b].kids.length)
theorem zcf {ps : List Tm} {c : List Nat} : ∀ {xs ys : List Tm}, Clo.kidsB ps c xs ys = true → xs.length = ys.length
 | [], [], _ => rfl
 | x :: xs, y :: ys, h => by
  simp only [Clo.kidsB, zeO] at h
  simp [zcf h.2]
 | [], _ :: _, h => by simp [Clo.kidsB] at h
 | _ :: _, [], h => by simp [Clo.kidsB] at h
theorem zbI {ps : List Tm} : ∀ (es : List Eqn) (n : Nat) (c : List Nat) (st : List Stp), (∀ e ∈ es, e.a ∈ ps ∧ e.b ∈ ps) → n + es.length ≤ 1000000 → (∀ s ∈ st, zaB ps s) → ∀ s ∈ (Clo.given ps es n c st).2, zaB ps s
 | [], n, c, st, _, _, h => h
 | e :: es, n, c, st, hin, hn, h => by
  unfold Clo.given
  simp only [List.length_cons] at hn
  have hi : ∀ q ∈ es, q.a ∈ ps ∧ q.b ∈ ps := fun q hq => hin q (List.mem_cons_of_mem _ hq)
  have he := hin e (by simp)
  split
  ·exact zbI es _ _ _ hi (by omega) h
  ·refine zbI es _ _ _ hi (by omega) fun s hs => ?_
   rcases zeI.1 hs with hs | hs
   ·exact h s hs
   ·obtain rfl := List.mem_singleton.1 hs
    exact ⟨_, _, rfl, rfl, (Tm.pos_yes he.1).1, (Tm.pos_yes he.2).1, ⟨by simp only; omega, by simp only; omega⟩, fun h9 => by simp only at h9; omega⟩
theorem run_fit {ps : List Tm} : ∀ (f : Nat) (c : List Nat) (st : List Stp), (∀ s ∈ st, zaB ps s) → ∀ s ∈ (Clo.run ps f c st).2, zaB ps s
 | 0, c, st, h => h
 | f + 1, c, st, h => by
  cases hn : Clo.next ps c with
  | none => rw [Clo.run_none hn]; exact h
  | some q =>
   obtain ⟨k, i⟩ := q
   rw [Clo.run_some hn]
   obtain ⟨hk, hi, hb⟩ := Clo.next_spec hn
   refine run_fit f _ _ fun s hs => ?_
   rcases zeI.1 hs with hs | hs
   ·exact h s hs
   ·obtain rfl := List.mem_singleton.1 hs
    have hkl : k < ps.length := by omega
    refine ⟨k, i, rfl, rfl, hkl, hi, ⟨by simp, by simp⟩, fun _ => ?_⟩
    unfold Clo.badB at hb
    rw [List.getElem?_eq_getElem hkl, List.getElem?_eq_getElem hi] at hb
    simp only [Clo.alikeB, zeO] at hb
    exact zcf hb.2.2
theorem close_fit {ps : List Tm} {es : List Eqn} (hin : ∀ e ∈ es, e.a ∈ ps ∧ e.b ∈ ps) (hn : es.length ≤ 1000000) : ∀ s ∈ (Clo.close ps es).2, zaB ps s :=
 run_fit _ _ _ (zbI es 0 _ [] hin (by omega) (by simp))
/-- Where a step leads from a part; none: below 0. -/
def Stp.next (s : Stp) (from_ : Int) : Int := if s.b = from_ then s.a else if s.a = from_ then s.b else -1
def Stp.sign (s : Stp) (from_ : Int) (i : Nat) : Int := if s.b = from_ then -1 - (i : Int) else (i : Int)
/-- The way, as l5Way finds it. -/
def way (st : List Stp) (n : Nat) : Nat → Int → Int → List Int → Option (List Int)
 | 0, _, _, _ => none
 | N + 1, a, b, seen => if a = b then some [] else (List.range n).findSome? fun i => match st[i]? with
  | none => none
  | some s => if s.next a < 0 ∨ s.next a ∈ seen then none else (way st n N (s.next a) b (seen ++ [s.next a])).map (s.sign a i :: ·)
def zbJ (st : List Stp) (n N : Nat) (a b : Int) (seen : List Int) (i : Nat) : Option (List Int) := match st[i]? with
  | none => none
  | some s => if s.next a < 0 ∨ s.next a ∈ seen then none else (way st n N (s.next a) b (seen ++ [s.next a])).map (s.sign a i :: ·)
theorem zcz (st : List Stp) (n N : Nat) (a : Int) (seen : List Int) : way st n (N + 1) a a seen = some [] := by unfold way; rw [if_pos rfl]
theorem zbw {st : List Stp} {n N : Nat} {a b : Int} {seen : List Int} (h : a ≠ b) : way st n (N + 1) a b seen = (List.range n).findSome? (zbJ st n N a b seen) := by
 conv => lhs; unfold way
 rw [if_neg h]; rfl
theorem zcg {st : List Stp} {n N i : Nat} {a b : Int} {seen : List Int} (hi : i < st.length) (h : st[i].next a < 0 ∨ st[i].next a ∈ seen) : zbJ st n N a b seen i = none := by
 unfold zbJ; rw [List.getElem?_eq_getElem hi]; simp only; rw [if_pos h]
theorem zdM {st : List Stp} {n N i : Nat} {a b : Int} {seen : List Int} (hi : i < st.length) (h : ¬ (st[i].next a < 0 ∨ st[i].next a ∈ seen)) : zbJ st n N a b seen i = (way st n N (st[i].next a) b (seen ++ [st[i].next a])).map (st[i].sign a i :: ·) := by
 unfold zbJ; rw [List.getElem?_eq_getElem hi]; simp only; rw [if_neg h]
/-- The first so many lead nowhere. -/
def WayNo (st : List Stp) (n N : Nat) (a b : Int) (seen : List Int) (i : Nat) : Prop := ∀ j, j < i → zbJ st n N a b seen j = none
theorem WayNo.succ {st : List Stp} {n N i : Nat} {a b : Int} {seen : List Int} (h : WayNo st n N a b seen i) (hi : zbJ st n N a b seen i = none) : WayNo st n N a b seen (i + 1) := fun j hj => by
 rcases Nat.lt_or_ge j i with h1 | h1
 ·exact h j h1
 ·have : j = i := by omega
  subst this; exact hi
theorem WayNo.none {st : List Stp} {n N : Nat} {a b : Int} {seen : List Int} (h : WayNo st n N a b seen n) (hab : a ≠ b) : way st n (N + 1) a b seen = none := by
 rw [zbw hab, List.findSome?_eq_none_iff]
 intro i hi
 exact h i (List.mem_range.1 hi)
theorem WayNo.some {st : List Stp} {n N i : Nat} {a b : Int} {seen : List Int} (h : WayNo st n N a b seen i) (hab : a ≠ b) (hi : i < n) {l : List Int} (hl : zbJ st n N a b seen i = some l) : way st n (N + 1) a b seen = some l := by
 rw [zbw hab, Clo.range_split hi, List.findSome?_append]
 have e1 : (List.range i).findSome? (zbJ st n N a b seen) = Option.none := by
  rw [List.findSome?_eq_none_iff]
  intro j hj
  exact h j (List.mem_range.1 hj)
 rw [e1, Option.none_or, List.findSome?_cons, hl]
/-- How many parts are not seen yet. -/
def zbK (m : Nat) (seen : List Int) : Nat := (List.range m).countP fun i : Nat => decide ((i : Int) ∉ seen)
theorem zch {m : Nat} {seen : List Int} {k : Nat} (hk : k < m) (h : (k : Int) ∉ seen) : zbK m (seen ++ [(k : Int)]) + 1 ≤ zbK m seen := by
 have h1 := Clo.countP_one (p := fun i => decide ((i : Int) ∉ seen)) (q := fun i => decide ((i : Int) ∉ seen ++ [(k : Int)])) (x := k) (List.range m) (fun i _ => by
  by_cases hik : i = k
  ·subst hik; simp [h]
  ·have : ¬ ((i : Int) = (k : Int)) := by omega
   simp [hik, this])
 rw [Clo.count_range hk] at h1
 unfold zbK; omega
theorem unseen_le (m : Nat) (seen : List Int) : zbK m seen ≤ m := by
 unfold zbK
 have := List.countP_le_length (p := fun i : Nat => decide ((i : Int) ∉ seen)) (l := List.range m)
 simpa using this
/-- Each of the way's numbers names a step among the first n, or the same gone backwards. -/
def WayIn (n : Nat) (l : List Int) : Prop := ∀ k ∈ l, -(n : Int) ≤ k ∧ k < n
theorem zdN (st : List Stp) (n : Nat) : ∀ (N : Nat) (a b : Int) (seen l : List Int), way st n N a b seen = some l → WayIn n l ∧ l.length ≤ N
 | 0, a, b, seen, l, h => by simp [way] at h
 | N + 1, a, b, seen, l, h => by
  by_cases hab : a = b
  ·subst hab
   rw [zcz] at h
   obtain rfl := Option.some.inj h
   exact ⟨(fun k hk => by cases hk), Nat.zero_le _⟩
  ·rw [zbw hab] at h
   obtain ⟨i, hi, h1⟩ := List.exists_of_findSome?_eq_some h
   have hin := List.mem_range.1 hi
   unfold zbJ at h1
   split at h1
   ·cases h1
   ·rename_i s hs
    split at h1
    ·cases h1
    ·simp only [Option.map_eq_some_iff] at h1
     obtain ⟨m, h2, rfl⟩ := h1
     have h3 := zdN st n N _ _ _ _ h2
     refine ⟨fun k hk => ?_, by simp only [List.length_cons]; omega⟩
     rcases zeM.1 hk with rfl | hk
     ·unfold Stp.sign; split <;> omega
     ·exact h3.1 k hk
/-- What the reference gives back: the numbers. -/
def wayL (st : List Stp) (n N : Nat) (a b : Int) (seen : List Int) : List Int := (way st n N a b seen).getD []
/-- Why a step makes its parts one. -/
def oneW (ps : List Tm) (st : List Stp) (rec : Nat → Nat → Wy) (i : Nat) : Wy := match st[i]? with
 | none => .mk 0 0 ⟨⟨#[]⟩, []⟩ []
 | some s => if 0 ≤ s.given then .mk 2 s.given ⟨⟨#[]⟩, []⟩ [] else
  match ps[s.a.toNat]?, ps[s.b.toNat]? with
  | some x, some y => .mk 5 0 ⟨x.name, []⟩ ((x.kids.zip y.kids).map fun p => rec (Tm.pos ps p.1) (Tm.pos ps p.2))
  | _, _ => .mk 0 0 ⟨⟨#[]⟩, []⟩ []
/-- One link of the way. -/
def zaF (one : Nat → Wy) (k : Int) : Wy := if k < 0 then .mk 3 0 ⟨⟨#[]⟩, []⟩ [one (-1 - k).toNat] else one k.toNat
def zac (one : Nat → Wy) : List Int → Wy
 | [] => .mk 0 0 ⟨⟨#[]⟩, []⟩ []
 | k :: ks => ks.foldl (fun out q => .mk 4 0 ⟨⟨#[]⟩, []⟩ [out, zaF one q]) (zaF one k)
theorem zdu (one : Nat → Wy) (ks : List Int) (h : ks ≠ []) (k : Int) : zac one (ks ++ [k]) = .mk 4 0 ⟨⟨#[]⟩, []⟩ [zac one ks, zaF one k] := by
 cases ks with
 | nil => exact absurd rfl h
 | cons q ks => simp [zac, List.foldl_append]
/-- The reason, as l5Why builds it. -/
def whyW (ps : List Tm) (st : List Stp) : Nat → Nat → Nat → Nat → Wy
 | 0, _, a, _ => .mk 1 0 (ps.getD a ⟨⟨#[]⟩, []⟩) []
 | F + 1, n, a, b => match wayL st n (ps.length + 1) a b [(a : Int)] with
  | [] => .mk 1 0 (ps.getD a ⟨⟨#[]⟩, []⟩) []
  | k :: ks => zac (fun i => oneW ps st (fun p q => whyW ps st F i p q) i) (k :: ks)
theorem wayL_zero (st : List Stp) (N : Nat) (a b : Int) (seen : List Int) : wayL st 0 N a b seen = [] := by
 unfold wayL
 cases h : way st 0 N a b seen with
 | none => rfl
 | some l =>
  have h1 := zdN st 0 N a b seen l h
  cases l with
  | nil => rfl
  | cons k l => have := h1.1 k (by simp); omega
theorem zcW {ps : List Tm} {st : List Stp} {F n a b : Nat} (hn : n ≤ F) (h : wayL st n (ps.length + 1) a b [(a : Int)] = []) : whyW ps st F n a b = .mk 1 0 (ps.getD a ⟨⟨#[]⟩, []⟩) [] := by
 cases F with
 | zero => rfl
 | succ F => unfold whyW; rw [h]
theorem zd8 {ps : List Tm} {st : List Stp} {F n a b : Nat} {l : List Int} (h : wayL st n (ps.length + 1) a b [(a : Int)] = l) (hl : l ≠ []) : whyW ps st (F + 1) n a b = zac (fun i => oneW ps st (fun p q => whyW ps st F i p q) i) l := by
 cases l with
 | nil => exact absurd rfl hl
 | cons k ks =>
  conv => lhs; unfold whyW
  rw [h]
theorem take_not {ns : List Int} {n : Int} {i : Nat} (h : n ∉ ns.take i) (hi : i < ns.length) (hne : ns[i] ≠ n) : n ∉ ns.take (i + 1) := by
 rw [zeH hi]
 simp only [zeI, List.mem_singleton, not_or]
 exact ⟨h, fun e => hne e.symm⟩
theorem zdO (ns : List Int) (n : Int) (b : Bool) (hb : decide (n ∈ ns) = b) (v : Value) (g : List Nat) (w : World) (hl : ns.length ≤ 1000000000) (hv : Rd w (.sl (ns.map zv)) v g) :
  Calls Tryz.prog 106 #[v, .int .i64 n] w fun e w' => e = .returned (.bool b) ∧ Below w.heap.size w w' := by
 have HB := Lib.hid hb
 clear hb
 obtain ⟨a, cap, rfl, hc1, hc2⟩ := zc hv
 go_enter Tryz.func106, Tryz.ntmps106
 go_wp2_with fail
 go_loopw [5] (fun iv wr => ∃ i : Nat, i ≤ ns.length ∧ iv = .int .i64 i ∧ Hid (n ∉ ns.take i) ∧ Below w.heap.size w wr) (fun iv _ => ns.length - (intOf iv).toNat)
 case atStart => exact ⟨0, Nat.zero_le _, rfl, Lib.hid (by simp), Below.refl _ _⟩
 case round =>
  obtain ⟨i, hi, rfl, HN, hbw⟩ := hrel
  by_cases hlt : i < ns.length
  ·obtain ⟨bk, off, rfl, hbs, _⟩ := zo hv (by omega)
   obtain ⟨q0, hri⟩ := zaa (hv.below hbw) hlt
   by_cases he : ns[i] = n
   ·have h2 : (ns[i] == n) = true := by simp [he]
    have HT : Hid (b = true) := Lib.hid (by rw [← HB.out]; simp only [decide_eq_true_eq]; rw [← he]; exact zeJ hlt)
    clear he
    go_wp2_with fail
    go_ret
    exact ⟨by rw [HT.out]; rfl, hbw⟩
   ·have h2 : (ns[i] == n) = false := by simpa using he
    have HN2 := Lib.hid (take_not HN.out hlt he)
    clear he
    go_wp2_with fail
    go_roundw
    case rel => exact ⟨i + 1, by omega, by go_num, HN2, hbw⟩
    case measure => simp [intOf]; omega
  ·have ei : i = ns.length := by omega
   have HF : Hid (b = false) := Lib.hid (by rw [← HB.out]; have := HN.out; rw [ei, List.take_length] at this; simpa using this)
   clear ei
   go_wp2_with fail
   go_ret
   exact ⟨by rw [HF.out]; rfl, hbw⟩
theorem ints_one {w : World} {b : Nat} {n : Int} (hn : I64 n) (hc : w.cell? ⟨b, 0, none⟩ = some (.int .i64 n)) (hb : b < w.heap.size) : Rd w (.sl ([n].map zv)) (.slice (some ⟨b, 0, none⟩) 1 1) [b] := by
 simp only [Rd]
 refine ⟨_, _, rfl, Nat.le_refl _, by decide, .inr ⟨by simp, b, 0, [], rfl, hb, rfl, ?_⟩⟩
 simp only [List.map_cons, List.map_nil, RdRows]
 refine ⟨[.int .i64 n], [], [], rfl, ?_, zE hn, rfl⟩
 intro j v hv
 cases j with
 | zero => simp only [zeD, Option.some.injEq] at hv; subst hv; exact hc
 | succ j => simp at hv
theorem zaG {st : List Stp} {n N : Nat} {a b : Int} {seen l : List Int} (h : way st n N a b seen = some l) : wayL st n N a b seen = l ∧ (way st n N a b seen).isSome = true := by unfold wayL; rw [h]; exact ⟨rfl, rfl⟩
theorem zc0 {st : List Stp} {n N : Nat} {a b : Int} {seen : List Int} (h : way st n N a b seen = none) : wayL st n N a b seen = [] ∧ (way st n N a b seen).isSome = false := by unfold wayL; rw [h]; exact ⟨rfl, rfl⟩
theorem next_fit {ps : List Tm} {s : Stp} (h : zaB ps s) (a : Int) (h0 : ¬ s.next a < 0) : ∃ p : Nat, s.next a = (p : Int) ∧ p < ps.length := by
 obtain ⟨p, q, h1, h2, hp, hq, _⟩ := h
 unfold Stp.next at h0 ⊢
 split
 ·exact ⟨p, h1, hp⟩
 ·rename_i hn
  rw [if_neg hn] at h0
  split
  ·exact ⟨q, h2, hq⟩
  ·rename_i hn2; rw [if_neg hn2] at h0; omega
/-- The way that comes back. -/
def WayOut (st : List Stp) (n N : Nat) (a b : Int) (seen : List Int) (w : World) (e : Ending) (w' : World) : Prop :=
 ∃ (rv : Value) (rf : List Nat), e = .returned (.tuple #[rv, .bool (way st n N a b seen).isSome]) ∧ Rd w' (.sl ((wayL st n N a b seen).map zv)) rv rf ∧ (∀ x ∈ rf, w.heap.size ≤ x) ∧ Below w.heap.size w w'
theorem Own.single {w : World} {base e k : Nat} {vs : List Value} {d : List CD} {f : List Nat} (hb : base ≤ w.heap.size) (hr : RdVs (w.alloc (.cells vs.toArray e)) d vs f) (hk : d.length = k) (hf : ∀ b ∈ f, b < w.heap.size) :
  Own (w.alloc (.cells vs.toArray e)) base e k (.slice (some ⟨w.heap.size, 0, none⟩) 1 1) [d] f := by
 have hl : vs.length = k := by rw [hr.length, hk]
 refine ⟨vs, ⟨by simp [hl], .inr ⟨w.heap.size, 1, vs.toArray, rfl, hb, heap_alloc_new w _, Nat.le_refl _, by simp [maxLen], by simp [hl], by simp [← hl]⟩⟩, by simpa using hr, by simpa using hk, fun b hb' e => ?_⟩
 have h1 := hf b hb'
 have h2 : w.heap.size = b := Option.some.inj e
 omega
def WayAll (ps : List Tm) (st : List Stp) (sv : Value) (n : Nat) (b : Int) (N : Nat) : Prop := ∀ (a : Int) (seen : List Int) (sf : List Nat) (lv : Value) (lf : List Nat) (w : World),
  Hid (zbK ps.length seen ≤ N) → seen.length + N ≤ 2000000 → Rd w (.sl (st.map Stp.cd)) sv sf → Rd w (.sl (seen.map zv)) lv lf →
  Calls Tryz.prog 77 #[sv, .int .i64 n, .int .i64 a, .int .i64 b, lv] w (WayOut st n (N + 1) a b seen w)
theorem zck (ps : List Tm) (st : List Stp) (sv : Value) (hfit : Hid (∀ s ∈ st, zaB ps s)) (hsl : st.length ≤ 1000000) (hpl : ps.length ≤ 1000000) (n : Nat) (hn : n ≤ st.length) (b : Int) (N : Nat) (hrec : ∀ M, N = M + 1 → WayAll ps st sv n b M) : WayAll ps st sv n b N := by
 intro a seen sf lv lf w hu hsn hv hl
 obtain ⟨sa, sc, rfl, hsc1, hsc2⟩ := zc hv
 obtain ⟨la, lc, rfl, hlc1, hlc2⟩ := zc hl
 by_cases hab : a = b
 ·have h1 : (a == b) = true := by simp [hab]
  have HW := Lib.hid (show way st n (N + 1) a b seen = some [] by rw [hab]; exact zcz st n N b seen)
  clear hab
  go_enter Tryz.func77, Tryz.ntmps77
  go_wp2_with fail
  (try simp only [Exit.inBlock, Exit.then])
  refine bodyPost_ret (results_tmp2 rfl _ _ _) rfl ?_
  exact ⟨_, [], by rw [(zaG HW.out).2]; rfl, by rw [(zaG HW.out).1]; exact zbL _ _ (by simp), by simp, zb _ _⟩
 ·have h1 : (a == b) = false := by simpa using hab
  have HAB := Lib.hid hab
  clear hab
  go_enter Tryz.func77, Tryz.ntmps77
  go_wp2_with fail
  go_loopw [12] (fun iv wr => ∃ i : Nat, i ≤ n ∧ iv = .int .i64 i ∧ Hid (WayNo st n N a b seen i) ∧ Below w.heap.size w wr) (fun iv _ => n - (intOf iv).toNat)
  case atStart => exact ⟨0, Nat.zero_le _, rfl, Lib.hid (fun j hj => by omega), Below.refl _ _⟩
  case round =>
   obtain ⟨i, hi, rfl, HN, hbw⟩ := hrel
   by_cases hlt : i < n
   ·have hil : i < st.length := by omega
    obtain ⟨bk, off, rfl, hbs, _⟩ := zo hv (by omega)
    obtain ⟨d0, d1, d2, ia, ib, ig, _⟩ := Stp.at (hv.below hbw) hil
    obtain ⟨nx, HX⟩ : ∃ z, Hid (st[i].next a = z) := ⟨_, Lib.hid rfl⟩
    obtain ⟨sg, HS⟩ : ∃ z, Hid (st[i].sign a i = z) := ⟨_, Lib.hid rfl⟩
    obtain ⟨wq, hwq⟩ : ∃ z, z = wr := ⟨_, rfl⟩
    have hlw := hl.below hbw
    have hvw := hv.below hbw
    go_upto_if 33 with (fail)
    go_cut [13] from 21 to 78 (fun nv wx => ∃ z : Int, nv = .int .i64 z ∧ Hid (z = if st[i].a = a then st[i].b else -1) ∧ wx = wr)
    case first =>
     by_cases ha : st[i].a = a
     ·have h2 : (st[i].a == a) = true := by simp [ha]
      have HZ := Lib.hid (show st[i].b = if st[i].a = a then st[i].b else -1 by rw [if_pos ha])
      clear ha
      go_wp2_with fail
      go_meet
      case rel => exact ⟨_, rfl, HZ, rfl⟩
     ·have h2 : (st[i].a == a) = false := by simpa using ha
      have HZ := Lib.hid (show (-1 : Int) = if st[i].a = a then st[i].b else -1 by rw [if_neg ha])
      clear ha
      go_wp2_with fail
      go_meet
      case rel => exact ⟨_, rfl, HZ, rfl⟩
    case rest =>
    obtain ⟨z, rfl, HZ, hwc⟩ := hcut
    subst hwc
    clear d0
    go_upto_if 45 with (fail)
    go_cut [13, 14] from 21 to 78 (fun nv gv wx => nv = .int .i64 nx ∧ gv = .int .i64 sg ∧ wx = wc)
    case first =>
     obtain ⟨d0, _, _, _⟩ := Stp.at hvw hil
     by_cases hb2 : st[i].b = a
     ·have h2 : (st[i].b == a) = true := by simp [hb2]
      have hx : st[i].a = nx := by rw [← HX.out, Stp.next, if_pos hb2]
      have hs : -1 - (i : Int) = sg := by rw [← HS.out, Stp.sign, if_pos hb2]
      clear hb2
      rw [hx] at d0
      have HS2 := Lib.hid hs
      clear hs hx
      go_wp2_with fail
      go_meet
      case rel => exact ⟨rfl, by rw [← HS2.out], rfl⟩
     ·have h2 : (st[i].b == a) = false := by simpa using hb2
      have hx : z = nx := by rw [← HX.out, HZ.out, Stp.next, if_neg hb2]
      have hs : (i : Int) = sg := by rw [← HS.out, Stp.sign, if_neg hb2]
      clear hb2
      have HS2 := Lib.hid hs
      have HX2 := Lib.hid hx
      clear hs hx
      go_wp2_with fail
      go_meet
      case rel => exact ⟨by rw [HX2.out], by rw [← HS2.out], rfl⟩
    case rest =>
    obtain ⟨rfl, rfl, hwc2⟩ := hcut
    subst hwc2
    clear d1 d2 HZ
    by_cases h0 : nx < 0
    ·have h3 : decide (nx < 0) = true := by simpa using h0
     have HN2 := Lib.hid (HN.out.succ (zcg hil (.inl (by rw [HX.out]; exact h0))))
     clear h0
     go_wp2_with fail
     go_roundw
     case rel => exact ⟨i + 1, by omega, by go_num, HN2, hbw⟩
     case measure => simp [intOf]; omega
    ·have h3 : decide (nx < 0) = false := by simpa using h0
     obtain ⟨p, hp, hpm⟩ := next_fit (hfit.out _ (zeJ hil)) a (by rw [HX.out]; exact h0)
     rw [HX.out] at hp
     subst hp
     cases hin : decide ((p : Int) ∈ seen)
     ·have HNI : Hid ((p : Int) ∉ seen) := Lib.hid (by simpa using hin)
      clear h0
      go_wp2_with fail
      refine (zdO seen (p : Int) false hin _ _ _ (by omega) hlw).mono ?_
      rintro e w1 ⟨rfl, hb1⟩
      have hbw1 := hbw.trans (hb1.mono hbw.size)
      have hl1 := hlw.below hb1
      have hv1 := hvw.below hb1
      clear hb1 hlw hvw hin
      have hlf := hl1.lt
      have hba := zb w1 (.cells #[] 3)
      go_wp2_with (at_builtin; refine zJ zap rfl _ _ rfl w1.heap.size _ [] [] rfl (Own.empty w1 w1.heap.size _ _ (Nat.le_refl _)) (seen.map zv) _ lf rfl (by exact hl1.below hba) ?k ?na ?bytes ?len ?base ?next)
      case k => simp only [List.mem_map]; rintro e ⟨t, _, rfl⟩; exact zau t
      case na => intro x hx h; have h1 := hl1.lt _ x hx; have h2 : w1.heap.size = x := Option.some.inj h; omega
      case bytes => simp; omega
      case len => simp; omega
      case base => simp
      case next =>
       intro v5 w5 f5 hf5 hown5 hg5 hv5 hs5
       have hb5 : Below w1.heap.size w1 w5 := ze hba hg5 (by simp) (fun q hq => by have h2 : w1.heap.size = q := Option.some.inj hq; omega)
       try simp only [List.nil_append] at hown5
       have hz5 := hb5.size
       have hba5 := zb w5 (.cells #[.int .i64 (p : Int)] 3)
       have hown7 := hown5.below hba5
       have hlt5 : ∀ {q : Nat}, v5.ownBlock = some q → w1.heap.size ≤ q ∧ q < w5.heap.size := hown5.block
       have HNX : Hid (I64 (p : Int)) := Lib.hid ⟨by omega, by omega⟩
       have hbA := hb5.trans (hba5.mono hz5)
       go_wp2_with (at_builtin; refine zp zap rfl _ _ rfl w1.heap.size _ _ _ rfl hown7 ⟨w5.heap.size, 0, none⟩ 1 1 [zv (p : Int)] [.int .i64 (p : Int)] [] rfl rfl ?rd ?k ?cells ?na ?bytes ?len ?base ?next)
       case rd => exact by simpa using zT [(p : Int)] (by simpa using HNX.out)
       case k => simp [zau]
       case cells => exact zn _ _ _
       case na => simp
       case bytes => simp; omega
       case len => simp; omega
       case base => simp; omega
       case next =>
        intro v6 w6 hown6 hg6 hv6 hs6
        have hb6 : Below w1.heap.size w1 w6 := ze hbA hg6 (by simp; omega) (fun q hq => (hlt5 hq).1)
        obtain ⟨sn, hsn'⟩ : ∃ l, l = seen ++ [(p : Int)] := ⟨_, rfl⟩
        rw [show seen.map zv ++ [zv (p : Int)] = sn.map zv from by rw [hsn']; simp] at hown6
        obtain ⟨g6, hr6⟩ := hown6.rd'
        have hsl2 : sn.length ≤ seen.length + 1 := by rw [hsn']; simp
        have HSN := Lib.hid hsn'
        clear hsn'
        obtain ⟨M, hM⟩ : ∃ M, N = M + 1 := by
         have h8 := zch hpm (seen := seen) HNI.out
         have h9 := hu.out
         exact ⟨N - 1, by omega⟩
        have hv6' := hv1.below hb6
        have HU : Hid (zbK ps.length sn ≤ M) := Lib.hid (by
         rw [HSN.out]
         have h8 := zch hpm (seen := seen) HNI.out
         have h9 := hu.out
         omega)
        have hbw6 := hbw1.trans (hb6.mono hbw1.size)
        have hm2 : sn.length + M ≤ 2000000 := by omega
        clear hown5 hown6 hown7 hg5 hg6 hv5 hv6 hs5 hs6 hba hba5 hbA hb5 hb6 hl1 hv1 hlf hlt5 hf5
        obtain ⟨va, vc, rfl, _, _⟩ := zc hr6
        go_wp2_with fail
        refine (hrec M hM (p : Int) sn _ _ _ _ HU hm2 hv6' (by exact hr6)).mono ?_
        rintro e w8 ⟨rv, rf, rfl, hrr, hrf, hb8⟩
        obtain ⟨ra, rc, rfl, hrc1, hrc2⟩ := zc hrr
        have hbw8 := hbw6.trans (hb8.mono hbw6.size)
        have hz8 := hb8.size
        have hz6 := hbw6.size
        cases hway : way st n (M + 1) (p : Int) b sn with
        | none =>
         have HN2 := Lib.hid (HN.out.succ (by
          subst hM
          rw [zdM hil (by rw [HX.out]; exact fun h => h.elim (fun h9 => absurd h9 (by omega)) HNI.out), HX.out, ← HSN.out, hway]; rfl))
         simp only [Option.isSome_none]
         clear hway hrr
         go_wp2_with fail
         go_roundw
         case rel => exact ⟨i + 1, by omega, by go_num, HN2, hbw8⟩
         case measure => simp [intOf]; omega
        | some l =>
         have e1 := (zaG hway).1
         have HL := Lib.hid (zdN st n (M + 1) _ _ _ _ hway).2
         have HW := Lib.hid (HN.out.some HAB.out hlt (l := sg :: l) (by
          subst hM
          rw [zdM hil (by rw [HX.out]; exact fun h => h.elim (fun h9 => absurd h9 (by omega)) HNI.out), HX.out, ← HSN.out, hway, HS.out]; rfl))
         rw [e1] at hrr ⊢
         simp only [Option.isSome_some]
         clear e1 hway
         have HSG : Hid (I64 sg) := Lib.hid (by rw [← HS.out, Stp.sign]; split <;> constructor <;> omega)
         have hba := zb w8 (.cells #[.int .i64 sg] 3)
         have hown := Own.single (w := w8) (base := w8.heap.size) (e := 3) (k := 1) (vs := [.int .i64 sg]) (d := zv sg) (f := []) (Nat.le_refl _) (zE HSG.out) rfl (by simp)
         have hll : l.length ≤ 2000001 := by have := HL.out; omega
         go_wp2_with (at_builtin; refine zJ zap rfl _ _ rfl w8.heap.size _ _ _ rfl hown (l.map zv) _ rf rfl (by exact hrr.below hba) ?k ?na ?bytes ?len ?base ?next)
         case k => simp only [List.mem_map]; rintro e ⟨t, _, rfl⟩; exact zau t
         case na => intro x hx h; have h1 := hrr.lt _ x hx; have h2 : w8.heap.size = x := Option.some.inj h; omega
         case bytes => simp; omega
         case len => simp; omega
         case base => simp
         case next =>
          intro v9 w9 f9 hf9 hown9 hg9 hv9 hs9
          have hb9 : Below w8.heap.size w8 w9 := ze hba hg9 (by simp) (fun q hq => by have h2 : w8.heap.size = q := Option.some.inj hq; omega)
          obtain ⟨g9, hr9, hg9m⟩ := hown9.rd
          have hbw9 := hbw8.trans (hb9.mono hbw8.size)
          go_wp2_with fail
          (try simp only [Exit.inBlock, Exit.then])
          refine bodyPost_ret (results_tmp2 rfl _ _ _) rfl ?_
          refine ⟨_, g9, by rw [(zaG HW.out).2]; rfl, by rw [(zaG HW.out).1]; simpa using hr9, fun x hx => ?_, hbw9⟩
          rcases hg9m with ⟨_, _, rfl⟩ | ⟨q, c, hq, rfl, _, hq4, _⟩
          ·simp at hx
          ·rcases zeM.1 hx with rfl | hx
           ·omega
           ·have := hrf x (hf9 x (by simpa using hx)); omega
     ·have HN2 := Lib.hid (HN.out.succ (zcg hil (.inr (by rw [HX.out]; simpa using hin))))
      clear h0
      go_wp2_with fail
      refine (zdO seen (p : Int) true hin _ _ _ (by omega) hlw).mono ?_
      rintro e w1 ⟨rfl, hb1⟩
      have hbw1 := hbw.trans (hb1.mono hbw.size)
      go_wp2_with fail
      go_roundw
      case rel => exact ⟨i + 1, by omega, by go_num, HN2, hbw1⟩
      case measure => simp [intOf]; omega
   ·have ei : i = n := by omega
    have HW : Hid (way st n (N + 1) a b seen = none) := Lib.hid (by have h9 := HN.out; rw [ei] at h9; exact h9.none HAB.out)
    clear ei
    go_wp2_with fail
    (try simp only [Exit.inBlock, Exit.then])
    refine bodyPost_ret (results_tmp2 rfl _ _ _) rfl ?_
    exact ⟨_, [], by rw [(zc0 HW.out).2]; rfl, by rw [(zc0 HW.out).1]; exact zbL _ _ (by simp), by simp, hbw.alloc hbw.size _⟩
theorem l5Way_any (ps : List Tm) (st : List Stp) (sv : Value) (hfit : Hid (∀ s ∈ st, zaB ps s)) (hsl : st.length ≤ 1000000) (hpl : ps.length ≤ 1000000) (n : Nat) (hn : n ≤ st.length) (b : Int) (N : Nat) : WayAll ps st sv n b N := by
 induction N with
 | zero => exact zck ps st sv hfit hsl hpl n hn b 0 (fun M h => by omega)
 | succ N ih => exact zck ps st sv hfit hsl hpl n hn b (N + 1) (fun M h => (show N = M by omega) ▸ ih)
/-- The step that a number of a way names. -/
def zaR (k : Int) : Nat := if k < 0 then (-1 - k).toNat else k.toNat
theorem zbQ (s : Stp) (a : Int) (i : Nat) : zaR (s.sign a i) = i := by
 unfold zaR Stp.sign
 by_cases h : s.b = a
 ·rw [if_pos h, if_pos (by omega)]; omega
 ·rw [if_neg h, if_neg (by omega)]; omega
theorem zdT (st : List Stp) (n : Nat) : ∀ (N : Nat) (a b : Int) (seen l : List Int), a ∈ seen → way st n N a b seen = some l → (l.map zaR).Nodup ∧ ∀ k ∈ l, zaR k < n ∧ ∃ s, st[zaR k]? = some s ∧ (s.a ∉ seen ∨ s.b ∉ seen)
 | 0, a, b, seen, l, _, h => by simp [way] at h
 | N + 1, a, b, seen, l, ha, h => by
  by_cases hab : a = b
  ·subst hab
   rw [zcz] at h
   obtain rfl := Option.some.inj h
   exact ⟨by simp, fun k hk => by cases hk⟩
  ·rw [zbw hab] at h
   obtain ⟨i, hi, h1⟩ := List.exists_of_findSome?_eq_some h
   have hin := List.mem_range.1 hi
   unfold zbJ at h1
   split at h1
   ·cases h1
   ·rename_i s hs
    split at h1
    ·cases h1
    ·rename_i hx
     simp only [Option.map_eq_some_iff] at h1
     obtain ⟨m, h2, rfl⟩ := h1
     have hx1 : ¬ s.next a < 0 := fun h => hx (.inl h)
     have hx2 : s.next a ∉ seen := fun h => hx (.inr h)
     obtain ⟨h3, h4⟩ := zdT st n N _ _ _ _ (List.mem_append_right _ (by simp)) h2
     have hends : (s.a ∈ seen ++ [s.next a] ∧ s.b ∈ seen ++ [s.next a]) ∧ (s.a ∉ seen ∨ s.b ∉ seen) := by
      unfold Stp.next at hx1 hx2 ⊢
      by_cases hb : s.b = a
      ·rw [if_pos hb] at hx1 hx2 ⊢
       exact ⟨⟨by simp, List.mem_append_left _ (hb ▸ ha)⟩, .inl hx2⟩
      ·rw [if_neg hb] at hx1 hx2 ⊢
       by_cases hc : s.a = a
       ·rw [if_pos hc] at hx1 hx2 ⊢
        exact ⟨⟨List.mem_append_left _ (hc ▸ ha), by simp⟩, .inr hx2⟩
       ·rw [if_neg hc] at hx1
        exact absurd (by decide) hx1
     refine ⟨?_, fun k hk => ?_⟩
     ·rw [List.map_cons, List.nodup_cons, zbQ]
      refine ⟨fun hm => ?_, h3⟩
      obtain ⟨k, hk, e⟩ := List.mem_map.1 hm
      obtain ⟨_, s', hs', hn⟩ := h4 k hk
      rw [e, hs] at hs'
      obtain rfl := Option.some.inj hs'
      rcases hn with hn | hn
      ·exact hn hends.1.1
      ·exact hn hends.1.2
     ·rcases zeM.1 hk with rfl | hk
      ·rw [zbQ]; exact ⟨hin, s, hs, hends.2⟩
      ·obtain ⟨h5, s', h6, h7⟩ := h4 k hk
       refine ⟨h5, s', h6, ?_⟩
       rcases h7 with h7 | h7
       ·exact .inl fun h => h7 (List.mem_append_left _ h)
       ·exact .inr fun h => h7 (List.mem_append_left _ h)
/-- The sum over those below n that are p. -/
def zbs (c : Nat → Nat) (p : Nat → Bool) : Nat → Nat
 | 0 => 0
 | n + 1 => zbs c p n + (if p n = true then c n else 0)
theorem zc5 (c : Nat → Nat) (p : Nat → Bool) (i : Nat) (hp : p i = true) : ∀ n, i < n → zbs c p n = c i + zbs c (fun j => p j && j != i) n
 | 0, h => by omega
 | n + 1, h => by
  have hkeep : ∀ m, m ≤ i → zbs c (fun j => p j && j != i) m = zbs c p m := by
   intro m
   induction m with
   | zero => intro _; rfl
   | succ m ih =>
    intro hm
    have h1 : (m != i) = true := by simp; omega
    simp only [zbs, ih (by omega), h1, Bool.and_true]
  by_cases hn : i = n
  ·subst hn
   simp only [zbs, hp, bne_self_eq_false, Bool.and_false, Bool.false_eq_true, if_true, if_false]
   rw [hkeep i (Nat.le_refl _)]; omega
  ·have h1 : (n != i) = true := by simp; omega
   simp only [zbs, zc5 c p i hp n (by omega), h1, Bool.and_true]
   omega
theorem zdU (c : Nat → Nat) : ∀ (l : List Nat) (p : Nat → Bool) (n : Nat), l.Nodup → (∀ i ∈ l, i < n ∧ p i = true) → (l.map c).sum ≤ zbs c p n
 | [], p, n, _, _ => by simp
 | i :: l, p, n, hd, h => by
  rw [List.nodup_cons] at hd
  obtain ⟨h1, h2⟩ := h i (by simp)
  have h3 := zdU c l (fun j => p j && j != i) n hd.2 (fun j hj => by
   obtain ⟨h4, h5⟩ := h j (by simp [hj])
   have h6 : j ≠ i := fun e => hd.1 (e ▸ hj)
   exact ⟨h4, by simp [h5, h6]⟩)
  rw [zc5 c p i h2 n h1]
  simp only [List.map_cons, List.sum_cons]
  omega
theorem zc6 (c : Nat → Nat) (p : Nat → Bool) : ∀ n, (∀ i, i < n → c i ≤ 2 * 3 ^ i) → zbs c p n + 1 ≤ 3 ^ n
 | 0, _ => by simp [zbs]
 | n + 1, h => by
  have h1 := zc6 c p n (fun i hi => h i (by omega))
  have h2 := h n (by omega)
  simp only [zbs]
  have h3 : (3 : Nat) ^ (n + 1) = 3 * 3 ^ n := by rw [Nat.pow_succ]; omega
  split <;> omega
theorem zc7 (one : Nat → Wy) (k : Int) : (zaF one k).uses = (one (zaR k)).uses := by
 unfold zaF zaR
 split
 ·rw [Wy.uses_mk]; simp [Wy.usesL]
 ·rfl
theorem zej (one : Nat → Wy) : ∀ (l : List Int), (zac one l).uses.length = ((l.map zaR).map (fun i => (one i).uses.length)).sum
 | [] => by rw [zac, Wy.uses_eq]; simp [Wy.rule, Wy.kids, Wy.usesL]
 | k :: ks => by
  have key : ∀ (l : List Int) (w : Wy), (l.foldl (fun out q => Wy.mk 4 0 ⟨⟨#[]⟩, []⟩ [out, zaF one q]) w).uses.length = w.uses.length + ((l.map zaR).map (fun i => (one i).uses.length)).sum := by
   intro l
   induction l with
   | nil => intro w; simp
   | cons q l ih =>
    intro w
    rw [List.foldl_cons, ih]
    have h1 : (Wy.mk 4 0 ⟨⟨#[]⟩, []⟩ [w, zaF one q]).uses.length = w.uses.length + (one (zaR q)).uses.length := by
     rw [Wy.uses_mk]; simp [Wy.usesL, zc7]
    rw [h1]
    simp only [List.map_cons, List.sum_cons]
    omega
  simp only [zac]
  rw [key, zc7]
  simp only [List.map_cons, List.sum_cons]
theorem zdV {m : Nat} : ∀ (ks : List Wy), (∀ k ∈ ks, k.uses.length ≤ m) → (Wy.usesL ks).length ≤ ks.length * m
 | [], _ => by simp [Wy.usesL]
 | k :: ks, h => by
  have h1 := h k (by simp)
  have h2 := zdV ks (fun k hk => h k (by simp [hk]))
  simp only [Wy.usesL, zeK, List.length_cons, Nat.add_mul]
  omega
theorem one_uses {ps : List Tm} {st : List Stp} {rec : Nat → Nat → Wy} {i m : Nat} (hk : ∀ t ∈ ps, t.kids.length ≤ 2) (hm : 1 ≤ m) (h : ∀ p q, (rec p q).uses.length ≤ m) : (oneW ps st rec i).uses.length ≤ 2 * m := by
 unfold oneW
 split
 ·rw [Wy.uses_mk]; simp [Wy.usesL]
 ·rename_i s hs
  split
  ·rw [Wy.uses_mk]; simp [Wy.usesL]; omega
  ·split
   ·rename_i x y hx hy
    rw [Wy.uses_mk]
    have h1 := hk x (List.mem_of_getElem? hx)
    have h2 := zdV (m := m) ((x.kids.zip y.kids).map fun p => rec (Tm.pos ps p.1) (Tm.pos ps p.2)) (fun k hk => by
     obtain ⟨p, _, rfl⟩ := List.mem_map.1 hk
     exact h _ _)
    have h3 : ((x.kids.zip y.kids).map fun p => rec (Tm.pos ps p.1) (Tm.pos ps p.2)).length ≤ 2 := by
     rw [zeN, List.length_zip]; omega
    have h4 : ((x.kids.zip y.kids).map fun p => rec (Tm.pos ps p.1) (Tm.pos ps p.2)).length * m ≤ 2 * m := Nat.mul_le_mul_right _ h3
    rw [if_neg (by decide)]
    simp only [List.nil_append]
    omega
   ·rw [Wy.uses_mk]; simp [Wy.usesL]
theorem zc8 {ps : List Tm} {st : List Stp} (hk : ∀ t ∈ ps, t.kids.length ≤ 2) : ∀ (F n a b : Nat), (whyW ps st F n a b).uses.length ≤ 3 ^ n
 | 0, n, a, b => by
  simp only [whyW]
  rw [Wy.uses_mk]; simp [Wy.usesL]
 | F + 1, n, a, b => by
  unfold whyW
  split
  ·rw [Wy.uses_mk]; simp [Wy.usesL]
  ·rename_i k ks hl
   rw [zej]
   have hw : way st n (ps.length + 1) a b [(a : Int)] = some (k :: ks) := by
    unfold wayL at hl
    cases h : way st n (ps.length + 1) (a : Int) (b : Int) [(a : Int)] with
    | none => rw [h] at hl; simp at hl
    | some l => rw [h] at hl; simp only [Option.getD_some] at hl; rw [hl]
   obtain ⟨h1, h2⟩ := zdT st n _ _ _ _ _ (by simp) hw
   have h3 := zdU (fun i => (oneW ps st (fun p q => whyW ps st F i p q) i).uses.length) _ (fun _ => true) n h1 (fun i hi => by
    obtain ⟨q, hq, rfl⟩ := List.mem_map.1 hi
    exact ⟨(h2 q hq).1, rfl⟩)
   have h4 := zc6 (fun i => (oneW ps st (fun p q => whyW ps st F i p q) i).uses.length) (fun _ => true) n (fun i _ => one_uses hk (Nat.one_le_pow _ _ (by decide)) (fun p q => zc8 hk F i p q))
   omega
theorem zcm {t : Tm} (h : ∃ d, Tm.shape t d = true) : t.kids.length ≤ 2 ∧ ∀ k ∈ t.kids, ∃ d, Tm.shape k d = true := by
 obtain ⟨d, h⟩ := h
 rw [Tm.shape_eq] at h
 simp only [zeO, decide_eq_true_eq] at h
 refine ⟨h.1.2, fun k hk => ⟨d - 1, ?_⟩⟩
 have h2 := h.2
 rw [Tm.shapes_all, List.all_eq_true] at h2
 exact h2 k hk
theorem zbR {t : Tm} (h : t.wf = true) : ∃ d, Tm.shape t d = true := by
 unfold Tm.wf at h
 simp only [zeO] at h
 exact ⟨4, h.1⟩
theorem moreP_two {s : Sg} {es : List Eqn} {ms : List Tm} (h : zQ s es ms = true) : ∀ t ∈ zq es ms, t.kids.length ≤ 2 := by
 simp only [zQ, zeO, List.all_eq_true] at h
 have key : ∀ t ∈ zq es ms, ∃ d, Tm.shape t d = true := by
  refine Tm.addPs_pred (p := fun t => ∃ d, Tm.shape t d = true) (fun t ht k hk => (zcm ht).2 k hk) _ [] (fun t ht => ?_) (by simp)
  rcases zeI.1 ht with ht | ht
  ·obtain ⟨e, he, hm⟩ := List.mem_flatMap.1 ht
   have h1 := h.1
   simp only [eqsB, zeO, List.all_eq_true] at h1
   obtain ⟨h2, h3⟩ := Eqn.okB_wf (h1.2.2.1 e he)
   simp only [zeM, List.not_mem_nil, or_false] at hm
   rcases hm with rfl | rfl
   ·exact zbR h2
   ·exact zbR h3
  ·have := h.2.1 t ht
   unfold Tm.tsrt at this
   split at this
   ·rename_i h4; exact zbR h4.2
   ·simp at this
 exact fun t ht => (zcm (key t ht)).1
theorem cloS_len (es : List Eqn) (ms : List Tm) : (cloS es ms).length ≤ (zq es ms).length := by
 have h1 := (cloS_ok es ms).1
 have h2 := zdB (cloC es ms) (zq es ms).length
 omega
end Go.Proofs.YtlefdhhnlbpbkaaGreat
end
