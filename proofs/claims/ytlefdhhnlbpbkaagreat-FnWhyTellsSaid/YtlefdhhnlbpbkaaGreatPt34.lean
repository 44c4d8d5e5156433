/- Parts of the proof: WhPl WhUs. -/
import Derived.Test.YtlefdhhnlbpbkaaGreatPt17
import Derived.Test.YtlefdhhnlbpbkaaGreatPt33
import Derived.Test.YtlefdhhnlbpbkaaGreatPt32
section
namespace Go.Proofs.YtlefdhhnlbpbkaaGreat
open Go Go.RowKit
set_option linter.unusedVariables false
set_option linter.unusedSimpArgs false
set_option maxRecDepth 100000
set_option maxHeartbeats 16000000
mutual
/-- The given ones that a reason uses, as they come. -/
def Wy.uses : Wy → List Int
 | .mk r n _ ks => (if r = 2 then [n] else []) ++ Wy.usesL ks
def Wy.usesL : List Wy → List Int
 | [] => []
 | k :: ks => Wy.uses k ++ Wy.usesL ks
end
theorem Wy.uses_eq (x : Wy) : x.uses = (if x.rule = 2 then [x.n] else []) ++ Wy.usesL x.kids := by cases x; rw [Wy.uses]; rfl
theorem Wy.uses_mk (r n : Int) (t : Tm) (ks : List Wy) : (Wy.mk r n t ks).uses = (if r = 2 then [n] else []) ++ Wy.usesL ks := by rw [Wy.uses]
theorem Wy.usesL_app : ∀ (a b : List Wy), Wy.usesL (a ++ b) = Wy.usesL a ++ Wy.usesL b
 | [], b => by simp [Wy.usesL]
 | k :: a, b => by simp only [List.cons_append, Wy.usesL, Wy.usesL_app a b, List.append_assoc]
theorem Wy.usesL_succ {ks : List Wy} {k : Nat} (h : k < ks.length) : Wy.usesL (ks.take (k + 1)) = Wy.usesL (ks.take k) ++ Wy.uses ks[k] := by
 rw [zeH h, Wy.usesL_app]; simp [Wy.usesL]
namespace Clo
/-- The first one of a class. -/
def rep (ps : List Tm) (c : List Nat) (t : Tm) : Tm := ps.getD (cl c (Tm.pos ps t)) t
def look (ps : List Tm) (c : List Nat) (n : ByteArray) (ds : List Tm) : Tm :=
 match ps.find? (fun p => decide (p.name = n) && decide (p.kids.map (rep ps c) = ds)) with
 | some p => rep ps c p
 | none => .mk n ds
/-- A model in which all that is in one class is one. -/
def val (ps : List Tm) (c : List Nat) : Tm → Tm
 | .mk n ks => look ps c n (ks.map (val ps c))
theorem val_eq (ps : List Tm) (c : List Nat) (t : Tm) : val ps c t = look ps c t.name (t.kids.map (val ps c)) := by cases t; rw [val]; rfl
theorem Ok.kid {ps : List Tm} {es : List Eqn} {c : List Nat} (h : Ok ps es c) {t : Tm} (ht : t ∈ ps) : ∀ k ∈ t.kids, k ∈ ps := fun k hk => by
 obtain ⟨i, hi, rfl⟩ := List.getElem_of_mem ht
 exact List.mem_of_mem_take ((h.ord i hi).1 k hk)
theorem rep_at {ps : List Tm} {es : List Eqn} {c : List Nat} (h : Ok ps es c) {t : Tm} (ht : t ∈ ps) : ∃ hp : cl c (Tm.pos ps t) < ps.length, rep ps c t = ps[cl c (Tm.pos ps t)] := by
 have h1 := (Tm.pos_yes ht).1
 have h2 := (h.low _ h1).1
 have h3 : cl c (Tm.pos ps t) < ps.length := by omega
 exact ⟨h3, by unfold rep; rw [List.getD_eq_getElem?_getD, List.getElem?_eq_getElem h3]; rfl⟩
theorem rep_iff {ps : List Tm} {es : List Eqn} {c : List Nat} (h : Ok ps es c) {t u : Tm} (ht : t ∈ ps) (hu : u ∈ ps) : rep ps c t = rep ps c u ↔ cl c (Tm.pos ps t) = cl c (Tm.pos ps u) := by
 obtain ⟨p1, e1⟩ := rep_at h ht
 obtain ⟨p2, e2⟩ := rep_at h hu
 rw [e1, e2]
 exact List.getElem_inj (Tm.Ord.nodup h.ord)
theorem kidsB_of {ps : List Tm} {c : List Nat} : ∀ {xs ys : List Tm}, xs.length = ys.length → (∀ j (h1 : j < xs.length) (h2 : j < ys.length), cl c (Tm.pos ps xs[j]) = cl c (Tm.pos ps ys[j])) → kidsB ps c xs ys = true := by
 intro xs ys hl hj
 cases hb : kidsB ps c xs ys with
 | true => rfl
 | false =>
  exfalso
  induction xs generalizing ys with
  | nil =>
   cases ys with
   | nil => simp [kidsB] at hb
   | cons y ys => simp at hl
  | cons x xs ih =>
   cases ys with
   | nil => simp at hl
   | cons y ys =>
    have h0 := hj 0 (by simp) (by simp)
    simp only [List.getElem_cons_zero] at h0
    have h1 : kidsB ps c xs ys = false := by simpa [kidsB, h0] using hb
    exact ih (by simpa using hl) (fun j h1 h2 => by
     have := hj (j + 1) (by simp; omega) (by simp; omega)
     simpa using this) h1
theorem look_part {ps : List Tm} {es : List Eqn} {c : List Nat} (h : Ok ps es c) {p : Tm} (hp : p ∈ ps) : look ps c p.name (p.kids.map (rep ps c)) = rep ps c p := by
 unfold look
 cases hf : ps.find? (fun q => decide (q.name = p.name) && decide (q.kids.map (rep ps c) = p.kids.map (rep ps c))) with
 | none =>
  have := List.find?_eq_none.1 hf p hp
  simp at this
 | some q =>
  have hq := List.mem_of_find?_eq_some hf
  have h1 := List.find?_some hf
  simp only [zeO, decide_eq_true_eq] at h1
  obtain ⟨hn, hk⟩ := h1
  have hl : q.kids.length = p.kids.length := by have := congrArg List.length hk; simpa using this
  have hj : ∀ j (h1 : j < q.kids.length) (h2 : j < p.kids.length), cl c (Tm.pos ps q.kids[j]) = cl c (Tm.pos ps p.kids[j]) := fun j h1 h2 => by
   have h3 : (q.kids.map (rep ps c))[j]'(by simpa using h1) = (p.kids.map (rep ps c))[j]'(by simpa using h2) := by simp only [hk]
   rw [List.getElem_map, List.getElem_map] at h3
   exact (rep_iff h (h.kid hq _ (zeJ h1)) (h.kid hp _ (zeJ h2))).1 h3
  have hb : kidsB ps c q.kids p.kids = true := kidsB_of hl hj
  refine (rep_iff h hq hp).2 ?_
  obtain ⟨hpq, eq⟩ := zcD hq
  obtain ⟨hpp, ep⟩ := zcD hp
  rcases Nat.lt_trichotomy (Tm.pos ps q) (Tm.pos ps p) with hlt | heq | hgt
  ·refine (h.alike _ _ hlt hpp ?_ ?_).symm
   ·rw [ep, eq, hn]
   ·rw [ep, eq]; exact kidsB_symm hb
  ·rw [heq]
  ·refine h.alike _ _ hgt hpq ?_ ?_
   ·rw [ep, eq, hn]
   ·rw [ep, eq]; exact hb
theorem val_part {ps : List Tm} {es : List Eqn} {c : List Nat} (h : Ok ps es c) : ∀ t : Tm, t ∈ ps → val ps c t = rep ps c t := by
 intro t
 induction t using Tm.ind with
 | h n ks ih =>
  intro ht
  rw [val_eq]
  have e : (Tm.mk n ks).kids.map (val ps c) = (Tm.mk n ks).kids.map (rep ps c) := List.map_congr_left fun k hk => ih k hk (h.kid ht k hk)
  rw [e]
  exact look_part h ht
end Clo
theorem tell1_val {ps : List Tm} {c : List Nat} {es : List Eqn} {r n : Int} {t : Tm} {l : List Eqn} {q : Eqn} (hes : r = 2 → 0 ≤ n → ∀ e, es[n.toNat]? = some e → Clo.val ps c e.a = Clo.val ps c e.b) (hl : ∀ e ∈ l, Clo.val ps c e.a = Clo.val ps c e.b) (h : zx es r n t l = some q) : Clo.val ps c q.a = Clo.val ps c q.b := by
 unfold zx at h
 split at h
 ·split at h
  ·obtain rfl := Option.some.inj h; rfl
  ·cases h
 split at h
 ·rename_i h2
  split at h
  ·rename_i h1; exact hes h2 h1.2.2 q h
  ·cases h
 split at h
 ·split at h
  ·split at h
   ·rename_i e; obtain rfl := Option.some.inj h; exact (hl e (by simp)).symm
   ·cases h
  ·cases h
 split at h
 ·split at h
  ·split at h
   ·rename_i e f
    split at h
    ·rename_i hb
     obtain rfl := Option.some.inj h
     have h3 : e.b = f.a := (Tm.beq_iff _ _).1 hb
     have h1 := hl e (by simp)
     have h2 := hl f (by simp)
     simp only
     rw [h1, h3, h2]
    ·cases h
   ·cases h
  ·cases h
 split at h
 ·split at h
  ·obtain rfl := Option.some.inj h
   simp only
   rw [Clo.val_eq, Clo.val_eq ps c (Tm.mk t.name (l.map Eqn.b))]
   simp only [Tm.name, Tm.kids, List.map_map]
   have e : l.map (Clo.val ps c ∘ Eqn.a) = l.map (Clo.val ps c ∘ Eqn.b) := List.map_congr_left fun e he => hl e he
   rw [e]
  ·cases h
 ·cases h
mutual
theorem Wy.tells_val {ps : List Tm} {c : List Nat} {es : List Eqn} : ∀ (d : Nat) (x : Wy) (q : Eqn), (∀ n ∈ x.uses, 0 ≤ n → ∀ e, es[n.toNat]? = some e → Clo.val ps c e.a = Clo.val ps c e.b) → Wy.tells es d x = some q → Clo.val ps c q.a = Clo.val ps c q.b
 | d, .mk r n t ks, q, hu, h => by
  rw [Wy.tells_eq] at h
  split at h
  ·cases h
  ·obtain ⟨l, h1, h2⟩ := Option.bind_eq_some_iff.1 h
   rw [Wy.uses_mk] at hu
   exact tell1_val (fun hr hn e he => hu n (List.mem_append_left _ (by rw [if_pos hr]; simp)) hn e he) (Wy.tellsL_val (d - 1) ks l (fun m hm => hu m (List.mem_append_right _ hm)) h1) h2
theorem Wy.tellsL_val {ps : List Tm} {c : List Nat} {es : List Eqn} : ∀ (d : Nat) (ks : List Wy) (l : List Eqn), (∀ n ∈ Wy.usesL ks, 0 ≤ n → ∀ e, es[n.toNat]? = some e → Clo.val ps c e.a = Clo.val ps c e.b) → Wy.tellsL es d ks = some l → ∀ e ∈ l, Clo.val ps c e.a = Clo.val ps c e.b
 | d, [], l, hu, h => by simp [Wy.tellsL] at h; subst h; intro e he; cases he
 | d, k :: ks, l, hu, h => by
  simp only [Wy.tellsL, Option.bind_eq_some_iff] at h
  obtain ⟨e, h1, m, h2, h3⟩ := h
  obtain rfl := Option.some.inj h3
  simp only [Wy.usesL] at hu
  intro y hy
  rcases zeM.1 hy with rfl | hy
  ·exact Wy.tells_val d k _ (fun m hm => hu m (List.mem_append_left _ hm)) h1
  ·exact Wy.tellsL_val d ks m (fun m hm => hu m (List.mem_append_right _ hm)) h2 y hy
end
mutual
theorem Wy.tells_uses {es : List Eqn} : ∀ (d : Nat) (x : Wy) (q : Eqn), Wy.tells es d x = some q → ∀ n ∈ x.uses, 0 ≤ n ∧ n.toNat < es.length
 | d, .mk r n t ks, q, h => by
  rw [Wy.tells_eq] at h
  split at h
  ·cases h
  ·obtain ⟨l, h1, h2⟩ := Option.bind_eq_some_iff.1 h
   intro m hm
   rw [Wy.uses_mk] at hm
   rcases zeI.1 hm with hm | hm
   ·by_cases hr : r = 2
    ·rw [if_pos hr] at hm
     obtain rfl := List.mem_singleton.1 hm
     unfold zx at h2
     rw [if_neg (by omega), if_pos hr] at h2
     split at h2
     ·rename_i h3; exact ⟨h3.2.2, (List.getElem?_eq_some_iff.1 h2).1⟩
     ·cases h2
    ·rw [if_neg hr] at hm; cases hm
   ·exact Wy.tellsL_uses (d - 1) ks l h1 m hm
theorem Wy.tellsL_uses {es : List Eqn} : ∀ (d : Nat) (ks : List Wy) (l : List Eqn), Wy.tellsL es d ks = some l → ∀ n ∈ Wy.usesL ks, 0 ≤ n ∧ n.toNat < es.length
 | d, [], l, h => by intro n hn; simp [Wy.usesL] at hn
 | d, k :: ks, l, h => by
  simp only [Wy.tellsL, Option.bind_eq_some_iff] at h
  obtain ⟨e, h1, m, h2, h3⟩ := h
  intro n hn
  simp only [Wy.usesL] at hn
  rcases zeI.1 hn with hn | hn
  ·exact Wy.tells_uses d k e h1 n hn
  ·exact Wy.tellsL_uses d ks m h2 n hn
end
/-- What a reason tells is so in the closure of what it uses. -/
theorem zei {s : Sg} {es few : List Eqn} {d : Nat} {x : Wy} {q : Eqn} (h : Wy.tells es d x = some q) (hf : ∀ n ∈ x.uses, ∀ e, es[n.toNat]? = some e → e ∈ few) (hm : zQ s few [q.a, q.b] = true) : zC s few q.a q.b = true := by
 have hok := cloC_ok few [q.a, q.b]
 have ha : q.a ∈ zq few [q.a, q.b] := zR (List.mem_append_right _ (by simp))
 have hb : q.b ∈ zq few [q.a, q.b] := zR (List.mem_append_right _ (by simp))
 have hv := Wy.tells_val (ps := zq few [q.a, q.b]) (c := cloC few [q.a, q.b]) d x q (fun n hn _ e he => by
  obtain ⟨⟨h1, h2⟩, h3⟩ := hok.given e (hf n hn e he)
  rw [Clo.val_part hok _ h1, Clo.val_part hok _ h2]
  exact (Clo.rep_iff hok h1 h2).2 h3) h
 rw [Clo.val_part hok _ ha, Clo.val_part hok _ hb] at hv
 unfold zC
 rw [hm, (Clo.rep_iff hok ha hb).1 hv]
 simp
def Wy.uses0 (x : Wy) (k : Nat) : List Int := (if x.rule = 2 then [x.n] else []) ++ Wy.usesL (x.kids.take k)
theorem Wy.uses0_all {x : Wy} {k : Nat} (h : x.kids.length ≤ k) : x.uses0 k = x.uses := by unfold Wy.uses0; rw [List.take_of_length_le h, Wy.uses_eq]
theorem Wy.uses0_succ {x : Wy} {k : Nat} (h : k < x.kids.length) : x.uses0 (k + 1) = x.uses0 k ++ (x.kids[k]).uses := by unfold Wy.uses0; rw [Wy.usesL_succ h, List.append_assoc]
theorem Wy.usesL_take (ks : List Wy) (k : Nat) : (Wy.usesL (ks.take k)).length ≤ (Wy.usesL ks).length := by
 have h := Wy.usesL_app (ks.take k) (ks.drop k)
 rw [List.take_append_drop] at h
 rw [h, zeK]; omega
theorem Wy.uses0_le (x : Wy) (k : Nat) : (x.uses0 k).length ≤ x.uses.length := by
 have h := Wy.usesL_take x.kids k
 rw [Wy.uses_eq]; unfold Wy.uses0
 rw [zeK, zeK]; omega
theorem zdY {w : World} {base e : Nat} {v : Value} {l : List Int} {fp : List Nat} (h : Own w base e 1 v (l.map zv) fp) : fp = [] := by
 obtain ⟨ys, _, h, _⟩ := h
 exact zcZ l _ _ _ h
theorem zcK (x : List CD) (l : List Int) (h : x ∈ l.map zv) : x.length = 1 := by
 simp only [List.mem_map] at h
 obtain ⟨t, _, rfl⟩ := h
 rfl
def UsesOut (l : List Int) (w : World) (e : Ending) (w' : World) : Prop := ∃ v, e = .returned v ∧ Own w' w.heap.size 3 1 v (l.map zv) [] ∧ Below w.heap.size w w'
theorem uses_n (n : Nat) : ∀ (x : Wy) (vs : List Value) (xf : List Nat) (w : World), ndV x.cd ≤ n → x.thin → x.uses.length ≤ 1000000000001 → RdVs w x.cd vs xf →
  Calls Tryz.prog 30 #[.agg vs.toArray] w (UsesOut x.uses w) := by
 induction n with
 | zero =>
  intro x vs xf w hn; have h : 0 < ndV x.cd := (by rw [Wy.cd_eq]; simp [ndV, ndC]; try omega); omega
 | succ n ih =>
 intro x vs xf w hn hth hus hv
 have HN : Hid (∀ k ∈ x.kids, ndV k.cd ≤ n) := fun k hk => by have := Wy.kid_nd hk; omega
 have HT := Lib.hid (Wy.thin_kids hth).2
 have hkl0 := (Wy.thin_kids hth).1
 have HU0 : Hid (∀ k (h : k < x.kids.length), (x.kids[k]).uses.length ≤ 1000000000001 ∧ (x.uses0 k).length + (x.kids[k]).uses.length ≤ 1000000000001) := fun k h => by
  have h1 := Wy.uses0_le x (k + 1)
  rw [Wy.uses0_succ h, zeK] at h1
  omega
 have HS := Lib.hid (fun k (h : k < x.kids.length) => Wy.uses0_succ h)
 have HA := Lib.hid (Wy.uses0_all (Nat.le_refl x.kids.length))
 have IH := Lib.hid ih
 clear ih hus hth hn
 obtain ⟨a3, c3, f3, a4, c4, f4, rfl, -, m0, m1, m2, m3, m4⟩ := Wy.open hv
 clear hv
 have hbase : ∃ b, Hid (x.uses0 0 = b) := ⟨_, Lib.hid rfl⟩
 by_cases hr : x.rule = 2
 ·have tk : (x.rule == 2) = true := by simp [hr]
  have HB : Hid (x.uses0 0 = [x.n]) := Lib.hid (by unfold Wy.uses0; rw [if_pos hr]; simp [Wy.usesL])
  clear hr
  go_enter Tryz.func30, Tryz.ntmps30
  have hown0 := Own.nil ((w.alloc (.cells #[.int .i64 x.rule, .int .i64 x.n, .string x.t.name, .slice a3 x.t.kids.length c3, .slice a4 x.kids.length c4] 32)).alloc (.cells #[.int .i64 x.n] 3)) (w.heap.size + 1) 3 1
  have hcn := zn (w.alloc (.cells #[.int .i64 x.rule, .int .i64 x.n, .string x.t.name, .slice a3 x.t.kids.length c3, .slice a4 x.kids.length c4] 32)) [.int .i64 x.n] 3
  rw [World.size_alloc] at hcn
  go_wp2_with (at_builtin; refine zp zap rfl _ _ rfl (w.heap.size + 1) _ [] [] rfl hown0 ⟨w.heap.size + 1, 0, none⟩ 1 1 [zv x.n] [.int .i64 x.n] [] rfl rfl ?rd ?k ?cells ?na ?bytes ?len ?base ?next)
  case rd => simp only [zv, List.flatten_cons, List.flatten_nil, List.append_nil]; exact RdVs.single (by simp only [Rd]; exact ⟨trivial, m1, trivial⟩)
  case k => simp [zv]
  case cells => exact hcn
  case na => simp
  case bytes => simp
  case len => simp
  case base => simp
  case next =>
   intro v1 w1 hown1 hg1 hv1 hs1
   have hb1 : Below (w.heap.size + 1) (w.alloc (.cells #[.int .i64 x.rule, .int .i64 x.n, .string x.t.name, .slice a3 x.t.kids.length c3, .slice a4 x.kids.length c4] 32)) w1 := ze (((Below.refl _ _).alloc (by simp) _)) hg1 (by simp) (fun q hq => by simp [Value.ownBlock] at hq)
   try simp only [List.nil_append] at hown1
   obtain ⟨va, vn, vc, rfl⟩ := hown1.form'
   have hown9 : Own w1 (w.heap.size + 1) 3 1 (.slice va vn vc) ((x.uses0 0).map zv) [] := by rw [HB.out]; simpa using hown1
   obtain ⟨hx0, hz0, hB0⟩ := box1 (w := w) (wr := w1) (cs := #[.int .i64 x.rule, .int .i64 x.n, .string x.t.name, .slice a3 x.t.kids.length c3, .slice a4 x.kids.length c4]) (T := 32) hb1
   have q4 := hx0 4
   simp only [zeF, zeD, zeE] at q4
   clear hown1 hown0 hcn hg1 hv1 hs1 HB hx0 hz0 hB0
   go_wp2_with fail
   go_loopw [3, 17] (fun ov i wr => ∃ k : Nat, k ≤ x.kids.length ∧ i = .int .i64 k ∧ Own wr (w.heap.size + 1) 3 1 ov ((x.uses0 k).map zv) [] ∧ Below (w.heap.size + 1) (w.alloc (.cells #[.int .i64 x.rule, .int .i64 x.n, .string x.t.name, .slice a3 x.t.kids.length c3, .slice a4 x.kids.length c4] 32)) wr) (fun _ i _ => x.kids.length - (intOf i).toNat)
   case atStart => exact ⟨0, Nat.zero_le _, rfl, hown9, hb1⟩
   case round =>
    clear hown9 hb1
    obtain ⟨k, hkl, rfl, hown, hbx⟩ := hrel
    obtain ⟨hx, hz, hB⟩ := box1 (w := w) (wr := wr) (cs := #[.int .i64 x.rule, .int .i64 x.n, .string x.t.name, .slice a3 x.t.kids.length c3, .slice a4 x.kids.length c4]) (T := 32) hbx
    by_cases hlt : k < x.kids.length
    ·obtain ⟨b, off, rfl, hbs, _⟩ := zo m4 (by omega)
     obtain ⟨e3, g3, h3, e4, g4, h4, d0, d1, d2, d3, d4, n0, n1, n2, n3, n4, _⟩ := Wy.at (m4.below hB) hlt
     have hbz : b < wr.heap.size := by omega
     have hcl := Wy.close n0 n1 n2 n3 n4
     obtain ⟨hu1, hu2⟩ := HU0.out k hlt
     obtain ⟨oa, on, oc, rfl⟩ := hown.form'
     have hrow : ∀ q, (Value.slice oa on oc).ownBlock = some q → w.heap.size + 1 ≤ q ∧ q < wr.heap.size := fun q hq => hown.block hq
     have hal := zb wr (.cells #[.int .i64 x.kids[k].rule, .int .i64 x.kids[k].n, .string x.kids[k].t.name, .slice e3 x.kids[k].t.kids.length g3, .slice e4 x.kids[k].kids.length g4] 32)
     have hsa : (wr.alloc (.cells #[.int .i64 x.kids[k].rule, .int .i64 x.kids[k].n, .string x.kids[k].t.name, .slice e3 x.kids[k].t.kids.length g3, .slice e4 x.kids[k].kids.length g4] 32)).heap.size = wr.heap.size + 1 := by simp
     go_wp2_with fail
     refine (IH.out x.kids[k] _ _ _ (HN.out _ (zeJ hlt)) (HT.out _ (zeJ hlt)) hu1 (by exact hcl.below hal)).mono ?_
     rintro e w2 ⟨nv, rfl, hon, hb2⟩
     rw [hsa] at hon hb2
     have hbw : Below wr.heap.size wr w2 := hal.trans (hb2.mono (by omega))
     have hz2 := hbw.size
     have hown2 := hown.below hbw
     obtain ⟨nf, hrn, hnf⟩ := hon.rd
     obtain ⟨na, nn, nc, rfl⟩ := hon.form'
     have hnb : ∀ b ∈ nf, wr.heap.size + 1 ≤ b := fun b hb => by
      rcases hnf with ⟨_, _, rfl⟩ | ⟨b', c', hb', rfl, _, hge, _⟩
      ·cases hb
      ·rcases zeM.1 hb with rfl | hb
       ·exact hge
       ·cases hb
     have HSU := Lib.hid (HS.out k hlt)
     generalize (x.kids[k]).uses = us at *
     go_wp2_with (at_builtin; refine zJ zap rfl _ _ rfl (w.heap.size + 1) _ _ [] rfl hown2 (us.map zv) _ nf rfl hrn ?k ?na ?bytes ?len ?base ?next)
     case k => exact fun e he => zcK e _ he
     case na => intro b hb h; have h1 := hnb b hb; have h2 := hrow b h; omega
     case bytes => simp only [zeN]; omega
     case len => simp only [zeN]; omega
     case base => omega
     case next =>
      intro v3 w3 nfp hnfp hown3 hg3 hv3 hs3
      rw [← zeL] at hown3
      have hfp := zdY hown3
      rw [hfp, ← HSU.out] at hown3
      have hb3 := ze (hbx.trans (hbw.mono hz)) hg3 (by omega) (fun q hq => (hrow q hq).1)
      go_wp2_with fail
      go_roundw
      case rel => exact ⟨k + 1, by omega, by go_num, hown3, hb3⟩
      case measure => simp [intOf]; omega
    ·have hke : k = x.kids.length := by omega
     subst hke
     rw [HA.out] at hown
     have hB2 := hB
     obtain ⟨oa, on, oc, rfl⟩ := hown.form'
     go_wp2_with fail
     go_ret
     exact ⟨_, rfl, hown.base (fun b hb => by have := (hown.block hb).1; omega), hB⟩
 ·have tk : (x.rule == 2) = false := by simp [hr]
  have HB : Hid (x.uses0 0 = []) := Lib.hid (by unfold Wy.uses0; rw [if_neg hr]; simp [Wy.usesL])
  clear hr
  go_enter Tryz.func30, Tryz.ntmps30
  have hown9 : Own (w.alloc (.cells #[.int .i64 x.rule, .int .i64 x.n, .string x.t.name, .slice a3 x.t.kids.length c3, .slice a4 x.kids.length c4] 32)) (w.heap.size + 1) 3 1 (.slice none 0 0) ((x.uses0 0).map zv) [] := by rw [HB.out]; exact Own.nil _ _ _ _
  have hb1 := Below.refl (w.heap.size + 1) (w.alloc (.cells #[.int .i64 x.rule, .int .i64 x.n, .string x.t.name, .slice a3 x.t.kids.length c3, .slice a4 x.kids.length c4] 32))
  clear HB
  go_wp2_with fail
  go_loopw [3, 17] (fun ov i wr => ∃ k : Nat, k ≤ x.kids.length ∧ i = .int .i64 k ∧ Own wr (w.heap.size + 1) 3 1 ov ((x.uses0 k).map zv) [] ∧ Below (w.heap.size + 1) (w.alloc (.cells #[.int .i64 x.rule, .int .i64 x.n, .string x.t.name, .slice a3 x.t.kids.length c3, .slice a4 x.kids.length c4] 32)) wr) (fun _ i _ => x.kids.length - (intOf i).toNat)
  case atStart => exact ⟨0, Nat.zero_le _, rfl, hown9, hb1⟩
  case round =>
   clear hown9 hb1
   obtain ⟨k, hkl, rfl, hown, hbx⟩ := hrel
   obtain ⟨hx, hz, hB⟩ := box1 (w := w) (wr := wr) (cs := #[.int .i64 x.rule, .int .i64 x.n, .string x.t.name, .slice a3 x.t.kids.length c3, .slice a4 x.kids.length c4]) (T := 32) hbx
   by_cases hlt : k < x.kids.length
   ·obtain ⟨b, off, rfl, hbs, _⟩ := zo m4 (by omega)
    obtain ⟨e3, g3, h3, e4, g4, h4, d0, d1, d2, d3, d4, n0, n1, n2, n3, n4, _⟩ := Wy.at (m4.below hB) hlt
    have hbz : b < wr.heap.size := by omega
    have hcl := Wy.close n0 n1 n2 n3 n4
    obtain ⟨hu1, hu2⟩ := HU0.out k hlt
    obtain ⟨oa, on, oc, rfl⟩ := hown.form'
    have hrow : ∀ q, (Value.slice oa on oc).ownBlock = some q → w.heap.size + 1 ≤ q ∧ q < wr.heap.size := fun q hq => hown.block hq
    have hal := zb wr (.cells #[.int .i64 x.kids[k].rule, .int .i64 x.kids[k].n, .string x.kids[k].t.name, .slice e3 x.kids[k].t.kids.length g3, .slice e4 x.kids[k].kids.length g4] 32)
    have hsa : (wr.alloc (.cells #[.int .i64 x.kids[k].rule, .int .i64 x.kids[k].n, .string x.kids[k].t.name, .slice e3 x.kids[k].t.kids.length g3, .slice e4 x.kids[k].kids.length g4] 32)).heap.size = wr.heap.size + 1 := by simp
    go_wp2_with fail
    refine (IH.out x.kids[k] _ _ _ (HN.out _ (zeJ hlt)) (HT.out _ (zeJ hlt)) hu1 (by exact hcl.below hal)).mono ?_
    rintro e w2 ⟨nv, rfl, hon, hb2⟩
    rw [hsa] at hon hb2
    have hbw : Below wr.heap.size wr w2 := hal.trans (hb2.mono (by omega))
    have hz2 := hbw.size
    have hown2 := hown.below hbw
    obtain ⟨nf, hrn, hnf⟩ := hon.rd
    obtain ⟨na, nn, nc, rfl⟩ := hon.form'
    have hnb : ∀ b ∈ nf, wr.heap.size + 1 ≤ b := fun b hb => by
     rcases hnf with ⟨_, _, rfl⟩ | ⟨b', c', hb', rfl, _, hge, _⟩
     ·cases hb
     ·rcases zeM.1 hb with rfl | hb
      ·exact hge
      ·cases hb
    have HSU := Lib.hid (HS.out k hlt)
    generalize (x.kids[k]).uses = us at *
    go_wp2_with (at_builtin; refine zJ zap rfl _ _ rfl (w.heap.size + 1) _ _ [] rfl hown2 (us.map zv) _ nf rfl hrn ?k ?na ?bytes ?len ?base ?next)
    case k => exact fun e he => zcK e _ he
    case na => intro b hb h; have h1 := hnb b hb; have h2 := hrow b h; omega
    case bytes => simp only [zeN]; omega
    case len => simp only [zeN]; omega
    case base => omega
    case next =>
     intro v3 w3 nfp hnfp hown3 hg3 hv3 hs3
     rw [← zeL] at hown3
     have hfp := zdY hown3
     rw [hfp, ← HSU.out] at hown3
     have hb3 := ze (hbx.trans (hbw.mono hz)) hg3 (by omega) (fun q hq => (hrow q hq).1)
     go_wp2_with fail
     go_roundw
     case rel => exact ⟨k + 1, by omega, by go_num, hown3, hb3⟩
     case measure => simp [intOf]; omega
   ·have hke : k = x.kids.length := by omega
    subst hke
    rw [HA.out] at hown
    have hB2 := hB
    obtain ⟨oa, on, oc, rfl⟩ := hown.form'
    go_wp2_with fail
    go_ret
    exact ⟨_, rfl, hown.base (fun b hb => by have := (hown.block hb).1; omega), hB⟩
end Go.Proofs.YtlefdhhnlbpbkaaGreat
end
