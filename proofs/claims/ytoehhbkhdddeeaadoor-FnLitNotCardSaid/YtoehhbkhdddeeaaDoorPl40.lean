/- Parts of the proof: SgRow. -/
import Derived.Test.YtoehhbkhdddeeaaDoorPl18
import Derived.Test.YtoehhbkhdddeeaaDoorPl6
section
namespace Go.Proofs.YtoehhbkhdddeeaaDoor
open Go Go.RowKit
set_option linter.unusedVariables false
set_option linter.unusedSimpArgs false
set_option maxRecDepth 100000
set_option maxHeartbeats 16000000
theorem za1 : ∀ (ys : List Sy), (ys.map Sy.cd).flatten.length = ys.length * 3
 | [] => by simp
 | y :: ys => by rw [List.map_cons, List.flatten_cons, zcg, za1 ys, Sy.cd_len, List.length_cons]; omega
/-- Put another word in the place of one. -/
theorem sg_put {w : World} {ys : List Sy} {xs : List Value} {fp : List Nat} {k : Nat} (h : RdVs w (ys.map Sy.cd).flatten xs fp) (hk : k < ys.length) :
  ∃ (us rest : List Value) (a : Option Addr) (c : Nat) (f1 f2 f3 : List Nat), xs = us ++ ([.string ys[k].name, .slice a ys[k].args.length c, .int .i64 ys[k].sort] ++ rest) ∧ us.length = k * 3 ∧ fp = f1 ++ (f2 ++ f3) ∧ ys[k].name.size ≤ maxLen ∧
   Rd w (.sl (ys[k].args.map zg)) (.slice a ys[k].args.length c) f2 ∧ I64 ys[k].sort ∧
   ∀ (w' : World) (y : Sy) (a' : Option Addr) (c' : Nat) (f2' : List Nat), SameOn f1 w w' → SameOn f3 w w' → y.name.size ≤ maxLen → Rd w' (.sl (y.args.map zg)) (.slice a' y.args.length c') f2' → I64 y.sort →
    RdVs w' ((ys.set k y).map Sy.cd).flatten (us ++ ([.string y.name, .slice a' y.args.length c', .int .i64 y.sort] ++ rest)) (f1 ++ (f2' ++ f3)) := by
 have e : ys = ys.take k ++ ys[k] :: ys.drop (k + 1) := by rw [List.getElem_cons_drop, List.take_append_drop]
 have h1 : RdVs w (((ys.take k).map Sy.cd).flatten ++ (ys[k].cd ++ ((ys.drop (k + 1)).map Sy.cd).flatten)) xs fp := by
  have h2 := h
  rw [e] at h2
  simpa only [zch, List.map_cons, List.flatten_append, List.flatten_cons] using h2
 obtain ⟨us, ur, f1, fr, rfl, rfl, r1, r2⟩ := h1.split
 obtain ⟨um, rest, f2, f3, rfl, rfl, r3, r4⟩ := r2.split
 obtain ⟨a, c, f2', rfl, rfl, n0, n1, n2⟩ := Sy.open r3
 refine ⟨us, rest, a, c, f1, f2, f3, rfl, ?_, rfl, n0, n1, n2, fun w' y a' c' f2' s1 s3 m0 m1 m2 => ?_⟩
 ·rw [r1.length, za1, List.length_take]; omega
 ·have e2 : ys.set k y = ys.take k ++ y :: ys.drop (k + 1) := List.set_eq_take_append_cons_drop ▸ (if_pos hk ▸ rfl)
  rw [e2]
  simp only [zch, List.map_cons, List.flatten_append, List.flatten_cons]
  exact (r1.same _ s1).app ((Sy.close m0 m1 m2).app (r4.same _ s3))
def SgRow (w : World) (B x m : Nat) (v : Value) (ys : List Sy) (fp : List Nat) : Prop :=
 ∃ xs, w.ownsRow B 107 3 v ys.length xs ∧ RdVs w (ys.map Sy.cd).flatten xs fp ∧ (∀ b ∈ fp, v.ownBlock ≠ some b) ∧ Fresh B w fp ∧
  (∀ j (hj : j < ys.length), ∃ va, xs[j * 3 + 1]? = some va ∧ Own w B 3 1 va (ys[j].args.map zg) [] ∧ ∀ g, va.ownBlock = some g → (g < m ∧ g ≠ x) ∧ v.ownBlock ≠ some g ∧ (ys[j].args = [] → g ∉ fp)) ∧ (∀ g, v.ownBlock = some g → g < m ∧ g ≠ x) ∧ ∀ b ∈ fp, b < m ∧ b ≠ x
theorem SgRow.own {w : World} {B x m : Nat} {v : Value} {ys : List Sy} {fp : List Nat} (h : SgRow w B x m v ys fp) : Own w B 107 3 v (ys.map Sy.cd) fp := by
 obtain ⟨xs, h1, h2, h3, _⟩ := h
 exact ⟨xs, by rw [zcj]; exact h1, h2, by simp only [List.mem_map]; rintro x ⟨y, _, rfl⟩; exact y.cd_len, h3⟩
theorem SgRow.fresh {w : World} {B x m : Nat} {v : Value} {ys : List Sy} {fp : List Nat} (h : SgRow w B x m v ys fp) : Fresh B w fp := by
 obtain ⟨_, _, _, _, h, _⟩ := h; exact h
theorem zaM {w w' : World} {base e k : Nat} {v : Value} {n : Nat} {xs : List Value} (h : w.ownsRow base e k v n xs) (hv : ∀ b, v.ownBlock = some b → w'.heap[b]? = w.heap[b]?) : w'.ownsRow base e k v n xs := by
 refine ⟨h.1, ?_⟩
 rcases h.2 with hn | ⟨g, cap, cur, rfl, hg, hh, rest⟩
 ·exact .inl hn
 ·exact .inr ⟨g, cap, cur, rfl, hg, (hv g rfl).trans hh, rest⟩
theorem SgRow.same {w w' : World} {B x m : Nat} {v : Value} {ys : List Sy} {fp : List Nat} (h : SgRow w B x m v ys fp) (hb : ∀ b, B ≤ b → b ≠ x → b < w.heap.size → w'.heap[b]? = w.heap[b]?) : SgRow w' B x m v ys fp := by
 obtain ⟨xs, h1, h2, h3, h4, h5, h6, h7⟩ := h
 have hs : SameOn fp w w' := fun b hm => hb b (h4.2 b hm).1 (h7 b hm).2 (h4.lt b hm)
 refine ⟨xs, zaM h1 (fun b hv => hb b (h1.lt b hv).1 (h6 b hv).2 (h1.lt b hv).2), h2.same _ hs, h3, h4.same hs, fun j hj => ?_, h6, h7⟩
 obtain ⟨va, e1, e2, e3⟩ := h5 j hj
 exact ⟨va, e1, e2.same (fun b hm => by simp at hm) (fun b hv => hb b (e2.block hv).1 (e3 b hv).1.2 (e2.block hv).2), e3⟩
theorem SgRow.below {w w' : World} {B x m : Nat} {v : Value} {ys : List Sy} {fp : List Nat} (h : SgRow w B x m v ys fp) (hb : Below w.heap.size w w') : SgRow w' B x m v ys fp := h.same fun b _ _ hl => hb.block b hl
theorem SgRow.only {w w' : World} {B x m rb : Nat} {v : Value} {ys : List Sy} {fp : List Nat} (h : SgRow w B x m v ys fp) (ho : Only [rb] w w') (hr : rb < B) : SgRow w' B x m v ys fp := h.same fun b hB _ hl => ho.block b hl (by simp; omega)
theorem SgRow.form {w : World} {B x m : Nat} {v : Value} {ys : List Sy} {fp : List Nat} (h : SgRow w B x m v ys fp) : ∃ a c, v = .slice a ys.length c ∧ ys.length ≤ c ∧ c ≤ 9223372036854775807 := by
 have := h.own.form; rw [zcj] at this; exact this
theorem SgRow.at {w : World} {B x m : Nat} {v : Value} {ys : List Sy} {fp : List Nat} (h : SgRow w B x m v ys fp) {k : Nat} (hk : k < ys.length) :
  ∃ (g c : Nat) (a : Option Addr) (ca : Nat), v = .slice (some ⟨g, 0, none⟩) ys.length c ∧ g < w.heap.size ∧ B ≤ g ∧ g ≠ x ∧ w.cell? ⟨g, k * 3, none⟩ = some (.string ys[k].name) ∧ w.cell? ⟨g, k * 3 + 1, none⟩ = some (.slice a ys[k].args.length ca) ∧ w.cell? ⟨g, k * 3 + 2, none⟩ = some (.int .i64 ys[k].sort) ∧
   (∀ j, w.frozen? ⟨g, j, none⟩ = false) ∧ Own w B 3 1 (.slice a ys[k].args.length ca) (ys[k].args.map zg) [] ∧ (∀ q, (Value.slice a ys[k].args.length ca).ownBlock = some q → q ≠ x ∧ q ≠ g ∧ q < w.heap.size) ∧ ys[k].name.size ≤ maxLen ∧ I64 ys[k].sort ∧
   (∃ f2, Rd w (.sl (ys[k].args.map zg)) (.slice a ys[k].args.length ca) f2 ∧ ∀ b ∈ f2, B ≤ b ∧ b ≠ g ∧ b ≠ x) ∧
   ∀ (w' : World) (y : Sy) (a' : Option Addr) (c' : Nat) (f2' : List Nat) (i : Nat) (u : Value), (∀ b, B ≤ b → b ≠ g → b ≠ x → (Value.slice a ys[k].args.length ca).ownBlock ≠ some b → b < w.heap.size → w'.heap[b]? = w.heap[b]?) → w'.heap[g]? = w.heap[g]? → y.name.size ≤ maxLen →
    Rd w' (.sl (y.args.map zg)) (.slice a' y.args.length c') f2' → (∀ b ∈ f2', B ≤ b ∧ b ≠ g) → I64 y.sort → i < 3 → [Value.string y.name, .slice a' y.args.length c', .int .i64 y.sort] = ([.string ys[k].name, .slice a ys[k].args.length ca, .int .i64 ys[k].sort] : List Value).set i u →
    ∃ f, Rd (w'.setCell ⟨g, k * 3 + i, none⟩ u) (.sl ((ys.set k y).map Sy.cd)) (.slice (some ⟨g, 0, none⟩) ys.length c) f ∧ ∀ b ∈ f, B ≤ b := by
 obtain ⟨xs, h1, h2, h3, h4, h5, h6, h7⟩ := h
 obtain ⟨us, rest, a, ca, f1, f2, f3, rfl, hus, rfl, n0, n1, n2, hput⟩ := sg_put h2 hk
 obtain ⟨va, e1, e2, e3⟩ := h5 k hk
 have hva : va = .slice a ys[k].args.length ca := by
  rw [List.getElem?_append_right (by omega), hus] at e1
  rw [show k * 3 + 1 - k * 3 = 1 from by omega] at e1
  simpa using e1.symm
 subst hva
 rcases h1.2 with ⟨rfl, h0⟩ | ⟨g, c, cur, rfl, hbg, hg, hnc, hcm, hcs, htk⟩
 ·omega
 have hcell : ∀ j u, ([.string ys[k].name, .slice a ys[k].args.length ca, .int .i64 ys[k].sort] : List Value)[j]? = some u → w.cell? ⟨g, k * 3 + j, none⟩ = some u := fun j u hu => by
  have hj3 : j < 3 := by have := (List.getElem?_eq_some_iff.1 hu).1; simpa using this
  have := h1.cells (g := g) rfl (k * 3 + j) u (by rw [List.getElem?_append_right (by omega), hus, show k * 3 + j - k * 3 = j from by omega, List.getElem?_append_left (by simpa using hj3)]; exact hu)
  rw [Addr.add_lit] at this
  simpa using this
 have hgl := (h1.lt g rfl).2
 refine ⟨g, c, a, ca, rfl, hgl, hbg, (h6 g rfl).2, hcell 0 _ rfl, hcell 1 _ rfl, hcell 2 _ rfl, fun j => by unfold World.frozen?; rw [hg]; simp, e2, fun q hq => ⟨(e3 q hq).1.2, fun e => (e3 q hq).2.1 (by rw [e]; rfl), (e2.block hq).2⟩, n0, n2, ⟨f2, n1, fun b hb => ⟨(h4.2 b (by simp [hb])).1, fun e => h3 b (by simp [hb]) (by rw [e]; rfl), (h7 b (by simp [hb])).2⟩⟩, ?_⟩
 intro w' y a' c' f2' i u hsame hgs m0 hrd' hf2' m2 hi3 htri
 have hnd := h4.1
 have hq1 : ∀ b ∈ f1, (Value.slice a ys[k].args.length ca).ownBlock ≠ some b := fun b hb e => by
  by_cases hnil : ys[k].args = []
  ·exact (e3 b e).2.2 hnil (by simp [hb])
  ·obtain ⟨b', off, f, h8, _, rfl, _⟩ := n1.addr (by simpa using List.length_pos_iff.2 hnil)
   have : b' = b := by
    rw [h8] at e
    simp only [Value.ownBlock, Option.some.injEq] at e; exact e
   subst this
   exact (List.nodup_append.1 hnd).2.2 b' hb b' (by simp) rfl
 have hq3 : ∀ b ∈ f3, (Value.slice a ys[k].args.length ca).ownBlock ≠ some b := fun b hb e => by
  by_cases hnil : ys[k].args = []
  ·exact (e3 b e).2.2 hnil (by simp [hb])
  ·obtain ⟨b', off, f, h8, _, rfl, _⟩ := n1.addr (by simpa using List.length_pos_iff.2 hnil)
   have : b' = b := by
    rw [h8] at e
    simp only [Value.ownBlock, Option.some.injEq] at e; exact e
   subst this
   exact (List.nodup_append.1 (List.nodup_append.1 hnd).2.1).2.2 b' (by simp) b' hb rfl
 have hs : ∀ b ∈ f1 ++ (f2 ++ f3), (Value.slice a ys[k].args.length ca).ownBlock ≠ some b → (w'.setCell ⟨g, k * 3 + i, none⟩ u).heap[b]? = w.heap[b]? := fun b hb hq => by
  have hbg' : b ≠ g := fun e => h3 b hb (by rw [e]; rfl)
  exact (Below.heap_setCell _ _ _ _ hbg').trans (hsame b (h4.2 b hb).1 hbg' (h7 b hb).2 hq (h2.lt _ b hb))
 have hset : (us ++ ([Value.string ys[k].name, .slice a ys[k].args.length ca, .int .i64 ys[k].sort] ++ rest)).set (k * 3 + i) u = us ++ ([Value.string y.name, .slice a' y.args.length c', .int .i64 y.sort] ++ rest) := by
  rw [List.set_append_right _ _ (by omega), hus, show k * 3 + i - k * 3 = i from by omega, List.set_append_left _ _ (by simpa using hi3), htri]
 have hst := ((zaM h1 (fun b hb => by obtain rfl : g = b := Option.some.inj hb; exact hgs)).stored (k * 3 + i) u).1
 rw [hset] at hst
 have hown : Own (w'.setCell ⟨g, k * 3 + i, none⟩ u) B 107 3 (.slice (some ⟨g, 0, none⟩) ys.length c) ((ys.set k y).map Sy.cd) (f1 ++ (f2' ++ f3)) := by
  refine ⟨_, by rw [zcj, List.length_set]; exact hst, hput _ y a' c' f2' (fun b hb => hs b (by simp [hb]) (hq1 b hb)) (fun b hb => hs b (by simp [hb]) (hq3 b hb)) m0 (hrd'.same _ (zz (fun b hb => (hf2' b hb).2))) m2, ?_, fun b hb e => ?_⟩
  ·simp only [List.mem_map]; rintro z ⟨q, _, rfl⟩; exact q.cd_len
  ·have e' : g = b := Option.some.inj e
   rcases zce.1 hb with hb | hb
   ·exact h3 b (by simp [hb]) e
   ·rcases zce.1 hb with hb | hb
    ·exact (hf2' b hb).2 e'.symm
    ·exact h3 b (by simp [hb]) e
 obtain ⟨f, r1, ⟨_, _, rfl⟩ | ⟨b, _, e, rfl, _, hBb, _⟩⟩ := hown.rd
 ·exact ⟨[], r1, by simp⟩
 ·refine ⟨_, r1, fun z hz => ?_⟩
  rcases zci.1 hz with rfl | hz
  ·exact hBb
  ·rcases zce.1 hz with hz | hz
   ·exact (h4.2 z (by simp [hz])).1
   ·rcases zce.1 hz with hz | hz
    ·exact (hf2' z hz).1
    ·exact (h4.2 z (by simp [hz])).1
/-- The row, read: its blocks lie behind B. -/
theorem SgRow.rd {w : World} {B x m : Nat} {v : Value} {ys : List Sy} {fp : List Nat} (h : SgRow w B x m v ys fp) : ∃ f, Rd w (.sl (ys.map Sy.cd)) v f ∧ ∀ b ∈ f, B ≤ b := by
 obtain ⟨f, h1, h2, h3⟩ := h.own.fresh h.fresh
 exact ⟨f, h1, fun b hb => (h2.2 b hb).1⟩
end Go.Proofs.YtoehhbkhdddeeaaDoor
end
