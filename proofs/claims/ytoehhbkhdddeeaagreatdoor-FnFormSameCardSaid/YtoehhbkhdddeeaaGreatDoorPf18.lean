/- Parts of the proof: SgRow. -/
import Derived.Test.YtoehhbkhdddeeaaGreatDoorPf11
import Derived.Test.YtoehhbkhdddeeaaGreatDoorPf9
section
namespace Go.Proofs.YtoehhbkhdddeeaaGreatDoor
open Go Go.RowKit
set_option linter.unusedVariables false
set_option linter.unusedSimpArgs false
set_option maxRecDepth 100000
set_option maxHeartbeats 16000000
theorem zby : ∀ (ys : List Sy), (ys.map Sy.cd).flatten.length = ys.length * 3
 | [] => by simp
 | y :: ys => by rw [List.map_cons, List.flatten_cons, zdU, zby ys, Sy.cd_len, List.length_cons]; omega
/-- Put another word in the place of one. -/
theorem sg_put {w : World} {ys : List Sy} {xs : List Value} {fp : List Nat} {k : Nat} (h : RdVs w (ys.map Sy.cd).flatten xs fp) (hk : k < ys.length) :
  ∃ (us rest : List Value) (a : Option Addr) (c : Nat) (f1 f2 f3 : List Nat), xs = us ++ ([.string ys[k].name, .slice a ys[k].args.length c, .int .i64 ys[k].sort] ++ rest) ∧ us.length = k * 3 ∧ fp = f1 ++ (f2 ++ f3) ∧ ys[k].name.size ≤ maxLen ∧
   Rd w (.sl (ys[k].args.map zm)) (.slice a ys[k].args.length c) f2 ∧ I64 ys[k].sort ∧
   ∀ (w' : World) (y : Sy) (a' : Option Addr) (c' : Nat) (f2' : List Nat), SameOn f1 w w' → SameOn f3 w w' → y.name.size ≤ maxLen → Rd w' (.sl (y.args.map zm)) (.slice a' y.args.length c') f2' → I64 y.sort →
    RdVs w' ((ys.set k y).map Sy.cd).flatten (us ++ ([.string y.name, .slice a' y.args.length c', .int .i64 y.sort] ++ rest)) (f1 ++ (f2' ++ f3)) := by
 have e : ys = ys.take k ++ ys[k] :: ys.drop (k + 1) := by rw [List.getElem_cons_drop, List.take_append_drop]
 have h1 : RdVs w (((ys.take k).map Sy.cd).flatten ++ (ys[k].cd ++ ((ys.drop (k + 1)).map Sy.cd).flatten)) xs fp := by
  have h2 := h
  rw [e] at h2
  simpa only [zdV, List.map_cons, List.flatten_append, List.flatten_cons] using h2
 obtain ⟨us, ur, f1, fr, rfl, rfl, r1, r2⟩ := h1.split
 obtain ⟨um, rest, f2, f3, rfl, rfl, r3, r4⟩ := r2.split
 obtain ⟨a, c, f2', rfl, rfl, n0, n1, n2⟩ := Sy.open r3
 refine ⟨us, rest, a, c, f1, f2, f3, rfl, ?_, rfl, n0, n1, n2, fun w' y a' c' f2' s1 s3 m0 m1 m2 => ?_⟩
 ·rw [r1.length, zby, List.length_take]; omega
 ·have e2 : ys.set k y = ys.take k ++ y :: ys.drop (k + 1) := List.set_eq_take_append_cons_drop ▸ (if_pos hk ▸ rfl)
  rw [e2]
  simp only [zdV, List.map_cons, List.flatten_append, List.flatten_cons]
  exact (r1.same _ s1).app ((Sy.close m0 m1 m2).app (r4.same _ s3))
def SgRow (w : World) (B x m : Nat) (v : Value) (ys : List Sy) (fp : List Nat) : Prop :=
 ∃ xs, w.ownsRow B 70 3 v ys.length xs ∧ RdVs w (ys.map Sy.cd).flatten xs fp ∧ (∀ b ∈ fp, v.ownBlock ≠ some b) ∧ Fresh B w fp ∧
  (∀ j (hj : j < ys.length), ∃ va, xs[j * 3 + 1]? = some va ∧ Own w B 3 1 va (ys[j].args.map zm) [] ∧ ∀ g, va.ownBlock = some g → (g < m ∧ g ≠ x) ∧ v.ownBlock ≠ some g ∧ (ys[j].args = [] → g ∉ fp)) ∧ (∀ g, v.ownBlock = some g → g < m ∧ g ≠ x) ∧ ∀ b ∈ fp, b < m ∧ b ≠ x
theorem SgRow.own {w : World} {B x m : Nat} {v : Value} {ys : List Sy} {fp : List Nat} (h : SgRow w B x m v ys fp) : Own w B 70 3 v (ys.map Sy.cd) fp := by
 obtain ⟨xs, h1, h2, h3, _⟩ := h
 exact ⟨xs, by rw [zdX]; exact h1, h2, by simp only [List.mem_map]; rintro x ⟨y, _, rfl⟩; exact y.cd_len, h3⟩
theorem SgRow.fresh {w : World} {B x m : Nat} {v : Value} {ys : List Sy} {fp : List Nat} (h : SgRow w B x m v ys fp) : Fresh B w fp := by
 obtain ⟨_, _, _, _, h, _⟩ := h; exact h
theorem zbe {w w' : World} {base e k : Nat} {v : Value} {n : Nat} {xs : List Value} (h : w.ownsRow base e k v n xs) (hv : ∀ b, v.ownBlock = some b → w'.heap[b]? = w.heap[b]?) : w'.ownsRow base e k v n xs := by
 refine ⟨h.1, ?_⟩
 rcases h.2 with hn | ⟨g, cap, cur, rfl, hg, hh, rest⟩
 ·exact .inl hn
 ·exact .inr ⟨g, cap, cur, rfl, hg, (hv g rfl).trans hh, rest⟩
theorem SgRow.same {w w' : World} {B x m : Nat} {v : Value} {ys : List Sy} {fp : List Nat} (h : SgRow w B x m v ys fp) (hb : ∀ b, B ≤ b → b ≠ x → b < w.heap.size → w'.heap[b]? = w.heap[b]?) : SgRow w' B x m v ys fp := by
 obtain ⟨xs, h1, h2, h3, h4, h5, h6, h7⟩ := h
 have hs : SameOn fp w w' := fun b hm => hb b (h4.2 b hm).1 (h7 b hm).2 (h4.lt b hm)
 refine ⟨xs, zbe h1 (fun b hv => hb b (h1.lt b hv).1 (h6 b hv).2 (h1.lt b hv).2), h2.same _ hs, h3, h4.same hs, fun j hj => ?_, h6, h7⟩
 obtain ⟨va, e1, e2, e3⟩ := h5 j hj
 exact ⟨va, e1, e2.same (fun b hm => by simp at hm) (fun b hv => hb b (e2.block hv).1 (e3 b hv).1.2 (e2.block hv).2), e3⟩
theorem SgRow.below {w w' : World} {B x m : Nat} {v : Value} {ys : List Sy} {fp : List Nat} (h : SgRow w B x m v ys fp) (hb : Below w.heap.size w w') : SgRow w' B x m v ys fp := h.same fun b _ _ hl => hb.block b hl
theorem SgRow.only {w w' : World} {B x m rb : Nat} {v : Value} {ys : List Sy} {fp : List Nat} (h : SgRow w B x m v ys fp) (ho : Only [rb] w w') (hr : rb < B) : SgRow w' B x m v ys fp := h.same fun b hB _ hl => ho.block b hl (by simp; omega)
theorem SgRow.nil {w : World} {B x m : Nat} {v : Value} (h : Own w B 70 3 v [] []) (hv : ∀ g, v.ownBlock = some g → g < m ∧ g ≠ x) : SgRow w B x m v [] [] := by
 obtain ⟨xs, h1, h2, _, _⟩ := h
 exact ⟨xs, h1, by simpa using h2, by simp, Fresh.nil _ _, fun j hj => by simp at hj, hv, by simp⟩
theorem SgRow.form {w : World} {B x m : Nat} {v : Value} {ys : List Sy} {fp : List Nat} (h : SgRow w B x m v ys fp) : ∃ a c, v = .slice a ys.length c ∧ ys.length ≤ c ∧ c ≤ 9223372036854775807 := by
 have := h.own.form; rw [zdX] at this; exact this
theorem SgRow.at {w : World} {B x m : Nat} {v : Value} {ys : List Sy} {fp : List Nat} (h : SgRow w B x m v ys fp) {k : Nat} (hk : k < ys.length) :
  ∃ (g c : Nat) (a : Option Addr) (ca : Nat), v = .slice (some ⟨g, 0, none⟩) ys.length c ∧ g < w.heap.size ∧ B ≤ g ∧ g ≠ x ∧ w.cell? ⟨g, k * 3, none⟩ = some (.string ys[k].name) ∧ w.cell? ⟨g, k * 3 + 1, none⟩ = some (.slice a ys[k].args.length ca) ∧ w.cell? ⟨g, k * 3 + 2, none⟩ = some (.int .i64 ys[k].sort) ∧
   (∀ j, w.frozen? ⟨g, j, none⟩ = false) ∧ Own w B 3 1 (.slice a ys[k].args.length ca) (ys[k].args.map zm) [] ∧ (∀ q, (Value.slice a ys[k].args.length ca).ownBlock = some q → q ≠ x ∧ q ≠ g ∧ q < w.heap.size) ∧ ys[k].name.size ≤ maxLen ∧ I64 ys[k].sort ∧
   (∃ f2, Rd w (.sl (ys[k].args.map zm)) (.slice a ys[k].args.length ca) f2 ∧ ∀ b ∈ f2, B ≤ b ∧ b ≠ g ∧ b ≠ x) ∧
   ∀ (w' : World) (y : Sy) (a' : Option Addr) (c' : Nat) (f2' : List Nat) (i : Nat) (u : Value), (∀ b, B ≤ b → b ≠ g → b ≠ x → (Value.slice a ys[k].args.length ca).ownBlock ≠ some b → b < w.heap.size → w'.heap[b]? = w.heap[b]?) → w'.heap[g]? = w.heap[g]? → y.name.size ≤ maxLen →
    Rd w' (.sl (y.args.map zm)) (.slice a' y.args.length c') f2' → (∀ b ∈ f2', B ≤ b ∧ b ≠ g) → I64 y.sort → i < 3 → [Value.string y.name, .slice a' y.args.length c', .int .i64 y.sort] = ([.string ys[k].name, .slice a ys[k].args.length ca, .int .i64 ys[k].sort] : List Value).set i u →
    ∃ f, Rd (w'.setCell ⟨g, k * 3 + i, none⟩ u) (.sl ((ys.set k y).map Sy.cd)) (.slice (some ⟨g, 0, none⟩) ys.length c) f ∧ ∀ b ∈ f, B ≤ b := by
 obtain ⟨xs, h1, h2, h3, h4, h5, h6, h7⟩ := h
 obtain ⟨us, rest, a, ca, f1, f2, f3, rfl, hus, rfl, n0, n1, n2, hput⟩ := sg_put h2 hk
 obtain ⟨va, e1, e2, e3⟩ := h5 k hk
 have hva : va = .slice a ys[k].args.length ca := by
  rw [List.getElem?_append_right (by omega), hus] at e1
  rw [show k * 3 + 1 - k * 3 = 1 from by omega] at e1
  simpa using e1.symm
 subst hva
 rcases h1.2 with ⟨rfl, h0⟩ | ⟨g, c, cur, rfl, hbg, hg, hnc, hcm, hcs, htk⟩
 ·omega
 have hcell : ∀ j u, ([.string ys[k].name, .slice a ys[k].args.length ca, .int .i64 ys[k].sort] : List Value)[j]? = some u → w.cell? ⟨g, k * 3 + j, none⟩ = some u := fun j u hu => by
  have hj3 : j < 3 := by have := (List.getElem?_eq_some_iff.1 hu).1; simpa using this
  have := h1.cells (g := g) rfl (k * 3 + j) u (by rw [List.getElem?_append_right (by omega), hus, show k * 3 + j - k * 3 = j from by omega, List.getElem?_append_left (by simpa using hj3)]; exact hu)
  rw [Addr.add_lit] at this
  simpa using this
 have hgl := (h1.lt g rfl).2
 refine ⟨g, c, a, ca, rfl, hgl, hbg, (h6 g rfl).2, hcell 0 _ rfl, hcell 1 _ rfl, hcell 2 _ rfl, fun j => by unfold World.frozen?; rw [hg]; simp, e2, fun q hq => ⟨(e3 q hq).1.2, fun e => (e3 q hq).2.1 (by rw [e]; rfl), (e2.block hq).2⟩, n0, n2, ⟨f2, n1, fun b hb => ⟨(h4.2 b (by simp [hb])).1, fun e => h3 b (by simp [hb]) (by rw [e]; rfl), (h7 b (by simp [hb])).2⟩⟩, ?_⟩
 intro w' y a' c' f2' i u hsame hgs m0 hrd' hf2' m2 hi3 htri
 have hnd := h4.1
 have hq1 : ∀ b ∈ f1, (Value.slice a ys[k].args.length ca).ownBlock ≠ some b := fun b hb e => by
  by_cases hnil : ys[k].args = []
  ·exact (e3 b e).2.2 hnil (by simp [hb])
  ·obtain ⟨b', off, f, h8, _, rfl, _⟩ := n1.addr (by simpa using List.length_pos_iff.2 hnil)
   have : b' = b := by
    rw [h8] at e
    simp only [Value.ownBlock, Option.some.injEq] at e; exact e
   subst this
   exact (List.nodup_append.1 hnd).2.2 b' hb b' (by simp) rfl
 have hq3 : ∀ b ∈ f3, (Value.slice a ys[k].args.length ca).ownBlock ≠ some b := fun b hb e => by
  by_cases hnil : ys[k].args = []
  ·exact (e3 b e).2.2 hnil (by simp [hb])
  ·obtain ⟨b', off, f, h8, _, rfl, _⟩ := n1.addr (by simpa using List.length_pos_iff.2 hnil)
   have : b' = b := by
    rw [h8] at e
    simp only [Value.ownBlock, Option.some.injEq] at e; exact e
   subst this
   exact (List.nodup_append.1 (List.nodup_append.1 hnd).2.1).2.2 b' (by simp) b' hb rfl
 have hs : ∀ b ∈ f1 ++ (f2 ++ f3), (Value.slice a ys[k].args.length ca).ownBlock ≠ some b → (w'.setCell ⟨g, k * 3 + i, none⟩ u).heap[b]? = w.heap[b]? := fun b hb hq => by
  have hbg' : b ≠ g := fun e => h3 b hb (by rw [e]; rfl)
  exact (Below.heap_setCell _ _ _ _ hbg').trans (hsame b (h4.2 b hb).1 hbg' (h7 b hb).2 hq (h2.lt _ b hb))
 have hset : (us ++ ([Value.string ys[k].name, .slice a ys[k].args.length ca, .int .i64 ys[k].sort] ++ rest)).set (k * 3 + i) u = us ++ ([Value.string y.name, .slice a' y.args.length c', .int .i64 y.sort] ++ rest) := by
  rw [List.set_append_right _ _ (by omega), hus, show k * 3 + i - k * 3 = i from by omega, List.set_append_left _ _ (by simpa using hi3), htri]
 have hst := ((zbe h1 (fun b hb => by obtain rfl : g = b := Option.some.inj hb; exact hgs)).stored (k * 3 + i) u).1
 rw [hset] at hst
 have hown : Own (w'.setCell ⟨g, k * 3 + i, none⟩ u) B 70 3 (.slice (some ⟨g, 0, none⟩) ys.length c) ((ys.set k y).map Sy.cd) (f1 ++ (f2' ++ f3)) := by
  refine ⟨_, by rw [zdX, List.length_set]; exact hst, hput _ y a' c' f2' (fun b hb => hs b (by simp [hb]) (hq1 b hb)) (fun b hb => hs b (by simp [hb]) (hq3 b hb)) m0 (hrd'.same _ (zy (fun b hb => (hf2' b hb).2))) m2, ?_, fun b hb e => ?_⟩
  ·simp only [List.mem_map]; rintro z ⟨q, _, rfl⟩; exact q.cd_len
  ·have e' : g = b := Option.some.inj e
   rcases zdS.1 hb with hb | hb
   ·exact h3 b (by simp [hb]) e
   ·rcases zdS.1 hb with hb | hb
    ·exact (hf2' b hb).2 e'.symm
    ·exact h3 b (by simp [hb]) e
 obtain ⟨f, r1, ⟨_, _, rfl⟩ | ⟨b, _, e, rfl, _, hBb, _⟩⟩ := hown.rd
 ·exact ⟨[], r1, by simp⟩
 ·refine ⟨_, r1, fun z hz => ?_⟩
  rcases zdW.1 hz with rfl | hz
  ·exact hBb
  ·rcases zdS.1 hz with hz | hz
   ·exact (h4.2 z (by simp [hz])).1
   ·rcases zdS.1 hz with hz | hz
    ·exact (hf2' z hz).1
    ·exact (h4.2 z (by simp [hz])).1
theorem SgRow.notx {w : World} {B x m : Nat} {v : Value} {ys : List Sy} {fp : List Nat} (h : SgRow w B x m v ys fp) : ∀ b ∈ fp, B ≤ b ∧ b ≠ x := by
 obtain ⟨_, _, _, _, h4, _, _, h7⟩ := h
 exact fun b hb => ⟨(h4.2 b hb).1, (h7 b hb).2⟩
/-- append of one word, in the walk. -/
theorem zco {P : Program} {t : TypeId} {z : Value} {bytes : Nat} (hT : SlTy P t 70 z 3 bytes) {w : World} {ops : Array Oper} {rest : List Oper} {o : Oper} {a : Act} {Q : Exit → Act → World → Prop} (hgd : o.guard = none) (s x : Operand)
  (ho : o.op = .call { callee := .builtin .append, args := #[s, x], argTypes := #[t, t] })
  (B x0 mid : Nat) (v : Value) (ys : List Sy) (fp : List Nat) (hs : a.eval s = v) (h0 : SgRow w B x0 mid v ys fp) (ad : Addr) (c : Nat) (y : Sy) (va : Value) (f2 : List Nat) (hx : a.eval x = .slice (some ad) 1 c)
  (hcells : ∀ j u, [Value.string y.name, va, .int .i64 y.sort][j]? = some u → w.cell? (ad.add j) = some u) (hy : y.name.size ≤ maxLen) (hs64 : I64 y.sort) (hva : Own w B 3 1 va (y.args.map zm) []) (hrd : Rd w (.sl (y.args.map zm)) va f2) (hf2 : Fresh mid w f2)
  (hBm : B ≤ mid) (hx0 : x0 < mid) (hmw : mid ≤ w.heap.size) (hvag : ∀ g, va.ownBlock = some g → mid ≤ g)
  (hbytes : (ys.length + 1) * bytes ≤ 140737488355328) (hlen : ys.length + 1 ≤ 140737488355328) (hbase : B ≤ w.heap.size)
  (h : ∀ v' w', SgRow w' B x0 w'.heap.size v' (ys ++ [y]) (fp ++ f2) → w.grownBy w' v.ownBlock → (∀ b, v'.ownBlock = some b → v.ownBlock = some b ∨ w.heap.size ≤ b) → wpList P ops Q rest (a.put o.dst v') w') : wpList P ops Q (o :: rest) a w := by
 obtain ⟨xs, h1, h2, h3, h4, h5, hvm, hfm⟩ := h0
 obtain ⟨a1, c1, hvae, _, _⟩ := hva.form
 rw [zdX] at hvae
 subst hvae
 have hnv : RdVs w y.cd [.string y.name, .slice a1 y.args.length c1, .int .i64 y.sort] f2 := Sy.close hy hrd hs64
 obtain ⟨v', w', hr, g1, g2, g3⟩ := zcy hT w o.type B v ys.length xs h1 ad 1 c [.string y.name, .slice a1 y.args.length c1, .int .i64 y.sort] rfl hcells hnv.one (by simp [maxLen]; omega) hbytes hbase
 refine wpList_plain hgd fun K hK => ?_
 unfold Oper.wp execOp
 simp only [ho, resolve, invoke, builtin, Sem.run_bind, Sem.run_pure, Result.andThen_ok, List.map_toArray, List.map_cons, List.map_nil, hs, hx, hr]
 refine hK _ _ (h v' w' ?_ g2 g3)
 have hlt1 := h2.lt
 have hlt2 := hnv.lt
 have hno2 : ∀ b ∈ f2, v.ownBlock ≠ some b := fun b hb e => by have h6 := (hvm b e).1; have h7 := (hf2.2 b hb).1; omega
 have s1 : SameOn fp w w' := fun b hb => g2.block b (hlt1 b hb) (fun he => h3 b hb he.symm)
 have s2 : SameOn f2 w w' := fun b hb => g2.block b (hlt2 b hb) (fun he => hno2 b hb he.symm)
 have hxl : xs.length = ys.length * 3 := h1.1
 refine ⟨_, by rw [zdU]; exact g1, by rw [zdV, List.flatten_append]; exact (h2.same _ s1).app (by simpa using hnv.same _ s2), fun b hb e => ?_, (Fresh.app h4 (fun b hb => (hfm b hb).1) hBm hf2).same (s1.app s2), fun j hj => ?_, fun g hg => ⟨(g1.lt g hg).2, ?_⟩, fun b hb => ?_⟩
 rotate_left 2
 ·rcases g3 g hg with h | h
  ·exact (hvm g h).2
  ·omega
 ·have hz := g2.size
  rcases zdS.1 hb with hb | hb
  ·have := hlt1 b hb; exact ⟨by omega, (hfm b hb).2⟩
  ·have := hlt2 b hb; have := (hf2.2 b hb).1; omega
 ·rcases zdS.1 hb with hb | hb
  ·rcases g3 b e with h | h
   ·exact h3 b hb h
   ·have := hlt1 b hb; omega
  ·rcases g3 b e with h | h
   ·exact hno2 b hb h
   ·have := hlt2 b hb; omega
 ·rw [zdU, List.length_singleton] at hj
  rcases Nat.lt_or_ge j ys.length with hjl | hjl
  ·obtain ⟨vj, e1, e2, e3⟩ := h5 j hjl
   refine ⟨vj, by rw [List.getElem?_append_left (by omega)]; exact e1, ?_, fun g hg => ?_⟩
   ·rw [List.getElem_append_left hjl]
    exact e2.same (fun b hm => by simp at hm) (fun b hv => g2.block b (e2.block hv).2 (fun he => (e3 b hv).2.1 he.symm))
   ·rw [List.getElem_append_left hjl]
    have hgm := (e3 g hg).1
    refine ⟨⟨by have := g2.size; have := (e2.block hg).2; omega, hgm.2⟩, fun e => ?_, fun hnil hm => ?_⟩
    ·rcases g3 g e with h | h
     ·exact (e3 g hg).2.1 h
     ·have := (e2.block hg).2; omega
    ·rcases zdS.1 hm with hm | hm
     ·exact (e3 g hg).2.2 hnil hm
     ·have := (hf2.2 g hm).1; omega
  ·obtain rfl : j = ys.length := by omega
   refine ⟨.slice a1 y.args.length c1, by rw [List.getElem?_append_right (by omega), hxl]; simp, ?_, fun g hg => ?_⟩
   ·simp only [List.getElem_append_right (Nat.le_refl _), Nat.sub_self, List.getElem_cons_zero]
    exact hva.same (fun b hm => by simp at hm) (fun b hv => g2.block b (hva.block hv).2 (fun he => by have := hvag b hv; have := (hvm b he.symm).1; omega))
   ·refine ⟨⟨by have := g2.size; have := (hva.block hg).2; omega, by have := hvag g hg; omega⟩, fun e => ?_, fun hnil hm => ?_⟩
    ·rcases g3 g e with h | h
     ·have := hvag g hg; have := (hvm g h).1; omega
     ·have := (hva.block hg).2; omega
    ·simp only [List.getElem_append_right (Nat.le_refl _), Nat.sub_self, List.getElem_cons_zero] at hnil
     rcases zdS.1 hm with hm | hm
     ·have := (hfm g hm).1; have := hvag g hg; omega
     ·rw [hnil] at hrd
      simp only [List.map_nil, Rd] at hrd
      obtain ⟨_, _, _, _, _, ⟨_, rfl⟩ | ⟨hne, _⟩⟩ := hrd
      ·simp at hm
      ·exact hne rfl
/-- The row, read: its blocks lie behind B. -/
theorem SgRow.rd {w : World} {B x m : Nat} {v : Value} {ys : List Sy} {fp : List Nat} (h : SgRow w B x m v ys fp) : ∃ f, Rd w (.sl (ys.map Sy.cd)) v f ∧ ∀ b ∈ f, B ≤ b := by
 obtain ⟨f, h1, h2, h3⟩ := h.own.fresh h.fresh
 exact ⟨f, h1, fun b hb => (h2.2 b hb).1⟩
end Go.Proofs.YtoehhbkhdddeeaaGreatDoor
end
