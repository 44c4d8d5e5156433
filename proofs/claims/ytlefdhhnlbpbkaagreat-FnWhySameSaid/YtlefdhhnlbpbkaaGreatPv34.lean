/- Parts of the proof: WhXo. -/
import Derived.Test.YtlefdhhnlbpbkaaGreatPv33
import Derived.Test.YtlefdhhnlbpbkaaGreatPv29
section
namespace Go.Proofs.YtlefdhhnlbpbkaaGreat
open Go Go.RowKit
set_option linter.unusedVariables false
set_option linter.unusedSimpArgs false
set_option maxRecDepth 100000
set_option maxHeartbeats 16000000
/-- append to a row of the call's own: where the row lay, its cells are as they were. -/
theorem run_app9 {P : Program} {t e : TypeId} {z : Value} {k bytes : Nat} (hT : SlTy P t e z k bytes) (w : World) (ty : TypeId) (base : Nat) (v : Value) (n : Nat) (xs : List Value) (hown : w.ownsRow base e k v n xs)
  (a : Addr) (m c : Nat) (news : List Value) (hl : news.length = m * k) (hnews : ∀ j u, news[j]? = some u → w.cell? (a.add j) = some u) (h1 : ∀ u ∈ news, u.oneCell' = true)
  (h63 : n + m ≤ maxLen) (hbytes : (n + m) * bytes ≤ 140737488355328) (hbase : base ≤ w.heap.size) :
  ∃ v' w', (Builtin.append_ #[t, t] ty #[v, .slice (some a) m c]).run P w = .ok v' w' ∧ w'.ownsRow base e k v' (n + m) (xs ++ news) ∧ w.grownBy w' v.ownBlock ∧
   (∀ b, v'.ownBlock = some b → v.ownBlock = some b ∨ w.heap.size ≤ b) ∧ ∀ g, v.ownBlock = some g → ∀ j, j < n * k → w'.cell? ⟨g, j, none⟩ = w.cell? ⟨g, j, none⟩ := by
 obtain ⟨i, hi, hz, hs, hb⟩ := info_parts hT.info
 have hxl : xs.length = n * k := hown.1
 rcases hown.2 with ⟨rfl, rfl⟩ | ⟨g, cap, cur, rfl, hbg, hg, hnc, hcm, hcs, htake⟩
 ·obtain ⟨v', w', hr, h2, h3, h4⟩ := zda hT w ty base _ _ xs hown a m c news hl hnews h1 h63 hbytes hbase
  exact ⟨v', w', hr, h2, h3, h4, fun g hg => by cases hg⟩
 ·have hc0 : ∀ j u, xs[j]? = some u → w.cell? ⟨g, j, none⟩ = some u := fun j u hj => by
   have := hown.cells (g := g) rfl j u hj
   simpa [Addr.add_lit] using this
  by_cases hroom : n + m ≤ cap
  ·obtain ⟨w', hr, h2, h3⟩ := run_append_fits (P := P) w base t ty e i k hT.und hi hs g n cap xs hown a m c news hl hnews h1 hroom
   refine ⟨_, w', hr, h2, h3, fun b hb => .inl hb, fun g' hg' j hj => ?_⟩
   obtain rfl : g = g' := Option.some.inj hg'
   obtain ⟨u, hu⟩ : ∃ u, xs[j]? = some u := ⟨_, List.getElem?_eq_getElem (by omega)⟩
   rw [hc0 j u hu]
   have := h2.cells (g := g) rfl j u (by rw [List.getElem?_append_left (by omega)]; exact hu)
   simpa [Addr.add_lit] using this
  ·obtain ⟨v', w', hr, h2, h3, _⟩ := run_append_own (P := P) w base t ty e i z k bytes hT.und hi hz hs hb hT.size hT.pos _ n xs hown a m c news hl hnews h1 h63 hbytes hbase
   have hsm : n + m ≤ 9223372036854775807 := by simpa [maxLen] using h63
   have hr2 := run_append_grow (P := P) w t ty e i z hT.und hi hz ⟨g, 0, none⟩ n cap xs (by rw [hs]; exact hown.1) (hown.cells (g := g) rfl) a m c news (by rw [hs]; exact hl) hnews (by omega) (by omega) (by rw [hb]; exact growslice_fits (by omega) hbytes)
   rw [hr] at hr2
   injection hr2 with e1 e2
   refine ⟨v', w', hr, h2, h3, fun b hbv => .inr ?_, fun g' hg' j hj => ?_⟩
   ·subst e1
    simp only [Value.ownBlock, Option.some.injEq] at hbv
    omega
   ·obtain rfl : g = g' := Option.some.inj hg'
    rw [e2]
    exact zdy _ _ _ _ (Array.getElem?_eq_some_iff.1 hg).1
theorem zdt {P : Program} {t e : TypeId} {z : Value} {k bytes : Nat} (hT : SlTy P t e z k bytes) {w : World} {ops : Array Oper} {rest : List Oper} {o : Oper} {a : Act} {Q : Exit → Act → World → Prop} (hgd : o.guard = none) (s x : Operand)
  (ho : o.op = .call { callee := .builtin .append, args := #[s, x], argTypes := #[t, t] })
  (base : Nat) (v : Value) (es : List (List CD)) (fp : List Nat) (hs : a.eval s = v) (hown : Own w base e k v es fp)
  (ad : Addr) (m c : Nat) (news : List (List CD)) (nvs : List Value) (nfp : List Nat) (hx : a.eval x = .slice (some ad) m c) (hm : m = news.length) (hrd : RdVs w news.flatten nvs nfp) (hnk : ∀ x ∈ news, x.length = k)
  (hnews : ∀ j u, nvs[j]? = some u → w.cell? (ad.add j) = some u) (hna : ∀ b ∈ nfp, v.ownBlock ≠ some b)
  (hbytes : (es.length + m) * bytes ≤ 140737488355328) (hlen : es.length + m ≤ 140737488355328) (hbase : base ≤ w.heap.size)
  (h : ∀ v' w', Own w' base e k v' (es ++ news) (fp ++ nfp) → w.grownBy w' v.ownBlock → (∀ b, v'.ownBlock = some b → v.ownBlock = some b ∨ w.heap.size ≤ b) → SameOn (fp ++ nfp) w w' → (∀ g, v.ownBlock = some g → ∀ j, j < es.length * k → w'.cell? ⟨g, j, none⟩ = w.cell? ⟨g, j, none⟩) → wpList P ops Q rest (a.put o.dst v') w') : wpList P ops Q (o :: rest) a w := by
 obtain ⟨xs, h1, h2, h3, h4⟩ := hown
 have hl : nvs.length = m * k := by
  rw [hrd.length, hm]
  clear h hm hrd hnews hna hx hbytes hlen
  induction news with
  | nil => simp
  | cons e es ih => rw [List.flatten_cons, zet, ih (fun x hx => hnk x (List.mem_cons_of_mem _ hx)), hnk e (by simp), List.length_cons, Nat.add_mul]; omega
 obtain ⟨v', w', hr, g1, g2, g3, g4⟩ := run_app9 hT w o.type base v es.length xs h1 ad m c nvs hl hnews hrd.one (by simp [maxLen]; omega) hbytes hbase
 refine wpList_plain hgd fun K hK => ?_
 unfold Oper.wp execOp
 simp only [ho, resolve, invoke, builtin, Sem.run_bind, Sem.run_pure, Result.andThen_ok, List.map_toArray, List.map_cons, List.map_nil, hs, hx, hr]
 refine hK _ _ (h v' w' ?_ g2 g3 ?_ g4)
 ·subst hm
  exact Own.appended h2 h3 h4 hrd hnk hna (by rw [zet]; exact g1) g2 g3
 ·exact fun b hb => g2.block b ((zer.1 hb).elim (h2.lt _ b) (hrd.lt _ b)) fun he => (zer.1 hb).elim (fun hb => h4 b hb he.symm) (fun hb => hna b hb he.symm)
/-- Below lo only block rb and the row R may have turned; the row's first cells are as they were. -/
structure Low (mm : Nat) (rb : Nat) (R : Option Nat) (lo : Nat) (w w' : World) : Prop where
 os : w'.os = w.os
 tape : w'.tape = w.tape
 output : w'.output = w.output
 size : w.heap.size ≤ w'.heap.size
 block : ∀ b, b < lo → b ≠ rb → R ≠ some b → w'.heap[b]? = w.heap[b]?
 kept : ∀ g, R = some g → g < lo → g ≠ rb → ∀ j, j < mm → w'.cell? ⟨g, j, none⟩ = w.cell? ⟨g, j, none⟩
theorem zcA {w w' : World} {b j : Nat} (h : w'.heap[b]? = w.heap[b]?) : w'.cell? ⟨b, j, none⟩ = w.cell? ⟨b, j, none⟩ := by unfold World.cell?; simp only [h]
theorem Low.trans {rb lo mm : Nat} {R : Option Nat} {a b c : World} (h : Low mm rb R lo a b) (h' : Low mm rb R lo b c) : Low mm rb R lo a c := ⟨h'.os.trans h.os, h'.tape.trans h.tape, h'.output.trans h.output, Nat.le_trans h.size h'.size, fun k h1 h2 h3 => (h'.block k h1 h2 h3).trans (h.block k h1 h2 h3), fun g h1 h2 h3 j h4 => (h'.kept g h1 h2 h3 j h4).trans (h.kept g h1 h2 h3 j h4)⟩
theorem Low.below {rb lo mm : Nat} {R : Option Nat} {w w' : World} (h : Below w.heap.size w w') (hl : lo ≤ w.heap.size) : Low mm rb R lo w w' := ⟨h.os, h.tape, h.output, h.size, fun k h1 _ _ => h.block k (zep h1 hl), fun g _ h2 _ j _ => zcA (h.block g (zep h2 hl))⟩
theorem Low.only {rb lo mm : Nat} {R : Option Nat} {w w' : World} (h : Only [rb] w w') (hl : lo ≤ w.heap.size) : Low mm rb R lo w w' := ⟨h.os, h.tape, h.output, h.size, fun k h1 h2 _ => h.block k (zep h1 hl) (by simpa using h2), fun g _ h2 h3 j _ => zcA (h.block g (zep h2 hl) (by simpa using h3))⟩
theorem Low.grown {rb lo mm : Nat} {R : Option Nat} {w w' : World} {r : Option Nat} (h : w.grownBy w' r) (hl : lo ≤ w.heap.size) (hr : r = R) (hk : ∀ g, r = some g → ∀ j, j < mm → w'.cell? ⟨g, j, none⟩ = w.cell? ⟨g, j, none⟩) : Low mm rb R lo w w' := ⟨h.os, h.tape, h.output, h.size, fun k h1 _ h3 => h.block k (zep h1 hl) (fun e => h3 (by rw [← hr, e])), fun g h1 _ _ j h4 => hk g (hr.trans h1) j h4⟩
theorem Low.set {rb lo mm : Nat} {R : Option Nat} {w : World} {b i : Nat} {u : Value} (hb : lo ≤ b) : Low mm rb R lo w (w.setCell ⟨b, i, none⟩ u) := ⟨by simp [World.setCell], by simp [World.setCell], by simp [World.setCell], by simp [World.setCell], fun k h1 _ _ => Below.heap_setCell _ _ _ _ (fun e => by simp only at e; omega), fun g _ h2 _ j _ => zcA (Below.heap_setCell _ _ _ _ (fun e => by simp only at e; omega))⟩
theorem Low.toBelow {rb lo B mm : Nat} {R : Option Nat} {w w' : World} (h : Low mm rb R lo w w') (h1 : B ≤ lo) (h2 : B ≤ rb) (h3 : ∀ b, R = some b → B ≤ b) : Below B w w' := ⟨h.os, h.tape, h.output, h.size, fun k hk => h.block k (by omega) (by omega) (fun e => by have := h3 k e; omega)⟩
theorem num_k (n : Nat) (xs : List Int) (vs : List Value) (hn : n = xs.length) (hv : vs = xs.map (Value.int .i64)) (rb p lb : Nat) (w : World) (hp : p ≤ 1000000000) (h0 : 1 ≤ xs.length) (h1 : xs.length ≤ 1000) (hl : Lst rb vs lb w) (h : Rdr w rb p) :
  Calls Tryz.prog 22 #[.pointer (some ⟨rb, 0, none⟩), .slice (some ⟨lb, 0, none⟩) n n] w fun e w' => (∃ x, x ∈ xs ∧ e = .returned (.int .i64 x)) ∧ Rdr w' rb (p + 1) ∧ Only [rb] w w' := by
 subst hn; exact num_l xs vs hv rb p lb w hp h0 h1 hl h
theorem of_k (n : Nat) (xs : List ByteArray) (vs : List Value) (hn : n = xs.length) (hv : vs = xs.map Value.string) (rb p lb : Nat) (w : World) (hp : p ≤ 1000000000) (h0 : 1 ≤ xs.length) (h1 : xs.length ≤ 1000) (hl : Lst rb vs lb w) (h : Rdr w rb p) :
  Calls Tryz.prog 51 #[.pointer (some ⟨rb, 0, none⟩), .slice (some ⟨lb, 0, none⟩) n n] w fun e w' => (∃ x, x ∈ xs ∧ e = .returned (.string x)) ∧ Rdr w' rb (p + 1) ∧ Only [rb] w w' := by
 subst hn; exact of_l xs vs hv rb p lb w hp h0 h1 hl h
/-- A reason of few parts. -/
def Wy.fit9 (M : Nat) (W : Wy) : Prop := W.t.size ≤ 1000000 ∧ W.kids.length ≤ M ∧ ∀ y ∈ W.kids, y.thin
theorem Wy.fit9.thin {M : Nat} {W : Wy} (h : W.fit9 M) (hM : M ≤ 1048576) : W.thin := by
 obtain ⟨h1, h2, h3⟩ := h
 cases W with
 | mk r n t ks => exact .mk r n t ks (by simp only [Wy.t] at h1; omega) (by simp only [Wy.kids] at h2; omega) h3
/-- A reason of few parts that uses not too much. -/
def Wy.fit8 (M : Nat) (W : Wy) : Prop := W.fit9 M ∧ (Wy.usesL W.kids).length ≤ 1000000000000
theorem Wy.fit8.thin {M : Nat} {W : Wy} (h : W.fit8 M) (hM : M ≤ 1048576) : W.thin := h.1.thin hM
theorem Wy.fit8.uses {M : Nat} {W : Wy} (h : W.fit8 M) : W.uses.length ≤ 1000000000001 := by
 have h2 := h.2
 rw [Wy.uses_eq, zet]
 split <;> simp <;> omega
/-- The parameter's box, the result's, what the reason reads. -/
structure Bd (mm : Nat) (w : World) (rb : Nat) (R : Option Nat) (dlo lo : Nat) (W : Wy) (vs : List Value) (kv v3 : Value) (f kf f3 : List Nat) (u : World) : Prop where
 P : Box vs w.heap.size u
 Q : Box [.int .i64 0, .int .i64 0, .string ⟨#[]⟩, .slice none 0 0, .slice none 0 0] (w.heap.size + 1) u
 rd : RdVs u W.cd vs f
 own : Own u lo 32 5 kv (W.kids.map Wy.cd) kf
 low : Low mm rb R w.heap.size w u
 ff : ∀ x ∈ f, dlo ≤ x ∧ x ≠ w.heap.size ∧ x ≠ w.heap.size + 1
 fk : ∀ x ∈ kf, dlo ≤ x ∧ x ≠ w.heap.size ∧ x ≠ w.heap.size + 1
 fo : ∀ b, kv.ownBlock = some b → b ≠ w.heap.size ∧ b ≠ w.heap.size + 1
 rt : Rd u (.sl (W.t.kids.map Tm.cd)) v3 f3
 ft : ∀ x ∈ f3, dlo ≤ x ∧ x ≠ w.heap.size ∧ x ≠ w.heap.size + 1
 fd : ∀ b, kv.ownBlock = some b → b ∉ f3
theorem Bd.only {mm : Nat} {w u u' : World} {rb dlo lo : Nat} {R : Option Nat} {W : Wy} {vs : List Value} {kv v3 : Value} {f kf f3 : List Nat} (h : Bd mm w rb R dlo lo W vs kv v3 f kf f3 u) (ho : Only [rb] u u') (hrb : rb < dlo) (hdl : dlo ≤ lo) (hlo : lo ≤ w.heap.size) : Bd mm w rb R dlo lo W vs kv v3 f kf f3 u' :=
 ⟨h.P.only ho (by omega), h.Q.only ho (by omega), h.rd.same _ (fun b hb => ho.block b (h.rd.lt _ b hb) (by have := (h.ff b hb).1; simp; omega)), h.own.same (fun b hb => ho.block b (h.own.lt b hb) (by have := (h.fk b hb).1; simp; omega)) (fun b hb => ho.block b (h.own.block hb).2 (by have := (h.own.block hb).1; simp; omega)),
  h.low.trans (Low.only ho h.low.size), h.ff, h.fk, h.fo, h.rt.same _ (fun b hb => ho.block b (h.rt.lt _ b hb) (by have := (h.ft b hb).1; simp; omega)), h.ft, h.fd⟩
theorem Bd.below {mm : Nat} {w u u' : World} {rb dlo lo : Nat} {R : Option Nat} {W : Wy} {vs : List Value} {kv v3 : Value} {f kf f3 : List Nat} (h : Bd mm w rb R dlo lo W vs kv v3 f kf f3 u) (hb : Below u.heap.size u u') (hlo : lo ≤ w.heap.size) : Bd mm w rb R dlo lo W vs kv v3 f kf f3 u' :=
 ⟨h.P.below hb, h.Q.below hb, h.rd.below hb, h.own.below hb, h.low.trans (Low.below hb h.low.size), h.ff, h.fk, h.fo, h.rt.below hb, h.ft, h.fd⟩
theorem Bd.set {mm : Nat} {w u : World} {rb dlo lo : Nat} {R : Option Nat} {W W' : Wy} {vs : List Value} {kv kv' v3 v3' : Value} {f kf f3 f' kf' f3' : List Nat} (h : Bd mm w rb R dlo lo W vs kv v3 f kf f3 u) (hlo : lo ≤ w.heap.size) {k : Nat} (hk : k < vs.length) (v : Value) (hr : RdVs u W'.cd (vs.set k v) f') (ho : Own u lo 32 5 kv' (W'.kids.map Wy.cd) kf')
  (ff : ∀ x ∈ f', dlo ≤ x ∧ x ≠ w.heap.size ∧ x ≠ w.heap.size + 1) (fk : ∀ x ∈ kf', dlo ≤ x ∧ x ≠ w.heap.size ∧ x ≠ w.heap.size + 1) (fo : ∀ b, kv'.ownBlock = some b → b ≠ w.heap.size ∧ b ≠ w.heap.size + 1) (rt : Rd u (.sl (W'.t.kids.map Tm.cd)) v3' f3') (ft : ∀ x ∈ f3', dlo ≤ x ∧ x ≠ w.heap.size ∧ x ≠ w.heap.size + 1) (fd : ∀ b, kv'.ownBlock = some b → b ∉ f3') : Bd mm w rb R dlo lo W' (vs.set k v) kv' v3' f' kf' f3' (u.setCell ⟨w.heap.size, k, none⟩ v) := by
 refine ⟨h.P.put hk v, ?_, hr.same _ (fun b hb => Below.heap_setCell _ _ _ _ (ff b hb).2.1), ho.same (fun b hb => Below.heap_setCell _ _ _ _ (fk b hb).2.1) (fun b hb => Below.heap_setCell _ _ _ _ (fo b hb).1), h.low.trans (Low.set (Nat.le_refl _)), ff, fk, fo, rt.same _ (fun b hb => Below.heap_setCell _ _ _ _ (ft b hb).2.1), ft, fd⟩
 have := h.Q.sets_other (b := w.heap.size) (.inr (by omega)) [(k, v)]
 simpa [zA] using this
theorem wys_tail {w : World} {k : Wy} {ks : List Wy} {b off n c : Nat} {f : List Nat} (h : Rd w (.sl ((k :: ks).map Wy.cd)) (.slice (some ⟨b, off, none⟩) n c) f) : ∃ g, Rd w (.sl (ks.map Wy.cd)) (.slice (some ⟨b, off + 5, none⟩) (n - 1) (c - 1)) g ∧ ∀ x ∈ g, x ∈ f := by
 simp only [Rd] at h
 obtain ⟨a, c', h1, h2, h3, h4⟩ := h
 simp only [Value.slice.injEq] at h1
 obtain ⟨rfl, rfl, rfl⟩ := h1
 rcases h4 with ⟨h4, _⟩ | ⟨_, b', off', g, h5, hb, rfl, hr⟩
 ·simp at h4
 ·simp only [Option.some.injEq, Addr.mk.injEq, and_true] at h5
  obtain ⟨rfl, rfl⟩ := h5
  simp only [List.map_cons, RdRows] at hr
  obtain ⟨vs, f1, f2, rfl, _, _, hr2⟩ := hr
  rw [Wy.cd_len] at hr2
  simp only [zew, List.length_cons, Nat.add_sub_cancel] at h2 ⊢
  by_cases hks : ks = []
  ·subst hks
   exact ⟨[], by simp only [Rd]; exact ⟨_, _, rfl, by simp, by omega, .inl (by simp)⟩, by simp⟩
  ·refine ⟨b :: f2, ?_, fun x hx => ?_⟩
   ·simp only [Rd]
    exact ⟨_, _, by rw [zew], by simp; omega, by omega, .inr ⟨by simpa using hks, b, off + 5, f2, rfl, hb, rfl, hr2⟩⟩
   ·rcases zev.1 hx with rfl | hx
    ·simp
    ·simp [hx]
/-- The row of the parts is the call's own, and no block of the term. -/
def BendOwn (dlo lo : Nat) (w : World) (W : Wy) (v3 v : Value) : Prop := ∃ kf f3, Own w lo 32 5 v (W.kids.map Wy.cd) kf ∧ (∀ x ∈ kf, dlo ≤ x) ∧ Rd w (.sl (W.t.kids.map Tm.cd)) v3 f3 ∧ (∀ x ∈ f3, dlo ≤ x) ∧ ∀ b, v.ownBlock = some b → b ∉ f3
theorem KidsOwn.bend {dlo lo : Nat} (hdl : dlo ≤ lo) {w : World} {W : Wy} {a3 a4 : Option Addr} {c3 c4 : Nat} {f : List Nat} (h : KidsOwn lo w W (.slice a4 W.kids.length c4)) (hr : RdVs w W.cd [.int .i64 W.rule, .int .i64 W.n, .string W.t.name, .slice a3 W.t.kids.length c3, .slice a4 W.kids.length c4] f) (hf : ∀ x ∈ f, dlo ≤ x) : BendOwn dlo lo w W (.slice a3 W.t.kids.length c3) (.slice a4 W.kids.length c4) := by
 obtain ⟨kf, h1, h2, h3⟩ := h
 obtain ⟨_, _, f3, _, _, f4, hve, hfe, _, _, _, g3, g4⟩ := Wy.open hr
 simp only [List.cons.injEq, Value.slice.injEq, and_true, true_and] at hve
 obtain ⟨⟨rfl, rfl⟩, rfl, rfl⟩ := hve
 refine ⟨kf, f3, h1, fun x hx => Nat.le_trans hdl (h2 x hx), g3, fun x hx => hf x (by rw [hfe]; exact List.mem_append_left _ hx), fun b hb => ?_⟩
 rcases h3 with h3 | h3
 ·rw [h3] at g3
  simp only [List.map_nil, Rd] at g3
  obtain ⟨_, _, _, _, _, h9 | h9⟩ := g3
  ·rw [h9.2]; simp
  ·exact absurd rfl h9.1
 ·rw [h3] at hb; cases hb
def BendOut (mm M rb : Nat) (R : Option Nat) (dlo lo : Nat) (w : World) (e : Ending) (w' : World) : Prop := ∃ (r n : Int) (t : Tm) (ks : List Wy) (a3 : Option Addr) (c3 : Nat) (a4 : Option Addr) (c4 : Nat) (f : List Nat), (Wy.mk r n t ks).fit8 M ∧ e = .returned (.agg #[.int .i64 r, .int .i64 n, .string t.name, .slice a3 t.kids.length c3, .slice a4 ks.length c4]) ∧ RdVs w' (Wy.mk r n t ks).cd [.int .i64 r, .int .i64 n, .string t.name, .slice a3 t.kids.length c3, .slice a4 ks.length c4] f ∧ (∀ x ∈ f, dlo ≤ x) ∧ BendOwn dlo lo w' (Wy.mk r n t ks) (.slice a3 t.kids.length c3) (.slice a4 ks.length c4) ∧ Low mm rb R w.heap.size w w' ∧ ∀ b, (Value.slice a4 ks.length c4).ownBlock = some b → w.heap.size ≤ b ∨ (R = some b ∧ mm ≤ ks.length * 5)
theorem zbd (mm : Nat) (r n : Int) (t : Tm) (ks : List Wy) (M : Nat) (hM : M ≤ 1000000) (hmm : mm ≤ ks.length * 5) (hfit : (Wy.mk r n t ks).fit8 M) (a3 : Option Addr) (c3 : Nat) (a4 : Option Addr) (c4 : Nat) (f : List Nat) (rb p dlo lo : Nat) (w : World) (hp : p + 10 ≤ 1000000000) (hr : RdVs w (Wy.mk r n t ks).cd [.int .i64 r, .int .i64 n, .string t.name, .slice a3 t.kids.length c3, .slice a4 ks.length c4] f) (hf : ∀ x ∈ f, dlo ≤ x) (hko : BendOwn dlo lo w (Wy.mk r n t ks) (.slice a3 t.kids.length c3) (.slice a4 ks.length c4)) (hrb : rb < dlo) (hdl : dlo ≤ lo) (hlo : lo ≤ w.heap.size) (hR : Rdr w rb p) (R : Option Nat) (hRow : Hid (R = (Value.slice a4 ks.length c4).ownBlock)) :
  Calls Tryz.prog 24 #[.pointer (some ⟨rb, 0, none⟩), .agg #[.int .i64 r, .int .i64 n, .string t.name, .slice a3 t.kids.length c3, .slice a4 ks.length c4]] w fun e w' => BendOut mm (M + 1) rb R dlo lo w e w' ∧ Rdr w' rb (p + 3) := by
 obtain ⟨kf, f3, hown, hkf, hrt, hft, hfd⟩ := hko
 have hP := (Box.new w [.int .i64 r, .int .i64 n, .string t.name, .slice a3 t.kids.length c3, .slice a4 ks.length c4] 32).alloc (.cells #[.int .i64 0, .int .i64 0, .string ⟨#[]⟩, .slice none 0 0, .slice none 0 0] 32)
 have hQ := Box.new (w.alloc (.cells #[.int .i64 r, .int .i64 n, .string t.name, .slice a3 t.kids.length c3, .slice a4 ks.length c4] 32)) [.int .i64 0, .int .i64 0, .string ⟨#[]⟩, .slice none 0 0, .slice none 0 0] 32
 rw [World.size_alloc] at hQ
 have hb0 : Below w.heap.size w ((w.alloc (.cells #[.int .i64 r, .int .i64 n, .string t.name, .slice a3 t.kids.length c3, .slice a4 ks.length c4] 32)).alloc (.cells #[.int .i64 0, .int .i64 0, .string ⟨#[]⟩, .slice none 0 0, .slice none 0 0] 32)) := (zb _ _).alloc (by simp) _
 have B0 : Bd mm w rb R dlo lo (.mk r n t ks) [.int .i64 r, .int .i64 n, .string t.name, .slice a3 t.kids.length c3, .slice a4 ks.length c4] (.slice a4 ks.length c4) (.slice a3 t.kids.length c3) f kf f3 ((w.alloc (.cells #[.int .i64 r, .int .i64 n, .string t.name, .slice a3 t.kids.length c3, .slice a4 ks.length c4] 32)).alloc (.cells #[.int .i64 0, .int .i64 0, .string ⟨#[]⟩, .slice none 0 0, .slice none 0 0] 32)) :=
  ⟨hP, hQ, hr.below hb0, hown.below hb0, Low.below hb0 (Nat.le_refl _), fun x hx => by have := hr.lt _ x hx; have := hf x hx; omega, fun x hx => by have := hown.lt x hx; have := hkf x hx; omega, fun b hb => by have := (hown.block hb).2; omega, hrt.below hb0, fun x hx => by have := hrt.lt _ x hx; have := hft x hx; omega, hfd⟩
 have hR0 := hR.below hb0
 have hfit' : (Wy.mk r n t ks).fit8 (M + 1) := ⟨⟨hfit.1.1, Nat.le_succ_of_le hfit.1.2.1, hfit.1.2.2⟩, hfit.2⟩
 go_enter Tryz.func24, Tryz.ntmps24
 go_upto_region 1 with fail
 generalize (w.alloc (.cells #[.int .i64 r, .int .i64 n, .string t.name, .slice a3 t.kids.length c3, .slice a4 ks.length c4] 32)).alloc (.cells #[.int .i64 0, .int .i64 0, .string ⟨#[]⟩, .slice none 0 0, .slice none 0 0] 32) = u0 at *
 clear hP hQ hb0 hR hr hf hown hkf hrt hft hfd
 go_wp2_with fail
 refine (zE rb p 4 _ (by omega) (by omega) (by omega) hR0).mono ?_
 rintro e u1 ⟨⟨d, hd, rfl⟩, hR1, ho⟩
 have B1 := B0.only ho hrb hdl hlo
 clear B0 hR0 ho
 by_cases hd0 : d = 0
 ·have t0 : decide ((0 : Int) < (d : Int)) = false := by subst hd0; rfl
  go_wp2_with fail
  refine (zE rb (p + 1) 5 _ (by omega) (by omega) (by omega) hR1).mono ?_
  rintro e u2 ⟨⟨q, hq, rfl⟩, hRd, ho⟩
  have B2 := B1.only ho hrb hdl hlo
  clear B1 hR1 ho
  by_cases q0 : q = 0
  ·have t1 : ((q : Int) == 0) = true := by subst q0; rfl
   have hL9 := Lst.new (w := u2) hRd.lt [.int .i64 0, .int .i64 6, .int .i64 1, .int .i64 3, .int .i64 4] 3
   have hba := zb u2 (.cells #[.int .i64 0, .int .i64 6, .int .i64 1, .int .i64 3, .int .i64 4] 3)
   go_wp2_with fail
   refine (num_k 5 [0, 6, 1, 3, 4] [.int .i64 0, .int .i64 6, .int .i64 1, .int .i64 3, .int .i64 4] rfl rfl rb (p + 2) _ _ (by omega) (by simp) (by simp) (by exact hL9) (hRd.below hba)).mono ?_
   rintro e u3 ⟨⟨dv, hdv, rfl⟩, hRn, ho⟩
   have B9 := (B2.below hba hlo).only ho hrb hdl hlo
   obtain ⟨_, _, g3, _, _, g4, hve, hfe, ir, iN, isz, h3, h4⟩ := Wy.open B9.rd
   simp only [Wy.rule, Wy.n, Wy.t, Wy.kids, List.cons.injEq, Value.slice.injEq, and_true, true_and] at hve
   obtain ⟨⟨rfl, rfl⟩, rfl, rfl⟩ := hve
   have hdi : I64 dv := by simp at hdv; constructor <;> omega
   have B3 := B9.set (W' := .mk dv n t ks) hlo (k := 0) (by simp) (.int .i64 dv) (Wy.close (x := .mk dv n t ks) hdi iN isz h3 h4) B9.own (by rw [← hfe]; exact B9.ff) B9.fk B9.fo B9.rt B9.ft B9.fd
   clear hfe
   have p0 := B9.P.2.1 0 _ rfl; have p1 := B9.P.2.1 1 _ rfl; have p2 := B9.P.2.1 2 _ rfl; have p3 := B9.P.2.1 3 _ rfl; have p4 := B9.P.2.1 4 _ rfl
   have i0 := B9.P.2.2 0; have i1 := B9.P.2.2 1; have i2 := B9.P.2.2 2; have i3 := B9.P.2.2 3; have i4 := B9.P.2.2 4
   have y0 := B9.Q.2.1 0 _ rfl; have y1 := B9.Q.2.1 1 _ rfl; have y2 := B9.Q.2.1 2 _ rfl; have y3 := B9.Q.2.1 3 _ rfl; have y4 := B9.Q.2.1 4 _ rfl
   have z0 := B9.Q.2.2 0; have z1 := B9.Q.2.2 1; have z2 := B9.Q.2.2 2; have z3 := B9.Q.2.2 3; have z4 := B9.Q.2.2 4
   have gR := B3.Q.puts [.int .i64 dv, .int .i64 n, .string t.name, .slice a3 t.kids.length c3, .slice a4 ks.length c4] rfl
   have hKK := (Same2.refl (w.heap.size + 1) (w.heap.size + 1) (u3.setCell ⟨w.heap.size, 0, none⟩ (.int .i64 dv))).sets (b := w.heap.size + 1) (.inl rfl) (ze 0 [.int .i64 dv, .int .i64 n, .string t.name, .slice a3 t.kids.length c3, .slice a4 ks.length c4])
   have hLL := ((((Low.set (mm := mm) (rb := rb) (R := R) (lo := w.heap.size) (w := u3.setCell ⟨w.heap.size, 0, none⟩ (.int .i64 dv)) (b := w.heap.size + 1) (i := 0) (u := .int .i64 dv) (by omega)).trans (Low.set (b := w.heap.size + 1) (i := 1) (u := .int .i64 n) (by omega))).trans (Low.set (b := w.heap.size + 1) (i := 2) (u := .string t.name) (by omega))).trans (Low.set (b := w.heap.size + 1) (i := 3) (u := .slice a3 t.kids.length c3) (by omega))).trans (Low.set (b := w.heap.size + 1) (i := 4) (u := .slice a4 ks.length c4) (by omega))
   have hRR := (((((hRn.set (b := w.heap.size) (i := 0) (u := .int .i64 dv) (by omega)).set (i := 0) (u := .int .i64 dv) (b := w.heap.size + 1) (by omega)).set (i := 1) (u := .int .i64 n) (b := w.heap.size + 1) (by omega)).set (i := 2) (u := .string t.name) (b := w.heap.size + 1) (by omega)).set (i := 3) (u := .slice a3 t.kids.length c3) (b := w.heap.size + 1) (by omega)).set (i := 4) (u := .slice a4 ks.length c4) (b := w.heap.size + 1) (by omega)
   simp only [zA, ze] at gR hKK
   have hrd := B3.rd.same2 hKK (fun x hx => by have := (B3.ff x hx).2.2; exact ⟨this, this⟩)
   have hko9 : BendOwn dlo lo _ (.mk dv n t ks) _ (.slice a4 ks.length c4) := ⟨_, _, B3.own.same2 hKK (fun x hx => by have := (B3.fk x hx).2.2; exact ⟨this, this⟩) (fun b hb => by have := (B3.fo b hb).2; exact ⟨this, this⟩), fun x hx => (B3.fk x hx).1, B3.rt.same2 hKK (fun x hx => by have := (B3.ft x hx).2.2; exact ⟨this, this⟩), fun x hx => (B3.ft x hx).1, B3.fd⟩
   have hlow := B3.low.trans hLL
   have hff := fun x hx => (B3.ff x hx).1
   clear hKK hLL
   go_wp2_with fail
   have e0 := gR.2.1 0 _ rfl; have e1 := gR.2.1 1 _ rfl; have e2 := gR.2.1 2 _ rfl; have e3 := gR.2.1 3 _ rfl; have e4 := gR.2.1 4 _ rfl
   refine bodyPost_ret (v := .agg #[.int .i64 dv, .int .i64 n, .string t.name, .slice a3 t.kids.length c3, .slice a4 ks.length c4]) (by simp [results, Tryz.results24, go_sem, e0, e1, e2, e3, e4]) rfl ?_
   exact ⟨⟨dv, n, t, ks, a3, c3, a4, c4, _, hfit', rfl, hrd, hff, hko9, hlow, fun b hb => .inr ⟨hRow.out.trans hb, hmm⟩⟩, hRR.mono (by omega)⟩
  ·have t1 : ((q : Int) == 0) = false := by simpa using q0
   by_cases q1 : q = 1
   ·have t2 : ((q : Int) == 1) = true := by subst q1; rfl
    have hL9 := Lst.new (w := u2) hRd.lt [.int .i64 (-1), .int .i64 1, .int .i64 9, .int .i64 9223372036854775807] 3
    have hba := zb u2 (.cells #[.int .i64 (-1), .int .i64 1, .int .i64 9, .int .i64 9223372036854775807] 3)
    go_wp2_with fail
    refine (num_k 4 [-1, 1, 9, 9223372036854775807] [.int .i64 (-1), .int .i64 1, .int .i64 9, .int .i64 9223372036854775807] rfl rfl rb (p + 2) _ _ (by omega) (by simp) (by simp) (by exact hL9) (hRd.below hba)).mono ?_
    rintro e u3 ⟨⟨dv, hdv, rfl⟩, hRn, ho⟩
    have B9 := (B2.below hba hlo).only ho hrb hdl hlo
    obtain ⟨_, _, g3, _, _, g4, hve, hfe, ir, iN, isz, h3, h4⟩ := Wy.open B9.rd
    simp only [Wy.rule, Wy.n, Wy.t, Wy.kids, List.cons.injEq, Value.slice.injEq, and_true, true_and] at hve
    obtain ⟨⟨rfl, rfl⟩, rfl, rfl⟩ := hve
    have hdi : I64 dv := by simp at hdv; constructor <;> omega
    have B3 := B9.set (W' := .mk r dv t ks) hlo (k := 1) (by simp) (.int .i64 dv) (Wy.close (x := .mk r dv t ks) ir hdi isz h3 h4) B9.own (by rw [← hfe]; exact B9.ff) B9.fk B9.fo B9.rt B9.ft B9.fd
    clear hfe
    have p0 := B9.P.2.1 0 _ rfl; have p1 := B9.P.2.1 1 _ rfl; have p2 := B9.P.2.1 2 _ rfl; have p3 := B9.P.2.1 3 _ rfl; have p4 := B9.P.2.1 4 _ rfl
    have i0 := B9.P.2.2 0; have i1 := B9.P.2.2 1; have i2 := B9.P.2.2 2; have i3 := B9.P.2.2 3; have i4 := B9.P.2.2 4
    have y0 := B9.Q.2.1 0 _ rfl; have y1 := B9.Q.2.1 1 _ rfl; have y2 := B9.Q.2.1 2 _ rfl; have y3 := B9.Q.2.1 3 _ rfl; have y4 := B9.Q.2.1 4 _ rfl
    have z0 := B9.Q.2.2 0; have z1 := B9.Q.2.2 1; have z2 := B9.Q.2.2 2; have z3 := B9.Q.2.2 3; have z4 := B9.Q.2.2 4
    have gR := B3.Q.puts [.int .i64 r, .int .i64 dv, .string t.name, .slice a3 t.kids.length c3, .slice a4 ks.length c4] rfl
    have hKK := (Same2.refl (w.heap.size + 1) (w.heap.size + 1) (u3.setCell ⟨w.heap.size, 1, none⟩ (.int .i64 dv))).sets (b := w.heap.size + 1) (.inl rfl) (ze 0 [.int .i64 r, .int .i64 dv, .string t.name, .slice a3 t.kids.length c3, .slice a4 ks.length c4])
    have hLL := ((((Low.set (mm := mm) (rb := rb) (R := R) (lo := w.heap.size) (w := u3.setCell ⟨w.heap.size, 1, none⟩ (.int .i64 dv)) (b := w.heap.size + 1) (i := 0) (u := .int .i64 r) (by omega)).trans (Low.set (b := w.heap.size + 1) (i := 1) (u := .int .i64 dv) (by omega))).trans (Low.set (b := w.heap.size + 1) (i := 2) (u := .string t.name) (by omega))).trans (Low.set (b := w.heap.size + 1) (i := 3) (u := .slice a3 t.kids.length c3) (by omega))).trans (Low.set (b := w.heap.size + 1) (i := 4) (u := .slice a4 ks.length c4) (by omega))
    have hRR := (((((hRn.set (b := w.heap.size) (i := 1) (u := .int .i64 dv) (by omega)).set (i := 0) (u := .int .i64 r) (b := w.heap.size + 1) (by omega)).set (i := 1) (u := .int .i64 dv) (b := w.heap.size + 1) (by omega)).set (i := 2) (u := .string t.name) (b := w.heap.size + 1) (by omega)).set (i := 3) (u := .slice a3 t.kids.length c3) (b := w.heap.size + 1) (by omega)).set (i := 4) (u := .slice a4 ks.length c4) (b := w.heap.size + 1) (by omega)
    simp only [zA, ze] at gR hKK
    have hrd := B3.rd.same2 hKK (fun x hx => by have := (B3.ff x hx).2.2; exact ⟨this, this⟩)
    have hko9 : BendOwn dlo lo _ (.mk r dv t ks) _ (.slice a4 ks.length c4) := ⟨_, _, B3.own.same2 hKK (fun x hx => by have := (B3.fk x hx).2.2; exact ⟨this, this⟩) (fun b hb => by have := (B3.fo b hb).2; exact ⟨this, this⟩), fun x hx => (B3.fk x hx).1, B3.rt.same2 hKK (fun x hx => by have := (B3.ft x hx).2.2; exact ⟨this, this⟩), fun x hx => (B3.ft x hx).1, B3.fd⟩
    have hlow := B3.low.trans hLL
    have hff := fun x hx => (B3.ff x hx).1
    clear hKK hLL
    go_wp2_with fail
    have e0 := gR.2.1 0 _ rfl; have e1 := gR.2.1 1 _ rfl; have e2 := gR.2.1 2 _ rfl; have e3 := gR.2.1 3 _ rfl; have e4 := gR.2.1 4 _ rfl
    refine bodyPost_ret (v := .agg #[.int .i64 r, .int .i64 dv, .string t.name, .slice a3 t.kids.length c3, .slice a4 ks.length c4]) (by simp [results, Tryz.results24, go_sem, e0, e1, e2, e3, e4]) rfl ?_
    exact ⟨⟨r, dv, t, ks, a3, c3, a4, c4, _, hfit', rfl, hrd, hff, hko9, hlow, fun b hb => .inr ⟨hRow.out.trans hb, hmm⟩⟩, hRR.mono (by omega)⟩
   ·have t2 : ((q : Int) == 1) = false := by simpa using (by omega : ¬ ((q : Int) = 1))
    by_cases q2 : q = 2
    ·have t3 : ((q : Int) == 2) = true := by subst q2; rfl
     have hL9 := Lst.new (w := u2) hRd.lt [.string ⟨#[]⟩, .string ⟨#[65]⟩, .string ⟨#[97]⟩, .string ⟨#[102]⟩] 9
     have hba := zb u2 (.cells #[.string ⟨#[]⟩, .string ⟨#[65]⟩, .string ⟨#[97]⟩, .string ⟨#[102]⟩] 9)
     go_wp2_with fail
     refine (of_k 4 [⟨#[]⟩, ⟨#[65]⟩, ⟨#[97]⟩, ⟨#[102]⟩] [.string ⟨#[]⟩, .string ⟨#[65]⟩, .string ⟨#[97]⟩, .string ⟨#[102]⟩] rfl rfl rb (p + 2) _ _ (by omega) (by simp) (by simp) (by exact hL9) (hRd.below hba)).mono ?_
     rintro e u3 ⟨⟨dv, hdv, rfl⟩, hRn, ho⟩
     have B9 := (B2.below hba hlo).only ho hrb hdl hlo
     obtain ⟨_, _, g3, _, _, g4, hve, hfe, ir, iN, isz, h3, h4⟩ := Wy.open B9.rd
     simp only [Wy.rule, Wy.n, Wy.t, Wy.kids, List.cons.injEq, Value.slice.injEq, and_true, true_and] at hve
     obtain ⟨⟨rfl, rfl⟩, rfl, rfl⟩ := hve
     have hds : dv.size ≤ maxLen := by simp at hdv; rcases hdv with rfl | rfl | rfl | rfl <;> decide
     have B3 := B9.set (W' := .mk r n ⟨dv, t.kids⟩ ks) hlo (k := 2) (by simp) (.string dv) (Wy.close (x := .mk r n ⟨dv, t.kids⟩ ks) ir iN hds h3 h4) B9.own (by rw [← hfe]; exact B9.ff) B9.fk B9.fo B9.rt B9.ft B9.fd
     have h44 : Rd _ _ _ _ := h4.same _ (fun b hb => Below.heap_setCell u3 ⟨w.heap.size, 2, none⟩ (.string dv) b (by have := (B9.ff b (by rw [hfe]; exact List.mem_append_right _ hb)).2.1; exact this))
     have B4 := B3.set (W' := .mk r n ⟨dv, []⟩ ks) hlo (k := 3) (by simp) (.slice none 0 0) (Wy.close (x := .mk r n ⟨dv, []⟩ ks) (f3 := []) ir iN hds (zaL _) h44) B3.own (fun x hx => B9.ff x (by rw [hfe]; exact List.mem_append_right _ hx)) B3.fk B3.fo (f3' := []) (zaL _) (by simp) (by simp)
     clear hfe
     have hfit2 : (Wy.mk r n ⟨dv, []⟩ ks).fit8 (M + 1) := ⟨⟨by have h := Tm.size_eq (Tm.mk dv []); simp only [Wy.t]; rw [h]; simp [Tm.kids, Tm.sizes], hfit'.1.2.1, hfit'.1.2.2⟩, hfit'.2⟩
     have p0 := B9.P.2.1 0 _ rfl; have p1 := B9.P.2.1 1 _ rfl; have p2 := B9.P.2.1 2 _ rfl; have p3 := B9.P.2.1 3 _ rfl; have p4 := B9.P.2.1 4 _ rfl
     have i0 := B9.P.2.2 0; have i1 := B9.P.2.2 1; have i2 := B9.P.2.2 2; have i3 := B9.P.2.2 3; have i4 := B9.P.2.2 4
     have y0 := B9.Q.2.1 0 _ rfl; have y1 := B9.Q.2.1 1 _ rfl; have y2 := B9.Q.2.1 2 _ rfl; have y3 := B9.Q.2.1 3 _ rfl; have y4 := B9.Q.2.1 4 _ rfl
     have z0 := B9.Q.2.2 0; have z1 := B9.Q.2.2 1; have z2 := B9.Q.2.2 2; have z3 := B9.Q.2.2 3; have z4 := B9.Q.2.2 4
     have gR := B4.Q.puts [.int .i64 r, .int .i64 n, .string dv, .slice none 0 0, .slice a4 ks.length c4] rfl
     have hKK := (Same2.refl (w.heap.size + 1) (w.heap.size + 1) ((u3.setCell ⟨w.heap.size, 2, none⟩ (.string dv)).setCell ⟨w.heap.size, 3, none⟩ (.slice none 0 0))).sets (b := w.heap.size + 1) (.inl rfl) (ze 0 [.int .i64 r, .int .i64 n, .string dv, .slice none 0 0, .slice a4 ks.length c4])
     have hLL := ((((Low.set (mm := mm) (rb := rb) (R := R) (lo := w.heap.size) (w := (u3.setCell ⟨w.heap.size, 2, none⟩ (.string dv)).setCell ⟨w.heap.size, 3, none⟩ (.slice none 0 0)) (b := w.heap.size + 1) (i := 0) (u := .int .i64 r) (by omega)).trans (Low.set (b := w.heap.size + 1) (i := 1) (u := .int .i64 n) (by omega))).trans (Low.set (b := w.heap.size + 1) (i := 2) (u := .string dv) (by omega))).trans (Low.set (b := w.heap.size + 1) (i := 3) (u := .slice none 0 0) (by omega))).trans (Low.set (b := w.heap.size + 1) (i := 4) (u := .slice a4 ks.length c4) (by omega))
     have hRR := ((((((hRn.set (b := w.heap.size) (i := 2) (u := .string dv) (by omega)).set (b := w.heap.size) (i := 3) (u := .slice none 0 0) (by omega)).set (i := 0) (u := .int .i64 r) (b := w.heap.size + 1) (by omega)).set (i := 1) (u := .int .i64 n) (b := w.heap.size + 1) (by omega)).set (i := 2) (u := .string dv) (b := w.heap.size + 1) (by omega)).set (i := 3) (u := .slice none 0 0) (b := w.heap.size + 1) (by omega)).set (i := 4) (u := .slice a4 ks.length c4) (b := w.heap.size + 1) (by omega)
     simp only [zA, ze] at gR hKK
     have hrd := B4.rd.same2 hKK (fun x hx => by have := (B4.ff x hx).2.2; exact ⟨this, this⟩)
     have hko9 : BendOwn dlo lo _ (.mk r n ⟨dv, []⟩ ks) _ (.slice a4 ks.length c4) := ⟨_, _, B4.own.same2 hKK (fun x hx => by have := (B4.fk x hx).2.2; exact ⟨this, this⟩) (fun b hb => by have := (B4.fo b hb).2; exact ⟨this, this⟩), fun x hx => (B4.fk x hx).1, B4.rt.same2 hKK (fun x hx => by have := (B4.ft x hx).2.2; exact ⟨this, this⟩), fun x hx => (B4.ft x hx).1, B4.fd⟩
     have hlow := B4.low.trans hLL
     have hff := fun x hx => (B4.ff x hx).1
     clear hKK hLL
     go_wp2_with fail
     have e0 := gR.2.1 0 _ rfl; have e1 := gR.2.1 1 _ rfl; have e2 := gR.2.1 2 _ rfl; have e3 := gR.2.1 3 _ rfl; have e4 := gR.2.1 4 _ rfl
     refine bodyPost_ret (v := .agg #[.int .i64 r, .int .i64 n, .string dv, .slice none 0 0, .slice a4 ks.length c4]) (by simp [results, Tryz.results24, go_sem, e0, e1, e2, e3, e4]) rfl ?_
     exact ⟨⟨r, n, ⟨dv, []⟩, ks, none, 0, a4, c4, _, hfit2, rfl, hrd, hff, hko9, hlow, fun b hb => .inr ⟨hRow.out.trans hb, hmm⟩⟩, hRR.mono (by omega)⟩
    ·have t3 : ((q : Int) == 2) = false := by simpa using (by omega : ¬ ((q : Int) = 2))
     by_cases q3 : q = 3
     ·have t4 : ((q : Int) == 3) = true := by subst q3; rfl
      have p4 := B2.P.2.1 4 _ rfl; have z4 := B2.P.2.2 4
      have hPl := B2.P.1
      have hba := zb u2 (.cells #[.int .i64 1, .int .i64 0, .string ⟨#[97]⟩, .slice none 0 0, .slice none 0 0] 32)
      have hcn := zn u2 [.int .i64 1, .int .i64 0, .string ⟨#[97]⟩, .slice none 0 0, .slice none 0 0] 32
      have B8 := B2.below hba hlo
      have hR8 := hRd.below hba
      have hz8 : u2.heap.size ≤ (u2.alloc (.cells #[.int .i64 1, .int .i64 0, .string ⟨#[97]⟩, .slice none 0 0, .slice none 0 0] 32)).heap.size := hba.size
      have hks := hfit.1.2.1
      have hlow := B2.low.size
      go_wp2_with (at_builtin; refine zdt zbm rfl _ _ rfl lo _ _ _ rfl B8.own ⟨u2.heap.size, 0, none⟩ 1 1 [(Wy.mk 1 0 ⟨⟨#[97]⟩, []⟩ []).cd] [.int .i64 1, .int .i64 0, .string ⟨#[97]⟩, .slice none 0 0, .slice none 0 0] [] rfl rfl ?rd ?k ?cells ?na ?bytes ?len ?base ?next)
      case rd => exact by simpa using zbG (w := u2.alloc (.cells #[.int .i64 1, .int .i64 0, .string ⟨#[97]⟩, .slice none 0 0, .slice none 0 0] 32)) ⟨by decide, by decide⟩ ⟨by decide, by decide⟩ (by decide)
      case k => simp [Wy.cd_len]
      case cells => exact hcn
      case na => simp
      case bytes => rw [zew]; simp only [Wy.kids] at hks ⊢; omega
      case len => rw [zew]; simp only [Wy.kids] at hks ⊢; omega
      case base => omega
      case next =>
       intro vC wC hownC hgC hvC hsC hkC
       have hko1 : ∀ b, (Value.slice a4 ks.length c4).ownBlock = some b → lo ≤ b := fun b hb => (B8.own.block hb).1
       have hkp : ∀ b, (Value.slice a4 ks.length c4).ownBlock = some b → b ≠ w.heap.size ∧ b ≠ w.heap.size + 1 := B8.fo
       have PC := B8.P.grown9 hgC (fun b hb => (hkp b hb).1)
       have QC := B8.Q.grown9 hgC (fun b hb => (hkp b hb).2)
       have LC := B8.low.trans (Low.grown (rb := rb) hgC (by have := B8.low.size; omega) hRow.out.symm (fun g hg j hj => hkC g hg j (by simp only [Wy.kids, zew]; omega)))
       have RC := hR8.grown hgC (fun b hb => by have := hko1 b hb; omega)
       have hfC : ∀ b, vC.ownBlock = some b → b ≠ w.heap.size ∧ b ≠ w.heap.size + 1 := fun b hb => by
        rcases hvC b hb with h | h
        ·exact hkp b h
        ·have := B8.Q.1; simp at h this; omega
       rw [show ((Wy.mk r n t ks).kids.map Wy.cd) ++ [(Wy.mk 1 0 ⟨⟨#[97]⟩, []⟩ []).cd] = (Wy.mk r n t (ks ++ [Wy.mk 1 0 ⟨⟨#[97]⟩, []⟩ []])).kids.map Wy.cd from by simp [Wy.kids]] at hownC
       have hsp := hownC.form
       rw [zew] at hsp
       obtain ⟨aC, cC, rfl, _, _⟩ := hsp
       have HVK : Hid (∀ b, (Value.slice aC (ks ++ [Wy.mk 1 0 ⟨⟨#[97]⟩, []⟩ []]).length cC).ownBlock = some b → w.heap.size ≤ b ∨ (R = some b ∧ mm ≤ (ks ++ [Wy.mk 1 0 ⟨⟨#[97]⟩, []⟩ []]).length * 5)) := Lib.hid (fun b hb => by
        rcases hvC b hb with h | h
        ·exact .inr ⟨hRow.out.trans h, Nat.le_trans hmm (Nat.mul_le_mul_right 5 (by rw [zet]; omega))⟩
        ·exact .inl (by have := B8.low.size; omega))
       obtain ⟨gC, hrC, hgC2⟩ := hownC.rd
       obtain ⟨m9, hm9⟩ : ∃ m, (Wy.mk r n t (ks ++ [Wy.mk 1 0 ⟨⟨#[97]⟩, []⟩ []])).kids.length = m := ⟨_, rfl⟩
       have hm8 : (ks ++ [Wy.mk 1 0 ⟨⟨#[97]⟩, []⟩ []]).length = m9 := hm9
       rw [hm9] at hownC hrC hfC hvC hgC2 ⊢
       have HM9 := Lib.hid hm8
       clear hm8 hm9
       have hnf : ∀ b ∈ f3, (Value.slice a4 ks.length c4).ownBlock ≠ some b := fun b hb e => B8.fd b e hb
       have rtC := B8.rt.same _ (fun b hb => hgC.block b (B8.rt.lt _ b hb) (fun e => hnf b hb e.symm))
       obtain ⟨_, _, _, _, _, _, _, _, ir, iN, isz, _, _⟩ := Wy.open B8.rd
       have hgCl : ∀ x ∈ gC, dlo ≤ x ∧ x ≠ w.heap.size ∧ x ≠ w.heap.size + 1 := fun x hx => by
        rcases hgC2 with ⟨_, _, rfl⟩ | ⟨z, c, hz, rfl, _, hz4, _⟩
        ·simp at hx
        ·rcases zev.1 hx with rfl | hx
         ·exact ⟨by omega, hfC x hz⟩
         ·exact B8.fk x (by simpa using hx)
       have hfdC : ∀ b, (Value.slice aC m9 cC).ownBlock = some b → b ∉ f3 := fun b hb => by
        rcases hvC b hb with h | h
        ·exact B8.fd b h
        ·intro hm; have h9 := B8.rt.lt _ b hm; rw [World.size_alloc] at h9; omega
       have hrdC : RdVs wC (Wy.mk r n t (ks ++ [Wy.mk 1 0 ⟨⟨#[97]⟩, []⟩ []])).cd [.int .i64 r, .int .i64 n, .string t.name, .slice a3 t.kids.length c3, .slice aC m9 cC] (f3 ++ gC) := by
        have h9 := hrC
        rw [← HM9.out] at h9
        have h8 := Wy.close (x := .mk r n t (ks ++ [Wy.mk 1 0 ⟨⟨#[97]⟩, []⟩ []])) ir iN isz rtC h9
        simp only [Wy.rule, Wy.n, Wy.t, Wy.kids, HM9.out] at h8
        exact h8
       have hB4P := PC.put (k := 4) (by simp) (.slice aC m9 cC)
       have hB4Q := QC.sets_other (b := w.heap.size) (.inr (by omega)) [(4, .slice aC m9 cC)]
       simp only [zek, zel, zA] at hB4P hB4Q
       have BC : Bd mm w rb R dlo lo (.mk r n t (ks ++ [Wy.mk 1 0 ⟨⟨#[97]⟩, []⟩ []])) [.int .i64 r, .int .i64 n, .string t.name, .slice a3 t.kids.length c3, .slice aC m9 cC] (.slice aC m9 cC) (.slice a3 t.kids.length c3) (f3 ++ gC) _ f3 (wC.setCell ⟨w.heap.size, 4, none⟩ (.slice aC m9 cC)) :=
        ⟨hB4P, hB4Q, hrdC.same _ (fun b hb => Below.heap_setCell _ _ _ _ (by rcases zer.1 hb with hb | hb; exact (B8.ft b hb).2.1; exact (hgCl b hb).2.1)), hownC.same (fun b hb => Below.heap_setCell _ _ _ _ (B8.fk b (by simpa using hb)).2.1) (fun b hb => Below.heap_setCell _ _ _ _ (hfC b hb).1), LC.trans (Low.set (Nat.le_refl _)), fun x hx => by rcases zer.1 hx with hx | hx; exact B8.ft x hx; exact hgCl x hx,
         fun x hx => B8.fk x (by simpa using hx), hfC, rtC.same _ (fun b hb => Below.heap_setCell _ _ _ _ (B8.ft b hb).2.1), B8.ft, hfdC⟩
       have hfit3 : (Wy.mk r n t (ks ++ [Wy.mk 1 0 ⟨⟨#[97]⟩, []⟩ []])).fit8 (M + 1) := ⟨⟨hfit.1.1, by simp only [Wy.kids] at hks ⊢; simp; omega, fun y hy => by
        simp only [Wy.kids] at hy
        rcases zer.1 hy with hy | hy
        ·exact hfit.1.2.2 y hy
        ·obtain rfl := List.mem_singleton.1 hy
         exact .mk _ _ _ _ (by rw [Tm.size_eq]; simp [Tm.kids, Tm.sizes]) (by simp) (by simp)⟩, by
    have h9 := hfit.2
    simp only [Wy.kids] at h9 ⊢
    rw [Wy.usesL_app]
    simp [Wy.usesL, Wy.uses_mk]
    exact h9⟩
       clear p4 z4
       have p0 := PC.2.1 0 _ rfl; have p1 := PC.2.1 1 _ rfl; have p2 := PC.2.1 2 _ rfl; have p3 := PC.2.1 3 _ rfl; have p4 := PC.2.1 4 _ rfl
       have i0 := PC.2.2 0; have i1 := PC.2.2 1; have i2 := PC.2.2 2; have i3 := PC.2.2 3; have i4 := PC.2.2 4
       have y0 := QC.2.1 0 _ rfl; have y1 := QC.2.1 1 _ rfl; have y2 := QC.2.1 2 _ rfl; have y3 := QC.2.1 3 _ rfl; have y4 := QC.2.1 4 _ rfl
       have z0 := QC.2.2 0; have z1 := QC.2.2 1; have z2 := QC.2.2 2; have z3 := QC.2.2 3; have z4 := QC.2.2 4
       have gR := BC.Q.puts [.int .i64 r, .int .i64 n, .string t.name, .slice a3 t.kids.length c3, .slice aC m9 cC] rfl
       have hKK := (Same2.refl (w.heap.size + 1) (w.heap.size + 1) (wC.setCell ⟨w.heap.size, 4, none⟩ (.slice aC m9 cC))).sets (b := w.heap.size + 1) (.inl rfl) (ze 0 [.int .i64 r, .int .i64 n, .string t.name, .slice a3 t.kids.length c3, .slice aC m9 cC])
       have hLL := ((((Low.set (mm := mm) (rb := rb) (R := R) (lo := w.heap.size) (w := wC.setCell ⟨w.heap.size, 4, none⟩ (.slice aC m9 cC)) (b := w.heap.size + 1) (i := 0) (u := .int .i64 r) (by omega)).trans (Low.set (b := w.heap.size + 1) (i := 1) (u := .int .i64 n) (by omega))).trans (Low.set (b := w.heap.size + 1) (i := 2) (u := .string t.name) (by omega))).trans (Low.set (b := w.heap.size + 1) (i := 3) (u := .slice a3 t.kids.length c3) (by omega))).trans (Low.set (b := w.heap.size + 1) (i := 4) (u := .slice aC m9 cC) (by omega))
       have hRR := (((((RC.set (b := w.heap.size) (i := 4) (u := .slice aC m9 cC) (by omega)).set (i := 0) (u := .int .i64 r) (b := w.heap.size + 1) (by omega)).set (i := 1) (u := .int .i64 n) (b := w.heap.size + 1) (by omega)).set (i := 2) (u := .string t.name) (b := w.heap.size + 1) (by omega)).set (i := 3) (u := .slice a3 t.kids.length c3) (b := w.heap.size + 1) (by omega)).set (i := 4) (u := .slice aC m9 cC) (b := w.heap.size + 1) (by omega)
       simp only [zA, ze] at gR hKK
       have hrd := BC.rd.same2 hKK (fun x hx => by have := (BC.ff x hx).2.2; exact ⟨this, this⟩)
       have hko9 : BendOwn dlo lo _ (.mk r n t (ks ++ [Wy.mk 1 0 ⟨⟨#[97]⟩, []⟩ []])) _ (.slice aC m9 cC) := ⟨_, _, BC.own.same2 hKK (fun x hx => by have := (BC.fk x hx).2.2; exact ⟨this, this⟩) (fun b hb => by have := (BC.fo b hb).2; exact ⟨this, this⟩), fun x hx => (BC.fk x hx).1, BC.rt.same2 hKK (fun x hx => by have := (BC.ft x hx).2.2; exact ⟨this, this⟩), fun x hx => (BC.ft x hx).1, BC.fd⟩
       have hlow := BC.low.trans hLL
       have hff := fun x hx => (BC.ff x hx).1
       clear hKK hLL
       go_wp2_with fail
       have e0 := gR.2.1 0 _ rfl; have e1 := gR.2.1 1 _ rfl; have e2 := gR.2.1 2 _ rfl; have e3 := gR.2.1 3 _ rfl; have e4 := gR.2.1 4 _ rfl
       refine bodyPost_ret (v := .agg #[.int .i64 r, .int .i64 n, .string t.name, .slice a3 t.kids.length c3, .slice aC m9 cC]) (by simp [results, Tryz.results24, go_sem, e0, e1, e2, e3, e4]) rfl ?_
       obtain rfl := HM9.out
       exact ⟨⟨r, n, t, ks ++ [Wy.mk 1 0 ⟨⟨#[97]⟩, []⟩ []], a3, c3, aC, cC, _, hfit3, rfl, hrd, hff, hko9, hlow, fun b hb => HVK.out b hb⟩, hRR.mono (by omega)⟩
     ·have t4 : ((q : Int) == 3) = false := by simpa using (by omega : ¬ ((q : Int) = 3))
      have p4 := B2.P.2.1 4 _ rfl
      rcases Nat.eq_zero_or_pos ks.length with hk0 | hk0
      ·obtain rfl : ks = [] := List.eq_nil_of_length_eq_zero hk0
       clear hk0 p4
       have p0 := B2.P.2.1 0 _ rfl; have p1 := B2.P.2.1 1 _ rfl; have p2 := B2.P.2.1 2 _ rfl; have p3 := B2.P.2.1 3 _ rfl; have p4 := B2.P.2.1 4 _ rfl
       have i0 := B2.P.2.2 0; have i1 := B2.P.2.2 1; have i2 := B2.P.2.2 2; have i3 := B2.P.2.2 3; have i4 := B2.P.2.2 4
       have y0 := B2.Q.2.1 0 _ rfl; have y1 := B2.Q.2.1 1 _ rfl; have y2 := B2.Q.2.1 2 _ rfl; have y3 := B2.Q.2.1 3 _ rfl; have y4 := B2.Q.2.1 4 _ rfl
       have z0 := B2.Q.2.2 0; have z1 := B2.Q.2.2 1; have z2 := B2.Q.2.2 2; have z3 := B2.Q.2.2 3; have z4 := B2.Q.2.2 4
       have gR := B2.Q.puts [.int .i64 r, .int .i64 n, .string t.name, .slice a3 t.kids.length c3, .slice a4 ([] : List Wy).length c4] rfl
       have hKK := (Same2.refl (w.heap.size + 1) (w.heap.size + 1) (u2)).sets (b := w.heap.size + 1) (.inl rfl) (ze 0 [.int .i64 r, .int .i64 n, .string t.name, .slice a3 t.kids.length c3, .slice a4 ([] : List Wy).length c4])
       have hLL := ((((Low.set (mm := mm) (rb := rb) (R := R) (lo := w.heap.size) (w := u2) (b := w.heap.size + 1) (i := 0) (u := .int .i64 r) (by omega)).trans (Low.set (b := w.heap.size + 1) (i := 1) (u := .int .i64 n) (by omega))).trans (Low.set (b := w.heap.size + 1) (i := 2) (u := .string t.name) (by omega))).trans (Low.set (b := w.heap.size + 1) (i := 3) (u := .slice a3 t.kids.length c3) (by omega))).trans (Low.set (b := w.heap.size + 1) (i := 4) (u := .slice a4 ([] : List Wy).length c4) (by omega))
       have hRR := (((((hRd).set (i := 0) (u := .int .i64 r) (b := w.heap.size + 1) (by omega)).set (i := 1) (u := .int .i64 n) (b := w.heap.size + 1) (by omega)).set (i := 2) (u := .string t.name) (b := w.heap.size + 1) (by omega)).set (i := 3) (u := .slice a3 t.kids.length c3) (b := w.heap.size + 1) (by omega)).set (i := 4) (u := .slice a4 ([] : List Wy).length c4) (b := w.heap.size + 1) (by omega)
       simp only [zA, ze] at gR hKK
       have hrd := B2.rd.same2 hKK (fun x hx => by have := (B2.ff x hx).2.2; exact ⟨this, this⟩)
       have hko9 : BendOwn dlo lo _ (.mk r n t []) _ (.slice a4 ([] : List Wy).length c4) := ⟨_, _, B2.own.same2 hKK (fun x hx => by have := (B2.fk x hx).2.2; exact ⟨this, this⟩) (fun b hb => by have := (B2.fo b hb).2; exact ⟨this, this⟩), fun x hx => (B2.fk x hx).1, B2.rt.same2 hKK (fun x hx => by have := (B2.ft x hx).2.2; exact ⟨this, this⟩), fun x hx => (B2.ft x hx).1, B2.fd⟩
       have hlow := B2.low.trans hLL
       have hff := fun x hx => (B2.ff x hx).1
       clear hKK hLL
       go_wp2_with fail
       have e0 := gR.2.1 0 _ rfl; have e1 := gR.2.1 1 _ rfl; have e2 := gR.2.1 2 _ rfl; have e3 := gR.2.1 3 _ rfl; have e4 := gR.2.1 4 _ rfl
       simp only [List.length_nil] at e0 e1 e2 e3 e4
       refine bodyPost_ret (v := .agg #[.int .i64 r, .int .i64 n, .string t.name, .slice a3 t.kids.length c3, .slice a4 ([] : List Wy).length c4]) (by simp [results, Tryz.results24, go_sem, e0, e1, e2, e3, e4]) rfl ?_
       exact ⟨⟨r, n, t, [], a3, c3, a4, c4, _, hfit', rfl, hrd, hff, hko9, hlow, fun b hb => .inr ⟨hRow.out.trans hb, hmm⟩⟩, hRR.mono (by omega)⟩
      ·have t5 : decide ((0 : Int) < (ks.length : Int)) = true := decide_eq_true (by omega)
       have B9 := B2
       obtain ⟨_, _, g3, _, _, g4, hve, hfe, ir, iN, isz, h3, h4⟩ := Wy.open B9.rd
       simp only [Wy.rule, Wy.n, Wy.t, Wy.kids, List.cons.injEq, Value.slice.injEq, and_true, true_and] at hve
       obtain ⟨⟨rfl, rfl⟩, rfl, rfl⟩ := hve
       obtain ⟨k0, kt, hk⟩ : ∃ k0 kt, ks = k0 :: kt := by cases ks with
        | nil => simp at hk0
        | cons k0 kt => exact ⟨k0, kt, rfl⟩
       obtain ⟨bk, off, rfl, hbk, _⟩ := zm h4 hk0
       have HK := Lib.hid hk
       have hkc : ks.length ≤ c4 := by obtain ⟨_, _, h8, h9, _⟩ := zd h4; simp only [Value.slice.injEq] at h8; obtain ⟨_, _, h8⟩ := h8; simp only [Wy.kids] at h9; omega
       by_cases hc1 : c4 = 1
       ·subst hc1
        have hkt0 : kt = [] := by
         rw [hk] at hkc
         simp only [List.length_cons] at hkc
         exact List.eq_nil_of_length_eq_zero (by omega)
        have hkl1 : ks.length - 1 = 0 := by rw [hk, hkt0]; rfl
        have h5 : Rd u2 (.sl (kt.map Wy.cd)) (.slice (some ⟨bk, off, none⟩) 0 0) [] := by rw [hkt0]; simp only [List.map_nil, Rd]; exact ⟨_, _, rfl, by simp, by simp [maxLen], .inl (by simp)⟩
        have h5g : ∀ x ∈ ([] : List Nat), x ∈ g4 := by simp
        clear hk hkt0
        have hPl := B2.P.1
        have hba := zb u2 (.cells #[] 32)
        have hlow := B2.low.size
        have hks := hfit.1.2.1
        have hktl : kt.length + 1 ≤ M := by rw [HK.out] at hks; simpa [Wy.kids] using hks
        have hg4 : ∀ x ∈ g4, dlo ≤ x ∧ x ≠ w.heap.size ∧ x ≠ w.heap.size + 1 := fun x hx => B2.ff x (by rw [hfe]; exact List.mem_append_right _ hx)
        have h5l := h5.lt
        go_wp2_with (at_builtin; refine zq zbm rfl _ _ rfl u2.heap.size _ [] [] rfl (Own.empty u2 u2.heap.size _ _ (Nat.le_refl _)) (kt.map Wy.cd) _ [] rfl (by exact h5.below hba) ?k ?na ?bytes ?len ?base ?next)
        case k => simp only [List.mem_map]; rintro e ⟨y, _, rfl⟩; exact Wy.cd_len y
        case na => simp
        case bytes => rw [zew]; simp only [List.length_nil]; omega
        case len => rw [zew]; simp only [List.length_nil]; omega
        case base => simp
        case next =>
         intro v5 w5 f5 hf5 hown5 hg5 hv5 hs5
         have hb5 : Below u2.heap.size u2 w5 := zf hba hg5 (by simp) (fun z hz => by have h2 : u2.heap.size = z := Option.some.inj hz; omega)
         try simp only [List.nil_append] at hown5
         have B5 := B2.below hb5 hlo
         have hR5 := hRd.below hb5
         have hPz := B2.Q.1
         obtain ⟨aC, cC, rfl, _, _⟩ := hown5.form
         rw [zew] at hown5 ⊢
         have hf5l : ∀ x ∈ f5, dlo ≤ x ∧ x ≠ w.heap.size ∧ x ≠ w.heap.size + 1 := fun x hx => hg4 x (by first | exact h5g x (hf5 x hx) | exact absurd (hf5 x hx) (by simp))
         have hfC : ∀ b, (Value.slice aC kt.length cC).ownBlock = some b → b ≠ w.heap.size ∧ b ≠ w.heap.size + 1 := fun b hb => by have := (hown5.block hb).1; omega
         obtain ⟨gC, hrC, hgC2⟩ := hown5.rd
         have hgCl : ∀ x ∈ gC, dlo ≤ x ∧ x ≠ w.heap.size ∧ x ≠ w.heap.size + 1 := fun x hx => by
          rcases hgC2 with ⟨_, _, rfl⟩ | ⟨z, c, hz, rfl, _, hz4, _⟩
          ·simp at hx
          ·rcases zev.1 hx with rfl | hx
           ·omega
           ·exact hf5l x (by simpa using hx)
         have hfdC : ∀ b, (Value.slice aC kt.length cC).ownBlock = some b → b ∉ f3 := fun b hb hm => by
          have h9 := B2.rt.lt _ b hm; have := (hown5.block hb).1; omega
         have hrdC : RdVs w5 (Wy.mk r n t kt).cd [.int .i64 r, .int .i64 n, .string t.name, .slice a3 t.kids.length c3, .slice aC kt.length cC] (f3 ++ gC) :=
          Wy.close (x := .mk r n t kt) ir iN isz B5.rt hrC
         have hB4P := B5.P.put (k := 4) (by simp) (.slice aC kt.length cC)
         have hB4Q := B5.Q.sets_other (b := w.heap.size) (.inr (by omega)) [(4, .slice aC kt.length cC)]
         simp only [zek, zel, zA] at hB4P hB4Q
         have BC : Bd mm w rb R dlo lo (.mk r n t kt) [.int .i64 r, .int .i64 n, .string t.name, .slice a3 t.kids.length c3, .slice aC kt.length cC] (.slice aC kt.length cC) (.slice a3 t.kids.length c3) (f3 ++ gC) _ f3 (w5.setCell ⟨w.heap.size, 4, none⟩ (.slice aC kt.length cC)) :=
          ⟨hB4P, hB4Q, hrdC.same _ (fun b hb => Below.heap_setCell _ _ _ _ (by rcases zer.1 hb with hb | hb; exact (B2.ft b hb).2.1; exact (hgCl b hb).2.1)), (hown5.base (fun b hb => by have := (hown5.block hb).1; omega)).same (fun b hb => Below.heap_setCell _ _ _ _ (hf5l b (by simpa using hb)).2.1) (fun b hb => Below.heap_setCell _ _ _ _ (hfC b hb).1), B5.low.trans (Low.set (Nat.le_refl _)), fun x hx => by rcases zer.1 hx with hx | hx; exact B2.ft x hx; exact hgCl x hx,
           fun x hx => hf5l x (by simpa using hx), hfC, B5.rt.same _ (fun b hb => Below.heap_setCell _ _ _ _ (B2.ft b hb).2.1), B2.ft, hfdC⟩
         have hfit4 : (Wy.mk r n t kt).fit8 (M + 1) := ⟨⟨hfit.1.1, by simp only [Wy.kids]; omega, fun y hy => hfit.1.2.2 y (by simp only [Wy.kids] at hy ⊢; rw [HK.out]; exact List.mem_cons_of_mem _ hy)⟩, by
    have h9 := hfit.2
    simp only [Wy.kids] at h9 ⊢
    rw [HK.out] at h9
    simp only [Wy.usesL, zet] at h9
    omega⟩
         clear p4 hg5 hs5 hv5
         have p0 := B5.P.2.1 0 _ rfl; have p1 := B5.P.2.1 1 _ rfl; have p2 := B5.P.2.1 2 _ rfl; have p3 := B5.P.2.1 3 _ rfl; have p4 := B5.P.2.1 4 _ rfl
         have i0 := B5.P.2.2 0; have i1 := B5.P.2.2 1; have i2 := B5.P.2.2 2; have i3 := B5.P.2.2 3; have i4 := B5.P.2.2 4
         have y0 := B5.Q.2.1 0 _ rfl; have y1 := B5.Q.2.1 1 _ rfl; have y2 := B5.Q.2.1 2 _ rfl; have y3 := B5.Q.2.1 3 _ rfl; have y4 := B5.Q.2.1 4 _ rfl
         have z0 := B5.Q.2.2 0; have z1 := B5.Q.2.2 1; have z2 := B5.Q.2.2 2; have z3 := B5.Q.2.2 3; have z4 := B5.Q.2.2 4
         have gR := BC.Q.puts [.int .i64 r, .int .i64 n, .string t.name, .slice a3 t.kids.length c3, .slice aC kt.length cC] rfl
         have hKK := (Same2.refl (w.heap.size + 1) (w.heap.size + 1) (w5.setCell ⟨w.heap.size, 4, none⟩ (.slice aC kt.length cC))).sets (b := w.heap.size + 1) (.inl rfl) (ze 0 [.int .i64 r, .int .i64 n, .string t.name, .slice a3 t.kids.length c3, .slice aC kt.length cC])
         have hLL := ((((Low.set (mm := mm) (rb := rb) (R := R) (lo := w.heap.size) (w := w5.setCell ⟨w.heap.size, 4, none⟩ (.slice aC kt.length cC)) (b := w.heap.size + 1) (i := 0) (u := .int .i64 r) (by omega)).trans (Low.set (b := w.heap.size + 1) (i := 1) (u := .int .i64 n) (by omega))).trans (Low.set (b := w.heap.size + 1) (i := 2) (u := .string t.name) (by omega))).trans (Low.set (b := w.heap.size + 1) (i := 3) (u := .slice a3 t.kids.length c3) (by omega))).trans (Low.set (b := w.heap.size + 1) (i := 4) (u := .slice aC kt.length cC) (by omega))
         have hRR := (((((hR5.set (b := w.heap.size) (i := 4) (u := .slice aC kt.length cC) (by omega)).set (i := 0) (u := .int .i64 r) (b := w.heap.size + 1) (by omega)).set (i := 1) (u := .int .i64 n) (b := w.heap.size + 1) (by omega)).set (i := 2) (u := .string t.name) (b := w.heap.size + 1) (by omega)).set (i := 3) (u := .slice a3 t.kids.length c3) (b := w.heap.size + 1) (by omega)).set (i := 4) (u := .slice aC kt.length cC) (b := w.heap.size + 1) (by omega)
         simp only [zA, ze] at gR hKK
         have hrd := BC.rd.same2 hKK (fun x hx => by have := (BC.ff x hx).2.2; exact ⟨this, this⟩)
         have hko9 : BendOwn dlo lo _ (.mk r n t kt) _ (.slice aC kt.length cC) := ⟨_, _, BC.own.same2 hKK (fun x hx => by have := (BC.fk x hx).2.2; exact ⟨this, this⟩) (fun b hb => by have := (BC.fo b hb).2; exact ⟨this, this⟩), fun x hx => (BC.fk x hx).1, BC.rt.same2 hKK (fun x hx => by have := (BC.ft x hx).2.2; exact ⟨this, this⟩), fun x hx => (BC.ft x hx).1, BC.fd⟩
         have hlow := BC.low.trans hLL
         have hff := fun x hx => (BC.ff x hx).1
         clear hKK hLL
         go_wp2_with fail
         have e0 := gR.2.1 0 _ rfl; have e1 := gR.2.1 1 _ rfl; have e2 := gR.2.1 2 _ rfl; have e3 := gR.2.1 3 _ rfl; have e4 := gR.2.1 4 _ rfl
         refine bodyPost_ret (v := .agg #[.int .i64 r, .int .i64 n, .string t.name, .slice a3 t.kids.length c3, .slice aC kt.length cC]) (by simp [results, Tryz.results24, go_sem, e0, e1, e2, e3, e4]) rfl ?_
         exact ⟨⟨r, n, t, kt, a3, c3, aC, cC, _, hfit4, rfl, hrd, hff, hko9, hlow, fun b hb => .inl (by have h1 := (hown5.block hb).1; have h2 := B2.low.size; omega)⟩, hRR.mono (by omega)⟩
       ·have h5 : ∃ g, Rd u2 (.sl (kt.map Wy.cd)) (.slice (some ⟨bk, off + 5, none⟩) (ks.length - 1) (c4 - 1)) g ∧ ∀ x ∈ g, x ∈ g4 := by
         rw [hk] at h4 ⊢
         exact wys_tail h4
        clear hk
        obtain ⟨g5, h5, h5g⟩ := h5
        have hPl := B2.P.1
        have hba := zb u2 (.cells #[] 32)
        have hlow := B2.low.size
        have hks := hfit.1.2.1
        have hktl : kt.length + 1 ≤ M := by rw [HK.out] at hks; simpa [Wy.kids] using hks
        have hg4 : ∀ x ∈ g4, dlo ≤ x ∧ x ≠ w.heap.size ∧ x ≠ w.heap.size + 1 := fun x hx => B2.ff x (by rw [hfe]; exact List.mem_append_right _ hx)
        have h5l := h5.lt
        go_wp2_with (at_builtin; refine zq zbm rfl _ _ rfl u2.heap.size _ [] [] rfl (Own.empty u2 u2.heap.size _ _ (Nat.le_refl _)) (kt.map Wy.cd) _ g5 rfl (by exact h5.below hba) ?k ?na ?bytes ?len ?base ?next)
        case k => simp only [List.mem_map]; rintro e ⟨y, _, rfl⟩; exact Wy.cd_len y
        case na => intro x hx h; have h1 := h5l x hx; have h2 : u2.heap.size = x := Option.some.inj h; omega
        case bytes => rw [zew]; simp only [List.length_nil]; omega
        case len => rw [zew]; simp only [List.length_nil]; omega
        case base => simp
        case next =>
         intro v5 w5 f5 hf5 hown5 hg5 hv5 hs5
         have hb5 : Below u2.heap.size u2 w5 := zf hba hg5 (by simp) (fun z hz => by have h2 : u2.heap.size = z := Option.some.inj hz; omega)
         try simp only [List.nil_append] at hown5
         have B5 := B2.below hb5 hlo
         have hR5 := hRd.below hb5
         have hPz := B2.Q.1
         obtain ⟨aC, cC, rfl, _, _⟩ := hown5.form
         rw [zew] at hown5 ⊢
         have hf5l : ∀ x ∈ f5, dlo ≤ x ∧ x ≠ w.heap.size ∧ x ≠ w.heap.size + 1 := fun x hx => hg4 x (by first | exact h5g x (hf5 x hx) | exact absurd (hf5 x hx) (by simp))
         have hfC : ∀ b, (Value.slice aC kt.length cC).ownBlock = some b → b ≠ w.heap.size ∧ b ≠ w.heap.size + 1 := fun b hb => by have := (hown5.block hb).1; omega
         obtain ⟨gC, hrC, hgC2⟩ := hown5.rd
         have hgCl : ∀ x ∈ gC, dlo ≤ x ∧ x ≠ w.heap.size ∧ x ≠ w.heap.size + 1 := fun x hx => by
          rcases hgC2 with ⟨_, _, rfl⟩ | ⟨z, c, hz, rfl, _, hz4, _⟩
          ·simp at hx
          ·rcases zev.1 hx with rfl | hx
           ·omega
           ·exact hf5l x (by simpa using hx)
         have hfdC : ∀ b, (Value.slice aC kt.length cC).ownBlock = some b → b ∉ f3 := fun b hb hm => by
          have h9 := B2.rt.lt _ b hm; have := (hown5.block hb).1; omega
         have hrdC : RdVs w5 (Wy.mk r n t kt).cd [.int .i64 r, .int .i64 n, .string t.name, .slice a3 t.kids.length c3, .slice aC kt.length cC] (f3 ++ gC) :=
          Wy.close (x := .mk r n t kt) ir iN isz B5.rt hrC
         have hB4P := B5.P.put (k := 4) (by simp) (.slice aC kt.length cC)
         have hB4Q := B5.Q.sets_other (b := w.heap.size) (.inr (by omega)) [(4, .slice aC kt.length cC)]
         simp only [zek, zel, zA] at hB4P hB4Q
         have BC : Bd mm w rb R dlo lo (.mk r n t kt) [.int .i64 r, .int .i64 n, .string t.name, .slice a3 t.kids.length c3, .slice aC kt.length cC] (.slice aC kt.length cC) (.slice a3 t.kids.length c3) (f3 ++ gC) _ f3 (w5.setCell ⟨w.heap.size, 4, none⟩ (.slice aC kt.length cC)) :=
          ⟨hB4P, hB4Q, hrdC.same _ (fun b hb => Below.heap_setCell _ _ _ _ (by rcases zer.1 hb with hb | hb; exact (B2.ft b hb).2.1; exact (hgCl b hb).2.1)), (hown5.base (fun b hb => by have := (hown5.block hb).1; omega)).same (fun b hb => Below.heap_setCell _ _ _ _ (hf5l b (by simpa using hb)).2.1) (fun b hb => Below.heap_setCell _ _ _ _ (hfC b hb).1), B5.low.trans (Low.set (Nat.le_refl _)), fun x hx => by rcases zer.1 hx with hx | hx; exact B2.ft x hx; exact hgCl x hx,
           fun x hx => hf5l x (by simpa using hx), hfC, B5.rt.same _ (fun b hb => Below.heap_setCell _ _ _ _ (B2.ft b hb).2.1), B2.ft, hfdC⟩
         have hfit4 : (Wy.mk r n t kt).fit8 (M + 1) := ⟨⟨hfit.1.1, by simp only [Wy.kids]; omega, fun y hy => hfit.1.2.2 y (by simp only [Wy.kids] at hy ⊢; rw [HK.out]; exact List.mem_cons_of_mem _ hy)⟩, by
    have h9 := hfit.2
    simp only [Wy.kids] at h9 ⊢
    rw [HK.out] at h9
    simp only [Wy.usesL, zet] at h9
    omega⟩
         clear p4 hg5 hs5 hv5
         have p0 := B5.P.2.1 0 _ rfl; have p1 := B5.P.2.1 1 _ rfl; have p2 := B5.P.2.1 2 _ rfl; have p3 := B5.P.2.1 3 _ rfl; have p4 := B5.P.2.1 4 _ rfl
         have i0 := B5.P.2.2 0; have i1 := B5.P.2.2 1; have i2 := B5.P.2.2 2; have i3 := B5.P.2.2 3; have i4 := B5.P.2.2 4
         have y0 := B5.Q.2.1 0 _ rfl; have y1 := B5.Q.2.1 1 _ rfl; have y2 := B5.Q.2.1 2 _ rfl; have y3 := B5.Q.2.1 3 _ rfl; have y4 := B5.Q.2.1 4 _ rfl
         have z0 := B5.Q.2.2 0; have z1 := B5.Q.2.2 1; have z2 := B5.Q.2.2 2; have z3 := B5.Q.2.2 3; have z4 := B5.Q.2.2 4
         have gR := BC.Q.puts [.int .i64 r, .int .i64 n, .string t.name, .slice a3 t.kids.length c3, .slice aC kt.length cC] rfl
         have hKK := (Same2.refl (w.heap.size + 1) (w.heap.size + 1) (w5.setCell ⟨w.heap.size, 4, none⟩ (.slice aC kt.length cC))).sets (b := w.heap.size + 1) (.inl rfl) (ze 0 [.int .i64 r, .int .i64 n, .string t.name, .slice a3 t.kids.length c3, .slice aC kt.length cC])
         have hLL := ((((Low.set (mm := mm) (rb := rb) (R := R) (lo := w.heap.size) (w := w5.setCell ⟨w.heap.size, 4, none⟩ (.slice aC kt.length cC)) (b := w.heap.size + 1) (i := 0) (u := .int .i64 r) (by omega)).trans (Low.set (b := w.heap.size + 1) (i := 1) (u := .int .i64 n) (by omega))).trans (Low.set (b := w.heap.size + 1) (i := 2) (u := .string t.name) (by omega))).trans (Low.set (b := w.heap.size + 1) (i := 3) (u := .slice a3 t.kids.length c3) (by omega))).trans (Low.set (b := w.heap.size + 1) (i := 4) (u := .slice aC kt.length cC) (by omega))
         have hRR := (((((hR5.set (b := w.heap.size) (i := 4) (u := .slice aC kt.length cC) (by omega)).set (i := 0) (u := .int .i64 r) (b := w.heap.size + 1) (by omega)).set (i := 1) (u := .int .i64 n) (b := w.heap.size + 1) (by omega)).set (i := 2) (u := .string t.name) (b := w.heap.size + 1) (by omega)).set (i := 3) (u := .slice a3 t.kids.length c3) (b := w.heap.size + 1) (by omega)).set (i := 4) (u := .slice aC kt.length cC) (b := w.heap.size + 1) (by omega)
         simp only [zA, ze] at gR hKK
         have hrd := BC.rd.same2 hKK (fun x hx => by have := (BC.ff x hx).2.2; exact ⟨this, this⟩)
         have hko9 : BendOwn dlo lo _ (.mk r n t kt) _ (.slice aC kt.length cC) := ⟨_, _, BC.own.same2 hKK (fun x hx => by have := (BC.fk x hx).2.2; exact ⟨this, this⟩) (fun b hb => by have := (BC.fo b hb).2; exact ⟨this, this⟩), fun x hx => (BC.fk x hx).1, BC.rt.same2 hKK (fun x hx => by have := (BC.ft x hx).2.2; exact ⟨this, this⟩), fun x hx => (BC.ft x hx).1, BC.fd⟩
         have hlow := BC.low.trans hLL
         have hff := fun x hx => (BC.ff x hx).1
         clear hKK hLL
         go_wp2_with fail
         have e0 := gR.2.1 0 _ rfl; have e1 := gR.2.1 1 _ rfl; have e2 := gR.2.1 2 _ rfl; have e3 := gR.2.1 3 _ rfl; have e4 := gR.2.1 4 _ rfl
         refine bodyPost_ret (v := .agg #[.int .i64 r, .int .i64 n, .string t.name, .slice a3 t.kids.length c3, .slice aC kt.length cC]) (by simp [results, Tryz.results24, go_sem, e0, e1, e2, e3, e4]) rfl ?_
         exact ⟨⟨r, n, t, kt, a3, c3, aC, cC, _, hfit4, rfl, hrd, hff, hko9, hlow, fun b hb => .inl (by have h1 := (hown5.block hb).1; have h2 := B2.low.size; omega)⟩, hRR.mono (by omega)⟩
 ·have t0 : decide ((0 : Int) < (d : Int)) = true := decide_eq_true (by omega)
  have B9 := B1
  have p0 := B9.P.2.1 0 _ rfl; have p1 := B9.P.2.1 1 _ rfl; have p2 := B9.P.2.1 2 _ rfl; have p3 := B9.P.2.1 3 _ rfl; have p4 := B9.P.2.1 4 _ rfl
  have i0 := B9.P.2.2 0; have i1 := B9.P.2.2 1; have i2 := B9.P.2.2 2; have i3 := B9.P.2.2 3; have i4 := B9.P.2.2 4
  have y0 := B9.Q.2.1 0 _ rfl; have y1 := B9.Q.2.1 1 _ rfl; have y2 := B9.Q.2.1 2 _ rfl; have y3 := B9.Q.2.1 3 _ rfl; have y4 := B9.Q.2.1 4 _ rfl
  have z0 := B9.Q.2.2 0; have z1 := B9.Q.2.2 1; have z2 := B9.Q.2.2 2; have z3 := B9.Q.2.2 3; have z4 := B9.Q.2.2 4
  have gR := B9.Q.puts [.int .i64 r, .int .i64 n, .string t.name, .slice a3 t.kids.length c3, .slice a4 ks.length c4] rfl
  have hKK := (Same2.refl (w.heap.size + 1) (w.heap.size + 1) (u1)).sets (b := w.heap.size + 1) (.inl rfl) (ze 0 [.int .i64 r, .int .i64 n, .string t.name, .slice a3 t.kids.length c3, .slice a4 ks.length c4])
  have hLL := ((((Low.set (mm := mm) (rb := rb) (R := R) (lo := w.heap.size) (w := u1) (b := w.heap.size + 1) (i := 0) (u := .int .i64 r) (by omega)).trans (Low.set (b := w.heap.size + 1) (i := 1) (u := .int .i64 n) (by omega))).trans (Low.set (b := w.heap.size + 1) (i := 2) (u := .string t.name) (by omega))).trans (Low.set (b := w.heap.size + 1) (i := 3) (u := .slice a3 t.kids.length c3) (by omega))).trans (Low.set (b := w.heap.size + 1) (i := 4) (u := .slice a4 ks.length c4) (by omega))
  have hRR := (((((hR1).set (i := 0) (u := .int .i64 r) (b := w.heap.size + 1) (by omega)).set (i := 1) (u := .int .i64 n) (b := w.heap.size + 1) (by omega)).set (i := 2) (u := .string t.name) (b := w.heap.size + 1) (by omega)).set (i := 3) (u := .slice a3 t.kids.length c3) (b := w.heap.size + 1) (by omega)).set (i := 4) (u := .slice a4 ks.length c4) (b := w.heap.size + 1) (by omega)
  simp only [zA, ze] at gR hKK
  have hrd := B9.rd.same2 hKK (fun x hx => by have := (B9.ff x hx).2.2; exact ⟨this, this⟩)
  have hko9 : BendOwn dlo lo _ (.mk r n t ks) _ (.slice a4 ks.length c4) := ⟨_, _, B9.own.same2 hKK (fun x hx => by have := (B9.fk x hx).2.2; exact ⟨this, this⟩) (fun b hb => by have := (B9.fo b hb).2; exact ⟨this, this⟩), fun x hx => (B9.fk x hx).1, B9.rt.same2 hKK (fun x hx => by have := (B9.ft x hx).2.2; exact ⟨this, this⟩), fun x hx => (B9.ft x hx).1, B9.fd⟩
  have hlow := B9.low.trans hLL
  have hff := fun x hx => (B9.ff x hx).1
  clear hKK hLL
  go_wp2_with fail
  have e0 := gR.2.1 0 _ rfl; have e1 := gR.2.1 1 _ rfl; have e2 := gR.2.1 2 _ rfl; have e3 := gR.2.1 3 _ rfl; have e4 := gR.2.1 4 _ rfl
  refine bodyPost_ret (v := .agg #[.int .i64 r, .int .i64 n, .string t.name, .slice a3 t.kids.length c3, .slice a4 ks.length c4]) (by simp [results, Tryz.results24, go_sem, e0, e1, e2, e3, e4]) rfl ?_
  exact ⟨⟨r, n, t, ks, a3, c3, a4, c4, _, hfit', rfl, hrd, hff, hko9, hlow, fun b hb => .inr ⟨hRow.out.trans hb, hmm⟩⟩, hRR.mono (by omega)⟩
end Go.Proofs.YtlefdhhnlbpbkaaGreat
end
