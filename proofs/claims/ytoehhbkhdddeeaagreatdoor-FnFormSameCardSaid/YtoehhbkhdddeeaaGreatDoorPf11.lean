/- Parts of the proof: Own PutA. -/
import Derived.Deep.Upon
import Derived.Lib.BufferMore
import Derived.Test.YtoehhbkhdddeeaaGreatDoorPf8
import Derived.Deep.RegionHeld3
import Derived.Deep.CutRange
import Derived.BigQuiet
import Derived.Test.YtoehhbkhdddeeaaGreatDoorPf10
namespace Go.Proofs.YtoehhbkhdddeeaaGreatDoor
open Go Go.RowKit
set_option linter.unusedVariables false
set_option linter.unusedSimpArgs false
set_option maxHeartbeats 1600000
/-- append of nothing, in the walk. -/
theorem zcG {P : Program} {t e : TypeId} {z : Value} {k bytes : Nat} (hT : SlTy P t e z k bytes) {w : World} {ops : Array Oper} {rest : List Oper} {o : Oper} {a : Act} {Q : Exit → Act → World → Prop} (hgd : o.guard = none) (s x : Operand)
  (ho : o.op = .call { callee := .builtin .append, args := #[s, x], argTypes := #[t, t] }) (base ao : Option Addr) (n c c' : Nat) (hle : n ≤ c) (hs : a.eval s = .slice base n c) (hx : a.eval x = .slice ao 0 c')
  (h : wpList P ops Q rest (a.put o.dst (.slice base n c)) w) : wpList P ops Q (o :: rest) a w := by
 obtain ⟨i, hi, hz, hsz, hb⟩ := info_parts hT.info
 have hsrc : Src P i.size t (.slice ao 0 c') 0 [] w := by
  cases ao with
  | none => exact Src.ofNil _ hT.und c'
  | some ad => exact Src.ofSlice _ hT.und ad 0 c' [] (by simp) (fun j u h => by simp at h) (by simp)
 have hr := run_append_nothing (P := P) w t t o.type e i hT.und hi base n c hle _ hsrc
 refine wpList_plain hgd fun K hK => ?_
 unfold Oper.wp execOp
 simp only [ho, resolve, invoke, builtin, Sem.run_bind, Sem.run_pure, Result.andThen_ok, List.map_toArray, List.map_cons, List.map_nil, hs, hx, hr]
 exact hK _ _ h
/-- append of a whole row, read, to a row of the call's own. -/
theorem zau {P : Program} {t e : TypeId} {z : Value} {k bytes : Nat} (hT : SlTy P t e z k bytes) {w : World} {ops : Array Oper} {rest : List Oper} {o : Oper} {a : Act} {Q : Exit → Act → World → Prop} (hgd : o.guard = none) (s x : Operand)
  (ho : o.op = .call { callee := .builtin .append, args := #[s, x], argTypes := #[t, t] })
  (base : Nat) (v : Value) (es : List (List CD)) (fp : List Nat) (hs : a.eval s = v) (hown : Own w base e k v es fp)
  (news : List (List CD)) (nv : Value) (nf : List Nat) (hx : a.eval x = nv) (hrd : Rd w (.sl news) nv nf) (hnk : ∀ x ∈ news, x.length = k) (hna : ∀ b ∈ nf, v.ownBlock ≠ some b)
  (hbytes : (es.length + news.length) * bytes ≤ 140737488355328) (hlen : es.length + news.length ≤ 140737488355328) (hbase : base ≤ w.heap.size)
  (h : ∀ v' w' nfp, (∀ b ∈ nfp, b ∈ nf) → Own w' base e k v' (es ++ news) (fp ++ nfp) → w.grownBy w' v.ownBlock → (∀ b, v'.ownBlock = some b → v.ownBlock = some b ∨ w.heap.size ≤ b) → SameOn (fp ++ nfp) w w' → wpList P ops Q rest (a.put o.dst v') w') : wpList P ops Q (o :: rest) a w := by
 obtain ⟨xa, xc, rfl, _, _⟩ := hrd.sl_form
 rcases Nat.eq_zero_or_pos news.length with hz | hne
 ·obtain rfl := List.eq_nil_of_length_eq_zero hz
  obtain ⟨va, vc, rfl, hv1, _⟩ := hown.form
  refine zcG hT hgd s x ho va xa es.length vc xc hv1 hs hx ?_
  exact h _ w [] (by simp) (by simpa using hown) (zam _ _) (fun b hb => .inl hb) (SameOn.refl _ _)
 ·obtain ⟨b, off, f, rfl, hb, rfl, hr⟩ := hrd.addr hne
  obtain ⟨vs, hc, hvs⟩ := hr.flat
  exact zq hT hgd s x ho base v es fp hs hown ⟨b, off, none⟩ news.length xc news vs f hx rfl hvs hnk (fun j u hj => by simpa [Addr.add_lit] using hc j u hj) (fun y hy => hna y (by simp [hy])) hbytes hlen hbase
   (fun v' w' h1 h2 h3 h4 => h v' w' f (fun y hy => by simp [hy]) h1 h2 h3 h4)
theorem zbs : ∀ (xs : List Int), NoFp (xs.map zm).flatten
 | [] => fun w vs f h => by simp only [List.map_nil, List.flatten_nil, RdVs] at h; exact h.2
 | x :: xs => NoFp.append nofp_int (zbs xs)
set_option maxRecDepth 100000 in
theorem zcH (xs : List Int) (v : Value) (fp0 : List Nat) (w : World) (hbig : xs.length ≤ 1048576) (hv : Rd w (.sl (xs.map zm)) v fp0) :
  Calls Tryz.prog 59 #[v] w (ToOut (.sl (xs.map zm)) w) := by
 obtain ⟨a, cap, rfl, hc1, hc2⟩ := ze hv
 cases a with
 | none =>
  have hx0 : xs = [] := by
   rcases Nat.eq_zero_or_pos xs.length with h | h
   ·exact List.eq_nil_of_length_eq_zero h
   ·obtain ⟨_, _, h2, _⟩ := zl hv h; simp at h2
  subst hx0
  have hnil : ∀ (W : World) (n c : Nat), (binOp .eql 26 (.slice none n c) (.slice none 0 0)).run Tryz.prog W = .ok (.bool true) W := fun W n c => Lib.run_eql_slice_nil_nil W n c Tryz.underlying26
  go_enter Tryz.func59, Tryz.ntmps59
  go_wp2_with fail
  go_ret
  exact ⟨_, [], rfl, by simp only [List.map_nil, Rd]; exact ⟨none, 0, rfl, by simp, by simp [maxLen], by simp⟩, Fresh.nil _ _, Below.refl _ _⟩
 | some ad =>
  have hnil : ∀ (W : World) (n c : Nat), (binOp .eql 26 (.slice (some ad) n c) (.slice none 0 0)).run Tryz.prog W = .ok (.bool false) W := fun W n c => Lib.run_eql_slice_some_nil W ad n c Tryz.underlying26
  go_enter Tryz.func59, Tryz.ntmps59
  go_wp2_with (at_builtin; refine zau zaF rfl _ _ rfl w.heap.size _ [] [] rfl (Own.empty w w.heap.size _ _ (Nat.le_refl _)) (xs.map zm) (.slice (some ad) xs.length cap) fp0 rfl (by exact hv.below (za _ _)) ?k ?na ?bytes ?len ?base ?next)
  case k => simp only [List.mem_map]; rintro e ⟨t, _, rfl⟩; exact zap t
  case na => intro b hb h; have h1 := hv.lt _ b hb; have h2 : w.heap.size = b := Option.some.inj h; omega
  case bytes => simp; omega
  case len => simp; omega
  case base => simp
  case next =>
   intro v' w4 nfp hnf hown4 hg hv' hs4
   have hb4 := zk ((Below.refl w.heap.size w).alloc (Nat.le_refl _) _) hg (by simp) (fun q hq => by have h2 : w.heap.size = q := Option.some.inj hq; omega)
   try simp only [List.nil_append] at hown4
   obtain rfl : nfp = [] := by obtain ⟨ys, _, h, _⟩ := hown4; exact zbs xs _ _ _ h
   clear hg hs4
   go_wp2_with fail
   go_ret
   obtain ⟨fp', h1, h2, _⟩ := hown4.fresh (Fresh.nil _ _)
   exact ⟨_, fp', rfl, h1, h2, hb4⟩
end Go.Proofs.YtoehhbkhdddeeaaGreatDoor
section
namespace Go.Proofs.YtoehhbkhdddeeaaGreatDoor
open Go Go.RowKit
set_option linter.unusedVariables false
set_option linter.unusedSimpArgs false
set_option maxRecDepth 100000
set_option maxHeartbeats 16000000
theorem zdp {w wr : World} {cs ds es : List Value} {T U V : TypeId} (hb : Below (w.heap.size + 1 + 1 + 1) (((w.alloc (.cells cs.toArray T)).alloc (.cells ds.toArray U)).alloc (.cells es.toArray V)) wr) :
  (∀ j x, cs[j]? = some x → wr.cell? ⟨w.heap.size, j, none⟩ = some x) ∧ (∀ j x, ds[j]? = some x → wr.cell? ⟨w.heap.size + 1, j, none⟩ = some x) ∧ (∀ j x, es[j]? = some x → wr.cell? ⟨w.heap.size + 1 + 1, j, none⟩ = some x) ∧
  (∀ j, wr.frozen? ⟨w.heap.size + 1 + 1, j, none⟩ = false) ∧ w.heap.size + 1 + 1 + 1 ≤ wr.heap.size ∧ Below w.heap.size w wr := by
 have hs : (((w.alloc (.cells cs.toArray T)).alloc (.cells ds.toArray U)).alloc (.cells es.toArray V)).heap.size = w.heap.size + 1 + 1 + 1 := by simp
 have hb' : Below (((w.alloc (.cells cs.toArray T)).alloc (.cells ds.toArray U)).alloc (.cells es.toArray V)).heap.size (((w.alloc (.cells cs.toArray T)).alloc (.cells ds.toArray U)).alloc (.cells es.toArray V)) wr := by rw [hs]; exact hb
 have h2 := zj (w.alloc (.cells cs.toArray T)) ds U
 have h3 := zj ((w.alloc (.cells cs.toArray T)).alloc (.cells ds.toArray U)) es V
 have h4 := zan ((w.alloc (.cells cs.toArray T)).alloc (.cells ds.toArray U)) es.toArray V
 rw [World.size_alloc] at h2
 rw [World.size_alloc, World.size_alloc] at h3 h4
 refine ⟨fun j x hx => zb (zJ (zJ (zj w cs T j x hx))) hb', fun j x hx => zb (zJ (h2 j x hx)) hb', fun j x hx => zb (h3 j x hx) hb', fun j => (zh (hb'.block _ (by rw [hs]; omega))).trans (h4 j), by have := hb'.size; omega, ?_⟩
 exact ((((Below.refl _ _).alloc (Nat.le_refl _) _).alloc (by simp) _).alloc (by simp; omega) _).trans (hb.mono (by omega))
/-- In the midst of l6Put: the new sum in its box, its rows the call's own. -/
structure PutSt (w W3 U : World) (kind bound : Int) (strict : Bool) (ns : List Tm) (ts : List Int) (vn vt : Value) (fn : List Nat) : Prop where
 bel : Below (w.heap.size + 1 + 1 + 1) W3 U
 c0 : U.cell? ⟨w.heap.size + 1 + 1 + 1, 0, none⟩ = some (.int .i64 kind)
 c1 : U.cell? ⟨w.heap.size + 1 + 1 + 1, 1, none⟩ = some (.string ⟨#[]⟩)
 c2 : U.cell? ⟨w.heap.size + 1 + 1 + 1, 2, none⟩ = some (.slice none 0 0)
 c3 : U.cell? ⟨w.heap.size + 1 + 1 + 1, 3, none⟩ = some (.string ⟨#[]⟩)
 c4 : U.cell? ⟨w.heap.size + 1 + 1 + 1, 4, none⟩ = some (.slice none 0 0)
 c5 : U.cell? ⟨w.heap.size + 1 + 1 + 1, 5, none⟩ = some vn
 c6 : U.cell? ⟨w.heap.size + 1 + 1 + 1, 6, none⟩ = some vt
 c7 : U.cell? ⟨w.heap.size + 1 + 1 + 1, 7, none⟩ = some (.int .i64 bound)
 c8 : U.cell? ⟨w.heap.size + 1 + 1 + 1, 8, none⟩ = some (.bool strict)
 z5 : U.frozen? ⟨w.heap.size + 1 + 1 + 1, 5, none⟩ = false
 z6 : U.frozen? ⟨w.heap.size + 1 + 1 + 1, 6, none⟩ = false
 own1 : Own U (w.heap.size + 1 + 1 + 1 + 1) 25 2 vn (ns.map Tm.cd) fn
 own2 : Own U (w.heap.size + 1 + 1 + 1 + 1) 3 1 vt (ts.map zm) []
 dj : ∀ g, vn.ownBlock = some g → vt.ownBlock ≠ some g
 fl : ∀ b ∈ fn, b < w.heap.size
 sz : w.heap.size + 1 + 1 + 1 + 1 ≤ U.heap.size
theorem PutSt.below {w W3 U U' : World} {kind bound : Int} {strict : Bool} {ns : List Tm} {ts : List Int} {vn vt : Value} {fn : List Nat} (h : PutSt w W3 U kind bound strict ns ts vn vt fn) (hb : Below U.heap.size U U') : PutSt w W3 U' kind bound strict ns ts vn vt fn := by
 have hz := h.sz
 have hs := hb.size
 exact ⟨h.bel.trans (hb.mono (by omega)), zb h.c0 hb, zb h.c1 hb, zb h.c2 hb, zb h.c3 hb, zb h.c4 hb, zb h.c5 hb, zb h.c6 hb, zb h.c7 hb, zb h.c8 hb, (zh (hb.block _ (by omega))).trans h.z5, (zh (hb.block _ (by omega))).trans h.z6, h.own1.below hb, h.own2.below hb, h.dj, h.fl, by omega⟩
/-- Behind an append to the terms. -/
theorem PutSt.nums {w W3 U w' : World} {kind bound : Int} {strict : Bool} {ns ns' : List Tm} {ts : List Int} {vn vt v' : Value} {fn fn' : List Nat} (h : PutSt w W3 U kind bound strict ns ts vn vt fn) (hg : U.grownBy w' vn.ownBlock) (ho : Own w' (w.heap.size + 1 + 1 + 1 + 1) 25 2 v' (ns'.map Tm.cd) fn')
  (hv : ∀ b, v'.ownBlock = some b → vn.ownBlock = some b ∨ U.heap.size ≤ b) (hf : ∀ b ∈ fn', b < w.heap.size) : PutSt w W3 (w'.setCell ⟨w.heap.size + 1 + 1 + 1, 5, none⟩ v') kind bound strict ns' ts v' vt fn' := by
 have hz := h.sz
 have hs := hg.size
 have hr : ∀ q, vn.ownBlock = some q → w.heap.size + 1 + 1 + 1 + 1 ≤ q := fun q hq => (h.own1.block hq).1
 have hr2 : ∀ q, vt.ownBlock = some q → w.heap.size + 1 + 1 + 1 + 1 ≤ q ∧ q < U.heap.size := fun q hq => h.own2.block hq
 have hne : vn.ownBlock ≠ some (w.heap.size + 1 + 1 + 1) := fun e => by have := hr _ e; omega
 have k : ∀ {j : Nat} {u : Value}, j ≠ 5 → U.cell? ⟨w.heap.size + 1 + 1 + 1, j, none⟩ = some u → (w'.setCell ⟨w.heap.size + 1 + 1 + 1, 5, none⟩ v').cell? ⟨w.heap.size + 1 + 1 + 1, j, none⟩ = some u := fun hj hc => (World.cell?_setCell_other _ _ _ _ (by intro e; simp only [Addr.mk.injEq] at e; omega)).trans (zg hg hc hne)
 have hb : Below (w.heap.size + 1 + 1 + 1) W3 w' := h.bel.grown hg (by omega) (fun q hq => by have := hr q hq; omega)
 refine ⟨hb.setCell (by simp) _, k (by omega) h.c0, k (by omega) h.c1, k (by omega) h.c2, k (by omega) h.c3, k (by omega) h.c4, World.cell?_setCell_same _ _ _ (zg hg h.c5 hne), k (by omega) h.c6, k (by omega) h.c7, k (by omega) h.c8, by simp [go_sem, zt hg (by omega) h.z5 hne], by simp [go_sem, zt hg (by omega) h.z6 hne], ?_, ?_, fun g hg1 => ?_, hf, by simp [World.setCell]; omega⟩
 ·exact ho.set_ne (fun hm => by have := hf _ hm; omega) (fun e => by have := (ho.block e).1; omega)
 ·refine (h.own2.same (w' := w') (fun b hb => by simp at hb) (fun b hb => hg.block b (hr2 b hb).2 (fun e => h.dj b e.symm hb))).set_ne (by simp) (fun e => by have := (hr2 _ e).1; omega)
 ·rcases hv g hg1 with h1 | h1
  ·exact h.dj g h1
  ·intro e; have := (hr2 _ e).2; omega
/-- Behind an append to the times. -/
theorem PutSt.times {w W3 U w' : World} {kind bound : Int} {strict : Bool} {ns : List Tm} {ts ts' : List Int} {vn vt v' : Value} {fn : List Nat} (h : PutSt w W3 U kind bound strict ns ts vn vt fn) (hg : U.grownBy w' vt.ownBlock) (ho : Own w' (w.heap.size + 1 + 1 + 1 + 1) 3 1 v' (ts'.map zm) [])
  (hv : ∀ b, v'.ownBlock = some b → vt.ownBlock = some b ∨ U.heap.size ≤ b) : PutSt w W3 (w'.setCell ⟨w.heap.size + 1 + 1 + 1, 6, none⟩ v') kind bound strict ns ts' vn v' fn := by
 have hz := h.sz
 have hs := hg.size
 have hr : ∀ q, vt.ownBlock = some q → w.heap.size + 1 + 1 + 1 + 1 ≤ q := fun q hq => (h.own2.block hq).1
 have hr1 : ∀ q, vn.ownBlock = some q → w.heap.size + 1 + 1 + 1 + 1 ≤ q ∧ q < U.heap.size := fun q hq => h.own1.block hq
 have hne : vt.ownBlock ≠ some (w.heap.size + 1 + 1 + 1) := fun e => by have := hr _ e; omega
 have k : ∀ {j : Nat} {u : Value}, j ≠ 6 → U.cell? ⟨w.heap.size + 1 + 1 + 1, j, none⟩ = some u → (w'.setCell ⟨w.heap.size + 1 + 1 + 1, 6, none⟩ v').cell? ⟨w.heap.size + 1 + 1 + 1, j, none⟩ = some u := fun hj hc => (World.cell?_setCell_other _ _ _ _ (by intro e; simp only [Addr.mk.injEq] at e; omega)).trans (zg hg hc hne)
 have hb : Below (w.heap.size + 1 + 1 + 1) W3 w' := h.bel.grown hg (by omega) (fun q hq => by have := hr q hq; omega)
 refine ⟨hb.setCell (by simp) _, k (by omega) h.c0, k (by omega) h.c1, k (by omega) h.c2, k (by omega) h.c3, k (by omega) h.c4, k (by omega) h.c5, World.cell?_setCell_same _ _ _ (zg hg h.c6 hne), k (by omega) h.c7, k (by omega) h.c8, by simp [go_sem, zt hg (by omega) h.z5 hne], by simp [go_sem, zt hg (by omega) h.z6 hne], ?_, ?_, fun g hg1 e => ?_, h.fl, by simp [World.setCell]; omega⟩
 ·refine (h.own1.same (w' := w') (fun b hb => hg.block b (by have := h.fl b hb; omega) (fun e => by have := hr _ e.symm; have := h.fl b hb; omega)) (fun b hb => hg.block b (hr1 b hb).2 (fun e => h.dj b hb e.symm))).set_ne (fun hm => by have := h.fl _ hm; omega) (fun e => by have := (hr1 _ e).1; omega)
 ·exact ho.set_ne (by simp) (fun e => by have := (ho.block e).1; omega)
 ·rcases hv g e with h1 | h1
  ·exact h.dj g hg1 h1
  ·have := (hr1 _ hg1).2; omega
end Go.Proofs.YtoehhbkhdddeeaaGreatDoor
end
