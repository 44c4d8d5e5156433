/- Parts of the proof: Own. -/
import Derived.Deep.Upon
import Derived.Lib.BufferMore
import Derived.Test.YtoehhbkhdddeeaaDoorPx13
namespace Go.Proofs.YtoehhbkhdddeeaaDoor
open Go Go.RowKit
set_option linter.unusedVariables false
set_option linter.unusedSimpArgs false
set_option maxHeartbeats 1600000
/-- append of nothing, in the walk. -/
theorem zbC {P : Program} {t e : TypeId} {z : Value} {k bytes : Nat} (hT : SlTy P t e z k bytes) {w : World} {ops : Array Oper} {rest : List Oper} {o : Oper} {a : Act} {Q : Exit → Act → World → Prop} (hgd : o.guard = none) (s x : Operand)
  (ho : o.op = .call { callee := .builtin .append, args := #[s, x], argTypes := #[t, t] }) (base ao : Option Addr) (n c c' : Nat) (hle : n ≤ c) (hs : a.eval s = .slice base n c) (hx : a.eval x = .slice ao 0 c')
  (h : wpList P ops Q rest (a.put o.dst (.slice base n c)) w) : wpList P ops Q (o :: rest) a w := by
 obtain ⟨i, hi, hz, hsz, hb⟩ := info_parts hT.info
 have hsrc : Src P i.size t (.slice ao 0 c') 0 [] w := by
  cases ao with
  | none => exact Src.ofNil _ hT.und c'
  | some ad => exact Src.ofSlice _ hT.und ad 0 c' [] (by simp) (fun j u h => by simp at h) (by simp)
 have hr := run_append_nothing (P := P) w t t o.type e i hT.und hi base n c hle _ hsrc
 refine wpList_plain hgd fun K hK => ?_
 unfold Oper.wp execOp
 simp only [ho, resolve, invoke, builtin, Sem.run_bind, Sem.run_pure, Result.andThen_ok, List.map_toArray, List.map_cons, List.map_nil, hs, hx, hr]
 exact hK _ _ h
/-- append of a whole row, read, to a row of the call's own. -/
theorem zba {P : Program} {t e : TypeId} {z : Value} {k bytes : Nat} (hT : SlTy P t e z k bytes) {w : World} {ops : Array Oper} {rest : List Oper} {o : Oper} {a : Act} {Q : Exit → Act → World → Prop} (hgd : o.guard = none) (s x : Operand)
  (ho : o.op = .call { callee := .builtin .append, args := #[s, x], argTypes := #[t, t] })
  (base : Nat) (v : Value) (es : List (List CD)) (fp : List Nat) (hs : a.eval s = v) (hown : Own w base e k v es fp)
  (news : List (List CD)) (nv : Value) (nf : List Nat) (hx : a.eval x = nv) (hrd : Rd w (.sl news) nv nf) (hnk : ∀ x ∈ news, x.length = k) (hna : ∀ b ∈ nf, v.ownBlock ≠ some b)
  (hbytes : (es.length + news.length) * bytes ≤ 140737488355328) (hlen : es.length + news.length ≤ 140737488355328) (hbase : base ≤ w.heap.size)
  (h : ∀ v' w' nfp, (∀ b ∈ nfp, b ∈ nf) → Own w' base e k v' (es ++ news) (fp ++ nfp) → w.grownBy w' v.ownBlock → (∀ b, v'.ownBlock = some b → v.ownBlock = some b ∨ w.heap.size ≤ b) → SameOn (fp ++ nfp) w w' → wpList P ops Q rest (a.put o.dst v') w') : wpList P ops Q (o :: rest) a w := by
 obtain ⟨xa, xc, rfl, _, _⟩ := hrd.sl_form
 rcases Nat.eq_zero_or_pos news.length with hz | hne
 ·obtain rfl := List.eq_nil_of_length_eq_zero hz
  obtain ⟨va, vc, rfl, hv1, _⟩ := hown.form
  refine zbC hT hgd s x ho va xa es.length vc xc hv1 hs hx ?_
  exact h _ w [] (by simp) (by simpa using hown) (zZ _ _) (fun b hb => .inl hb) (SameOn.refl _ _)
 ·obtain ⟨b, off, f, rfl, hb, rfl, hr⟩ := hrd.addr hne
  obtain ⟨vs, hc, hvs⟩ := hr.flat
  exact zM hT hgd s x ho base v es fp hs hown ⟨b, off, none⟩ news.length xc news vs f hx rfl hvs hnk (fun j u hj => by simpa [Addr.add_lit] using hc j u hj) (fun y hy => hna y (by simp [hy])) hbytes hlen hbase
   (fun v' w' h1 h2 h3 h4 => h v' w' f (fun y hy => by simp [hy]) h1 h2 h3 h4)
theorem zbq : ∀ (xs : List Int), NoFp (xs.map zn).flatten
 | [] => fun w vs f h => by simp only [List.map_nil, List.flatten_nil, RdVs] at h; exact h.2
 | x :: xs => NoFp.append zak (zbq xs)
set_option maxRecDepth 100000 in
theorem zbD (xs : List Int) (v : Value) (fp0 : List Nat) (w : World) (hbig : xs.length ≤ 1048576) (hv : Rd w (.sl (xs.map zn)) v fp0) :
  Calls Tryd.prog 62 #[v] w (zb1 (.sl (xs.map zn)) w) := by
 obtain ⟨a, cap, rfl, hc1, hc2⟩ := ze hv
 cases a with
 | none =>
  have hx0 : xs = [] := by
   rcases Nat.eq_zero_or_pos xs.length with h | h
   ·exact List.eq_nil_of_length_eq_zero h
   ·obtain ⟨_, _, h2, _⟩ := zk hv h; simp at h2
  subst hx0
  have hnil : ∀ (W : World) (n c : Nat), (binOp .eql 26 (.slice none n c) (.slice none 0 0)).run Tryd.prog W = .ok (.bool true) W := fun W n c => Lib.run_eql_slice_nil_nil W n c Tryd.underlying26
  go_enter Tryd.func62, Tryd.ntmps62
  go_wp2_with fail
  go_ret
  exact ⟨_, [], rfl, by simp only [List.map_nil, Rd]; exact ⟨none, 0, rfl, by simp, by simp [maxLen], by simp⟩, Fresh.nil _ _, Below.refl _ _⟩
 | some ad =>
  have hnil : ∀ (W : World) (n c : Nat), (binOp .eql 26 (.slice (some ad) n c) (.slice none 0 0)).run Tryd.prog W = .ok (.bool false) W := fun W n c => Lib.run_eql_slice_some_nil W ad n c Tryd.underlying26
  go_enter Tryd.func62, Tryd.ntmps62
  go_wp2_with (at_builtin; refine zba zbN rfl _ _ rfl w.heap.size _ [] [] rfl (Own.empty w w.heap.size _ _ (Nat.le_refl _)) (xs.map zn) (.slice (some ad) xs.length cap) fp0 rfl (by exact hv.below (za _ _)) ?k ?na ?bytes ?len ?base ?next)
  case k => simp only [List.mem_map]; rintro e ⟨t, _, rfl⟩; exact zbh t
  case na => intro b hb h; have h1 := hv.lt _ b hb; have h2 : w.heap.size = b := Option.some.inj h; omega
  case bytes => simp; omega
  case len => simp; omega
  case base => simp
  case next =>
   intro v' w4 nfp hnf hown4 hg hv' hs4
   have hb4 := zD ((Below.refl w.heap.size w).alloc (Nat.le_refl _) _) hg (by simp) (fun q hq => by have h2 : w.heap.size = q := Option.some.inj hq; omega)
   try simp only [List.nil_append] at hown4
   obtain rfl : nfp = [] := by obtain ⟨ys, _, h, _⟩ := hown4; exact zbq xs _ _ _ h
   clear hg hs4
   go_wp2_with fail
   go_ret
   obtain ⟨fp', h1, h2, _⟩ := hown4.fresh (Fresh.nil _ _)
   exact ⟨_, fp', rfl, h1, h2, hb4⟩
end Go.Proofs.YtoehhbkhdddeeaaDoor
