/- Parts of the proof: CopyL. -/
import Derived.Test.YtoehhbkhdddeeaaDoorPl27
import Derived.Test.YtoehhbkhdddeeaaDoorPl18
import Derived.Test.YtoehhbkhdddeeaaDoorPl34
section
namespace Go.Proofs.YtoehhbkhdddeeaaDoor
open Go Go.RowKit
set_option linter.unusedVariables false
set_option linter.unusedSimpArgs false
set_option maxRecDepth 100000
set_option maxHeartbeats 16000000
theorem step_app0 {P : Program} {t e : TypeId} {z : Value} {k bytes : Nat} (hT : SlTy P t e z k bytes) {w : World} {ops : Array Oper} {o : Oper} {a : Act} {K : Act → World → Prop} {Q : Exit → Act → World → Prop} {E : Prop} (hgd : o.guard = none) (s x : Operand)
  (ho : o.op = .call { callee := .builtin .append, args := #[s, x], argTypes := #[t, t] }) (base ao : Option Addr) (n c c' : Nat) (hle : n ≤ c) (hs : a.eval s = .slice base n c) (hx : a.eval x = .slice ao 0 c')
  (h : K (a.put o.dst (.slice base n c)) w) : if Region.wanted o (yielded ops a.tmps) = true then Oper.wp P o a w K Q else E := by
 have hw : Region.wanted o (yielded ops a.tmps) = true := by simp [Region.wanted, hgd]
 rw [if_pos hw]
 obtain ⟨i, hi, hz, hsz, hb⟩ := info_parts hT.info
 have hsrc : Src P i.size t (.slice ao 0 c') 0 [] w := by
  cases ao with
  | none => exact Src.ofNil _ hT.und c'
  | some ad => exact Src.ofSlice _ hT.und ad 0 c' [] (by simp) (fun j u h => by simp at h) (by simp)
 have hr := run_append_nothing (P := P) w t t o.type e i hT.und hi base n c hle _ hsrc
 unfold Oper.wp execOp
 simp only [ho, resolve, invoke, builtin, Sem.run_bind, Sem.run_pure, Result.andThen_ok, List.map_toArray, List.map_cons, List.map_nil, hs, hx, hr]
 exact h
theorem zp {P : Program} {t e : TypeId} {z : Value} {k bytes : Nat} (hT : SlTy P t e z k bytes) {w : World} {ops : Array Oper} {o : Oper} {a : Act} {K : Act → World → Prop} {Q : Exit → Act → World → Prop} {E : Prop} (hgd : o.guard = none) (s x : Operand)
  (ho : o.op = .call { callee := .builtin .append, args := #[s, x], argTypes := #[t, t] })
  (base : Nat) (v : Value) (es : List (List CD)) (fp : List Nat) (hs : a.eval s = v) (hown : Own w base e k v es fp)
  (news : List (List CD)) (nv : Value) (nf : List Nat) (hx : a.eval x = nv) (hrd : Rd w (.sl news) nv nf) (hnk : ∀ x ∈ news, x.length = k) (hna : ∀ b ∈ nf, v.ownBlock ≠ some b)
  (hbytes : (es.length + news.length) * bytes ≤ 140737488355328) (hlen : es.length + news.length ≤ 140737488355328) (hbase : base ≤ w.heap.size)
  (h : ∀ v' w' nfp, (∀ b ∈ nfp, b ∈ nf) → Own w' base e k v' (es ++ news) (fp ++ nfp) → w.grownBy w' v.ownBlock → (∀ b, v'.ownBlock = some b → v.ownBlock = some b ∨ w.heap.size ≤ b) → K (a.put o.dst v') w') : if Region.wanted o (yielded ops a.tmps) = true then Oper.wp P o a w K Q else E := by
 obtain ⟨xa, xc, rfl, _, _⟩ := hrd.sl_form
 rcases Nat.eq_zero_or_pos news.length with hz | hne
 ·obtain rfl := List.eq_nil_of_length_eq_zero hz
  obtain ⟨va, vc, rfl, hv1, _⟩ := hown.form
  refine step_app0 hT hgd s x ho va xa es.length vc xc hv1 hs hx ?_
  exact h _ w [] (by simp) (by simpa using hown) (zY _ _) (fun b hb => .inl hb)
 ·obtain ⟨b, off, f, rfl, hb, rfl, hr⟩ := hrd.addr hne
  obtain ⟨vs, hc, hvs⟩ := hr.flat
  exact zad hT hgd s x ho base v es fp hs hown ⟨b, off, none⟩ news.length xc news vs f hx rfl hvs hnk (fun j u hj => by simpa [Addr.add_lit] using hc j u hj) (fun y hy => hna y (by simp [hy])) hbytes hlen hbase
   (fun v' w' h1 h2 h3 h4 => h v' w' f (fun y hy => by simp [hy]) h1 h2 h3)
section
variable {P : Program} {ops : Array Oper} {Q : Exit → Act → World → Prop} {F : World → Prop} {s0 : Nat}
/-- What is to be shown of number i, if it comes up. -/
def Step (P : Program) (ops : Array Oper) (Q : Exit → Act → World → Prop) (F : World → Prop) (s0 n : Nat) (up : Array Bool) (a : Act) (w : World) (i : Nat) (o : Oper) : Prop :=
 ∀ K' : Act → World → Prop, Hid (∀ b u, ((up.setIfInBounds i true).getD s0 true = false → F u) → Till P ops Q F s0 n (up.setIfInBounds i true) b u → K' b u) → if Region.wanted o (yielded ops a.tmps) = true then Oper.wp P o a w K' Q else K' (a.put o.dst undef) w
theorem Step.op {i : Nat} {o : Oper} {n : Nat} {up : Array Bool} {a : Act} {w : World} (ho : ops[i]? = some o) (h : Step P ops Q F s0 n up a w i o) :
  wpOp P ops Q i (fun b u => ((up.setIfInBounds i true).getD s0 true = false → F u) ∧ Till P ops Q F s0 n (up.setIfInBounds i true) b u) a w :=
 wpOp_step ho fun K' hK => h K' (Lib.hid fun b u h1 h2 => hK b u ⟨h1, h2⟩)
theorem Till.two {i j : Nat} {oi oj : Oper} {n : Nat} {up : Array Bool} {a : Act} {w : World} (hr : Region.ready .any ops up = [i, j]) (hi : ops[i]? = some oi) (hj : ops[j]? = some oj)
  (si : Step P ops Q F s0 n up a w i oi) (sj : Step P ops Q F s0 n up a w j oj) : Till P ops Q F s0 (n + 1) up a w := by
 refine ⟨fun h0 => (by rw [hr] at h0; cases h0), fun m hm => ?_⟩
 rw [hr] at hm
 simp only [zci, List.not_mem_nil, or_false] at hm
 rcases hm with rfl | rfl
 ·exact si.op hi
 ·exact sj.op hj
theorem Till.three {i j k : Nat} {oi oj ok : Oper} {n : Nat} {up : Array Bool} {a : Act} {w : World} (hr : Region.ready .any ops up = [i, j, k]) (hi : ops[i]? = some oi) (hj : ops[j]? = some oj) (hk : ops[k]? = some ok)
  (si : Step P ops Q F s0 n up a w i oi) (sj : Step P ops Q F s0 n up a w j oj) (sk : Step P ops Q F s0 n up a w k ok) : Till P ops Q F s0 (n + 1) up a w := by
 refine ⟨fun h0 => (by rw [hr] at h0; cases h0), fun m hm => ?_⟩
 rw [hr] at hm
 simp only [zci, List.not_mem_nil, or_false] at hm
 rcases hm with rfl | rfl | rfl
 ·exact si.op hi
 ·exact sj.op hj
 ·exact sk.op hk
end
/-- At the region's end a fact T stands; what follows is shown from T alone. -/
theorem zbK {P : Program} {id : Nat} {ops : Array Oper} {d : Bool} {Q : Exit → Act → World → Prop} {a : Act} {w : World} (T : Act → World → Prop) (hT : ∀ b u, T b u → Q .normal b u)
  (h : (Code.region id ops d).wp P (fun e b u => match e with | .normal => T b u | e => Q e b u) a w) : (Code.region id ops d).wp P Q a w :=
 Code.wp_mono (fun e b u k => by cases e <;> first | exact hT b u k | exact k) h
theorem asz2 (w : World) (o : Obj) : (w.alloc o).heap.size = w.heap.size + 1 := by simp
theorem Fresh.join {lo : Nat} {w : World} {f g : List Nat} (h : Fresh lo w f) (h' : Fresh lo w g) (hd : ∀ b ∈ f, b ∉ g) : Fresh lo w (f ++ g) := by
 refine ⟨List.nodup_append.2 ⟨h.1, h'.1, fun a ha b hb e => hd a ha (e ▸ hb)⟩, fun b hb => ?_⟩
 rcases zce.1 hb with h1 | h1
 ·exact h.2 b h1
 ·exact h'.2 b h1
theorem Fresh.perm4 {lo : Nat} {w : World} {a b c d : List Nat} (h : Fresh lo w (((a ++ b) ++ c) ++ d)) : Fresh lo w (a ++ (b ++ (d ++ c))) := by
 have hp : (((a ++ b) ++ c) ++ d).Perm (a ++ (b ++ (d ++ c))) := by
  rw [List.append_assoc, List.append_assoc]
  exact List.Perm.append_left _ (List.Perm.append_left _ List.perm_append_comm)
 exact ⟨hp.nodup_iff.1 h.1, fun x hx => h.2 x (hp.mem_iff.2 hx)⟩
end Go.Proofs.YtoehhbkhdddeeaaDoor
end
