/- Parts of the proof: Lvs. -/
import Derived.Test.YticlgpkjdmcnaaaPa35
section
namespace Go.Proofs.Yticlgpkjdmcnaaa
open Go Go.RowKit
set_option linter.unusedVariables false
set_option linter.unusedSimpArgs false
set_option maxRecDepth 100000
set_option maxHeartbeats 16000000
structure Lv where
 v : Value
 fs : List Fm
 g : List Nat
def Lv.off (t u : Lv) : Prop := ∀ b, t.v.ownBlock = some b → u.v.ownBlock ≠ some b
/-- A level's row is the call's own; no other row leads to its block. -/
structure Lvs (w : World) (lo : Nat) (lv : Value) (L : List Lv) : Prop where
 row : w.ownsRow lo 32 1 lv L.length (L.map Lv.v)
 own : ∀ t ∈ L, Own w lo 52 12 t.v (t.fs.map Fm.cd) t.g
 two : L.Pairwise Lv.off
 far : ∀ t ∈ L, ∀ u ∈ L, ∀ b, t.v.ownBlock = some b → b ∉ u.g
 nr : ∀ t ∈ L, (∀ b, t.v.ownBlock = some b → lv.ownBlock ≠ some b) ∧ ∀ b ∈ t.g, lv.ownBlock ≠ some b
theorem Lvs.nil (w : World) (lo : Nat) : Lvs w lo (.slice none 0 0) [] := ⟨World.ownsRow_nil w lo _ _, by simp, List.Pairwise.nil, by simp, by simp⟩
theorem Lvs.empty (w : World) (lo : Nat) (h : lo ≤ w.heap.size) : Lvs (w.alloc (.cells #[] 32)) lo (.slice (some ⟨w.heap.size, 0, none⟩) 0 0) [] :=
 ⟨World.ownsRow_made w #[] 0 h (by simp [maxLen]) (by simp), by simp, List.Pairwise.nil, by simp, by simp⟩
theorem Lvs.same {w w' : World} {lo : Nat} {lv : Value} {L : List Lv} (h : Lvs w lo lv L) (h0 : ∀ b, lv.ownBlock = some b → w'.heap[b]? = w.heap[b]?) (h1 : ∀ t ∈ L, (∀ b, t.v.ownBlock = some b → w'.heap[b]? = w.heap[b]?) ∧ SameOn t.g w w') : Lvs w' lo lv L := by
 refine ⟨⟨h.row.1, ?_⟩, fun t ht => (h.own t ht).same (h1 t ht).2 (h1 t ht).1, h.two, h.far, h.nr⟩
 rcases h.row.2 with hn | ⟨g, cap, cur, rfl, hg, hh, rest⟩
 ·exact .inl hn
 ·exact .inr ⟨g, cap, cur, rfl, hg, (h0 g rfl).trans hh, rest⟩
theorem Lvs.lt {w : World} {lo : Nat} {lv : Value} {L : List Lv} (h : Lvs w lo lv L) : (∀ b, lv.ownBlock = some b → lo ≤ b ∧ b < w.heap.size) ∧ ∀ t ∈ L, (∀ b, t.v.ownBlock = some b → lo ≤ b ∧ b < w.heap.size) ∧ ∀ b ∈ t.g, b < w.heap.size :=
 ⟨fun b hb => h.row.lt b hb, fun t ht => ⟨fun b hb => (h.own t ht).block hb, (h.own t ht).lt⟩⟩
theorem Lvs.below {w w' : World} {lo : Nat} {lv : Value} {L : List Lv} (h : Lvs w lo lv L) (hb : Below w.heap.size w w') : Lvs w' lo lv L :=
 h.same (fun b hv => hb.block b (h.lt.1 b hv).2) fun t ht => ⟨fun b hv => hb.block b ((h.lt.2 t ht).1 b hv).2, zad hb (h.lt.2 t ht).2⟩
theorem Lvs.set {w : World} {lo : Nat} {lv : Value} {L : List Lv} (h : Lvs w lo lv L) {b j : Nat} {u : Value} (h0 : lv.ownBlock ≠ some b) (h1 : ∀ t ∈ L, t.v.ownBlock ≠ some b ∧ b ∉ t.g) : Lvs (w.setCell ⟨b, j, none⟩ u) lo lv L :=
 h.same (fun x hx => Below.heap_setCell _ _ _ _ (fun e : x = b => h0 (e ▸ hx))) fun t ht => ⟨fun x hx => Below.heap_setCell _ _ _ _ (fun e : x = b => (h1 t ht).1 (e ▸ hx)), zv (fun x hx (e : x = b) => (h1 t ht).2 (e ▸ hx))⟩
theorem Lvs.form {w : World} {lo : Nat} {lv : Value} {L : List Lv} (h : Lvs w lo lv L) : ∃ a c, lv = .slice a L.length c := by
 rcases h.row.2 with ⟨rfl, h0⟩ | ⟨g, cap, cur, rfl, _⟩
 ·exact ⟨none, 0, by rw [h0]⟩
 ·exact ⟨_, cap, rfl⟩
theorem Lvs.form' {w : World} {lo : Nat} {lv : Value} {L : List Lv} (h : Lvs w lo lv L) : ∃ a n c, lv = .slice a n c := by obtain ⟨a, c, e⟩ := h.form; exact ⟨a, _, c, e⟩
/-- Row of rows, read. -/
theorem Lvs.rdv {w : World} {lo : Nat} {lv : Value} {L : List Lv} (h : Lvs w lo lv L) : ∀ M : List Lv, (∀ t ∈ M, t ∈ L) → ∃ fp, RdVs w ((M.map Lv.fs).map zx).flatten (M.map Lv.v) fp ∧ ∀ b ∈ fp, ∃ t ∈ M, t.v.ownBlock = some b ∨ b ∈ t.g
 | [], _ => ⟨[], by simp [RdVs], by simp⟩
 | t :: M, hM => by
  obtain ⟨fp, h1, h2⟩ := Lvs.rdv h M (fun u hu => hM u (by simp [hu]))
  obtain ⟨f0, h3, h4⟩ := (h.own t (hM t (by simp))).rd
  refine ⟨f0 ++ fp, ?_, fun b hb => ?_⟩
  ·simp only [List.map_cons, List.flatten_cons, zx]
   have := (RdVs.single h3).app h1
   simpa [zx] using this
  ·rcases zd5.1 hb with hb | hb
   ·rcases h4 with ⟨_, _, rfl⟩ | ⟨c, _, hc, rfl, _⟩
    ·simp at hb
    ·rcases zd9.1 hb with rfl | hb
     ·exact ⟨t, by simp, .inl hc⟩
     ·exact ⟨t, by simp, .inr hb⟩
   ·obtain ⟨u, hu, h5⟩ := h2 b hb
    exact ⟨u, by simp [hu], h5⟩
theorem Lvs.toOwn {w : World} {lo : Nat} {lv : Value} {L : List Lv} (h : Lvs w lo lv L) : ∃ fp, Own w lo 32 1 lv ((L.map Lv.fs).map zx) fp ∧ ∀ b ∈ fp, ∃ t ∈ L, t.v.ownBlock = some b ∨ b ∈ t.g := by
 obtain ⟨fp, h1, h2⟩ := h.rdv L (fun t ht => ht)
 refine ⟨fp, ⟨L.map Lv.v, by simpa using h.row, h1, ?_, fun b hb e => ?_⟩, h2⟩
 ·intro x hx
  simp only [List.mem_map] at hx
  obtain ⟨_, ⟨t, _, rfl⟩, rfl⟩ := hx
  simp [zx]
 ·obtain ⟨t, ht, h3 | h3⟩ := h2 b hb
  ·exact (h.nr t ht).1 b h3 e
  ·exact (h.nr t ht).2 b h3 e
theorem Lvs.rd {w : World} {lo : Nat} {lv : Value} {L : List Lv} (h : Lvs w lo lv L) : ∃ fp, Rd w (.sl ((L.map Lv.fs).map zx)) lv fp ∧ ∀ b ∈ fp, lv.ownBlock = some b ∨ ∃ t ∈ L, t.v.ownBlock = some b ∨ b ∈ t.g := by
 obtain ⟨fp, h1, h2⟩ := h.toOwn
 obtain ⟨fq, h3, h4⟩ := h1.rd
 refine ⟨fq, h3, fun b hb => ?_⟩
 rcases h4 with ⟨_, _, rfl⟩ | ⟨c, _, hc, rfl, _⟩
 ·simp at hb
 ·rcases zd9.1 hb with rfl | hb
  ·exact .inl hc
  ·exact .inr (h2 b hb)
theorem Lvs.cell {w : World} {lo q n c : Nat} {L : List Lv} (h : Lvs w lo (.slice (some ⟨q, 0, none⟩) n c) L) {k : Nat} (hk : k < L.length) : w.cell? ⟨q, k, none⟩ = some L[k].v ∧ w.frozen? ⟨q, k, none⟩ = false := by
 have h1 := h.row.cells (g := q) rfl k L[k].v (by simp [hk])
 rw [Addr.add_lit] at h1
 have e : n = L.length := by
  obtain ⟨a, c', h2⟩ := h.form
  simp only [Value.slice.injEq] at h2
  exact h2.2.1
 subst e
 exact ⟨by simpa using h1, h.row.frozenAt k⟩
/-- One more level, made since. -/
theorem Lvs.app {w0 w1 w' : World} {lo : Nat} {lv lv' kv : Value} {L : List Lv} {fs : List Fm} {g : List Nat} (h : Lvs w0 lo lv L) (hb : Below w0.heap.size w0 w1) (hkv : Own w1 w0.heap.size 52 12 kv (fs.map Fm.cd) g) (hg : ∀ b ∈ g, w0.heap.size ≤ b) (hlo : lo ≤ w0.heap.size)
  (hr : w'.ownsRow lo 32 1 lv' (L.length + 1) (L.map Lv.v ++ [kv])) (hm : Moved w1 lv w' lv') : Lvs w' lo lv' (L ++ [⟨kv, fs, g⟩]) := by
 have h1 := h.below hb
 have hl := h.lt
 have hz := hb.size
 have hs : ∀ t ∈ L, (∀ b, t.v.ownBlock = some b → w'.heap[b]? = w1.heap[b]?) ∧ SameOn t.g w1 w' := fun t ht =>
  ⟨fun b hb => hm.block (by have := ((hl.2 t ht).1 b hb).2; omega) ((h.nr t ht).1 b hb), hm.same (fun b hb => by have := (hl.2 t ht).2 b hb; omega) (h.nr t ht).2⟩
 have hn0 : ∀ b, w0.heap.size ≤ b → lv.ownBlock ≠ some b := fun b hb e => by have := (hl.1 b e).2; omega
 have hk : (∀ b, kv.ownBlock = some b → w'.heap[b]? = w1.heap[b]?) ∧ SameOn g w1 w' :=
  ⟨fun b hb => hm.block (hkv.block hb).2 (hn0 b (hkv.block hb).1), hm.same hkv.lt (fun b hb => hn0 b (hg b hb))⟩
 have hlv : ∀ b, lv'.ownBlock = some b → lv.ownBlock = some b ∨ w1.heap.size ≤ b := hm.2
 refine ⟨by simpa using hr, fun t ht => ?_, ?_, ?_, ?_⟩
 ·rcases zd5.1 ht with ht | ht
  ·exact (h1.own t ht).same (hs t ht).2 (hs t ht).1
  ·rw [List.mem_singleton.1 ht]
   exact (hkv.same hk.2 hk.1).base (fun b hb => by have := (hkv.block hb).1; omega)
 ·refine List.pairwise_append.2 ⟨h.two, List.pairwise_singleton _ _, fun t ht u hu b hb e => ?_⟩
  rw [List.mem_singleton.1 hu] at e
  have := ((hl.2 t ht).1 b hb).2; have := (hkv.block e).1; omega
 ·intro t ht u hu b hb
  rcases zd5.1 ht with ht | ht <;> rcases zd5.1 hu with hu | hu
  ·exact h.far t ht u hu b hb
  ·rw [List.mem_singleton.1 hu]
   intro h9
   have := ((hl.2 t ht).1 b hb).2; have := hg b h9; omega
  ·rw [List.mem_singleton.1 ht] at hb
   intro h9
   have := (hl.2 u hu).2 b h9; have := (hkv.block hb).1; omega
  ·rw [List.mem_singleton.1 ht] at hb
   rw [List.mem_singleton.1 hu]
   intro h9
   obtain ⟨_, _, _, _, h4⟩ := hkv
   exact h4 b h9 hb
 ·intro t ht
  rcases zd5.1 ht with ht | ht
  ·refine ⟨fun b hb e => ?_, fun b hb e => ?_⟩
   ·rcases hlv b e with h9 | h9
    ·exact (h.nr t ht).1 b hb h9
    ·have := ((hl.2 t ht).1 b hb).2; omega
   ·rcases hlv b e with h9 | h9
    ·exact (h.nr t ht).2 b hb h9
    ·have := (hl.2 t ht).2 b hb; omega
  ·rw [List.mem_singleton.1 ht]
   refine ⟨fun b hb e => ?_, fun b hb e => ?_⟩
   ·rcases hlv b e with h9 | h9
    ·exact hn0 b (hkv.block hb).1 h9
    ·have := (hkv.block hb).2; omega
   ·rcases hlv b e with h9 | h9
    ·exact hn0 b (hg b hb) h9
    ·have := hkv.lt b hb; omega
/-- One level has one more, or is another. -/
theorem Lvs.tell {w w2 : World} {lo q n c : Nat} {v' : Value} {L1 L2 : List Lv} {t : Lv} {fs' : List Fm} {g' : List Nat} (h : Lvs w lo (.slice (some ⟨q, 0, none⟩) n c) (L1 ++ t :: L2)) (hm : Moved w t.v w2 v') (ho : Own w2 lo 52 12 v' (fs'.map Fm.cd) g') (hqz : q < w.heap.size)
  (hg : ∀ b ∈ g', b ∈ t.g ∨ (b ≠ q ∧ ∀ u ∈ L1 ++ t :: L2, u.v.ownBlock ≠ some b)) (hgl : ∀ b ∈ g', b < w.heap.size) :
  Lvs (w2.setCell ⟨q, L1.length, none⟩ v') lo (.slice (some ⟨q, 0, none⟩) n c) (L1 ++ ⟨v', fs', g'⟩ :: L2) := by
 have hl := h.lt
 have hz := hm.size
 have en : n = (L1 ++ t :: L2).length := by
  obtain ⟨a, c', h2⟩ := h.form
  simp only [Value.slice.injEq] at h2
  exact h2.2.1
 have ht0 : t ∈ L1 ++ t :: L2 := by simp
 have h2 := List.pairwise_append.1 h.two
 have h3 := List.pairwise_cons.1 h2.2.1
 have hoff : ∀ u ∈ L1 ++ L2, ∀ b, t.v.ownBlock = some b → u.v.ownBlock ≠ some b := fun u hu b hb e => by
  rcases zd5.1 hu with hu | hu
  ·exact h2.2.2 u hu t (by simp) b e hb
  ·exact h3.1 u hu b hb e
 have hsub : ∀ u ∈ L1 ++ L2, u ∈ L1 ++ t :: L2 := fun u hu => by
  rcases zd5.1 hu with hu | hu
  ·exact List.mem_append_left _ hu
  ·exact List.mem_append_right _ (List.mem_cons_of_mem _ hu)
 have hnq : ∀ b, t.v.ownBlock = some b → b ≠ q := fun b hb e => (h.nr t ht0).1 b hb (by rw [e]; rfl)
 have hq2 : w2.heap[q]? = w.heap[q]? := hm.block hqz (fun e => hnq q e rfl)
 have hvn : ∀ b, v'.ownBlock = some b → t.v.ownBlock = some b ∨ w.heap.size ≤ b := hm.2
 have hvq : v'.ownBlock ≠ some q := fun e => by
  rcases hvn q e with h9 | h9
  ·exact hnq q h9 rfl
  ·omega
 have hgq : q ∉ g' := fun hx => by
  rcases hg q hx with h9 | h9
  ·exact (h.nr t ht0).2 q h9 rfl
  ·exact h9.1 rfl
 have hrow : w2.ownsRow lo 32 1 (.slice (some ⟨q, 0, none⟩) n c) (L1 ++ t :: L2).length ((L1 ++ t :: L2).map Lv.v) := by
  refine ⟨h.row.1, ?_⟩
  rcases h.row.2 with ⟨hn, _⟩ | ⟨g0, cap, cur, e, hg0, hh, rest⟩
  ·simp at hn
  ·have e' := e
   simp only [Value.slice.injEq, Option.some.injEq, Addr.mk.injEq] at e'
   exact .inr ⟨g0, cap, cur, e, hg0, by rw [← e'.1.1] at hh ⊢; exact hq2.trans hh, rest⟩
 rw [← en] at hrow
 have hst := (hrow.stored L1.length v').1
 have hu : ∀ u ∈ L1 ++ L2, Own (w2.setCell ⟨q, L1.length, none⟩ v') lo 52 12 u.v (u.fs.map Fm.cd) u.g := fun u hu => by
  have hum := hsub u hu
  have hou := h.own u hum
  have hl2 := hl.2 u hum
  have hs := hm.same hl2.2 (fun b hb e => h.far t ht0 u hum b e hb)
  refine (hou.same hs (fun b hb => hm.block (hl2.1 b hb).2 (fun e => hoff u hu b e hb))).same (zv (fun b hb (e : b = q) => (h.nr u hum).2 b hb (by rw [e]; rfl))) (fun b hb => Below.heap_setCell _ _ _ _ (fun e : b = q => (h.nr u hum).1 b hb (by rw [e]; rfl)))
 have hmem : ∀ u ∈ L1 ++ (⟨v', fs', g'⟩ : Lv) :: L2, u ∈ L1 ++ L2 ∨ u = ⟨v', fs', g'⟩ := fun u hu => by
  rcases zd5.1 hu with hu | hu
  ·exact .inl (List.mem_append_left _ hu)
  ·rcases zd9.1 hu with hu | hu
   ·exact .inr hu
   ·exact .inl (List.mem_append_right _ hu)
 have hnu : ∀ u ∈ L1 ++ L2, ∀ b, v'.ownBlock = some b → u.v.ownBlock ≠ some b := fun u hu b hb e => by
  rcases hvn b hb with h9 | h9
  ·exact hoff u hu b h9 e
  ·have := ((hl.2 u (hsub u hu)).1 b e).2; omega
 refine ⟨?_, fun u hu' => ?_, ?_, ?_, ?_⟩
 ·have e2 : (L1 ++ (⟨v', fs', g'⟩ : Lv) :: L2).length = n := by rw [en]; simp
  rw [e2]
  have e3 : (List.map Lv.v (L1 ++ t :: L2)).set L1.length v' = List.map Lv.v (L1 ++ (⟨v', fs', g'⟩ : Lv) :: L2) := by simp
  rw [← e3]
  exact hst
 ·rcases hmem u hu' with h9 | rfl
  ·exact hu u h9
  ·exact ho.set_apart hgq hvq
 ·refine List.pairwise_append.2 ⟨h2.1, List.pairwise_cons.2 ⟨fun u hu' b hb => hnu u (List.mem_append_right _ hu') b hb, h3.2⟩, fun u hu' x hx b hb e => ?_⟩
  rcases zd9.1 hx with rfl | hx
  ·exact hnu u (List.mem_append_left _ hu') b e hb
  ·exact h2.2.2 u hu' x (by simp [hx]) b hb e
 ·intro u hu' x hx b hb
  rcases hmem u hu' with h9 | rfl <;> rcases hmem x hx with h8 | rfl
  ·exact h.far u (hsub u h9) x (hsub x h8) b hb
  ·intro hbg
   rcases hg b hbg with h7 | h7
   ·exact h.far u (hsub u h9) t ht0 b hb h7
   ·exact h7.2 u (hsub u h9) hb
  ·intro hbg
   rcases hvn b hb with h7 | h7
   ·exact h.far t ht0 x (hsub x h8) b h7 hbg
   ·have := (hl.2 x (hsub x h8)).2 b hbg; omega
  ·intro hbg
   obtain ⟨_, _, _, _, h4⟩ := ho
   exact h4 b hbg hb
 ·intro u hu'
  rcases hmem u hu' with h9 | rfl
  ·exact h.nr u (hsub u h9)
  ·refine ⟨fun b hb e => ?_, fun b hb e => ?_⟩
   ·simp only [Value.ownBlock, Option.some.injEq] at e; subst e; exact hvq hb
   ·simp only [Value.ownBlock, Option.some.injEq] at e; subst e; exact hgq hb
/-- append of a level, in a region. -/
theorem step_lvs {P : Program} {z : Value} {bytes : Nat} (hT : SlTy P 26 32 z 1 bytes) {w0 w : World} {ops : Array Oper} {o : Oper} {a : Act} {K : Act → World → Prop} {Q : Exit → Act → World → Prop} {E : Prop} (hgd : o.guard = none) (s x : Operand)
  (ho : o.op = .call { callee := .builtin .append, args := #[s, x], argTypes := #[26, 26] })
  {lo : Nat} {lv kv : Value} {L : List Lv} {fs : List Fm} {g : List Nat} (hs : a.eval s = lv) (h : Lvs w0 lo lv L) (hb : Below w0.heap.size w0 w) (ad : Addr) (c : Nat) (hx : a.eval x = .slice (some ad) 1 c) (hc : w.cell? (ad.add 0) = some kv)
  (hkv : Own w w0.heap.size 52 12 kv (fs.map Fm.cd) g) (hg : ∀ b ∈ g, w0.heap.size ≤ b) (hlo : lo ≤ w0.heap.size)
  (hbytes : (L.length + 1) * bytes ≤ 140737488355328) (hlen : L.length + 1 ≤ 140737488355328)
  (hK : ∀ lv' w', Lvs w' lo lv' (L ++ [⟨kv, fs, g⟩]) → Moved w lv w' lv' → K (a.put o.dst lv') w') : if Region.wanted o (yielded ops a.tmps) = true then Oper.wp P o a w K Q else E := by
 have hw : Region.wanted o (yielded ops a.tmps) = true := by simp [Region.wanted, hgd]
 rw [if_pos hw]
 have h1 := h.below hb
 have hkf : kv.oneCell' = true := by obtain ⟨a', n', c', rfl⟩ := hkv.form'; rfl
 obtain ⟨v', w', hr, g1, g2, g3⟩ := zbL hT w o.type lo lv L.length (L.map Lv.v) h1.row ad 1 c [kv] (by simp) (fun j u hj => by
  match j with
  | 0 => simp at hj; subst hj; exact hc
  | j + 1 => simp at hj) (by simpa using hkf) (by simp [maxLen]; omega) hbytes (by have := hb.size; omega)
 unfold Oper.wp execOp
 simp only [ho, resolve, invoke, builtin, Sem.run_bind, Sem.run_pure, Result.andThen_ok, List.map_toArray, List.map_cons, List.map_nil, hs, hx, hr]
 exact hK v' w' (h.app hb hkv hg hlo g1 ⟨g2, g3⟩) ⟨g2, g3⟩
end Go.Proofs.Yticlgpkjdmcnaaa
end
