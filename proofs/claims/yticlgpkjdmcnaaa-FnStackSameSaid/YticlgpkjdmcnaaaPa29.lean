/- Parts of the proof: FormP AtomO FormW OwnF FormA FormB CopyL. -/
import Derived.Test.YticlgpkjdmcnaaaPa18
import Derived.Test.YticlgpkjdmcnaaaPa9
import Derived.Test.YticlgpkjdmcnaaaPa22
import Derived.Test.YticlgpkjdmcnaaaPa7
import Derived.Test.YticlgpkjdmcnaaaPa11
import Derived.Test.YticlgpkjdmcnaaaPa23
import Derived.Test.YticlgpkjdmcnaaaPa14
section
namespace Go.Proofs.Yticlgpkjdmcnaaa
open Go Go.RowKit
set_option linter.unusedVariables false
set_option linter.unusedSimpArgs false
set_option maxRecDepth 100000
set_option maxHeartbeats 16000000
def Atm.zero : Atm := ⟨0, .mk ⟨#[]⟩ [], .mk ⟨#[]⟩ [], [], [], 0, false⟩
def Fm.nk (k : Int) : Int := if k = 1 then 0 else if k = 2 then 1 else if k = 3 then 2 else if k = 4 then 2 else if k = 5 then 2 else if k = 6 then 2 else -1
theorem Fm.nk_zero {k : Int} : Fm.nk k = 0 ↔ k = 1 := by
 unfold Fm.nk
 by_cases h1 : k = 1
 ·simp [h1]
 ·rw [if_neg h1]
  repeat' split
  all_goals (constructor <;> intro h <;> omega)
def Lt.bare (l : Lt) : Bool := !l.no && eqV l.atom.cd Atm.zero.cd
def hasA (l : List Atm) (x : Atm) : Bool := l.any (fun y => eqV y.cd x.cd)
theorem eqV_comm (a b : List CD) : eqV a b = eqV b a := by rw [Bool.eq_iff_iff, zay, zay]; exact eq_comm
mutual
def Fm.sz : Nat → Fm → Nat
 | d, .mk kind lit kids => if d > 5 ∨ Fm.nk kind ≠ (kids.length : Int) ∨ (Fm.nk kind = 0 ∧ lit.atom.okB = false) ∨ (Fm.nk kind ≠ 0 ∧ lit.bare = false) then 11 else 1 + Fm.szs (d + 1) kids
def Fm.szs : Nat → List Fm → Nat
 | _, [] => 0
 | d, k :: ks => Fm.sz d k + Fm.szs d ks
end
mutual
def Fm.add : List Atm → Fm → List Atm
 | l, .mk kind lit kids => if kind = 1 ∧ hasA l lit.atom = false then l ++ [lit.atom] else Fm.adds l kids
def Fm.adds : List Atm → List Fm → List Atm
 | l, [] => l
 | l, k :: ks => Fm.adds (Fm.add l k) ks
end
mutual
def Fm.tell : List Atm → Fm → List Atm
 | l, .mk kind lit kids => if kind = 1 then (if hasA l lit.atom = true then l else l ++ [lit.atom]) else Fm.tells l kids
def Fm.tells : List Atm → List Fm → List Atm
 | l, [] => l
 | l, k :: ks => Fm.tells (Fm.tell l k) ks
end
mutual
def Fm.shape : Nat → Fm → Bool
 | d, .mk kind lit kids => if d < 1 ∨ Fm.nk kind ≠ (kids.length : Int) then false else if kind = 1 then lit.atom.okB else Fm.shapes (d - 1) kids && lit.bare
def Fm.shapes : Nat → List Fm → Bool
 | _, [] => true
 | d, k :: ks => Fm.shape d k && Fm.shapes d ks
end
mutual
def Fm.many : Nat → Fm → Nat
 | d, .mk _ _ kids => 1 + (if 0 < d then Fm.manys (d - 1) kids else 0)
def Fm.manys : Nat → List Fm → Nat
 | _, [] => 0
 | d, k :: ks => Fm.many d k + Fm.manys d ks
end
theorem Fm.tell_eq (l : List Atm) (f : Fm) : Fm.tell l f = if f.kind = 1 then (if hasA l f.lit.atom = true then l else l ++ [f.lit.atom]) else Fm.tells l f.kids := by cases f; simp only [Fm.tell, Fm.kind, Fm.lit, Fm.kids]; rfl
theorem Fm.shape_eq (d : Nat) (f : Fm) : Fm.shape d f = if d < 1 ∨ Fm.nk f.kind ≠ (f.kids.length : Int) then false else if f.kind = 1 then f.lit.atom.okB else Fm.shapes (d - 1) f.kids && f.lit.bare := by cases f; simp only [Fm.shape, Fm.kind, Fm.lit, Fm.kids]; rfl
theorem Fm.many_eq (d : Nat) (f : Fm) : Fm.many d f = 1 + (if 0 < d then Fm.manys (d - 1) f.kids else 0) := by cases f; simp only [Fm.many, Fm.kids]
theorem Fm.manys_append (d : Nat) : ∀ (a b : List Fm), Fm.manys d (a ++ b) = Fm.manys d a + Fm.manys d b
 | [], b => by simp [Fm.manys]
 | x :: a, b => by simp only [List.cons_append, Fm.manys, Fm.manys_append d a b]; omega
theorem Fm.tells_append : ∀ (a b : List Fm) (l : List Atm), Fm.tells l (a ++ b) = Fm.tells (Fm.tells l a) b
 | [], b, l => by simp [Fm.tells]
 | x :: a, b, l => by simp only [List.cons_append, Fm.tells, Fm.tells_append a b]
theorem Fm.shapes_all (d : Nat) : ∀ (a : List Fm), Fm.shapes d a = a.all (Fm.shape d)
 | [] => by simp [Fm.shapes]
 | x :: a => by simp only [Fm.shapes, List.all_cons, Fm.shapes_all d a]
theorem Fm.manys_succ (d : Nat) (ks : List Fm) (k : Nat) (h : k < ks.length) : Fm.manys d (ks.take (k + 1)) = Fm.manys d (ks.take k) + Fm.many d ks[k] := by
 rw [zd4 h, Fm.manys_append]; simp [Fm.manys]
theorem Fm.tells_succ (l : List Atm) (ks : List Fm) (k : Nat) (h : k < ks.length) : Fm.tells l (ks.take (k + 1)) = Fm.tell (Fm.tells l (ks.take k)) ks[k] := by
 rw [zd4 h, Fm.tells_append]; simp [Fm.tells]
theorem Fm.wt_eq (f : Fm) : wtV f.cd = wtV f.lit.cd + (f.kids.length + wtR (f.kids.map Fm.cd)) := by
 rw [Fm.cd_eq]; simp only [zF, zaO, zao, zea]; omega
mutual
theorem Fm.many_le : ∀ (f : Fm) (d : Nat), Fm.many d f ≤ 1 + wtV f.cd
 | .mk kind lit kids, d => by
  have h := Fm.manys_le kids (d - 1)
  have h2 := Fm.wt_eq (.mk kind lit kids)
  simp only [Fm.kids, Fm.lit] at h2
  simp only [Fm.many]
  split <;> omega
theorem Fm.manys_le : ∀ (ks : List Fm) (d : Nat), Fm.manys d ks ≤ ks.length + wtR (ks.map Fm.cd)
 | [], d => by simp [Fm.manys]
 | k :: ks, d => by
  have h1 := Fm.many_le k d
  have h2 := Fm.manys_le ks d
  simp only [Fm.manys, List.length_cons, List.map_cons, zZ]; omega
end
mutual
theorem Fm.tell_len : ∀ (f : Fm) (l : List Atm), (Fm.tell l f).length ≤ l.length + (1 + wtV f.cd)
 | .mk kind lit kids, l => by
  have h := Fm.tells_len kids l
  have h2 := Fm.wt_eq (.mk kind lit kids)
  simp only [Fm.kids, Fm.lit] at h2
  simp only [Fm.tell]
  split
  ·split
   ·omega
   ·simp only [zd7, List.length_cons, List.length_nil]; omega
  ·omega
theorem Fm.tells_len : ∀ (ks : List Fm) (l : List Atm), (Fm.tells l ks).length ≤ l.length + (ks.length + wtR (ks.map Fm.cd))
 | [], l => by simp [Fm.tells]
 | k :: ks, l => by
  have h1 := Fm.tell_len k l
  have h2 := Fm.tells_len ks (Fm.tell l k)
  simp only [Fm.tells, List.length_cons, List.map_cons, zZ]; omega
end
mutual
theorem Fm.sz_many : ∀ (f : Fm) (d : Nat), d ≤ 5 → (Fm.shape d f = true → Fm.sz (6 - d) f = Fm.many d f) ∧ (Fm.shape d f = false → 11 ≤ Fm.sz (6 - d) f)
 | .mk kind lit kids, d, hd => by
  simp only [Fm.shape, Fm.sz, Fm.many]
  by_cases h0 : d < 1
  ·rw [if_pos (.inl h0), if_pos (by omega)]
   exact ⟨fun h => absurd h (by simp), fun _ => Nat.le_refl _⟩
  by_cases h1 : Fm.nk kind = (kids.length : Int)
  ·rw [if_neg (by simp [h0, h1])]
   by_cases h2 : kind = 1
   ·have h3 : Fm.nk kind = 0 := Fm.nk_zero.2 h2
    have h4 : kids = [] := List.eq_nil_of_length_eq_zero (by omega)
    subst h4
    rw [if_pos h2]
    cases h5 : lit.atom.okB
    ·rw [if_pos (.inr (.inr (.inl ⟨h3, rfl⟩)))]
     exact ⟨fun h => absurd h (by simp), fun _ => Nat.le_refl _⟩
    ·rw [if_neg (by simp [h3]; omega)]
     refine ⟨fun _ => by simp [Fm.szs, Fm.manys], fun h => absurd h (by simp)⟩
   ·have h3 : Fm.nk kind ≠ 0 := fun h => h2 (Fm.nk_zero.1 h)
    rw [if_neg h2]
    cases h5 : lit.bare
    ·rw [if_pos (.inr (.inr (.inr ⟨h3, rfl⟩)))]
     exact ⟨fun h => absurd h (by simp), fun _ => Nat.le_refl _⟩
    ·rw [if_neg (by
      rintro (h | h | h | h)
      ·omega
      ·exact h h1
      ·exact h3 h.1
      ·exact absurd h.2 (by simp)), if_pos (by omega), Bool.and_true]
     have ih := Fm.szs_manys kids (d - 1) (by omega)
     have e : 6 - (d - 1) = 6 - d + 1 := by omega
     rw [e] at ih
     exact ⟨fun h => by rw [ih.1 h], fun h => by have := ih.2 h; omega⟩
  ·rw [if_pos (.inr h1), if_pos (.inr (.inl h1))]
   exact ⟨fun h => absurd h (by simp), fun _ => Nat.le_refl _⟩
theorem Fm.szs_manys : ∀ (ks : List Fm) (d : Nat), d ≤ 5 → (Fm.shapes d ks = true → Fm.szs (6 - d) ks = Fm.manys d ks) ∧ (Fm.shapes d ks = false → 11 ≤ Fm.szs (6 - d) ks)
 | [], d, hd => by simp [Fm.shapes, Fm.szs, Fm.manys]
 | k :: ks, d, hd => by
  have h1 := Fm.sz_many k d hd
  have h2 := Fm.szs_manys ks d hd
  simp only [Fm.shapes, Fm.szs, Fm.manys]
  cases hk : Fm.shape d k
  ·refine ⟨fun h => absurd h (by simp), fun _ => by have := h1.2 hk; omega⟩
  ·rw [Bool.true_and]
   exact ⟨fun h => by rw [h1.1 hk, h2.1 h], fun h => by have := h2.2 h; omega⟩
end
mutual
theorem Fm.add_tell : ∀ (f : Fm) (d : Nat) (l : List Atm), Fm.shape d f = true → Fm.add l f = Fm.tell l f
 | .mk kind lit kids, d, l => by
  simp only [Fm.shape, Fm.add, Fm.tell]
  intro h
  split at h
  ·simp at h
  ·rename_i hn
   by_cases h2 : kind = 1
   ·have h3 : Fm.nk kind = 0 := Fm.nk_zero.2 h2
    have h4 : kids = [] := List.eq_nil_of_length_eq_zero (by omega)
    subst h4
    rw [if_pos h2]
    cases h5 : hasA l lit.atom <;> simp [h2, Fm.adds]
   ·rw [if_neg h2] at h
    rw [if_neg h2, if_neg (by simp [h2])]
    simp only [zeb] at h
    exact Fm.adds_tells kids (d - 1) l h.1
theorem Fm.adds_tells : ∀ (ks : List Fm) (d : Nat) (l : List Atm), Fm.shapes d ks = true → Fm.adds l ks = Fm.tells l ks
 | [], d, l => by simp [Fm.adds, Fm.tells]
 | k :: ks, d, l => by
  simp only [Fm.shapes, zeb, Fm.adds, Fm.tells]
  intro h
  rw [Fm.add_tell k d l h.1, Fm.adds_tells ks d _ h.2]
end
def Fm.okF (f : Fm) : Bool := decide (Fm.sz 1 f ≤ 10) && decide ((Fm.add [] f).length ≤ 6)
def Fm.rightF (f : Fm) : Bool := (Fm.shape 5 f && decide (Fm.many 5 f ≤ 10)) && decide ((Fm.tell [] f).length ≤ 6)
theorem Fm.okF_right (f : Fm) : f.okF = f.rightF := by
 have h := Fm.sz_many f 5 (Nat.le_refl _)
 unfold Fm.okF Fm.rightF
 cases hs : Fm.shape 5 f
 ·have h1 := h.2 hs
  rw [show (6 - 5 : Nat) = 1 from rfl] at h1
  have h2 : ¬ Fm.sz 1 f ≤ 10 := by omega
  simp [h2]
 ·have h1 := h.1 hs
  rw [Fm.add_tell f 5 [] hs, Bool.true_and]
  rw [show (6 - 5 : Nat) = 1 from rfl] at h1
  rw [h1]
/-- The place of the first of which p is so, or -1. -/
def FirstOf {α : Type} (p : α → Bool) (l : List α) (n : Int) : Prop := (n = -1 ∧ l.all (fun t => !p t) = true) ∨ ∃ (k : Nat) (h : k < l.length), n = k ∧ p l[k] = true ∧ (l.take k).all (fun t => !p t) = true
theorem FirstOf.succ {α : Type} {p : α → Bool} {l : List α} {k : Nat} (hk : k < l.length) (h : (l.take k).all (fun t => !p t) = true) (h' : p l[k] = false) : (l.take (k + 1)).all (fun t => !p t) = true := by
 rw [zd4 hk, List.all_append, h]; simp [h']
theorem FirstOf.bd {α : Type} {p : α → Bool} {l : List α} {n : Int} (h : FirstOf p l n) : -1 ≤ n ∧ n < l.length := by
 rcases h with ⟨rfl, _⟩ | ⟨k, hk, rfl, _⟩ <;> constructor <;> omega
theorem FirstOf.neg {x : Atm} {l : List Atm} {n : Int} (h : FirstOf (fun y => eqV y.cd x.cd) l n) : n < 0 ↔ hasA l x = false := by
 rcases h with ⟨rfl, h⟩ | ⟨k, hk, rfl, h, _⟩
 ·refine ⟨fun _ => ?_, fun _ => by omega⟩
  unfold hasA; rw [List.any_eq_false]
  intro y hy; rw [List.all_eq_true] at h; simpa using h y hy
 ·refine ⟨fun h => by omega, fun h' => ?_⟩
  unfold hasA at h'; rw [List.any_eq_false] at h'
  exact absurd h (h' l[k] (zd6 hk))
theorem Atm.zero_rd (w : World) : RdVs w Atm.zero.cd [.int .i64 0, .string ⟨#[]⟩, .slice none 0 0, .string ⟨#[]⟩, .slice none 0 0, .slice none 0 0, .slice none 0 0, .int .i64 0, .bool false] [] :=
 Atm.close (w := w) (x := Atm.zero) (a2 := none) (c2 := 0) (f2 := []) (a4 := none) (c4 := 0) (f4 := []) (a5 := none) (c5 := 0) (f5 := []) (a6 := none) (c6 := 0) (f6 := []) (by simp [I64, Atm.zero]) (Nat.zero_le _) (zbD w Tm.cd) (Nat.zero_le _) (zbD w Tm.cd) (zbD w Tm.cd) (zbD w zq) (by simp [I64, Atm.zero])
end Go.Proofs.Yticlgpkjdmcnaaa
end
namespace Go.Proofs.Yticlgpkjdmcnaaa
open Go Go.RowKit
set_option linter.unusedVariables false
set_option linter.unusedSimpArgs false
set_option maxHeartbeats 1600000
theorem Lt.of_atom {w : World} {x : Lt} {vs : List Value} {f : List Nat} (h : RdVs w x.atom.cd vs f) : RdVs w x.cd (vs ++ [.bool x.no]) f := by
 have h1 := h.app (zaX (b := x.no))
 simpa [Lt.cd] using h1
end Go.Proofs.Yticlgpkjdmcnaaa
section
namespace Go.Proofs.Yticlgpkjdmcnaaa
open Go Go.RowKit
set_option linter.unusedVariables false
set_option linter.unusedSimpArgs false
set_option maxRecDepth 100000
set_option maxHeartbeats 16000000
def zaS (fs : List Fm) : Bool := decide (fs.length ≤ 5) && (fs.all Fm.okF && decide ((Fm.adds [] fs).length ≤ 6))
def zaj (fs : List Fm) : List Atm := if zaS fs = true then Fm.adds [] fs else []
theorem zcw {fs : List Fm} (h : zaS fs = true) : zaj fs = Fm.adds [] fs := if_pos h
theorem Fm.rdv {w : World} {x : Fm} {vs : List Value} {f : List Nat} (h : RdVs w x.cd vs f) : True := trivial
theorem step_app0 {P : Program} {t e : TypeId} {z : Value} {k bytes : Nat} (hT : SlTy P t e z k bytes) {w : World} {ops : Array Oper} {o : Oper} {a : Act} {K : Act → World → Prop} {Q : Exit → Act → World → Prop} {E : Prop} (hgd : o.guard = none) (s x : Operand)
  (ho : o.op = .call { callee := .builtin .append, args := #[s, x], argTypes := #[t, t] }) (base ao : Option Addr) (n c c' : Nat) (hle : n ≤ c) (hs : a.eval s = .slice base n c) (hx : a.eval x = .slice ao 0 c')
  (h : K (a.put o.dst (.slice base n c)) w) : if Region.wanted o (yielded ops a.tmps) = true then Oper.wp P o a w K Q else E := by
 have hw : Region.wanted o (yielded ops a.tmps) = true := by simp [Region.wanted, hgd]
 rw [if_pos hw]
 obtain ⟨i, hi, hz, hsz, hb⟩ := info_parts hT.info
 have hsrc : Src P i.size t (.slice ao 0 c') 0 [] w := by
  cases ao with
  | none => exact Src.ofNil _ hT.und c'
  | some ad => exact Src.ofSlice _ hT.und ad 0 c' [] (by simp) (fun j u h => by simp at h) (by simp)
 have hr := run_append_nothing (P := P) w t t o.type e i hT.und hi base n c hle _ hsrc
 unfold Oper.wp execOp
 simp only [ho, resolve, invoke, builtin, Sem.run_bind, Sem.run_pure, Result.andThen_ok, List.map_toArray, List.map_cons, List.map_nil, hs, hx, hr]
 exact h
theorem zE {P : Program} {t e : TypeId} {z : Value} {k bytes : Nat} (hT : SlTy P t e z k bytes) {w : World} {ops : Array Oper} {o : Oper} {a : Act} {K : Act → World → Prop} {Q : Exit → Act → World → Prop} {E : Prop} (hgd : o.guard = none) (s x : Operand)
  (ho : o.op = .call { callee := .builtin .append, args := #[s, x], argTypes := #[t, t] })
  (base : Nat) (v : Value) (es : List (List CD)) (fp : List Nat) (hs : a.eval s = v) (hown : Own w base e k v es fp)
  (news : List (List CD)) (nv : Value) (nf : List Nat) (hx : a.eval x = nv) (hrd : Rd w (.sl news) nv nf) (hnk : ∀ x ∈ news, x.length = k) (hna : ∀ b ∈ nf, v.ownBlock ≠ some b)
  (hbytes : (es.length + news.length) * bytes ≤ 140737488355328) (hlen : es.length + news.length ≤ 140737488355328) (hbase : base ≤ w.heap.size)
  (h : ∀ v' w' nfp, (∀ b ∈ nfp, b ∈ nf) → Own w' base e k v' (es ++ news) (fp ++ nfp) → w.grownBy w' v.ownBlock → (∀ b, v'.ownBlock = some b → v.ownBlock = some b ∨ w.heap.size ≤ b) → K (a.put o.dst v') w') : if Region.wanted o (yielded ops a.tmps) = true then Oper.wp P o a w K Q else E := by
 obtain ⟨xa, xc, rfl, _, _⟩ := hrd.sl_form
 rcases Nat.eq_zero_or_pos news.length with hz | hne
 ·obtain rfl := List.eq_nil_of_length_eq_zero hz
  obtain ⟨va, vc, rfl, hv1, _⟩ := hown.form
  refine step_app0 hT hgd s x ho va xa es.length vc xc hv1 hs hx ?_
  exact h _ w [] (by simp) (by simpa using hown) (zaI _ _) (fun b hb => .inl hb)
 ·obtain ⟨b, off, f, rfl, hb, rfl, hr⟩ := hrd.addr hne
  obtain ⟨vs, hc, hvs⟩ := hr.flat
  exact zR hT hgd s x ho base v es fp hs hown ⟨b, off, none⟩ news.length xc news vs f hx rfl hvs hnk (fun j u hj => by simpa [Addr.add_lit] using hc j u hj) (fun y hy => hna y (by simp [hy])) hbytes hlen hbase
   (fun v' w' h1 h2 h3 h4 => h v' w' f (fun y hy => by simp [hy]) h1 h2 h3)
section
variable {P : Program} {ops : Array Oper} {Q : Exit → Act → World → Prop} {F : World → Prop} {s0 : Nat}
/-- What is to be shown of number i, if it comes up. -/
def Step (P : Program) (ops : Array Oper) (Q : Exit → Act → World → Prop) (F : World → Prop) (s0 n : Nat) (up : Array Bool) (a : Act) (w : World) (i : Nat) (o : Oper) : Prop :=
 ∀ K' : Act → World → Prop, Hid (∀ b u, ((up.setIfInBounds i true).getD s0 true = false → F u) → Till P ops Q F s0 n (up.setIfInBounds i true) b u → K' b u) → if Region.wanted o (yielded ops a.tmps) = true then Oper.wp P o a w K' Q else K' (a.put o.dst undef) w
theorem Step.op {i : Nat} {o : Oper} {n : Nat} {up : Array Bool} {a : Act} {w : World} (ho : ops[i]? = some o) (h : Step P ops Q F s0 n up a w i o) :
  wpOp P ops Q i (fun b u => ((up.setIfInBounds i true).getD s0 true = false → F u) ∧ Till P ops Q F s0 n (up.setIfInBounds i true) b u) a w :=
 wpOp_step ho fun K' hK => h K' (Lib.hid fun b u h1 h2 => hK b u ⟨h1, h2⟩)
theorem Till.two {i j : Nat} {oi oj : Oper} {n : Nat} {up : Array Bool} {a : Act} {w : World} (hr : Region.ready .any ops up = [i, j]) (hi : ops[i]? = some oi) (hj : ops[j]? = some oj)
  (si : Step P ops Q F s0 n up a w i oi) (sj : Step P ops Q F s0 n up a w j oj) : Till P ops Q F s0 (n + 1) up a w := by
 refine ⟨fun h0 => (by rw [hr] at h0; cases h0), fun m hm => ?_⟩
 rw [hr] at hm
 simp only [zd9, List.not_mem_nil, or_false] at hm
 rcases hm with rfl | rfl
 ·exact si.op hi
 ·exact sj.op hj
theorem Till.three {i j k : Nat} {oi oj ok : Oper} {n : Nat} {up : Array Bool} {a : Act} {w : World} (hr : Region.ready .any ops up = [i, j, k]) (hi : ops[i]? = some oi) (hj : ops[j]? = some oj) (hk : ops[k]? = some ok)
  (si : Step P ops Q F s0 n up a w i oi) (sj : Step P ops Q F s0 n up a w j oj) (sk : Step P ops Q F s0 n up a w k ok) : Till P ops Q F s0 (n + 1) up a w := by
 refine ⟨fun h0 => (by rw [hr] at h0; cases h0), fun m hm => ?_⟩
 rw [hr] at hm
 simp only [zd9, List.not_mem_nil, or_false] at hm
 rcases hm with rfl | rfl | rfl
 ·exact si.op hi
 ·exact sj.op hj
 ·exact sk.op hk
end
/-- At the region's end a fact T stands; what follows is shown from T alone. -/
theorem zbU {P : Program} {id : Nat} {ops : Array Oper} {d : Bool} {Q : Exit → Act → World → Prop} {a : Act} {w : World} (T : Act → World → Prop) (hT : ∀ b u, T b u → Q .normal b u)
  (h : (Code.region id ops d).wp P (fun e b u => match e with | .normal => T b u | e => Q e b u) a w) : (Code.region id ops d).wp P Q a w :=
 Code.wp_mono (fun e b u k => by cases e <;> first | exact hT b u k | exact k) h
theorem asz2 (w : World) (o : Obj) : (w.alloc o).heap.size = w.heap.size + 1 := by simp
theorem Fresh.join {lo : Nat} {w : World} {f g : List Nat} (h : Fresh lo w f) (h' : Fresh lo w g) (hd : ∀ b ∈ f, b ∉ g) : Fresh lo w (f ++ g) := by
 refine ⟨List.nodup_append.2 ⟨h.1, h'.1, fun a ha b hb e => hd a ha (e ▸ hb)⟩, fun b hb => ?_⟩
 rcases zd5.1 hb with h1 | h1
 ·exact h.2 b h1
 ·exact h'.2 b h1
theorem Fresh.perm4 {lo : Nat} {w : World} {a b c d : List Nat} (h : Fresh lo w (((a ++ b) ++ c) ++ d)) : Fresh lo w (a ++ (b ++ (d ++ c))) := by
 have hp : (((a ++ b) ++ c) ++ d).Perm (a ++ (b ++ (d ++ c))) := by
  rw [List.append_assoc, List.append_assoc]
  exact List.Perm.append_left _ (List.Perm.append_left _ List.perm_append_comm)
 exact ⟨hp.nodup_iff.1 h.1, fun x hx => h.2 x (hp.mem_iff.2 hx)⟩
end Go.Proofs.Yticlgpkjdmcnaaa
end
