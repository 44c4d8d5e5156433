/- Parts of the proof: SameLib Sig TermO TermP Rdr3 Rdr4 Rdr5 PutA. -/
import Derived.Test.YtbfinjiledfpcaaGreatPT3
import Derived.Deep.QuietTactic
import Derived.BigQuiet
import Derived.Lib.QuietBelow
import Derived.Test.YtbfinjiledfpcaaGreatPT2
import Derived.Deep.RegionLaw
import Derived.Deep.RegionHeld3
import Derived.Deep.CutRange
section
namespace Go.Proofs.YtbfinjiledfpcaaGreat
open Go Go.RowKit
set_option linter.unusedVariables false
set_option linter.unusedSimpArgs false
set_option maxRecDepth 100000
set_option maxHeartbeats 16000000
mutual
def eqC : CD → CD → Bool
 | .int a, .int b => decide (a = b)
 | .str a, .str b => decide (a = b)
 | .bool a, .bool b => decide (a = b)
 | .sl a, .sl b => eqR a b
 | _, _ => false
def eqR : List (List CD) → List (List CD) → Bool
 | [], [] => true
 | a :: l, b :: l2 => eqV a b && eqR l l2
 | _, _ => false
def eqV : List CD → List CD → Bool
 | [], [] => true
 | a :: l, b :: l2 => eqC a b && eqV l l2
 | _, _ => false
end
mutual
theorem eqC_iff : ∀ (a b : CD), eqC a b = true ↔ a = b
 | .int a, b => by cases b <;> simp [eqC]
 | .str a, b => by cases b <;> simp [eqC]
 | .bool a, b => by cases b <;> simp [eqC]
 | .sl a, b => by cases b <;> simp [eqC, zdz a]
theorem zdz : ∀ (a b : List (List CD)), eqR a b = true ↔ a = b
 | [], b => by cases b <;> simp [eqR]
 | a :: l, b => by cases b <;> simp [eqR, zaH a, zdz l]
theorem zaH : ∀ (a b : List CD), eqV a b = true ↔ a = b
 | [], b => by cases b <;> simp [eqV]
 | a :: l, b => by cases b <;> simp [eqV, eqC_iff a, zaH l]
end
theorem ze0 (a : List CD) : eqV a a = true := (zaH _ _).2 rfl
theorem eqV_no {a b : List CD} (h : a ≠ b) : eqV a b = false := by rw [Bool.eq_false_iff]; intro h'; exact h ((zaH _ _).1 h')
theorem eqR_no {a b : List (List CD)} (h : a ≠ b) : eqR a b = false := by rw [Bool.eq_false_iff]; intro h'; exact h ((zdz _ _).1 h')
theorem eqV_ne {a b : List CD} (h : eqV a b = false) : a ≠ b := by rintro rfl; rw [ze0] at h; simp at h
theorem zb1 {α : Type} {cd : α → List CD} {xs ys : List α} (h : xs.length ≠ ys.length) : eqR (xs.map cd) (ys.map cd) = false := eqR_no fun e => h (by have := congrArg List.length e; simpa using this)
/-- All up to a place alike. -/
def Alike {α : Type} (cd : α → List CD) (xs ys : List α) (k : Nat) : Prop := (xs.take k).map cd = (ys.take k).map cd
theorem Alike.zero {α : Type} {cd : α → List CD} {xs ys : List α} : Alike cd xs ys 0 := by simp [Alike]
theorem Alike.succ {α : Type} {cd : α → List CD} {xs ys : List α} {k : Nat} (h : Alike cd xs ys k) (h1 : k < xs.length) (h2 : k < ys.length) (he : eqV (cd xs[k]) (cd ys[k]) = true) : Alike cd xs ys (k + 1) := by
 unfold Alike at *; rw [zgf h1, zgf h2, zgj, zgj, h, List.map_singleton, List.map_singleton, (zaH _ _).1 he]
theorem Alike.all {α : Type} {cd : α → List CD} {xs ys : List α} {k : Nat} (h : Alike cd xs ys k) (h1 : xs.length ≤ k) (h2 : ys.length ≤ k) : eqR (xs.map cd) (ys.map cd) = true := by
 unfold Alike at h; rw [zgq h1, zgq h2] at h; exact (zdz _ _).2 h
theorem za1 {α : Type} {cd : α → List CD} {xs ys : List α} {k : Nat} (h1 : k < xs.length) (h2 : k < ys.length) (he : eqV (cd xs[k]) (cd ys[k]) = false) : eqR (xs.map cd) (ys.map cd) = false := eqR_no fun e => by
 have : (xs.map cd)[k]? = (ys.map cd)[k]? := by rw [e]
 simp [h1, h2] at this; exact eqV_ne he this
theorem zaP {a a' b b' : List CD} (h : a.length = a'.length) : eqV (a ++ b) (a' ++ b') = (eqV a a' && eqV b b') := by
 rw [Bool.eq_iff_iff, zgm, zaH, zaH, zaH]; exact ⟨fun e => List.append_inj e h, fun ⟨e, e'⟩ => by rw [e, e']⟩
theorem zb2 (a b : Int) : eqV [.int a] [.int b] = decide (a = b) := by simp [eqV, eqC]
theorem zct (a b : ByteArray) : eqV [.str a] [.str b] = decide (a = b) := by simp [eqV, eqC]
theorem zbH (a b : Bool) : eqV [.bool a] [.bool b] = decide (a = b) := by simp [eqV, eqC]
theorem zdi (a b : List (List CD)) : eqV [.sl a] [.sl b] = eqR a b := by simp [eqV, eqC]
theorem za {w1 w2 : World} {b j : Nat} {v : Value} (h : w1.cell? ⟨b, j, none⟩ = some v) (hb : Below w1.heap.size w1 w2) : w2.cell? ⟨b, j, none⟩ = some v := (hb.cell (p := ⟨b, j, none⟩) (World.block_lt_of_cell? w1 _ h)).trans h
theorem zao {w : World} {α : Type} {cd : α → List CD} {xs : List α} {v : Value} {f : List Nat} (h : Rd w (.sl (xs.map cd)) v f) : xs.length ≤ 9223372036854775807 := by obtain ⟨a, c, _, h1, h2⟩ := zg h; omega
theorem zcu (a b : Int) : (a == b) = decide (a = b) := rfl
theorem Tm.cd_mk (n : ByteArray) (ks : List Tm) : (Tm.mk n ks).cd = [.str n, .sl (ks.map Tm.cd)] := by rw [Tm.cd_eq]; rfl
mutual
theorem Tm.beq_cd : ∀ t u : Tm, t.beq u = eqV t.cd u.cd
 | .mk n ks, .mk m js => by
  rw [Tm.cd_mk, Tm.cd_mk]; simp only [Tm.beq, eqV, eqC, Bool.and_true]; rw [Tm.beqs_cd ks js]
theorem Tm.beqs_cd : ∀ ts us : List Tm, Tm.beqs ts us = eqR (ts.map Tm.cd) (us.map Tm.cd)
 | [], [] => by simp [Tm.beqs, eqR]
 | [], _ :: _ => by simp [Tm.beqs, eqR]
 | _ :: _, [] => by simp [Tm.beqs, eqR]
 | t :: ts, u :: us => by
  simp only [Tm.beqs, List.map_cons, eqR]; rw [Tm.beq_cd t u, Tm.beqs_cd ts us]
end
def srtB (n : Int) : Bool := n == 0 || n == 1
def Sy.okB (x : Sy) : Bool := zat x.name && (decide (x.args.length ≤ 2) && (srtB x.sort && x.args.all srtB))
def nmLt (a b : ByteArray) : Bool := Op.bytesLess a.toList b.toList
def Sg.okAt (s : Sg) (k : Nat) : Bool :=
 match s.Y[k]? with
 | none => true
 | some x => x.okB && (match k with | 0 => true | j + 1 => (match s.Y[j]? with | none => true | some y => nmLt y.name x.name))
def Sg.okB (s : Sg) : Bool := (List.range s.Y.length).all s.okAt && decide (s.Y.length ≤ 7)
theorem Sg.okB_no {s : Sg} {k : Nat} (hk : k < s.Y.length) (h : s.okAt k = false) : s.okB = false := by
 have : (List.range s.Y.length).all s.okAt = false := by rw [List.all_eq_false]; exact ⟨k, by simpa using hk, by simp [h]⟩
 simp [Sg.okB, this]
theorem Sg.okB_all {s : Sg} {k : Nat} (hk : s.Y.length ≤ k) (h : ∀ j, j < k → s.okAt j = true) : s.okB = decide (s.Y.length ≤ 7) := by
 have : (List.range s.Y.length).all s.okAt = true := by rw [List.all_eq_true]; intro j hj; exact h j (by have := List.mem_range.1 hj; omega)
 simp [Sg.okB, this]
theorem Sg.okAt_bad {s : Sg} {k : Nat} (hk : k < s.Y.length) (h : s.Y[k].okB = false) : s.okAt k = false := by simp [Sg.okAt, zgp hk, h]
theorem Sg.okAt_zero {s : Sg} (hk : 0 < s.Y.length) (h : s.Y[0].okB = true) : s.okAt 0 = true := by simp [Sg.okAt, zgp hk, h]
theorem Sg.okAt_succ {s : Sg} {k : Nat} (hk : k + 1 < s.Y.length) (h : s.Y[k + 1].okB = true) : s.okAt (k + 1) = nmLt s.Y[k].name s.Y[k + 1].name := by
 simp [Sg.okAt, zgp hk, zgp (show k < s.Y.length by omega), h]
theorem zdj (n : Int) (w : World) : Calls Tryz.prog 126 #[.int .i64 n] w fun e w' => e = .returned (.bool (srtB n)) ∧ w = w' := by
 cases h0 : (n == 0) <;> cases h1 : (n == 1)
 all_goals
  have HF : Hid (srtB n = ((n == 0) || (n == 1))) := zgn rfl; go_enter Tryz.func126, Tryz.ntmps126
  go_wp2
  go_ret; exact ⟨retB (by rw [HF.out, h0, h1]; rfl), rfl⟩
theorem zaz (n : Int) (w : World) : Calls Tryz.prog 100 #[.int .i64 n] w fun e w' => e = .returned (.bool (srtB n)) ∧ w = w' := by
 cases h0 : (n == 0) <;> cases h1 : (n == 1)
 all_goals
  have HF : Hid (srtB n = ((n == 0) || (n == 1))) := zgn rfl; go_enter Tryz.func100, Tryz.ntmps100
  go_wp2
  go_ret; exact ⟨retB (by rw [HF.out, h0, h1]; rfl), rfl⟩
theorem zeD (n : Int) (w : World) : Calls Tryz.prog 128 #[.int .i64 n] w fun e w' => e = .returned (.bool (!srtB n)) ∧ w = w' := by
 go_enter Tryz.func128, Tryz.ntmps128; go_wp2_with (go_at_call 126; refine (zdj _ _).mono ?_; rintro e w' ⟨rfl, rfl⟩); go_ret; exact ⟨rfl, rfl⟩
def IdxOut (ok : Bool) (n : Nat) (w : World) (e : Ending) (w' : World) : Prop := ∃ i : Int, e = .returned (.int .i64 i) ∧ ((ok = true ∧ i = -1) ∨ (ok = false ∧ 0 ≤ i ∧ i < n)) ∧ w = w'
theorem zby {p : Int → Bool} {xs : List Int} {k : Nat} (hk : k < xs.length) (h : (xs.take k).all p = true) (h' : p xs[k] = true) : (xs.take (k + 1)).all p = true := by
 rw [zgf hk, List.all_append, h]; simp [h']
theorem zcv {p : Int → Bool} {xs : List Int} {k : Nat} (hk : k < xs.length) (h' : p xs[k] = false) : xs.all p = false := by
 rw [List.all_eq_false]; exact ⟨xs[k], zgh hk, by simp [h']⟩
theorem zcY (xs : List Int) (v : Value) (f : List Nat) (w : World) (hv : Rd w (.sl (xs.map zv)) v f) :
  Calls Tryz.prog 143 #[v, .func (.func 128) #[] #[]] w (IdxOut (xs.all srtB) xs.length w) := by
 obtain ⟨a, c, rfl, hc1, hc2⟩ := zg hv; go_enter Tryz.func143, Tryz.ntmps143; go_wp2_with fail
 go_loop [8] (fun i => ∃ k : Nat, k ≤ xs.length ∧ i = .int .i64 k ∧ Hid ((xs.take k).all srtB = true)) (fun i => xs.length - (intOf i).toNat)
 case atStart => exact ⟨0, zgx _, rfl, zgn (by simp)⟩
 case round =>
  obtain ⟨k, hkl, rfl, hall⟩ := hrel
  by_cases hlt : k < xs.length
  ·obtain ⟨b, off, rfl, hbs, _⟩ := zl hv (by omega)
   obtain ⟨d0, _⟩ := zan hv hlt; go_wp2_with fail; refine (zeD _ _).mono ?_; rintro e w2 ⟨rfl, rfl⟩
   cases he : srtB xs[k]
   ·have HE := zgn (zcv hlt he)
    have he' : (!srtB xs[k]) = true := by rw [he]; rfl
    go_wp2_with fail; go_ret; exact ⟨k, rfl, .inr ⟨HE.out, by omega, by omega⟩, rfl⟩
   ·have HE := zgn (zby hlt hall.out he)
    have he' : (!srtB xs[k]) = false := by rw [he]; rfl
    go_wp2_with fail
    go_round
    case rel => exact ⟨k + 1, by omega, by go_num, HE⟩
    case measure => simp [intOf]; omega
  ·have HE : Hid (xs.all srtB = true) := zgn (by have := hall.out; rwa [zgq (by omega)] at this)
   go_wp2_with fail; go_ret; exact ⟨-1, rfl, .inl ⟨HE.out, rfl⟩, rfl⟩
theorem zcZ (xs : List Int) (v : Value) (f : List Nat) (w : World) (hv : Rd w (.sl (xs.map zv)) v f) :
  Calls Tryz.prog 127 #[v, .func (.func 128) #[] #[]] w fun e w' => e = .returned (.bool (!xs.all srtB)) ∧ w = w' := by
 obtain ⟨a, c, rfl, hc1, hc2⟩ := zg hv; go_enter Tryz.func127, Tryz.ntmps127; go_wp2_with fail; refine (zcY xs _ f _ hv).mono ?_; rintro e w' ⟨i, rfl, ⟨hi, rfl⟩ | ⟨hi, h0, h1⟩, rfl⟩
 ·have HI := zgn hi
  clear hi; go_wp2_with fail; go_ret; exact ⟨retB (by rw [HI.out]; rfl), rfl⟩
 ·have HI := zgn hi
  clear hi; go_wp2_with fail; go_ret
  exact ⟨retB (by rw [HI.out]; simp; try omega), rfl⟩
theorem zbI (x : Sy) (vs : List Value) (f : List Nat) (w : World) (hv : RdVs w x.cd vs f) :
  Calls Tryz.prog 87 #[.agg vs.toArray] w fun e w' => e = .returned (.bool x.okB) ∧ Below w.heap.size w w' := by
 obtain ⟨a1, c1, f1, rfl, _, m0, m1, m2⟩ := Sy.open hv; have HB : Hid (x.okB = (zat x.name && (decide (x.args.length ≤ 2) && (srtB x.sort && x.args.all srtB)))) := zgn rfl; have hl := zao m1; go_enter Tryz.func87, Tryz.ntmps87; go_wp2_with fail; refine (zbX _ _ m0).mono ?_; rintro e w' ⟨rfl, rfl⟩
 cases h1 : zat x.name
 ·go_wp2_with fail
  go_ret; exact ⟨retB (by rw [HB.out, h1]; rfl), zb _ _⟩
 have H1 := zgn h1; clear h1
 by_cases h2 : x.args.length ≤ 2
 rotate_left
 ·go_wp2_with fail
  go_ret; exact ⟨retB (by rw [HB.out, H1.out, decide_eq_false h2]; rfl), zb _ _⟩
 go_wp2_with fail; refine (zdj _ _).mono ?_; rintro e w' ⟨rfl, rfl⟩
 cases h3 : srtB x.sort
 ·go_wp2_with fail
  go_ret; exact ⟨retB (by rw [HB.out, H1.out, decide_eq_true h2, h3]; rfl), zb _ _⟩
 have H3 := zgn h3; clear h3; go_wp2_with fail; refine (zcZ x.args _ _ _ (by exact m1.below (zb _ _))).mono ?_; rintro e w' ⟨rfl, rfl⟩; go_wp2_with fail; go_ret; exact ⟨retB (by rw [HB.out, H1.out, decide_eq_true h2, H3.out]; simp), zb _ _⟩
theorem zaU : SlTy Tryz.prog 26 28 (.agg #[.string ByteArray.empty, .slice none 0 0]) 2 40 :=
 ⟨Tryz.underlying26, by kernel_rfl, rfl, by omega⟩
theorem zca (n : Nat) (ih : ∀ (t : Tm) (v : Value) (w : World), t.size ≤ n → t.size ≤ 1000000000 → TmR w t v →
   Calls Tryz.prog 116 #[v] w fun e w' => ∃ kv fp, e = .returned (.agg #[.string t.name, kv]) ∧ Rd w' (.sl (t.K.map Tm.cd)) kv fp ∧ Fresh w.heap.size w' fp ∧ Below w.heap.size w w') :
  ∀ (ts : List Tm) (v : Value) (w : World), (∀ t ∈ ts, t.size ≤ n) → Tm.sizes ts ≤ 1000000000 → TmsR w ts v →
  Calls Tryz.prog 117 #[v] w fun e w' => ∃ kv fp, e = .returned kv ∧ Rd w' (.sl (ts.map Tm.cd)) kv fp ∧ Fresh w.heap.size w' fp ∧ Below w.heap.size w w' := by
 intro ts v w hn hbig hv; obtain ⟨a, cap, rfl, hc1, hc2⟩ := hv.form; have IH := zgn ih; have HN := zgn hn; clear ih hn; have hlen := Tm.sizes_len ts; go_enter Tryz.func117, Tryz.ntmps117; go_wp2_with fail
 go_loopw [3, 8] (fun ov i wr => ∃ (k : Nat) (fp : List Nat), k ≤ ts.length ∧ i = .int .i64 k ∧ Own wr w.heap.size 28 2 ov ((ts.take k).map Tm.cd) fp ∧ Fresh w.heap.size wr fp ∧ Below w.heap.size w wr) (fun _ i _ => ts.length - (intOf i).toNat)
 case atStart => exact ⟨0, [], zgx _, rfl, Own.nil _ _ _ _, Fresh.nil _ _, zgz _ _⟩
 case round =>
  obtain ⟨k, fp, hkl, rfl, hown, hfr, hb⟩ := hrel; have hz := hb.size
  by_cases hlt : k < ts.length
  ·obtain ⟨b, off, rfl, hbs⟩ := hv.addr (by omega)
   obtain ⟨ka, kc, c0, c1, hss, hkk⟩ := (hv.below hb).at hlt
   have hbz : b < wr.heap.size := by omega
   have hks := Tm.size_mem (zgh hlt); go_wp2_with fail; refine (IH.out ts[k] _ _ (HN.out _ (zgh hlt)) (by omega) (by exact (TmR.mk hss hkk).below ((zgz _ _).alloc (zgo _) _))).mono ?_; rintro e w2 ⟨kv, fk, rfl, hrk, hfk, hb2⟩; obtain ⟨ka', kc', rfl, hd1, hd2⟩ := zaJ hrk; have hbw : Below wr.heap.size wr w2 := ((zgz _ _).alloc (zgo _) _).trans (hb2.mono (by simp)); have hz2 := hbw.size; have hown2 := (hown.below (hbw.alloc hz2 (.cells #[.string ts[k].name, .slice ka' ts[k].K.length kc'] 28))); have hrk2 := hrk.below (zb w2 (.cells #[.string ts[k].name, .slice ka' ts[k].K.length kc'] 28))
   have hl : ((ts.take k).map Tm.cd).length ≤ ts.length := by simp; omega
   go_wp2_with (at_builtin; refine zz zaU rfl _ _ rfl w.heap.size _ _ _ rfl hown2 ⟨w2.heap.size, 0, none⟩ 1 1 [ts[k].cd] [.string ts[k].name, .slice ka' ts[k].K.length kc'] fk rfl rfl ?rd ?k ?cells ?na ?bytes ?len ?base ?next)
   case rd => simpa using Tm.rdvs hss hrk2
   case k => simp [Tm.cd_len]
   case cells => exact zq _ _ _
   case na => exact hown.away (by simp) hfk
   case bytes => omega
   case len => omega
   case base => simp; omega
   case next =>
    intro v' w4 hown4 hg hv' hs4; go_wp2_with fail; go_roundw
    case rel =>
     refine ⟨k + 1, fp ++ fk, by omega, by go_num, ?_, ?_, ?_⟩
     ·rw [zgf hlt, zgj]; simpa using hown4
     ·exact ((Fresh.app (hfr.below hbw) hfr.lt hz (hfk.mono (by simp))).below (zb _ _)).same hs4
     ·exact zo ((hb.trans (hbw.mono hz)).alloc (by omega) _) hg (by simp; omega) (fun k hk => (hown.block hk).1)
    case measure => simp [intOf]; omega
  ·have he : ts.take k = ts := zgq (by omega)
   rw [he] at hown; go_wp2_with fail; go_ret; obtain ⟨fp', h1, h2, _⟩ := hown.fresh hfr; exact ⟨_, fp', rfl, h1, h2, hb⟩
theorem za6 (n : Nat) : ∀ (t : Tm) (v : Value) (w : World), t.size ≤ n → t.size ≤ 1000000000 → TmR w t v →
   Calls Tryz.prog 116 #[v] w fun e w' => ∃ kv fp, e = .returned (.agg #[.string t.name, kv]) ∧ Rd w' (.sl (t.K.map Tm.cd)) kv fp ∧ Fresh w.heap.size w' fp ∧ Below w.heap.size w w' := by
 induction n with
 | zero => intro t; have := t.size_pos; omega
 | succ n ih =>
  rintro t v w hn hbig ⟨kv, rfl, hs, hk⟩; obtain ⟨a, cap, rfl, hc1, hc2⟩ := hk.form
  have HK : Hid (∀ x ∈ t.K, x.size ≤ n) := fun x hx => by have := Tm.size_kid_mem hx; omega
  have hsz : Tm.sizes t.K ≤ 1000000000 := by rw [Tm.size_eq] at hbig; omega
  have IH := zgn ih; clear ih; go_enter Tryz.func116, Tryz.ntmps116; go_wp2_with fail
  go_region_with (go_at_call 117; refine (zca n IH.out t.K _ _ HK.out hsz (by exact hk.below (((zgz _ _).alloc (zgo _) _).alloc (by simp) _).drew)).mono ?_; rintro e w2 ⟨kv2, fp2, rfl, hr2, hf2, hb2⟩; obtain ⟨a2, cap2, rfl, hg1, hg2⟩ := zaJ hr2; obtain ⟨x0, x1, y0, y1, f0, f1, hz, hbb⟩ := boxed22 hb2)
  all_goals
   have hf3 := hf2.mono (lo' := w.heap.size + 1 + 1) (by simp); obtain ⟨z0, z1⟩ := za3 (.string t.name) (.slice a2 t.K.length cap2) y0 y1; have hs2 := zP (w := w2) (i := 0) (j := 1) (u := .string t.name) (v := .slice a2 t.K.length cap2) (hf3.ne (b := w.heap.size + 1) (by omega)); go_wp2_with fail; refine bodyPost_ret (v := .agg #[.string t.name, .slice a2 t.K.length cap2]) (by simp [results, Tryz.results116, go_sem, z0, z1]) rfl ⟨_, fp2, rfl, ?_, ?_, ?_⟩
   ·exact hr2.same _ hs2
   ·exact (hf3.same hs2).mono (by omega)
   ·exact ((hbb.setCell (by simp) _).setCell (by simp) _)
theorem zdA (n : Nat) : ∀ (t : Tm) (l : List Tm) (v lv : Value) (fp : List Nat) (base : Nat) (w : World), t.size ≤ n → l.length + t.size ≤ 1000000000 → base ≤ w.heap.size → Own w base 28 2 lv (l.map Tm.cd) fp → Fresh base w fp → TmRa lv.ownBlock w t v →
   Calls Tryz.prog 134 #[lv, v] w fun e w' => ∃ lv' fp', e = .returned lv' ∧ Own w' base 28 2 lv' ((Tm.addP l t).map Tm.cd) fp' ∧ Fresh base w' fp' ∧ Moved w lv w' lv' := by
 induction n with
 | zero => intro t; have := t.size_pos; omega
 | succ n ih =>
  rintro t l v lv fp base w hn hbig hbase hown hfr ⟨kv, rfl, hs, hk⟩; obtain ⟨a, cap, rfl, hc1, hc2⟩ := hk.toR.form; have IH := zgn ih; clear ih
  have hsz : Tm.sizes t.K + 1 = t.size := by rw [Tm.size_eq]; omega
  have HSZ := zgn hsz; clear hsz; have HF := zgn (Tm.addP_eq l t); have hba := zb w (.cells #[.string t.name, .slice a t.K.length cap] 28); have hlvb : ∀ b, lv.ownBlock = some b → b < w.heap.size := fun b h => (hown.block h).2; have HLV := zgn hlvb; clear hlvb; go_enter Tryz.func134, Tryz.ntmps134; go_wp2_with fail
  go_loopw [0, 10] (fun ov i wr => ∃ (k : Nat) (fp : List Nat), k ≤ t.K.length ∧ i = .int .i64 k ∧ Own wr base 28 2 ov ((Tm.addPs l (t.K.take k)).map Tm.cd) fp ∧ Fresh base wr fp ∧ Moved (w.alloc (.cells #[.string t.name, .slice a t.K.length cap] 28)) lv wr ov) (fun _ i _ => t.K.length - (intOf i).toNat)
  case atStart => exact ⟨0, fp, zgx _, rfl, hown.below hba, hfr.below hba, Moved.refl _ _⟩
  case round =>
   clear hown hfr fp; obtain ⟨k, fp, hkl, rfl, hown, hfr, hm⟩ := hrel; have hz := hm.size; simp only [zgs] at hz; have hln := Tm.addPs_len (t.K.take k) l; have hsk := Tm.sizes_take t.K k; have hsz2 := HSZ.out; have hkw := (hk.below hba).moved hm
   by_cases hlt : k < t.K.length
   ·obtain ⟨b, off, rfl, hbs, hbn⟩ := hkw.addr (by omega)
    obtain ⟨ka, kc, c0, c1, hss, hkk⟩ := hkw.at hlt
    have hks : t.K[k].size + Tm.sizes (t.K.take k) ≤ Tm.sizes t.K := by
     have h1 := Tm.sizes_take t.K (k + 1); rw [zgf hlt, Tm.sizes_append] at h1; simp only [Tm.sizes] at h1; omega
    go_wp2_with fail; refine (IH.out t.K[k] (Tm.addPs l (t.K.take k)) _ _ fp base _ (by omega) (by omega) (by simp; omega) (by exact hown.below (zb _ _)) (by exact hfr.below (zb _ _)) (by exact TmRa.mk hss (hkk.below (zb _ _)))).mono ?_; rintro e w2 ⟨lv2, fp2, rfl, hown2, hfr2, hm2⟩; go_wp2_with fail; go_roundw
    case rel => exact ⟨k + 1, fp2, by omega, by go_num, by rw [Tm.addPs_succ _ _ _ hlt]; exact hown2, hfr2, hm.trans (Moved.after (zb _ _) hm2)⟩
    case measure => simp [intOf]; omega
   ·have he : t.K.take k = t.K := zgq (by omega)
    rw [he] at hown hln; have x0 : wr.cell? ⟨w.heap.size, 0, none⟩ = some (.string t.name) := zbe hm HLV.out 0; have x1 : wr.cell? ⟨w.heap.size, 1, none⟩ = some (.slice a t.K.length cap) := zbe hm HLV.out 1; obtain ⟨fpr, hrd⟩ := hown.rd'; go_wp2_with fail; refine (zdx (Tm.addPs l t.K) t _ _ _ ⟨fpr, hrd⟩ (TmR.mk hs hkw.toR)).mono ?_; rintro e w2 ⟨⟨q, rfl, hq⟩, hb2⟩; have hbd := hq.bd; have hneg := hq.neg; have HNEG := zgn hneg; clear hneg hq; have hown2 := hown.below hb2; have hfr2 := hfr.below hb2; have hm2 := hm.below hb2; have hkw2 := hkw.below hb2; have x0' : w2.cell? ⟨w.heap.size, 0, none⟩ = some (.string t.name) := (hb2.cell (p := ⟨w.heap.size, 0, none⟩) (by simp; omega)).trans x0; have x1' : w2.cell? ⟨w.heap.size, 1, none⟩ = some (.slice a t.K.length cap) := (hb2.cell (p := ⟨w.heap.size, 1, none⟩) (by simp; omega)).trans x1; have hz2 := hb2.size; clear x0 x1 hown hfr hm hkw hrd
    by_cases hq0 : q < 0
    ·go_wp2_with fail
     refine (za6 t.size t _ _ (zgo _) (by omega) (TmR.mk hs hkw2.toR)).mono ?_; rintro e w3 ⟨kv3, fp3, rfl, hr3, hf3, hb3⟩; obtain ⟨a3, cap3, rfl, hg1, hg2⟩ := zaJ hr3; have hown3 := hown2.below (hb3.alloc hb3.size (.cells #[.string t.name, .slice a3 t.K.length cap3] 28)); have hr3' := hr3.below (zb w3 (.cells #[.string t.name, .slice a3 t.K.length cap3] 28)); have hz3 := hb3.size
     have hl3 : ((Tm.addPs l t.K).map Tm.cd).length ≤ 1000000000 := by rw [zgl]; omega
     go_wp2_with (at_builtin; refine zz zaU rfl _ _ rfl base _ _ _ rfl hown3 ⟨w3.heap.size, 0, none⟩ 1 1 [t.cd] [.string t.name, .slice a3 t.K.length cap3] fp3 rfl rfl ?rd ?k ?cells ?na ?bytes ?len ?base ?next)
     case rd => simpa using Tm.rdvs hs hr3'
     case k => simp [Tm.cd_len]
     case cells => exact zq _ _ _
     case na => exact hown2.away (by simp) hf3
     case bytes => omega
     case len => omega
     case base => simp; omega
     case next =>
      intro v' w4 hown4 hg hv' hs4; go_wp2_with fail; go_ret; refine ⟨v', _, rfl, ?_, ((Fresh.app (hfr2.below hb3) hfr2.lt (by omega) hf3).below (zb _ _)).same hs4, ?_⟩
      ·rw [HF.out, if_neg (HNEG.out.1 hq0)]; simpa using hown4
      ·exact Moved.after hba (hm2.trans (Moved.after (hb3.alloc hb3.size _) ⟨hg, by simpa using hv'⟩))
    ·go_wp2_with fail
     go_ret; refine ⟨_, _, rfl, ?_, hfr2, Moved.after hba hm2⟩; rw [HF.out, if_pos (by have := HNEG.out; exact Classical.byContradiction fun h => by have := this.2 h; omega)]; exact hown2
theorem zdB {α : Type} (p : α → Bool) (ts : List α) (k : Nat) (h : k < ts.length) : (ts.take (k + 1)).all p = ((ts.take k).all p && p ts[k]) := by
 rw [zgf h, List.all_append]; simp only [List.all_cons, List.all_nil, Bool.and_true]
theorem zdC (ts : List Tm) (v : Value) (w : World) (hbig : Tm.sizes ts ≤ 1000000000) (hv : TmsR w ts v) :
  Calls Tryz.prog 94 #[v] w fun e w' => ∃ rv fp, e = .returned rv ∧ Rd w' (.sl ((Tm.parts ts).map Tm.cd)) rv fp ∧ Fresh w.heap.size w' fp ∧ Below w.heap.size w w' := by
 obtain ⟨a, cap, rfl, hc1, hc2⟩ := hv.form; have HF := zgn (show Tm.parts ts = if ts.all Tm.wf then Tm.addPs [] ts else [] from rfl); go_enter Tryz.func94, Tryz.ntmps94; go_wp2_with fail
 go_loopw [3, 8] (fun ov i wr => ∃ (k : Nat) (fp : List Nat), k ≤ ts.length ∧ i = .int .i64 k ∧ Hid ((ts.take k).all Tm.wf = true) ∧ Own wr w.heap.size 28 2 ov ((Tm.addPs [] (ts.take k)).map Tm.cd) fp ∧ Fresh w.heap.size wr fp ∧ Below w.heap.size w wr) (fun _ i _ => ts.length - (intOf i).toNat)
 case atStart => exact ⟨0, [], zgx _, rfl, (by simp : (ts.take 0).all Tm.wf = true), Own.nil _ _ _ _, Fresh.nil _ _, zgz _ _⟩
 case round =>
  obtain ⟨k, fp, hkl, rfl, hall, hown, hfr, hb⟩ := hrel; have hz := hb.size; have hln := Tm.addPs_len (ts.take k) []; simp only [List.length_nil, Nat.zero_add] at hln; have hsk := Tm.sizes_take ts k
  by_cases hlt : k < ts.length
  ·obtain ⟨b, off, rfl, hbs⟩ := hv.addr (by omega)
   have hbz : b < wr.heap.size := by omega
   have hvw := hv.below hb
   have hva : TmsRa u3.ownBlock wr ts (.slice (some ⟨b, off, none⟩) ts.length cap) := by
    obtain ⟨f, hf⟩ := hv; exact ⟨f, hf.below hb, fun x hx e => by have := (hown.block e).1; have := hf.lt _ x hx; omega⟩
   obtain ⟨ka, kc, c0, c1, hss, hkk⟩ := hva.at hlt
   have hks : ts[k].size + Tm.sizes (ts.take k) ≤ Tm.sizes ts := by
    have h1 := Tm.sizes_take ts (k + 1); rw [zgf hlt, Tm.sizes_append] at h1; simp only [Tm.sizes] at h1; omega
   go_wp2_with fail; refine (zac ts[k] _ _ (by exact (TmR.mk hss hkk.toR).below (zb _ _))).mono ?_; rintro e w2 ⟨rfl, hb2⟩; have hbw : Below wr.heap.size wr w2 := (zb _ _).trans (hb2.mono (by simp)); have hb2' := hb2; rw [zgs] at hb2'; have x0 : w2.cell? ⟨wr.heap.size, 0, none⟩ = some (.string ts[k].name) := (box1 hb2').1 0; have x1 : w2.cell? ⟨wr.heap.size, 1, none⟩ = some (.slice ka ts[k].K.length kc) := (box1 hb2').1 1; clear hb2'; go_wp2_with fail
   ·have he : ts[k].wf = false := by simpa using ‹(!ts[k].wf) = true›
    go_ret; refine ⟨_, [], rfl, ?_, Fresh.nil _ _, hb.trans (hbw.mono hz)⟩
    have : ts.all Tm.wf = false := by rw [List.all_eq_false]; exact ⟨ts[k], zgh hlt, by simp [he]⟩
    rw [HF.out, if_neg (by simp [this])]; simp only [List.map_nil, Rd]; exact ⟨none, 0, rfl, by simp, by simp [maxLen], by simp⟩
   ·have he : ts[k].wf = true := by simpa using ‹(!ts[k].wf) = false›
    refine (zdA ts[k].size ts[k] (Tm.addPs [] (ts.take k)) _ _ fp w.heap.size _ (zgo _) (by omega) (by have := hbw.size; omega) (hown.below hbw) (hfr.below hbw) (TmRa.mk hss (hkk.below hbw))).mono ?_; rintro e w3 ⟨lv3, fp3, rfl, hown3, hfr3, hm3⟩; go_wp2_with fail; go_roundw
    case rel => exact ⟨k + 1, fp3, by omega, by go_num, (by rw [zdB _ _ _ hlt, hall.out, he]; rfl : (ts.take (k + 1)).all Tm.wf = true), by rw [Tm.addPs_succ _ _ _ hlt]; exact hown3, hfr3, (hb.trans (hbw.mono hz)).trans (hm3.toBelow (by have := hbw.size; omega) (fun b h => (hown.block h).1))⟩
    case measure => simp [intOf]; omega
  ·have he : ts.take k = ts := zgq (by omega)
   rw [he] at hown hall; go_wp2_with fail; go_ret; obtain ⟨fp', h1, h2, _⟩ := hown.fresh hfr; exact ⟨_, fp', rfl, by rw [HF.out, hall.out]; exact h1, h2, hb⟩
theorem zF (n : Nat) : ∀ (t : Tm) (v : Value) (w : World), t.size ≤ n → t.size ≤ 1000000000 → TmR w t v →
   Calls Tryz.prog 85 #[v] w fun e w' => ∃ kv fp, e = .returned (.agg #[.string t.name, kv]) ∧ Rd w' (.sl (t.K.map Tm.cd)) kv fp ∧ Fresh w.heap.size w' fp ∧ Below w.heap.size w w' := by
 induction n with
 | zero => intro t; have := t.size_pos; omega
 | succ n ih =>
  rintro t v w hn hbig ⟨kv, rfl, hs, hk⟩; obtain ⟨a, cap, rfl, hc1, hc2⟩ := hk.form; have IH := zgn ih; clear ih
  have hsz : Tm.sizes t.K < t.size := by rw [Tm.size_eq]; omega
  have hlen := Tm.sizes_len t.K; go_enter Tryz.func85, Tryz.ntmps85; go_wp2_with fail
  go_loopw [4] (fun i wr => ∃ (k : Nat) (fp : List Nat) (ov : Value), k ≤ t.K.length ∧ i = .int .i64 k ∧ Own wr (w.heap.size + 1 + 1 + 1) 28 2 ov ((t.K.take k).map Tm.cd) fp ∧ Fresh (w.heap.size + 1 + 1 + 1) wr fp ∧
   wr.cell? ⟨w.heap.size + 1 + 1, 0, none⟩ = some (.string t.name) ∧ wr.cell? ⟨w.heap.size + 1 + 1, 1, none⟩ = some ov ∧ wr.frozen? ⟨w.heap.size + 1 + 1, 1, none⟩ = false ∧
   w.heap.size + 1 + 1 + 1 ≤ wr.heap.size ∧ Below (w.heap.size + 1 + 1) ((w.alloc (.cells #[.string t.name, .slice a t.K.length cap] 28)).alloc (.cells #[.string ⟨#[]⟩, .slice none 0 0] 28)) wr) (fun i _ => t.K.length - (intOf i).toNat)
  case atStart => exact ⟨0, [], .slice none 0 0, zgx _, rfl, Own.nil _ _ _ _, Fresh.nil _ _, by simp [go_sem], by simp [go_sem], by simp [go_sem], by simp, (zgz _ _).alloc (by simp) _⟩
  case round =>
   obtain ⟨k, fp, ov, hkl, rfl, hown, hfr, y0, y1, f1, hz, hb'⟩ := hrel; obtain ⟨hx, hy, _, hb⟩ := box2 hb'; have x1 : wr.cell? ⟨w.heap.size, 1, none⟩ = some (.slice a t.K.length cap) := hx 1; have r0 : wr.cell? ⟨w.heap.size + 1, 0, none⟩ = some (.string ⟨#[]⟩) := hy 0; have r1 : wr.cell? ⟨w.heap.size + 1, 1, none⟩ = some (.slice none 0 0) := hy 1; have rf0 := (zJ hb' 0).2; have rf1 := (zJ hb' 1).2; clear hx hy
   by_cases hlt : k < t.K.length
   ·obtain ⟨b, off, rfl, hbs⟩ := hk.addr (by omega)
    obtain ⟨ka, kc, c0, c1, hss, hkk⟩ := (hk.below hb).at hlt; have hkn := Tm.size_kid hlt; go_wp2_with fail; have tok1 : True := trivial
    go_region_law (first
     | (have _t := @hown2; refine zO zaU rfl _ _ rfl (w.heap.size + 1 + 1 + 1) _ _ fp rfl (by exact hown2) ⟨w2.heap.size, 0, none⟩ 1 1 [t.K[k].cd] [.string t.K[k].name, .slice a3 t.K[k].K.length cap3] fp3 rfl rfl (by simpa using Tm.rdvs hss hr3') (by simp [Tm.cd_len]) (by exact zq _ _ _) (by exact hown.away (zgo _) hf3) (by have hl := zai Tm.cd t.K k; omega) (by have hl := zai Tm.cd t.K k; omega) (by simp; omega) ?_; intro v' w4 hown4 hg hv' hs4; obtain ⟨a4, n4, c4, rfl⟩ := hown4.form'; have hcb := zbw hb3 hg (b := w.heap.size + 1 + 1) (by omega) (hown.row_ne (by omega)); have y0' := ze hcb y0; have y1' := ze hcb y1; have f1' := zp hcb f1; clear hcb)
     | (have _t := tok1; clear _t tok1; go_simp; go_at_call 85; refine (IH.out t.K[k] _ _ (by omega) (by omega) (by exact (TmR.mk hss hkk).drew)).mono ?_; rintro e w2 ⟨kv3, fp3, rfl, hr3, hf3, hb3⟩; obtain ⟨a3, cap3, rfl, hg1, hg2⟩ := zaJ hr3; have hb3 := zc hb3; have hz2 := hb3.size; have hlz : w.heap.size + 1 + 1 < w2.heap.size := (by omega); have hbk := hb3.block (w.heap.size + 1 + 1) (by omega); have y0w := ze hbk y0; have y1w := ze hbk y1; have f1w := zp hbk f1; clear hbk; have hown2 := hown.below (hb3.alloc hb3.size (.cells #[.string t.K[k].name, .slice a3 t.K[k].K.length cap3] 28)); have hr3' := hr3.below (zb w2 (.cells #[.string t.K[k].name, .slice a3 t.K[k].K.length cap3] 28))))
    all_goals
     have hfr4 := ((Fresh.app (hfr.below hb3) hfr.lt hz hf3).below (zb w2 (.cells #[.string t.K[k].name, .slice a3 t.K[k].K.length cap3] 28))).same hs4; have hsz4 := hg.size; simp only [zgs] at hsz4; have hown5 := hown4.set_other hfr4 (b := w.heap.size + 1 + 1) (j := 1) (u := .slice a4 n4 c4) (by omega); have hfr5 := hfr4.same (zD (a := ⟨w.heap.size + 1 + 1, 1, none⟩) (v := .slice a4 n4 c4) (hfr4.ne (by simp))); have y0'' := (zgt w4 ⟨w.heap.size + 1 + 1, 1, none⟩ ⟨w.heap.size + 1 + 1, 0, none⟩ (.slice a4 n4 c4) (by simp)).trans y0'; have y1'' := zgu w4 ⟨w.heap.size + 1 + 1, 1, none⟩ (.slice a4 n4 c4) y1'; have hb5 : Below (w.heap.size + 1 + 1) ((w.alloc (.cells #[.string t.name, .slice (some ⟨b, off, none⟩) t.K.length cap] 28)).alloc (.cells #[.string ⟨#[]⟩, .slice none 0 0] 28)) (w4.setCell ⟨w.heap.size + 1 + 1, 1, none⟩ (.slice a4 n4 c4)) := (zo ((hb'.trans (hb3.mono (by omega))).alloc (by omega) _) hg (by simp; omega) (fun q hq => by have := (hown.block hq).1; omega)).setCell (by simp) _; go_wp2_with fail; go_roundw
     case rel => exact ⟨k + 1, fp ++ fp3, .slice a4 n4 c4, by omega, by go_num, by rw [zgf hlt, zgj]; simpa using hown5, hfr5, y0'', y1'', by simp [go_sem, f1'], by simp [World.setCell]; omega, hb5⟩
     case measure => simp [intOf]; omega
   ·have he : t.K.take k = t.K := zgq (by omega)
    rw [he] at hown; obtain ⟨oa, on, oc, rfl⟩ := hown.form'; obtain ⟨fp', hr', hf', hi'⟩ := hown.fresh hfr; obtain ⟨z0, z1⟩ := za3 (.string t.name) (.slice oa on oc) r0 r1; have hs2 := zP (w := wr) (i := 0) (j := 1) (u := .string t.name) (v := .slice oa on oc) (hf'.ne (b := w.heap.size + 1) (by omega)); go_wp2_with fail; refine bodyPost_ret (v := .agg #[.string t.name, .slice oa on oc]) (by simp [results, Tryz.results85, go_sem, z0, z1]) rfl ⟨_, fp', rfl, ?_, ?_, ?_⟩
    ·exact hr'.same _ hs2
    ·exact (hf'.same hs2).mono (by omega)
    ·exact ((hb.setCell (by simp) _).setCell (by simp) _)
theorem zeE (n : Nat) : ∀ (t : Tm) (l : List Tm) (v lv : Value) (fp : List Nat) (base : Nat) (w : World), t.size ≤ n → l.length + t.size ≤ 1000000000 → base ≤ w.heap.size → Own w base 28 2 lv (l.map Tm.cd) fp → Fresh base w fp → TmRa lv.ownBlock w t v →
   Calls Tryz.prog 142 #[lv, v] w fun e w' => ∃ lv' fp', e = .returned lv' ∧ Own w' base 28 2 lv' ((Tm.addP l t).map Tm.cd) fp' ∧ Fresh base w' fp' ∧ Moved w lv w' lv' := by
 induction n with
 | zero => intro t; have := t.size_pos; omega
 | succ n ih =>
  rintro t l v lv fp base w hn hbig hbase hown hfr ⟨kv, rfl, hs, hk⟩; obtain ⟨a, cap, rfl, hc1, hc2⟩ := hk.toR.form; have IH := zgn ih; clear ih
  have hsz : Tm.sizes t.K + 1 = t.size := by rw [Tm.size_eq]; omega
  have HSZ := zgn hsz; clear hsz; have HF := zgn (Tm.addP_eq l t); have hba := zb w (.cells #[.string t.name, .slice a t.K.length cap] 28); have hlvb : ∀ b, lv.ownBlock = some b → b < w.heap.size := fun b h => (hown.block h).2; have HLV := zgn hlvb; clear hlvb; go_enter Tryz.func142, Tryz.ntmps142; go_wp2_with fail
  go_loopw [0, 5] (fun ov i wr => ∃ (k : Nat) (fp : List Nat), k ≤ t.K.length ∧ i = .int .i64 k ∧ Own wr base 28 2 ov ((Tm.addPs l (t.K.take k)).map Tm.cd) fp ∧ Fresh base wr fp ∧ Moved (w.alloc (.cells #[.string t.name, .slice a t.K.length cap] 28)) lv wr ov) (fun _ i _ => t.K.length - (intOf i).toNat)
  case atStart => exact ⟨0, fp, zgx _, rfl, hown.below hba, hfr.below hba, Moved.refl _ _⟩
  case round =>
   clear hown hfr fp; obtain ⟨k, fp, hkl, rfl, hown, hfr, hm⟩ := hrel; have hz := hm.size; simp only [zgs] at hz; have hln := Tm.addPs_len (t.K.take k) l; have hsk := Tm.sizes_take t.K k; have hsz2 := HSZ.out; have hkw := (hk.below hba).moved hm; have x0 : wr.cell? ⟨w.heap.size, 0, none⟩ = some (.string t.name) := zbe hm HLV.out 0; have x1 : wr.cell? ⟨w.heap.size, 1, none⟩ = some (.slice a t.K.length cap) := zbe hm HLV.out 1
   by_cases hlt : k < t.K.length
   ·obtain ⟨b, off, rfl, hbs, hbn⟩ := hkw.addr (by omega)
    obtain ⟨ka, kc, c0, c1, hss, hkk⟩ := hkw.at hlt
    have hks : t.K[k].size + Tm.sizes (t.K.take k) ≤ Tm.sizes t.K := by
     have h1 := Tm.sizes_take t.K (k + 1); rw [zgf hlt, Tm.sizes_append] at h1; simp only [Tm.sizes] at h1; omega
    go_wp2_with fail; refine (IH.out t.K[k] (Tm.addPs l (t.K.take k)) _ _ fp base _ (by omega) (by omega) (by omega) hown hfr (TmRa.mk hss hkk)).mono ?_; rintro e w2 ⟨lv2, fp2, rfl, hown2, hfr2, hm2⟩; go_wp2_with fail; go_roundw
    case rel => exact ⟨k + 1, fp2, by omega, by go_num, by rw [Tm.addPs_succ _ _ _ hlt]; exact hown2, hfr2, hm.trans hm2⟩
    case measure => simp [intOf]; omega
   ·have he : t.K.take k = t.K := zgq (by omega)
    rw [he] at hown hln; obtain ⟨fpr, hrd⟩ := hown.rd'; go_wp2_with fail; refine (zeC (Tm.addPs l t.K) t _ _ _ ⟨fpr, hrd⟩ (TmR.mk hs hkw.toR)).mono ?_; rintro e w2 ⟨⟨q, rfl, hq⟩, hb2⟩; have hbd := hq.bd; have hneg := hq.neg; have HNEG := zgn hneg; clear hneg hq; have hown2 := hown.below hb2; have hfr2 := hfr.below hb2; have hm2 := hm.below hb2; have hkw2 := hkw.below hb2; have x0' : w2.cell? ⟨w.heap.size, 0, none⟩ = some (.string t.name) := (hb2.cell (p := ⟨w.heap.size, 0, none⟩) (by simp; omega)).trans x0; have x1' : w2.cell? ⟨w.heap.size, 1, none⟩ = some (.slice a t.K.length cap) := (hb2.cell (p := ⟨w.heap.size, 1, none⟩) (by simp; omega)).trans x1; have hz2 := hb2.size; clear x0 x1 hown hfr hm hkw hrd
    by_cases hq0 : q < 0
    ·go_wp2_with fail
     refine (zF t.size t _ _ (zgo _) (by omega) (TmR.mk hs hkw2.toR)).mono ?_; rintro e w3 ⟨kv3, fp3, rfl, hr3, hf3, hb3⟩; obtain ⟨a3, cap3, rfl, hg1, hg2⟩ := zaJ hr3; have hown3 := hown2.below (hb3.alloc hb3.size (.cells #[.string t.name, .slice a3 t.K.length cap3] 28)); have hr3' := hr3.below (zb w3 (.cells #[.string t.name, .slice a3 t.K.length cap3] 28)); have hz3 := hb3.size
     have hl3 : ((Tm.addPs l t.K).map Tm.cd).length ≤ 1000000000 := by rw [zgl]; omega
     go_wp2_with (at_builtin; refine zz zaU rfl _ _ rfl base _ _ _ rfl hown3 ⟨w3.heap.size, 0, none⟩ 1 1 [t.cd] [.string t.name, .slice a3 t.K.length cap3] fp3 rfl rfl ?rd ?k ?cells ?na ?bytes ?len ?base ?next)
     case rd => simpa using Tm.rdvs hs hr3'
     case k => simp [Tm.cd_len]
     case cells => exact zq _ _ _
     case na => exact hown2.away (by simp) hf3
     case bytes => omega
     case len => omega
     case base => simp; omega
     case next =>
      intro v' w4 hown4 hg hv' hs4; go_wp2_with fail; go_ret; refine ⟨v', _, rfl, ?_, ((Fresh.app (hfr2.below hb3) hfr2.lt (by omega) hf3).below (zb _ _)).same hs4, ?_⟩
      ·rw [HF.out, if_neg (HNEG.out.1 hq0)]; simpa using hown4
      ·exact Moved.after hba (hm2.trans (Moved.after (hb3.alloc hb3.size _) ⟨hg, by simpa using hv'⟩))
    ·go_wp2_with fail
     go_ret; refine ⟨_, _, rfl, ?_, hfr2, Moved.after hba hm2⟩; rw [HF.out, if_pos (by have := HNEG.out; exact Classical.byContradiction fun h => by have := this.2 h; omega)]; exact hown2
theorem zbR {w : World} {b n c k : Nat} {es : List (List CD)} {vs : List Value} {f : List Nat} (hc : ∀ j u, vs[j]? = some u → w.cell? ⟨b, j, none⟩ = some u) (h : RdVs w es.flatten vs f) (hne : es ≠ []) (hn : n = es.length) (hcap : es.length ≤ c) (hm : c ≤ 9223372036854775807) (hb : b < w.heap.size) :
  Rd w (.sl es) (.slice (some ⟨b, 0, none⟩) n c) (b :: f) := by
 simp only [Rd]; exact ⟨_, c, by rw [hn], hcap, by simpa [maxLen] using hm, .inr ⟨hne, b, 0, f, rfl, hb, rfl, RdRows.mk (k := k) (fun j u hu => by rw [Nat.zero_add]; exact hc j u hu) h⟩⟩
theorem zfa {w : World} {α : Type} {cd : α → List CD} (a : Option Addr) : Rd w (.sl (([] : List α).map cd)) (.slice a 0 0) [] := by
 simp only [List.map_nil, Rd]; exact ⟨a, 0, rfl, by simp, by simp [maxLen], by simp⟩
/-- Words that are drawn: few, of few arguments. -/
def Sg.few (s : Sg) : Prop := s.Y.length ≤ 5 ∧ ∀ y ∈ s.Y, y.args.length ≤ 2
theorem zx (w : World) (vs : List Value) (T : Nat) (j : Nat) (u : Value) (h : vs[j]? = some u) : (w.alloc (.cells vs.toArray T)).cell? ⟨w.heap.size, j, none⟩ = some u := by
 rw [zt]; simpa using h
theorem sym0 (w : World) (nm : ByteArray) (k : Int) (h : nm.size ≤ 9223372036854775807) (hk : -9223372036854775808 ≤ k ∧ k ≤ 9223372036854775807) : RdVs w (Sy.cd ⟨nm, [], k⟩) [.string nm, .slice none 0 0, .int .i64 k] [] :=
 Sy.close (x := ⟨nm, [], k⟩) (f1 := []) (by simpa [maxLen] using h) (zfa none) hk
theorem zfb {w : World} : ∀ (l : List Int), (∀ x ∈ l, I64 x) → RdVs w (l.map zv).flatten (l.map (Value.int .i64)) []
 | [], _ => by simp only [List.map_nil, List.flatten_nil, RdVs]; exact ⟨trivial, trivial⟩
 | x :: l, h => by
  have := (RdVs.single (w := w) (d := .int x) (v := .int .i64 x) (fp := []) (by simp only [Rd]; exact ⟨trivial, h x (by simp), trivial⟩)).app (zfb l (fun y hy => h y (by simp [hy])))
  simpa [zv] using this
theorem sym1 (w : World) (nm : ByteArray) (l : List Int) (k : Int) (b : Nat) (h : nm.size ≤ 9223372036854775807) (hk : -9223372036854775808 ≤ k ∧ k ≤ 9223372036854775807) (hne : l ≠ []) (hl : l.length ≤ 1000) (ha : ∀ x ∈ l, I64 x) (hb : b < w.heap.size)
  (hc : ∀ j u, (l.map (Value.int .i64))[j]? = some u → w.cell? ⟨b, j, none⟩ = some u) : RdVs w (Sy.cd ⟨nm, l, k⟩) [.string nm, .slice (some ⟨b, 0, none⟩) l.length l.length, .int .i64 k] [b] :=
 Sy.close (x := ⟨nm, l, k⟩) (f1 := [b]) (by simpa [maxLen] using h) (zbR (k := 1) hc (zfb l ha) (by simpa using hne) (by simp) (by simp) (by omega) hb) hk
theorem Only.undrew {w w' : World} {fp : List Nat} (h : Only fp w.drew w') : Only fp w w' := ⟨h.os, h.tape, h.output, h.size, h.block⟩
theorem Only.set_new {w w' : World} {rb b i : Nat} {u : Value} (h : Only [rb] w w') (hb : w.heap.size ≤ b) : Only [rb] w (w'.setCell ⟨b, i, none⟩ u) :=
 ⟨h.os, h.tape, h.output, by simpa [World.setCell] using h.size, fun q hq hn => (Below.heap_setCell _ _ _ _ (by show q ≠ b; omega)).trans (h.block q hq hn)⟩
theorem Rdr.set {w : World} {rb p b i : Nat} {u : Value} (h : Rdr w rb p) (hb : rb < b) : Rdr (w.setCell ⟨b, i, none⟩ u) rb p := h.same (fun q hq => Below.heap_setCell _ _ _ _ (by show q ≠ b; omega))
theorem Only.free {w w' : World} {rb b i : Nat} {f : Bool} (h : Only [rb] w w') (hc : w.frozen? ⟨b, i, none⟩ = f) (hb : b < w.heap.size) (hne : b ≠ rb) : w'.frozen? ⟨b, i, none⟩ = f := zp (h.block b hb (by simpa using hne)) hc
theorem zaA {wr w2 w4 : World} {o : Obj} {row : Option Nat} {b rb : Nat} (ho : Only [rb] wr w2) (hg : (w2.alloc o).grownBy w4 row) (hl : b < wr.heap.size) (hb : b ≠ rb) (hn : row ≠ some b) : w4.heap[b]? = wr.heap[b]? := by
 have h1 : b < w2.heap.size := zge hl ho.size; exact ((hg.block b (by simp; omega) (fun e => hn e.symm)).trans ((zb w2 o).block b h1)).trans (ho.block b hl (by simpa using hb))
def pcap : Nat → Nat | 0 => 0 | n + 1 => 1 + 2 * pcap n
theorem Fresh.notin {lo rb : Nat} {w : World} {fp : List Nat} (h : Fresh lo w fp) (hl : rb < lo) : rb ∉ fp := fun hm => by have := (h.2 _ hm).1; omega
theorem Own.set_row {w : World} {base e k : Nat} {v : Value} {es : List (List CD)} {fp : List Nat} (h : Own w base e k v es fp) {b j : Nat} {u : Value} (hb : b < base) (hn : b ∉ fp) : Own (w.setCell ⟨b, j, none⟩ u) base e k v es fp :=
 h.same (zD (fun x hx (e : x = b) => hn (e ▸ hx))) fun x hx => Below.heap_setCell _ _ _ _ (by have := (h.block hx).1; show x ≠ b; omega)
def Sg.words (s : Sg) (so deep : Int) (k : Nat) : List Sy := (s.Y.take k).filter fun y => (y.sort == so) && (decide (1 < deep) || ((y.args.length : Int) == 0))
theorem Sg.words_yes {s : Sg} {so deep : Int} {k : Nat} (hk : k < s.Y.length) (h : ((s.Y[k].sort == so) && (decide (1 < deep) || ((s.Y[k].args.length : Int) == 0))) = true) : s.words so deep (k + 1) = s.words so deep k ++ [s.Y[k]] := by
 unfold Sg.words; rw [zgf hk, List.filter_append, List.filter_cons, if_pos h, List.filter_nil]
theorem Sg.words_no {s : Sg} {so deep : Int} {k : Nat} (hk : k < s.Y.length) (h : ((s.Y[k].sort == so) && (decide (1 < deep) || ((s.Y[k].args.length : Int) == 0))) = false) : s.words so deep (k + 1) = s.words so deep k := by
 unfold Sg.words; rw [zgf hk, List.filter_append, List.filter_cons, if_neg (by simp [h]), List.filter_nil, List.append_nil]
theorem Sg.words_len (s : Sg) (so deep : Int) (k : Nat) : (s.words so deep k).length ≤ s.Y.length := by
 unfold Sg.words; have h1 := List.length_filter_le (fun y : Sy => (y.sort == so) && (decide (1 < deep) || ((y.args.length : Int) == 0))) (s.Y.take k); have h2 : (s.Y.take k).length ≤ s.Y.length := by simp; omega
 omega
theorem Sg.words_mem {s : Sg} {so deep : Int} {k : Nat} {y : Sy} (h : y ∈ s.words so deep k) : y ∈ s.Y ∧ (0 < y.args.length → 1 < deep) := by
 unfold Sg.words at h; rw [List.mem_filter] at h; refine ⟨List.mem_of_mem_take h.1, fun h0 => ?_⟩; have h2 := h.2; simp only [zgm, Bool.or_eq_true, decide_eq_true_eq, beq_iff_eq] at h2; omega
/-- Block lb, made after the reader, holds vs, and may be written. -/
def Lst (rb : Nat) (vs : List Value) (lb : Nat) (w : World) : Prop := rb < lb ∧ lb < w.heap.size ∧ (∀ j u, vs[j]? = some u → w.cell? ⟨lb, j, none⟩ = some u) ∧ ∀ j, w.frozen? ⟨lb, j, none⟩ = false
theorem Lst.new {w : World} {rb : Nat} (h : rb < w.heap.size) (vs : List Value) (T : TypeId) : Lst rb vs w.heap.size (w.alloc (.cells vs.toArray T)) :=
 ⟨h, by simp, fun j u hu => zx w vs T j u hu, fun j => zR _ _ _ _⟩
theorem Lst.new1 {w : World} {rb : Nat} (h : rb < w.heap.size) (o : Obj) (vs : List Value) (T : TypeId) : Lst rb vs (w.heap.size + 1) ((w.alloc o).alloc (.cells vs.toArray T)) := by
 have h1 := Lst.new (w := w.alloc o) (rb := rb) (by rw [zgs]; omega) vs T; rw [zgs] at h1; exact h1
theorem Lst.below {w w' : World} {rb lb : Nat} {vs : List Value} (h : Lst rb vs lb w) (hb : Below w.heap.size w w') : Lst rb vs lb w' :=
 ⟨h.1, zge h.2.1 hb.size, fun j u hu => za (h.2.2.1 j u hu) hb, fun j => (zk (hb.block lb h.2.1)).trans (h.2.2.2 j)⟩
theorem Lst.alloc {w : World} {rb lb : Nat} {vs : List Value} (h : Lst rb vs lb w) (o : Obj) : Lst rb vs lb (w.alloc o) := h.below (zb w o)
theorem Only.cellk {w w' : World} {rb b i : Nat} {u : Value} (h : Only [rb] w w') (hc : w.cell? ⟨b, i, none⟩ = some u) (hne : b ≠ rb) : w'.cell? ⟨b, i, none⟩ = some u := h.keep hc (World.block_lt_of_cell? w _ hc) hne
theorem Lst.drew {w : World} {rb lb : Nat} {vs : List Value} (h : Lst rb vs lb w) : Lst rb vs lb w.drew := h
theorem zam {w : World} {o : Obj} {a : Addr} {v : Value} (h : w.cell? a = some v) : (w.alloc o).cell? a = some v := (zgv (w := w) ((zb w o).block a.block (World.block_lt_of_cell? w _ h))).trans h
theorem zbS {w : World} {a : Addr} {v : Value} (h : w.cell? a = some v) : w.drew.cell? a = some v := h
theorem Lst.only {w w' : World} {rb lb : Nat} {vs : List Value} (h : Lst rb vs lb w) (ho : Only [rb] w w') : Lst rb vs lb w' :=
 ⟨h.1, zge h.2.1 ho.size, fun j u hu => ho.cellk (h.2.2.1 j u hu) (by have := h.1; omega), fun j => ho.free (h.2.2.2 j) h.2.1 (by have := h.1; omega)⟩
theorem Lst.use {G : Prop} {w w' : World} {rb lb : Nat} {vs : List Value} (ho : Only [rb] w w') (h : Lst rb vs lb w) (k : lb < w.heap.size → Lst rb vs lb w' → G) : G := k h.2.1 (h.only ho)
theorem num_l (xs : List Int) (vs : List Value) (hv : vs = xs.map (Value.int .i64)) (rb p lb : Nat) (w : World) (hp : p ≤ 1000000000) (h0 : 1 ≤ xs.length) (h1 : xs.length ≤ 1000) (hl : Lst rb vs lb w) (h : Rdr w rb p) :
  Calls Tryz.prog 71 #[.pointer (some ⟨rb, 0, none⟩), .slice (some ⟨lb, 0, none⟩) xs.length xs.length] w fun e w' => (∃ x, x ∈ xs ∧ e = .returned (.int .i64 x)) ∧ Rdr w' rb (p + 1) ∧ Only [rb] w w' :=
 num_any xs rb p lb w hp h0 h1 (by have := hl.1; omega) hl.2.1 (fun i hi => hl.2.2.1 i _ (by rw [hv, List.getElem?_map, zgp hi]; rfl)) h
theorem of_l (xs : List ByteArray) (vs : List Value) (hv : vs = xs.map Value.string) (rb p lb : Nat) (w : World) (hp : p ≤ 1000000000) (h0 : 1 ≤ xs.length) (h1 : xs.length ≤ 1000) (hl : Lst rb vs lb w) (h : Rdr w rb p) :
  Calls Tryz.prog 111 #[.pointer (some ⟨rb, 0, none⟩), .slice (some ⟨lb, 0, none⟩) xs.length xs.length] w fun e w' => (∃ x, x ∈ xs ∧ e = .returned (.string x)) ∧ Rdr w' rb (p + 1) ∧ Only [rb] w w' :=
 of_any xs rb p lb w hp h0 h1 (by have := hl.1; omega) hl.2.1 (fun i hi => hl.2.2.1 i _ (by rw [hv, List.getElem?_map, zgp hi]; rfl)) h
theorem Own.set_ne {w : World} {base e k : Nat} {v : Value} {es : List (List CD)} {fp : List Nat} (h : Own w base e k v es fp) {b j : Nat} {u : Value} (hn : b ∉ fp) (ho : v.ownBlock ≠ some b) : Own (w.setCell ⟨b, j, none⟩ u) base e k v es fp :=
 h.same (zD (fun x hx (e : x = b) => hn (e ▸ hx))) fun x hx => Below.heap_setCell _ _ _ _ (fun e : x = b => ho (e ▸ hx))
theorem Fresh.set_ne {w : World} {lo : Nat} {fp : List Nat} (h : Fresh lo w fp) {b j : Nat} {u : Value} (hn : b ∉ fp) : Fresh lo (w.setCell ⟨b, j, none⟩ u) fp := h.same (zD (fun x hx (e : x = b) => hn (e ▸ hx)))
/-- Behind an append to what the variable bt holds, stored into the variable. -/
theorem zeq {w U w7 : World} {rb q R bt base mid : Nat} {kv v7 x0 x1 y0 y1 : Value} {es es' : List (List CD)} {fo fn : List Nat} {T : TypeId} {f0 f1 : Bool}
  (hg : U.grownBy w7 kv.ownBlock) (hv7 : ∀ b, v7.ownBlock = some b → kv.ownBlock = some b ∨ U.heap.size ≤ b) (hs7 : SameOn (fo ++ fn) U w7) (hown : Own U base T 2 kv es fo) (hown7 : Own w7 base T 2 v7 es' (fo ++ fn)) (hfo : Fresh base U fo)
  (hfm : ∀ b ∈ fo, b < mid) (hbm : base ≤ mid) (hfn : Fresh mid U fn) (hbt : bt < mid) (hnfo : bt ∉ fo) (hnow : kv.ownBlock ≠ some bt) (hbtU : bt < U.heap.size) (hr : Rdr U rb q) (hrt : rb < bt) (hrb : rb < base) (hN : Only [rb] w U) (hwb : w.heap.size ≤ base) (hwt : w.heap.size ≤ bt)
  (hR : R < base) (hRU : R < U.heap.size) (hRt : R ≠ bt) (t0 : U.cell? ⟨bt, 0, none⟩ = some x0) (t1 : U.cell? ⟨bt, 1, none⟩ = some x1) (tf1 : U.frozen? ⟨bt, 1, none⟩ = false) (q0 : U.cell? ⟨R, 0, none⟩ = some y0) (q1 : U.cell? ⟨R, 1, none⟩ = some y1) (qf0 : U.frozen? ⟨R, 0, none⟩ = f0) (qf1 : U.frozen? ⟨R, 1, none⟩ = f1) :
  (w7.cell? ⟨bt, 1, none⟩ = some x1 ∧ w7.frozen? ⟨bt, 1, none⟩ = false ∧ w7.frozen? ⟨R, 0, none⟩ = f0 ∧ w7.frozen? ⟨R, 1, none⟩ = f1 ∧ w7.cell? ⟨R, 0, none⟩ = some y0 ∧ w7.cell? ⟨R, 1, none⟩ = some y1 ∧ w7.cell? ⟨bt, 0, none⟩ = some x0) ∧
  Own (w7.setCell ⟨bt, 1, none⟩ v7) base T 2 v7 es' (fo ++ fn) ∧ Fresh base (w7.setCell ⟨bt, 1, none⟩ v7) (fo ++ fn) ∧ Rdr (w7.setCell ⟨bt, 1, none⟩ v7) rb q ∧ Only [rb] w (w7.setCell ⟨bt, 1, none⟩ v7) ∧
  (w7.setCell ⟨bt, 1, none⟩ v7).cell? ⟨bt, 0, none⟩ = some x0 ∧ (w7.setCell ⟨bt, 1, none⟩ v7).cell? ⟨bt, 1, none⟩ = some v7 ∧ (w7.setCell ⟨bt, 1, none⟩ v7).cell? ⟨R, 0, none⟩ = some y0 ∧ (w7.setCell ⟨bt, 1, none⟩ v7).cell? ⟨R, 1, none⟩ = some y1 := by
 have hro : ∀ b, kv.ownBlock = some b → base ≤ b := fun b h => (hown.block h).1
 have hRo : kv.ownBlock ≠ some R := fun h => by have := hro _ h; omega
 have c0 := zr hg t0 hnow; have c1 := zr hg t1 hnow; have d0 := zr hg q0 hRo; have d1 := zr hg q1 hRo
 have hnf : bt ∉ fo ++ fn := fun h => by
  rcases zgg.1 h with h | h
  ·exact hnfo h
  ·have := (hfn.2 _ h).1; omega
 have hn7 : v7.ownBlock ≠ some bt := fun h => by
  rcases hv7 _ h with h1 | h1
  ·exact hnow h1
  ·omega
 have hfr := (Fresh.app hfo hfm hbm hfn).same hs7; refine ⟨⟨c1, zH hg hbtU tf1 hnow, zH hg hRU qf0 hRo, zH hg hRU qf1 hRo, d0, d1, c0⟩, hown7.set_ne hnf hn7, hfr.set_ne hnf, (hr.grown hg (fun b h => by have := hro b h; omega)).set hrt, (hN.grown hg (fun b h => by have := hro b h; omega)).set_new hwt, ?_, ?_, ?_, ?_⟩
 ·exact (zgt w7 ⟨bt, 1, none⟩ ⟨bt, 0, none⟩ v7 (by simp)).trans c0
 ·exact zgu w7 ⟨bt, 1, none⟩ v7 c1
 ·exact (zgt w7 ⟨bt, 1, none⟩ ⟨R, 0, none⟩ v7 (by intro e; simp only [Addr.mk.injEq] at e; exact hRt e.1.symm)).trans d0
 ·exact (zgt w7 ⟨bt, 1, none⟩ ⟨R, 1, none⟩ v7 (by intro e; simp only [Addr.mk.injEq] at e; exact hRt e.1.symm)).trans d1
theorem zfP {w wr : World} {cs ds es : List Value} {T U V : TypeId} (hb : Below (w.heap.size + 1 + 1 + 1) (((w.alloc (.cells cs.toArray T)).alloc (.cells ds.toArray U)).alloc (.cells es.toArray V)) wr) :
  (∀ j x, cs[j]? = some x → wr.cell? ⟨w.heap.size, j, none⟩ = some x) ∧ (∀ j x, ds[j]? = some x → wr.cell? ⟨w.heap.size + 1, j, none⟩ = some x) ∧ (∀ j x, es[j]? = some x → wr.cell? ⟨w.heap.size + 1 + 1, j, none⟩ = some x) ∧
  (∀ j, wr.frozen? ⟨w.heap.size + 1 + 1, j, none⟩ = false) ∧ w.heap.size + 1 + 1 + 1 ≤ wr.heap.size ∧ Below w.heap.size w wr := by
 have hs : (((w.alloc (.cells cs.toArray T)).alloc (.cells ds.toArray U)).alloc (.cells es.toArray V)).heap.size = w.heap.size + 1 + 1 + 1 := by simp
 have hb' : Below (((w.alloc (.cells cs.toArray T)).alloc (.cells ds.toArray U)).alloc (.cells es.toArray V)).heap.size (((w.alloc (.cells cs.toArray T)).alloc (.cells ds.toArray U)).alloc (.cells es.toArray V)) wr := by rw [hs]; exact hb
 have h2 := zx (w.alloc (.cells cs.toArray T)) ds U; have h3 := zx ((w.alloc (.cells cs.toArray T)).alloc (.cells ds.toArray U)) es V; have h4 := zR ((w.alloc (.cells cs.toArray T)).alloc (.cells ds.toArray U)) es.toArray V; rw [zgs] at h2; rw [zgs, zgs] at h3 h4; refine ⟨fun j x hx => za (zam (zam (zx w cs T j x hx))) hb', fun j x hx => za (zam (h2 j x hx)) hb', fun j x hx => za (h3 j x hx) hb', fun j => (zk (hb'.block _ (by rw [hs]; omega))).trans (h4 j), by have := hb'.size; omega, ?_⟩; exact ((((zgz _ _).alloc (zgo _) _).alloc (by simp) _).alloc (by simp; omega) _).trans (hb.mono (by omega))
/-- In the midst of l6Put: the new sum in its box, its rows the call's own. -/
structure PutSt (w W3 U : World) (kind bound : Int) (strict : Bool) (ns : List Tm) (ts : List Int) (vn vt : Value) (fn : List Nat) : Prop where
 bel : Below (w.heap.size + 1 + 1 + 1) W3 U
 c0 : U.cell? ⟨w.heap.size + 1 + 1 + 1, 0, none⟩ = some (.int .i64 kind)
 c1 : U.cell? ⟨w.heap.size + 1 + 1 + 1, 1, none⟩ = some (.string ⟨#[]⟩)
 c2 : U.cell? ⟨w.heap.size + 1 + 1 + 1, 2, none⟩ = some (.slice none 0 0)
 c3 : U.cell? ⟨w.heap.size + 1 + 1 + 1, 3, none⟩ = some (.string ⟨#[]⟩)
 c4 : U.cell? ⟨w.heap.size + 1 + 1 + 1, 4, none⟩ = some (.slice none 0 0)
 c5 : U.cell? ⟨w.heap.size + 1 + 1 + 1, 5, none⟩ = some vn
 c6 : U.cell? ⟨w.heap.size + 1 + 1 + 1, 6, none⟩ = some vt
 c7 : U.cell? ⟨w.heap.size + 1 + 1 + 1, 7, none⟩ = some (.int .i64 bound)
 c8 : U.cell? ⟨w.heap.size + 1 + 1 + 1, 8, none⟩ = some (.bool strict)
 z5 : U.frozen? ⟨w.heap.size + 1 + 1 + 1, 5, none⟩ = false
 z6 : U.frozen? ⟨w.heap.size + 1 + 1 + 1, 6, none⟩ = false
 own1 : Own U (w.heap.size + 1 + 1 + 1 + 1) 28 2 vn (ns.map Tm.cd) fn
 own2 : Own U (w.heap.size + 1 + 1 + 1 + 1) 3 1 vt (ts.map zv) []
 dj : ∀ g, vn.ownBlock = some g → vt.ownBlock ≠ some g
 fl : ∀ b ∈ fn, b < w.heap.size
 sz : w.heap.size + 1 + 1 + 1 + 1 ≤ U.heap.size
theorem PutSt.below {w W3 U U' : World} {kind bound : Int} {strict : Bool} {ns : List Tm} {ts : List Int} {vn vt : Value} {fn : List Nat} (h : PutSt w W3 U kind bound strict ns ts vn vt fn) (hb : Below U.heap.size U U') : PutSt w W3 U' kind bound strict ns ts vn vt fn := by
 have hz := h.sz; have hs := hb.size; exact ⟨h.bel.trans (hb.mono (by omega)), za h.c0 hb, za h.c1 hb, za h.c2 hb, za h.c3 hb, za h.c4 hb, za h.c5 hb, za h.c6 hb, za h.c7 hb, za h.c8 hb, (zk (hb.block _ (by omega))).trans h.z5, (zk (hb.block _ (by omega))).trans h.z6, h.own1.below hb, h.own2.below hb, h.dj, h.fl, by omega⟩
/-- Behind an append to the terms. -/
theorem PutSt.N {w W3 U w' : World} {kind bound : Int} {strict : Bool} {ns ns' : List Tm} {ts : List Int} {vn vt v' : Value} {fn fn' : List Nat} (h : PutSt w W3 U kind bound strict ns ts vn vt fn) (hg : U.grownBy w' vn.ownBlock) (ho : Own w' (w.heap.size + 1 + 1 + 1 + 1) 28 2 v' (ns'.map Tm.cd) fn')
  (hv : ∀ b, v'.ownBlock = some b → vn.ownBlock = some b ∨ U.heap.size ≤ b) (hf : ∀ b ∈ fn', b < w.heap.size) : PutSt w W3 (w'.setCell ⟨w.heap.size + 1 + 1 + 1, 5, none⟩ v') kind bound strict ns' ts v' vt fn' := by
 have hz := h.sz; have hs := hg.size; have hr : ∀ q, vn.ownBlock = some q → w.heap.size + 1 + 1 + 1 + 1 ≤ q := fun q hq => (h.own1.block hq).1; have hr2 : ∀ q, vt.ownBlock = some q → w.heap.size + 1 + 1 + 1 + 1 ≤ q ∧ q < U.heap.size := fun q hq => h.own2.block hq
 have hne : vn.ownBlock ≠ some (w.heap.size + 1 + 1 + 1) := fun e => by have := hr _ e; omega
 have k : ∀ {j : Nat} {u : Value}, j ≠ 5 → U.cell? ⟨w.heap.size + 1 + 1 + 1, j, none⟩ = some u → (w'.setCell ⟨w.heap.size + 1 + 1 + 1, 5, none⟩ v').cell? ⟨w.heap.size + 1 + 1 + 1, j, none⟩ = some u := fun hj hc => (zgt _ _ _ _ (by intro e; simp only [Addr.mk.injEq] at e; omega)).trans (zr hg hc hne); have hb : Below (w.heap.size + 1 + 1 + 1) W3 w' := h.bel.grown hg (by omega) (fun q hq => by have := hr q hq; omega); refine ⟨hb.setCell (by simp) _, k (by omega) h.c0, k (by omega) h.c1, k (by omega) h.c2, k (by omega) h.c3, k (by omega) h.c4, zgu _ _ _ (zr hg h.c5 hne), k (by omega) h.c6, k (by omega) h.c7, k (by omega) h.c8, by simp [go_sem, zH hg (by omega) h.z5 hne], by simp [go_sem, zH hg (by omega) h.z6 hne], ?_, ?_, fun g hg1 => ?_, hf, by simp [World.setCell]; omega⟩
 ·exact ho.set_ne (fun hm => by have := hf _ hm; omega) (fun e => by have := (ho.block e).1; omega)
 ·refine (h.own2.same (w' := w') (fun b hb => by simp at hb) (fun b hb => hg.block b (hr2 b hb).2 (fun e => h.dj b e.symm hb))).set_ne (by simp) (fun e => by have := (hr2 _ e).1; omega)
 ·rcases hv g hg1 with h1 | h1
  ·exact h.dj g h1
  ·intro e; have := (hr2 _ e).2; omega
/-- Behind an append to the times. -/
theorem PutSt.T {w W3 U w' : World} {kind bound : Int} {strict : Bool} {ns : List Tm} {ts ts' : List Int} {vn vt v' : Value} {fn : List Nat} (h : PutSt w W3 U kind bound strict ns ts vn vt fn) (hg : U.grownBy w' vt.ownBlock) (ho : Own w' (w.heap.size + 1 + 1 + 1 + 1) 3 1 v' (ts'.map zv) [])
  (hv : ∀ b, v'.ownBlock = some b → vt.ownBlock = some b ∨ U.heap.size ≤ b) : PutSt w W3 (w'.setCell ⟨w.heap.size + 1 + 1 + 1, 6, none⟩ v') kind bound strict ns ts' vn v' fn := by
 have hz := h.sz; have hs := hg.size; have hr : ∀ q, vt.ownBlock = some q → w.heap.size + 1 + 1 + 1 + 1 ≤ q := fun q hq => (h.own2.block hq).1; have hr1 : ∀ q, vn.ownBlock = some q → w.heap.size + 1 + 1 + 1 + 1 ≤ q ∧ q < U.heap.size := fun q hq => h.own1.block hq
 have hne : vt.ownBlock ≠ some (w.heap.size + 1 + 1 + 1) := fun e => by have := hr _ e; omega
 have k : ∀ {j : Nat} {u : Value}, j ≠ 6 → U.cell? ⟨w.heap.size + 1 + 1 + 1, j, none⟩ = some u → (w'.setCell ⟨w.heap.size + 1 + 1 + 1, 6, none⟩ v').cell? ⟨w.heap.size + 1 + 1 + 1, j, none⟩ = some u := fun hj hc => (zgt _ _ _ _ (by intro e; simp only [Addr.mk.injEq] at e; omega)).trans (zr hg hc hne); have hb : Below (w.heap.size + 1 + 1 + 1) W3 w' := h.bel.grown hg (by omega) (fun q hq => by have := hr q hq; omega); refine ⟨hb.setCell (by simp) _, k (by omega) h.c0, k (by omega) h.c1, k (by omega) h.c2, k (by omega) h.c3, k (by omega) h.c4, k (by omega) h.c5, zgu _ _ _ (zr hg h.c6 hne), k (by omega) h.c7, k (by omega) h.c8, by simp [go_sem, zH hg (by omega) h.z5 hne], by simp [go_sem, zH hg (by omega) h.z6 hne], ?_, ?_, fun g hg1 e => ?_, h.fl, by simp [World.setCell]; omega⟩
 ·refine (h.own1.same (w' := w') (fun b hb => hg.block b (by have := h.fl b hb; omega) (fun e => by have := hr _ e.symm; have := h.fl b hb; omega)) (fun b hb => hg.block b (hr1 b hb).2 (fun e => h.dj b hb e.symm))).set_ne (fun hm => by have := h.fl _ hm; omega) (fun e => by have := (hr1 _ e).1; omega)
 ·exact ho.set_ne (by simp) (fun e => by have := (ho.block e).1; omega)
 ·rcases hv g e with h1 | h1
  ·exact h.dj g hg1 h1
  ·have := (hr1 _ hg1).2; omega
end Go.Proofs.YtbfinjiledfpcaaGreat
end
