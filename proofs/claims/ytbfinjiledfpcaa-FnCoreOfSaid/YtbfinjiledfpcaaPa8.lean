/- Parts of the proof: ExLib TermO Wt MarkT ExTm MarkTm ExMark ExHeld Cnt. -/
import Derived.Lib.QuietBelow
import Derived.Test.YtbfinjiledfpcaaPa2
import Derived.Test.YtbfinjiledfpcaaPa6
import Derived.Test.YtbfinjiledfpcaaPa7
import Derived.Laws.BytesArg
import Derived.Test.YtbfinjiledfpcaaPa4
section
namespace Go.Proofs.Ytbfinjiledfpcaa
open Go Go.RowKit
set_option linter.unusedVariables false
set_option linter.unusedSimpArgs false
set_option maxRecDepth 100000
set_option maxHeartbeats 16000000
mutual
def wtC : CD → Nat
 | .str s => s.size
 | .sl es => es.length + wtR es
 | _ => 0
def wtR : List (List CD) → Nat
 | [] => 0
 | e :: es => wtV e + wtR es
def wtV : List CD → Nat
 | [] => 0
 | d :: ds => wtC d + wtV ds
end
mutual
def ndC : CD → Nat
 | .sl es => 1 + ndR es
 | _ => 1
def ndR : List (List CD) → Nat
 | [] => 0
 | e :: es => 1 + ndV e + ndR es
def ndV : List CD → Nat
 | [] => 0
 | d :: ds => ndC d + ndV ds
end
theorem zF : ∀ (a b : List CD), wtV (a ++ b) = wtV a + wtV b
 | [], b => by simp [wtV]
 | d :: ds, b => by simp only [List.cons_append, wtV, zF ds b]; omega
theorem zP : ∀ (a b : List (List CD)), wtR (a ++ b) = wtR a + wtR b
 | [], b => by simp [wtR]
 | d :: ds, b => by simp only [List.cons_append, wtR, zP ds b]; omega
theorem zby : ∀ {es : List (List CD)} {e : List CD}, e ∈ es → ndV e < ndR es
 | [], e, h => by simp at h
 | d :: ds, e, h => by
  simp only [ndR]
  rcases zdE.1 h with rfl | h
  ·omega
  ·have := zby h; omega
theorem ndV_sl {es : List (List CD)} {ds : List CD} (h : CD.sl es ∈ ds) : ndR es < ndV ds := by
 induction ds with
 | nil => simp at h
 | cons d ds ih =>
  simp only [ndV]
  rcases zdE.1 h with rfl | h
  ·simp only [ndC]; omega
  ·have := ih h; omega
theorem zK {α : Type} (f : α → List CD) (ts : List α) (k : Nat) (h : k < ts.length) : wtR ((ts.map f).take (k + 1)) = wtR ((ts.map f).take k) + wtV (f ts[k]) := by
 rw [zdz (by simpa using h), zP]; simp [wtR]
theorem zL {α : Type} (f : α → List CD) (ts : List α) (k : Nat) : wtR ((ts.map f).take k) ≤ wtR (ts.map f) := by
 have := zP ((ts.map f).take k) ((ts.map f).drop k); rw [List.take_append_drop] at this; omega
theorem wtR_ints (ns : List Int) : wtR (ns.map zm) = 0 := by induction ns with
 | nil => rfl
 | cons n ns ih => simp only [List.map_cons, wtR, ih, zm, wtV, wtC]
theorem zay (n : Int) : wtV [.int n] = 0 := rfl
theorem zaj (n : Bool) : wtV [.bool n] = 0 := rfl
theorem zbz (n : ByteArray) : wtV [.str n] = n.size := by simp [wtV, wtC]
theorem zaZ {α : Type} (f : α → List CD) (xs : List α) : wtV [.sl (xs.map f)] = xs.length + wtR (xs.map f) := by simp [wtV, wtC]
theorem zf {w1 w2 : World} {b : Nat} {cs : Array Value} (h : ∀ j, w1.cell? ⟨b, j, none⟩ = cs[j]?) (hl : b < w1.heap.size) (hb : Below w1.heap.size w1 w2) : ∀ j, w2.cell? ⟨b, j, none⟩ = cs[j]? :=
 fun j => (hb.cell (p := ⟨b, j, none⟩) hl).trans (h j)
theorem Tm.kid_nd {x k : Tm} (h : k ∈ x.K) : ndV k.cd < ndV x.cd := by
 have h1 := zby (List.mem_map_of_mem (f := Tm.cd) h); have h2 : ndR (x.K.map Tm.cd) < ndV x.cd := ndV_sl (by rw [Tm.cd_eq]; simp); omega
theorem Fm.kid_nd {x k : Fm} (h : k ∈ x.K) : ndV k.cd < ndV x.cd := by
 have h1 := zby (List.mem_map_of_mem (f := Fm.cd) h); have h2 : ndR (x.K.map Fm.cd) < ndV x.cd := ndV_sl (by rw [Fm.cd_eq]; simp); omega
theorem zaH : SlTy Try.prog 29 31 (.agg #[.string ByteArray.empty, .slice none 0 0]) 2 40 :=
 ⟨Try.underlying29, by kernel_rfl, rfl, by omega⟩
theorem zbk (n : Nat) (ih : ∀ (t : Tm) (v : Value) (w : World), t.size ≤ n → t.size ≤ 1000000000 → TmR w t v →
   Calls Try.prog 56 #[v] w fun e w' => ∃ kv fp, e = .returned (.agg #[.string t.name, kv]) ∧ Rd w' (.sl (t.K.map Tm.cd)) kv fp ∧ Fresh w.heap.size w' fp ∧ Below w.heap.size w w') :
  ∀ (ts : List Tm) (v : Value) (w : World), (∀ t ∈ ts, t.size ≤ n) → Tm.sizes ts ≤ 1000000000 → TmsR w ts v →
  Calls Try.prog 57 #[v] w fun e w' => ∃ kv fp, e = .returned kv ∧ Rd w' (.sl (ts.map Tm.cd)) kv fp ∧ Fresh w.heap.size w' fp ∧ Below w.heap.size w w' := by
 intro ts v w hn hbig hv; obtain ⟨a, cap, rfl, hc1, hc2⟩ := hv.form; have IH := zdH ih; have HN := zdH hn; clear ih hn; have hlen := Tm.sizes_len ts; go_enter Try.func57, Try.ntmps57; go_wp2_with fail
 go_loopw [3, 8] (fun ov i wr => ∃ (k : Nat) (fp : List Nat), k ≤ ts.length ∧ i = .int .i64 k ∧ Own wr w.heap.size 31 2 ov ((ts.take k).map Tm.cd) fp ∧ Fresh w.heap.size wr fp ∧ Below w.heap.size w wr) (fun _ i _ => ts.length - (intOf i).toNat)
 case atStart => exact ⟨0, [], zdR _, rfl, Own.nil _ _ _ _, Fresh.nil _ _, zdT _ _⟩
 case round =>
  obtain ⟨k, fp, hkl, rfl, hown, hfr, hb⟩ := hrel; have hz := hb.size
  by_cases hlt : k < ts.length
  ·obtain ⟨b, off, rfl, hbs⟩ := hv.addr (by omega)
   obtain ⟨ka, kc, c0, c1, hss, hkk⟩ := (hv.below hb).at hlt
   have hbz : b < wr.heap.size := by omega
   have hks := Tm.size_mem (zdB hlt); go_wp2_with fail; refine (IH.out ts[k] _ _ (HN.out _ (zdB hlt)) (by omega) (by exact (TmR.mk hss hkk).below ((zdT _ _).alloc (zdI _) _))).mono ?_; rintro e w2 ⟨kv, fk, rfl, hrk, hfk, hb2⟩; obtain ⟨ka', kc', rfl, hd1, hd2⟩ := zas hrk; have hbw : Below wr.heap.size wr w2 := ((zdT _ _).alloc (zdI _) _).trans (hb2.mono (by simp)); have hz2 := hbw.size; have hown2 := (hown.below (hbw.alloc hz2 (.cells #[.string ts[k].name, .slice ka' ts[k].K.length kc'] 31))); have hrk2 := hrk.below (za w2 (.cells #[.string ts[k].name, .slice ka' ts[k].K.length kc'] 31))
   have hl : ((ts.take k).map Tm.cd).length ≤ ts.length := by simp; omega
   go_wp2_with (at_builtin; refine zp zaH rfl _ _ rfl w.heap.size _ _ _ rfl hown2 ⟨w2.heap.size, 0, none⟩ 1 1 [ts[k].cd] [.string ts[k].name, .slice ka' ts[k].K.length kc'] fk rfl rfl ?rd ?k ?cells ?na ?bytes ?len ?base ?next)
   case rd => simpa using Tm.rdvs hss hrk2
   case k => simp [Tm.cd_len]
   case cells => exact zl _ _ _
   case na => exact hown.away (by simp) hfk
   case bytes => omega
   case len => omega
   case base => simp; omega
   case next =>
    intro v' w4 hown4 hg hv' hs4; go_wp2_with fail; go_roundw
    case rel =>
     refine ⟨k + 1, fp ++ fk, by omega, by go_num, ?_, ?_, ?_⟩
     ·rw [zdz hlt, zdD]; simpa using hown4
     ·exact ((Fresh.app (hfr.below hbw) hfr.lt hz (hfk.mono (by simp))).below (za _ _)).same hs4
     ·exact zh ((hb.trans (hbw.mono hz)).alloc (by omega) _) hg (by simp; omega) (fun k hk => (hown.block hk).1)
    case measure => simp [intOf]; omega
  ·have he : ts.take k = ts := zdK (by omega)
   rw [he] at hown; go_wp2_with fail; go_ret; obtain ⟨fp', h1, h2, _⟩ := hown.fresh hfr; exact ⟨_, fp', rfl, h1, h2, hb⟩
theorem zaV (n : Nat) : ∀ (t : Tm) (v : Value) (w : World), t.size ≤ n → t.size ≤ 1000000000 → TmR w t v →
   Calls Try.prog 56 #[v] w fun e w' => ∃ kv fp, e = .returned (.agg #[.string t.name, kv]) ∧ Rd w' (.sl (t.K.map Tm.cd)) kv fp ∧ Fresh w.heap.size w' fp ∧ Below w.heap.size w w' := by
 induction n with
 | zero => intro t; have := t.size_pos; omega
 | succ n ih =>
  rintro t v w hn hbig ⟨kv, rfl, hs, hk⟩; obtain ⟨a, cap, rfl, hc1, hc2⟩ := hk.form
  have HK : Hid (∀ x ∈ t.K, x.size ≤ n) := fun x hx => by have := Tm.size_kid_mem hx; omega
  have hsz : Tm.sizes t.K ≤ 1000000000 := by rw [Tm.size_eq] at hbig; omega
  have IH := zdH ih; clear ih; go_enter Try.func56, Try.ntmps56; go_wp2_with fail
  go_region_with (go_at_call 57; refine (zbk n IH.out t.K _ _ HK.out hsz (by exact hk.below (((zdT _ _).alloc (zdI _) _).alloc (by simp) _).drew)).mono ?_; rintro e w2 ⟨kv2, fp2, rfl, hr2, hf2, hb2⟩; obtain ⟨a2, cap2, rfl, hg1, hg2⟩ := zas hr2; obtain ⟨x0, x1, y0, y1, f0, f1, hz, hbb⟩ := boxed22 hb2)
  all_goals
   have hf3 := hf2.mono (lo' := w.heap.size + 1 + 1) (by simp); obtain ⟨z0, z1⟩ := zax (.string t.name) (.slice a2 t.K.length cap2) y0 y1; have hs2 := zak (w := w2) (i := 0) (j := 1) (u := .string t.name) (v := .slice a2 t.K.length cap2) (hf3.ne (b := w.heap.size + 1) (by omega)); go_wp2_with fail; refine bodyPost_ret (v := .agg #[.string t.name, .slice a2 t.K.length cap2]) (by simp [results, Try.results56, go_sem, z0, z1]) rfl ⟨_, fp2, rfl, ?_, ?_, ?_⟩
   ·exact hr2.same _ hs2
   ·exact (hf3.same hs2).mono (by omega)
   ·exact ((hbb.setCell (by simp) _).setCell (by simp) _)
theorem Tm.wtV_eq (t : Tm) : wtV t.cd = t.name.size + (t.K.length + wtR (t.K.map Tm.cd)) := by
 rw [Tm.cd_eq]; simp [wtV, wtC]
theorem zaD (e : List CD) (es : List (List CD)) : wtR (e :: es) = wtV e + wtR es := by simp [wtR]
mutual
theorem Tm.size_wtV : ∀ (t : Tm), t.size ≤ 1 + wtV t.cd
 | .mk n ks => by
  have := Tm.sizes_wtR ks; rw [Tm.wtV_eq]; simp only [Tm.size, Tm.K]; omega
theorem Tm.sizes_wtR : ∀ (ts : List Tm), Tm.sizes ts ≤ ts.length + wtR (ts.map Tm.cd)
 | [] => by simp [Tm.sizes]
 | t :: ts => by
  have h1 := Tm.size_wtV t; have h2 := Tm.sizes_wtR ts; simp only [Tm.sizes, zdQ, List.map_cons, zaD]; omega
end
namespace Tm
end Tm
/-- A whole row, marked or not: read. -/
theorem RdFlat.sl {w : World} {b off n cap k : Nat} {es : List (List CD)} {f : List Nat} (h : RdFlat w b off es.flatten f) (hne : 0 < es.length) (hn : n = es.length) (hc : es.length ≤ cap) (hm : cap ≤ 9223372036854775807) (hb : b < w.heap.size) :
  Rd w (.sl es) (.slice (some ⟨b, off, none⟩) n cap) (b :: f) := by
 simp only [Rd]; refine ⟨_, cap, by rw [hn], hc, by simpa [maxLen] using hm, .inr ⟨by rintro rfl; simp at hne, b, off, f, rfl, hb, rfl, h.toRows (k := k)⟩⟩
end Go.Proofs.Ytbfinjiledfpcaa
end
namespace Go.Proofs.Ytbfinjiledfpcaa
open Go Go.RowKit
set_option linter.unusedVariables false
set_option linter.unusedSimpArgs false
set_option maxHeartbeats 1600000
set_option maxRecDepth 100000
/-- In the midst of marking a row of the call's own, at the cell o. -/
def MkS (w0 : World) (b off : Nat) (f : List Nat) (w : World) (o : Nat) (done todo : List CD) : Prop :=
 ∃ f1 f3, f = f1 ++ f3 ∧ o = off + done.length ∧ MkSt w b off done todo f1 f3 ∧ Only (b :: f) w0 w
theorem MkS.size {w0 w : World} {b off o : Nat} {f : List Nat} {done todo : List CD} (h : MkS w0 b off f w o done todo) : w0.heap.size ≤ w.heap.size := by
 obtain ⟨f1, f3, _, _, _, h⟩ := h; exact h.size
theorem MkS.cell {w0 w : World} {b off o : Nat} {f : List Nat} {d : CD} {done ds : List CD} (h : MkS w0 b off f w o done (d :: ds)) : ∃ v, w.cell? ⟨b, o, none⟩ = some v ∧ w.frozen? ⟨b, o, none⟩ = false := by
 obtain ⟨f1, f3, _, rfl, h, _⟩ := h; obtain ⟨v, g1, g2, _, hc, _, _⟩ := h.htodo.head; exact ⟨v, hc, h.free.frozen (by simp)⟩
theorem MkS.frozen {w0 w : World} {b off o : Nat} {f : List Nat} {done ds : List CD} (h : MkS w0 b off f w o done ds) : ∀ j, w.frozen? ⟨b, j, none⟩ = false := by
 obtain ⟨f1, f3, _, rfl, h, _⟩ := h; exact fun j => h.free.frozen (by simp)
theorem MkS.below {w0 w w' : World} {b off o : Nat} {f : List Nat} {done todo : List CD} (h : MkS w0 b off f w o done todo) (hb : Below w.heap.size w w') : MkS w0 b off f w' o done todo := by
 obtain ⟨f1, f3, hff, rfl, h, ho⟩ := h; exact ⟨f1, f3, hff, rfl, h.below hb, ho.trans (Only.below hb)⟩
theorem MkS.sl {w0 w : World} {b off o : Nat} {f : List Nat} {es : List (List CD)} {done ds : List CD} (h : MkS w0 b off f w o done (.sl es :: ds)) :
  ∃ v fe, w.cell? ⟨b, o, none⟩ = some v ∧ Rd w (.sl es) v fe ∧ Free w fe ∧ fe.Nodup ∧ ∀ w' es', Only fe w w' → Rd w' (.sl es') v fe → Free w' fe → MkS w0 b off f w' (o + 1) (done ++ [.sl es']) ds := by
 obtain ⟨f1, f3, hff, rfl, h, ho⟩ := h; obtain ⟨v, fe, f2, rfl, hc, hr, ht, hfe, hnd⟩ := h.head; refine ⟨v, fe, hc, hr, hfe, hnd, fun w' es' h1 h2 h3 => ⟨f1 ++ fe, f2, by rw [hff, List.append_assoc], by simp [Nat.add_assoc], h.slice hc ht h1 h2 h3, ho.trans (h1.mono fun x hx => by rw [hff]; simp [hx])⟩⟩
end Go.Proofs.Ytbfinjiledfpcaa
namespace Go.Proofs.Ytbfinjiledfpcaa
open Go Go.RowKit
set_option linter.unusedVariables false
set_option linter.unusedSimpArgs false
set_option maxHeartbeats 1600000
set_option maxRecDepth 100000
theorem RdFlat.below {w w' : World} {b off : Nat} {ds : List CD} {f : List Nat} (h : RdFlat w b off ds f) (hl : b < w.heap.size) (hb : Below w.heap.size w w') : RdFlat w' b off ds f := by
 obtain ⟨vs, h1, h2⟩ := h; exact ⟨vs, fun j u hj => (zdP (w := w) (hb.block b hl)).trans (h1 j u hj), h2.below hb⟩
end Go.Proofs.Ytbfinjiledfpcaa
/- mark and held of struct values: their slices alone. -/
namespace Go.Proofs.Ytbfinjiledfpcaa
open Go Go.RowKit
set_option linter.unusedVariables false
set_option linter.unusedSimpArgs false
set_option linter.unusedVariables false
/-- What marking the slices of a value turns it into; its own scalars stay. -/
def mkT : List CD → Int → List CD
 | [], _ => []
 | .sl es :: ds, k => .sl (mkR es k) :: mkT ds (k + cntR es)
 | .int n :: ds, k => .int n :: mkT ds k
 | .str n :: ds, k => .str n :: mkT ds k
 | .bool n :: ds, k => .bool n :: mkT ds k
def cntT : List CD → Nat
 | [] => 0
 | .sl es :: ds => cntR es + cntT ds
 | .int _ :: ds => cntT ds
 | .str _ :: ds => cntT ds
 | .bool _ :: ds => cntT ds
structure MkV (w0 : World) (fp : List Nat) (k0 : Int) (vs : List Value) (w : World) (done todo : List CD) : Prop where
 rd : RdVs w (mkT done k0 ++ todo) vs fp
 free : Free w fp
 nd : fp.Nodup
 only : Only fp w0 w
theorem MkV.cells {w w' : World} {f : List Nat} {b : Nat} {cs : Array Value} (ho : Only f w w') (hb : b < w.heap.size) (hn : b ∉ f) (h : ∀ j, w.cell? ⟨b, j, none⟩ = cs[j]?) : ∀ j, w'.cell? ⟨b, j, none⟩ = cs[j]? := fun j => by
 rw [← h j]; exact zdP (w := w) (a := ⟨b, j, none⟩) (ho.block b hb hn)
def MkOutV (ds : List CD) (k : Int) (vs : List Value) (fp : List Nat) (w : World) (e : Ending) (w' : World) : Prop := e = .returned (.int .i64 (k + cntT ds)) ∧ RdVs w' (mkT ds k) vs fp ∧ Free w' fp ∧ Only fp w w'
theorem MkV.out {w0 w : World} {fp : List Nat} {k0 : Int} {vs : List Value} {done ds : List CD} {r : Int} (h : MkV w0 fp k0 vs w done []) (e : done = ds) (hr : r = k0 + cntT ds) : MkOutV ds k0 vs fp w0 (.returned (.int .i64 r)) w := by
 obtain ⟨h1, h2, h3, h4⟩ := h; subst e hr; rw [List.append_nil] at h1; exact ⟨rfl, h1, h2, h4⟩
end Go.Proofs.Ytbfinjiledfpcaa
/- How many scalars there are, bound by the law's weight. -/
namespace Go.Proofs.Ytbfinjiledfpcaa
open Go Go.RowKit
set_option linter.unusedVariables false
set_option linter.unusedSimpArgs false
end Go.Proofs.Ytbfinjiledfpcaa
