/- Parts of the proof: Both5. -/
import Derived.Lib.SliceRun
import Derived.Test.YtoehhbkhdddeeaaGreatDoorPf33
import Derived.Test.YtoehhbkhdddeeaaGreatDoorPf11
/- The terms and numbers of literals: both sides. -/
namespace Go.Proofs.YtoehhbkhdddeeaaGreatDoor
open Go Go.RowKit
set_option linter.unusedVariables false
set_option linter.unusedSimpArgs false
def zaI (ls : List Lt) : List Tm := ls.flatMap (fun l => l.atom.tms)
def zaa (ls : List Lt) : List Tm := ls.flatMap Lt.tms
theorem zdD (ls : List Lt) (k : Nat) (h : k < ls.length) : zaa (ls.take (k + 1)) = zaa (ls.take k) ++ ls[k].tms := by
 rw [zdR h, zaa, List.flatMap_append]; simp [zaa]
theorem zdE (ls : List Lt) (k : Nat) : Tm.sizes (zaa (ls.take k)) ≤ Tm.sizes (zaa ls) := by
 have h : zaa ls = zaa (ls.take k) ++ zaa (ls.drop k) := by rw [zaa, zaa, zaa, ← List.flatMap_append, List.take_append_drop]
 rw [h, Tm.sizes_append]; omega
set_option maxHeartbeats 2000000 in
theorem zcR (ls : List Lt) (v : Value) (f : List Nat) (w : World) (hsm : ∀ l ∈ ls, l.atom.small) (hbig : Tm.sizes (zaa ls) ≤ 1000000000) (hlen : ls.length ≤ 1048576) (hv : Rd w (.sl (ls.map Lt.cd)) v f) :
  Calls Tryz.prog 72 #[v] w (ToOut (.sl ((Tm.addPs [] (zaa ls)).map Tm.cd)) w) := by
 obtain ⟨a, cap, rfl, hc1, hc2⟩ := ze hv
 have HSM := Lib.hid hsm
 clear hsm
 go_enter Tryz.func72, Tryz.ntmps72
 go_wp2_with fail
 go_loopw [3, 4] (fun ov i wr => ∃ (k : Nat) (fp : List Nat), k ≤ ls.length ∧ i = .int .i64 k ∧ Own wr w.heap.size 25 2 ov ((Tm.addPs [] (zaa (ls.take k))).map Tm.cd) fp ∧ Fresh w.heap.size wr fp ∧ Below w.heap.size w wr) (fun _ i _ => ls.length - (intOf i).toNat)
 case atStart => exact ⟨0, [], Nat.zero_le _, rfl, Own.empty _ _ _ _ (Nat.le_refl _), Fresh.nil _ _, za _ _⟩
 case round =>
  obtain ⟨k, fp, hkl, rfl, hown, hfr, hb⟩ := hrel
  have hz := hb.size
  by_cases hlt : k < ls.length
  ·obtain ⟨b, off, rfl, hbs, _⟩ := zl hv (by omega)
   have hbz : b < wr.heap.size := by omega
   obtain ⟨a2, c2, f2, a4, c4, f4, a5, c5, f5, a6, c6, f6, d0', d1', d2', d3', d4', d5', d6', d7', d8', d9', m0, m1, m2, m3, m4, m5, m6, m7, hsub⟩ := Lt.at hv hlt
   have d0 := zb d0' hb
   have d1 := zb d1' hb
   have d2 := zb d2' hb
   have d3 := zb d3' hb
   have d4 := zb d4' hb
   have d5 := zb d5' hb
   have d6 := zb d6' hb
   have d7 := zb d7' hb
   have d8 := zb d8' hb
   have d9 := zb d9' hb
   clear d0' d1' d2' d3' d4' d5' d6' d7' d8' d9'
   have hat := Lt.close (x := ls[k]) m0 m1 m2 m3 m4 m5 m6 m7
   have HS1 := Lib.hid (zdD ls k hlt)
   have hs2 := zdE ls (k + 1)
   rw [HS1.out, Tm.sizes_append] at hs2
   have hln := Tm.addPs_len (zaa (ls.take k)) []
   simp only [List.length_nil, Nat.zero_add] at hln
   go_wp2_with fail
   refine (zbZ ls[k] _ _ _ (HSM.out _ (zdT hlt)) (by exact hat.below hb)).mono ?_
   rintro e w2 ⟨tv, tf, rfl, ht, htf, hb2⟩
   obtain ⟨ta, tc, rfl, ht1, ht2⟩ := ze ht
   have hown2 := hown.below hb2
   have hfr2 := hfr.below hb2
   have hB2 := hb.trans (hb2.mono hz)
   have hz2 := hB2.size
   have htl := ht.lt _
   have htr : ∀ y ∈ tf, wr.heap.size ≤ y := fun y hy => (htf.2 y hy).1
   clear hb2
   go_wp2_with fail
   go_loopw [3, 6] (fun uv i wq => ∃ (g : Nat) (gp : List Nat), g ≤ ls[k].tms.length ∧ i = .int .i64 g ∧ Own wq w.heap.size 25 2 uv ((Tm.addPs (Tm.addPs [] (zaa (ls.take k))) (ls[k].tms.take g)).map Tm.cd) gp ∧ Fresh w.heap.size wq gp ∧ Moved w2 u3 wq uv) (fun _ i _ => ls[k].tms.length - (intOf i).toNat)
   case atStart => exact ⟨0, fp, Nat.zero_le _, rfl, by simpa [Tm.addPs] using hown2, hfr2, Moved.refl _ _⟩
   case round =>
    obtain ⟨g, gp, hgl, rfl, hown3, hfr3, hmv⟩ := hrel
    have hzm := hmv.size
    have hne : ∀ y ∈ tf, (_ : Value).ownBlock ≠ some y := fun y hy e => by
     have h1 := (hown.block e).2
     have h2 := htr y hy
     omega
    by_cases hg : g < ls[k].tms.length
    ·obtain ⟨b2, off2, rfl, hb2s, hb2f⟩ := zl ht (by omega)
     have ht3 := ht.same _ (hmv.same htl hne)
     obtain ⟨e1, g1, h1, q0, q1, t0, t1, hsub1⟩ := Tm.at ht3 hg
     have hbz2 : b2 < wr.heap.size := by omega
     have haw := hmv.away htl hne
     have hln2 := Tm.addPs_len (ls[k].tms.take g) (Tm.addPs [] (zaa (ls.take k)))
     have hst := Tm.sizes_take ls[k].tms (g + 1)
     rw [zdR hg, Tm.sizes_append] at hst
     simp only [Tm.sizes] at hst
     have HSUC := Lib.hid (Tm.addPs_succ (Tm.addPs [] (zaa (ls.take k))) ls[k].tms g hg)
     go_wp2_with fail
     refine (zcF _ ls[k].tms[g] (Tm.addPs (Tm.addPs [] (zaa (ls.take k))) (ls[k].tms.take g)) _ _ gp w.heap.size _ (Nat.le_refl _) (by omega) (by omega) hown3 hfr3 (TmRa.mk t0 ⟨h1, t1, fun y hy => haw y (hsub1 y (by simp [hy]))⟩)).mono ?_
     rintro e w3 ⟨lv, fp3, rfl, hown4, hfr4, hm4⟩
     have hmm := hmv.trans hm4
     clear hm4 hmv
     go_wp2_with fail
     go_roundw
     case rel =>
      refine ⟨g + 1, fp3, by omega, by go_num, ?_, hfr4, hmm⟩
      rw [HSUC.out]; exact hown4
     case measure => simp [intOf]; omega
    ·have he : ls[k].tms.take g = ls[k].tms := List.take_of_length_le (by omega)
     have HE := Lib.hid (Tm.addPs_append [] (zaa (ls.take k)) ls[k].tms)
     rw [he] at hown3
     clear he
     have hB5 := hB2.trans (hmv.toBelow (B := w.heap.size) (by omega) (fun q hq => (hown2.block hq).1))
     go_wp2_with fail
     go_roundw
     case rel =>
      refine ⟨k + 1, gp, by omega, by go_num, ?_, hfr3, hB5⟩
      rw [HS1.out, HE.out]; exact hown3
     case measure => simp [intOf]; omega
  ·have he : ls.take k = ls := List.take_of_length_le (by omega)
   rw [he] at hown
   clear he
   obtain ⟨oa, on, oc, rfl⟩ := hown.form'
   obtain ⟨fp', hr, hf, _⟩ := hown.fresh hfr
   go_wp2_with fail
   go_ret
   exact ⟨_, fp', rfl, hr, hf, hb⟩
end Go.Proofs.YtoehhbkhdddeeaaGreatDoor
/- The numbers of literals: the program's DeleteFunc. -/
namespace Go.Proofs.YtoehhbkhdddeeaaGreatDoor
open Go Go.RowKit
set_option linter.unusedVariables false
set_option linter.unusedSimpArgs false
/-- In the midst of striking: the row has what is kept of the first j, and from j on what it had. -/
structure Kept (s : Sg) (l : List Tm) (w wr : World) (b off : Nat) (fr : List Nat) (fs : List (List Nat)) (i j : Nat) : Prop where
 le : j ≤ l.length
 many : i = ((l.take j).filter (Tm.isNum s)).length
 kept : ∃ us fp, RdVs w (((l.take j).filter (Tm.isNum s)).map Tm.cd).flatten us fp ∧ (∀ m u, us[m]? = some u → wr.cell? ⟨b, off + m, none⟩ = some u) ∧ (∀ y ∈ fp, y ∈ fr) ∧ fp.Sublist (fs.take j).flatten
 rest : ∀ m, j * 2 ≤ m → wr.cell? ⟨b, off + m, none⟩ = w.cell? ⟨b, off + m, none⟩
 free : ∀ m, wr.frozen? ⟨b, m, none⟩ = false
 ex : ∀ m, m < l.length * 2 → ∃ u, wr.cell? ⟨b, off + m, none⟩ = some u
 only : Only [b] w wr
 own : Free wr (b :: fr)
theorem Only.sets {b : Nat} : ∀ (vs : List Value) (o : Nat) (w : World), Only [b] w (w.setCells b o vs)
 | [], _, w => Only.refl _ _
 | v :: r, o, w => (Only.set (a := ⟨b, o, none⟩) (by simp)).trans (Only.sets r (o + 1) _)
theorem Kept.below {s : Sg} {l : List Tm} {w w1 w2 : World} {b off : Nat} {fr : List Nat} {fs : List (List Nat)} {i j : Nat} (h : Kept s l w w1 b off fr fs i j) (hb : b < w1.heap.size) (hw : Below w1.heap.size w1 w2) : Kept s l w w2 b off fr fs i j := by
 obtain ⟨h1, h2, ⟨us, fp, h3, h4, h5⟩, h6, h7, h8, h9, h10⟩ := h
 exact ⟨h1, h2, ⟨us, fp, h3, fun m u hm => zb (h4 m u hm) hw, h5⟩, fun m hm => (hw.cell (p := ⟨b, off + m, none⟩) hb).trans (h6 m hm), fun m => (hw.frozen (p := ⟨b, m, none⟩) hb).trans (h7 m), fun m hm => by obtain ⟨u, hu⟩ := h8 m hm; exact ⟨u, zb hu hw⟩, h9.trans (Only.below hw), h10.same (zQ hw h10.lt)⟩
theorem Free.sets {b : Nat} {fp : List Nat} : ∀ (vs : List Value) (o : Nat) (w : World), Free w fp → Free (w.setCells b o vs) fp
 | [], _, w, h => h
 | v :: r, o, w, h => Free.sets r (o + 1) _ (h.set (a := ⟨b, o, none⟩) rfl)
/-- The rows of terms, each with its own. -/
theorem RdVs.rows {w : World} : ∀ {l : List Tm} {vs : List Value} {fr : List Nat}, RdVs w (l.map Tm.cd).flatten vs fr → ∃ fs : List (List Nat), fs.length = l.length ∧ fr = fs.flatten ∧ ∀ j (h : j < l.length) (h' : j < fs.length), (∃ tv, RdVs w l[j].cd tv fs[j] ∧ ∀ (m : Nat) u, tv[m]? = some u → vs[j * 2 + m]? = some u) ∧ ∃ us : List Value, RdVs w ((l.take j).map Tm.cd).flatten us (fs.take j).flatten ∧ ∀ (m : Nat) u, us[m]? = some u → vs[m]? = some u
 | [], vs, fr, h => by
  simp only [List.map_nil, List.flatten_nil, RdVs] at h
  exact ⟨[], rfl, h.2, fun j hj => absurd hj (by simp)⟩
 | t :: l, vs, fr, h => by
  rw [List.map_cons, List.flatten_cons] at h
  obtain ⟨us, us', f, g, rfl, rfl, h1, h2⟩ := h.split
  have hl := h1.length
  rw [Tm.cd_len] at hl
  obtain ⟨fs, e1, rfl, e3⟩ := RdVs.rows h2
  have hlo : ∀ (m : Nat) u, us[m]? = some u → (us ++ us')[m]? = some u := fun m u hm => by
   have : m < us.length := by
    rcases Nat.lt_or_ge m us.length with h | h
    ·exact h
    ·rw [List.getElem?_eq_none h] at hm; cases hm
   rw [List.getElem?_append_left this]; exact hm
  refine ⟨f :: fs, by simp [e1], by simp, fun j hj hj' => ?_⟩
  rcases j with _ | j
  ·exact ⟨⟨us, by simpa using h1, fun m u hm => by rw [Nat.zero_mul, Nat.zero_add]; exact hlo m u hm⟩, [], by simp [RdVs], by simp⟩
  ·obtain ⟨⟨tv, q1, q2⟩, us2, q3, q4⟩ := e3 j (by simpa using hj) (by simpa using hj')
   refine ⟨⟨tv, by simpa using q1, fun m u hm => ?_⟩, us ++ us2, ?_, fun m u hm => ?_⟩
   ·rw [List.getElem?_append_right (by omega), hl, show (j + 1) * 2 + m - 2 = j * 2 + m by omega]
    exact q2 m u hm
   ·rw [List.take_succ_cons, List.take_succ_cons, List.map_cons, List.flatten_cons, List.flatten_cons]
    exact h1.app q3
   ·rcases Nat.lt_or_ge m us.length with h | h
    ·rw [List.getElem?_append_left h] at hm; exact hlo m u hm
    ·rw [List.getElem?_append_right h] at hm ⊢; exact q4 _ u hm
theorem zbE (fs : List (List Nat)) (j : Nat) (h : j < fs.length) : (fs.take (j + 1)).flatten = (fs.take j).flatten ++ fs[j] := by
 rw [zdR h, List.flatten_append]; simp
theorem zb2 (fs : List (List Nat)) (j : Nat) : (fs.take j).flatten.Sublist fs.flatten := by
 have h : fs.flatten = (fs.take j).flatten ++ (fs.drop j).flatten := by rw [← List.flatten_append, List.take_append_drop]
 rw [h]; exact List.sublist_append_left _ _
theorem zcS {fs : List (List Nat)} {j : Nat} (h : j < fs.length) {y : Nat} (hy : y ∈ fs[j]) : y ∈ fs.flatten := List.mem_flatten.2 ⟨fs[j], zdT h, hy⟩
end Go.Proofs.YtoehhbkhdddeeaaGreatDoor
/- BothOk, the program's. -/
namespace Go.Proofs.YtoehhbkhdddeeaaGreatDoor
open Go Go.RowKit
set_option linter.unusedVariables false
set_option linter.unusedSimpArgs false
mutual
theorem Tm.shape_mono : ∀ (t : Tm) (d : Int), Tm.shape t d = true → Tm.shape t (d + 1) = true
 | .mk n ks, d, h => by
  simp only [Tm.shape, zdY, decide_eq_true_eq] at h ⊢
  exact ⟨⟨⟨by omega, h.1.1.2⟩, h.1.2⟩, by have := Tm.shapes_mono ks (d - 1) h.2; rwa [show d - 1 + 1 = d + 1 - 1 by omega] at this⟩
theorem Tm.shapes_mono : ∀ (ts : List Tm) (d : Int), Tm.shapes ts d = true → Tm.shapes ts (d + 1) = true
 | [], d, _ => by simp [Tm.shapes]
 | t :: ts, d, h => by
  simp only [Tm.shapes, zdY] at h ⊢
  exact ⟨Tm.shape_mono t d h.1, Tm.shapes_mono ts d h.2⟩
end
theorem Tm.wf_kid {t k : Tm} (h : t.wf = true) (hk : k ∈ t.kids) : k.wf = true := by
 have h1 := Tm.shape_kids (Tm.wf_shape h) k hk
 have h2 := Tm.wf_size h
 have h3 := Tm.size_kid_mem hk
 have h4 := Tm.shape_mono k _ h1
 simp only [Tm.wf, zdY, decide_eq_true_eq]
 exact ⟨by simpa using h4, by omega⟩
mutual
theorem Tm.addP_wf : ∀ (t : Tm) (l : List Tm), t.wf = true → (∀ x ∈ l, x.wf = true) → ∀ x ∈ Tm.addP l t, x.wf = true
 | .mk n ks, l, h, hl, x, hx => by
  have h1 := Tm.addPs_wf ks l (fun k hk => Tm.wf_kid h hk) hl
  simp only [Tm.addP] at hx
  split at hx
  ·exact h1 x hx
  ·rcases zdS.1 hx with h2 | h2
   ·exact h1 x h2
   ·obtain rfl := List.mem_singleton.1 h2; exact h
theorem Tm.addPs_wf : ∀ (ts l : List Tm), (∀ t ∈ ts, t.wf = true) → (∀ x ∈ l, x.wf = true) → ∀ x ∈ Tm.addPs l ts, x.wf = true
 | [], l, _, hl, x, hx => hl x (by simpa [Tm.addPs] using hx)
 | t :: ts, l, h, hl, x, hx => by
  simp only [Tm.addPs] at hx
  exact Tm.addPs_wf ts _ (fun k hk => h k (by simp [hk])) (Tm.addP_wf t l (h t (by simp)) hl) x hx
end
def zaW (s : Sg) (ls : List Lt) : Bool := decide (ls.length ≤ 6) && (ls.all (fun l => zZ s l.atom) && (s.okB && (decide ((Tm.addPs [] (zaI ls)).length ≤ 24) && decide (((Tm.addPs [] (zaI ls)).filter (Tm.isNum s)).length ≤ 4))))
theorem bothB_sig {s : Sg} {ls : List Lt} (h : s.okB = false) : zaW s ls = false := by simp [zaW, h]
theorem bothB_len {s : Sg} {ls : List Lt} (h : ¬ ls.length ≤ 6) : zaW s ls = false := by simp [zaW, h]
theorem bothB_one {s : Sg} {ls : List Lt} {k : Nat} (hk : k < ls.length) (h : zZ s ls[k].atom = false) : zaW s ls = false := by
 have : ls.all (fun l => zZ s l.atom) = false := by rw [List.all_eq_false]; exact ⟨ls[k], zdT hk, by simp [h]⟩
 simp only [zaW, this, Bool.false_and, Bool.and_false]
theorem lits_succ {s : Sg} {ls : List Lt} {k : Nat} (hk : k < ls.length) (h : (ls.take k).all (fun l => zZ s l.atom) = true) (h' : zZ s ls[k].atom = true) : (ls.take (k + 1)).all (fun l => zZ s l.atom) = true := by
 rw [zdR hk, List.all_append, h]; simp [h']
theorem zck {s : Sg} {x : Atm} (h : zZ s x = true) : x.okB = true := by
 cases hk : x.okB with
 | true => rfl
 | false => rw [zdh hk] at h; simp at h
theorem lits_wf {s : Sg} {ls : List Lt} (h : ls.all (fun l => zZ s l.atom) = true) : ∀ t ∈ zaI ls, t.wf = true := by
 intro t ht
 obtain ⟨l, hl, ht⟩ := List.mem_flatMap.1 ht
 exact Atm.tms_wf (zck (List.all_eq_true.1 h l hl)) t ht
theorem zcl {s : Sg} : ∀ {ls : List Lt}, ls.all (fun l => zZ s l.atom) = true → zaa ls = zaI ls
 | [], _ => rfl
 | l :: ls, h => by
  simp only [List.all_cons, zdY] at h
  have ih := zcl (ls := ls) h.2
  simp only [zaa, zaI, List.flatMap_cons] at ih ⊢
  rw [ih, Lt.tms_yes (zck h.1)]
theorem lits_nums {s : Sg} {ls : List Lt} (hs : s.okB = true) (h : ls.all (fun l => zZ s l.atom) = true) : (Tm.addPs [] (zaI ls)).filter (fun t => (t.srt s).getD (-1) == 1) = (Tm.addPs [] (zaI ls)).filter (Tm.isNum s) := by
 refine List.filter_congr fun t ht => ?_
 have hw := Tm.addPs_wf (zaI ls) [] (lits_wf h) (by simp) t ht
 have h1 := Tm.tsrt_yes hs hw
 cases ho : t.srt s with
 | none => rw [Tm.isNum_none (h1.trans ho)]; rfl
 | some n => rw [Tm.isNum_some (h1.trans ho)]; rfl
theorem bothB_all {s : Sg} {ls : List Lt} (hs : s.okB = true) (hl : ls.length ≤ 6) (h : ls.all (fun l => zZ s l.atom) = true) : zaW s ls = (decide ((Tm.addPs [] (zaI ls)).length ≤ 24) && decide (((Tm.addPs [] (zaI ls)).filter (Tm.isNum s)).length ≤ 4)) := by
 rw [zaW, decide_eq_true hl, h, hs]; rfl
end Go.Proofs.YtoehhbkhdddeeaaGreatDoor
/- BothOk, the reference's. -/
namespace Go.Proofs.YtoehhbkhdddeeaaGreatDoor
open Go Go.RowKit
set_option linter.unusedVariables false
set_option linter.unusedSimpArgs false
def numS (s : Sg) (t : Tm) : Bool := (t.srt s).getD (-1) == 1
theorem numS_succ (s : Sg) (ts : List Tm) (k : Nat) (h : k < ts.length) : (ts.take (k + 1)).filter (numS s) = (ts.take k).filter (numS s) ++ (if numS s ts[k] = true then [ts[k]] else []) := by
 rw [zdR h, List.filter_append]
 congr 1
 simp [List.filter_cons]
def Tm.rdT (w : World) (t : Tm) (e : Option Addr) (g : Nat) (f : List Nat) : Prop := t.name.size ≤ maxLen ∧ Rd w (.sl (t.kids.map Tm.cd)) (.slice e t.kids.length g) f
theorem rowsT_of {w : World} {ts : List Tm} {a : Option Addr} {n cap : Nat} {f : List Nat} (hx : Rd w (.sl (ts.map Tm.cd)) (.slice a n cap) f) : ∃ fs : List (List Nat), fs.length = ts.length ∧ fs.flatten.Sublist f ∧
  ∀ j (h : j < ts.length) (h' : j < fs.length) b off, a = some ⟨b, off, none⟩ → ∃ e1 g1, w.cell? ⟨b, off + j * 2, none⟩ = some (.string ts[j].name) ∧ w.cell? ⟨b, off + j * 2 + 1, none⟩ = some (.slice e1 ts[j].kids.length g1) ∧ Tm.rdT w ts[j] e1 g1 fs[j] := by
 by_cases h0 : 0 < ts.length
 ·obtain ⟨b, off, fr, hb, _, rfl, hrow⟩ := hx.addr (by simpa using h0)
  obtain ⟨vs, hcells, hrv⟩ := hrow.flat
  obtain ⟨fs, h1, rfl, h3⟩ := RdVs.rows hrv
  refine ⟨fs, h1, List.sublist_cons_self _ _, fun j h h' b' off' ha => ?_⟩
  rw [hb] at ha
  simp only [Option.some.injEq, Addr.mk.injEq] at ha
  obtain ⟨rfl, rfl, _⟩ := ha
  obtain ⟨tv, htv, hcc⟩ := (h3 j h h').1
  obtain ⟨e1, g1, f1, rfl, e, t0, t1⟩ := Tm.open htv
  exact ⟨e1, g1, hcells _ _ (hcc 0 _ rfl), hcells _ _ (hcc 1 _ rfl), t0, e ▸ t1⟩
 ·have : ts = [] := List.eq_nil_of_length_eq_zero (by omega)
  subst this
  exact ⟨[], rfl, List.nil_sublist _, fun j h => absurd h (by simp)⟩
set_option maxHeartbeats 4000000 in
theorem zdF (s : Sg) (hok : Hid (s.okB = true)) (ts : List Tm) (us : List Value) (v : Value) (f f' : List Nat) (w : World) (hlen : ts.length ≤ 1000000000) (hv : RdVs w s.cd us f') (hx : Rd w (.sl (ts.map Tm.cd)) v f) (B : Nat) (hB : B ≤ w.heap.size) (hfr : Fresh B w f) :
  Calls Tryz.prog 74 #[.agg us.toArray, v] w fun e w' => (∃ rv rf, e = .returned rv ∧ Rd w' (.sl ((ts.filter (numS s)).map Tm.cd)) rv rf ∧ Fresh B w' rf) ∧ Below w.heap.size w w' := by
 obtain ⟨a0, c0, f0, rfl, _, n0⟩ := Sg.open hv
 obtain ⟨a, cap, rfl, hc1, hc2⟩ := ze hx
 have hfl := hx.lt _
 obtain ⟨fs, hfs1, hfs2, hfs3⟩ := rowsT_of hx
 have HFS := Lib.hid hfs3
 clear hfs3
 go_enter Tryz.func74, Tryz.ntmps74
 go_wp2_with fail
 go_loopw [5, 6] (fun ov i wq => ∃ (k : Nat) (fp : List Nat), k ≤ ts.length ∧ i = .int .i64 k ∧ Own wq (w.heap.size + 1) 25 2 ov (((ts.take k).filter (numS s)).map Tm.cd) fp ∧ Hid (fp.Sublist (fs.take k).flatten) ∧ wq.cell? ⟨w.heap.size, 0, none⟩ = some (.slice a0 s.syms.length c0) ∧ w.heap.size + 1 ≤ wq.heap.size ∧ Below w.heap.size w wq) (fun _ i _ => ts.length - (intOf i).toNat)
 case atStart =>
  have e1 : (w.alloc (.cells #[.slice a0 s.syms.length c0] 43)).heap.size = w.heap.size + 1 := by simp
  refine ⟨0, [], Nat.zero_le _, rfl, ?_, Lib.hid (by simp), ?_, by simp, (za _ _).alloc (by simp) _⟩
  ·have := Own.empty (w.alloc (.cells #[.slice a0 s.syms.length c0] 43)) (w.heap.size + 1) 25 2 (by simp)
   rw [e1] at this; exact this
  ·have := zx w #[.slice a0 s.syms.length c0] 43 0
   exact zb this (za _ _)
 case round =>
  obtain ⟨k, fp, hkl, rfl, hown, hfp, cx, hz', hb⟩ := hrel
  have hz := hb.size
  by_cases hlt : k < ts.length
  ·obtain ⟨b, off, rfl, hbs, _⟩ := zl hx (by omega)
   have hbz : b < wr.heap.size := by omega
   have hz3 : w.heap.size < wr.heap.size := by omega
   have hkf : k < fs.length := by omega
   obtain ⟨h1, hh1⟩ : ∃ h1, h1 = fs[k] := ⟨_, rfl⟩
   obtain ⟨e1, g1, d0', d1', t0, t1'⟩ := HFS.out k hlt hkf b off rfl
   rw [← hh1] at t1'
   have hsub : ∀ y ∈ h1, y ∈ f := fun y hy => hfs2.subset (zcS hkf (hh1 ▸ hy))
   have hbw : b < w.heap.size := hbs
   have d0 := zb d0' hb
   have d1 := zb d1' hb
   have t1 := t1'.below hb
   have HSU : Hid ((fs.take (k + 1)).flatten = (fs.take k).flatten ++ h1) := Lib.hid (by rw [zbE fs k hkf, ← hh1])
   clear d0' d1' t1' hh1
   have htr := Tm.rdv t0 t1
   have hvr := hv.below hb
   have HL := Lib.hid (fun W (hW : Below wr.heap.size wr W) => (zaT s hok ts[k].size ts[k] _ _ _ _ W (Nat.le_refl _) (hvr.below hW) (htr.below hW)))
   have HSUC := Lib.hid (numS_succ s ts k hlt)
   obtain ⟨z, hz0⟩ : ∃ z, (ts[k].srt s).getD (-1) = z := ⟨_, rfl⟩
   have HZ := Lib.hid (show numS s ts[k] = (z == 1) by unfold numS; rw [hz0])
   have HL2 : Hid (∀ W, Below wr.heap.size wr W → Calls Tryz.prog 78 #[.agg [.slice a0 s.syms.length c0].toArray, .agg [.string ts[k].name, .slice e1 ts[k].kids.length g1].toArray] W (fun e w' => e = .returned (.int .i64 z) ∧ Below W.heap.size W w')) := Lib.hid (fun W hW => (HL.out W hW).mono fun e w' h => by unfold OfOut at h; rw [hz0] at h; exact h)
   clear hz0 HL
   have q0 := cell_regrown cx
   have q2 := cell_regrown d0
   have q3 := cell_regrown d1
   have hl : (((ts.take k).filter (numS s)).map Tm.cd).length ≤ ts.length := by rw [zdX]; have h1 := List.length_filter_le (numS s) (ts.take k); rw [List.length_take] at h1; omega
   go_wp2_with fail
   cases hn : (z == 1)
   ·have HS : Hid ((ts.take (k + 1)).filter (numS s) = (ts.take k).filter (numS s)) := Lib.hid (by rw [HSUC.out, HZ.out, hn]; simp)
    refine wp_region_quiet_below (by kernel_rfl) (by kernel_rfl) ?_
    repeat (first | go_big_quiet_skip | quiet_step ((go_at_call 78; with_reducible refine Calls.regrown_of (HL2.out _ (below_regrown _ _ _)))))
    refine wpQuiet_nil ?_
    intro w9 hw9
    obtain ⟨⟨dq, osq⟩, hw9⟩ := hw9
    have hb9 : Below wr.heap.size wr w9 := hw9 ▸ below_regrown wr dq osq
    clear hw9
    go_wp2_with fail
    go_roundw
    case rel =>
     refine ⟨k + 1, fp, by omega, by go_num, ?_, Lib.hid (hfp.out.trans (by rw [HSU.out]; exact List.sublist_append_left _ _)), zb cx hb9, Nat.le_trans hz' hb9.size, hb.trans (hb9.mono hz)⟩
     rw [HS.out]; exact hown.below hb9
    case measure => simp [intOf]; omega
   ·have HS : Hid ((ts.take (k + 1)).filter (numS s) = (ts.take k).filter (numS s) ++ [ts[k]]) := Lib.hid (by rw [HSUC.out, HZ.out, hn]; simp)
    refine wp_region_quiet_below (by kernel_rfl) (by kernel_rfl) ?_
    repeat (first | go_big_quiet_skip | quiet_step ((go_at_call 78; with_reducible refine Calls.regrown_of (HL2.out _ (below_regrown _ _ _)))))
    refine wpQuiet_nil ?_
    intro w9 hw9
    obtain ⟨⟨dq, osq⟩, hw9⟩ := hw9
    have hb9 : Below wr.heap.size wr w9 := hw9 ▸ below_regrown wr dq osq
    clear hw9
    have hz9 := hb9.size
    have d0w := zb d0 hb9
    have d1w := zb d1 hb9
    have hbz9 : b < w9.heap.size := by omega
    have hown2 := (hown.below hb9).below (za w9 (.cells #[.string ts[k].name, .slice e1 ts[k].kids.length g1] 25))
    have t1w := (t1.below hb9).below (za w9 (.cells #[.string ts[k].name, .slice e1 ts[k].kids.length g1] 25))
    have cxw := zb (zb cx hb9) (za w9 (.cells #[.string ts[k].name, .slice e1 ts[k].kids.length g1] 25))
    go_wp2_with (at_builtin; refine zq zaz rfl _ _ rfl (w.heap.size + 1) _ _ _ rfl hown2 ⟨w9.heap.size, 0, none⟩ 1 1 [ts[k].cd] [.string ts[k].name, .slice e1 ts[k].kids.length g1] h1 rfl rfl ?rd ?k ?cells ?na ?bytes ?len ?base ?next)
    case rd => simpa using Tm.rdv t0 t1w
    case k => simp [Tm.cd_len]
    case cells => exact zp _ _ _
    case na => exact fun y hy e => by have h1 := (hown.block e).1; have h2 := hfl y (hsub y hy); omega
    case bytes => omega
    case len => omega
    case base => (simp; try omega)
    case next =>
     intro v' w4 hown4 hg hv' hs4
     have hB9 := hb.trans (hb9.mono hz)
     have hb4 := zk (hB9.alloc (by omega) _) hg (by simp; try omega) (fun q hq => by have := (hown.block hq).1; omega)
     have cx4 := zg hg cxw (hown.row_ne (by omega))
     have hz4 := hg.size
     simp at hz4
     clear hg hs4
     go_wp2_with fail
     go_roundw
     case rel =>
      refine ⟨k + 1, fp ++ h1, by omega, by go_num, ?_, Lib.hid (by rw [HSU.out]; exact hfp.out.append (List.Sublist.refl _)), cx4, by omega, hb4⟩
      rw [HS.out, zdV]; exact hown4
     case measure => simp [intOf]; omega
  ·have he : ts.take k = ts := List.take_of_length_le (by omega)
   rw [he] at hown
   clear he
   obtain ⟨oa, on, oc, rfl⟩ := hown.form'
   have hsl : fp.Sublist f := (hfp.out.trans (zb2 fs k)).trans hfs2
   have hfr2 : Fresh B wr fp := ⟨hsl.nodup hfr.1, fun y hy => (hfr.below hb).2 y (hsl.subset hy)⟩
   obtain ⟨fp', hr, hfr3, _⟩ := (hown.base (base' := B) (fun q hq => by have := (hown.block hq).1; omega)).fresh hfr2
   go_wp2_with fail
   go_ret
   exact ⟨⟨_, fp', rfl, hr, hfr3⟩, hb⟩
set_option maxHeartbeats 4000000 in
theorem zcT (s : Sg) (ls : List Lt) (us : List Value) (v : Value) (f f' : List Nat) (w : World) (hl6 : Hid (ls.length ≤ 6)) (hsm : ∀ l ∈ ls, l.atom.small) (hbig : Tm.sizes (zaa ls) ≤ 1000000000) (hv : RdVs w s.cd us f') (hx : Rd w (.sl (ls.map Lt.cd)) v f) :
  Calls Tryz.prog 64 #[.agg us.toArray, v] w fun e w' => e = .returned (.bool (zaW s ls)) ∧ Below w.heap.size w w' := by
 obtain ⟨a0, c0, f0, rfl, _, n0⟩ := Sg.open hv
 obtain ⟨a, cap, rfl, hc1, hc2⟩ := ze hx
 have hlen := zaj hx
 have HSM := Lib.hid hsm
 clear hsm
 have hb0 := za w (.cells #[.slice a0 s.syms.length c0] 43)
 go_enter Tryz.func64, Tryz.ntmps64
 go_wp2_with fail
 go_loopw [5] (fun i wq => ∃ k : Nat, k ≤ ls.length ∧ i = .int .i64 k ∧ Hid ((ls.take k).all (fun l => zZ s l.atom) = true) ∧ wq.cell? ⟨w.heap.size, 0, none⟩ = some (.slice a0 s.syms.length c0) ∧ w.heap.size + 1 ≤ wq.heap.size ∧ Below w.heap.size w wq) (fun i _ => ls.length - (intOf i).toNat)
 case atStart => exact ⟨0, Nat.zero_le _, rfl, Lib.hid (by simp), zx w #[.slice a0 s.syms.length c0] 43 0, by simp, hb0⟩
 case round =>
  obtain ⟨k, hkl, rfl, hall, cx, hz', hb⟩ := hrel
  have hz := hb.size
  by_cases hlt : k < ls.length
  ·obtain ⟨b, off, rfl, hbs, _⟩ := zl hx (by omega)
   have hbz : b < wr.heap.size := by omega
   have hz3 : w.heap.size < wr.heap.size := by omega
   obtain ⟨a2, c2, f2, a4, c4, f4, a5, c5, f5, a6, c6, f6, d0, d1, d2, d3, d4, d5, d6, d7, d8, d9, m0, m1, m2, m3, m4, m5, m6, m7, _⟩ := Lt.at (hx.below hb) hlt
   have hat := Atm.close (x := ls[k].atom) m0 m1 m2 m3 m4 m5 m6 m7
   have hvr := hv.below hb
   have HSL := Lib.hid (HSM.out _ (zdT hlt))
   have HC : Hid (∀ W, Below wr.heap.size wr W → Calls Tryz.prog 71 #[.agg [.slice a0 s.syms.length c0].toArray, .agg #[.int .i64 ls[k].atom.kind, .string ls[k].atom.a.name, .slice a2 ls[k].atom.a.kids.length c2, .string ls[k].atom.b.name, .slice a4 ls[k].atom.b.kids.length c4, .slice a5 ls[k].atom.nums.length c5, .slice a6 ls[k].atom.times.length c6, .int .i64 ls[k].atom.bound, .bool ls[k].atom.strict]] W (fun e w' => e = .returned (.bool (zZ s ls[k].atom)) ∧ Below W.heap.size W w')) := Lib.hid (fun W hW => zcQ s ls[k].atom _ _ _ _ W HSL.out (hvr.below hW) (hat.below hW))
   have q0 := cell_regrown cx
   have r0 := cell_regrown d0
   have r1 := cell_regrown d1
   have r2 := cell_regrown d2
   have r3 := cell_regrown d3
   have r4 := cell_regrown d4
   have r5 := cell_regrown d5
   have r6 := cell_regrown d6
   have r7 := cell_regrown d7
   have r8 := cell_regrown d8
   go_wp2_with fail
   cases ho : zZ s ls[k].atom
   ·have HF := Lib.hid (bothB_one hlt ho)
    refine wp_region_quiet_below (by kernel_rfl) (by kernel_rfl) ?_
    repeat (first | go_big_quiet_skip | quiet_step ((go_at_call 71; with_reducible refine Calls.regrown_of (HC.out _ (below_regrown _ _ _)))))
    refine wpQuiet_nil ?_
    intro w9 hw9
    obtain ⟨⟨dq, osq⟩, hw9⟩ := hw9
    have hb9 : Below wr.heap.size wr w9 := hw9 ▸ below_regrown wr dq osq
    clear hw9
    go_wp2_with fail
    go_ret
    exact ⟨retB HF.out.symm, hb.trans (hb9.mono hz)⟩
   ·have HE := Lib.hid (lits_succ hlt hall.out ho)
    refine wp_region_quiet_below (by kernel_rfl) (by kernel_rfl) ?_
    repeat (first | go_big_quiet_skip | quiet_step ((go_at_call 71; with_reducible refine Calls.regrown_of (HC.out _ (below_regrown _ _ _)))))
    refine wpQuiet_nil ?_
    intro w9 hw9
    obtain ⟨⟨dq, osq⟩, hw9⟩ := hw9
    have hb9 : Below wr.heap.size wr w9 := hw9 ▸ below_regrown wr dq osq
    clear hw9
    go_wp2_with fail
    go_roundw
    case rel => exact ⟨k + 1, by omega, by go_num, HE, zb cx hb9, Nat.le_trans hz' hb9.size, hb.trans (hb9.mono hz)⟩
    case measure => simp [intOf]; omega
  ·have HALL : Hid (ls.all (fun l => zZ s l.atom) = true) := Lib.hid (by have h := hall.out; rwa [List.take_of_length_le (by omega)] at h)
   have HU := Lib.hid (zcl HALL.out)
   have hln := Tm.addPs_len (zaI ls) []
   simp only [List.length_nil, Nat.zero_add] at hln
   have hbig' := hbig
   rw [HU.out] at hbig'
   have h6 := hl6.out
   go_wp2_with fail
   refine (zcR ls _ _ _ HSM.out hbig (by omega) (hx.below hb)).mono ?_
   rintro e w4 ⟨pv, pf, rfl, hp, hpf4, hb4⟩
   rw [HU.out] at hp
   obtain ⟨pa, pc, rfl, hl1, hl2⟩ := ze hp
   have hB4 := hb.trans (hb4.mono hz)
   have cx4 := zb cx hb4
   have hb4z := hb4.size
   clear hb4
   go_wp2_with fail
   refine (zbM s _ _ _ (by exact hv.below hB4)).mono ?_
   rintro e w5 ⟨rfl, hb5⟩
   have hB5 := hB4.trans (hb5.mono hB4.size)
   have cx5 := zb cx4 hb5
   have hb5z := hb5.size
   have hp5 := hp.below hb5
   have HFR := Lib.hid (hpf4.below hb5)
   clear hb5 hpf4
   cases h1 : s.okB
   ·have HF := Lib.hid (bothB_sig (ls := ls) h1)
    clear h1
    go_wp2_with fail
    go_ret
    exact ⟨retB HF.out.symm, hB5⟩
   have H1 := Lib.hid h1
   clear h1
   have HF := Lib.hid (bothB_all H1.out h6 HALL.out)
   have HNU := Lib.hid (lits_nums H1.out HALL.out)
   by_cases g1 : (Tm.addPs [] (zaI ls)).length ≤ 24
   rotate_left
   ·have t3 : decide (((Tm.addPs [] (zaI ls)).length : Int) ≤ 24) = false := by simp; omega
    have HG : Hid (zaW s ls = false) := Lib.hid (by rw [HF.out, decide_eq_false g1]; rfl)
    go_wp2_with fail
    go_ret
    exact ⟨retB HG.out.symm, hB5⟩
   have t3 : decide (((Tm.addPs [] (zaI ls)).length : Int) ≤ 24) = true := by simp; omega
   have HG := Lib.hid (HF.out.trans (by rw [decide_eq_true g1, Bool.true_and]))
   have hwr5 : wr.heap.size ≤ w5.heap.size := Nat.le_trans hb4z hb5z
   go_wp2_with fail
   refine (zdF s H1 (Tm.addPs [] (zaI ls)) _ _ _ _ _ (by omega) (hv.below hB5) hp5 wr.heap.size hwr5 HFR.out).mono ?_
   rintro e w6 ⟨⟨nv, nf, rfl, hn, _⟩, hb6⟩
   have hn2 : Rd w6 (.sl (((Tm.addPs [] (zaI ls)).filter (Tm.isNum s)).map Tm.cd)) nv nf := by rw [← HNU.out]; exact hn
   obtain ⟨na, nc, rfl, hl3, hl4⟩ := ze hn2
   have hB6 := hB5.trans (hb6.mono hB5.size)
   clear hb6 hn hn2
   go_wp2_with fail
   go_ret
   exact ⟨retB (by rw [HG.out]; simp; try omega), hB6⟩
theorem zaN (s : Sg) (ls : List Lt) (us : List Value) (v : Value) (f f' : List Nat) (w : World) (hsm : ∀ l ∈ ls, l.atom.small) (hbig : Tm.sizes (zaa ls) ≤ 1000000000) (hv : RdVs w s.cd us f') (hx : Rd w (.sl (ls.map Lt.cd)) v f) :
  Calls Tryz.prog 46 #[.agg us.toArray, v] w fun e w' => e = .returned (.bool (zaW s ls)) ∧ Below w.heap.size w w' := by
 obtain ⟨a0, c0, f0, rfl, _, n0⟩ := Sg.open hv
 obtain ⟨a, cap, rfl, hc1, hc2⟩ := ze hx
 have hlen := zaj hx
 have hb0 := za w (.cells #[.slice a0 s.syms.length c0] 43)
 by_cases h2 : ls.length ≤ 6
 ·have t2 : decide ((ls.length : Int) ≤ 6) = true := by simp; omega
  go_enter Tryz.func46, Tryz.ntmps46
  go_wp2_with fail
  refine (zcT s ls _ _ _ _ _ (Lib.hid h2) hsm hbig (by exact hv.below hb0) (by exact hx.below hb0)).mono ?_
  rintro e w1 ⟨rfl, hb⟩
  go_wp2_with fail
  go_ret
  exact ⟨rfl, hb0.trans (hb.mono hb0.size)⟩
 ·have t2 : decide ((ls.length : Int) ≤ 6) = false := by simp; omega
  have HF := Lib.hid (bothB_len (s := s) h2)
  go_enter Tryz.func46, Tryz.ntmps46
  go_wp2_with fail
  go_ret
  exact ⟨retB HF.out.symm, hb0⟩
end Go.Proofs.YtoehhbkhdddeeaaGreatDoor
/- The law's weights bound the terms of literals. -/
namespace Go.Proofs.YtoehhbkhdddeeaaGreatDoor
open Go Go.RowKit
set_option linter.unusedVariables false
set_option linter.unusedSimpArgs false
end Go.Proofs.YtoehhbkhdddeeaaGreatDoor
