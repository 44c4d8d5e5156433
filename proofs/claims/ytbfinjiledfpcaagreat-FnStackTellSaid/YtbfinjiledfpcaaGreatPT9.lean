/- Parts of the proof: Both5. -/
import Derived.Lib.SliceRun
import Derived.Test.YtbfinjiledfpcaaGreatPT7
import Derived.Test.YtbfinjiledfpcaaGreatPT3
/- The terms and numbers of literals: both sides. -/
namespace Go.Proofs.YtbfinjiledfpcaaGreat
open Go Go.RowKit
set_option linter.unusedVariables false
set_option linter.unusedSimpArgs false
def zad (ls : List Lt) : List Tm := ls.flatMap (fun l => l.M.tms)
def zau (ls : List Lt) : List Tm := ls.flatMap Lt.tms
theorem zfA (ls : List Lt) (k : Nat) (h : k < ls.length) : zad (ls.take (k + 1)) = zad (ls.take k) ++ ls[k].M.tms := by
 rw [zgf h, zad, List.flatMap_append]; simp [zad]
theorem zfB (ls : List Lt) (k : Nat) (h : k < ls.length) : zau (ls.take (k + 1)) = zau (ls.take k) ++ ls[k].tms := by
 rw [zgf h, zau, List.flatMap_append]; simp [zau]
theorem zfC (ls : List Lt) (k : Nat) : Tm.sizes (zad (ls.take k)) ≤ Tm.sizes (zad ls) := by
 have h : zad ls = zad (ls.take k) ++ zad (ls.drop k) := by rw [zad, zad, zad, ← List.flatMap_append, List.take_append_drop]
 rw [h, Tm.sizes_append]; omega
theorem zfD (ls : List Lt) (k : Nat) : Tm.sizes (zau (ls.take k)) ≤ Tm.sizes (zau ls) := by
 have h : zau ls = zau (ls.take k) ++ zau (ls.drop k) := by rw [zau, zau, zau, ← List.flatMap_append, List.take_append_drop]
 rw [h, Tm.sizes_append]; omega
set_option maxHeartbeats 2000000 in
theorem zcH (ls : List Lt) (v : Value) (f : List Nat) (w : World) (hbig : Tm.sizes (zad ls) ≤ 1000000000) (hv : Rd w (.sl (ls.map Lt.cd)) v f) :
  Calls Tryz.prog 51 #[v] w (zda (.sl ((Tm.parts (zad ls)).map Tm.cd)) w) := by
 obtain ⟨a, cap, rfl, hc1, hc2⟩ := zg hv; have hfl := hv.lt _; go_enter Tryz.func51, Tryz.ntmps51; go_wp2_with fail
 go_loopw [3, 8] (fun ov i wr => ∃ (k : Nat) (fp : List Nat), k ≤ ls.length ∧ i = .int .i64 k ∧ Own wr w.heap.size 28 2 ov ((zad (ls.take k)).map Tm.cd) fp ∧ Below w.heap.size w wr) (fun _ i _ => ls.length - (intOf i).toNat)
 case atStart => exact ⟨0, [], zgx _, rfl, Own.nil _ _ _ _, zgz _ _⟩
 case round =>
  obtain ⟨k, fp, hkl, rfl, hown, hb⟩ := hrel; have hz := hb.size
  by_cases hlt : k < ls.length
  ·obtain ⟨b, off, rfl, hbs, _⟩ := zl hv (by omega)
   have hbz : b < wr.heap.size := by omega
   obtain ⟨a2, c2, f2, a4, c4, f4, a5, c5, f5, a6, c6, f6, d0', d1', d2', d3', d4', d5', d6', d7', d8', d9', m0, m1, m2, m3, m4, m5, m6, m7, hsub⟩ := Lt.at hv hlt; have d0 := za d0' hb; have d1 := za d1' hb; have d2 := za d2' hb; have d3 := za d3' hb; have d4 := za d4' hb; have d5 := za d5' hb; have d6 := za d6' hb; have d7 := za d7' hb; have d8 := za d8' hb; have d9 := za d9' hb; clear d0' d1' d2' d3' d4' d5' d6' d7' d8' d9'; have hat := Atm.close (x := ls[k].M) m0 m1 m2 m3 m4 m5 m6 m7; have hs1 := zfA ls k hlt; have hs2 := zfC ls (k + 1); have hs3 := Tm.sizes_len (zad (ls.take (k + 1))); rw [hs1, zgi] at hs3; rw [hs1] at hs2; have HS1 := zgn hs1; clear hs1; have hbX := zb wr (.cells #[.int .i64 ls[k].M.kind, .string ls[k].M.a.name, .slice a2 ls[k].M.a.K.length c2, .string ls[k].M.b.name, .slice a4 ls[k].M.b.K.length c4, .slice a5 ls[k].M.N.length c5, .slice a6 ls[k].M.T.length c6, .int .i64 ls[k].M.O, .bool ls[k].M.C, .bool ls[k].no] 33); have hzX := hbX.size; go_wp2_with fail; refine (terms_any ls[k].M _ _ _ (by exact (hat.below hb).below hbX)).mono ?_; rintro e w2 ⟨⟨tv, tf, rfl, ht, htf⟩, hb2⟩; have hbw := hbX.trans (hb2.mono hzX); have hown2 := hown.below hbw; clear hb2 hbX; go_wp2_with (at_builtin; refine zar zaU rfl _ _ rfl w.heap.size _ _ _ rfl hown2 (ls[k].M.tms.map Tm.cd) tv tf rfl ht ?k ?na ?bytes ?len ?base ?next)
   case k => simp only [List.mem_map]; rintro e ⟨t, _, rfl⟩; exact Tm.cd_len t
   case na =>
    intro y hy e; have h1 := hown.block e
    rcases htf y hy with h | h
    ·have h2 := hfl y (hsub y h); omega
    ·omega
   case bytes => simp only [zgl]; omega
   case len => simp only [zgl]; omega
   case base => have := hbw.size; omega
   case next =>
    intro v' w4 nfp hnf hown4 hg hv' hs4; have hb4 := zo (hb.trans (hbw.mono hz)) hg (by have := hbw.size; omega) (fun q hq => (hown.block hq).1); clear hg hs4; go_wp2_with fail; go_roundw
    case rel =>
     refine ⟨k + 1, fp ++ nfp, by omega, by go_num, ?_, hb4⟩; rw [HS1.out, zgj]; exact hown4
    case measure => simp [intOf]; omega
  ·have he : ls.take k = ls := zgq (by omega)
   rw [he] at hown; clear he; obtain ⟨oa, on, oc, rfl⟩ := hown.form'; obtain ⟨fp', hr⟩ := hown.rd'; go_wp2_with fail; refine (zdC (zad ls) _ _ hbig ⟨fp', hr⟩).mono ?_; rintro e w5 ⟨pv, pf, rfl, hp, hpf, hb5⟩; go_wp2_with fail; go_ret; exact ⟨pv, pf, rfl, hp, hpf.mono hz, hb.trans (hb5.mono hz)⟩
set_option maxHeartbeats 2000000 in
theorem zeO (ls : List Lt) (v : Value) (f : List Nat) (w : World) (hsm : ∀ l ∈ ls, l.M.small) (hbig : Tm.sizes (zau ls) ≤ 1000000000) (hlen : ls.length ≤ 1048576) (hv : Rd w (.sl (ls.map Lt.cd)) v f) :
  Calls Tryz.prog 123 #[v] w (zda (.sl ((Tm.addPs [] (zau ls)).map Tm.cd)) w) := by
 obtain ⟨a, cap, rfl, hc1, hc2⟩ := zg hv; have HSM := zgn hsm; clear hsm; go_enter Tryz.func123, Tryz.ntmps123; go_wp2_with fail
 go_loopw [3, 4] (fun ov i wr => ∃ (k : Nat) (fp : List Nat), k ≤ ls.length ∧ i = .int .i64 k ∧ Own wr w.heap.size 28 2 ov ((Tm.addPs [] (zau (ls.take k))).map Tm.cd) fp ∧ Fresh w.heap.size wr fp ∧ Below w.heap.size w wr) (fun _ i _ => ls.length - (intOf i).toNat)
 case atStart => exact ⟨0, [], zgx _, rfl, Own.empty _ _ _ _ (zgo _), Fresh.nil _ _, zb _ _⟩
 case round =>
  obtain ⟨k, fp, hkl, rfl, hown, hfr, hb⟩ := hrel; have hz := hb.size
  by_cases hlt : k < ls.length
  ·obtain ⟨b, off, rfl, hbs, _⟩ := zl hv (by omega)
   have hbz : b < wr.heap.size := by omega
   obtain ⟨a2, c2, f2, a4, c4, f4, a5, c5, f5, a6, c6, f6, d0', d1', d2', d3', d4', d5', d6', d7', d8', d9', m0, m1, m2, m3, m4, m5, m6, m7, hsub⟩ := Lt.at hv hlt; have d0 := za d0' hb; have d1 := za d1' hb; have d2 := za d2' hb; have d3 := za d3' hb; have d4 := za d4' hb; have d5 := za d5' hb; have d6 := za d6' hb; have d7 := za d7' hb; have d8 := za d8' hb; have d9 := za d9' hb; clear d0' d1' d2' d3' d4' d5' d6' d7' d8' d9'; have hat := Lt.close (x := ls[k]) m0 m1 m2 m3 m4 m5 m6 m7; have HS1 := zgn (zfB ls k hlt); have hs2 := zfD ls (k + 1); rw [HS1.out, Tm.sizes_append] at hs2; have hln := Tm.addPs_len (zau (ls.take k)) []; simp only [List.length_nil, Nat.zero_add] at hln; go_wp2_with fail; refine (zdE ls[k] _ _ _ (HSM.out _ (zgh hlt)) (by exact hat.below hb)).mono ?_; rintro e w2 ⟨tv, tf, rfl, ht, htf, hb2⟩; obtain ⟨ta, tc, rfl, ht1, ht2⟩ := zg ht; have hown2 := hown.below hb2; have hfr2 := hfr.below hb2; have hB2 := hb.trans (hb2.mono hz); have hz2 := hB2.size; have htl := ht.lt _; have htr : ∀ y ∈ tf, wr.heap.size ≤ y := fun y hy => (htf.2 y hy).1; clear hb2; go_wp2_with fail
   go_loopw [3, 6] (fun uv i wq => ∃ (g : Nat) (gp : List Nat), g ≤ ls[k].tms.length ∧ i = .int .i64 g ∧ Own wq w.heap.size 28 2 uv ((Tm.addPs (Tm.addPs [] (zau (ls.take k))) (ls[k].tms.take g)).map Tm.cd) gp ∧ Fresh w.heap.size wq gp ∧ Moved w2 u3 wq uv) (fun _ i _ => ls[k].tms.length - (intOf i).toNat)
   case atStart => exact ⟨0, fp, zgx _, rfl, by simpa [Tm.addPs] using hown2, hfr2, Moved.refl _ _⟩
   case round =>
    obtain ⟨g, gp, hgl, rfl, hown3, hfr3, hmv⟩ := hrel; have hzm := hmv.size
    have hne : ∀ y ∈ tf, (_ : Value).ownBlock ≠ some y := fun y hy e => by
     have h1 := (hown.block e).2; have h2 := htr y hy; omega
    by_cases hg : g < ls[k].tms.length
    ·obtain ⟨b2, off2, rfl, hb2s, hb2f⟩ := zl ht (by omega)
     have ht3 := ht.same _ (hmv.same htl hne); obtain ⟨e1, g1, h1, q0, q1, t0, t1, hsub1⟩ := Tm.at ht3 hg
     have hbz2 : b2 < wr.heap.size := by omega
     have haw := hmv.away htl hne; have hln2 := Tm.addPs_len (ls[k].tms.take g) (Tm.addPs [] (zau (ls.take k))); have hst := Tm.sizes_take ls[k].tms (g + 1); rw [zgf hg, Tm.sizes_append] at hst; simp only [Tm.sizes] at hst; have HSUC := zgn (Tm.addPs_succ (Tm.addPs [] (zau (ls.take k))) ls[k].tms g hg); go_wp2_with fail; refine (zeE _ ls[k].tms[g] (Tm.addPs (Tm.addPs [] (zau (ls.take k))) (ls[k].tms.take g)) _ _ gp w.heap.size _ (zgo _) (by omega) (by omega) hown3 hfr3 (TmRa.mk t0 ⟨h1, t1, fun y hy => haw y (hsub1 y (by simp [hy]))⟩)).mono ?_; rintro e w3 ⟨lv, fp3, rfl, hown4, hfr4, hm4⟩; have hmm := hmv.trans hm4; clear hm4 hmv; go_wp2_with fail; go_roundw
     case rel =>
      refine ⟨g + 1, fp3, by omega, by go_num, ?_, hfr4, hmm⟩; rw [HSUC.out]; exact hown4
     case measure => simp [intOf]; omega
    ·have he : ls[k].tms.take g = ls[k].tms := zgq (by omega)
     have HE := zgn (Tm.addPs_append [] (zau (ls.take k)) ls[k].tms); rw [he] at hown3; clear he; have hB5 := hB2.trans (hmv.toBelow (B := w.heap.size) (by omega) (fun q hq => (hown2.block hq).1)); go_wp2_with fail; go_roundw
     case rel =>
      refine ⟨k + 1, gp, by omega, by go_num, ?_, hfr3, hB5⟩; rw [HS1.out, HE.out]; exact hown3
     case measure => simp [intOf]; omega
  ·have he : ls.take k = ls := zgq (by omega)
   rw [he] at hown; clear he; obtain ⟨oa, on, oc, rfl⟩ := hown.form'; obtain ⟨fp', hr, hf, _⟩ := hown.fresh hfr; go_wp2_with fail; go_ret; exact ⟨_, fp', rfl, hr, hf, hb⟩
end Go.Proofs.YtbfinjiledfpcaaGreat
/- The numbers of literals: the program's DeleteFunc. -/
namespace Go.Proofs.YtbfinjiledfpcaaGreat
open Go Go.RowKit
set_option linter.unusedVariables false
set_option linter.unusedSimpArgs false
theorem zfE {P : Program} (w : World) (t e : TypeId) (z0 z1 : Value) (ht : P.underlying t = some (.slice e)) (hv : ∀ w, (zeroValue e).run P w = .ok (.agg #[z0, z1]) w) (h0 : z0.oneCell' = true) (h1 : z1.oneCell' = true) (b o n c : Nat) (hn : 0 < n)
  (hc : ∀ j, j < n * 2 → (w.cell? ⟨b, o + j, none⟩).isSome = true) (hf : ∀ j, w.frozen? ⟨b, j, none⟩ = false) :
  ∃ vs : List Value, vs.length = n * 2 ∧ ∀ ty, (Builtin.clear_ #[t] ty #[.slice (some ⟨b, o, none⟩) n c]).run P w = .ok (.tuple #[]) (w.setCells b o vs) := by
 have hl : (Builtin.zeroCells #[z0, z1] n).toList.length = n * 2 := by simp [Builtin.zeroCells]
 refine ⟨(Builtin.zeroCells #[z0, z1] n).toList, hl, fun ty => ?_⟩
 have hst := run_storeCells_cells (P := P) b o (Builtin.zeroCells #[z0, z1] n).toList 0 w (fun j hj => by rw [Nat.add_zero]; exact hc j (by omega)) (fun j hj => hf _) (by
  intro v hv'
  have : v = z0 ∨ v = z1 := by
   simp only [Builtin.zeroCells, Array.toList_map, List.mem_map] at hv'; obtain ⟨i, _, rfl⟩ := hv'
   have h2 : i % 2 = 0 ∨ i % 2 = 1 := by omega
   rcases h2 with h | h
   ·left; simp [h]
   ·right; simp [h]
  rcases this with rfl | rfl
  ·exact h0
  ·exact h1)
 simp only [Nat.add_zero] at hst; obtain ⟨m, rfl⟩ : ∃ m, n = m + 1 := ⟨n - 1, by omega⟩; have hzc : (Value.agg #[z0, z1]).cells = #[z0, z1] := rfl; simp only [Builtin.clear_]; simp [run_underlying ht, hv, hst, hzc]
/-- In the midst of striking: the row has what is kept of the first j, and from j on what it had. -/
structure Kept (s : Sg) (l : List Tm) (w wr : World) (b off : Nat) (fr : List Nat) (fs : List (List Nat)) (i j : Nat) : Prop where
 le : j ≤ l.length
 many : i = ((l.take j).filter (Tm.isNum s)).length
 kept : ∃ us fp, RdVs w (((l.take j).filter (Tm.isNum s)).map Tm.cd).flatten us fp ∧ (∀ m u, us[m]? = some u → wr.cell? ⟨b, off + m, none⟩ = some u) ∧ (∀ y ∈ fp, y ∈ fr) ∧ fp.Sublist (fs.take j).flatten
 rest : ∀ m, j * 2 ≤ m → wr.cell? ⟨b, off + m, none⟩ = w.cell? ⟨b, off + m, none⟩
 free : ∀ m, wr.frozen? ⟨b, m, none⟩ = false
 ex : ∀ m, m < l.length * 2 → ∃ u, wr.cell? ⟨b, off + m, none⟩ = some u
 only : Only [b] w wr
 own : Free wr (b :: fr)
theorem Only.sets {b : Nat} : ∀ (vs : List Value) (o : Nat) (w : World), Only [b] w (w.setCells b o vs)
 | [], _, w => Only.refl _ _
 | v :: r, o, w => (Only.set (a := ⟨b, o, none⟩) (by simp)).trans (Only.sets r (o + 1) _)
theorem only_cell {b : Nat} {w w' : World} (h : Only [b] w w') {c j : Nat} {u : Value} (hc : w.cell? ⟨c, j, none⟩ = some u) (hne : c ≠ b) : w'.cell? ⟨c, j, none⟩ = some u :=
 ze (h.block c (World.block_lt_of_cell? w _ hc) (by simpa using hne)) hc
theorem zcI {b : Nat} {w w' : World} (h : Only [b] w w') {fp : List Nat} (hl : ∀ y ∈ fp, y < w.heap.size) (hn : b ∉ fp) : SameOn fp w w' := h.same hl (fun y hy hy' => hn (by rw [List.mem_singleton] at hy'; rw [← hy']; exact hy))
theorem Kept.below {s : Sg} {l : List Tm} {w w1 w2 : World} {b off : Nat} {fr : List Nat} {fs : List (List Nat)} {i j : Nat} (h : Kept s l w w1 b off fr fs i j) (hb : b < w1.heap.size) (hw : Below w1.heap.size w1 w2) : Kept s l w w2 b off fr fs i j := by
 obtain ⟨h1, h2, ⟨us, fp, h3, h4, h5⟩, h6, h7, h8, h9, h10⟩ := h; exact ⟨h1, h2, ⟨us, fp, h3, fun m u hm => za (h4 m u hm) hw, h5⟩, fun m hm => (hw.cell (p := ⟨b, off + m, none⟩) hb).trans (h6 m hm), fun m => (hw.frozen (p := ⟨b, m, none⟩) hb).trans (h7 m), fun m hm => by obtain ⟨u, hu⟩ := h8 m hm; exact ⟨u, za hu hw⟩, h9.trans (Only.below hw), h10.same (zah hw h10.lt)⟩
theorem Free.sets {b : Nat} {fp : List Nat} : ∀ (vs : List Value) (o : Nat) (w : World), Free w fp → Free (w.setCells b o vs) fp
 | [], _, w, h => h
 | v :: r, o, w, h => Free.sets r (o + 1) _ (h.set (a := ⟨b, o, none⟩) rfl)
/-- The rows of terms, each with its own. -/
theorem RdVs.rows {w : World} : ∀ {l : List Tm} {vs : List Value} {fr : List Nat}, RdVs w (l.map Tm.cd).flatten vs fr → ∃ fs : List (List Nat), fs.length = l.length ∧ fr = fs.flatten ∧ ∀ j (h : j < l.length) (h' : j < fs.length), (∃ tv, RdVs w l[j].cd tv fs[j] ∧ ∀ (m : Nat) u, tv[m]? = some u → vs[j * 2 + m]? = some u) ∧ ∃ us : List Value, RdVs w ((l.take j).map Tm.cd).flatten us (fs.take j).flatten ∧ ∀ (m : Nat) u, us[m]? = some u → vs[m]? = some u
 | [], vs, fr, h => by
  simp only [List.map_nil, List.flatten_nil, RdVs] at h; exact ⟨[], rfl, h.2, fun j hj => absurd hj (by simp)⟩
 | t :: l, vs, fr, h => by
  rw [List.map_cons, List.flatten_cons] at h; obtain ⟨us, us', f, g, rfl, rfl, h1, h2⟩ := h.split; have hl := h1.length; rw [Tm.cd_len] at hl; obtain ⟨fs, e1, rfl, e3⟩ := RdVs.rows h2
  have hlo : ∀ (m : Nat) u, us[m]? = some u → (us ++ us')[m]? = some u := fun m u hm => by
   have : m < us.length := by
    rcases Nat.lt_or_ge m us.length with h | h
    ·exact h
    ·rw [List.getElem?_eq_none h] at hm; cases hm
   rw [List.getElem?_append_left this]; exact hm
  refine ⟨f :: fs, by simp [e1], by simp, fun j hj hj' => ?_⟩
  rcases j with _ | j
  ·exact ⟨⟨us, by simpa using h1, fun m u hm => by rw [Nat.zero_mul, Nat.zero_add]; exact hlo m u hm⟩, [], by simp [RdVs], by simp⟩
  ·obtain ⟨⟨tv, q1, q2⟩, us2, q3, q4⟩ := e3 j (by simpa using hj) (by simpa using hj')
   refine ⟨⟨tv, by simpa using q1, fun m u hm => ?_⟩, us ++ us2, ?_, fun m u hm => ?_⟩
   ·rw [List.getElem?_append_right (by omega), hl, show (j + 1) * 2 + m - 2 = j * 2 + m by omega]
    exact q2 m u hm
   ·rw [List.take_succ_cons, List.take_succ_cons, List.map_cons, List.flatten_cons, List.flatten_cons]
    exact h1.app q3
   ·rcases Nat.lt_or_ge m us.length with h | h
    ·rw [List.getElem?_append_left h] at hm; exact hlo m u hm
    ·rw [List.getElem?_append_right h] at hm ⊢; exact q4 _ u hm
theorem zaK (fs : List (List Nat)) (j : Nat) (h : j < fs.length) : (fs.take (j + 1)).flatten = (fs.take j).flatten ++ fs[j] := by
 rw [zgf h, List.flatten_append]; simp
theorem za7 (fs : List (List Nat)) (j : Nat) : (fs.take j).flatten.Sublist fs.flatten := by
 have h : fs.flatten = (fs.take j).flatten ++ (fs.drop j).flatten := by rw [← List.flatten_append, List.take_append_drop]
 rw [h]; exact List.sublist_append_left _ _
theorem zcJ {fs : List (List Nat)} {j : Nat} (h : j < fs.length) {y : Nat} (hy : y ∈ fs[j]) : y ∈ fs.flatten := List.mem_flatten.2 ⟨fs[j], zgh h, hy⟩
theorem zcd {w : World} {b i : Nat} {v u : Value} (h : w.cell? ⟨b, i, none⟩ = some u) : (w.setCell ⟨b, i, none⟩ v).cell? ⟨b, i, none⟩ = some v := zgu w _ v h
theorem zdc (s : Sg) (l : List Tm) (j : Nat) : ((l.take j).filter (Tm.isNum s)).length ≤ j := by
 have h1 := List.length_filter_le (Tm.isNum s) (l.take j); rw [List.length_take] at h1; omega
theorem zbD (s : Sg) (l : List Tm) (j : Nat) (h : j < l.length) : (l.take (j + 1)).filter (Tm.isNum s) = (l.take j).filter (Tm.isNum s) ++ (if l[j].isNum s = true then [l[j]] else []) := by
 rw [zgf h, List.filter_append]
 congr 1
 simp [List.filter_cons]
theorem zdq (s : Sg) (l : List Tm) (h : l.all (fun t => !!t.isNum s) = true) : l.filter (Tm.isNum s) = l := by
 rw [List.filter_eq_self]; intro t ht; have := List.all_eq_true.1 h t ht
 simpa using this
theorem zdL (l : List Tm) : (l.map Tm.cd).flatten.length = l.length * 2 := by
 induction l with
 | nil => rfl
 | cons t l ih => simp only [List.map_cons, List.flatten_cons, zgi, ih, Tm.cd_len, zgw]; omega
set_option maxHeartbeats 4000000 in
theorem zdM (s : Sg) (l : List Tm) (v : Value) (f : List Nat) (pb : Nat) (a0 : Option Addr) (c0 : Nat) (f0 : List Nat) (w : World) (hp : w.cell? ⟨pb, 0, none⟩ = some (.slice a0 s.Y.length c0)) (hv : RdVs w s.cd [.slice a0 s.Y.length c0] f0)
  (hx : Rd w (.sl (l.map Tm.cd)) v f) (hnd : f.Nodup) (hfree : Free w f) (hpf : pb ∉ f) (hd : ∀ y ∈ f0, y ∉ f) :
  Calls Tryz.prog 95 #[v, .func (.func 96) #[] #[.pointer (some ⟨pb, 0, none⟩)]] w fun e w' => (∃ rv rf, e = .returned rv ∧ Rd w' (.sl ((l.filter (Tm.isNum s)).map Tm.cd)) rv rf ∧ rf.Nodup ∧ (∀ y ∈ rf, y ∈ f) ∧ Free w' f) ∧ Only f w w' := by
 obtain ⟨a, cap, rfl, hc1, hc2⟩ := zg hx; go_enter Tryz.func95, Tryz.ntmps95; go_wp2_with fail; refine (zdI s l _ f pb a0 c0 f0 _ hp hv hx).mono ?_; rintro e w1 ⟨⟨n, rfl, hn⟩, hb1⟩
 rcases hn with ⟨rfl, hall⟩ | ⟨k0, hk0, rfl, hno, hall⟩
 ·have HF := zgn (zdq s l hall)
  clear hall; go_wp2_with fail; go_ret; exact ⟨⟨_, f, rfl, by rw [HF.out]; exact hx.below hb1, hnd, fun y hy => hy, hfree.same (zah hb1 hfree.lt)⟩, Only.below hb1⟩
 ·have HNO := zgn (show l[k0].isNum s = false by simpa using hno)
  have HALL := zgn (zdq s (l.take k0) hall); clear hno hall
  have hzv : ∀ w, (zeroValue 28).run Tryz.prog w = .ok (.agg #[.string ByteArray.empty, .slice none 0 0]) w := fun w => by kernel_rfl
  obtain ⟨b, off, rfl, hbs, _⟩ := zl hx (by omega)
  obtain ⟨fr, rfl, hrow⟩ : ∃ fr, f = b :: fr ∧ RdRows w b off (l.map Tm.cd) fr := by
   have h := hx; simp only [Rd] at h; obtain ⟨a', c', h1, _, _, h2 | ⟨_, b', off', fr, rfl, _, h3, h4⟩⟩ := h
   ·exact absurd (List.map_eq_nil_iff.1 h2.1) (by rintro rfl; simp at hk0)
   ·simp only [Value.slice.injEq, Option.some.injEq, Addr.mk.injEq] at h1
    obtain ⟨⟨rfl, rfl, _⟩, _⟩ := h1; exact ⟨fr, h3, h4⟩
  obtain ⟨vs, hcells, hrv⟩ := hrow.flat; have hbf : b ∉ fr := (List.nodup_cons.1 hnd).1; have hlr := hrv.lt; obtain ⟨fs, hfl, hff, hfs⟩ := RdVs.rows hrv; have hndr : fr.Nodup := (List.nodup_cons.1 hnd).2; have hlv := hv.lt; have hpb : pb ≠ b := fun e => hpf (by simp [e]); have hdb : b ∉ f0 := fun e => hd b e (by simp)
  have hvl : vs.length = l.length * 2 := by rw [hrv.length, zdL]
  have hb1z := hb1.size; have hfr0 : ∀ m, w1.frozen? ⟨b, m, none⟩ = false := fun m => (hb1.frozen (p := ⟨b, m, none⟩) hbs).trans (hfree.frozen (by simp))
  have hstart : Kept s l w w1 b off fr fs k0 (k0 + 1) := by
   refine ⟨by omega, ?_, ?_, fun m _ => hb1.cell (p := ⟨b, off + m, none⟩) hbs, hfr0, fun m hm => ?_, Only.below hb1, hfree.same (zah hb1 hfree.lt)⟩
   ·rw [zbD s l k0 hk0, HALL.out, HNO.out]; simp; omega
   ·obtain ⟨us, h1, h2⟩ := (hfs k0 hk0 (by omega)).2
    refine ⟨us, (fs.take k0).flatten, ?_, fun m u hm => ?_, fun y hy => by rw [hff]; exact (za7 fs k0).subset hy, by rw [zaK fs k0 (by omega)]; exact List.sublist_append_left _ _⟩
    ·rw [zbD s l k0 hk0, HALL.out, HNO.out]; simpa using h1
    ·exact za (hcells m u (h2 m u hm)) hb1
   ·obtain ⟨u, hu⟩ : ∃ u, vs[m]? = some u := ⟨vs[m], zgp (by omega)⟩
    exact ⟨u, za (hcells m u hu) hb1⟩
  have hlen := zao hx; clear hfr0; go_wp2_with fail
  go_loopw [5, 6] (fun i j wr => ∃ (i' j' : Nat), i = .int .i64 i' ∧ j = .int .i64 j' ∧ Kept s l w wr b off fr fs i' j') (fun _ j _ => l.length - (intOf j).toNat)
  case atStart => exact ⟨k0, k0 + 1, rfl, by go_num, hstart⟩
  case round =>
   obtain ⟨i', j', rfl, rfl, st⟩ := hrel; have hszo := st.only.size
   have hbz : b < wr.heap.size := by omega
   have hij : i' ≤ j' := by have h1 := st.many; have h2 := zdc s l j'; omega
   have hjl := st.le
   by_cases hlt : j' < l.length
   ·have hjf : j' < fs.length := by omega
    obtain ⟨h1, hh1'⟩ : ∃ h1, h1 = fs[j'] := ⟨_, rfl⟩; obtain ⟨tv, htv, hcc⟩ := (hfs j' hlt hjf).1; rw [← hh1'] at htv
    have hsub : ∀ y ∈ h1, y ∈ fr := fun y hy => by rw [hff]; exact zcJ hjf (hh1' ▸ hy)
    obtain ⟨e1, g1, f1, rfl, rfl, t0, t1⟩ := Tm.open htv; have d0 := (st.rest (j' * 2) (by omega)).trans (hcells _ _ (hcc 0 _ rfl)); have d1 := (st.rest (j' * 2 + 1) (by omega)).trans (hcells _ _ (hcc 1 _ rfl)); rw [← Nat.add_assoc] at d1; have hh1 : b ∉ h1 := fun hb => hbf (hsub b hb); have t1r := t1.same _ (zcI st.only (t1.lt _) hh1); have hvr := hv.same _ (zcI st.only hlv hdb); have hpr := only_cell st.only hp hpb; have TK : TmR wr l[j'] (.agg #[.string l[j'].name, .slice e1 l[j'].K.length g1]) := TmR.mk t0 ⟨h1, t1r⟩; have hbX := zb wr (.cells #[.string l[j'].name, .slice e1 l[j'].K.length g1] 28); go_wp2_with fail; refine (zcG s l[j'] _ pb a0 c0 _ _ (za hpr hbX) (hvr.below hbX) (TK.below hbX)).mono ?_; rintro e w2 ⟨rfl, hb2⟩; have hbw := hbX.trans (hb2.mono hbX.size); obtain ⟨hbx, _, _⟩ := box1 (w := wr) (wr := w2) (cs := #[.string l[j'].name, .slice e1 l[j'].K.length g1]) (T := 28) (zm hb2 (by simp)); have x0 := hbx 0; have x1 := hbx 1; simp only [zgd, zgb, zgc] at x0 x1; clear hb2 hbX hbx; have st2 := st.below hbz hbw; have HSUC := zgn (zbD s l j' hlt)
    cases hnum : l[j'].isNum s
    ·have hst3 : Kept s l w w2 b off fr fs i' (j' + 1) := by
      have HS := HSUC.out; rw [hnum] at HS; simp only [Bool.false_eq_true, if_false, List.append_nil] at HS; obtain ⟨q1, q2, ⟨us, fp, r1, r2, r3, r4⟩, q4, q5, q6, q7, q8⟩ := st2; exact ⟨by omega, by rw [HS]; exact q2, by rw [HS]; exact ⟨us, fp, r1, r2, r3, r4.trans (by rw [zaK fs j' hjf]; exact List.sublist_append_left _ _)⟩, fun m hm => q4 m (by omega), q5, q6, q7, q8⟩
     simp only [Bool.not_false]; clear hnum; go_wp2_with fail; go_roundw
     case rel => exact ⟨i', j' + 1, rfl, by go_num, hst3⟩
     case measure => simp [intOf]; omega
    ·have hi2 : i' < l.length := by omega
     obtain ⟨u0, hu0⟩ := st2.ex (i' * 2) (by omega); obtain ⟨u1, hu1⟩ := st2.ex (i' * 2 + 1) (by omega); rw [← Nat.add_assoc] at hu1; have z0 := st2.free (off + i' * 2); have z1 := st2.free (off + i' * 2 + 1)
     have hst3 : Kept s l w ((w2.setCell ⟨b, off + i' * 2, none⟩ (.string l[j'].name)).setCell ⟨b, off + i' * 2 + 1, none⟩ (.slice e1 l[j'].K.length g1)) b off fr fs (i' + 1) (j' + 1) := by
      have HS := HSUC.out; rw [hnum] at HS; simp only [if_true] at HS; obtain ⟨q1, q2, ⟨us, fp, r1, r2, r3, r4⟩, q4, q5, q6, q7, q8⟩ := st2
      have hul : us.length = i' * 2 := by rw [r1.length, zdL, q2]
      have keepc : ∀ m u, m ≠ i' * 2 → m ≠ i' * 2 + 1 → w2.cell? ⟨b, off + m, none⟩ = u → ((w2.setCell ⟨b, off + i' * 2, none⟩ (.string l[j'].name)).setCell ⟨b, off + i' * 2 + 1, none⟩ (.slice e1 l[j'].K.length g1)).cell? ⟨b, off + m, none⟩ = u := fun m u h1 h2 h => by
       rw [zgt _ _ _ _ (by simp; try omega), zgt _ _ _ _ (by simp; try omega)]; exact h
      have c0' : ((w2.setCell ⟨b, off + i' * 2, none⟩ (.string l[j'].name)).setCell ⟨b, off + i' * 2 + 1, none⟩ (.slice e1 l[j'].K.length g1)).cell? ⟨b, off + i' * 2, none⟩ = some (.string l[j'].name) := by
       rw [zgt _ _ _ _ (by simp)]; exact zcd hu0
      have c1' : ((w2.setCell ⟨b, off + i' * 2, none⟩ (.string l[j'].name)).setCell ⟨b, off + i' * 2 + 1, none⟩ (.slice e1 l[j'].K.length g1)).cell? ⟨b, off + i' * 2 + 1, none⟩ = some (.slice e1 l[j'].K.length g1) :=
       zcd (by rw [zgt _ _ _ _ (by simp)]; exact hu1)
      refine ⟨by omega, by rw [HS, zgi, ← q2]; rfl, ⟨us ++ [.string l[j'].name, .slice e1 l[j'].K.length g1], fp ++ h1, ?_, fun m u hm => ?_, fun y hy => ?_, by rw [zaK fs j' hjf, ← hh1']; exact r4.append (List.Sublist.refl _)⟩, fun m hm => keepc m _ (by omega) (by omega) (q4 m (by omega)), fun m => by rw [World.frozen?_setCell, World.frozen?_setCell]; exact q5 m, fun m hm => ?_, (q7.trans (Only.set (by simp))).trans (Only.set (by simp)), (q8.set rfl).set rfl⟩
      ·rw [HS, zgj, List.flatten_append]; exact r1.app (by simpa using htv)
      ·rcases Nat.lt_or_ge m us.length with h | h
       ·rw [List.getElem?_append_left h] at hm
        exact keepc m _ (by omega) (by omega) (r2 m u hm)
       ·rw [List.getElem?_append_right h] at hm
        by_cases e0 : m = i' * 2
        ·subst e0; rw [hul, Nat.sub_self] at hm; simp at hm; subst hm; exact c0'
        ·by_cases e1' : m = i' * 2 + 1
         ·subst e1'; rw [hul] at hm; simp at hm; subst hm; rw [← Nat.add_assoc]; exact c1'
         ·have : 2 ≤ m - us.length := by omega
          rw [List.getElem?_eq_none (by simpa using this)] at hm; cases hm
      ·rcases zgg.1 hy with h | h
       ·exact r3 y h
       ·exact hsub y h
      ·by_cases e0 : m = i' * 2
       ·subst e0; exact ⟨_, c0'⟩
       ·by_cases e1' : m = i' * 2 + 1
        ·subst e1'; exact ⟨_, by rw [← Nat.add_assoc]; exact c1'⟩
        ·obtain ⟨u, hu⟩ := q6 m hm
         exact ⟨u, keepc m _ e0 e1' hu⟩
     simp only [Bool.not_true]; clear hnum; go_wp2_with fail; go_roundw
     case rel => exact ⟨i' + 1, j' + 1, by go_num, by go_num, hst3⟩
     case measure => simp [intOf]; omega
   ·have hje : j' = l.length := by omega
    have HM : Hid (i' = (l.filter (Tm.isNum s)).length) := zgn (by have h := st.many; rwa [hje, List.take_length] at h)
    have hin : i' < l.length := by
     have h1 := HM.out; have h2 : (l.filter (Tm.isNum s)).length < l.length := List.length_filter_lt_length_iff_exists.2 ⟨l[k0], zgh hk0, by simp [HNO.out]⟩; omega
    obtain ⟨us, fp, r1, r2, r3, r4⟩ := st.kept; rw [hje, List.take_length] at r1
    obtain ⟨zs, hzl, hcl⟩ := zfE (P := Tryz.prog) wr 26 28 (.string ByteArray.empty) (.slice none 0 0) Tryz.underlying26 hzv rfl rfl b (off + i' * 2) (l.length - i') (cap - i') (by omega) (fun m hm => by
     obtain ⟨u, hu⟩ := st.ex (i' * 2 + m) (by omega)
     rw [Nat.add_assoc, hu]; rfl) st.free
    have hO := (st.only.trans (Only.sets zs (off + i' * 2) wr)).mono (fq := b :: fr) (fun y hy => by rw [List.mem_singleton] at hy; simp [hy]); have hO2 := st.only.trans (Only.sets zs (off + i' * 2) wr)
    have hul : us.length = i' * 2 := by rw [r1.length, zdL, ← HM.out]
    have hfin : ∃ rf, Rd (wr.setCells b (off + i' * 2) zs) (.sl ((l.filter (Tm.isNum s)).map Tm.cd)) (.slice (some ⟨b, off, none⟩) i' cap) rf ∧ rf.Nodup ∧ ∀ y ∈ rf, y ∈ b :: fr := by
     have hcs : ∀ m u, us[m]? = some u → (wr.setCells b (off + i' * 2) zs).cell? ⟨b, off + m, none⟩ = some u := fun m u hm => by
      have hml : m < us.length := by
       rcases Nat.lt_or_ge m us.length with h | h
       ·exact h
       ·rw [List.getElem?_eq_none h] at hm; cases hm
      rw [World.cell?_setCells_out b zs _ wr _ (fun _ _ => .inl (by simp only; omega))]; exact r2 m u hm
     have hbF : b ∉ fp := fun h => hbf (r3 b h); have hr2 := r1.same _ (zcI hO2 (r1.lt) hbF); have hnp : fp.Nodup := (r4.trans (za7 fs j')).nodup (hff ▸ hndr); simp only [Rd]
     rcases Nat.eq_zero_or_pos i' with h0 | h0
     ·refine ⟨[], ⟨some ⟨b, off, none⟩, cap, ?_, ?_, by simpa [maxLen] using hc2, .inl ⟨?_, rfl⟩⟩, List.nodup_nil, by simp⟩
      ·rw [zgl, ← HM.out]
      ·rw [zgl, ← HM.out]; omega
      ·have h1 := HM.out; rw [h0] at h1
       rw [List.eq_nil_of_length_eq_zero h1.symm]; rfl
     ·refine ⟨b :: fp, ⟨some ⟨b, off, none⟩, cap, ?_, ?_, by simpa [maxLen] using hc2, .inr ⟨?_, b, off, fp, rfl, ?_, rfl, RdRows.mk (k := 2) hcs hr2⟩⟩, List.nodup_cons.2 ⟨hbF, hnp⟩, fun y hy => (zgk.1 hy).elim (fun e => by simp [e]) (fun h => by simp [r3 y h])⟩
      ·rw [zgl, ← HM.out]
      ·rw [zgl, ← HM.out]; omega
      ·intro h; have h1 := HM.out; have h2 := congrArg List.length h; rw [zgl] at h2; simp only [List.length_nil] at h2; omega
      ·have := hO2.size; omega
    have hown := Free.sets (b := b) zs (off + i' * 2) wr st.own; clear hul r1 r2 r3 r4 hje hstart; go_wp2_with fail; go_ret; obtain ⟨rf, hrf, hrn, hrs⟩ := hfin; exact ⟨⟨_, rf, rfl, hrf, hrn, hrs, hown⟩, hO⟩
end Go.Proofs.YtbfinjiledfpcaaGreat
/- BothOk, the program's. -/
namespace Go.Proofs.YtbfinjiledfpcaaGreat
open Go Go.RowKit
set_option linter.unusedVariables false
set_option linter.unusedSimpArgs false
mutual
theorem Tm.shape_mono : ∀ (t : Tm) (d : Int), Tm.shape t d = true → Tm.shape t (d + 1) = true
 | .mk n ks, d, h => by
  simp only [Tm.shape, zgm, decide_eq_true_eq] at h ⊢; exact ⟨⟨⟨by omega, h.1.1.2⟩, h.1.2⟩, by have := Tm.shapes_mono ks (d - 1) h.2; rwa [show d - 1 + 1 = d + 1 - 1 by omega] at this⟩
theorem Tm.shapes_mono : ∀ (ts : List Tm) (d : Int), Tm.shapes ts d = true → Tm.shapes ts (d + 1) = true
 | [], d, _ => by simp [Tm.shapes]
 | t :: ts, d, h => by
  simp only [Tm.shapes, zgm] at h ⊢; exact ⟨Tm.shape_mono t d h.1, Tm.shapes_mono ts d h.2⟩
end
theorem Tm.wf_kid {t k : Tm} (h : t.wf = true) (hk : k ∈ t.K) : k.wf = true := by
 have h1 := Tm.shape_kids (Tm.wf_shape h) k hk; have h2 := Tm.wf_size h; have h3 := Tm.size_kid_mem hk; have h4 := Tm.shape_mono k _ h1; simp only [Tm.wf, zgm, decide_eq_true_eq]; exact ⟨by simpa using h4, by omega⟩
mutual
theorem Tm.addP_wf : ∀ (t : Tm) (l : List Tm), t.wf = true → (∀ x ∈ l, x.wf = true) → ∀ x ∈ Tm.addP l t, x.wf = true
 | .mk n ks, l, h, hl, x, hx => by
  have h1 := Tm.addPs_wf ks l (fun k hk => Tm.wf_kid h hk) hl; simp only [Tm.addP] at hx
  split at hx
  ·exact h1 x hx
  ·rcases zgg.1 hx with h2 | h2
   ·exact h1 x h2
   ·obtain rfl := List.mem_singleton.1 h2; exact h
theorem Tm.addPs_wf : ∀ (ts l : List Tm), (∀ t ∈ ts, t.wf = true) → (∀ x ∈ l, x.wf = true) → ∀ x ∈ Tm.addPs l ts, x.wf = true
 | [], l, _, hl, x, hx => hl x (by simpa [Tm.addPs] using hx)
 | t :: ts, l, h, hl, x, hx => by
  simp only [Tm.addPs] at hx; exact Tm.addPs_wf ts _ (fun k hk => h k (by simp [hk])) (Tm.addP_wf t l (h t (by simp)) hl) x hx
end
def zbd (s : Sg) (ls : List Lt) : Bool := decide (ls.length ≤ 6) && (ls.all (fun l => zas s l.M) && (s.okB && (decide ((Tm.addPs [] (zad ls)).length ≤ 24) && decide (((Tm.addPs [] (zad ls)).filter (Tm.isNum s)).length ≤ 4))))
theorem zeb {s : Sg} {ls : List Lt} (h : s.okB = false) : zbd s ls = false := by simp [zbd, h]
theorem zec {s : Sg} {ls : List Lt} (h : ¬ ls.length ≤ 6) : zbd s ls = false := by simp [zbd, h]
theorem zed {s : Sg} {ls : List Lt} {k : Nat} (hk : k < ls.length) (h : zas s ls[k].M = false) : zbd s ls = false := by
 have : ls.all (fun l => zas s l.M) = false := by rw [List.all_eq_false]; exact ⟨ls[k], zgh hk, by simp [h]⟩
 simp only [zbd, this, Bool.false_and, Bool.and_false]
theorem zee {s : Sg} {ls : List Lt} {k : Nat} (hk : k < ls.length) (h : (ls.take k).all (fun l => zas s l.M) = true) (h' : zas s ls[k].M = true) : (ls.take (k + 1)).all (fun l => zas s l.M) = true := by
 rw [zgf hk, List.all_append, h]; simp [h']
theorem zef {s : Sg} {x : Atm} (h : zas s x = true) : x.okB = true := by
 cases hk : x.okB with
 | true => rfl
 | false => rw [zdK hk] at h; simp at h
theorem lits_wf {s : Sg} {ls : List Lt} (h : ls.all (fun l => zas s l.M) = true) : ∀ t ∈ zad ls, t.wf = true := by
 intro t ht; obtain ⟨l, hl, ht⟩ := List.mem_flatMap.1 ht; exact Atm.tms_wf (zef (List.all_eq_true.1 h l hl)) t ht
theorem zfF {s : Sg} {ls : List Lt} (h : ls.all (fun l => zas s l.M) = true) : Tm.parts (zad ls) = Tm.addPs [] (zad ls) := by
 unfold Tm.parts; rw [if_pos]; rw [List.all_eq_true]; exact lits_wf h
theorem zeg {s : Sg} : ∀ {ls : List Lt}, ls.all (fun l => zas s l.M) = true → zau ls = zad ls
 | [], _ => rfl
 | l :: ls, h => by
  simp only [List.all_cons, zgm] at h; have ih := zeg (ls := ls) h.2; simp only [zau, zad, List.flatMap_cons] at ih ⊢; rw [ih, Lt.tms_yes (zef h.1)]
theorem lits_nums {s : Sg} {ls : List Lt} (hs : s.okB = true) (h : ls.all (fun l => zas s l.M) = true) : (Tm.addPs [] (zad ls)).filter (fun t => (t.srt s).getD (-1) == 1) = (Tm.addPs [] (zad ls)).filter (Tm.isNum s) := by
 refine List.filter_congr fun t ht => ?_; have hw := Tm.addPs_wf (zad ls) [] (lits_wf h) (by simp) t ht; have h1 := Tm.tsrt_yes hs hw
 cases ho : t.srt s with
 | none => rw [Tm.isNum_none (h1.trans ho)]; rfl
 | some n => rw [Tm.isNum_some (h1.trans ho)]; rfl
theorem zeh {s : Sg} {ls : List Lt} (hs : s.okB = true) (hl : ls.length ≤ 6) (h : ls.all (fun l => zas s l.M) = true) : zbd s ls = (decide ((Tm.addPs [] (zad ls)).length ≤ 24) && decide (((Tm.addPs [] (zad ls)).filter (Tm.isNum s)).length ≤ 4)) := by
 rw [zbd, decide_eq_true hl, h, hs]; rfl
set_option maxHeartbeats 1000000 in
theorem zfG (s : Sg) (ls : List Lt) (us : List Value) (v : Value) (f f' : List Nat) (w : World) (hbig : Tm.sizes (zad ls) ≤ 1000000000) (hv : RdVs w s.cd us f') (hx : Rd w (.sl (ls.map Lt.cd)) v f) :
  Calls Tryz.prog 52 #[.agg us.toArray, v] w fun e w' => (∃ rv rf, e = .returned rv ∧ Rd w' (.sl (((Tm.parts (zad ls)).filter (Tm.isNum s)).map Tm.cd)) rv rf ∧ Fresh w.heap.size w' rf) ∧ Below w.heap.size w w' := by
 obtain ⟨a0, c0, f0, rfl, _, n0⟩ := Sg.open hv; have hlv := hv.lt; go_enter Tryz.func52, Tryz.ntmps52; go_wp2_with fail; refine (zcH ls v f _ hbig (by exact hx.below (zb _ _))).mono ?_; rintro e w1 ⟨pv, pf, rfl, hp, hpf, hb⟩; obtain ⟨hs, hz, hB⟩ := box1 (w := w) (wr := w1) (cs := #[.slice a0 s.Y.length c0]) (T := 25) (zm hb (by simp)); have S0 := hs 0; simp only [zgd, zgb, zgc] at S0; have hpf1 : Fresh (w.heap.size + 1) w1 pf := hpf.mono (by simp); clear hb hpf; obtain ⟨pa, pc, rfl, hp1, hp2⟩ := zg hp; go_wp2_with fail; refine (zdM s (Tm.parts (zad ls)) _ pf w.heap.size a0 c0 _ _ S0 (hv.below hB) hp hpf1.1 hpf1.free (fun h => by have := (hpf1.2 _ h).1; omega) (fun y hy h => by have := hlv y hy; have := (hpf1.2 _ h).1; omega)).mono ?_; rintro e w2 ⟨⟨rv, rf, rfl, hr, hrn, hrs, hrw⟩, hO⟩; go_wp2_with fail; go_ret; exact ⟨⟨rv, rf, rfl, hr, hrn, fun y hy => ⟨by have := (hpf1.2 _ (hrs y hy)).1; omega, hrw y (hrs y hy)⟩⟩, hB.trans (hO.toBelow hB.size (fun y hy => by have := (hpf1.2 _ hy).1; omega))⟩
set_option maxHeartbeats 2000000 in
theorem zfH (s : Sg) (ls : List Lt) (us : List Value) (v : Value) (f f' : List Nat) (w : World) (hsm : ∀ l ∈ ls, l.M.small) (hbig : Tm.sizes (zad ls) ≤ 1000000000) (hv : RdVs w s.cd us f') (hx : Rd w (.sl (ls.map Lt.cd)) v f) :
  Calls Tryz.prog 15 #[.agg us.toArray, v] w fun e w' => e = .returned (.bool (zbd s ls)) ∧ Below w.heap.size w w' := by
 obtain ⟨a0, c0, f0, rfl, _, n0⟩ := Sg.open hv; obtain ⟨a, cap, rfl, hc1, hc2⟩ := zg hx; have hlen := zao hx; have HSM := zgn hsm; clear hsm; go_enter Tryz.func15, Tryz.ntmps15; go_wp2_with fail; refine (zbJ s _ _ _ (by exact hv.below (zb _ _))).mono ?_; rintro e w1 ⟨rfl, hb1⟩; obtain ⟨hxL, hzL, hBL⟩ := box1 (w := w) (wr := w1) (cs := #[.slice a0 s.Y.length c0]) (T := 25) (zm hb1 (by simp)); have cx := hxL 0; simp only [zgd, zgb, zgc] at cx; clear hxL hb1
 cases h1 : s.okB
 ·have HF := zgn (zeb (ls := ls) h1)
  clear h1; go_wp2_with fail; go_ret; exact ⟨retB HF.out.symm, hBL⟩
 have H1 := zgn h1; clear h1
 by_cases h2 : ls.length ≤ 6
 rotate_left
 ·have HF := zgn (zec (s := s) h2)
  have t2 : decide ((6 : Int) < (ls.length : Int)) = true := by simp; omega
  go_wp2_with fail; go_ret; exact ⟨retB HF.out.symm, hBL⟩
 have t2 : decide ((6 : Int) < (ls.length : Int)) = false := by simp; omega
 go_wp2_with fail
 go_loopw [17] (fun i wq => ∃ k : Nat, k ≤ ls.length ∧ i = .int .i64 k ∧ Hid ((ls.take k).all (fun l => zas s l.M) = true) ∧ Below w1.heap.size w1 wq) (fun i _ => ls.length - (intOf i).toNat)
 case atStart => exact ⟨0, zgx _, rfl, zgn (by simp), zgz _ _⟩
 case round =>
  obtain ⟨k, hkl, rfl, hall, hM⟩ := hrel; have hszm := hM.size; have cxm := za cx hM; have hBM := hBL.trans (hM.mono (by omega))
  by_cases hlt : k < ls.length
  ·obtain ⟨b, off, rfl, hbs, _⟩ := zl hx (by omega)
   have hbz : b < wr.heap.size := by omega
   have hz3 : w.heap.size < wr.heap.size := by omega
   obtain ⟨a2, c2, f2, a4, c4, f4, a5, c5, f5, a6, c6, f6, d0, d1, d2, d3, d4, d5, d6, d7, d8, d9, m0, m1, m2, m3, m4, m5, m6, m7, _⟩ := Lt.at (hx.below hBM) hlt; have hat := Atm.close (x := ls[k].M) m0 m1 m2 m3 m4 m5 m6 m7; have hbk := zb wr (.cells #[.int .i64 ls[k].M.kind, .string ls[k].M.a.name, .slice a2 ls[k].M.a.K.length c2, .string ls[k].M.b.name, .slice a4 ls[k].M.b.K.length c4, .slice a5 ls[k].M.N.length c5, .slice a6 ls[k].M.T.length c6, .int .i64 ls[k].M.O, .bool ls[k].M.C, .bool ls[k].no] 33); have hzk := hbk.size; go_wp2_with fail; refine (zeM s ls[k].M _ _ _ _ _ (HSM.out _ (zgh hlt)) (by exact hv.below (hBM.trans (hbk.mono hBM.size))) (by exact hat.below hbk)).mono ?_; rintro e w4 ⟨rfl, hb4⟩; have hb5 := hbk.trans (hb4.mono hzk); have hM5 := hM.trans (hb5.mono hszm); have hB5 := hBM.trans (hb5.mono hBM.size); clear hb4 hbk hzk
   cases ho : zas s ls[k].M
   ·have HF := zgn (zed hlt ho)
    clear ho; go_wp2_with fail; go_ret; exact ⟨retB HF.out.symm, hB5⟩
   ·have HE := zgn (zee hlt hall.out ho)
    clear ho; go_wp2_with fail; go_roundw
    case rel => exact ⟨k + 1, by omega, by go_num, HE, hM5⟩
    case measure => simp [intOf]; omega
  ·have HALL : Hid (ls.all (fun l => zas s l.M) = true) := zgn (by have h := hall.out; rwa [zgq (by omega)] at h)
   have HF := zgn (zeh H1.out h2 HALL.out); have HP := zgn (zfF HALL.out); go_wp2_with fail; refine (zcH ls _ _ _ hbig (hx.below hBM)).mono ?_; rintro e w4 ⟨pv, pf, rfl, hp, _, hb4⟩; rw [HP.out] at hp; obtain ⟨pa, pc, rfl, hl1, hl2⟩ := zg hp; have hB4 := hBM.trans (hb4.mono hBM.size); have cx4 := za cxm hb4; clear hb4
   by_cases g1 : (Tm.addPs [] (zad ls)).length ≤ 24
   rotate_left
   ·have t3 : decide (((Tm.addPs [] (zad ls)).length : Int) ≤ 24) = false := by simp; omega
    have HG : Hid (zbd s ls = false) := zgn (by rw [HF.out, decide_eq_false g1]; rfl); go_wp2_with fail; go_ret; exact ⟨retB HG.out.symm, hB4⟩
   have t3 : decide (((Tm.addPs [] (zad ls)).length : Int) ≤ 24) = true := by simp; omega
   have HG := zgn (HF.out.trans (by rw [decide_eq_true g1, Bool.true_and])); go_wp2_with fail; refine (zfG s ls _ _ _ _ _ hbig (hv.below hB4) (hx.below hB4)).mono ?_; rintro e w5 ⟨⟨nv, nf, rfl, hn, _⟩, hb5⟩; rw [HP.out] at hn; obtain ⟨na, nc, rfl, hl3, hl4⟩ := zg hn; have hB5 := hB4.trans (hb5.mono hB4.size); clear hb5; go_wp2_with fail; go_ret
   exact ⟨retB (by rw [HG.out]; simp; try omega), hB5⟩
end Go.Proofs.YtbfinjiledfpcaaGreat
/- BothOk, the reference's. -/
namespace Go.Proofs.YtbfinjiledfpcaaGreat
open Go Go.RowKit
set_option linter.unusedVariables false
set_option linter.unusedSimpArgs false
def numS (s : Sg) (t : Tm) : Bool := (t.srt s).getD (-1) == 1
theorem numS_succ (s : Sg) (ts : List Tm) (k : Nat) (h : k < ts.length) : (ts.take (k + 1)).filter (numS s) = (ts.take k).filter (numS s) ++ (if numS s ts[k] = true then [ts[k]] else []) := by
 rw [zgf h, List.filter_append]
 congr 1
 simp [List.filter_cons]
def Tm.rdT (w : World) (t : Tm) (e : Option Addr) (g : Nat) (f : List Nat) : Prop := t.name.size ≤ maxLen ∧ Rd w (.sl (t.K.map Tm.cd)) (.slice e t.K.length g) f
theorem rowsT_of {w : World} {ts : List Tm} {a : Option Addr} {n cap : Nat} {f : List Nat} (hx : Rd w (.sl (ts.map Tm.cd)) (.slice a n cap) f) : ∃ fs : List (List Nat), fs.length = ts.length ∧ fs.flatten.Sublist f ∧
  ∀ j (h : j < ts.length) (h' : j < fs.length) b off, a = some ⟨b, off, none⟩ → ∃ e1 g1, w.cell? ⟨b, off + j * 2, none⟩ = some (.string ts[j].name) ∧ w.cell? ⟨b, off + j * 2 + 1, none⟩ = some (.slice e1 ts[j].K.length g1) ∧ Tm.rdT w ts[j] e1 g1 fs[j] := by
 by_cases h0 : 0 < ts.length
 ·obtain ⟨b, off, fr, hb, _, rfl, hrow⟩ := hx.addr (by simpa using h0)
  obtain ⟨vs, hcells, hrv⟩ := hrow.flat; obtain ⟨fs, h1, rfl, h3⟩ := RdVs.rows hrv; refine ⟨fs, h1, List.sublist_cons_self _ _, fun j h h' b' off' ha => ?_⟩; rw [hb] at ha; simp only [Option.some.injEq, Addr.mk.injEq] at ha; obtain ⟨rfl, rfl, _⟩ := ha; obtain ⟨tv, htv, hcc⟩ := (h3 j h h').1; obtain ⟨e1, g1, f1, rfl, e, t0, t1⟩ := Tm.open htv; exact ⟨e1, g1, hcells _ _ (hcc 0 _ rfl), hcells _ _ (hcc 1 _ rfl), t0, e ▸ t1⟩
 ·have : ts = [] := List.eq_nil_of_length_eq_zero (by omega)
  subst this; exact ⟨[], rfl, List.nil_sublist _, fun j h => absurd h (by simp)⟩
set_option maxHeartbeats 4000000 in
theorem zfI (s : Sg) (hok : Hid (s.okB = true)) (ts : List Tm) (us : List Value) (v : Value) (f f' : List Nat) (w : World) (hlen : ts.length ≤ 1000000000) (hv : RdVs w s.cd us f') (hx : Rd w (.sl (ts.map Tm.cd)) v f) (B : Nat) (hB : B ≤ w.heap.size) (hfr : Fresh B w f) :
  Calls Tryz.prog 124 #[.agg us.toArray, v] w fun e w' => (∃ rv rf, e = .returned rv ∧ Rd w' (.sl ((ts.filter (numS s)).map Tm.cd)) rv rf ∧ Fresh B w' rf) ∧ Below w.heap.size w w' := by
 obtain ⟨a0, c0, f0, rfl, _, n0⟩ := Sg.open hv; obtain ⟨a, cap, rfl, hc1, hc2⟩ := zg hx; have hfl := hx.lt _; obtain ⟨fs, hfs1, hfs2, hfs3⟩ := rowsT_of hx; have HFS := zgn hfs3; clear hfs3; go_enter Tryz.func124, Tryz.ntmps124; go_wp2_with fail
 go_loopw [5, 6] (fun ov i wq => ∃ (k : Nat) (fp : List Nat), k ≤ ts.length ∧ i = .int .i64 k ∧ Own wq (w.heap.size + 1) 28 2 ov (((ts.take k).filter (numS s)).map Tm.cd) fp ∧ Hid (fp.Sublist (fs.take k).flatten) ∧ wq.cell? ⟨w.heap.size, 0, none⟩ = some (.slice a0 s.Y.length c0) ∧ w.heap.size + 1 ≤ wq.heap.size ∧ Below w.heap.size w wq) (fun _ i _ => ts.length - (intOf i).toNat)
 case atStart =>
  have e1 : (w.alloc (.cells #[.slice a0 s.Y.length c0] 25)).heap.size = w.heap.size + 1 := by simp
  refine ⟨0, [], zgx _, rfl, ?_, zgn (by simp), ?_, by simp, (zb _ _).alloc (by simp) _⟩
  ·have := Own.empty (w.alloc (.cells #[.slice a0 s.Y.length c0] 25)) (w.heap.size + 1) 28 2 (by simp)
   rw [e1] at this; exact this
  ·have := zt w #[.slice a0 s.Y.length c0] 25 0
   exact za this (zb _ _)
 case round =>
  obtain ⟨k, fp, hkl, rfl, hown, hfp, cx, hz', hb⟩ := hrel; have hz := hb.size
  by_cases hlt : k < ts.length
  ·obtain ⟨b, off, rfl, hbs, _⟩ := zl hx (by omega)
   have hbz : b < wr.heap.size := by omega
   have hz3 : w.heap.size < wr.heap.size := by omega
   have hkf : k < fs.length := by omega
   obtain ⟨h1, hh1⟩ : ∃ h1, h1 = fs[k] := ⟨_, rfl⟩; obtain ⟨e1, g1, d0', d1', t0, t1'⟩ := HFS.out k hlt hkf b off rfl; rw [← hh1] at t1'; have hsub : ∀ y ∈ h1, y ∈ f := fun y hy => hfs2.subset (zcJ hkf (hh1 ▸ hy)); have hbw : b < w.heap.size := hbs; have d0 := za d0' hb; have d1 := za d1' hb; have t1 := t1'.below hb; have HSU : Hid ((fs.take (k + 1)).flatten = (fs.take k).flatten ++ h1) := zgn (by rw [zaK fs k hkf, ← hh1]); clear d0' d1' t1' hh1; have htr := Tm.rdv t0 t1; have hvr := hv.below hb; have HL := zgn (fun W (hW : Below wr.heap.size wr W) => (zbK s hok ts[k].size ts[k] _ _ _ _ W (zgo _) (hvr.below hW) (htr.below hW))); have HSUC := zgn (numS_succ s ts k hlt); obtain ⟨z, hz0⟩ : ∃ z, (ts[k].srt s).getD (-1) = z := ⟨_, rfl⟩; have HZ := zgn (show numS s ts[k] = (z == 1) by unfold numS; rw [hz0]); have HL2 : Hid (∀ W, Below wr.heap.size wr W → Calls Tryz.prog 140 #[.agg [.slice a0 s.Y.length c0].toArray, .agg [.string ts[k].name, .slice e1 ts[k].K.length g1].toArray] W (fun e w' => e = .returned (.int .i64 z) ∧ Below W.heap.size W w')) := zgn (fun W hW => (HL.out W hW).mono fun e w' h => by unfold OfOut at h; rw [hz0] at h; exact h); clear hz0 HL; have q0 := cell_regrown cx; have q2 := cell_regrown d0; have q3 := cell_regrown d1
   have hl : (((ts.take k).filter (numS s)).map Tm.cd).length ≤ ts.length := by rw [zgl]; have h1 := List.length_filter_le (numS s) (ts.take k); rw [List.length_take] at h1; omega
   go_wp2_with fail
   cases hn : (z == 1)
   ·have HS : Hid ((ts.take (k + 1)).filter (numS s) = (ts.take k).filter (numS s)) := zgn (by rw [HSUC.out, HZ.out, hn]; simp)
    refine wp_region_quiet_below (by kernel_rfl) (by kernel_rfl) ?_
    repeat (first | go_big_quiet_skip | quiet_step ((go_at_call 140; with_reducible refine zgr (HL2.out _ (below_regrown _ _ _)))))
    refine wpQuiet_nil ?_; intro w9 hw9; obtain ⟨⟨dq, osq⟩, hw9⟩ := hw9; have hb9 : Below wr.heap.size wr w9 := hw9 ▸ below_regrown wr dq osq; clear hw9; go_wp2_with fail; go_roundw
    case rel =>
     refine ⟨k + 1, fp, by omega, by go_num, ?_, zgn (hfp.out.trans (by rw [HSU.out]; exact List.sublist_append_left _ _)), za cx hb9, zgy hz' hb9.size, hb.trans (hb9.mono hz)⟩; rw [HS.out]; exact hown.below hb9
    case measure => simp [intOf]; omega
   ·have HS : Hid ((ts.take (k + 1)).filter (numS s) = (ts.take k).filter (numS s) ++ [ts[k]]) := zgn (by rw [HSUC.out, HZ.out, hn]; simp)
    refine wp_region_quiet_below (by kernel_rfl) (by kernel_rfl) ?_
    repeat (first | go_big_quiet_skip | quiet_step ((go_at_call 140; with_reducible refine zgr (HL2.out _ (below_regrown _ _ _)))))
    refine wpQuiet_nil ?_; intro w9 hw9; obtain ⟨⟨dq, osq⟩, hw9⟩ := hw9; have hb9 : Below wr.heap.size wr w9 := hw9 ▸ below_regrown wr dq osq; clear hw9; have hz9 := hb9.size; have d0w := za d0 hb9; have d1w := za d1 hb9
    have hbz9 : b < w9.heap.size := by omega
    have hown2 := (hown.below hb9).below (zb w9 (.cells #[.string ts[k].name, .slice e1 ts[k].K.length g1] 28)); have t1w := (t1.below hb9).below (zb w9 (.cells #[.string ts[k].name, .slice e1 ts[k].K.length g1] 28)); have cxw := za (za cx hb9) (zb w9 (.cells #[.string ts[k].name, .slice e1 ts[k].K.length g1] 28)); go_wp2_with (at_builtin; refine zz zaU rfl _ _ rfl (w.heap.size + 1) _ _ _ rfl hown2 ⟨w9.heap.size, 0, none⟩ 1 1 [ts[k].cd] [.string ts[k].name, .slice e1 ts[k].K.length g1] h1 rfl rfl ?rd ?k ?cells ?na ?bytes ?len ?base ?next)
    case rd => simpa using Tm.rdv t0 t1w
    case k => simp [Tm.cd_len]
    case cells => exact zq _ _ _
    case na => exact fun y hy e => by have h1 := (hown.block e).1; have h2 := hfl y (hsub y hy); omega
    case bytes => omega
    case len => omega
    case base => (simp; try omega)
    case next =>
     intro v' w4 hown4 hg hv' hs4; have hB9 := hb.trans (hb9.mono hz)
     have hb4 := zo (hB9.alloc (by omega) _) hg (by simp; try omega) (fun q hq => by have := (hown.block hq).1; omega)
     have cx4 := zr hg cxw (hown.row_ne (by omega)); have hz4 := hg.size; simp at hz4; clear hg hs4; go_wp2_with fail; go_roundw
     case rel =>
      refine ⟨k + 1, fp ++ h1, by omega, by go_num, ?_, zgn (by rw [HSU.out]; exact hfp.out.append (List.Sublist.refl _)), cx4, by omega, hb4⟩; rw [HS.out, zgj]; exact hown4
     case measure => simp [intOf]; omega
  ·have he : ts.take k = ts := zgq (by omega)
   rw [he] at hown; clear he; obtain ⟨oa, on, oc, rfl⟩ := hown.form'; have hsl : fp.Sublist f := (hfp.out.trans (za7 fs k)).trans hfs2; have hfr2 : Fresh B wr fp := ⟨hsl.nodup hfr.1, fun y hy => (hfr.below hb).2 y (hsl.subset hy)⟩; obtain ⟨fp', hr, hfr3, _⟩ := (hown.base (base' := B) (fun q hq => by have := (hown.block hq).1; omega)).fresh hfr2; go_wp2_with fail; go_ret; exact ⟨⟨_, fp', rfl, hr, hfr3⟩, hb⟩
set_option maxHeartbeats 4000000 in
theorem zeP (s : Sg) (ls : List Lt) (us : List Value) (v : Value) (f f' : List Nat) (w : World) (hl6 : Hid (ls.length ≤ 6)) (hsm : ∀ l ∈ ls, l.M.small) (hbig : Tm.sizes (zau ls) ≤ 1000000000) (hv : RdVs w s.cd us f') (hx : Rd w (.sl (ls.map Lt.cd)) v f) :
  Calls Tryz.prog 86 #[.agg us.toArray, v] w fun e w' => e = .returned (.bool (zbd s ls)) ∧ Below w.heap.size w w' := by
 obtain ⟨a0, c0, f0, rfl, _, n0⟩ := Sg.open hv; obtain ⟨a, cap, rfl, hc1, hc2⟩ := zg hx; have hlen := zao hx; have HSM := zgn hsm; clear hsm; have hb0 := zb w (.cells #[.slice a0 s.Y.length c0] 25); go_enter Tryz.func86, Tryz.ntmps86; go_wp2_with fail
 go_loopw [5] (fun i wq => ∃ k : Nat, k ≤ ls.length ∧ i = .int .i64 k ∧ Hid ((ls.take k).all (fun l => zas s l.M) = true) ∧ wq.cell? ⟨w.heap.size, 0, none⟩ = some (.slice a0 s.Y.length c0) ∧ w.heap.size + 1 ≤ wq.heap.size ∧ Below w.heap.size w wq) (fun i _ => ls.length - (intOf i).toNat)
 case atStart => exact ⟨0, zgx _, rfl, zgn (by simp), zt w #[.slice a0 s.Y.length c0] 25 0, by simp, hb0⟩
 case round =>
  obtain ⟨k, hkl, rfl, hall, cx, hz', hb⟩ := hrel; have hz := hb.size
  by_cases hlt : k < ls.length
  ·obtain ⟨b, off, rfl, hbs, _⟩ := zl hx (by omega)
   have hbz : b < wr.heap.size := by omega
   have hz3 : w.heap.size < wr.heap.size := by omega
   obtain ⟨a2, c2, f2, a4, c4, f4, a5, c5, f5, a6, c6, f6, d0, d1, d2, d3, d4, d5, d6, d7, d8, d9, m0, m1, m2, m3, m4, m5, m6, m7, _⟩ := Lt.at (hx.below hb) hlt; have hat := Atm.close (x := ls[k].M) m0 m1 m2 m3 m4 m5 m6 m7; have hvr := hv.below hb; have HSL := zgn (HSM.out _ (zgh hlt)); have HC : Hid (∀ W, Below wr.heap.size wr W → Calls Tryz.prog 122 #[.agg [.slice a0 s.Y.length c0].toArray, .agg (yNa ls[k].M a2 c2 a4 c4 a5 c5 a6 c6)] W (fun e w' => e = .returned (.bool (zas s ls[k].M)) ∧ Below W.heap.size W w')) := zgn (fun W hW => zeN s ls[k].M _ _ _ _ W HSL.out (hvr.below hW) (hat.below hW)); have q0 := cell_regrown cx; have r0 := cell_regrown d0; have r1 := cell_regrown d1; have r2 := cell_regrown d2; have r3 := cell_regrown d3; have r4 := cell_regrown d4; have r5 := cell_regrown d5; have r6 := cell_regrown d6; have r7 := cell_regrown d7; have r8 := cell_regrown d8; go_wp2_with fail
   cases ho : zas s ls[k].M
   ·have HF := zgn (zed hlt ho)
    refine wp_region_quiet_below (by kernel_rfl) (by kernel_rfl) ?_
    repeat (first | go_big_quiet_skip | quiet_step ((go_at_call 122; with_reducible refine zgr (HC.out _ (below_regrown _ _ _)))))
    refine wpQuiet_nil ?_; intro w9 hw9; obtain ⟨⟨dq, osq⟩, hw9⟩ := hw9; have hb9 : Below wr.heap.size wr w9 := hw9 ▸ below_regrown wr dq osq; clear hw9; go_wp2_with fail; go_ret; exact ⟨retB HF.out.symm, hb.trans (hb9.mono hz)⟩
   ·have HE := zgn (zee hlt hall.out ho)
    refine wp_region_quiet_below (by kernel_rfl) (by kernel_rfl) ?_
    repeat (first | go_big_quiet_skip | quiet_step ((go_at_call 122; with_reducible refine zgr (HC.out _ (below_regrown _ _ _)))))
    refine wpQuiet_nil ?_; intro w9 hw9; obtain ⟨⟨dq, osq⟩, hw9⟩ := hw9; have hb9 : Below wr.heap.size wr w9 := hw9 ▸ below_regrown wr dq osq; clear hw9; go_wp2_with fail; go_roundw
    case rel => exact ⟨k + 1, by omega, by go_num, HE, za cx hb9, zgy hz' hb9.size, hb.trans (hb9.mono hz)⟩
    case measure => simp [intOf]; omega
  ·have HALL : Hid (ls.all (fun l => zas s l.M) = true) := zgn (by have h := hall.out; rwa [zgq (by omega)] at h)
   have HU := zgn (zeg HALL.out); have hln := Tm.addPs_len (zad ls) []; simp only [List.length_nil, Nat.zero_add] at hln; have hbig' := hbig; rw [HU.out] at hbig'; have h6 := hl6.out; go_wp2_with fail; refine (zeO ls _ _ _ HSM.out hbig (by omega) (hx.below hb)).mono ?_; rintro e w4 ⟨pv, pf, rfl, hp, hpf4, hb4⟩; rw [HU.out] at hp; obtain ⟨pa, pc, rfl, hl1, hl2⟩ := zg hp; have hB4 := hb.trans (hb4.mono hz); have cx4 := za cx hb4; have hb4z := hb4.size; clear hb4; go_wp2_with fail; refine (zbl s _ _ _ (by exact hv.below hB4)).mono ?_; rintro e w5 ⟨rfl, hb5⟩; have hB5 := hB4.trans (hb5.mono hB4.size); have cx5 := za cx4 hb5; have hb5z := hb5.size; have hp5 := hp.below hb5; have HFR := zgn (hpf4.below hb5); clear hb5 hpf4
   cases h1 : s.okB
   ·have HF := zgn (zeb (ls := ls) h1)
    clear h1; go_wp2_with fail; go_ret; exact ⟨retB HF.out.symm, hB5⟩
   have H1 := zgn h1; clear h1; have HF := zgn (zeh H1.out h6 HALL.out); have HNU := zgn (lits_nums H1.out HALL.out)
   by_cases g1 : (Tm.addPs [] (zad ls)).length ≤ 24
   rotate_left
   ·have t3 : decide (((Tm.addPs [] (zad ls)).length : Int) ≤ 24) = false := by simp; omega
    have HG : Hid (zbd s ls = false) := zgn (by rw [HF.out, decide_eq_false g1]; rfl); go_wp2_with fail; go_ret; exact ⟨retB HG.out.symm, hB5⟩
   have t3 : decide (((Tm.addPs [] (zad ls)).length : Int) ≤ 24) = true := by simp; omega
   have HG := zgn (HF.out.trans (by rw [decide_eq_true g1, Bool.true_and])); have hwr5 : wr.heap.size ≤ w5.heap.size := zgy hb4z hb5z; go_wp2_with fail; refine (zfI s H1 (Tm.addPs [] (zad ls)) _ _ _ _ _ (by omega) (hv.below hB5) hp5 wr.heap.size hwr5 HFR.out).mono ?_; rintro e w6 ⟨⟨nv, nf, rfl, hn, _⟩, hb6⟩
   have hn2 : Rd w6 (.sl (((Tm.addPs [] (zad ls)).filter (Tm.isNum s)).map Tm.cd)) nv nf := by rw [← HNU.out]; exact hn
   obtain ⟨na, nc, rfl, hl3, hl4⟩ := zg hn2; have hB6 := hB5.trans (hb6.mono hB5.size); clear hb6 hn hn2; go_wp2_with fail; go_ret
   exact ⟨retB (by rw [HG.out]; simp; try omega), hB6⟩
theorem za8 (s : Sg) (ls : List Lt) (us : List Value) (v : Value) (f f' : List Nat) (w : World) (hsm : ∀ l ∈ ls, l.M.small) (hbig : Tm.sizes (zau ls) ≤ 1000000000) (hv : RdVs w s.cd us f') (hx : Rd w (.sl (ls.map Lt.cd)) v f) :
  Calls Tryz.prog 44 #[.agg us.toArray, v] w fun e w' => e = .returned (.bool (zbd s ls)) ∧ Below w.heap.size w w' := by
 obtain ⟨a0, c0, f0, rfl, _, n0⟩ := Sg.open hv; obtain ⟨a, cap, rfl, hc1, hc2⟩ := zg hx; have hlen := zao hx; have hb0 := zb w (.cells #[.slice a0 s.Y.length c0] 25)
 by_cases h2 : ls.length ≤ 6
 ·have t2 : decide ((ls.length : Int) ≤ 6) = true := by simp; omega
  go_enter Tryz.func44, Tryz.ntmps44; go_wp2_with fail; refine (zeP s ls _ _ _ _ _ (zgn h2) hsm hbig (by exact hv.below hb0) (by exact hx.below hb0)).mono ?_; rintro e w1 ⟨rfl, hb⟩; go_wp2_with fail; go_ret; exact ⟨rfl, hb0.trans (hb.mono hb0.size)⟩
 ·have t2 : decide ((ls.length : Int) ≤ 6) = false := by simp; omega
  have HF := zgn (zec (s := s) h2); go_enter Tryz.func44, Tryz.ntmps44; go_wp2_with fail; go_ret; exact ⟨retB HF.out.symm, hb0⟩
end Go.Proofs.YtbfinjiledfpcaaGreat
/- The law's weights bound the terms of literals. -/
namespace Go.Proofs.YtbfinjiledfpcaaGreat
open Go Go.RowKit
set_option linter.unusedVariables false
set_option linter.unusedSimpArgs false
theorem Atm.tms_wt (x : Atm) : Tm.sizes x.tms ≤ 2 + wtV x.cd := by
 have h1 := Tm.size_wtV x.a; have h2 := Tm.size_wtV x.b; have h3 := Tm.sizes_wtR x.N; simp only [Atm.cd, zI, zaS, zav, zaj]; unfold Atm.tms
 split
 ·simp only [Tm.sizes]; omega
 ·omega
theorem Lt.wt_atom (x : Lt) : wtV x.M.cd = wtV x.cd := by rw [Lt.cd, zI, zav]; rfl
theorem ze6 : ∀ (ls : List Lt), Tm.sizes (zad ls) ≤ 2 * ls.length + wtR (ls.map Lt.cd)
 | [] => by simp [zad, Tm.sizes]
 | l :: ls => by
  have h1 := Atm.tms_wt l.M; have h2 := ze6 ls; have h3 := Lt.wt_atom l; simp only [zad, List.flatMap_cons, Tm.sizes_append, zgw, List.map_cons, wtR] at h2 ⊢; omega
theorem ze7 : ∀ (ls : List Lt), Tm.sizes (zau ls) ≤ 2 * ls.length + wtR (ls.map Lt.cd)
 | [] => by simp [zau, Tm.sizes]
 | l :: ls => by
  have h1 := Atm.tms_wt l.M; have h2 := ze7 ls; have h3 := Lt.wt_atom l
  have h4 : Tm.sizes l.tms ≤ Tm.sizes l.M.tms := by unfold Lt.tms; split <;> simp [Tm.sizes]
  simp only [zau, List.flatMap_cons, Tm.sizes_append, zgw, List.map_cons, wtR] at h2 ⊢; omega
end Go.Proofs.YtbfinjiledfpcaaGreat
