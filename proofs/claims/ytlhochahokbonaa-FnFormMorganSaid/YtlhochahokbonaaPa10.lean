/- Parts of the proof: TermP Eqs AtomP Wt. -/
import Derived.Deep.RegionLaw
import Derived.Test.YtlhochahokbonaaPa9
import Derived.Deep.RegionHeld3
import Derived.Test.YtlhochahokbonaaPa4
import Derived.Test.YtlhochahokbonaaPa5
import Derived.Test.YtlhochahokbonaaPa7
namespace Go.Proofs.Ytlhochahokbonaa
open Go Go.RowKit
set_option linter.unusedVariables false
set_option linter.unusedSimpArgs false
theorem l4Copy_any (n : Nat) : ∀ (t : Tm) (v : Value) (w : World), t.size ≤ n → t.size ≤ 1000000000 → TmR w t v →
      Calls Try.prog 87 #[v] w fun e w' => ∃ kv fp, e = .returned (.agg #[.string t.name, kv]) ∧ Rd w' (.sl (t.kids.map Tm.cd)) kv fp ∧ Fresh w.heap.size w' fp ∧ Below w.heap.size w w' := by
  induction n with
  | zero => intro t; have := t.size_pos; omega
  | succ n ih =>
    rintro t v w hn hbig ⟨kv, rfl, hs, hk⟩
    obtain ⟨a, cap, rfl, hc1, hc2⟩ := hk.form
    have IH := Lib.hid ih
    clear ih
    have hsz : Tm.sizes t.kids < t.size := by rw [Tm.size_eq]; omega
    have hlen := Tm.sizes_len t.kids
    go_enter Try.func87, Try.ntmps87
    go_wp2_with fail
    go_loopw [4] (fun i wr => ∃ (k : Nat) (fp : List Nat) (ov : Value), k ≤ t.kids.length ∧ i = .int .i64 k ∧ Own wr (w.heap.size + 1 + 1 + 1) 28 2 ov ((t.kids.take k).map Tm.cd) fp ∧ Fresh (w.heap.size + 1 + 1 + 1) wr fp ∧
      wr.cell? ⟨w.heap.size + 1 + 1, 0, none⟩ = some (.string t.name) ∧ wr.cell? ⟨w.heap.size + 1 + 1, 1, none⟩ = some ov ∧ wr.frozen? ⟨w.heap.size + 1 + 1, 1, none⟩ = false ∧
      w.heap.size + 1 + 1 + 1 ≤ wr.heap.size ∧ Below (w.heap.size + 1 + 1) ((w.alloc (.cells #[.string t.name, .slice a t.kids.length cap] 28)).alloc (.cells #[.string ⟨#[]⟩, .slice none 0 0] 28)) wr) (fun i _ => t.kids.length - (intOf i).toNat)
    case atStart => exact ⟨0, [], .slice none 0 0, Nat.zero_le _, rfl, Own.nil _ _ _ _, Fresh.nil _ _, by simp [go_sem], by simp [go_sem], by simp [go_sem], by simp, (Below.refl _ _).alloc (by simp) _⟩
    case round =>
      obtain ⟨k, fp, ov, hkl, rfl, hown, hfr, y0, y1, f1, hz, hb'⟩ := hrel
      obtain ⟨hx, hy, _, hb⟩ := box2 hb'
      have x1 : wr.cell? ⟨w.heap.size, 1, none⟩ = some (.slice a t.kids.length cap) := hx 1
      have r0 : wr.cell? ⟨w.heap.size + 1, 0, none⟩ = some (.string ⟨#[]⟩) := hy 0
      have r1 : wr.cell? ⟨w.heap.size + 1, 1, none⟩ = some (.slice none 0 0) := hy 1
      have rf0 := (box2_free hb' 0).2
      have rf1 := (box2_free hb' 1).2
      clear hx hy
      by_cases hlt : k < t.kids.length
      · obtain ⟨b, off, rfl, hbs⟩ := hk.addr (by omega)
        obtain ⟨ka, kc, c0, c1, hss, hkk⟩ := (hk.below hb).at hlt
        have hkn := Tm.size_kid hlt
        go_wp2_with fail
        have tok1 : True := trivial
        go_region_law (first
          | (have _t := @hown2; refine step_app slTerm rfl _ _ rfl (w.heap.size + 1 + 1 + 1) _ _ fp rfl (by exact hown2) ⟨w2.heap.size, 0, none⟩ 1 1 [t.kids[k].cd] [.string t.kids[k].name, .slice a3 t.kids[k].kids.length cap3] fp3 rfl rfl (by simpa using Tm.rdvs hss hr3') (by simp [Tm.cd_len]) (by exact cells_new _ _ _) (by exact hown.away (Nat.le_refl _) hf3) (by have hl := len_map_take Tm.cd t.kids k; omega) (by have hl := len_map_take Tm.cd t.kids k; omega) (by simp; omega) ?_; intro v' w4 hown4 hg hv' hs4; obtain ⟨a4, n4, c4, rfl⟩ := hown4.form'; have hcb := carry_block hb3 hg (b := w.heap.size + 1 + 1) (by omega) (hown.row_ne (by omega)); have y0' := cell_block hcb y0; have y1' := cell_block hcb y1; have f1' := free_block hcb f1; clear hcb)
          | (have _t := tok1; clear _t tok1; go_simp; go_at_call 87; refine (IH.out t.kids[k] _ _ (by omega) (by omega) (by exact (TmR.mk hss hkk).drew)).mono ?_; rintro e w2 ⟨kv3, fp3, rfl, hr3, hf3, hb3⟩; obtain ⟨a3, cap3, rfl, hg1, hg2⟩ := tms_form hr3; have hb3 := below_undrew' hb3; have hz2 := hb3.size; have hlz : w.heap.size + 1 + 1 < w2.heap.size := (by omega); have hbk := hb3.block (w.heap.size + 1 + 1) (by omega); have y0w := cell_block hbk y0; have y1w := cell_block hbk y1; have f1w := free_block hbk f1; clear hbk; have hown2 := hown.below (hb3.alloc hb3.size (.cells #[.string t.kids[k].name, .slice a3 t.kids[k].kids.length cap3] 28)); have hr3' := hr3.below (below_alloc w2 (.cells #[.string t.kids[k].name, .slice a3 t.kids[k].kids.length cap3] 28))))
        all_goals
          have hfr4 := ((Fresh.app (hfr.below hb3) hfr.lt hz hf3).below (below_alloc w2 (.cells #[.string t.kids[k].name, .slice a3 t.kids[k].kids.length cap3] 28))).same hs4
          have hsz4 := hg.size
          simp only [World.size_alloc] at hsz4
          have hown5 := hown4.set_other hfr4 (b := w.heap.size + 1 + 1) (j := 1) (u := .slice a4 n4 c4) (by omega)
          have hfr5 := hfr4.same (sameOn_set (a := ⟨w.heap.size + 1 + 1, 1, none⟩) (v := .slice a4 n4 c4) (hfr4.ne (by simp)))
          have y0'' := (World.cell?_setCell_other w4 ⟨w.heap.size + 1 + 1, 1, none⟩ ⟨w.heap.size + 1 + 1, 0, none⟩ (.slice a4 n4 c4) (by simp)).trans y0'
          have y1'' := World.cell?_setCell_same w4 ⟨w.heap.size + 1 + 1, 1, none⟩ (.slice a4 n4 c4) y1'
          have hb5 : Below (w.heap.size + 1 + 1) ((w.alloc (.cells #[.string t.name, .slice (some ⟨b, off, none⟩) t.kids.length cap] 28)).alloc (.cells #[.string ⟨#[]⟩, .slice none 0 0] 28)) (w4.setCell ⟨w.heap.size + 1 + 1, 1, none⟩ (.slice a4 n4 c4)) := (grown_below ((hb'.trans (hb3.mono (by omega))).alloc (by omega) _) hg (by simp; omega) (fun q hq => by have := (hown.block hq).1; omega)).setCell (by simp) _
          go_wp2_with fail
          go_roundw
          case rel => exact ⟨k + 1, fp ++ fp3, .slice a4 n4 c4, by omega, by go_num, by rw [List.take_succ_eq_append_getElem hlt, List.map_append]; simpa using hown5, hfr5, y0'', y1'', by simp [go_sem, f1'], by simp [World.setCell]; omega, hb5⟩
          case measure => simp [intOf]; omega
      · have he : t.kids.take k = t.kids := List.take_of_length_le (by omega)
        rw [he] at hown
        obtain ⟨oa, on, oc, rfl⟩ := hown.form'
        obtain ⟨fp', hr', hf', hi'⟩ := hown.fresh hfr
        obtain ⟨z0, z1⟩ := stored2 (.string t.name) (.slice oa on oc) r0 r1
        have hs2 := sameOn_set2 (w := wr) (i := 0) (j := 1) (u := .string t.name) (v := .slice oa on oc) (hf'.ne (b := w.heap.size + 1) (by omega))
        go_wp2_with fail
        refine bodyPost_ret (v := .agg #[.string t.name, .slice oa on oc]) (by simp [results, Try.results87, go_sem, z0, z1]) rfl ⟨_, fp', rfl, ?_, ?_, ?_⟩
        · exact hr'.same _ hs2
        · exact (hf'.same hs2).mono (by omega)
        · exact ((hb.setCell (by simp) _).setCell (by simp) _)
theorem l4Parts_any (n : Nat) : ∀ (t : Tm) (l : List Tm) (v lv : Value) (fp : List Nat) (base : Nat) (w : World), t.size ≤ n → l.length + t.size ≤ 1000000000 → base ≤ w.heap.size → Own w base 28 2 lv (l.map Tm.cd) fp → Fresh base w fp → TmRa lv.ownBlock w t v →
      Calls Try.prog 126 #[lv, v] w fun e w' => ∃ lv' fp', e = .returned lv' ∧ Own w' base 28 2 lv' ((Tm.addP l t).map Tm.cd) fp' ∧ Fresh base w' fp' ∧ Moved w lv w' lv' := by
  induction n with
  | zero => intro t; have := t.size_pos; omega
  | succ n ih =>
    rintro t l v lv fp base w hn hbig hbase hown hfr ⟨kv, rfl, hs, hk⟩
    obtain ⟨a, cap, rfl, hc1, hc2⟩ := hk.toR.form
    have IH := Lib.hid ih
    clear ih
    have hsz : Tm.sizes t.kids + 1 = t.size := by rw [Tm.size_eq]; omega
    have HSZ := Lib.hid hsz
    clear hsz
    have HF := Lib.hid (Tm.addP_eq l t)
    have hba := below_alloc w (.cells #[.string t.name, .slice a t.kids.length cap] 28)
    have hlvb : ∀ b, lv.ownBlock = some b → b < w.heap.size := fun b h => (hown.block h).2
    have HLV := Lib.hid hlvb
    clear hlvb
    go_enter Try.func126, Try.ntmps126
    go_wp2_with fail
    go_loopw [0, 5] (fun ov i wr => ∃ (k : Nat) (fp : List Nat), k ≤ t.kids.length ∧ i = .int .i64 k ∧ Own wr base 28 2 ov ((Tm.addPs l (t.kids.take k)).map Tm.cd) fp ∧ Fresh base wr fp ∧ Moved (w.alloc (.cells #[.string t.name, .slice a t.kids.length cap] 28)) lv wr ov) (fun _ i _ => t.kids.length - (intOf i).toNat)
    case atStart => exact ⟨0, fp, Nat.zero_le _, rfl, hown.below hba, hfr.below hba, Moved.refl _ _⟩
    case round =>
      clear hown hfr fp
      obtain ⟨k, fp, hkl, rfl, hown, hfr, hm⟩ := hrel
      have hz := hm.size
      simp only [World.size_alloc] at hz
      have hln := Tm.addPs_len (t.kids.take k) l
      have hsk := Tm.sizes_take t.kids k
      have hsz2 := HSZ.out
      have hkw := (hk.below hba).moved hm
      have x0 : wr.cell? ⟨w.heap.size, 0, none⟩ = some (.string t.name) := moved_box hm HLV.out 0
      have x1 : wr.cell? ⟨w.heap.size, 1, none⟩ = some (.slice a t.kids.length cap) := moved_box hm HLV.out 1
      by_cases hlt : k < t.kids.length
      · obtain ⟨b, off, rfl, hbs, hbn⟩ := hkw.addr (by omega)
        obtain ⟨ka, kc, c0, c1, hss, hkk⟩ := hkw.at hlt
        have hks : t.kids[k].size + Tm.sizes (t.kids.take k) ≤ Tm.sizes t.kids := by
          have h1 := Tm.sizes_take t.kids (k + 1)
          rw [List.take_succ_eq_append_getElem hlt, Tm.sizes_append] at h1
          simp only [Tm.sizes] at h1; omega
        go_wp2_with fail
        refine (IH.out t.kids[k] (Tm.addPs l (t.kids.take k)) _ _ fp base _ (by omega) (by omega) (by omega) hown hfr (TmRa.mk hss hkk)).mono ?_
        rintro e w2 ⟨lv2, fp2, rfl, hown2, hfr2, hm2⟩
        go_wp2_with fail
        go_roundw
        case rel => exact ⟨k + 1, fp2, by omega, by go_num, by rw [Tm.addPs_succ _ _ _ hlt]; exact hown2, hfr2, hm.trans hm2⟩
        case measure => simp [intOf]; omega
      · have he : t.kids.take k = t.kids := List.take_of_length_le (by omega)
        rw [he] at hown hln
        obtain ⟨fpr, hrd⟩ := hown.rd'
        go_wp2_with fail
        refine (l4Place_any (Tm.addPs l t.kids) t _ _ _ ⟨fpr, hrd⟩ (TmR.mk hs hkw.toR)).mono ?_
        rintro e w2 ⟨⟨q, rfl, hq⟩, hb2⟩
        have hbd := hq.bd
        have hneg := hq.neg
        have HNEG := Lib.hid hneg
        clear hneg hq
        have hown2 := hown.below hb2
        have hfr2 := hfr.below hb2
        have hm2 := hm.below hb2
        have hkw2 := hkw.below hb2
        have x0' : w2.cell? ⟨w.heap.size, 0, none⟩ = some (.string t.name) := (hb2.cell (p := ⟨w.heap.size, 0, none⟩) (by simp; omega)).trans x0
        have x1' : w2.cell? ⟨w.heap.size, 1, none⟩ = some (.slice a t.kids.length cap) := (hb2.cell (p := ⟨w.heap.size, 1, none⟩) (by simp; omega)).trans x1
        have hz2 := hb2.size
        clear x0 x1 hown hfr hm hkw hrd
        by_cases hq0 : q < 0
        · go_wp2_with fail
          refine (l4Copy_any t.size t _ _ (Nat.le_refl _) (by omega) (TmR.mk hs hkw2.toR)).mono ?_
          rintro e w3 ⟨kv3, fp3, rfl, hr3, hf3, hb3⟩
          obtain ⟨a3, cap3, rfl, hg1, hg2⟩ := tms_form hr3
          have hown3 := hown2.below (hb3.alloc hb3.size (.cells #[.string t.name, .slice a3 t.kids.length cap3] 28))
          have hr3' := hr3.below (below_alloc w3 (.cells #[.string t.name, .slice a3 t.kids.length cap3] 28))
          have hz3 := hb3.size
          have hl3 : ((Tm.addPs l t.kids).map Tm.cd).length ≤ 1000000000 := by rw [List.length_map]; omega
          go_wp2_with (at_builtin; refine wpList_app slTerm rfl _ _ rfl base _ _ _ rfl hown3 ⟨w3.heap.size, 0, none⟩ 1 1 [t.cd] [.string t.name, .slice a3 t.kids.length cap3] fp3 rfl rfl ?rd ?k ?cells ?na ?bytes ?len ?base ?next)
          case rd => simpa using Tm.rdvs hs hr3'
          case k => simp [Tm.cd_len]
          case cells => exact cells_new _ _ _
          case na => exact hown2.away (by simp) hf3
          case bytes => omega
          case len => omega
          case base => simp; omega
          case next =>
            intro v' w4 hown4 hg hv' hs4
            go_wp2_with fail
            go_ret
            refine ⟨v', _, rfl, ?_, ((Fresh.app (hfr2.below hb3) hfr2.lt (by omega) hf3).below (below_alloc _ _)).same hs4, ?_⟩
            · rw [HF.out, if_neg (HNEG.out.1 hq0)]; simpa using hown4
            · exact Moved.after hba (hm2.trans (Moved.after (hb3.alloc hb3.size _) ⟨hg, by simpa using hv'⟩))
        · go_wp2_with fail
          go_ret
          refine ⟨_, _, rfl, ?_, hfr2, Moved.after hba hm2⟩
          rw [HF.out, if_pos (by have := HNEG.out; exact Classical.byContradiction fun h => by have := this.2 h; omega)]; exact hown2
end Go.Proofs.Ytlhochahokbonaa
namespace Go.Proofs.Ytlhochahokbonaa
open Go Go.RowKit
set_option linter.unusedVariables false
set_option linter.unusedSimpArgs false
def Eqn.okB (s : Sg) (e : Eqn) : Bool := match e.a.tsrt s, e.b.tsrt s with | some m, some n => m == n | _, _ => false
theorem Eqn.okB_a {s : Sg} {e : Eqn} (h : e.a.tsrt s = none) : e.okB s = false := by simp [Eqn.okB, h]
theorem Eqn.okB_b {s : Sg} {e : Eqn} (h : e.b.tsrt s = none) : e.okB s = false := by unfold Eqn.okB; rw [h]; split <;> simp_all
theorem Eqn.okB_ab {s : Sg} {e : Eqn} {m n : Int} (h : e.a.tsrt s = some m) (h' : e.b.tsrt s = some n) : e.okB s = (m == n) := by simp [Eqn.okB, h, h']
end Go.Proofs.Ytlhochahokbonaa
namespace Go.Proofs.Ytlhochahokbonaa
open Go Go.RowKit
set_option linter.unusedVariables false
set_option linter.unusedSimpArgs false
def Tm.noneB (t : Tm) : Bool := t.name.toList == [] && ((t.kids.length : Int) == 0)
def Atm.prevB (x : Atm) (t : Tm) : Nat → Bool
  | 0 => true
  | j + 1 => (match x.nums[j]? with | none => true | some u => nmLt u.text t.text)
def Atm.numAt (x : Atm) (k : Nat) : Bool :=
  match x.nums[k]?, x.times[k]? with
  | some t, some n => t.wf && ((decide ((-50 : Int) ≤ n) && decide (n ≤ 50)) && ((n != 0) && x.prevB t k))
  | _, _ => true
def Atm.eqB (x : Atm) : Bool := x.a.wf && (x.b.wf && ((x.nums.length : Int) == 0 && ((x.times.length : Int) == 0 && (x.bound == 0 && !x.strict))))
def Atm.hdB (x : Atm) : Bool := x.a.noneB && (x.b.noneB && (decide (x.nums.length = x.times.length) && ((decide (1 ≤ x.nums.length) && decide (x.nums.length ≤ 4)) && (decide (-1000 ≤ x.bound) && decide (x.bound ≤ 1000)))))
def Atm.sumB (x : Atm) : Bool := x.hdB && (List.range x.nums.length).all x.numAt
def Atm.okB (x : Atm) : Bool := if x.kind = 1 then x.eqB else if x.kind = 2 then x.sumB else false
theorem Atm.okB_eq {x : Atm} (h : x.kind = 1) : x.okB = x.eqB := if_pos h
theorem Atm.okB_sum {x : Atm} (h : x.kind = 2) : x.okB = x.sumB := by rw [Atm.okB, if_neg (by omega), if_pos h]
theorem Atm.okB_no {x : Atm} (h1 : ¬ x.kind = 1) (h2 : ¬ x.kind = 2) : x.okB = false := by rw [Atm.okB, if_neg h1, if_neg h2]
theorem Atm.sumB_hd {x : Atm} (h : x.hdB = false) : x.sumB = false := by simp [Atm.sumB, h]
theorem Atm.sumB_no {x : Atm} {k : Nat} (hk : k < x.nums.length) (h : x.numAt k = false) : x.sumB = false := by
  have : (List.range x.nums.length).all x.numAt = false := by rw [List.all_eq_false]; exact ⟨k, by simpa using hk, by simp [h]⟩
  simp [Atm.sumB, this]
def Atm.upto (x : Atm) (k : Nat) : Prop := ∀ j, j < k → x.numAt j = true
theorem Atm.upto_zero (x : Atm) : x.upto 0 := fun j h => by omega
theorem Atm.upto_succ {x : Atm} {k : Nat} (h : x.upto k) (h' : x.numAt k = true) : x.upto (k + 1) := fun j hj => by
  rcases Nat.lt_or_ge j k with h1 | h1
  · exact h j h1
  · obtain rfl : j = k := by omega
    exact h'
theorem Atm.sumB_all {x : Atm} {k : Nat} (hd : x.hdB = true) (hk : x.nums.length ≤ k) (h : x.upto k) : x.sumB = true := by
  have : (List.range x.nums.length).all x.numAt = true := by rw [List.all_eq_true]; intro j hj; exact h j (by have := List.mem_range.1 hj; omega)
  simp [Atm.sumB, this, hd]
theorem Atm.num_eq {x : Atm} {k : Nat} (h : k < x.nums.length) (h' : k < x.times.length) : x.numAt k = (x.nums[k].wf && ((decide ((-50 : Int) ≤ x.times[k]) && decide (x.times[k] ≤ 50)) && ((x.times[k] != 0) && x.prevB x.nums[k] k))) := by
  simp only [Atm.numAt, List.getElem?_eq_getElem h, List.getElem?_eq_getElem h']
theorem Atm.num_wf {x : Atm} {k : Nat} (h : k < x.nums.length) (h' : k < x.times.length) (e : x.nums[k].wf = false) : x.numAt k = false := by rw [Atm.num_eq h h', e]; rfl
theorem Atm.num_in {x : Atm} {k : Nat} (h : k < x.nums.length) (h' : k < x.times.length) (e : (decide ((-50 : Int) ≤ x.times[k]) && decide (x.times[k] ≤ 50)) = false) : x.numAt k = false := by rw [Atm.num_eq h h', e]; simp
theorem Atm.num_nil {x : Atm} {k : Nat} (h : k < x.nums.length) (h' : k < x.times.length) (e : (x.times[k] == 0) = true) : x.numAt k = false := by rw [Atm.num_eq h h', bne, e]; simp
theorem Atm.num_first {x : Atm} {k : Nat} (hk : k = 0) (h : k < x.nums.length) (h' : k < x.times.length) (e1 : x.nums[k].wf = true) (e2 : (decide ((-50 : Int) ≤ x.times[k]) && decide (x.times[k] ≤ 50)) = true) (e3 : (x.times[k] == 0) = false) : x.numAt k = true := by
  rw [Atm.num_eq h h', e1, e2, bne, e3]
  subst hk; rfl
theorem Atm.num_next {x : Atm} {k j : Nat} (hk : k = j + 1) (hj : j < x.nums.length) (h : k < x.nums.length) (h' : k < x.times.length) (e1 : x.nums[k].wf = true) (e2 : (decide ((-50 : Int) ≤ x.times[k]) && decide (x.times[k] ≤ 50)) = true) (e3 : (x.times[k] == 0) = false) : x.numAt k = nmLt x.nums[j].text x.nums[k].text := by
  rw [Atm.num_eq h h', e1, e2, bne, e3]
  subst hk
  simp only [Atm.prevB, List.getElem?_eq_getElem hj]
  simp
theorem Atm.upto_wf {x : Atm} {k j : Nat} (h : x.upto k) (hl : x.nums.length = x.times.length) (hj : j < k) (hn : j < x.nums.length) : x.nums[j].wf = true := by
  have h1 := h j hj
  rw [Atm.num_eq hn (by omega)] at h1
  simp only [Bool.and_eq_true] at h1
  exact h1.1
theorem Atm.sum_wf {x : Atm} (h : x.sumB = true) : ∀ t ∈ x.nums, t.wf = true := by
  intro t ht
  simp only [Atm.sumB, Atm.hdB, Bool.and_eq_true, decide_eq_true_eq, List.all_eq_true] at h
  obtain ⟨j, hj, rfl⟩ := List.getElem_of_mem ht
  have h1 := h.2 j (by simpa using hj)
  rw [Atm.num_eq hj (by omega)] at h1
  simp only [Bool.and_eq_true] at h1
  exact h1.1
/-- The terms of an atom. -/
def Atm.tms (x : Atm) : List Tm := if x.kind = 1 then [x.a, x.b] else x.nums
theorem Atm.tms_wf {x : Atm} (h : x.okB = true) : ∀ t ∈ x.tms, t.wf = true := by
  intro t ht
  by_cases h1 : x.kind = 1
  · rw [Atm.okB_eq h1] at h
    simp only [Atm.tms, h1, if_true, List.mem_cons, List.not_mem_nil, or_false] at ht
    simp only [Atm.eqB, Bool.and_eq_true] at h
    rcases ht with rfl | rfl
    · exact h.1
    · exact h.2.1
  · by_cases h2 : x.kind = 2
    · rw [Atm.okB_sum h2] at h
      rw [Atm.tms, if_neg h1] at ht
      exact Atm.sum_wf h t ht
    · rw [Atm.okB_no h1 h2] at h; simp at h
def Lt.tms (x : Lt) : List Tm := if x.atom.okB = true then x.atom.tms else []
end Go.Proofs.Ytlhochahokbonaa
namespace Go.Proofs.Ytlhochahokbonaa
open Go Go.RowKit
set_option linter.unusedVariables false
set_option linter.unusedSimpArgs false
theorem Tm.wtV_eq (t : Tm) : wtV t.cd = t.name.size + (t.kids.length + wtR (t.kids.map Tm.cd)) := by
  rw [Tm.cd_eq]; simp [wtV, wtC]
theorem wtR_cons (e : List CD) (es : List (List CD)) : wtR (e :: es) = wtV e + wtR es := by simp [wtR]
mutual
theorem Tm.size_wtV : ∀ (t : Tm), t.size ≤ 1 + wtV t.cd
  | .mk n ks => by
    have := Tm.sizes_wtR ks
    rw [Tm.wtV_eq]
    simp only [Tm.size, Tm.kids]
    omega
theorem Tm.sizes_wtR : ∀ (ts : List Tm), Tm.sizes ts ≤ ts.length + wtR (ts.map Tm.cd)
  | [] => by simp [Tm.sizes]
  | t :: ts => by
    have h1 := Tm.size_wtV t
    have h2 := Tm.sizes_wtR ts
    simp only [Tm.sizes, List.length_cons, List.map_cons, wtR_cons]
    omega
end
end Go.Proofs.Ytlhochahokbonaa
