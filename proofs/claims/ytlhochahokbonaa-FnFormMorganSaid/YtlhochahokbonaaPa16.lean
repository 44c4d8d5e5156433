/- Parts of the proof: LitT RegI. -/
import Derived.Deep.RegionHeld3
import Derived.Test.YtlhochahokbonaaPa15
import Derived.Test.YtlhochahokbonaaPa8
import Derived.Test.YtlhochahokbonaaPa10
import Derived.StillTail
import Derived.Test.YtlhochahokbonaaPa1
namespace Go.Proofs.Ytlhochahokbonaa
open Go Go.RowKit
set_option linter.unusedVariables false
set_option linter.unusedSimpArgs false
theorem ownTerms_x (ts : List Tm) (v : Value) (w : World) (hbig : Tm.sizes ts ≤ 1000000000) (hv : TmsR w ts v) : Calls Try.prog 35 #[v] w (ToOut (.sl (ts.map Tm.cd)) w) :=
  ownTerms_any (Tm.sizes ts) (fun t v w h1 h2 h3 => ownTerm_any _ t v w h1 h2 h3) ts v w (fun t ht => Tm.size_mem ht) hbig hv
theorem rd_row {w : World} {b n c k : Nat} {es : List (List CD)} {vs : List Value} {f : List Nat} (hc : ∀ j u, vs[j]? = some u → w.cell? ⟨b, j, none⟩ = some u) (h : RdVs w es.flatten vs f) (hne : es ≠ []) (hn : n = es.length) (hcap : es.length ≤ c) (hm : c ≤ 9223372036854775807) (hk : ∀ e ∈ es, e.length = k) (hb : b < w.heap.size) :
    Rd w (.sl es) (.slice (some ⟨b, 0, none⟩) n c) (b :: f) := by
  simp only [Rd]
  exact ⟨_, c, by rw [hn], hcap, by simpa [maxLen] using hm, .inr ⟨hne, b, 0, f, rfl, hb, rfl, RdRows.mk (k := k) (fun j u hu => by rw [Nat.zero_add]; exact hc j u hu) h⟩⟩
theorem Atm.small_of {x : Atm} (h : wtV x.cd ≤ 1048576) : x.small := by
  have h1 := Tm.size_wtV x.a
  have h2 := Tm.size_wtV x.b
  have h3 := Tm.sizes_wtR x.nums
  simp only [Atm.cd, wtV_append, wtV_int, wtV_bool, wtV_sl] at h
  unfold Atm.small; omega
theorem Lt.small_of {x : Lt} (h : wtV x.cd ≤ 1048576) : x.atom.small := Atm.small_of (by rw [Lt.cd, wtV_append] at h; omega)
theorem Lt.times_ok {x : Lt} (h : wtV x.cd ≤ 1048576) : x.atom.times.length ≤ 1048576 := by
  rw [Lt.cd, wtV_append] at h
  simp only [Atm.cd, wtV_append, wtV_int, wtV_bool, wtV_sl, List.length_map] at h
  omega
theorem Atm.tms_eq {x : Atm} (h : x.kind = 1) : x.tms = [x.a, x.b] := if_pos h
theorem Atm.tms_sum {x : Atm} (h : ¬ x.kind = 1) : x.tms = x.nums := if_neg h
theorem nil_rd (w : World) {α : Type} (cd : α → List CD) : Rd w (.sl (([] : List α).map cd)) (.slice none 0 0) [] := by
  simp only [List.map_nil, Rd]; exact ⟨none, 0, rfl, by simp, by simp [maxLen], by simp⟩
theorem rd_none (w : World) {α : Type} {cd : α → List CD} (b : Nat) {o : Nat} (hb : b < w.heap.size ∨ True) : Rd w (.sl (([] : List α).map cd)) (.slice (some ⟨b, o, none⟩) 0 0) [] := by
  simp only [List.map_nil, Rd]; exact ⟨some ⟨b, o, none⟩, 0, rfl, by simp, by simp [maxLen], by simp⟩
theorem fresh_cons {lo b : Nat} {w : World} {cs : Array Value} {T : Nat} {f : List Nat} (hz : w.heap.size ≤ (w.alloc (.cells cs T)).heap.size) (h : Fresh lo (w.alloc (.cells cs T)) f) (hl : ∀ b ∈ f, b < w.heap.size) (hlo : lo ≤ w.heap.size) (hb : b = w.heap.size) : Fresh lo (w.alloc (.cells cs T)) (b :: f) := by
  subst hb
  refine ⟨List.nodup_cons.2 ⟨fun hm => by have := hl _ hm; omega, h.1⟩, ?_⟩
  intro b hb
  rcases List.mem_cons.1 hb with rfl | hb
  · exact ⟨hlo, cs, T, by show (w.heap.push _)[w.heap.size]? = _; simp⟩
  · exact h.2 b hb
theorem Lt.tms_no {x : Lt} (h : x.atom.okB = false) : x.tms = [] := by unfold Lt.tms; rw [h]; rfl
theorem Lt.tms_yes {x : Lt} (h : x.atom.okB = true) : x.tms = x.atom.tms := if_pos h
set_option maxHeartbeats 4000000 in
theorem litTermsS_any (x : Lt) (vs : List Value) (f : List Nat) (w : World) (hbig : x.atom.small) (hv : RdVs w x.cd vs f) :
    Calls Try.prog 125 #[.agg vs.toArray] w (ToOut (.sl (x.tms.map Tm.cd)) w) := by
  obtain ⟨a2, c2, f2, a4, c4, f4, a5, c5, f5, a6, c6, f6, rfl, _, m0, m1, m2, m3, m4, m5, m6, m7⟩ := Lt.open hv
  have hbig2 := hbig
  unfold Atm.small at hbig2
  have hat := Atm.close m0 m1 m2 m3 m4 m5 m6 m7
  go_enter Try.func125, Try.ntmps125
  go_wp2_with fail
  refine (l6Right_any x.atom _ _ _ hbig (by exact hat.below (below_alloc _ _))).mono ?_
  rintro e w1 ⟨rfl, hb⟩
  obtain ⟨hx, hz, hB⟩ := box1 (w := w) (wr := w1) (cs := #[.int .i64 x.atom.kind, .string x.atom.a.name, .slice a2 x.atom.a.kids.length c2, .string x.atom.b.name, .slice a4 x.atom.b.kids.length c4, .slice a5 x.atom.nums.length c5, .slice a6 x.atom.times.length c6, .int .i64 x.atom.bound, .bool x.atom.strict, .bool x.no]) (T := 37) (below_size hb (by simp))
  clear hb
  have C0 := hx 0
  have C1 := hx 1
  have C2 := hx 2
  have C3 := hx 3
  have C4 := hx 4
  simp only [List.getElem?_toArray, List.getElem?_cons_zero, List.getElem?_cons_succ] at C0 C1 C2 C3 C4
  cases hk : x.atom.okB
  · have HT := Lib.hid (Lt.tms_no hk)
    clear hk
    go_wp2_with fail
    go_ret
    exact ⟨_, [], rfl, by rw [HT.out]; exact rd_none _ _ (by simp), Fresh.nil _ _, hB.alloc hB.size _⟩
  have HT := Lib.hid (Lt.tms_yes hk)
  clear hk
  by_cases k1 : x.atom.kind = 1
  · have tk : (x.atom.kind == 1) = true := by simp [k1]
    have HT2 := Lib.hid (Atm.tms_eq k1)
    clear k1
    have ta := (TmR.mk m1 ⟨f2, m2⟩).below hB
    have tb := (TmR.mk m3 ⟨f4, m4⟩).below hB
    go_wp2_with fail
    go_region_held3 (fun W => W.cell? ⟨w.heap.size, 1, none⟩ = some (.string x.atom.a.name) ∧ W.cell? ⟨w.heap.size, 2, none⟩ = some (.slice a2 x.atom.a.kids.length c2) ∧ W.cell? ⟨w.heap.size, 3, none⟩ = some (.string x.atom.b.name) ∧ W.cell? ⟨w.heap.size, 4, none⟩ = some (.slice a4 x.atom.b.kids.length c4))
      (first | exact ⟨C1, C2, C3, C4⟩ | exact ⟨cell_keep C1 (below_undrew' hb2), cell_keep C2 (below_undrew' hb2), cell_keep C3 (below_undrew' hb2), cell_keep C4 (below_undrew' hb2)⟩ | (refine ⟨?_, ?_, ?_, ?_⟩ <;> (refine cell_keep (cell_keep ?_ (below_undrew' hb2)) hb3; assumption)) | (refine ⟨?_, ?_, ?_, ?_⟩ <;> (refine cell_keep (cell_keep ?_ (below_undrew' hb2)) (hb3.alloc hb3.size _); assumption)))
      (first
        | (go_at_call 87; (with_reducible refine (l4Copy_any _ x.atom.a _ _ (Nat.le_refl _) (by omega) (by exact ta.below (below_drew _))).mono ?_); rintro e w2 ⟨ka, fa, rfl, hra, hfa, hb2⟩)
        | (go_at_call 87; (with_reducible refine (l4Copy_any _ x.atom.b _ _ (Nat.le_refl _) (by omega) (by exact tb.below (below_undrew' hb2))).mono ?_); rintro e w3 ⟨kb, fb, rfl, hrb, hfb, hb3⟩))
    have hb2' := below_undrew' hb2
    have hB2 := hB.trans (hb2'.mono hB.size)
    have hB3 := hB2.trans (hb3.mono hB2.size)
    have hz1 := hB.size
    have hz2 := hb2'.size
    have hz3 := hb3.size
    go_wp2_with fail
    go_ret
    have hB4 := hB3.alloc hB3.size (.cells #[.string x.atom.a.name, ka, .string x.atom.b.name, kb] 28)
    have hal := below_alloc w3 (.cells #[.string x.atom.a.name, ka, .string x.atom.b.name, kb] 28)
    obtain ⟨aa, ca, rfl, ha1, ha2⟩ := rd_sl_inv hra
    obtain ⟨ab, cb, rfl, hb1, hb2''⟩ := rd_sl_inv hrb
    have hra3 := hra.below hb3
    have h2 := ((Tm.rdv m1 hra3).app (Tm.rdv m3 hrb)).below hal
    have hla := hra.lt _
    refine ⟨_, w3.heap.size :: (fa ++ fb), rfl, ?_, ?_, hB4⟩
    · rw [HT.out, HT2.out]
      refine rd_row (k := 2) (vs := [.string x.atom.a.name, .slice aa x.atom.a.kids.length ca, .string x.atom.b.name, .slice ab x.atom.b.kids.length cb]) (f := fa ++ fb) ?_ (by simpa using h2) (by simp) rfl (by simp) (by omega) (by simp [Tm.cd_len]) (by simp)
      intro j u hu
      simpa using hu
    · have hfa' : Fresh w.heap.size w3 fa := ((hfa.mono (by simp; omega)).below hb3)
      have hfab : Fresh w.heap.size w3 (fa ++ fb) := Fresh.app hfa' hla hB2.size hfb
      exact fresh_cons hal.size (by simpa using hfab.below hal) (by intro b hb; exact (hfab.lt b hb)) hB3.size rfl
  · have tk : (x.atom.kind == 1) = false := by simp [k1]
    have HT2 := Lib.hid (Atm.tms_sum k1)
    clear k1
    go_wp2_with fail
    go_loopw [3, 4] (fun ov i wr => ∃ (k : Nat) (fp : List Nat), k ≤ x.atom.nums.length ∧ i = .int .i64 k ∧ Own wr (w.heap.size + 1) 28 2 ov ((x.atom.nums.take k).map Tm.cd) fp ∧ Fresh (w.heap.size + 1) wr fp ∧ wr.cell? ⟨w.heap.size, 5, none⟩ = some (.slice a5 x.atom.nums.length c5) ∧ w.heap.size + 1 ≤ wr.heap.size ∧ Below w.heap.size w wr) (fun _ i _ => x.atom.nums.length - (intOf i).toNat)
    case atStart =>
      refine ⟨0, [], Nat.zero_le _, rfl, by simpa using Own.empty _ _ _ _ hz, Fresh.nil _ _, ?_, by simp; omega, hB.alloc hB.size _⟩
      have := hx 5
      exact cell_keep (by simpa using this) (below_alloc _ _)
    case round =>
      clear hx C0 C1 C2 C3 C4
      obtain ⟨k, fp, hkl, rfl, hown, hfr, c5', hz', hb⟩ := hrel
      have hz0 := hb.size
      have hz6 : w.heap.size < wr.heap.size := by omega
      by_cases hlt : k < x.atom.nums.length
      · obtain ⟨b, off, rfl, hbs, _⟩ := rd_addr m5 (by omega)
        obtain ⟨e1, g1, h1, d0, d1, t0, t1, _⟩ := Tm.at (m5.below hb) hlt
        have hbz : b < wr.heap.size := by omega
        have hks := Tm.size_mem (List.getElem_mem hlt)
        go_wp2_with fail
        refine (l4Copy_any _ x.atom.nums[k] _ _ (Nat.le_refl _) (by omega) (by exact TmR.mk t0 ⟨h1, t1⟩)).mono ?_
        rintro e w2 ⟨kv, fk, rfl, hrk, hfk, hbw⟩
        obtain ⟨ka', kc', rfl, hd1, hd2⟩ := rd_sl_inv hrk
        have hz2 := hbw.size
        have hown2 := (hown.below (hbw.alloc hz2 (.cells #[.string x.atom.nums[k].name, .slice ka' x.atom.nums[k].kids.length kc'] 28)))
        have hrk2 := hrk.below (below_alloc w2 (.cells #[.string x.atom.nums[k].name, .slice ka' x.atom.nums[k].kids.length kc'] 28))
        have hl : ((x.atom.nums.take k).map Tm.cd).length ≤ x.atom.nums.length := by simp; omega
        have hlen := rd_len m5
        have hnl := Tm.sizes_len x.atom.nums
        have c5w := cell_keep c5' hbw
        have hz7 : w.heap.size < w2.heap.size := by omega
        go_wp2_with (at_builtin; refine wpList_app slTerm rfl _ _ rfl (w.heap.size + 1) _ _ _ rfl hown2 ⟨w2.heap.size, 0, none⟩ 1 1 [x.atom.nums[k].cd] [.string x.atom.nums[k].name, .slice ka' x.atom.nums[k].kids.length kc'] fk rfl rfl ?rd ?k ?cells ?na ?bytes ?len ?base ?next)
        case rd => simpa using Tm.rdv t0 hrk2
        case k => simp [Tm.cd_len]
        case cells => exact cells_new _ _ _
        case na => exact hown.away (by simp) hfk
        case bytes => omega
        case len => omega
        case base => simp; omega
        case next =>
          intro v' w4 hown4 hg hv' hs4
          have hb4 := grown_below ((hb.trans (hbw.mono hz0)).alloc (by omega) _) hg (by simp; omega) (fun k hk => Nat.le_of_succ_le (hown.block hk).1)
          have c5n := grown_cell hg (cell_keep c5w (below_alloc w2 _)) (hown.row_ne (by omega))
          go_wp2_with fail
          go_roundw
          case rel =>
            refine ⟨k + 1, fp ++ fk, by omega, by go_num, ?_, ?_, c5n, by have := hg.size; simp at this; omega, hb4⟩
            · rw [List.take_succ_eq_append_getElem hlt, List.map_append]; simpa using hown4
            · exact ((Fresh.app (hfr.below hbw) hfr.lt hz' (hfk.mono (by simp))).below (below_alloc _ _)).same hs4
          case measure => simp [intOf]; omega
      · have he : x.atom.nums.take k = x.atom.nums := List.take_of_length_le (by omega)
        rw [he] at hown
        clear he
        obtain ⟨oa, on, oc, rfl⟩ := hown.form'
        obtain ⟨fp', h1, h2, _⟩ := hown.fresh hfr
        go_wp2_with fail
        go_ret
        exact ⟨_, fp', rfl, by rw [HT.out, HT2.out]; exact h1, h2.mono (by omega), hb⟩
end Go.Proofs.Ytlhochahokbonaa
namespace Go.Proofs.Ytlhochahokbonaa
open Go Go.RowKit
set_option linter.unusedVariables false
set_option linter.unusedSimpArgs false
section
variable {P : Program} {ops : Array Oper} {Q : Exit → Act → World → Prop} {F : World → Prop} {s0 : Nat}
/-- Whatever comes up next; F holds behind it as long as number s0 has not come up. -/
def Till (P : Program) (ops : Array Oper) (Q : Exit → Act → World → Prop) (F : World → Prop) (s0 : Nat) : Nat → Array Bool → Act → World → Prop
  | 0, up, a, w => Region.ready .any ops up = [] ∧ Q .normal a w
  | n + 1, up, a, w => (Region.ready .any ops up = [] → Q .normal a w) ∧
      ∀ i, i ∈ Region.ready .any ops up → wpOp P ops Q i (fun b u => ((up.setIfInBounds i true).getD s0 true = false → F u) ∧ Till P ops Q F s0 n (up.setIfInBounds i true) b u) a w
theorem Till.drop : ∀ (n : Nat) (up : Array Bool) (a : Act) (w : World), Till P ops Q F s0 n up a w → wpAny P .any ops Q n up a w
  | 0, _, _, _, h => h
  | n + 1, _, _, _, h => ⟨h.1, fun i hi => wpOp_mono (fun b u k => Till.drop n _ b u k.2) (h.2 i hi)⟩
theorem Till.start {id : Nat} {a : Act} {w : World} (hm : P.follows .mixedOrders = true) (h : Till P ops Q F s0 ops.size (Array.replicate ops.size false) a w.drew) : (Code.region id ops true).wp P Q a w :=
  wp_region_any hm (Till.drop _ _ _ _ h)
theorem Till.done {up : Array Bool} {a : Act} {w : World} (hr : Region.ready .any ops up = []) (h : Q .normal a w) : ∀ n, Till P ops Q F s0 n up a w
  | 0 => ⟨hr, h⟩
  | _ + 1 => ⟨fun _ => h, by rw [hr]; simp⟩
/-- One alone may come up. -/
theorem Till.one {i : Nat} {o : Oper} {n : Nat} {up : Array Bool} {a : Act} {w : World} (hr : Region.ready .any ops up = [i]) (ho : ops[i]? = some o)
    (h : ∀ K' : Act → World → Prop, Hid (∀ b u, ((up.setIfInBounds i true).getD s0 true = false → F u) → Till P ops Q F s0 n (up.setIfInBounds i true) b u → K' b u) → if Region.wanted o (yielded ops a.tmps) = true then Oper.wp P o a w K' Q else K' (a.put o.dst undef) w) :
    Till P ops Q F s0 (n + 1) up a w := by
  refine ⟨fun h0 => (by rw [hr] at h0; cases h0), fun j hj => ?_⟩
  rw [hr] at hj
  obtain rfl := List.mem_singleton.1 hj
  exact wpOp_step ho fun K' hK => h K' (Lib.hid fun b u h1 h2 => hK b u ⟨h1, h2⟩)
def waits (ops : Array Oper) (s0 i : Nat) : Bool := match ops[s0]? with | none => false | some o => o.after.any fun e => Region.binds .any e && e.on == i
theorem waits_spec {i : Nat} (h : waits ops s0 i = true) : ∃ o, ops[s0]? = some o ∧ ∃ e ∈ o.after, Region.binds .any e = true ∧ e.on = i := by
  unfold waits at h
  split at h
  · cases h
  · rename_i o ho
    obtain ⟨e, he, h1⟩ := Array.any_eq_true'.1 h
    simp only [Bool.and_eq_true, beq_iff_eq] at h1
    exact ⟨o, ho, e, he, h1.1, h1.2⟩
/-- One for which the first write waits is taken first. -/
theorem Till.early {i : Nat} {oi : Oper} {v : Value} (hi : ops[i]? = some oi) (hsel : ∀ (j : Nat) (o : Oper) cs b, ops[j]? = some o → o.op ≠ .select cs b)
    (hQ : ∀ c a w, Q (.panic c) (a.put oi.dst v) w → Q (.panic c) a w) (hwait : waits ops s0 i = true) (hne : s0 ≠ i) :
    ∀ (n : Nat) (up : Array Bool) (a : Act) (w : World), (∀ j oj, ops[j]? = some oj → j ≠ i → up.getD j true = false → (∀ e ∈ oj.after, Region.binds .any e = true → e.on ≠ i) → oi.apart ops oj = true) →
      i ∈ Region.ready .any ops up → up.getD s0 true = false → YieldsIf P ops F oi v a → F w →
      Till P ops Q F s0 n (up.setIfInBounds i true) (a.put oi.dst v) w → Till P ops Q F s0 (n + 1) up a w
  | 0, up, a, w, _, hr, hs, hy, hF, H => by
    refine ⟨fun h => (by rw [h] at hr; cases hr), fun j hj => ?_⟩
    by_cases hji : j = i
    · subst hji; exact hy.wpOp hi hF ⟨fun _ => hF, H⟩
    · have := ready_mono hj hji
      rw [H.1] at this; cases this
  | n + 1, up, a, w, hfree, hr, hs, hy, hF, H => by
    refine ⟨fun h => (by rw [h] at hr; cases hr), fun j hj => ?_⟩
    by_cases hji : j = i
    · subst hji; exact hy.wpOp hi hF ⟨fun _ => hF, H⟩
    obtain ⟨hjun, oj, hoj, hall⟩ := mem_ready.1 hj
    have hiun : up.getD i true = false := (mem_ready.1 hr).1
    have hnot : ∀ e ∈ oj.after, Region.binds .any e = true → e.on ≠ i := fun e he hb heq => by
      have h1 := hall e he hb
      rw [heq] at h1
      rcases Nat.lt_or_ge i up.size with h' | h'
      · simp [h'] at hiun h1; rw [hiun] at h1; cases h1
      · simp [Array.getElem?_eq_none h'] at h1
    have hjs : j ≠ s0 := by
      rintro rfl
      obtain ⟨o, ho, e, he, hb, hon⟩ := waits_spec hwait
      obtain rfl : o = oj := Option.some.inj (ho.symm.trans hoj)
      exact hnot e he hb hon
    have hs' : (up.setIfInBounds j true).getD s0 true = false := by rw [getD_set_ne true hjs]; exact hs
    have hs'' : ((up.setIfInBounds i true).setIfInBounds j true).getD s0 true = false := by rw [getD_set_ne true hjs, getD_set_ne true (Ne.symm hne)]; exact hs
    refine wpOp_mono (fun b u k => ?_) (wpOp_putIf hoj (hfree j oj hoj hji hjun hnot) (fun cs b => hsel i oi cs b hi) (fun cs b => hsel j oj cs b hoj) hQ hy (H.2 j (ready_mono hj hji)))
    obtain ⟨k1, k2, k3⟩ := k
    have kF := k2 hs''
    refine ⟨fun _ => kF, Till.early hi hsel hQ hwait hne n _ b u (fun m om hm hmi hun hno => hfree m om hm hmi ?_ hno) (ready_mono hr (Ne.symm hji)) hs' k1 kF ?_⟩
    · by_cases hjm : j = m
      · subst hjm; exact hjun
      · rwa [getD_set_ne true hjm] at hun
    · rw [Array.setIfInBounds_comm _ _ hji]; exact k3
theorem Till.take {i : Nat} {oi : Oper} {v : Value} {n : Nat} {up : Array Bool} {a : Act} {w : World} (hi : ops[i]? = some oi) (hs : Region.noSelect ops = true) (hf : Region.free .any ops up i = true) (hr : (Region.ready .any ops up).contains i = true)
    (hQ : ∀ c a w, Q (.panic c) (a.put oi.dst v) w → Q (.panic c) a w) (hw : (waits ops s0 i && (decide (s0 ≠ i) && !up.getD s0 true)) = true) (hy : YieldsIf P ops F oi v a) (hF : F w)
    (h : Till P ops Q F s0 n (up.setIfInBounds i true) (a.put oi.dst v) w) : Till P ops Q F s0 (n + 1) up a w := by
  simp only [Bool.and_eq_true, decide_eq_true_eq, Bool.not_eq_true'] at hw
  exact Till.early hi (Region.noSelect_spec hs) hQ hw.1 hw.2.1 n up a w (Region.free_spec hi hf) (by simpa using hr) hw.2.2 hy hF h
/-- One that yields whatever the world is. -/
theorem Till.freely {i : Nat} {oi : Oper} {v : Value} (hi : ops[i]? = some oi) (hsel : ∀ (j : Nat) (o : Oper) cs b, ops[j]? = some o → o.op ≠ .select cs b)
    (hQ : ∀ c a w, Q (.panic c) (a.put oi.dst v) w → Q (.panic c) a w) (hne : s0 ≠ i) :
    ∀ (n : Nat) (up : Array Bool) (a : Act) (w : World), (∀ j oj, ops[j]? = some oj → j ≠ i → up.getD j true = false → (∀ e ∈ oj.after, Region.binds .any e = true → e.on ≠ i) → oi.apart ops oj = true) →
      i ∈ Region.ready .any ops up → YieldsIf P ops (fun _ => True) oi v a → (up.getD s0 true = false → F w) →
      Till P ops Q F s0 n (up.setIfInBounds i true) (a.put oi.dst v) w → Till P ops Q F s0 (n + 1) up a w
  | 0, up, a, w, _, hr, hy, hF, H => by
    refine ⟨fun h => (by rw [h] at hr; cases hr), fun j hj => ?_⟩
    by_cases hji : j = i
    · subst hji; exact hy.wpOp hi trivial ⟨fun h => hF (by rwa [getD_set_ne true (Ne.symm hne)] at h), H⟩
    · have := ready_mono hj hji
      rw [H.1] at this; cases this
  | n + 1, up, a, w, hfree, hr, hy, hF, H => by
    refine ⟨fun h => (by rw [h] at hr; cases hr), fun j hj => ?_⟩
    by_cases hji : j = i
    · subst hji; exact hy.wpOp hi trivial ⟨fun h => hF (by rwa [getD_set_ne true (Ne.symm hne)] at h), H⟩
    obtain ⟨hjun, oj, hoj, hall⟩ := mem_ready.1 hj
    have hiun : up.getD i true = false := (mem_ready.1 hr).1
    have hnot : ∀ e ∈ oj.after, Region.binds .any e = true → e.on ≠ i := fun e he hb heq => by
      have h1 := hall e he hb
      rw [heq] at h1
      rcases Nat.lt_or_ge i up.size with h' | h'
      · simp [h'] at hiun h1; rw [hiun] at h1; cases h1
      · simp [Array.getElem?_eq_none h'] at h1
    refine wpOp_mono (fun b u k => ?_) (wpOp_putIf hoj (hfree j oj hoj hji hjun hnot) (fun cs b => hsel i oi cs b hi) (fun cs b => hsel j oj cs b hoj) hQ hy (H.2 j (ready_mono hj hji)))
    obtain ⟨k1, k2, k3⟩ := k
    have kF : (up.setIfInBounds j true).getD s0 true = false → F u := fun h => k2 (by rw [Array.setIfInBounds_comm _ _ (Ne.symm hji), getD_set_ne true (Ne.symm hne)]; exact h)
    refine ⟨kF, Till.freely hi hsel hQ hne n _ b u (fun m om hm hmi hun hno => hfree m om hm hmi ?_ hno) (ready_mono hr (Ne.symm hji)) k1 kF ?_⟩
    · by_cases hjm : j = m
      · subst hjm; exact hjun
      · rwa [getD_set_ne true hjm] at hun
    · rw [Array.setIfInBounds_comm _ _ hji]; exact k3
theorem Till.free {i : Nat} {oi : Oper} {v : Value} {n : Nat} {up : Array Bool} {a : Act} {w : World} (hi : ops[i]? = some oi) (hs : Region.noSelect ops = true) (hf : Region.free .any ops up i = true) (hr : (Region.ready .any ops up).contains i = true)
    (hQ : ∀ c a w, Q (.panic c) (a.put oi.dst v) w → Q (.panic c) a w) (hw : decide (s0 ≠ i) = true) (hy : YieldsIf P ops (fun _ => True) oi v a) (hF : up.getD s0 true = false → F w)
    (h : Till P ops Q F s0 n (up.setIfInBounds i true) (a.put oi.dst v) w) : Till P ops Q F s0 (n + 1) up a w :=
  Till.freely hi (Region.noSelect_spec hs) hQ (of_decide_eq_true hw) n up a w (Region.free_spec hi hf) (by simpa using hr) hy hF h
end
end Go.Proofs.Ytlhochahokbonaa
