/- Parts of the proof: TermW. -/
import Derived.WalkSpells
import Derived.WalkLawsBesides
import Derived.Handy
import Derived.Deep.RegionWith
import Derived.BigQuiet
import Derived.Deep.QuietTactic
import Derived.Test.YtlefdhhnlbpbkaaGreatPv2
import Derived.Test.YtlefdhhnlbpbkaaGreatProg
section
namespace Go.Proofs.YtlefdhhnlbpbkaaGreat
open Go Go.RowKit
set_option linter.unusedVariables false
set_option linter.unusedSimpArgs false
set_option maxRecDepth 100000
set_option maxHeartbeats 16000000
/-- The reading of a list of terms, whatever blocks it passes. -/
def TmsR (w : World) (ts : List Tm) (v : Value) : Prop := ∃ fp, Rd w (.sl (ts.map Tm.cd)) v fp
def TmR (w : World) (t : Tm) (v : Value) : Prop := ∃ kv, v = .agg #[.string t.name, kv] ∧ t.name.size ≤ maxLen ∧ TmsR w t.kids kv
theorem TmsR.form {w : World} {ts : List Tm} {v : Value} (h : TmsR w ts v) : ∃ a cap, v = .slice a ts.length cap ∧ ts.length ≤ cap ∧ cap ≤ 9223372036854775807 := by
  obtain ⟨fp, h⟩ := h
  obtain ⟨a, cap, h1, h2, h3⟩ := h.sl_form
  exact ⟨a, cap, by simpa using h1, by simpa using h2, h3⟩
theorem zae {w : World} {ts : List Tm} {v : Value} {fp : List Nat} (h : Rd w (.sl (ts.map Tm.cd)) v fp) : ∃ a cap, v = .slice a ts.length cap ∧ ts.length ≤ cap ∧ cap ≤ 9223372036854775807 := TmsR.form ⟨fp, h⟩
theorem TmsR.addr {w : World} {ts : List Tm} {a : Option Addr} {n cap : Nat} (h : TmsR w ts (.slice a n cap)) (hne : 0 < ts.length) : ∃ b off, a = some ⟨b, off, none⟩ ∧ b < w.heap.size := by
  obtain ⟨fp, h⟩ := h
  obtain ⟨b, off, f, h1, h2, _⟩ := h.addr (by simpa using hne)
  exact ⟨b, off, h1, h2⟩
theorem TmsR.at {w : World} {ts : List Tm} {b off n cap : Nat} (h : TmsR w ts (.slice (some ⟨b, off, none⟩) n cap)) {k : Nat} (hk : k < ts.length) :
    ∃ ka kc, w.cell? ⟨b, off + k * 2, none⟩ = some (.string ts[k].name) ∧ w.cell? ⟨b, off + k * 2 + 1, none⟩ = some (.slice ka ts[k].kids.length kc) ∧ ts[k].name.size ≤ maxLen ∧ TmsR w ts[k].kids (.slice ka ts[k].kids.length kc) := by
  obtain ⟨fp, h⟩ := h
  obtain ⟨vs, f, h1, h2, h3⟩ := h.row (k := 2) (by simp only [List.mem_map]; rintro e ⟨t, _, rfl⟩; exact t.cd_len) k (by simpa using hk)
  rw [List.getElem_map, Tm.cd_eq] at h2
  simp only [RdVs] at h2
  obtain ⟨v0, vs', f1, f2, rfl, rfl, hv0, v1, vs'', f3, f4, rfl, rfl, hv1, rfl, rfl⟩ := h2
  simp only [Rd] at hv0
  obtain ⟨rfl, hs, rfl⟩ := hv0
  obtain ⟨a, cap', h4, _⟩ := hv1.sl_form
  rw [zew] at h4
  subst h4
  exact ⟨a, cap', h1 0 _ rfl, h1 1 _ rfl, hs, _, hv1⟩
theorem TmsR.below {w w' : World} {ts : List Tm} {v : Value} (h : TmsR w ts v) (hb : Below w.heap.size w w') : TmsR w' ts v := by
  obtain ⟨fp, h⟩ := h; exact ⟨fp, h.below hb⟩
theorem TmR.below {w w' : World} {t : Tm} {v : Value} (h : TmR w t v) (hb : Below w.heap.size w w') : TmR w' t v := by
  obtain ⟨kv, h1, h2, h3⟩ := h; exact ⟨kv, h1, h2, h3.below hb⟩
theorem TmR.mk {w : World} {t : Tm} {kv : Value} (h : t.name.size ≤ maxLen) (hk : TmsR w t.kids kv) : TmR w t (.agg #[.string t.name, kv]) := ⟨kv, rfl, h, hk⟩
theorem Tm.rdvs {w : World} {t : Tm} {kv : Value} {f : List Nat} (hs : t.name.size ≤ maxLen) (h : Rd w (.sl (t.kids.map Tm.cd)) kv f) : RdVs w t.cd [.string t.name, kv] f := by
  rw [Tm.cd_eq]; simp only [RdVs, Rd.eq_3]
  exact ⟨_, _, [], f, rfl, rfl, ⟨rfl, hs, rfl⟩, _, _, f, [], rfl, by simp, h, rfl, rfl⟩
theorem TmsR.drew {w : World} {ts : List Tm} {v : Value} (h : TmsR w ts v) : TmsR w.drew ts v := h.below (zi w)
theorem TmR.drew {w : World} {t : Tm} {v : Value} (h : TmR w t v) : TmR w.drew t v := h.below (zi w)
/-- The reading passes no cell of the row 'av'. -/
def TmsRa (av : Option Nat) (w : World) (ts : List Tm) (v : Value) : Prop := ∃ fp, Rd w (.sl (ts.map Tm.cd)) v fp ∧ ∀ b ∈ fp, av ≠ some b
theorem TmsRa.toR {av : Option Nat} {w : World} {ts : List Tm} {v : Value} (h : TmsRa av w ts v) : TmsR w ts v := by obtain ⟨fp, h, _⟩ := h; exact ⟨fp, h⟩
theorem TmsRa.below {av : Option Nat} {w w' : World} {ts : List Tm} {v : Value} (h : TmsRa av w ts v) (hb : Below w.heap.size w w') : TmsRa av w' ts v := by obtain ⟨fp, h, hn⟩ := h; exact ⟨fp, h.below hb, hn⟩
theorem TmsRa.moved {w w' : World} {ts : List Tm} {v x x' : Value} (h : TmsRa x.ownBlock w ts v) (hm : Moved w x w' x') : TmsRa x'.ownBlock w' ts v := by
  obtain ⟨fp, h, hn⟩ := h; exact ⟨fp, h.same _ (hm.same (h.lt _) hn), hm.away (h.lt _) hn⟩
theorem TmsRa.addr {av : Option Nat} {w : World} {ts : List Tm} {a : Option Addr} {n cap : Nat} (h : TmsRa av w ts (.slice a n cap)) (hne : 0 < ts.length) : ∃ b off, a = some ⟨b, off, none⟩ ∧ b < w.heap.size ∧ av ≠ some b := by
  obtain ⟨fp, h, hn⟩ := h
  obtain ⟨b, off, f, h1, h2, rfl, _⟩ := h.addr (by simpa using hne)
  exact ⟨b, off, h1, h2, hn b (by simp)⟩
theorem TmsRa.at {av : Option Nat} {w : World} {ts : List Tm} {b off n cap : Nat} (h : TmsRa av w ts (.slice (some ⟨b, off, none⟩) n cap)) {k : Nat} (hk : k < ts.length) :
    ∃ ka kc, w.cell? ⟨b, off + k * 2, none⟩ = some (.string ts[k].name) ∧ w.cell? ⟨b, off + k * 2 + 1, none⟩ = some (.slice ka ts[k].kids.length kc) ∧ ts[k].name.size ≤ maxLen ∧ TmsRa av w ts[k].kids (.slice ka ts[k].kids.length kc) := by
  obtain ⟨fp, h, hn⟩ := h
  obtain ⟨vs, f, h1, h2, h3⟩ := h.row (k := 2) (by simp only [List.mem_map]; rintro e ⟨t, _, rfl⟩; exact t.cd_len) k (by simpa using hk)
  rw [List.getElem_map, Tm.cd_eq] at h2
  simp only [RdVs] at h2
  obtain ⟨v0, vs', f1, f2, rfl, rfl, hv0, v1, vs'', f3, f4, rfl, rfl, hv1, rfl, rfl⟩ := h2
  simp only [Rd] at hv0
  obtain ⟨rfl, hs, rfl⟩ := hv0
  obtain ⟨a, cap', h4, _⟩ := hv1.sl_form
  rw [zew] at h4
  subst h4
  exact ⟨a, cap', h1 0 _ rfl, h1 1 _ rfl, hs, _, hv1, fun x hx => hn x (h3 x (by simpa using hx))⟩
def TmRa (av : Option Nat) (w : World) (t : Tm) (v : Value) : Prop := ∃ kv, v = .agg #[.string t.name, kv] ∧ t.name.size ≤ maxLen ∧ TmsRa av w t.kids kv
theorem TmRa.mk {av : Option Nat} {w : World} {t : Tm} {kv : Value} (h : t.name.size ≤ maxLen) (hk : TmsRa av w t.kids kv) : TmRa av w t (.agg #[.string t.name, kv]) := ⟨kv, rfl, h, hk⟩
theorem za5 (n lo hi : Int) (w : World) : Calls Tryz.prog 54 #[.int .i64 n, .int .i64 lo, .int .i64 hi] w fun e w' => e = .returned (.bool (decide (lo ≤ n) && decide (n ≤ hi))) ∧ w = w' := by
  go_enter Tryz.func54, Tryz.ntmps54
  go_wp2
  all_goals (go_ret; exact ⟨by simp; try omega, rfl⟩)
theorem zbX {s : ByteArray} {k : Nat} (h : k < s.size) : (s.data.toList.take (k + 1)).all zaW = ((s.data.toList.take k).all zaW && zaW s[k]) := by
  have : s.data.toList.take (k + 1) = s.data.toList.take k ++ [s[k]] := by
    rw [zeq (by simpa using h)]; rfl
  rw [this]; simp
theorem zdc {s : ByteArray} {k : Nat} (h : k < s.size) (h2 : zaW s[k] = false) : s.data.toList.all zaW = false := by
  rw [List.all_eq_false]
  exact ⟨s[k], by simp [ByteArray.getElem_eq_getElem_data], by simpa using h2⟩
theorem zbu {s : ByteArray} {k : Nat} (h : k < s.size) (h2 : (s[k].toNat : Int) < 97 ∨ 122 < (s[k].toNat : Int)) : zaa s = false := by
  have : zaW s[k] = false := by simp only [zaW, Bool.and_eq_false_iff, decide_eq_false_iff_not]; omega
  simp [zaa, zdc h this]
theorem zaJ (s : ByteArray) (w : World) (hs : s.size ≤ maxLen) : Calls Tryz.prog 55 #[.string s] w fun e w' => e = .returned (.bool (zaa s)) ∧ w = w' := by
  unfold maxLen at hs
  by_cases h1 : 1 ≤ s.size ∧ s.size ≤ 2
  · have t1 : decide (1 ≤ (s.size : Int)) = true := by simp; omega
    have t2 : decide ((s.size : Int) ≤ 2) = true := by simp; omega
    go_enter Tryz.func55, Tryz.ntmps55
    go_wp2_with (go_at_call 54; refine (za5 _ _ _ _).mono ?_; rintro e w' ⟨rfl, rfl⟩)
    go_loop [3, 10] (fun _ i => ∃ k : Nat, k ≤ s.size ∧ i = .int .i64 k ∧ Hid ((s.data.toList.take k).all zaW = true)) (fun _ i => s.size - (intOf i).toNat)
    case atStart => exact ⟨0, Nat.zero_le _, rfl, by simp [Hid]⟩
    case round =>
      obtain ⟨k, hk, rfl, hall⟩ := hrel
      by_cases hlt : k < s.size
      · go_wp2
        all_goals first
          | (go_ret; exact ⟨retB (zbu hlt (by omega)).symm, rfl⟩)
          | (go_round
             case rel => exact ⟨k + 1, by omega, by go_num, (by rw [zbX hlt, hall.out]; simp [zaW]; omega : (s.data.toList.take (k + 1)).all zaW = true)⟩
             case measure => simp [intOf]; omega)
      · go_wp2
        go_ret
        have he : k = s.size := by omega
        have h3 := hall.out
        rw [he, List.take_of_length_le (by simp)] at h3
        refine ⟨?_, rfl⟩
        simp only [zaa, t1, t2, h3]; rfl
  · have t1 : (decide (1 ≤ (s.size : Int)) && decide ((s.size : Int) ≤ 2)) = false := by simp; omega
    go_enter Tryz.func55, Tryz.ntmps55
    go_wp2_with (go_at_call 54; refine (za5 _ _ _ _).mono ?_; rintro e w' ⟨rfl, rfl⟩)
    go_ret
    exact ⟨by simp only [zaa, t1]; rfl, rfl⟩
theorem zcI (n : Nat) : ∀ (t : Tm) (v : Value) (deep : Int) (w : World), t.size ≤ n → 1 ≤ deep → deep ≤ 5 → TmR w t v →
    Calls Tryz.prog 79 #[v, .int .i64 deep] w fun e w' => e = .returned (.int .i64 (t.tsz deep)) ∧ Below w.heap.size w w' := by
  induction n with
  | zero => intro t; have := t.size_pos; omega
  | succ n ih =>
    rintro t v deep w hn hd0 hd ⟨kv, rfl, hs, hk⟩
    obtain ⟨a, cap, rfl, hc1, hc2⟩ := hk.form
    by_cases hc : zaa t.name = true ∧ t.kids.length ≤ 2 ∧ deep ≤ 4
    · have hfin := Lib.hid (Tm.tsz_eq t deep)
      rw [if_pos hc] at hfin
      obtain ⟨hn1, hn2, hn3⟩ := hc
      go_enter Tryz.func79, Tryz.ntmps79
      go_wp2_with (go_at_call 55; refine (zaJ _ _ hs).mono ?_; rintro e w' ⟨rfl, rfl⟩)
      go_loopw [5, 25] (fun nn i wr => ∃ k : Nat, k ≤ t.kids.length ∧ i = .int .i64 k ∧ nn = .int .i64 (1 + Tm.tszs (t.kids.take k) (deep + 1)) ∧ Below w.heap.size w wr) (fun _ i _ => t.kids.length - (intOf i).toNat)
      case atStart => exact ⟨0, Nat.zero_le _, rfl, rfl, (Below.refl _ _).alloc (Nat.le_refl _) _⟩
      case round =>
        obtain ⟨k, hkl, rfl, rfl, hb⟩ := hrel
        have bd1 := Tm.tszs_bd (t.kids.take k) (deep + 1) (by omega)
        have hl : (t.kids.take k).length ≤ k := List.length_take_le _ _
        by_cases hlt : k < t.kids.length
        · obtain ⟨b, off, rfl, hbs⟩ := hk.addr (by omega)
          obtain ⟨ka, kc, c0, c1, hss, hkk⟩ := (hk.below hb).at hlt
          have bd2 := Tm.tsz_bd' t.kids[k] (deep + 1) (by omega)
          have hz := hb.size
          have hkn := Tm.size_kid hlt
          go_wp2_with (go_at_call 79; refine (ih t.kids[k] _ _ _ (by omega) (by omega) (by omega) ((TmR.mk hss hkk).below ((Below.refl _ _).alloc (Nat.le_refl _) _))).mono ?_; rintro e w' ⟨rfl, hb2⟩)
          go_roundw
          case rel => exact ⟨k + 1, by omega, by go_num, by rw [Tm.tszs_succ _ _ _ hlt]; go_num, (hb.alloc hz _).trans (hb2.mono (by simp; omega))⟩
          case measure => simp [intOf]; omega
        · have he : t.kids.take k = t.kids := List.take_of_length_le (by omega)
          rw [he] at bd1
          go_wp2
          go_ret
          exact ⟨retI (by rw [hfin.out, he]), hb⟩
    · have hfin := Lib.hid (Tm.tsz_eq t deep)
      rw [if_neg hc] at hfin
      have HC := Lib.hid hc
      clear hc
      go_enter Tryz.func79, Tryz.ntmps79
      go_wp2_with (go_at_call 55; refine (zaJ _ _ hs).mono ?_; rintro e w' ⟨rfl, rfl⟩)
      all_goals first
        | (go_ret; exact ⟨retI hfin.out.symm, (Below.refl _ _).alloc (Nat.le_refl _) _⟩)
        | exact absurd ⟨‹zaa t.name = true›, by omega, by omega⟩ HC.out
theorem zai (t : Tm) (v : Value) (w : World) (h : TmR w t v) : Calls Tryz.prog 53 #[v] w fun e w' => e = .returned (.bool t.wf) ∧ Below w.heap.size w w' := by
  obtain ⟨kv, rfl, hs, hk⟩ := h
  obtain ⟨a, cap, rfl, hc1, hc2⟩ := hk.form
  go_enter Tryz.func53, Tryz.ntmps53
  go_wp2_with (go_at_call 79; refine (zcI t.size t _ _ _ (Nat.le_refl _) (by omega) (by omega) ((TmR.mk hs hk).below ((Below.refl _ _).alloc (Nat.le_refl _) _))).mono ?_; rintro e w' ⟨rfl, hb2⟩)
  go_ret
  exact ⟨retB (Tm.wf_impl t), ((Below.refl _ _).alloc (Nat.le_refl _) _).trans (hb2.mono (by simp))⟩
theorem zG (s : ByteArray) (w : World) (hs : s.size ≤ maxLen) : Calls Tryz.prog 67 #[.string s] w fun e w' => e = .returned (.bool (zaa s)) ∧ w = w' := by
  unfold maxLen at hs
  go_enter Tryz.func67, Tryz.ntmps67
  go_wp2
  go_loop [3] (fun i => ∃ k : Nat, k ≤ s.size ∧ i = .int .i64 k ∧ Hid ((s.data.toList.take k).all zaW = true)) (fun i => s.size - (intOf i).toNat)
  case atStart => exact ⟨0, Nat.zero_le _, rfl, by simp [Hid]⟩
  case round =>
    obtain ⟨k, hk, rfl, hall⟩ := hrel
    by_cases hlt : k < s.size
    · go_wp2
      all_goals first
        | (go_ret; exact ⟨retB (zbu hlt (by omega)).symm, rfl⟩)
        | (go_round
           case rel => exact ⟨k + 1, by omega, by go_num, (by rw [zbX hlt, hall.out]; simp [zaW]; omega : (s.data.toList.take (k + 1)).all zaW = true)⟩
           case measure => simp [intOf]; omega)
    · have he : k = s.size := by omega
      have h3 := hall.out
      rw [he, List.take_of_length_le (by simp)] at h3
      have H3 := Lib.hid h3
      clear h3 hall he
      go_wp2
      all_goals (go_ret; refine ⟨retB ?_, rfl⟩; simp only [zaa, H3.out]; simp; try omega)
theorem zdd (n : Nat) : ∀ (t : Tm) (v : Value) (deep : Int) (w : World), t.size ≤ n → 0 ≤ deep → deep ≤ 1000 → TmR w t v →
    Calls Tryz.prog 80 #[v, .int .i64 deep] w fun e w' => e = .returned (.bool (t.shape deep)) ∧ Below w.heap.size w w' := by
  induction n with
  | zero => intro t; have := t.size_pos; omega
  | succ n ih =>
    rintro t v deep w hn hd0 hd ⟨kv, rfl, hs, hk⟩
    obtain ⟨a, cap, rfl, hc1, hc2⟩ := hk.form
    by_cases hc : 1 ≤ deep ∧ zaa t.name = true ∧ t.kids.length ≤ 2
    · have hfin : t.shape deep = Tm.shapes t.kids (deep - 1) := by rw [Tm.shape_eq]; simp [hc.1, hc.2.1, hc.2.2]
      have HF := Lib.hid hfin
      clear hfin
      obtain ⟨hn1, hn2, hn3⟩ := hc
      go_enter Tryz.func80, Tryz.ntmps80
      go_wp2_with (go_at_call 67; refine (zG _ _ hs).mono ?_; rintro e w' ⟨rfl, rfl⟩)
      go_loopw [5] (fun i wr => ∃ k : Nat, k ≤ t.kids.length ∧ i = .int .i64 k ∧ Hid (Tm.shapes (t.kids.take k) (deep - 1) = true) ∧ Below (w.heap.size + 1) (w.alloc (.cells #[.string t.name, .slice a t.kids.length cap] 29)) wr) (fun i _ => t.kids.length - (intOf i).toNat)
      case atStart => exact ⟨0, Nat.zero_le _, rfl, rfl, Below.refl _ _⟩
      case round =>
        obtain ⟨k, hkl, rfl, hall, hb⟩ := hrel
        obtain ⟨hx, hz, hbb⟩ := box1 hb
        have x1 : wr.cell? ⟨w.heap.size, 1, none⟩ = some (.slice a t.kids.length cap) := hx 1
        clear hx
        by_cases hlt : k < t.kids.length
        · obtain ⟨b, off, rfl, hbs⟩ := hk.addr (by omega)
          obtain ⟨ka, kc, c0, c1, hss, hkk⟩ := (hk.below hbb).at hlt
          have hkn := Tm.size_kid hlt
          have hsplit := Tm.shapes_take t.kids (deep - 1) k hlt
          have HS := Lib.hid hsplit
          clear hsplit
          go_wp2_with (go_at_call 80; refine (ih t.kids[k] _ _ _ (by omega) (by omega) (by omega) (TmR.mk hss hkk)).mono ?_; rintro e w' ⟨rfl, hb2⟩)
          · go_ret
            have h := HS.out.2 (by simp_all)
            exact ⟨retB (by rw [HF.out, h]), hbb.trans (hb2.mono (by omega))⟩
          · go_roundw
            case rel => exact ⟨k + 1, by omega, by go_num, (by rw [HS.out.1, hall.out]; simp_all : Tm.shapes (t.kids.take (k + 1)) (deep - 1) = true), hb.trans (hb2.mono (by omega))⟩
            case measure => simp [intOf]; omega
        · have he : t.kids.take k = t.kids := List.take_of_length_le (by omega)
          rw [he] at hall
          go_wp2
          go_ret
          exact ⟨retB (by rw [HF.out, hall.out]), hbb⟩
    · have hfin : t.shape deep = false := by
        rw [Tm.shape_eq]
        by_cases h1 : 1 ≤ deep
        · by_cases h2 : zaa t.name = true
          · have : ¬ t.kids.length ≤ 2 := fun h => hc ⟨h1, h2, h⟩
            simp [this]
          · simp [h2]
        · simp [h1]
      have HF := Lib.hid hfin
      have HC := Lib.hid hc
      clear hc hfin
      go_enter Tryz.func80, Tryz.ntmps80
      go_wp2_with (go_at_call 67; refine (zG _ _ hs).mono ?_; rintro e w' ⟨rfl, rfl⟩)
      all_goals first
        | (go_ret; exact ⟨retB HF.out.symm, (Below.refl _ _).alloc (Nat.le_refl _) _⟩)
        | exact absurd ⟨by omega, ‹zaa t.name = true›, by omega⟩ HC.out
theorem zdU (n : Nat) : ∀ (t : Tm) (v : Value) (deep : Int) (w : World), t.size ≤ n → 0 ≤ deep → deep ≤ 1000 → t.size ≤ 1000000000 → TmR w t v →
    Calls Tryz.prog 81 #[v, .int .i64 deep] w fun e w' => e = .returned (.int .i64 (t.many deep)) ∧ Below w.heap.size w w' := by
  induction n with
  | zero => intro t; have := t.size_pos; omega
  | succ n ih =>
    rintro t v deep w hn hd0 hd hbig ⟨kv, rfl, hs, hk⟩
    obtain ⟨a, cap, rfl, hc1, hc2⟩ := hk.form
    have HF := Lib.hid (Tm.many_eq t deep)
    go_enter Tryz.func81, Tryz.ntmps81
    go_wp2
    go_loopw [5, 6] (fun nn i wr => ∃ k : Nat, k ≤ t.kids.length ∧ (0 < k → 0 < deep) ∧ i = .int .i64 k ∧ nn = .int .i64 (1 + Tm.manys (t.kids.take k) (deep - 1)) ∧ Below (w.heap.size + 1) (w.alloc (.cells #[.string t.name, .slice a t.kids.length cap] 29)) wr) (fun _ i _ => t.kids.length - (intOf i).toNat)
    case atStart => exact ⟨0, Nat.zero_le _, by omega, rfl, by simp [Tm.manys], Below.refl _ _⟩
    case round =>
      obtain ⟨k, hkl, hkd, rfl, rfl, hb⟩ := hrel
      obtain ⟨hx, hz, hbb⟩ := box1 hb
      have x1 : wr.cell? ⟨w.heap.size, 1, none⟩ = some (.slice a t.kids.length cap) := hx 1
      clear hx
      have bd1 := Tm.manys_bd (t.kids.take k) (deep - 1)
      have bd3 := Tm.sizes_take t.kids k
      have bd4 : Tm.sizes t.kids ≤ t.size := by rw [Tm.size_eq t]; omega
      by_cases hlt : k < t.kids.length ∧ 0 < deep
      · obtain ⟨hlt, hdp⟩ := hlt
        obtain ⟨b, off, rfl, hbs⟩ := hk.addr (by omega)
        obtain ⟨ka, kc, c0, c1, hss, hkk⟩ := (hk.below hbb).at hlt
        have hkn := Tm.size_kid hlt
        have bd2 := Tm.many_bd t.kids[k] (deep - 1)
        go_wp2_with (go_at_call 81; refine (ih t.kids[k] _ _ _ (by omega) (by omega) (by omega) (by omega) (TmR.mk hss hkk)).mono ?_; rintro e w' ⟨rfl, hb2⟩)
        go_roundw
        case rel => exact ⟨k + 1, by omega, by omega, by go_num, by rw [Tm.manys_succ _ _ _ hlt]; go_num, hb.trans (hb2.mono (by omega))⟩
        case measure => simp [intOf]; omega
      · have hdec : (decide ((k : Int) < t.kids.length) && decide (0 < deep)) = false := by simp; omega
        have hfin : t.many deep = 1 + Tm.manys (t.kids.take k) (deep - 1) := by
          rw [HF.out]
          by_cases hd1 : 0 < deep
          · rw [if_pos hd1, List.take_of_length_le (by omega)]
          · have : k = 0 := by omega
            rw [if_neg hd1, this]; simp [Tm.manys]
        have HG := Lib.hid hfin
        clear hfin
        by_cases hlt1 : k < t.kids.length
        · have hd2 : decide (0 < deep) = false := by simp; omega
          go_wp2
          all_goals (go_ret; exact ⟨retI HG.out.symm, hbb⟩)
        · go_wp2
          all_goals (go_ret; exact ⟨retI HG.out.symm, hbb⟩)
theorem zde (t : Tm) (v : Value) (w : World) (hbig : t.size ≤ 1000000000) (h : TmR w t v) : Calls Tryz.prog 57 #[v] w fun e w' => e = .returned (.bool t.wf) ∧ Below w.heap.size w w' := by
  obtain ⟨kv, rfl, hs, hk⟩ := h
  obtain ⟨a, cap, rfl, hc1, hc2⟩ := hk.form
  have HF := Lib.hid (Tm.wf_spec t)
  have hb0 : Below w.heap.size w (w.alloc (.cells #[.string t.name, .slice a t.kids.length cap] 29)) := (Below.refl _ _).alloc (Nat.le_refl _) _
  have hk0 := hk.below hb0
  by_cases hsh : t.shape 4 = true
  all_goals
    go_enter Tryz.func57, Tryz.ntmps57
    go_wp2_with fail
    refine (zdd t.size t _ _ _ (Nat.le_refl _) (by omega) (by omega) (TmR.mk hs hk0)).mono ?_
    rintro e w1 ⟨rfl, hb⟩
    have hb' := hb
    rw [World.size_alloc] at hb'
    obtain ⟨hx, hz, hbb⟩ := box1 hb'
    have x0 : w1.cell? ⟨w.heap.size, 0, none⟩ = some (.string t.name) := hx 0
    have x1 : w1.cell? ⟨w.heap.size, 1, none⟩ = some (.slice a t.kids.length cap) := hx 1
    clear hx
    go_wp2_with (go_at_call 81; refine (zdU t.size t _ _ _ (Nat.le_refl _) (by omega) (by omega) hbig (TmR.mk hs (hk.below hbb))).mono ?_; rintro e w2 ⟨rfl, hb2⟩)
    go_ret
  · exact ⟨retB (by rw [← HF.out]; simp [hsh]), hbb.trans (hb2.mono (by omega))⟩
  · exact ⟨retB (by rw [← HF.out]; simp [hsh]), hbb⟩
end Go.Proofs.YtlefdhhnlbpbkaaGreat
end
