/- CoreOf, both sides. -/
import Derived.Test.YtaogaddgfllkpaaOwnF
import Derived.Test.YtaogaddgfllkpaaCnt
namespace Go.Proofs.Ytaogaddgfllkpaa
open Go Go.RowKit
set_option linter.unusedVariables false
set_option linter.unusedSimpArgs false


set_option maxHeartbeats 4000000
def corePick (xs : List Fm) (i : Int) : List Fm := if h : 0 ≤ i ∧ i.toNat < xs.length then [xs[i.toNat]] else []
def coreOf (xs : List Fm) (ats : List Int) : List Fm := ats.flatMap (corePick xs)
theorem corePick_yes {xs : List Fm} {i : Int} {j : Nat} (hi : i = j) (h : j < xs.length) : corePick xs i = [xs[j]] := by
  subst hi; unfold corePick; rw [dif_pos ⟨by omega, by simpa using h⟩]; simp
theorem corePick_no {xs : List Fm} {i : Int} (h : ¬ (0 ≤ i ∧ i < xs.length)) : corePick xs i = [] := by
  unfold corePick; rw [dif_neg (by omega)]
theorem corePick_len (xs : List Fm) (i : Int) : (corePick xs i).length ≤ 1 := by
  unfold corePick; split <;> simp
theorem coreOf_len (xs : List Fm) : ∀ (ats : List Int), (coreOf xs ats).length ≤ ats.length
  | [] => by simp [coreOf]
  | i :: r => by
    have h1 := corePick_len xs i
    have h2 := coreOf_len xs r
    unfold coreOf at h2 ⊢
    rw [List.flatMap_cons, List.length_append, List.length_cons]; omega
theorem coreOf_succ (xs : List Fm) (ats : List Int) (k : Nat) (h : k < ats.length) : coreOf xs (ats.take (k + 1)) = coreOf xs (ats.take k) ++ corePick xs ats[k] := by
  unfold coreOf; rw [List.take_succ_eq_append_getElem h, List.flatMap_append]; simp
theorem corePick_cnt (xs : List Fm) (i : Int) : cntR ((corePick xs i).map Fm.cd) ≤ 16 + 16 * wtR (xs.map Fm.cd) := by
  unfold corePick; split
  · rename_i h
    have h1 := Fm.cd_cnt xs[i.toNat]
    have h2 : wtV (xs[i.toNat]).cd ≤ wtR (xs.map Fm.cd) := by
      have h3 := wtR_take_le Fm.cd xs (i.toNat + 1)
      rw [wtR_take_succ Fm.cd xs _ h.2] at h3; omega
    simp only [List.map_cons, List.map_nil, cntR]; omega
  · simp [cntR]
theorem coreOf_cnt (xs : List Fm) : ∀ (ats : List Int), cntR ((coreOf xs ats).map Fm.cd) ≤ ats.length * (16 + 16 * wtR (xs.map Fm.cd))
  | [] => by simp [coreOf, cntR]
  | i :: r => by
    have h1 := corePick_cnt xs i
    have h2 := coreOf_cnt xs r
    unfold coreOf at h2 ⊢
    rw [List.flatMap_cons, List.map_append, cntR_append, List.length_cons, Nat.succ_mul]; omega

theorem coreOf_any (xs : List Fm) (ats : List Int) (v u : Value) (fp0 fq : List Nat) (w : World) (hbig : xs.length + wtR (xs.map Fm.cd) ≤ 1048576) (hbt : ats.length ≤ 1048576) (hv : Rd w (.sl (xs.map Fm.cd)) v fp0) (hu : Rd w (.sl (ats.map intCd)) u fq) :
    Calls Try.prog 18 #[v, u] w (ToOut (.sl ((coreOf xs ats).map Fm.cd)) w) := by
  obtain ⟨a, cap, rfl, hc1, hc2⟩ := rd_sl_inv hv
  obtain ⟨p, q, rfl, hd1, hd2⟩ := rd_sl_inv hu
  go_enter Try.func18, Try.ntmps18
  go_wp2_with fail
  go_loopw [5, 7, 10] (fun ov _ i wr => ∃ (k : Nat) (fp : List Nat), k ≤ ats.length ∧ i = .int .i64 k ∧ Own wr w.heap.size 105 12 ov ((coreOf xs (ats.take k)).map Fm.cd) fp ∧ Fresh w.heap.size wr fp ∧ Below w.heap.size w wr) (fun _ _ i _ => ats.length - (intOf i).toNat)
  case atStart => first | exact ⟨0, [], Nat.zero_le _, rfl, Own.nil _ _ _ _, Fresh.nil _ _, Below.refl _ _⟩ | exact ⟨0, [], Nat.zero_le _, rfl, by exact Own.empty _ _ _ _ (Nat.le_refl _), Fresh.nil _ _, (Below.refl _ _).alloc (Nat.le_refl _) _⟩
  case round =>
    obtain ⟨k, fp, hkl, rfl, hown, hfr, hb⟩ := hrel
    have hz := hb.size
    by_cases hlt : k < ats.length
    · obtain ⟨b2, off2, rfl, hbs2, _⟩ := rd_addr hu (by omega)
      obtain ⟨q0, hri⟩ := intCd_at (hu.below hb) hlt
      have hbz2 : b2 < wr.heap.size := by omega
      have hsuc := coreOf_succ xs ats k hlt
      have hl : ((coreOf xs (ats.take k)).map Fm.cd).length ≤ ats.length := by have := coreOf_len xs (ats.take k); simp only [List.length_map, List.length_take] at this ⊢; omega
      have hs1 : IntKind.i64.wrap ((xs.length : Int) - 1) = (xs.length : Int) - 1 := by rw [IntWalk.i64_in _ (by omega)]
      by_cases hin : 0 ≤ ats[k] ∧ ats[k] < (xs.length : Int)
      · obtain ⟨j, hj⟩ := Int.eq_ofNat_of_zero_le hin.1
        have hjl : j < xs.length := by omega
        rw [corePick_yes hj hjl] at hsuc
        have HS := Lib.hid hsuc
        rw [hj] at q0 hri
        clear hsuc hin hj
        have hin : (decide ((0 : Int) ≤ (j : Int)) && decide ((j : Int) ≤ (xs.length : Int) - 1)) = true := by simp; omega
        obtain ⟨b, off, rfl, hbs, _⟩ := rd_addr hv (by omega)
        obtain ⟨a3, c3, f3, a5, c5, f5, a6, c6, f6, a7, c7, f7, a11, c11, f11, d0, d1, d2, d3, d4, d5, d6, d7, d8, d9, d10, d11, m0, m1, m2, m3, m4, m5, m6, m7, m8, m9, _⟩ := Fm.at (hv.below hb) hjl
        have hbz : b < wr.heap.size := by omega
        have hle := wtR_take_le Fm.cd xs (j + 1)
        rw [wtR_take_succ Fm.cd xs j hjl] at hle
        go_wp2_with fail
        refine (within_any _ _ _ _).mono ?_
        rintro e wq ⟨rfl, rfl⟩
        go_wp2_with fail
        refine (formOwn_x xs[j] _ _ _ (by omega) (by exact Fm.close m0 m1 m2 m3 m4 m5 m6 m7 m8 m9)).mono ?_
        rintro e w2 ⟨kv, fk, rfl, hrk, hfk, hb2⟩
        obtain ⟨b3, e3, g3, b5, e5, g5, b6, e6, g6, b7, e7, g7, b11, e11, g11, rfl, -, n0, n1, n2, n3, n4, n5, n6, n7, n8, n9⟩ := Fm.open hrk
        have hz2 := hb2.size
        have hown2 := (hown.below (hb2.alloc hz2 (.cells #[.int .i64 xs[j].kind, .int .i64 xs[j].lit.atom.kind, .string xs[j].lit.atom.a.name, .slice b3 xs[j].lit.atom.a.kids.length e3, .string xs[j].lit.atom.b.name, .slice b5 xs[j].lit.atom.b.kids.length e5, .slice b6 xs[j].lit.atom.nums.length e6, .slice b7 xs[j].lit.atom.times.length e7, .int .i64 xs[j].lit.atom.bound, .bool xs[j].lit.atom.strict, .bool xs[j].lit.no, .slice b11 xs[j].kids.length e11] 105)))
        have hrk2 := hrk.below (below_alloc w2 (.cells #[.int .i64 xs[j].kind, .int .i64 xs[j].lit.atom.kind, .string xs[j].lit.atom.a.name, .slice b3 xs[j].lit.atom.a.kids.length e3, .string xs[j].lit.atom.b.name, .slice b5 xs[j].lit.atom.b.kids.length e5, .slice b6 xs[j].lit.atom.nums.length e6, .slice b7 xs[j].lit.atom.times.length e7, .int .i64 xs[j].lit.atom.bound, .bool xs[j].lit.atom.strict, .bool xs[j].lit.no, .slice b11 xs[j].kids.length e11] 105))
        go_wp2_with (at_builtin; refine wpList_app slTyFormS rfl _ _ rfl w.heap.size _ _ _ rfl hown2 ⟨w2.heap.size, 0, none⟩ 1 1 [xs[j].cd] [.int .i64 xs[j].kind, .int .i64 xs[j].lit.atom.kind, .string xs[j].lit.atom.a.name, .slice b3 xs[j].lit.atom.a.kids.length e3, .string xs[j].lit.atom.b.name, .slice b5 xs[j].lit.atom.b.kids.length e5, .slice b6 xs[j].lit.atom.nums.length e6, .slice b7 xs[j].lit.atom.times.length e7, .int .i64 xs[j].lit.atom.bound, .bool xs[j].lit.atom.strict, .bool xs[j].lit.no, .slice b11 xs[j].kids.length e11] fk rfl rfl ?rd ?k ?cells ?na ?bytes ?len ?base ?next)
        case rd => simpa using hrk2
        case k => simp [Fm.cd_len]
        case cells => exact cells_new _ _ _
        case na => exact hown.away (by simp) hfk
        case bytes => omega
        case len => omega
        case base => simp; omega
        case next =>
          intro v' w4 hown4 hg hv' hs4
          go_wp2_with fail
          go_roundw
          case rel =>
            refine ⟨k + 1, fp ++ fk, by omega, by go_num, ?_, ?_, ?_⟩
            · rw [HS.out, List.map_append]; simpa using hown4
            · exact ((Fresh.app (hfr.below hb2) hfr.lt hz (hfk.mono (by simp))).below (below_alloc _ _)).same hs4
            · exact grown_below ((hb.trans (hb2.mono hz)).alloc (by omega) _) hg (by simp; omega) (fun k hk => (hown.block hk).1)
          case measure => simp [intOf]; omega
      · rw [corePick_no hin, List.append_nil] at hsuc
        have HS := Lib.hid hsuc
        clear hsuc
        have hno : (decide ((0 : Int) ≤ ats[k]) && decide (ats[k] ≤ (xs.length : Int) - 1)) = false := by rw [Bool.eq_false_iff]; simp; omega
        clear hin
        go_wp2_with fail
        refine (within_any _ _ _ _).mono ?_
        rintro e wq ⟨rfl, rfl⟩
        go_wp2_with fail
        go_roundw
        case rel => exact ⟨k + 1, fp, by omega, by go_num, by rw [HS.out]; exact hown, hfr, hb⟩
        case measure => simp [intOf]; omega
    · have he : ats.take k = ats := List.take_of_length_le (by omega)
      rw [he] at hown
      go_wp2_with fail
      go_ret
      obtain ⟨fp', h1, h2, _⟩ := hown.fresh hfr
      exact ⟨_, fp', rfl, h1, h2, hb⟩
theorem sCoreOf_any (xs : List Fm) (ats : List Int) (v u : Value) (fp0 fq : List Nat) (w : World) (hbig : xs.length + wtR (xs.map Fm.cd) ≤ 1048576) (hbt : ats.length ≤ 1048576) (hv : Rd w (.sl (xs.map Fm.cd)) v fp0) (hu : Rd w (.sl (ats.map intCd)) u fq) :
    Calls Try.prog 15 #[v, u] w (ToOut (.sl ((coreOf xs ats).map Fm.cd)) w) := by
  obtain ⟨p, q, rfl, hd1, hd2⟩ := rd_sl_inv hu
  go_enter Try.func15, Try.ntmps15
  go_wp2_with fail
  refine (l16OwnListForm_x xs _ _ _ (by omega) hv).mono ?_
  rintro e w1 ⟨kv, f1, rfl, hv1, _, hb1⟩
  clear hv
  have hv := hv1
  have hu1 := hu.below hb1
  clear hu hv1
  have hu := hu1
  clear hu1
  obtain ⟨a, cap, rfl, hc1, hc2⟩ := rd_sl_inv hv
  go_wp2_with fail
  go_loopw [5, 6] (fun ov i wr => ∃ (k : Nat) (fp : List Nat), k ≤ ats.length ∧ i = .int .i64 k ∧ Own wr w1.heap.size 105 12 ov ((coreOf xs (ats.take k)).map Fm.cd) fp ∧ Fresh w1.heap.size wr fp ∧ Below w1.heap.size w1 wr) (fun _ i _ => ats.length - (intOf i).toNat)
  case atStart => first | exact ⟨0, [], Nat.zero_le _, rfl, Own.nil _ _ _ _, Fresh.nil _ _, Below.refl _ _⟩ | exact ⟨0, [], Nat.zero_le _, rfl, by exact Own.empty _ _ _ _ (Nat.le_refl _), Fresh.nil _ _, (Below.refl _ _).alloc (Nat.le_refl _) _⟩
  case round =>
    obtain ⟨k, fp, hkl, rfl, hown, hfr, hb⟩ := hrel
    have hz := hb.size
    by_cases hlt : k < ats.length
    · obtain ⟨b2, off2, rfl, hbs2, _⟩ := rd_addr hu (by omega)
      obtain ⟨q0, hri⟩ := intCd_at (hu.below hb) hlt
      have hbz2 : b2 < wr.heap.size := by omega
      have hsuc := coreOf_succ xs ats k hlt
      have hl : ((coreOf xs (ats.take k)).map Fm.cd).length ≤ ats.length := by have := coreOf_len xs (ats.take k); simp only [List.length_map, List.length_take] at this ⊢; omega
      have hs1 : IntKind.i64.wrap ((xs.length : Int) - 1) = (xs.length : Int) - 1 := by rw [IntWalk.i64_in _ (by omega)]
      by_cases hin : 0 ≤ ats[k] ∧ ats[k] < (xs.length : Int)
      · obtain ⟨j, hj⟩ := Int.eq_ofNat_of_zero_le hin.1
        have hjl : j < xs.length := by omega
        rw [corePick_yes hj hjl] at hsuc
        have HS := Lib.hid hsuc
        rw [hj] at q0 hri
        clear hsuc hin hj
        have hin : (decide ((0 : Int) ≤ (j : Int)) && decide ((j : Int) ≤ (xs.length : Int) - 1)) = true := by simp; omega
        obtain ⟨b, off, rfl, hbs, _⟩ := rd_addr hv (by omega)
        obtain ⟨a3, c3, f3, a5, c5, f5, a6, c6, f6, a7, c7, f7, a11, c11, f11, d0, d1, d2, d3, d4, d5, d6, d7, d8, d9, d10, d11, m0, m1, m2, m3, m4, m5, m6, m7, m8, m9, _⟩ := Fm.at (hv.below hb) hjl
        have hbz : b < wr.heap.size := by omega
        have hle := wtR_take_le Fm.cd xs (j + 1)
        rw [wtR_take_succ Fm.cd xs j hjl] at hle
        go_wp2_with fail
        refine (l16OwnForm_x xs[j] _ _ _ (by omega) (by exact Fm.close m0 m1 m2 m3 m4 m5 m6 m7 m8 m9)).mono ?_
        rintro e w2 ⟨kv, fk, rfl, hrk, hfk, hb2⟩
        obtain ⟨b3, e3, g3, b5, e5, g5, b6, e6, g6, b7, e7, g7, b11, e11, g11, rfl, -, n0, n1, n2, n3, n4, n5, n6, n7, n8, n9⟩ := Fm.open hrk
        have hz2 := hb2.size
        have hown2 := (hown.below (hb2.alloc hz2 (.cells #[.int .i64 xs[j].kind, .int .i64 xs[j].lit.atom.kind, .string xs[j].lit.atom.a.name, .slice b3 xs[j].lit.atom.a.kids.length e3, .string xs[j].lit.atom.b.name, .slice b5 xs[j].lit.atom.b.kids.length e5, .slice b6 xs[j].lit.atom.nums.length e6, .slice b7 xs[j].lit.atom.times.length e7, .int .i64 xs[j].lit.atom.bound, .bool xs[j].lit.atom.strict, .bool xs[j].lit.no, .slice b11 xs[j].kids.length e11] 105)))
        have hrk2 := hrk.below (below_alloc w2 (.cells #[.int .i64 xs[j].kind, .int .i64 xs[j].lit.atom.kind, .string xs[j].lit.atom.a.name, .slice b3 xs[j].lit.atom.a.kids.length e3, .string xs[j].lit.atom.b.name, .slice b5 xs[j].lit.atom.b.kids.length e5, .slice b6 xs[j].lit.atom.nums.length e6, .slice b7 xs[j].lit.atom.times.length e7, .int .i64 xs[j].lit.atom.bound, .bool xs[j].lit.atom.strict, .bool xs[j].lit.no, .slice b11 xs[j].kids.length e11] 105))
        go_wp2_with (at_builtin; refine wpList_app slTyFormS rfl _ _ rfl w1.heap.size _ _ _ rfl hown2 ⟨w2.heap.size, 0, none⟩ 1 1 [xs[j].cd] [.int .i64 xs[j].kind, .int .i64 xs[j].lit.atom.kind, .string xs[j].lit.atom.a.name, .slice b3 xs[j].lit.atom.a.kids.length e3, .string xs[j].lit.atom.b.name, .slice b5 xs[j].lit.atom.b.kids.length e5, .slice b6 xs[j].lit.atom.nums.length e6, .slice b7 xs[j].lit.atom.times.length e7, .int .i64 xs[j].lit.atom.bound, .bool xs[j].lit.atom.strict, .bool xs[j].lit.no, .slice b11 xs[j].kids.length e11] fk rfl rfl ?rd ?k ?cells ?na ?bytes ?len ?base ?next)
        case rd => simpa using hrk2
        case k => simp [Fm.cd_len]
        case cells => exact cells_new _ _ _
        case na => exact hown.away (by simp) hfk
        case bytes => omega
        case len => omega
        case base => simp; omega
        case next =>
          intro v' w4 hown4 hg hv' hs4
          go_wp2_with fail
          go_roundw
          case rel =>
            refine ⟨k + 1, fp ++ fk, by omega, by go_num, ?_, ?_, ?_⟩
            · rw [HS.out, List.map_append]; simpa using hown4
            · exact ((Fresh.app (hfr.below hb2) hfr.lt hz (hfk.mono (by simp))).below (below_alloc _ _)).same hs4
            · exact grown_below ((hb.trans (hb2.mono hz)).alloc (by omega) _) hg (by simp; omega) (fun k hk => (hown.block hk).1)
          case measure => simp [intOf]; omega
      · rw [corePick_no hin, List.append_nil] at hsuc
        have HS := Lib.hid hsuc
        clear hsuc
        by_cases h0 : 0 ≤ ats[k]
        · have h1 : ¬ ats[k] < (xs.length : Int) := fun h => hin ⟨h0, h⟩
          clear hin
          go_wp2_with fail
          go_roundw
          case rel => exact ⟨k + 1, fp, by omega, by go_num, by rw [HS.out]; exact hown, hfr, hb⟩
          case measure => simp [intOf]; omega
        · clear hin
          go_wp2_with fail
          go_roundw
          case rel => exact ⟨k + 1, fp, by omega, by go_num, by rw [HS.out]; exact hown, hfr, hb⟩
          case measure => simp [intOf]; omega
    · have he : ats.take k = ats := List.take_of_length_le (by omega)
      rw [he] at hown
      go_wp2_with fail
      go_ret
      obtain ⟨fp', h1, h2, _⟩ := hown.fresh hfr
      exact ⟨_, fp', rfl, h1, h2.mono hb1.size, hb1.trans (hb.mono hb1.size)⟩
end Go.Proofs.Ytaogaddgfllkpaa
