/- Parts of the proof: CoreW. -/
import Derived.Test.YtbfinjiledfpcaaPa28
import Derived.Test.YtbfinjiledfpcaaPa8
namespace Go.Proofs.Ytbfinjiledfpcaa
open Go Go.RowKit
set_option linter.unusedVariables false
set_option linter.unusedSimpArgs false
set_option maxHeartbeats 4000000
def zau (xs : List Fm) (i : Int) : List Fm := if h : 0 ≤ i ∧ i.toNat < xs.length then [xs[i.toNat]] else []
def zH (xs : List Fm) (ats : List Int) : List Fm := ats.flatMap (zau xs)
theorem zav {xs : List Fm} {i : Int} {j : Nat} (hi : i = j) (h : j < xs.length) : zau xs i = [xs[j]] := by
 subst hi; unfold zau; rw [dif_pos ⟨by omega, by simpa using h⟩]; simp
theorem zaY {xs : List Fm} {i : Int} (h : ¬ (0 ≤ i ∧ i < xs.length)) : zau xs i = [] := by
 unfold zau; rw [dif_neg (by omega)]
theorem zcc (xs : List Fm) (i : Int) : (zau xs i).length ≤ 1 := by
 unfold zau; split <;> simp
theorem zaQ (xs : List Fm) : ∀ (ats : List Int), (zH xs ats).length ≤ ats.length
 | [] => by simp [zH]
 | i :: r => by
  have h1 := zcc xs i; have h2 := zaQ xs r; unfold zH at h2 ⊢; rw [List.flatMap_cons, zdC, zdQ]; omega
theorem zan (xs : List Fm) (ats : List Int) (k : Nat) (h : k < ats.length) : zH xs (ats.take (k + 1)) = zH xs (ats.take k) ++ zau xs ats[k] := by
 unfold zH; rw [zdz h, List.flatMap_append]; simp
theorem zdr (xs : List Fm) (ats : List Int) (v u : Value) (fp0 fq : List Nat) (w : World) (hbig : xs.length + wtR (xs.map Fm.cd) ≤ 1048576) (hbt : ats.length ≤ 1048576) (hv : Rd w (.sl (xs.map Fm.cd)) v fp0) (hu : Rd w (.sl (ats.map zm)) u fq) :
  Calls Try.prog 6 #[v, u] w (zbA (.sl ((zH xs ats).map Fm.cd)) w) := by
 obtain ⟨a, cap, rfl, hc1, hc2⟩ := zc hv; obtain ⟨p, q, rfl, hd1, hd2⟩ := zc hu; go_enter Try.func6, Try.ntmps6; go_wp2_with fail
 go_loopw [5, 7, 10] (fun ov _ i wr => ∃ (k : Nat) (fp : List Nat), k ≤ ats.length ∧ i = .int .i64 k ∧ Own wr w.heap.size 37 12 ov ((zH xs (ats.take k)).map Fm.cd) fp ∧ Fresh w.heap.size wr fp ∧ Below w.heap.size w wr) (fun _ _ i _ => ats.length - (intOf i).toNat)
 case atStart => first | exact ⟨0, [], zdR _, rfl, Own.nil _ _ _ _, Fresh.nil _ _, zdT _ _⟩ | exact ⟨0, [], zdR _, rfl, by exact Own.empty _ _ _ _ (zdI _), Fresh.nil _ _, (zdT _ _).alloc (zdI _) _⟩
 case round =>
  obtain ⟨k, fp, hkl, rfl, hown, hfr, hb⟩ := hrel; have hz := hb.size
  by_cases hlt : k < ats.length
  ·obtain ⟨b2, off2, rfl, hbs2, _⟩ := zo hu (by omega)
   obtain ⟨q0, hri⟩ := zS (hu.below hb) hlt
   have hbz2 : b2 < wr.heap.size := by omega
   have hsuc := zan xs ats k hlt
   have hl : ((zH xs (ats.take k)).map Fm.cd).length ≤ ats.length := by have := zaQ xs (ats.take k); simp only [zdF, List.length_take] at this ⊢; omega
   have hs1 : IntKind.i64.wrap ((xs.length : Int) - 1) = (xs.length : Int) - 1 := by rw [IntWalk.i64_in _ (by omega)]
   by_cases hin : 0 ≤ ats[k] ∧ ats[k] < (xs.length : Int)
   ·obtain ⟨j, hj⟩ := Int.eq_ofNat_of_zero_le hin.1
    have hjl : j < xs.length := by omega
    rw [zav hj hjl] at hsuc; have HS := zdH hsuc; rw [hj] at q0 hri; clear hsuc hin hj
    have hin : (decide ((0 : Int) ≤ (j : Int)) && decide ((j : Int) ≤ (xs.length : Int) - 1)) = true := by simp; omega
    obtain ⟨b, off, rfl, hbs, _⟩ := zo hv (by omega); obtain ⟨a3, c3, f3, a5, c5, f5, a6, c6, f6, a7, c7, f7, a11, c11, f11, d0, d1, d2, d3, d4, d5, d6, d7, d8, d9, d10, d11, m0, m1, m2, m3, m4, m5, m6, m7, m8, m9, _⟩ := Fm.at (hv.below hb) hjl
    have hbz : b < wr.heap.size := by omega
    have hle := zL Fm.cd xs (j + 1); rw [zK Fm.cd xs j hjl] at hle; go_wp2_with fail; refine (zbI _ _ _ _).mono ?_; rintro e wq ⟨rfl, rfl⟩; go_wp2_with fail; refine (formOwn_x xs[j] _ _ _ (by omega) (by exact Fm.close m0 m1 m2 m3 m4 m5 m6 m7 m8 m9)).mono ?_; rintro e w2 ⟨kv, fk, rfl, hrk, hfk, hb2⟩; obtain ⟨b3, e3, g3, b5, e5, g5, b6, e6, g6, b7, e7, g7, b11, e11, g11, rfl, -, n0, n1, n2, n3, n4, n5, n6, n7, n8, n9⟩ := Fm.open hrk; have hz2 := hb2.size; have hown2 := (hown.below (hb2.alloc hz2 (.cells (yTa xs[j] b3 e3 b5 e5 b6 e6 b7 e7 b11 e11) 37))); have hrk2 := hrk.below (za w2 (.cells (yTa xs[j] b3 e3 b5 e5 b6 e6 b7 e7 b11 e11) 37)); go_wp2_with (at_builtin; refine zp zG rfl _ _ rfl w.heap.size _ _ _ rfl hown2 ⟨w2.heap.size, 0, none⟩ 1 1 [xs[j].cd] (yTl xs[j] b3 e3 b5 e5 b6 e6 b7 e7 b11 e11) fk rfl rfl ?rd ?k ?cells ?na ?bytes ?len ?base ?next)
    case rd => simpa using hrk2
    case k => simp [Fm.cd_len]
    case cells => exact zl _ _ _
    case na => exact hown.away (by simp) hfk
    case bytes => omega
    case len => omega
    case base => simp; omega
    case next =>
     intro v' w4 hown4 hg hv' hs4; go_wp2_with fail; go_roundw
     case rel =>
      refine ⟨k + 1, fp ++ fk, by omega, by go_num, ?_, ?_, ?_⟩
      ·rw [HS.out, zdD]; simpa using hown4
      ·exact ((Fresh.app (hfr.below hb2) hfr.lt hz (hfk.mono (by simp))).below (za _ _)).same hs4
      ·exact zh ((hb.trans (hb2.mono hz)).alloc (by omega) _) hg (by simp; omega) (fun k hk => (hown.block hk).1)
     case measure => simp [intOf]; omega
   ·rw [zaY hin, List.append_nil] at hsuc
    have HS := zdH hsuc; clear hsuc
    have hno : (decide ((0 : Int) ≤ ats[k]) && decide (ats[k] ≤ (xs.length : Int) - 1)) = false := by rw [Bool.eq_false_iff]; simp; omega
    clear hin; go_wp2_with fail; refine (zbI _ _ _ _).mono ?_; rintro e wq ⟨rfl, rfl⟩; go_wp2_with fail; go_roundw
    case rel => exact ⟨k + 1, fp, by omega, by go_num, by rw [HS.out]; exact hown, hfr, hb⟩
    case measure => simp [intOf]; omega
  ·have he : ats.take k = ats := zdK (by omega)
   rw [he] at hown; go_wp2_with fail; go_ret; obtain ⟨fp', h1, h2, _⟩ := hown.fresh hfr; exact ⟨_, fp', rfl, h1, h2, hb⟩
theorem zcG (xs : List Fm) (ats : List Int) (v u : Value) (fp0 fq : List Nat) (w : World) (hbig : xs.length + wtR (xs.map Fm.cd) ≤ 1048576) (hbt : ats.length ≤ 1048576) (hv : Rd w (.sl (xs.map Fm.cd)) v fp0) (hu : Rd w (.sl (ats.map zm)) u fq) :
  Calls Try.prog 7 #[v, u] w (zbA (.sl ((zH xs ats).map Fm.cd)) w) := by
 obtain ⟨p, q, rfl, hd1, hd2⟩ := zc hu; go_enter Try.func7, Try.ntmps7; go_wp2_with fail; refine (zbr xs _ _ _ (by omega) hv).mono ?_; rintro e w1 ⟨kv, f1, rfl, hv1, _, hb1⟩; clear hv; have hv := hv1; have hu1 := hu.below hb1; clear hu hv1; have hu := hu1; clear hu1; obtain ⟨a, cap, rfl, hc1, hc2⟩ := zc hv; go_wp2_with fail
 go_loopw [5, 6] (fun ov i wr => ∃ (k : Nat) (fp : List Nat), k ≤ ats.length ∧ i = .int .i64 k ∧ Own wr w1.heap.size 37 12 ov ((zH xs (ats.take k)).map Fm.cd) fp ∧ Fresh w1.heap.size wr fp ∧ Below w1.heap.size w1 wr) (fun _ i _ => ats.length - (intOf i).toNat)
 case atStart => first | exact ⟨0, [], zdR _, rfl, Own.nil _ _ _ _, Fresh.nil _ _, zdT _ _⟩ | exact ⟨0, [], zdR _, rfl, by exact Own.empty _ _ _ _ (zdI _), Fresh.nil _ _, (zdT _ _).alloc (zdI _) _⟩
 case round =>
  obtain ⟨k, fp, hkl, rfl, hown, hfr, hb⟩ := hrel; have hz := hb.size
  by_cases hlt : k < ats.length
  ·obtain ⟨b2, off2, rfl, hbs2, _⟩ := zo hu (by omega)
   obtain ⟨q0, hri⟩ := zS (hu.below hb) hlt
   have hbz2 : b2 < wr.heap.size := by omega
   have hsuc := zan xs ats k hlt
   have hl : ((zH xs (ats.take k)).map Fm.cd).length ≤ ats.length := by have := zaQ xs (ats.take k); simp only [zdF, List.length_take] at this ⊢; omega
   have hs1 : IntKind.i64.wrap ((xs.length : Int) - 1) = (xs.length : Int) - 1 := by rw [IntWalk.i64_in _ (by omega)]
   by_cases hin : 0 ≤ ats[k] ∧ ats[k] < (xs.length : Int)
   ·obtain ⟨j, hj⟩ := Int.eq_ofNat_of_zero_le hin.1
    have hjl : j < xs.length := by omega
    rw [zav hj hjl] at hsuc; have HS := zdH hsuc; rw [hj] at q0 hri; clear hsuc hin hj
    have hin : (decide ((0 : Int) ≤ (j : Int)) && decide ((j : Int) ≤ (xs.length : Int) - 1)) = true := by simp; omega
    obtain ⟨b, off, rfl, hbs, _⟩ := zo hv (by omega); obtain ⟨a3, c3, f3, a5, c5, f5, a6, c6, f6, a7, c7, f7, a11, c11, f11, d0, d1, d2, d3, d4, d5, d6, d7, d8, d9, d10, d11, m0, m1, m2, m3, m4, m5, m6, m7, m8, m9, _⟩ := Fm.at (hv.below hb) hjl
    have hbz : b < wr.heap.size := by omega
    have hle := zL Fm.cd xs (j + 1); rw [zK Fm.cd xs j hjl] at hle; go_wp2_with fail; refine (zb5 xs[j] _ _ _ (by omega) (by exact Fm.close m0 m1 m2 m3 m4 m5 m6 m7 m8 m9)).mono ?_; rintro e w2 ⟨kv, fk, rfl, hrk, hfk, hb2⟩; obtain ⟨b3, e3, g3, b5, e5, g5, b6, e6, g6, b7, e7, g7, b11, e11, g11, rfl, -, n0, n1, n2, n3, n4, n5, n6, n7, n8, n9⟩ := Fm.open hrk; have hz2 := hb2.size; have hown2 := (hown.below (hb2.alloc hz2 (.cells (yTa xs[j] b3 e3 b5 e5 b6 e6 b7 e7 b11 e11) 37))); have hrk2 := hrk.below (za w2 (.cells (yTa xs[j] b3 e3 b5 e5 b6 e6 b7 e7 b11 e11) 37)); go_wp2_with (at_builtin; refine zp zG rfl _ _ rfl w1.heap.size _ _ _ rfl hown2 ⟨w2.heap.size, 0, none⟩ 1 1 [xs[j].cd] (yTl xs[j] b3 e3 b5 e5 b6 e6 b7 e7 b11 e11) fk rfl rfl ?rd ?k ?cells ?na ?bytes ?len ?base ?next)
    case rd => simpa using hrk2
    case k => simp [Fm.cd_len]
    case cells => exact zl _ _ _
    case na => exact hown.away (by simp) hfk
    case bytes => omega
    case len => omega
    case base => simp; omega
    case next =>
     intro v' w4 hown4 hg hv' hs4; go_wp2_with fail; go_roundw
     case rel =>
      refine ⟨k + 1, fp ++ fk, by omega, by go_num, ?_, ?_, ?_⟩
      ·rw [HS.out, zdD]; simpa using hown4
      ·exact ((Fresh.app (hfr.below hb2) hfr.lt hz (hfk.mono (by simp))).below (za _ _)).same hs4
      ·exact zh ((hb.trans (hb2.mono hz)).alloc (by omega) _) hg (by simp; omega) (fun k hk => (hown.block hk).1)
     case measure => simp [intOf]; omega
   ·rw [zaY hin, List.append_nil] at hsuc
    have HS := zdH hsuc; clear hsuc
    by_cases h0 : 0 ≤ ats[k]
    ·have h1 : ¬ ats[k] < (xs.length : Int) := fun h => hin ⟨h0, h⟩
     clear hin; go_wp2_with fail; go_roundw
     case rel => exact ⟨k + 1, fp, by omega, by go_num, by rw [HS.out]; exact hown, hfr, hb⟩
     case measure => simp [intOf]; omega
    ·clear hin
     go_wp2_with fail; go_roundw
     case rel => exact ⟨k + 1, fp, by omega, by go_num, by rw [HS.out]; exact hown, hfr, hb⟩
     case measure => simp [intOf]; omega
  ·have he : ats.take k = ats := zdK (by omega)
   rw [he] at hown; go_wp2_with fail; go_ret; obtain ⟨fp', h1, h2, _⟩ := hown.fresh hfr; exact ⟨_, fp', rfl, h1, h2.mono hb1.size, hb1.trans (hb.mono hb1.size)⟩
end Go.Proofs.Ytbfinjiledfpcaa
