/- For all bytes that come in, the law FnFormAtoms returns true and leaves its arguments as they were; there is no condition. -/
import Derived.BigQuiet
import Derived.Test.YtbfinjiledfpcaaGreatPa38
import Derived.Test.YtbfinjiledfpcaaGreatPa50
import Derived.Test.YtbfinjiledfpcaaGreatRows
import Derived.WalkKit
import Derived.ProofKit
import Derived.OpenShut
import Derived.ShutString
import Derived.ChangeOld
import Derived.Below
import Derived.Test.YtbfinjiledfpcaaGreatPa45
namespace Go.Proofs.YtbfinjiledfpcaaGreat
open Go Go.RowKit
set_option linter.unusedVariables false
set_option linter.unusedSimpArgs false
theorem nodup_at {T : List Atm} (h : T.Nodup) {k j : Nat} (hk : k < T.length) (hj : j < k) : eqV T[k].cd (T[j]'(by omega)).cd = false := by
 cases he : eqV T[k].cd (T[j]'(by omega)).cd with
 | false => rfl
 | true =>
  rw [zaa] at he
  exact absurd (Atm.cd_inj8 _ _ he) (Ne.symm (List.pairwise_iff_getElem.1 h j k (by omega) hk hj))
mutual
theorem Fm.has_ne : ∀ (f : Fm) (d : Nat) (l : List Atm), Fm.shape d f = true → Fm.has l f = true → 1 ≤ l.length
 | .mk kind lit kids, d, l, hs, hh => by
  obtain ⟨_, hn, hk⟩ := Fm.shape_parts hs
  have hn' : Fm.nk kind = (kids.length : Int) := hn
  by_cases h1 : kind = 1
  ·have h2 : hasA l lit.atom = true := Fm.has_lit hh h1
   exact List.length_pos_of_mem (zdm.1 h2)
  ·have ha : ∀ x ∈ kids, Fm.shape (d - 1) x = true := hk h1
   have hb : ∀ x ∈ kids, Fm.has l x = true := Fm.has_kids hh h1
   have h0 : kids ≠ [] := fun e => by
    subst e
    exact h1 (Fm.nk_zero.1 (by simpa using hn'))
   exact Fm.has_nes kids (d - 1) l h0 (by rw [Fm.shapes_all, List.all_eq_true]; exact ha) (by rw [Fm.hass_all, List.all_eq_true]; exact hb)
theorem Fm.has_nes : ∀ (ks : List Fm) (d : Nat) (l : List Atm), ks ≠ [] → Fm.shapes d ks = true → Fm.hass l ks = true → 1 ≤ l.length
 | [], d, l, h, _, _ => absurd rfl h
 | k :: ks, d, l, _, hs, hh => by
  simp only [Fm.shapes, Fm.hass, zfp] at hs hh
  exact Fm.has_ne k d l hs.1 hh.1
end
theorem ze9 (f : Fm) : f.atomsF.length ≤ 6 := by
 unfold Fm.atomsF
 split
 ·rename_i h; exact okF_len h
 ·simp
theorem zen (f : Fm) : f.atomsF.Nodup := by
 unfold Fm.atomsF
 split
 ·exact Fm.add_once f [] List.nodup_nil
 ·exact List.nodup_nil
theorem zfa (f : Fm) : wtR (f.atomsF.map Atm.cd) ≤ wtV f.cd := by
 unfold Fm.atomsF
 split
 ·have h1 := Fm.add_wt f []
  simp only [List.map_nil, wtR, Nat.zero_add] at h1
  exact h1
 ·simp [wtR]
theorem okIn_told {s : Sg} {f : Fm} (h : f.okIn s = true) : 1 ≤ f.atomsF.length ∧ zax s (zx f.atomsF) = true := by
 have h1 : f.okF = true := by
  cases hk : f.okF with
  | true => rfl
  | false => rw [Fm.okIn_no hk] at h; simp at h
 rw [Fm.okIn_yes h1] at h
 rw [Fm.atomsF_yes h1]
 exact ⟨Fm.has_ne f 5 _ (Fm.okF_shape h1) (Fm.okF_has h1), h⟩
set_option maxRecDepth 100000 in
set_option maxHeartbeats 8000000 in
theorem zcs (v : Value) (w : World) (hv : Byts w v) :
  Calls Tryz.prog 3 #[v] w fun e w' => e = .returned (.bool true) ∧ Below w.heap.size w w' := by
 have hv0 := hv
 obtain ⟨a9, n, cap, rfl, hn1, hn2, _⟩ := hv
 by_cases hlen : n ≤ 1048576
 rotate_left
 ·have hlb0 : decide ((1048576 : Int) < (n : Int)) = true := decide_eq_true (by omega)
  go_enter Tryz.func3, Tryz.ntmps3
  go_wp2_with fail
  go_ret
  exact ⟨rfl, Below.refl _ _⟩
 have hlb0 : decide ((1048576 : Int) < (n : Int)) = false := decide_eq_false (by omega)
 go_enter Tryz.func3, Tryz.ntmps3
 go_wp2_with fail
 refine (zcy _ _ hv0).mono ?_
 rintro e w1 ⟨⟨s, f, a0, c0, b3, d3, b5, d5, b6, d6, b7, d7, b11, d11, sf, ff, hwf, rfl, hrs, hrf⟩, hB⟩
 go_upto_region 4 with fail
 obtain ⟨F, hF⟩ : ∃ F, F = w1.heap.size := ⟨_, rfl⟩
 obtain ⟨G, hG⟩ : ∃ G, G = F + 1 := ⟨_, rfl⟩
 have hX := (Box.new w1 [.slice a0 s.syms.length c0] 25).alloc (.cells #[.int .i64 f.kind, .int .i64 f.lit.atom.kind, .string f.lit.atom.a.name, .slice b3 f.lit.atom.a.kids.length d3, .string f.lit.atom.b.name, .slice b5 f.lit.atom.b.kids.length d5, .slice b6 f.lit.atom.nums.length d6, .slice b7 f.lit.atom.times.length d7, .int .i64 f.lit.atom.bound, .bool f.lit.atom.strict, .bool f.lit.no, .slice b11 f.kids.length d11] 36)
 have hY := Box.new (w1.alloc (.cells #[.slice a0 s.syms.length c0] 25)) [.int .i64 f.kind, .int .i64 f.lit.atom.kind, .string f.lit.atom.a.name, .slice b3 f.lit.atom.a.kids.length d3, .string f.lit.atom.b.name, .slice b5 f.lit.atom.b.kids.length d5, .slice b6 f.lit.atom.nums.length d6, .slice b7 f.lit.atom.times.length d7, .int .i64 f.lit.atom.bound, .bool f.lit.atom.strict, .bool f.lit.no, .slice b11 f.kids.length d11] 36
 rw [World.size_alloc] at hY
 rw [← hF, ← hG] at hY
 rw [← hF] at hX ⊢
 try rw [← hG]
 have hba : Below w1.heap.size w1 ((w1.alloc (.cells #[.slice a0 s.syms.length c0] 25)).alloc (.cells #[.int .i64 f.kind, .int .i64 f.lit.atom.kind, .string f.lit.atom.a.name, .slice b3 f.lit.atom.a.kids.length d3, .string f.lit.atom.b.name, .slice b5 f.lit.atom.b.kids.length d5, .slice b6 f.lit.atom.nums.length d6, .slice b7 f.lit.atom.times.length d7, .int .i64 f.lit.atom.bound, .bool f.lit.atom.strict, .bool f.lit.no, .slice b11 f.kids.length d11] 36)) := ((Below.refl _ _).alloc (Nat.le_refl _) _).alloc (by simp) _
 replace hrs := hrs.below hba
 replace hrf := hrf.below hba
 replace hB := hB.trans (hba.mono hB.size)
 clear hba hF hG
 generalize (w1.alloc (.cells #[.slice a0 s.syms.length c0] 25)).alloc (.cells #[.int .i64 f.kind, .int .i64 f.lit.atom.kind, .string f.lit.atom.a.name, .slice b3 f.lit.atom.a.kids.length d3, .string f.lit.atom.b.name, .slice b5 f.lit.atom.b.kids.length d5, .slice b6 f.lit.atom.nums.length d6, .slice b7 f.lit.atom.times.length d7, .int .i64 f.lit.atom.bound, .bool f.lit.atom.strict, .bool f.lit.no, .slice b11 f.kids.length d11] 36) = W at *
 obtain ⟨T, hT⟩ : ∃ T, T = f.atomsF := ⟨_, rfl⟩
 have hT6 := ze9 f
 have hTN := zen f
 have hTW := zfa f
 obtain ⟨ok, HI⟩ : ∃ a, Hid (f.okIn s = a) := ⟨_, Lib.hid rfl⟩
 have HOK : Hid (ok = true → 1 ≤ T.length ∧ zax s (zx T) = true) := Lib.hid (fun h => by rw [hT]; exact okIn_told (HI.out.trans h))
 have y0 := hY.2.1 0 _ rfl
 have y1 := hY.2.1 1 _ rfl
 have y2 := hY.2.1 2 _ rfl
 have y3 := hY.2.1 3 _ rfl
 have y4 := hY.2.1 4 _ rfl
 have y5 := hY.2.1 5 _ rfl
 have y6 := hY.2.1 6 _ rfl
 have y7 := hY.2.1 7 _ rfl
 have y8 := hY.2.1 8 _ rfl
 have y9 := hY.2.1 9 _ rfl
 have y10 := hY.2.1 10 _ rfl
 have y11 := hY.2.1 11 _ rfl
 go_wp2_with fail
 refine (zdd f _ _ _ (by omega) (by exact hrf)).mono ?_
 rintro e w2 ⟨tv, tf, rfl, htr, _, hb2⟩
 rw [← hT] at htr hT6 hTN hTW
 have HTN := Lib.hid hTN
 clear hTN
 replace hX := hX.below hb2
 replace hY := hY.below hb2
 replace hrs := hrs.below hb2
 replace hrf := hrf.below hb2
 replace hB := hB.trans (hb2.mono hB.size)
 clear hb2
 clear y0 y1 y2 y3 y4 y5 y6 y7 y8 y9 y10 y11
 have y0 := hY.2.1 0 _ rfl
 have y1 := hY.2.1 1 _ rfl
 have y2 := hY.2.1 2 _ rfl
 have y3 := hY.2.1 3 _ rfl
 have y4 := hY.2.1 4 _ rfl
 have y5 := hY.2.1 5 _ rfl
 have y6 := hY.2.1 6 _ rfl
 have y7 := hY.2.1 7 _ rfl
 have y8 := hY.2.1 8 _ rfl
 have y9 := hY.2.1 9 _ rfl
 have y10 := hY.2.1 10 _ rfl
 have y11 := hY.2.1 11 _ rfl
 go_wp2_with fail
 refine (zcw f _ _ _ (by omega) (by exact hrf)).mono ?_
 rintro e w3 ⟨uv, uf, rfl, hur, _, hb3⟩
 rw [← hT] at hur
 clear hT
 replace hX := hX.below hb3
 replace hY := hY.below hb3
 replace hrs := hrs.below hb3
 replace hrf := hrf.below hb3
 replace htr := htr.below hb3
 replace hB := hB.trans (hb3.mono hB.size)
 clear hb3
 clear y0 y1 y2 y3 y4 y5 y6 y7 y8 y9 y10 y11
 obtain ⟨ta, tc, rfl, ht1, ht2⟩ := ze htr
 obtain ⟨ua, uc, rfl, hu1, hu2⟩ := ze hur
 have hnn : ((T.length : Int) != (T.length : Int)) = false := by simp
 have y0 := hY.2.1 0 _ rfl
 have y1 := hY.2.1 1 _ rfl
 have y2 := hY.2.1 2 _ rfl
 have y3 := hY.2.1 3 _ rfl
 have y4 := hY.2.1 4 _ rfl
 have y5 := hY.2.1 5 _ rfl
 have y6 := hY.2.1 6 _ rfl
 have y7 := hY.2.1 7 _ rfl
 have y8 := hY.2.1 8 _ rfl
 have y9 := hY.2.1 9 _ rfl
 have y10 := hY.2.1 10 _ rfl
 have y11 := hY.2.1 11 _ rfl
 have x0 := hX.2.1 0 _ rfl
 have ho1 : (ok != ok) = false := by cases ok <;> rfl
 go_wp2_with fail
 have qy0 := cell_regrown y0
 have qy1 := cell_regrown y1
 have qy2 := cell_regrown y2
 have qy3 := cell_regrown y3
 have qy4 := cell_regrown y4
 have qy5 := cell_regrown y5
 have qy6 := cell_regrown y6
 have qy7 := cell_regrown y7
 have qy8 := cell_regrown y8
 have qy9 := cell_regrown y9
 have qy10 := cell_regrown y10
 have qy11 := cell_regrown y11
 have qx0 := cell_regrown x0
 have ho1 : (ok != ok) = false := by cases ok <;> rfl
 refine wp_region_quiet_below (by kernel_rfl) (by kernel_rfl) ?_
 repeat (go_big_quiet_step (with_reducible refine Calls.regrown_of (by first | exact zcO s f _ _ _ _ _ (by omega) (hrs.below (below_regrown _ _ _)) (hrf.below (below_regrown _ _ _)) | exact zcn s f _ _ _ _ _ (by omega) (hrs.below (below_regrown _ _ _)) (hrf.below (below_regrown _ _ _)))))
 refine wpQuiet_nil ?_
 intro w4 hq9
 obtain ⟨⟨dq, osq⟩, hq9⟩ := hq9
 have hb9 : Below w3.heap.size w3 w4 := hq9 ▸ below_regrown w3 dq osq
 clear hq9
 clear qx0 qy0 qy1 qy2 qy3 qy4 qy5 qy6 qy7 qy8 qy9 qy10 qy11 y0 y1 y2 y3 y4 y5 y6 y7 y8 y9 y10 y11 x0
 replace hX := hX.below hb9
 replace hY := hY.below hb9
 replace hrs := hrs.below hb9
 replace hrf := hrf.below hb9
 replace htr := htr.below hb9
 replace hur := hur.below hb9
 replace hB := hB.trans (hb9.mono hB.size)
 clear hb9
 rw [HI.out]
 try rw [ho1]
 have hfl := htr.lt
 obtain ⟨E, hE⟩ : ∃ E, E = w4.heap.size := ⟨_, rfl⟩
 have hO := Own.empty w4 E 33 10 (by omega)
 rw [← hE] at hO
 have hlE : ∀ b ∈ tf, b < E := fun b hb => by rw [hE]; exact hfl b hb
 have hluE : ∀ b ∈ uf, b < E := fun b hb => by rw [hE]; exact hur.lt _ b hb
 have hsE : ∀ b ∈ sf, b < E := fun b hb => by rw [hE]; exact hrs.lt _ b hb
 have hfE : ∀ b ∈ ff, b < E := fun b hb => by rw [hE]; exact hrf.lt _ b hb
 have hFE : F < E := by rw [hE]; exact hX.1
 have hGE : G < E := by rw [hE]; exact hY.1
 have hwE : w.heap.size ≤ E := by have := hB.size; omega
 go_upto_region 9 with fail
 have hba := zc w4 (.cells #[] 33)
 try rw [← hE]
 replace hX := hX.below hba
 replace hY := hY.below hba
 replace hrs := hrs.below hba
 replace hrf := hrf.below hba
 replace htr := htr.below hba
 replace hur := hur.below hba
 replace hB := hB.trans (hba.mono hB.size)
 clear hba hE hfl
 generalize w4.alloc (.cells #[] 33) = w5 at *
 have hzE : E < w5.heap.size := by have := (hO.block (b := E) rfl).2; exact this
 go_wp2_with fail
 go_loopw [7, 8] (fun lv iv wr => ∃ (k : Nat) (fp : List Nat), k ≤ T.length ∧ iv = .int .i64 k ∧ Own wr E 33 10 lv ((zx (T.take k)).map Lt.cd) fp ∧ Below E w5 wr) (fun _ iv _ => T.length - (intOf iv).toNat)
 case atStart => exact ⟨0, [], Nat.zero_le _, rfl, hO, Below.refl _ _⟩
 case round =>
  clear hO
  obtain ⟨k, fp, hk, rfl, hown, hb⟩ := hrel
  obtain ⟨oa, on, oc, rfl⟩ := hown.form'
  have hz := hb.size
  have htr1 := htr.same _ (zO hb hlE)
  by_cases hlt : k < T.length
  ·have hur1 := hur.same _ (zO hb hluE)
   obtain ⟨b1, o1, rfl, hbs1, _⟩ := zk htr1 (by omega)
   obtain ⟨b2, o2, rfl, hbs2, _⟩ := zk hur1 (by omega)
   obtain ⟨xa2, xc2, xf2, xa4, xc4, xf4, xa5, xc5, xf5, xa6, xc6, xf6, xd0, xd1, xd2, xd3, xd4, xd5, xd6, xd7, xd8, xm0, xm1, xm2, xm3, xm4, xm5, xm6, xm7, xhs⟩ := Atm.at (htr1) hlt
   obtain ⟨ya2, yc2, yf2, ya4, yc4, yf4, ya5, yc5, yf5, ya6, yc6, yf6, yd0, yd1, yd2, yd3, yd4, yd5, yd6, yd7, yd8, ym0, ym1, ym2, ym3, ym4, ym5, ym6, ym7, yhs⟩ := Atm.at (hur1) hlt
   have hsubx := xhs
   have he : eqV T[k].cd T[k].cd = true := by rw [zaa]
   have HE := Lib.hid he
   clear he
   go_wp2_with fail
   have xq0 := cell_regrown xd0
   have xq1 := cell_regrown xd1
   have xq2 := cell_regrown xd2
   have xq3 := cell_regrown xd3
   have xq4 := cell_regrown xd4
   have xq5 := cell_regrown xd5
   have xq6 := cell_regrown xd6
   have xq7 := cell_regrown xd7
   have xq8 := cell_regrown xd8
   have yq0 := cell_regrown yd0
   have yq1 := cell_regrown yd1
   have yq2 := cell_regrown yd2
   have yq3 := cell_regrown yd3
   have yq4 := cell_regrown yd4
   have yq5 := cell_regrown yd5
   have yq6 := cell_regrown yd6
   have yq7 := cell_regrown yd7
   have yq8 := cell_regrown yd8
   refine wp_region_quiet_below (by kernel_rfl) (by kernel_rfl) ?_
   repeat (quiet_step (refine Calls.regrown_of (za0 T[k] T[k] _ _ _ _ _ ((Atm.close xm0 xm1 xm2 xm3 xm4 xm5 xm6 xm7).below (below_regrown _ _ _)) ((Atm.close ym0 ym1 ym2 ym3 ym4 ym5 ym6 ym7).below (below_regrown _ _ _)))))
   refine wpQuiet_nil ?_
   intro wq9 hq9
   obtain ⟨⟨dq, osq⟩, hq9⟩ := hq9
   have hb9 : Below wr.heap.size wr wq9 := hq9 ▸ below_regrown wr dq osq
   clear hq9
   clear xq0 yq0 xq1 yq1 xq2 yq2 xq3 yq3 xq4 yq4 xq5 yq5 xq6 yq6 xq7 yq7 xq8 yq8
   rw [HE.out]
   simp only [Bool.not_true]
   obtain ⟨wA, rfl⟩ : ∃ x, x = wr := ⟨_, rfl⟩
   have hown2 := hown.below hb9
   have hb2 := hb.trans (hb9.mono (by omega))
   have htr2 := htr1.below hb9
   have hz2 := hb2.size
   clear hown htr1 hur1 xd0 xd1 xd2 xd3 xd4 xd5 xd6 xd7 xd8 xm0 xm1 xm2 xm3 xm4 xm5 xm6 xm7 xhs hsubx yd0 yd1 yd2 yd3 yd4 yd5 yd6 yd7 yd8 yhs ym0 ym1 ym2 ym3 ym4 ym5 ym6 ym7
   go_wp2_with fail
   go_loopw [9] (fun jv wq => ∃ j : Nat, j ≤ k ∧ jv = .int .i64 j ∧ Below wq9.heap.size wq9 wq) (fun jv _ => k - (intOf jv).toNat)
   case atStart => exact ⟨0, Nat.zero_le _, rfl, Below.refl _ _⟩
   case round =>
    obtain ⟨j, hj, rfl, hbj⟩ := hrel
    have hzj := hbj.size
    obtain ⟨xa2, xc2, xf2, xa4, xc4, xf4, xa5, xc5, xf5, xa6, xc6, xf6, xd0, xd1, xd2, xd3, xd4, xd5, xd6, xd7, xd8, xm0, xm1, xm2, xm3, xm4, xm5, xm6, xm7, xhs⟩ := Atm.at (htr2.below hbj) hlt
    by_cases hjl : j < k
    ·have hjd : decide ((j : Int) < (k : Int)) = true := decide_eq_true (by omega)
     have hjT : j < T.length := by omega
     obtain ⟨ya2, yc2, yf2, ya4, yc4, yf4, ya5, yc5, yf5, ya6, yc6, yf6, yd0, yd1, yd2, yd3, yd4, yd5, yd6, yd7, yd8, ym0, ym1, ym2, ym3, ym4, ym5, ym6, ym7, yhs⟩ := Atm.at (htr2.below hbj) hjT
     have HN := Lib.hid (nodup_at HTN.out hlt hjl)
     go_wp2_with fail
     have xq0 := cell_regrown xd0
     have xq1 := cell_regrown xd1
     have xq2 := cell_regrown xd2
     have xq3 := cell_regrown xd3
     have xq4 := cell_regrown xd4
     have xq5 := cell_regrown xd5
     have xq6 := cell_regrown xd6
     have xq7 := cell_regrown xd7
     have xq8 := cell_regrown xd8
     have yq0 := cell_regrown yd0
     have yq1 := cell_regrown yd1
     have yq2 := cell_regrown yd2
     have yq3 := cell_regrown yd3
     have yq4 := cell_regrown yd4
     have yq5 := cell_regrown yd5
     have yq6 := cell_regrown yd6
     have yq7 := cell_regrown yd7
     have yq8 := cell_regrown yd8
     refine wp_region_quiet_below (by kernel_rfl) (by kernel_rfl) ?_
     repeat (quiet_step (refine Calls.regrown_of (za0 T[k] T[j] _ _ _ _ _ ((Atm.close xm0 xm1 xm2 xm3 xm4 xm5 xm6 xm7).below (below_regrown _ _ _)) ((Atm.close ym0 ym1 ym2 ym3 ym4 ym5 ym6 ym7).below (below_regrown _ _ _)))))
     refine wpQuiet_nil ?_
     intro wq9 hq9
     obtain ⟨⟨dq, osq⟩, hq9⟩ := hq9
     have hb9 : Below wr.heap.size wr wq9 := hq9 ▸ below_regrown wr dq osq
     clear hq9
     clear xq0 yq0 xq1 yq1 xq2 yq2 xq3 yq3 xq4 yq4 xq5 yq5 xq6 yq6 xq7 yq7 xq8 yq8
     rw [HN.out]
     go_wp2_with fail
     go_roundw
     case rel => exact ⟨j + 1, by omega, by go_num, hbj.trans (hb9.mono hzj)⟩
     case measure => simp [intOf]; omega
    ·have hjd : decide ((j : Int) < (k : Int)) = false := decide_eq_false (by omega)
     obtain ⟨wB, rfl⟩ : ∃ x, x = wr := ⟨_, rfl⟩
     have hown3 := hown2.below hbj
     have hb3 := hb2.trans (hbj.mono (by omega))
     have hbA := zc wB (.cells #[.int .i64 T[k].kind, .string T[k].a.name, .slice xa2 T[k].a.kids.length xc2, .string T[k].b.name, .slice xa4 T[k].b.kids.length xc4, .slice xa5 T[k].nums.length xc5, .slice xa6 T[k].times.length xc6, .int .i64 T[k].bound, .bool T[k].strict, .bool false] 33)
     have hl : ((zx (T.take k)).map Lt.cd).length = k := by simp [zx]; omega
     have hnews : RdVs wB [(za1 T[k]).cd].flatten [.int .i64 T[k].kind, .string T[k].a.name, .slice xa2 T[k].a.kids.length xc2, .string T[k].b.name, .slice xa4 T[k].b.kids.length xc4, .slice xa5 T[k].nums.length xc5, .slice xa6 T[k].times.length xc6, .int .i64 T[k].bound, .bool T[k].strict, .bool false] (xf2 ++ (xf4 ++ (xf5 ++ xf6))) := by
      have := Lt.close (x := za1 T[k]) xm0 xm1 xm2 xm3 xm4 xm5 xm6 xm7
      simpa [za1] using this
     have hne : ∀ y ∈ xf2 ++ (xf4 ++ (xf5 ++ xf6)), (Value.slice oa on oc).ownBlock ≠ some y := fun y hy e => by have h1 := (hown3.block e).1; have h2 := hlE y (xhs y hy); omega
     have HT := Lib.hid (zbm T k hlt)
     go_wp2_with (at_builtin; refine zu zcV rfl _ _ rfl E _ _ _ rfl (hown3.below hbA) ⟨wB.heap.size, 0, none⟩ 1 1 [(za1 T[k]).cd] [.int .i64 T[k].kind, .string T[k].a.name, .slice xa2 T[k].a.kids.length xc2, .string T[k].b.name, .slice xa4 T[k].b.kids.length xc4, .slice xa5 T[k].nums.length xc5, .slice xa6 T[k].times.length xc6, .int .i64 T[k].bound, .bool T[k].strict, .bool false] (xf2 ++ (xf4 ++ (xf5 ++ xf6))) rfl rfl (hnews.below hbA) ?k ?cells ?na ?bytes ?len ?base ?next)
     case k => simp [Lt.cd, Atm.cd_len]
     case cells => exact zt _ _ _
     case na => exact hne
     case bytes => rw [hl]; omega
     case len => rw [hl]; omega
     case base => simp; omega
     case next =>
      intro v' w6 hown6 hg hv' hs6
      have hb6 := zi (hb3.trans (hbA.mono (by have := hb3.size; omega))) hg (by simp; omega) (fun q hq => (hown3.block hq).1)
      clear hl
      go_wp2_with fail
      go_roundw
      case rel => exact ⟨k + 1, _, by omega, by go_num, by rw [HT.out, zfm]; exact hown6, hb6⟩
      case measure => simp [intOf]; omega
  ·have he : T.take k = T := List.take_of_length_le (by omega)
   rw [he] at hown
   clear he
   obtain ⟨fl, hlr⟩ := hown.rd'
   have hrs1 := hrs.belowB hb hsE
   have hrf1 := hrf.belowB hb hfE
   have hX1 : Box [.slice a0 s.syms.length c0] F wr := ⟨by omega, fun j x hx => zq (hb.block _ hFE) (hX.2.1 j x hx), fun j => zG (hb.block _ hFE) (hX.2.2 j)⟩
   have hY1 : Box [.int .i64 f.kind, .int .i64 f.lit.atom.kind, .string f.lit.atom.a.name, .slice b3 f.lit.atom.a.kids.length d3, .string f.lit.atom.b.name, .slice b5 f.lit.atom.b.kids.length d5, .slice b6 f.lit.atom.nums.length d6, .slice b7 f.lit.atom.times.length d7, .int .i64 f.lit.atom.bound, .bool f.lit.atom.strict, .bool f.lit.no, .slice b11 f.kids.length d11] G wr := ⟨by omega, fun j x hx => zq (hb.block _ hGE) (hY.2.1 j x hx), fun j => zG (hb.block _ hGE) (hY.2.2 j)⟩
   have hBr := hB.trans (hb.mono hwE)
   have x0 := hX1.2.1 0 _ rfl
   have y0 := hY1.2.1 0 _ rfl
   have y1 := hY1.2.1 1 _ rfl
   have y2 := hY1.2.1 2 _ rfl
   have y3 := hY1.2.1 3 _ rfl
   have y4 := hY1.2.1 4 _ rfl
   have y5 := hY1.2.1 5 _ rfl
   have y6 := hY1.2.1 6 _ rfl
   have y7 := hY1.2.1 7 _ rfl
   have y8 := hY1.2.1 8 _ rfl
   have y9 := hY1.2.1 9 _ rfl
   have y10 := hY1.2.1 10 _ rfl
   have y11 := hY1.2.1 11 _ rfl
   have hlt' : ¬ ((k : Int) < (T.length : Int)) := by omega
   have h66 : decide ((T.length : Int) ≤ 6) = true := decide_eq_true (by omega)
   have hcl : ∀ W', RdVs W' s.cd [.slice a0 s.syms.length c0] sf → RdVs W' f.cd [.int .i64 f.kind, .int .i64 f.lit.atom.kind, .string f.lit.atom.a.name, .slice b3 f.lit.atom.a.kids.length d3, .string f.lit.atom.b.name, .slice b5 f.lit.atom.b.kids.length d5, .slice b6 f.lit.atom.nums.length d6, .slice b7 f.lit.atom.times.length d7, .int .i64 f.lit.atom.bound, .bool f.lit.atom.strict, .bool f.lit.no, .slice b11 f.kids.length d11] ff → Calls Tryz.prog 13 #[.agg #[.slice a0 s.syms.length c0], .agg #[.int .i64 f.kind, .int .i64 f.lit.atom.kind, .string f.lit.atom.a.name, .slice b3 f.lit.atom.a.kids.length d3, .string f.lit.atom.b.name, .slice b5 f.lit.atom.b.kids.length d5, .slice b6 f.lit.atom.nums.length d6, .slice b7 f.lit.atom.times.length d7, .int .i64 f.lit.atom.bound, .bool f.lit.atom.strict, .bool f.lit.no, .slice b11 f.kids.length d11]] W' fun e w' => e = .returned (.bool ok) ∧ Below W'.heap.size W' w' := fun W' h1 h2 => by
    have h3 := zcn s f _ _ _ _ W' (by omega) h1 h2
    rw [HI.out] at h3
    exact h3
   cases ok
   ·go_wp2_with fail
    refine (hcl _ (by exact hrs1) (by exact hrf1)).mono ?_
    rintro e w9 ⟨rfl, hb9⟩
    go_wp2_with fail
    go_ret
    exact ⟨rfl, hBr.trans (hb9.mono hBr.size)⟩
   ·obtain ⟨h11, hbo⟩ := HOK.out rfl
    have HBO := Lib.hid hbo
    have h16 : decide ((1 : Int) ≤ (T.length : Int)) = true := decide_eq_true (by omega)
    have hTT : Tm.sizes (zP (zx T)) ≤ 1000000000 := by have := zdl T; omega
    have hsm := zay (l := T) (by omega)
    have hcb : ∀ W', RdVs W' s.cd [.slice a0 s.syms.length c0] sf → Rd W' (.sl ((zx T).map Lt.cd)) (.slice oa on oc) fl → Calls Tryz.prog 15 #[.agg #[.slice a0 s.syms.length c0], .slice oa on oc] W' fun e w' => e = .returned (.bool true) ∧ Below W'.heap.size W' w' := fun W' h1 h2 => by
     have h3 := zbL s (zx T) _ _ _ _ W' hsm hTT h1 h2
     rw [HBO.out] at h3
     exact h3
    go_wp2_with fail
    refine (hcl _ (by exact hrs1) (by exact hrf1)).mono ?_
    rintro e w9 ⟨rfl, hb9⟩
    have hX9 := hX1.below hb9
    have x0' := hX9.2.1 0 _ rfl
    clear x0
    go_wp2_with fail
    refine (hcb _ (by exact hrs1.below hb9) (by exact hlr.below hb9)).mono ?_
    rintro e w8 ⟨rfl, hb8⟩
    go_wp2_with fail
    go_ret
    exact ⟨rfl, (hBr.trans (hb9.mono hBr.size)).trans (hb8.mono (by have := hBr.size; have := hb9.size; omega))⟩
end Go.Proofs.YtbfinjiledfpcaaGreat
namespace Go.Proofs.YtbfinjiledfpcaaGreat.fnFormAtoms
open Go Go.ChangeShapes Go.WideShapes Go.ChangeAt Go.RowKit
set_option linter.unusedVariables false
theorem own : ownKnob Tryz.prog.godebug = none := by kernel_rfl
theorem laidOut : laidOutB Tryz.prog = true := by kernel_rfl
set_option maxRecDepth 100000 in
theorem lifted (os : Os) (started : os.Started) (H : Type) (enc : TypeId × Value → H) :
  ReturnsInHanded {} Tryz.checked os 3 .any (Rows.fnFormAtomsSpec.pre6 enc Tryz.prog Tryz.f3 Rows.fnFormAtomsRow.domain false) (Rows.fnFormAtomsSpec.post enc Tryz.prog Tryz.f3 false true false false) := by
 refine returnsInHanded_of_change (C := Tryz.checked) own started (by kernel_rfl) Tryz.func3
  (ChangeSpec.witness6 (enc := enc) (C := Tryz.checked) false ⟨#[], #[.slice none 0 0], []⟩ 8 (by kernel_rfl) (by kernel_rfl) (by kernel_rfl) (by kernel_rfl)) ?_
 intro W base args ds gs before hval0 hW hcnd _
 have hval : ∀ (j : Nat) t v, Tryz.f3.params[j]? = some t → args[j]? = some v → Value.okWide Tryz.prog W .any base t v := hval0
 have hW' := hW
 obtain ⟨p, q, hA0, hV, rfl, hfz, hnd⟩ := hW
 have hA : DataW.TrodAll enc Tryz.prog W 0 (fun _ => true) true Tryz.f3.params.toList args.toList ds p := hA0
 rw [Tryz.params3] at hA hval
 obtain ⟨v0, vs0, d0, ds0, p0, q0, hargs, rfl, rfl, h0, r0⟩ := trodAll_cons hA
 obtain ⟨rfl, rfl, rfl⟩ := trodAll_nil r0
 obtain rfl : args = #[v0] := by cases args; simp_all
 obtain ⟨rfl, rfl⟩ := trodVars_none hV
 obtain ⟨a0, len0, cap0, rfl⟩ := okWide_slice Tryz.underlying22 (hval 0 22 v0 rfl rfl)
 have k0 := h0
 have lt0 : ∀ x ∈ p0, x.block < W.heap.size := by obtain ⟨m, hm⟩ := k0; exact DataW.trod_lt m _ _ _ hm
 have hr0 : Byts W (.slice a0 len0 cap0) := by
  obtain ⟨fuel, hf⟩ := h0
  obtain ⟨v, hv, hr⟩ := zb9 fuel _ _ hf
  exact list1 hv ▸ hr
 clear hA0 hval0
 have hwalk := zcs _ W hr0
 refine hwalk.mono fun e W' ⟨he, bel⟩ => ?_
 subst he
 exact ⟨_, rfl, _, _, _, [], _, [], hW', trodAll_mk1 (shut_bool Tryz.underlying4 _), (trodAll_cons_mk (Below.trod laidOut (by kernel_rfl) (of_decide_eq_true (by kernel_rfl)) k0 bel lt0) trodAll_mk0), rfl, bel.frame _, fun h => by cases h⟩
theorem named : Tryz.pinned.checked.prog.funcNamed Rows.fnFormAtomsRow.func = some 3 := by kernel_rfl
theorem and2 {a b : Bool} (h : a = true) (h' : b = true) : (a && b) = true := by rw [h, h']; rfl
set_option maxHeartbeats 8000000 in
theorem closed : joinedFacts Tryz.pinned.checked.prog 3 Tryz.f3 Rows.fnFormAtomsSpec Rows.fnFormAtomsRow = true := by
 unfold joinedFacts
 repeat' (with_reducible refine and2 ?_ ?_)
 all_goals (as_aux_lemma => kernel_rfl)
theorem plain : Tryz.f3.isInstance Tryz.pinned.checked.prog Rows.fnFormAtomsRow.origin Rows.fnFormAtomsRow.targs := of_decide_eq_true (by kernel_rfl)
theorem bare : Tryz.f3.isWrapper Tryz.pinned.checked.prog Rows.fnFormAtomsRow.wrapper Rows.fnFormAtomsRow.mainSum := by unfold Func.isWrapper; first | (rw [if_pos (by decide +kernel)]; kernel_rfl) | (rw [if_neg (by decide +kernel)]; exact ⟨rfl, rfl⟩)
theorem over : Rows.fnFormAtomsRow.holds Tryz.pinned (OpenSpec.ofChange Rows.fnFormAtomsSpec) :=
 OpenClaim.holds_of_wide 3 Tryz.f3 rfl rfl rfl rfl rfl rfl rfl ⟨rfl, rfl, rfl, rfl, rfl⟩ rfl rfl rfl rfl rfl named Tryz.func3 closed plain bare
  (fun os started H enc _ => lifted os started H enc)
theorem proved : Rows.FnFormAtomsSaid := over
end Go.Proofs.YtbfinjiledfpcaaGreat.fnFormAtoms
