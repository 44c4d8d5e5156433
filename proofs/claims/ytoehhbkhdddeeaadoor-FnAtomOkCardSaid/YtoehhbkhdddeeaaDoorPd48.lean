/- Parts of the proof: LawAtomOk. -/
import Derived.BigQuiet
import Derived.Test.YtoehhbkhdddeeaaDoorPd45
import Derived.Test.YtoehhbkhdddeeaaDoorPd37
import Derived.Test.YtoehhbkhdddeeaaDoorPd46
import Derived.Test.YtoehhbkhdddeeaaDoorPd47
section
namespace Go.Proofs.YtoehhbkhdddeeaaDoor
open Go Go.RowKit
set_option linter.unusedVariables false
set_option linter.unusedSimpArgs false
set_option maxRecDepth 100000
set_option maxHeartbeats 16000000
theorem Atm.tame.small {y : Atm} (h : y.tame) : y.small := by
 have hs : ∀ (l : List Tm), (∀ u ∈ l, u.size ≤ 1000) → Tm.sizes l ≤ 1000 * l.length := by
  intro l
  induction l with
  | nil => intro _; simp [Tm.sizes]
  | cons u l ih => intro h; have h1 := h u (by simp); have h2 := ih (fun v hv => h v (by simp [hv])); simp only [Tm.sizes, List.length_cons]; omega
 have h1 := hs y.nums h.2.2.2.2.1
 have h2 := h.2.2.1
 exact ⟨by have := h.1; omega, by have := h.2.1; omega, by omega⟩
theorem zaR {s : Sg} {x : Atm} (h : zY s x = true) : x.okB = true := by simp only [zY, zcq] at h; exact h.2.1
theorem zbP {s : Sg} {y : Atm} (h : zY s y = true) : ∃ m : Int, (∀ t ∈ y.tms, t.tsrt s = some m) ∧ (y.kind = 1 ∨ m = 1) ∧ 0 < y.tms.length := by
 have h1 := zaR h
 have hs : s.okB = true := by simp only [zY, zcq] at h; exact h.1
 by_cases k : y.kind = 1
 ·rw [zbe hs h1 k] at h
  unfold Eqn.okB at h
  cases e1 : y.a.tsrt s with
  | none => simp [e1] at h
  | some m =>
   cases e2 : y.b.tsrt s with
   | none => simp [e1, e2] at h
   | some n =>
    simp only [e1, e2, beq_iff_eq] at h
    subst h
    refine ⟨m, ?_, .inl k, by simp [Atm.tms, k]⟩
    intro t ht
    simp only [Atm.tms, k, if_true, zco, List.not_mem_nil, or_false] at ht
    rcases ht with rfl | rfl
    ·exact e1
    ·exact e2
 ·rw [zaP hs h1 k, List.all_eq_true] at h
  have h2 : y.sumB = true := by
   rcases Atm.okB_kind h1 with ⟨k1, _⟩ | ⟨_, _, h2⟩
   ·exact absurd k1 k
   ·exact h2
  simp only [Atm.sumB, Atm.hdB, zcq, decide_eq_true_eq] at h2
  refine ⟨1, ?_, .inr rfl, by rw [Atm.tms, if_neg k]; exact h2.1.2.2.2.1.1⟩
  intro t ht
  rw [Atm.tms, if_neg k] at ht
  have h3 := h t ht
  simpa [Tm.isNum] using h3
theorem zaV (v : Value) (w : World) (hv : Byts w v) (htab : Tab9 w) :
  Calls Tryd.prog 4 #[v] w fun e w' => e = .returned (.bool true) ∧ Below w.heap.size w w' := by
 have hv0 := hv
 obtain ⟨a, n, cap, rfl, hn1, hn2, _⟩ := hv
 by_cases hlen : n ≤ 1048576
 rotate_left
 ·have hlb : decide ((1048576 : Int) < (n : Int)) = true := by simp; omega
  go_enter Tryd.func4, Tryd.ntmps4
  go_wp2_with fail
  go_ret
  exact ⟨rfl, Below.refl _ _⟩
 have hlb : decide ((1048576 : Int) < (n : Int)) = false := by simp; omega
 go_enter Tryd.func4, Tryd.ntmps4
 go_wp2_with fail
 refine (zaU _ _ hv0).mono ?_
 rintro e w1 ⟨⟨s, y, sa, sc, a2, c2, a4, c4, a5, c5, a6, c6, sf, fy, ht, _, _, rfl, hrs, hry⟩, hb1⟩
 have hsmall := ht.small
 obtain ⟨_, _, f2, _, _, f4, _, _, f5, _, _, f6, hvs, rfl, m0, m1, m2, m3, m4, m5, m6, m7⟩ := Atm.open hry
 simp only [List.cons.injEq, Value.slice.injEq, and_true, true_and] at hvs
 obtain ⟨⟨rfl, rfl⟩, ⟨rfl, rfl⟩, ⟨rfl, rfl⟩, rfl, rfl⟩ := hvs
 go_upto_region 4 with fail
 have hX := (Box.new w1 [.slice sa s.syms.length sc] 40).alloc (.cells #[.int .i64 y.kind, .string y.a.name, .slice a2 y.a.kids.length c2, .string y.b.name, .slice a4 y.b.kids.length c4, .slice a5 y.nums.length c5, .slice a6 y.times.length c6, .int .i64 y.bound, .bool y.strict] 28)
 have hY := Box.new (w1.alloc (.cells #[.slice sa s.syms.length sc] 40)) [.int .i64 y.kind, .string y.a.name, .slice a2 y.a.kids.length c2, .string y.b.name, .slice a4 y.b.kids.length c4, .slice a5 y.nums.length c5, .slice a6 y.times.length c6, .int .i64 y.bound, .bool y.strict] 28
 rw [World.size_alloc] at hY
 have hba : Below w1.heap.size w1 ((w1.alloc (.cells #[.slice sa s.syms.length sc] 40)).alloc (.cells #[.int .i64 y.kind, .string y.a.name, .slice a2 y.a.kids.length c2, .string y.b.name, .slice a4 y.b.kids.length c4, .slice a5 y.nums.length c5, .slice a6 y.times.length c6, .int .i64 y.bound, .bool y.strict] 28)) := ((Below.refl _ _).alloc (Nat.le_refl _) _).alloc (by simp) _
 have hB := hb1.trans (hba.mono hb1.size)
 replace hrs := hrs.below hba
 replace hry := hry.below hba
 replace m2 := m2.below hba
 replace m4 := m4.below hba
 have hzW : w1.heap.size + 1 + 1 ≤ ((w1.alloc (.cells #[.slice sa s.syms.length sc] 40)).alloc (.cells #[.int .i64 y.kind, .string y.a.name, .slice a2 y.a.kids.length c2, .string y.b.name, .slice a4 y.b.kids.length c4, .slice a5 y.nums.length c5, .slice a6 y.times.length c6, .int .i64 y.bound, .bool y.strict] 28)).heap.size := by simp
 generalize (w1.alloc (.cells #[.slice sa s.syms.length sc] 40)).alloc (.cells #[.int .i64 y.kind, .string y.a.name, .slice a2 y.a.kids.length c2, .string y.b.name, .slice a4 y.b.kids.length c4, .slice a5 y.nums.length c5, .slice a6 y.times.length c6, .int .i64 y.bound, .bool y.strict] 28) = W at *
 replace m5 := m5.below hba
 replace m6 := m6.below hba
 clear hba hb1
 have x0 := hX.2.1 0 _ rfl
 have y0 := hY.2.1 0 _ rfl
 have y1 := hY.2.1 1 _ rfl
 have y2 := hY.2.1 2 _ rfl
 have y3 := hY.2.1 3 _ rfl
 have y4 := hY.2.1 4 _ rfl
 have y5 := hY.2.1 5 _ rfl
 have y6 := hY.2.1 6 _ rfl
 have y7 := hY.2.1 7 _ rfl
 have y8 := hY.2.1 8 _ rfl
 obtain ⟨o, ho⟩ : ∃ o, zY s y = o := ⟨_, rfl⟩
 have HO := Lib.hid ho
 go_wp2_with fail
 refine (zbO s y _ _ _ _ _ hsmall (by exact hrs) (by exact hry)).mono ?_
 rintro e w2 ⟨rfl, hb2⟩
 rw [ho]
 have hz2 := hb2.size
 replace hB := hB.trans (hb2.mono hB.size)
 replace hX := hX.below hb2
 replace hY := hY.below hb2
 replace hrs := hrs.below hb2
 replace hry := hry.below hb2
 replace m2 := m2.below hb2
 replace m4 := m4.below hb2
 replace m5 := m5.below hb2
 replace m6 := m6.below hb2
 have x0' := hX.2.1 0 _ rfl
 have y0' := hY.2.1 0 _ rfl
 have y1' := hY.2.1 1 _ rfl
 have y2' := hY.2.1 2 _ rfl
 have y3' := hY.2.1 3 _ rfl
 have y4' := hY.2.1 4 _ rfl
 have y5' := hY.2.1 5 _ rfl
 have y6' := hY.2.1 6 _ rfl
 have y7' := hY.2.1 7 _ rfl
 have y8' := hY.2.1 8 _ rfl
 clear x0 y0 y1 y2 y3 y4 y5 y6 y7 y8 hb2
 have hoo : (o != o) = false := by cases o <;> rfl
 have hoe : (o == o) = true := by cases o <;> rfl
 go_wp2_with fail
 refine (zaQ s y _ _ _ _ _ hsmall (by exact hrs) (by exact hry)).mono ?_
 rintro e w3 ⟨rfl, hb3⟩
 rw [ho]
 replace hB := hB.trans (hb3.mono hB.size)
 replace hX := hX.below hb3
 replace hY := hY.below hb3
 replace hrs := hrs.below hb3
 replace hry := hry.below hb3
 replace m2 := m2.below hb3
 replace m4 := m4.below hb3
 replace m5 := m5.below hb3
 replace m6 := m6.below hb3
 have x0 := hX.2.1 0 _ rfl; have y0 := hY.2.1 0 _ rfl; have y1 := hY.2.1 1 _ rfl; have y2 := hY.2.1 2 _ rfl; have y3 := hY.2.1 3 _ rfl; have y4 := hY.2.1 4 _ rfl; have y5 := hY.2.1 5 _ rfl; have y6 := hY.2.1 6 _ rfl; have y7 := hY.2.1 7 _ rfl; have y8 := hY.2.1 8 _ rfl
 clear x0' y0' y1' y2' y3' y4' y5' y6' y7' y8' hb3
 cases o
 ·clear hoo hoe
  go_wp2_with fail
  refine (zaQ s y _ _ _ _ _ hsmall (by exact hrs) (by exact hry)).mono ?_
  rintro e w4 ⟨rfl, hb4⟩
  rw [ho]
  replace hB := hB.trans (hb4.mono hB.size)
  clear x0 y0 y1 y2 y3 y4 y5 y6 y7 y8 hb4
  go_wp2_with fail
  go_ret
  exact ⟨rfl, hB⟩
 obtain ⟨m, hall, hk, hl0⟩ := zbP HO.out
 have HALL := Lib.hid hall
 have HK := Lib.hid hk
 have HX := Lib.hid (show (Lt.mk y false).tms = y.tms from Lt.tms_yes (zaR HO.out))
 have HOK := Lib.hid (zaR HO.out)
 clear hall hk ho
 go_wp2_with fail
 refine (zbr (Lt.mk y false) _ _ _ hsmall (by exact Lt.close (x := Lt.mk y false) m0 m1 m2 m3 m4 m5 m6 m7)).mono ?_
 rintro e w5 ⟨xv, xf, rfl, hrx, _, hb5⟩
 rw [HX.out] at hrx
 obtain ⟨ts, hts⟩ : ∃ ts, y.tms = ts := ⟨_, rfl⟩
 rw [hts] at hrx hl0 HALL
 clear hts HX
 obtain ⟨xa, xc, rfl, _, _⟩ := zW hrx
 have hx2 : TmsR w5 ts (.slice xa ts.length xc) := ⟨_, hrx⟩
 obtain ⟨xb, xo, rfl, hxb⟩ := hx2.addr (by omega)
 have hln := zT hrx
 replace hB := hB.trans (hb5.mono hB.size)
 replace hX := hX.below hb5
 replace hY := hY.below hb5
 replace hrs := hrs.below hb5
 replace hry := hry.below hb5
 have hTab := htab.below hB
 have hz5 := hB.size
 have hX5 := hX.1
 have hY5 := hY.1
 clear hrx hb5 x0 y0 y1 y2 y3 y4 y5 y6 y7 y8 m5 m6 m2 m4
 have x0 := hX.2.1 0 _ rfl
 obtain ⟨ia, ic, c0, c1, hs1, fk, hk1⟩ := hx2.at hl0
 simp only [Nat.zero_mul, Nat.add_zero] at c0 c1
 have HA : Hid (∀ W, Below w5.heap.size w5 W → Calls Tryd.prog 17 #[.agg #[.slice sa s.syms.length sc], .agg #[.string ts[0].name, .slice ia ts[0].kids.length ic]] W fun e w' => e = .returned (.tuple #[.int .i64 m, .bool true]) ∧ Below W.heap.size W w') := Lib.hid (fun W hW => by
  have h9 := zR s ts[0] _ _ _ _ W (hrs.below hW) ((Tm.rdv hs1 hk1).below hW)
  rw [HALL.out ts[0] (zcl _)] at h9
  exact h9)
 go_upto_region 8 with fail
 have q0 := cell_regrown c0; have q1 := cell_regrown c1; have q2 := cell_regrown x0
 refine wp_region_quiet_below (by kernel_rfl) (by kernel_rfl) ?_
 repeat (first | go_big_quiet_skip | quiet_step (first | (go_at_call 17; with_reducible refine Calls.regrown_of (HA.out _ (below_regrown _ _ _)))))
 refine wpQuiet_nil ?_
 intro w6 hw6
 obtain ⟨⟨dq, osq⟩, hw6⟩ := hw6
 have hb6 : Below w5.heap.size w5 w6 := hw6 ▸ below_regrown w5 dq osq
 clear hw6 q0 q1 q2 c0 c1 HA hk1 hs1 x0
 replace hB := hB.trans (hb6.mono hB.size)
 replace hX := hX.below hb6
 replace hY := hY.below hb6
 replace hrs := hrs.below hb6
 replace hry := hry.below hb6
 replace hTab := hTab.below hb6
 have hx6 : TmsR w6 ts (.slice (some ⟨xb, xo, none⟩) ts.length xc) := hx2.below hb6
 clear hb6 hx2
 have hmm : (m != m) = false := by simp
 go_wp2_with fail
 go_loopw [9] (fun i wr => ∃ k : Nat, k ≤ ts.length ∧ i = .int .i64 k ∧ Below w6.heap.size w6 wr) (fun i _ => ts.length - (intOf i).toNat)
 case atStart => exact ⟨0, Nat.zero_le _, rfl, Below.refl _ _⟩
 case round =>
  obtain ⟨k, hkl, rfl, hb⟩ := hrel
  have hz := hb.size
  have x0 := (hX.below hb).2.1 0 _ rfl
  by_cases hlt : k < ts.length
  ·skip
   obtain ⟨ia, ic, c0, c1, hs1, fk, hk1⟩ := (hx6.below hb).at hlt
   have HA : Hid (∀ W, Below wr.heap.size wr W → Calls Tryd.prog 17 #[.agg #[.slice sa s.syms.length sc], .agg #[.string ts[k].name, .slice ia ts[k].kids.length ic]] W fun e w' => e = .returned (.tuple #[.int .i64 m, .bool true]) ∧ Below W.heap.size W w') := Lib.hid (fun W hW => by
    have h9 := zR s ts[k] _ _ _ _ W ((hrs.below hb).below hW) ((Tm.rdv hs1 hk1).below hW)
    rw [HALL.out ts[k] (zcl _)] at h9
    exact h9)
   go_upto_region 12 with fail
   have q0 := cell_regrown c0; have q1 := cell_regrown c1; have q2 := cell_regrown x0
   refine wp_region_quiet_below (by kernel_rfl) (by kernel_rfl) ?_
   repeat (first | go_big_quiet_skip | quiet_step (first | (go_at_call 17; with_reducible refine Calls.regrown_of (HA.out _ (below_regrown _ _ _)))))
   refine wpQuiet_nil ?_
   intro w7 hw7
   obtain ⟨⟨dq, osq⟩, hw7⟩ := hw7
   have hb7 : Below wr.heap.size wr w7 := hw7 ▸ below_regrown wr dq osq
   clear hw7 q0 q1 q2
   go_wp2_with fail
   go_roundw
   case rel => exact ⟨k + 1, by omega, by go_num, hb.trans (hb7.mono hz)⟩
   case measure => simp [intOf]; omega
  ·skip
   obtain ⟨tx, htx⟩ : ∃ tx, y.text = tx := ⟨_, rfl⟩
   have hne := y.text_ne
   rw [htx] at hne
   have HA : Hid (∀ W, Below wr.heap.size wr W → Calls Tryd.prog 10 #[.agg #[.int .i64 y.kind, .string y.a.name, .slice a2 y.a.kids.length c2, .string y.b.name, .slice a4 y.b.kids.length c4, .slice a5 y.nums.length c5, .slice a6 y.times.length c6, .int .i64 y.bound, .bool y.strict]] W fun e w' => e = .returned (.string tx) ∧ Below W.heap.size W w') := Lib.hid (fun W hW => by
    have h9 := zbf y _ _ W hsmall ((hry.below hb).below hW) ((hTab.below hb).below hW)
    rw [if_pos HOK.out, htx] at h9
    exact h9)
   have hne1 : ¬ tx.toList = ByteArray.toList ⟨#[]⟩ := fun h => hne (zad.1 h)
   have hne2 : ¬ tx.toList = [] := fun h => hne1 (by rw [h, ByteArray.toList_eq])
   have hne3 : tx.toList.isEmpty = false := by rw [List.isEmpty_eq_false_iff]; exact hne2
   clear hne hne1 hne2
   have hBk := hB.trans (hb.mono hB.size)
   have hYk := hY.below hb
   have y0 := hYk.2.1 0 _ rfl; have y1 := hYk.2.1 1 _ rfl; have y2 := hYk.2.1 2 _ rfl; have y3 := hYk.2.1 3 _ rfl; have y4 := hYk.2.1 4 _ rfl; have y5 := hYk.2.1 5 _ rfl; have y6 := hYk.2.1 6 _ rfl; have y7 := hYk.2.1 7 _ rfl; have y8 := hYk.2.1 8 _ rfl
   clear x0
   go_wp2_with fail
   refine (HA.out _ (Below.refl _ _)).mono ?_
   rintro e w8 ⟨rfl, hb8⟩
   replace hBk := hBk.trans (hb8.mono hBk.size)
   replace hYk := hYk.below hb8
   have z0 := hYk.2.1 0 _ rfl
   clear y0 y1 y2 y3 y4 y5 y6 y7 y8 hb8 HA
   by_cases hk1 : y.kind = 1
   ·have hkk : (y.kind == 1) = true := by simpa using hk1
    clear hk1
    go_wp2_with fail
    go_ret
    exact ⟨rfl, hBk⟩
   ·have hkk : (y.kind == 1) = false := by simpa using hk1
    have hm1 : m = 1 := HK.out.resolve_left hk1
    subst hm1
    clear hk1
    go_wp2_with fail
    go_ret
    exact ⟨rfl, hBk⟩
end Go.Proofs.YtoehhbkhdddeeaaDoor
end
