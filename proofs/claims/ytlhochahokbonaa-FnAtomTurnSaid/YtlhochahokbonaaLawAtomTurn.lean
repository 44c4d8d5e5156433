/- The law FnAtomTurn: that two things are one can be told turned round. -/
import Derived.BigQuiet
import Derived.Test.YtlhochahokbonaaRdrG
import Derived.Test.YtlhochahokbonaaLitT
import Derived.Test.YtlhochahokbonaaNum
import Derived.Test.YtlhochahokbonaaSameC
namespace Go.Proofs.Ytlhochahokbonaa
open Go Go.RowKit
set_option linter.unusedVariables false
set_option linter.unusedSimpArgs false

/-- The equation y turned round. -/
def Atm.turn (y : Atm) : Atm := ⟨1, y.b, y.a, [], [], 0, false⟩
theorem Atm.tame.small {y : Atm} (h : y.tame) : y.small := by
  have hs : ∀ (l : List Tm), (∀ u ∈ l, u.size ≤ 1000) → Tm.sizes l ≤ 1000 * l.length := by
    intro l
    induction l with
    | nil => intro _; simp [Tm.sizes]
    | cons u l ih => intro h; have h1 := h u (by simp); have h2 := ih (fun v hv => h v (by simp [hv])); simp only [Tm.sizes, List.length_cons]; omega
  have h1 := hs y.nums h.2.2.2.2
  have h2 := h.2.2.1
  exact ⟨by have := h.1; omega, by have := h.2.1; omega, by omega⟩
theorem atomB_ok9 {s : Sg} {x : Atm} (h : atomB s x = true) : x.okB = true := by simp only [atomB, Bool.and_eq_true] at h; exact h.2.1
mutual
theorem Tm.cd_inj9 : ∀ (t u : Tm), t.cd = u.cd → t = u
  | .mk n ks, .mk m js, h => by
    rw [Tm.cd_eq, Tm.cd_eq] at h
    simp only [Tm.name, Tm.kids, List.cons.injEq, CD.str.injEq, CD.sl.injEq, and_true] at h
    rw [h.1, Tm.cds_inj9 ks js h.2]
theorem Tm.cds_inj9 : ∀ (ks js : List Tm), ks.map Tm.cd = js.map Tm.cd → ks = js
  | [], [], _ => rfl
  | [], _ :: _, h => by simp at h
  | _ :: _, [], h => by simp at h
  | k :: ks, j :: js, h => by
    simp only [List.map_cons, List.cons.injEq] at h
    rw [Tm.cd_inj9 k j h.1, Tm.cds_inj9 ks js h.2]
end
theorem turn_shape {s : Sg} {y : Atm} (h : atomB s y = true) (k : y.kind = 1) : y = ⟨1, y.a, y.b, [], [], 0, false⟩ := by
  obtain ⟨kind, a, b, nums, times, bound, strict⟩ := y
  have hk := (atomB_ok9 h)
  rw [Atm.okB_eq k] at hk
  simp only [Atm.eqB, Bool.and_eq_true, beq_iff_eq, Bool.not_eq_true'] at hk
  obtain ⟨h1, h2, h3, h4, h5, h6⟩ := hk
  simp only at k
  simp only [Atm.mk.injEq, true_and]
  exact ⟨k, List.eq_nil_of_length_eq_zero (by omega), List.eq_nil_of_length_eq_zero (by omega), h5, h6⟩
theorem turn_ok {s : Sg} {y : Atm} (h : atomB s y = true) (k : y.kind = 1) : atomB s y.turn = true := by
  have hk := atomB_ok9 h
  rw [Atm.okB_eq k] at hk
  simp only [Atm.eqB, Bool.and_eq_true] at hk
  have hs : s.okB = true := by simp only [atomB, Bool.and_eq_true] at h; exact h.1
  have hq : Eqn.okB s ⟨y.a, y.b⟩ = true := by rw [atomB_eq hs (atomB_ok9 h) k] at h; exact h
  have ht : y.turn.okB = true := by
    rw [Atm.okB_eq rfl]
    simp only [Atm.eqB, Atm.turn, Bool.and_eq_true]
    exact ⟨hk.2.1, hk.1, by simp⟩
  rw [atomB_eq hs ht rfl]
  obtain ⟨w1, w2⟩ := Eqn.okB_wf hq
  unfold Eqn.okB at hq ⊢
  simp only [Atm.turn] at hq ⊢
  cases h1 : y.a.tsrt s <;> cases h2 : y.b.tsrt s <;> simp_all
theorem turn_eqv {s : Sg} {y : Atm} (h : atomB s y = true) (k : y.kind = 1) : eqV y.cd y.turn.cd = y.a.beq y.b := by
  rw [Bool.eq_iff_iff, eqV_iff, Tm.beq_iff]
  constructor
  · intro e
    rw [Atm.cd, Atm.cd] at e
    have e1 := (List.append_inj e rfl).2
    have e2 := (List.append_inj e1 (by rw [Tm.cd_len, Tm.cd_len])).1
    exact Tm.cd_inj9 _ _ e2
  · intro e
    rw [turn_shape h k]
    simp only [Atm.turn, e]
theorem callsB {P : Program} {f : Nat} {xs : Array Value} {w : World} {a b : Bool} (e : a = b) (h : Calls P f xs w fun e w' => e = .returned (.bool a) ∧ Below w.heap.size w w') : Calls P f xs w fun e w' => e = .returned (.bool b) ∧ Below w.heap.size w w' := e ▸ h
set_option maxRecDepth 100000 in
set_option maxHeartbeats 4000000 in
theorem atomTurn_walk (v : Value) (w : World) (hv : Byts w v) :
    Calls Try.prog 3 #[v] w fun e w' => e = .returned (.bool true) ∧ Below w.heap.size w w' := by
  have hv0 := hv
  obtain ⟨a, n, cap, rfl, hn1, hn2, _⟩ := hv
  by_cases hlen : n ≤ 1048576
  rotate_left
  · have hlb : decide ((1048576 : Int) < (n : Int)) = true := by simp; omega
    go_enter Try.func3, Try.ntmps3
    go_wp2_with fail
    go_ret
    exact ⟨rfl, Below.refl _ _⟩
  have hlb : decide ((1048576 : Int) < (n : Int)) = false := by simp; omega
  go_enter Try.func3, Try.ntmps3
  go_wp2_with fail
  refine (drawAtomOk_any _ _ hv0).mono ?_
  rintro e w1 ⟨⟨s, y, sa, sc, a2, c2, a4, c4, a5, c5, a6, c6, sf, fy, ht, _, _, rfl, hrs, hry⟩, hb1⟩
  have hsmall := ht.small
  obtain ⟨_, _, f2, _, _, f4, _, _, f5, _, _, f6, hvs, rfl, m0, m1, m2, m3, m4, m5, m6, m7⟩ := Atm.open hry
  simp only [List.cons.injEq, Value.slice.injEq, and_true, true_and] at hvs
  obtain ⟨⟨rfl, rfl⟩, ⟨rfl, rfl⟩, ⟨rfl, rfl⟩, rfl, rfl⟩ := hvs
  go_upto_region 4 with fail
  have hX := (Box.new w1 [.slice sa s.syms.length sc] 25).alloc (.cells #[.int .i64 y.kind, .string y.a.name, .slice a2 y.a.kids.length c2, .string y.b.name, .slice a4 y.b.kids.length c4, .slice a5 y.nums.length c5, .slice a6 y.times.length c6, .int .i64 y.bound, .bool y.strict] 31)
  have hY := Box.new (w1.alloc (.cells #[.slice sa s.syms.length sc] 25)) [.int .i64 y.kind, .string y.a.name, .slice a2 y.a.kids.length c2, .string y.b.name, .slice a4 y.b.kids.length c4, .slice a5 y.nums.length c5, .slice a6 y.times.length c6, .int .i64 y.bound, .bool y.strict] 31
  rw [World.size_alloc] at hY
  have hba : Below w1.heap.size w1 ((w1.alloc (.cells #[.slice sa s.syms.length sc] 25)).alloc (.cells #[.int .i64 y.kind, .string y.a.name, .slice a2 y.a.kids.length c2, .string y.b.name, .slice a4 y.b.kids.length c4, .slice a5 y.nums.length c5, .slice a6 y.times.length c6, .int .i64 y.bound, .bool y.strict] 31)) := ((Below.refl _ _).alloc (Nat.le_refl _) _).alloc (by simp) _
  have hB := hb1.trans (hba.mono hb1.size)
  replace hrs := hrs.below hba
  replace hry := hry.below hba
  replace m2 := m2.below hba
  replace m4 := m4.below hba
  have hzW : w1.heap.size + 1 + 1 ≤ ((w1.alloc (.cells #[.slice sa s.syms.length sc] 25)).alloc (.cells #[.int .i64 y.kind, .string y.a.name, .slice a2 y.a.kids.length c2, .string y.b.name, .slice a4 y.b.kids.length c4, .slice a5 y.nums.length c5, .slice a6 y.times.length c6, .int .i64 y.bound, .bool y.strict] 31)).heap.size := by simp
  generalize (w1.alloc (.cells #[.slice sa s.syms.length sc] 25)).alloc (.cells #[.int .i64 y.kind, .string y.a.name, .slice a2 y.a.kids.length c2, .string y.b.name, .slice a4 y.b.kids.length c4, .slice a5 y.nums.length c5, .slice a6 y.times.length c6, .int .i64 y.bound, .bool y.strict] 31) = W at *
  replace m5 := m5.below hba
  replace m6 := m6.below hba
  clear hba hb1
  have x0 := hX.2.1 0 _ rfl
  have y0 := hY.2.1 0 _ rfl
  have y1 := hY.2.1 1 _ rfl
  have y2 := hY.2.1 2 _ rfl
  have y3 := hY.2.1 3 _ rfl
  have y4 := hY.2.1 4 _ rfl
  have y5 := hY.2.1 5 _ rfl
  have y6 := hY.2.1 6 _ rfl
  have y7 := hY.2.1 7 _ rfl
  have y8 := hY.2.1 8 _ rfl
  obtain ⟨o, ho⟩ : ∃ o, atomB s y = o := ⟨_, rfl⟩
  have HO := Lib.hid ho
  go_wp2_with fail
  refine (atomOkT_any s y _ _ _ _ _ hsmall (by exact hrs) (by exact hry)).mono ?_
  rintro e w2 ⟨rfl, hb2⟩
  rw [ho]
  have hz2 := hb2.size
  replace hB := hB.trans (hb2.mono hB.size)
  replace hX := hX.below hb2
  replace hY := hY.below hb2
  replace hrs := hrs.below hb2
  replace hry := hry.below hb2
  replace m2 := m2.below hb2
  replace m4 := m4.below hb2
  replace m5 := m5.below hb2
  replace m6 := m6.below hb2
  have x0' := hX.2.1 0 _ rfl
  have y0' := hY.2.1 0 _ rfl
  have y1' := hY.2.1 1 _ rfl
  have y2' := hY.2.1 2 _ rfl
  have y3' := hY.2.1 3 _ rfl
  have y4' := hY.2.1 4 _ rfl
  have y5' := hY.2.1 5 _ rfl
  have y6' := hY.2.1 6 _ rfl
  have y7' := hY.2.1 7 _ rfl
  have y8' := hY.2.1 8 _ rfl
  clear x0 y0 y1 y2 y3 y4 y5 y6 y7 y8 hb2
  obtain ⟨kk, hkk⟩ : ∃ kk : Bool, (y.kind == 1) = kk := ⟨_, rfl⟩
  have hoo : (o != o) = false := by cases o <;> rfl
  have hoe : (o == o) = true := by cases o <;> rfl
  have hkn : (y.kind != 1) = !kk := by rw [bne, hkk]
  by_cases hgo : o = true ∧ kk = true
  rotate_left
  · have hend : o = false ∨ (o = true ∧ kk = false) := by cases o <;> cases kk <;> simp_all
    have hold : w1.heap.size + 1 + 1 ≤ w2.heap.size := by omega
    rcases hend with rfl | ⟨rfl, rfl⟩
    all_goals
      go_wp2_with fail
      refine (atomOkS_any s y _ _ _ _ _ hsmall (by exact hrs) (by exact hry)).mono ?_
      rintro e w3 ⟨rfl, hb3⟩
      rw [ho]
      replace hB := hB.trans (hb3.mono hB.size)
      replace hX := hX.below hb3
      replace hY := hY.below hb3
      replace hrs := hrs.below hb3
      replace hry := hry.below hb3
      have x0 := hX.2.1 0 _ rfl
      have y0 := hY.2.1 0 _ rfl
      have y1 := hY.2.1 1 _ rfl
      have y2 := hY.2.1 2 _ rfl
      have y3 := hY.2.1 3 _ rfl
      have y4 := hY.2.1 4 _ rfl
      have y5 := hY.2.1 5 _ rfl
      have y6 := hY.2.1 6 _ rfl
      have y7 := hY.2.1 7 _ rfl
      have y8 := hY.2.1 8 _ rfl
      clear x0' y0' y1' y2' y3' y4' y5' y6' y7' y8' hb3
      go_wp2_with fail
      refine (atomOkS_any s y _ _ _ _ _ hsmall (by exact hrs) (by exact hry)).mono ?_
      rintro e w4 ⟨rfl, hb4⟩
      rw [ho]
      replace hB := hB.trans (hb4.mono hB.size)
      clear x0 y0 y1 y2 y3 y4 y5 y6 y7 y8 hb4
      go_wp2_with fail
      go_ret
      exact ⟨rfl, hB⟩
  obtain ⟨rfl, rfl⟩ := hgo
  have hk1 : y.kind = 1 := by simpa using hkk
  have HT := Lib.hid (turn_ok HO.out hk1)
  have HE := Lib.hid (turn_eqv HO.out hk1)
  have HX := Lib.hid (show (Lt.mk y false).tms = [y.a, y.b] by rw [Lt.tms_yes (atomB_ok9 HO.out)]; exact if_pos hk1)
  have HZ := Lib.hid (show (Lt.mk y.turn false).tms = [y.b, y.a] by rw [Lt.tms_yes (atomB_ok9 HT.out)]; exact if_pos rfl)
  have htur : y.turn.small := ⟨hsmall.2.1, hsmall.1, by simp [Atm.turn, Tm.sizes]⟩
  have hkn1 : (y.kind != 1) = false := by simpa using hkk
  have HK := Lib.hid hk1
  clear hkk hkn hk1
  go_wp2_with fail
  refine (atomOkS_any s y _ _ _ _ _ hsmall (by exact hrs) (by exact hry)).mono ?_
  rintro e w3 ⟨rfl, hb3⟩
  rw [ho]
  clear ho
  replace hB := hB.trans (hb3.mono hB.size)
  replace hX := hX.below hb3
  replace hY := hY.below hb3
  replace hrs := hrs.below hb3
  replace hry := hry.below hb3
  replace m2 := m2.below hb3
  replace m4 := m4.below hb3
  replace m5 := m5.below hb3
  replace m6 := m6.below hb3
  clear x0' y0' y1' y2' y3' y4' y5' y6' y7' y8' hb3
  have y0 := hY.2.1 0 _ rfl
  have y1 := hY.2.1 1 _ rfl
  have y2 := hY.2.1 2 _ rfl
  have y3 := hY.2.1 3 _ rfl
  have y4 := hY.2.1 4 _ rfl
  have y5 := hY.2.1 5 _ rfl
  have y6 := hY.2.1 6 _ rfl
  have y7 := hY.2.1 7 _ rfl
  have y8 := hY.2.1 8 _ rfl
  go_upto_region 8 with fail
  have hZ := Box.new w3 [.int .i64 1, .string y.b.name, .slice a4 y.b.kids.length c4, .string y.a.name, .slice a2 y.a.kids.length c2, .slice none 0 0, .slice none 0 0, .int .i64 0, .bool false] 31
  obtain ⟨bz, hbz⟩ : ∃ bz, bz = w3.heap.size := ⟨_, rfl⟩
  rw [← hbz] at hZ ⊢
  clear hbz y0 y1 y2 y3 y4 y5 y6 y7 y8
  have hba := below_alloc w3 (.cells #[.int .i64 1, .string y.b.name, .slice a4 y.b.kids.length c4, .string y.a.name, .slice a2 y.a.kids.length c2, .slice none 0 0, .slice none 0 0, .int .i64 0, .bool false] 31)
  replace hB := hB.trans (hba.mono hB.size)
  replace hX := hX.below hba
  replace hY := hY.below hba
  replace hrs := hrs.below hba
  replace m2 := m2.below hba
  replace m4 := m4.below hba
  replace m5 := m5.below hba
  replace m6 := m6.below hba
  clear hry hba
  generalize w3.alloc (.cells #[.int .i64 1, .string y.b.name, .slice a4 y.b.kids.length c4, .string y.a.name, .slice a2 y.a.kids.length c2, .slice none 0 0, .slice none 0 0, .int .i64 0, .bool false] 31) = W4 at *
  have y0 := hY.2.1 0 _ rfl
  have y1 := hY.2.1 1 _ rfl
  have y2 := hY.2.1 2 _ rfl
  have y3 := hY.2.1 3 _ rfl
  have y4 := hY.2.1 4 _ rfl
  have y5 := hY.2.1 5 _ rfl
  have y6 := hY.2.1 6 _ rfl
  have y7 := hY.2.1 7 _ rfl
  have y8 := hY.2.1 8 _ rfl
  go_wp2_with fail
  have hry4 : RdVs W4 y.cd [.int .i64 y.kind, .string y.a.name, .slice a2 y.a.kids.length c2, .string y.b.name, .slice a4 y.b.kids.length c4, .slice a5 y.nums.length c5, .slice a6 y.times.length c6, .int .i64 y.bound, .bool y.strict] _ := Atm.close m0 m1 m2 m3 m4 m5 m6 m7
  have hrz4 : RdVs W4 y.turn.cd [.int .i64 1, .string y.b.name, .slice a4 y.b.kids.length c4, .string y.a.name, .slice a2 y.a.kids.length c2, .slice none 0 0, .slice none 0 0, .int .i64 0, .bool false] (f4 ++ (f2 ++ ([] ++ []))) := Atm.close (x := y.turn) (by unfold I64; simp [Atm.turn]) m3 m4 m1 m2 (rd_nil9 (cd := Tm.cd) none 0 (by simp)) (rd_nil9 (cd := intCd) none 0 (by simp)) (by unfold I64; simp [Atm.turn])
  refine (litTerms_any (Lt.mk y false) _ _ _ hsmall (by exact Lt.close (x := Lt.mk y false) m0 m1 m2 m3 m4 m5 m6 m7)).mono ?_
  rintro e w5 ⟨xv, xf, rfl, hrx, _, hb5⟩
  rw [HX.out] at hrx
  obtain ⟨xa, xc, rfl, _, _⟩ := tms_form hrx
  have hx2 : TmsR w5 [y.a, y.b] (.slice xa [y.a, y.b].length xc) := ⟨_, hrx⟩
  obtain ⟨xb, xo, rfl, hxb⟩ := hx2.addr (by simp)
  simp only [List.length_cons, List.length_nil, Nat.zero_add, Nat.reduceAdd] at hx2 ⊢
  replace hB := hB.trans (hb5.mono hB.size)
  replace hX := hX.below hb5
  replace hY := hY.below hb5
  replace hZ := hZ.below hb5
  replace hrs := hrs.below hb5
  replace hry4 := hry4.below hb5
  replace hrz4 := hrz4.below hb5
  replace m2 := m2.below hb5
  replace m4 := m4.below hb5
  clear hrx hb5 y0 y1 y2 y3 y4 y5 y6 y7 y8 m5 m6
  have z0 := hZ.2.1 0 _ rfl
  have z1 := hZ.2.1 1 _ rfl
  have z2 := hZ.2.1 2 _ rfl
  have z3 := hZ.2.1 3 _ rfl
  have z4 := hZ.2.1 4 _ rfl
  have z5 := hZ.2.1 5 _ rfl
  have z6 := hZ.2.1 6 _ rfl
  have z7 := hZ.2.1 7 _ rfl
  have z8 := hZ.2.1 8 _ rfl
  go_wp2_with fail
  refine (litTerms_any (Lt.mk y.turn false) _ _ _ htur (by exact Lt.close (x := Lt.mk y.turn false) (by unfold I64; simp [Atm.turn]) m3 m4 m1 m2 (rd_nil9 (cd := Tm.cd) none 0 (by simp)) (rd_nil9 (cd := intCd) none 0 (by simp)) (by unfold I64; simp [Atm.turn]))).mono ?_
  rintro e w6 ⟨yv, yf, rfl, hrx, _, hb6⟩
  rw [HZ.out] at hrx
  obtain ⟨ya, yc, rfl, _, _⟩ := tms_form hrx
  have hy2 : TmsR w6 [y.b, y.a] (.slice ya [y.b, y.a].length yc) := ⟨_, hrx⟩
  obtain ⟨yb, yo, rfl, hyb⟩ := hy2.addr (by simp)
  simp only [List.length_cons, List.length_nil, Nat.zero_add, Nat.reduceAdd] at hy2 ⊢
  replace hB := hB.trans (hb6.mono hB.size)
  replace hX := hX.below hb6
  replace hY := hY.below hb6
  replace hZ := hZ.below hb6
  replace hrs := hrs.below hb6
  replace hry4 := hry4.below hb6
  replace hrz4 := hrz4.below hb6
  replace hx2 := hx2.below hb6
  replace m2 := m2.below hb6
  replace m4 := m4.below hb6
  clear hrx hb6 z0 z1 z2 z3 z4 z5 z6 z7 z8 hxb hyb
  obtain ⟨k1, k2, p0, p1, n1, t1⟩ := hx2.at (k := 0) (by simp)
  obtain ⟨k3, k4, p2, p3, n2, t2⟩ := hx2.at (k := 1) (by simp)
  obtain ⟨k5, k6, p4, p5, n3, t3⟩ := hy2.at (k := 0) (by simp)
  obtain ⟨k7, k8, p6, p7, n4, t4⟩ := hy2.at (k := 1) (by simp)
  simp only [List.getElem_cons_zero, List.getElem_cons_succ, Nat.zero_mul, Nat.one_mul, Nat.add_zero, Nat.reduceMul] at p0 p1 p2 p3 p4 p5 p6 p7 n1 n2 n3 n4 t1 t2 t3 t4
  have T1 : TmR w6 y.a (.agg #[.string y.a.name, .slice k1 y.a.kids.length k2]) := TmR.mk n1 t1
  have T2 : TmR w6 y.b (.agg #[.string y.b.name, .slice k3 y.b.kids.length k4]) := TmR.mk n2 t2
  have T3 : TmR w6 y.b (.agg #[.string y.b.name, .slice k5 y.b.kids.length k6]) := TmR.mk n3 t3
  have T4 : TmR w6 y.a (.agg #[.string y.a.name, .slice k7 y.a.kids.length k8]) := TmR.mk n4 t4
  have T5 : TmR w6 y.a (.agg #[.string y.a.name, .slice a2 y.a.kids.length c2]) := TmR.mk m1 ⟨_, m2⟩
  have T6 : TmR w6 y.b (.agg #[.string y.b.name, .slice a4 y.b.kids.length c4]) := TmR.mk m3 ⟨_, m4⟩
  obtain ⟨r, hr⟩ : ∃ r, r = y.a.beq y.b := ⟨_, rfl⟩
  have HR := Lib.hid hr.symm
  have HR2 := Lib.hid (HE.out.trans hr.symm)
  clear hr
  have HS1 := Lib.hid ((Tm.beq_iff y.a y.a).2 rfl)
  have HS2 := Lib.hid ((Tm.beq_iff y.b y.b).2 rfl)
  have hrr : (r == r) = true := by cases r <;> rfl
  clear hx2 hy2 n1 n2 n3 n4 t1 t2 t3 t4 m0 m1 m2 m3 m4 m7
  have x0 := hX.2.1 0 _ rfl
  have y0 := hY.2.1 0 _ rfl
  have y1 := hY.2.1 1 _ rfl
  have y2 := hY.2.1 2 _ rfl
  have y3 := hY.2.1 3 _ rfl
  have y4 := hY.2.1 4 _ rfl
  have y5 := hY.2.1 5 _ rfl
  have y6 := hY.2.1 6 _ rfl
  have y7 := hY.2.1 7 _ rfl
  have y8 := hY.2.1 8 _ rfl
  have z0 := hZ.2.1 0 _ rfl
  have z1 := hZ.2.1 1 _ rfl
  have z2 := hZ.2.1 2 _ rfl
  have z3 := hZ.2.1 3 _ rfl
  have z4 := hZ.2.1 4 _ rfl
  have z5 := hZ.2.1 5 _ rfl
  have z6 := hZ.2.1 6 _ rfl
  have z7 := hZ.2.1 7 _ rfl
  have z8 := hZ.2.1 8 _ rfl
  go_wp2_with fail
  have q0 := cell_regrown x0
  have q1 := cell_regrown y0
  have q2 := cell_regrown y1
  have q3 := cell_regrown y2
  have q4 := cell_regrown y3
  have q5 := cell_regrown y4
  have q6 := cell_regrown y5
  have q7 := cell_regrown y6
  have q8 := cell_regrown y7
  have q9 := cell_regrown y8
  have q10 := cell_regrown z0
  have q11 := cell_regrown z1
  have q12 := cell_regrown z2
  have q13 := cell_regrown z3
  have q14 := cell_regrown z4
  have q15 := cell_regrown z5
  have q16 := cell_regrown z6
  have q17 := cell_regrown z7
  have q18 := cell_regrown z8
  have q19 := cell_regrown p0
  have q20 := cell_regrown p1
  have q21 := cell_regrown p2
  have q22 := cell_regrown p3
  have q23 := cell_regrown p4
  have q24 := cell_regrown p5
  have q25 := cell_regrown p6
  have q26 := cell_regrown p7
  refine wp_region_quiet_below (by kernel_rfl) (by kernel_rfl) ?_
  repeat (go_big_quiet_step (first
    | (with_reducible refine Calls.regrown_of (callsB HT.out (atomOkT_any s y.turn _ _ _ _ _ htur (hrs.below (below_regrown _ _ _)) (hrz4.below (below_regrown _ _ _)))))
    | (with_reducible refine Calls.regrown_of (callsB HS1.out (termSame_any _ y.a y.a _ _ _ (Nat.le_refl _) (T1.below (below_regrown _ _ _)) (T4.below (below_regrown _ _ _)))))
    | (with_reducible refine Calls.regrown_of (callsB HS2.out (termSame_any _ y.b y.b _ _ _ (Nat.le_refl _) (T2.below (below_regrown _ _ _)) (T3.below (below_regrown _ _ _)))))
    | (with_reducible refine Calls.regrown_of (callsB HR2.out (sameAtm_x y y.turn _ _ _ _ _ (hry4.below (below_regrown _ _ _)) (hrz4.below (below_regrown _ _ _)))))
    | (with_reducible refine Calls.regrown_of (callsB HR.out (termSame_any _ y.a y.b _ _ _ (Nat.le_refl _) (T5.below (below_regrown _ _ _)) (T6.below (below_regrown _ _ _)))))))
  refine wpQuiet_nil ?_
  intro w7 hw7
  obtain ⟨⟨dq, osq⟩, hw7⟩ := hw7
  have hb7 : Below w6.heap.size w6 w7 := hw7 ▸ below_regrown w6 dq osq
  clear hw7
  go_wp2_with fail
  go_ret
  exact ⟨rfl, hB.trans (hb7.mono hB.size)⟩
end Go.Proofs.Ytlhochahokbonaa
