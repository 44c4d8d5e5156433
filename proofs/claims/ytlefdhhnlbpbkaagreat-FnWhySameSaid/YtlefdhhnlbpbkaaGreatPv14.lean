/- Parts of the proof: CloS. -/
import Derived.Lib.Hide
import Derived.OwnWalk
import Derived.Test.YtlefdhhnlbpbkaaGreatPv4
import Derived.Test.YtlefdhhnlbpbkaaGreatPv13
section
namespace Go.Proofs.YtlefdhhnlbpbkaaGreat
open Go Go.RowKit
set_option linter.unusedVariables false
set_option linter.unusedSimpArgs false
set_option maxRecDepth 100000
set_option maxHeartbeats 16000000
theorem zd0 (m n : Nat) (w : World) : Calls Tryz.prog 104 #[.int .i64 m, .int .i64 n] w fun e w' => e = .returned (.int .i64 ((max m n : Nat) : Int)) ∧ Below w.heap.size w w' := by
  go_enter Tryz.func104, Tryz.ntmps104
  by_cases h : n < m
  · have e : max m n = m := Nat.max_eq_left (by omega)
    rw [e]
    go_wp2_with fail
    go_ret
    exact ⟨rfl, Below.refl _ _⟩
  · have e : max m n = n := Nat.max_eq_right (by omega)
    rw [e]
    go_wp2_with fail
    go_ret
    exact ⟨rfl, Below.refl _ _⟩
theorem zb4 (c : List Nat) (v : Value) (B a b : Nat) (w : World) (hsm : ∀ i, i < c.length → Clo.cl c i ≤ 1000000000) (hl : c.length ≤ 1000000000) (ha : a < c.length) (hb : b < c.length) (hv : IRow w B v (nats c)) :
    Calls Tryz.prog 75 #[v, .int .i64 a, .int .i64 b] w fun e w' => e = .returned v ∧ IRow w' B v (nats (Clo.join c a b)) ∧ Moved w v w' v := by
  obtain ⟨g, cp, rfl, hgB, hgw, hcp⟩ := hv.form (by rw [zt]; omega)
  rw [zt] at hv hcp ⊢
  have ca := (hv.cell (k := a) (by rw [zt]; exact ha)).1
  have cb := (hv.cell (k := b) (by rw [zt]; exact hb)).1
  rw [Clo.nats_get ha] at ca
  rw [Clo.nats_get hb] at cb
  have sa := hsm a ha
  have sb := hsm b hb
  have HSM := Lib.hid hsm
  have HHI : Hid (max (Clo.cl c a) (Clo.cl c b) = Clo.hi c a b) := Lib.hid rfl
  have HLO : Hid (IntKind.i64.wrap (IntKind.i64.wrap (((Clo.cl c a : Nat) : Int) + (Clo.cl c b : Nat)) - (Clo.hi c a b : Nat)) = (Clo.lo c a b : Nat)) := Lib.hid (by
    rw [IntWalk.i64_in (((Clo.cl c a : Nat) : Int) + (Clo.cl c b : Nat)) (by omega)]
    have : ((Clo.cl c a : Nat) : Int) + (Clo.cl c b : Nat) - (Clo.hi c a b : Nat) = (Clo.lo c a b : Nat) := by unfold Clo.hi Clo.lo; omega
    rw [this]
    exact IntWalk.i64_in _ (by unfold Clo.lo; omega))
  clear hsm
  go_enter Tryz.func75, Tryz.ntmps75
  go_wp2_with fail
  have q0 := cell_regrown ca
  have q1 := cell_regrown cb
  refine wp_region_quiet_below (by kernel_rfl) (by kernel_rfl) ?_
  repeat (quiet_step (refine Calls.regrown_of (zd0 _ _ _)))
  refine wpQuiet_nil ?_
  intro w2 hw2
  obtain ⟨⟨dq, osq⟩, hw2⟩ := hw2
  have hb2 : Below w.heap.size w w2 := hw2 ▸ below_regrown w dq osq
  clear hw2 q0 q1
  rw [HHI.out]
  have ca2 := za ca hb2
  have cb2 := za cb hb2
  have shi : Clo.hi c a b ≤ 1000000000 := by unfold Clo.hi; omega
  have slo : Clo.lo c a b ≤ 1000000000 := by unfold Clo.lo; omega
  go_wp2_with fail
  have q0 := cell_regrown ca2
  have q1 := cell_regrown cb2
  refine wp_region_quiet_below (by kernel_rfl) (by kernel_rfl) ?_
  repeat (quiet_step (fail))
  refine wpQuiet_nil ?_
  intro w3 hw3
  obtain ⟨⟨dq3, osq3⟩, hw3⟩ := hw3
  have hb3 : Below w2.heap.size w2 w3 := hw3 ▸ below_regrown w2 dq3 osq3
  clear hw3 q0 q1
  rw [HLO.out]
  have hb := hb2.trans (hb3.mono hb2.size)
  have hv2 := hv.below hb
  have hm2 : Moved w (.slice (some ⟨g, 0, none⟩) c.length cp) w3 (.slice (some ⟨g, 0, none⟩) c.length cp) := (Moved.refl _ _).below hb
  clear hb hb2 hb3 ca2 cb2
  go_wp2_with fail
  go_loopw [9] (fun i wr => ∃ k : Nat, k ≤ c.length ∧ i = .int .i64 k ∧ IRow wr B (.slice (some ⟨g, 0, none⟩) c.length cp) (nats (Clo.mid c (Clo.hi c a b) (Clo.lo c a b) k)) ∧ Moved w (.slice (some ⟨g, 0, none⟩) c.length cp) wr (.slice (some ⟨g, 0, none⟩) c.length cp)) (fun i _ => c.length - (intOf i).toNat)
  case atStart => exact ⟨0, Nat.zero_le _, rfl, by rw [Clo.mid_zero]; exact hv2, hm2⟩
  case round =>
    obtain ⟨k, hkl, rfl, hrow, hmv⟩ := hrel
    by_cases hlt : k < c.length
    · have ck := (hrow.cell (k := k) (by rw [zt, Clo.mid_len]; exact hlt)).1
      rw [Clo.nats_get (by rw [Clo.mid_len]; exact hlt), Clo.mid_at hlt] at ck
      have fk := hrow.free k
      have hgz : g < wr.heap.size := by have := hmv.size; omega
      by_cases he : Clo.cl c k = Clo.hi c a b
      · have heb : (((Clo.cl c k : Nat) : Int) == ((Clo.hi c a b : Nat) : Int)) = true := by rw [he]; simp
        have HS := Lib.hid (Clo.mid_yes (t := Clo.lo c a b) hlt he)
        clear he
        obtain ⟨hset, hms⟩ := hrow.set k (zaA slo)
        rw [nats_set, ← HS.out] at hset
        go_wp2_with fail
        go_roundw
        case rel => exact ⟨k + 1, by omega, by go_num, hset, hmv.trans hms⟩
        case measure => simp [intOf]; omega
      · have heb : (((Clo.cl c k : Nat) : Int) == ((Clo.hi c a b : Nat) : Int)) = false := by simp; omega
        have HS := Lib.hid (Clo.mid_no (t := Clo.lo c a b) hlt he)
        clear he
        go_wp2_with fail
        go_roundw
        case rel => exact ⟨k + 1, by omega, by go_num, by rw [HS.out]; exact hrow, hmv⟩
        case measure => simp [intOf]; omega
    · rw [Clo.mid_end (by omega)] at hrow
      go_wp2_with fail
      go_ret
      exact ⟨rfl, hrow, hmv⟩
theorem zC (l : List Tm) (t : Tm) (v x : Value) (w : World) (ho : Tm.Ord l) (ht : t ∈ l) (hv : TmsR w l v) (hx : TmR w t x) :
    Calls Tryz.prog 50 #[v, x] w fun e w' => e = .returned (.int .i64 (Tm.pos l t : Nat)) ∧ Below w.heap.size w w' := by
  refine (zbv l t v x w hv hx).mono ?_
  rintro e w' ⟨⟨n, rfl, hn⟩, hb⟩
  rw [(hn.pos' ho ht).1]
  exact ⟨rfl, hb⟩
def SameTo (ps : List Tm) (c : List Nat) (x y : Tm) (k : Nat) : Prop := ∀ j, j < k → ∀ (h1 : j < x.kids.length) (h2 : j < y.kids.length), Clo.cl c (Tm.pos ps x.kids[j]) = Clo.cl c (Tm.pos ps y.kids[j])
theorem zdi (ps : List Tm) (c : List Nat) (v u : Value) (B a b : Nat) (w : World) (ho : Tm.Ord ps) (hc : c.length = ps.length) (hl : c.length ≤ 1000000000) (ha : a < ps.length) (hb : b < ps.length) (hv : TmsR w ps v) (hu : IRow w B u (nats c)) :
    Calls Tryz.prog 105 #[v, u, .int .i64 a, .int .i64 b] w fun e w' => e = .returned (.bool (Clo.alikeB ps c ps[a] ps[b])) ∧ Below w.heap.size w w' := by
  obtain ⟨g, cp, rfl, hgB, hgw, hcp⟩ := hu.form (by rw [zt]; omega)
  rw [zt] at hu hcp ⊢
  obtain ⟨pa, pc, rfl, _, _⟩ := hv.form
  obtain ⟨pb, off, rfl, hpb⟩ := hv.addr (by omega)
  obtain ⟨xa, xc, x0, x1, xs, xk⟩ := hv.at ha
  obtain ⟨ya, yc, y0, y1, ys, yk⟩ := hv.at hb
  have HX : ∀ t ∈ ps[a].kids, t ∈ ps := fun t ht => ho.kid ha ht
  have HY : ∀ t ∈ ps[b].kids, t ∈ ps := fun t ht => ho.kid hb ht
  have HXY := Lib.hid (And.intro HX HY)
  have HO := Lib.hid ho
  obtain ⟨x, hx⟩ : ∃ x, x = ps[a] := ⟨_, rfl⟩
  obtain ⟨y, hy⟩ : ∃ y, y = ps[b] := ⟨_, rfl⟩
  rw [← hx] at x0 x1 xs xk HXY ⊢
  rw [← hy] at y0 y1 ys yk HXY ⊢
  have HC : Hid (c.length = ps.length) := Lib.hid hc
  clear hx hy HX HY ho hc
  have HA : Hid (∀ r, (((decide (x.name = y.name) && decide (0 < x.kids.length)) && Clo.kidsB ps c x.kids y.kids) = r) → Clo.alikeB ps c x y = r) := Lib.hid (fun r h => h)
  by_cases hn : x.name.toList = y.name.toList
  rotate_left
  · have HF := Lib.hid (HA.out false (by have : ¬ x.name = y.name := fun e => hn (by rw [e]); simp [this]))
    go_enter Tryz.func105, Tryz.ntmps105
    go_wp2_with fail
    go_ret
    exact ⟨retB HF.out.symm, ((Below.refl _ _).alloc (Nat.le_refl _) _).alloc (by simp) _⟩
  by_cases hk : (x.kids.length : Int) = y.kids.length
  rotate_left
  · have HF := Lib.hid (HA.out false (by have : Clo.kidsB ps c x.kids y.kids = false := Clo.kidsB_len (by omega); simp [this]))
    go_enter Tryz.func105, Tryz.ntmps105
    go_wp2_with fail
    go_ret
    exact ⟨retB HF.out.symm, ((Below.refl _ _).alloc (Nat.le_refl _) _).alloc (by simp) _⟩
  by_cases h0 : ((x.kids.length : Int) == 0) = true
  · have HF := Lib.hid (HA.out false (by have : x.kids.length = 0 := by simpa using h0
                                         simp [this]))
    have h0' : ((y.kids.length : Int) == 0) = true := by rw [← hk]; exact h0
    go_enter Tryz.func105, Tryz.ntmps105
    go_wp2_with fail
    go_ret
    exact ⟨retB HF.out.symm, ((Below.refl _ _).alloc (Nat.le_refl _) _).alloc (by simp) _⟩
  have h0b : ((x.kids.length : Int) == 0) = false := by simpa using h0
  have h0' : ((y.kids.length : Int) == 0) = false := by rw [← hk]; exact h0b
  have hkl : x.kids.length = y.kids.length := by omega
  have HKL : Hid (x.kids.length = y.kids.length) := Lib.hid hkl
  have hxl : x.kids.length ≤ 9223372036854775807 := by
    obtain ⟨a9, c9, e9, h8, h9⟩ := xk.form
    omega
  have hkb : ((x.kids.length : Int) != (y.kids.length : Int)) = false := by rw [hk]; simp
  have HT := Lib.hid (fun (h : Clo.kidsB ps c x.kids y.kids = true) => HA.out true (by
    have e1 : x.name = y.name := zZ.1 hn
    have e2 : 0 < x.kids.length := by have : ¬ x.kids.length = 0 := by simpa using h0b
                                      omega
    simp [e1, e2, h]))
  have HF := Lib.hid (fun (h : Clo.kidsB ps c x.kids y.kids = false) => HA.out false (by simp [h]))
  have hnb : (x.name.toList == y.name.toList) = true := by rw [hn]; simp
  have hnb' : (x.name.toList != y.name.toList) = false := by rw [hn]; simp
  clear h0 hk hkl hn
  go_enter Tryz.func105, Tryz.ntmps105
  go_wp2_with fail
  go_loopw [11] (fun i wr => ∃ k : Nat, k ≤ x.kids.length ∧ i = .int .i64 k ∧ Hid (SameTo ps c x y k) ∧ Below (w.heap.size + 1 + 1) ((w.alloc (.cells #[.string x.name, .slice xa x.kids.length xc] 29)).alloc (.cells #[.string y.name, .slice ya y.kids.length yc] 29)) wr) (fun i _ => x.kids.length - (intOf i).toNat)
  case atStart => exact ⟨0, Nat.zero_le _, rfl, Lib.hid (fun j hj => by omega), Below.refl _ _⟩
  case round =>
    obtain ⟨k, hkl2, rfl, hall, hbb⟩ := hrel
    obtain ⟨bx, by', hz, hB⟩ := box2 hbb
    have X1 : wr.cell? ⟨w.heap.size, 1, none⟩ = some (.slice xa x.kids.length xc) := bx 1
    have Y1 : wr.cell? ⟨w.heap.size + 1, 1, none⟩ = some (.slice ya y.kids.length yc) := by' 1
    clear bx by'
    by_cases hlt : k < x.kids.length
    · have hlty : k < y.kids.length := by rw [← HKL.out]; exact hlt
      obtain ⟨xb, xo, rfl, hxb⟩ := xk.addr (by omega)
      obtain ⟨yb, yo, rfl, hyb⟩ := yk.addr (by omega)
      obtain ⟨ka, kc, c0, c1, cs, ck⟩ := (xk.below hB).at hlt
      obtain ⟨ja, jc, d0, d1, ds, dk⟩ := (yk.below hB).at hlty
      have hmx := HXY.out.1 _ (zes hlt)
      have hmy := HXY.out.2 _ (zes hlty)
      have hpx := (Tm.pos_yes hmx).1
      have hpy := (Tm.pos_yes hmy).1
      have e0 := ((hu.below hB).cell (k := Tm.pos ps x.kids[k]) (by rw [zt, HC.out]; exact hpx)).1
      have e1 := ((hu.below hB).cell (k := Tm.pos ps y.kids[k]) (by rw [zt, HC.out]; exact hpy)).1
      rw [Clo.nats_get (by rw [HC.out]; exact hpx)] at e0
      rw [Clo.nats_get (by rw [HC.out]; exact hpy)] at e1
      have hcx : Tm.pos ps x.kids[k] < c.length := by rw [HC.out]; exact hpx
      have hcy : Tm.pos ps y.kids[k] < c.length := by rw [HC.out]; exact hpy
      have hvw := hv.below hB
      by_cases he : Clo.cl c (Tm.pos ps x.kids[k]) = Clo.cl c (Tm.pos ps y.kids[k])
      · have heb : (((Clo.cl c (Tm.pos ps x.kids[k]) : Nat) : Int) != ((Clo.cl c (Tm.pos ps y.kids[k]) : Nat) : Int)) = false := by rw [he]; simp
        have HE := Lib.hid he
        clear he
        go_wp2_with fail
        have q0 := cell_regrown X1
        have q1 := cell_regrown Y1
        have q2 := cell_regrown c0
        have q3 := cell_regrown c1
        have q4 := cell_regrown d0
        have q5 := cell_regrown d1
        have q6 := cell_regrown e0
        have q7 := cell_regrown e1
        refine wp_region_quiet_below (by kernel_rfl) (by kernel_rfl) ?_
        repeat (quiet_step (first
          | (with_reducible refine Calls.regrown_of (zC ps x.kids[k] _ _ _ HO.out hmx (hvw.below (below_regrown _ _ _)) ((TmR.mk cs ck).below (below_regrown _ _ _))))
          | (with_reducible refine Calls.regrown_of (zC ps y.kids[k] _ _ _ HO.out hmy (hvw.below (below_regrown _ _ _)) ((TmR.mk ds dk).below (below_regrown _ _ _))))))
        refine wpQuiet_nil ?_
        intro w2 hw2
        obtain ⟨⟨dq, osq⟩, hw2⟩ := hw2
        have hb2 : Below wr.heap.size wr w2 := hw2 ▸ below_regrown wr dq osq
        clear hw2 q0 q1 q2 q3 q4 q5 q6 q7
        go_wp2_with fail
        go_roundw
        case rel => exact ⟨k + 1, by omega, by go_num, Lib.hid (fun j hj h1 h2 => by
          rcases Nat.lt_or_ge j k with h | h
          · exact hall.out j h h1 h2
          · obtain rfl : j = k := by omega
            exact HE.out), hbb.trans (hb2.mono (by omega))⟩
        case measure => simp [intOf]; omega
      · have heb : (((Clo.cl c (Tm.pos ps x.kids[k]) : Nat) : Int) != ((Clo.cl c (Tm.pos ps y.kids[k]) : Nat) : Int)) = true := by simp; omega
        have HK := Lib.hid (HF.out (Clo.kidsB_at hlt hlty he))
        clear he
        go_wp2_with fail
        have q0 := cell_regrown X1
        have q1 := cell_regrown Y1
        have q2 := cell_regrown c0
        have q3 := cell_regrown c1
        have q4 := cell_regrown d0
        have q5 := cell_regrown d1
        have q6 := cell_regrown e0
        have q7 := cell_regrown e1
        refine wp_region_quiet_below (by kernel_rfl) (by kernel_rfl) ?_
        repeat (quiet_step (first
          | (with_reducible refine Calls.regrown_of (zC ps x.kids[k] _ _ _ HO.out hmx (hvw.below (below_regrown _ _ _)) ((TmR.mk cs ck).below (below_regrown _ _ _))))
          | (with_reducible refine Calls.regrown_of (zC ps y.kids[k] _ _ _ HO.out hmy (hvw.below (below_regrown _ _ _)) ((TmR.mk ds dk).below (below_regrown _ _ _))))))
        refine wpQuiet_nil ?_
        intro w2 hw2
        obtain ⟨⟨dq, osq⟩, hw2⟩ := hw2
        have hb2 : Below wr.heap.size wr w2 := hw2 ▸ below_regrown wr dq osq
        clear hw2 q0 q1 q2 q3 q4 q5 q6 q7
        go_wp2_with fail
        go_ret
        exact ⟨retB HK.out.symm, hB.trans (hb2.mono (by omega))⟩
    · have HK := Lib.hid (HT.out (Clo.kidsB_all HKL.out (fun j h1 h2 => hall.out j (by omega) h1 h2)))
      go_wp2_with fail
      go_ret
      exact ⟨retB HK.out.symm, hB⟩
theorem Clo.upto2_succ {ps : List Tm} {c : List Nat} {i k : Nat} (h : Clo.Upto2 ps c i k) (hb : Clo.badB ps c k i = false) : Clo.Upto2 ps c i (k + 1) := fun j hj => by
  rcases Nat.lt_or_ge j k with h1 | h1
  · exact h j h1
  · obtain rfl : j = k := by omega
    exact hb
theorem Clo.bad_same {ps : List Tm} {c : List Nat} {k i : Nat} (h : Clo.cl c k = Clo.cl c i) : Clo.badB ps c k i = false := by
  unfold Clo.badB
  split
  · rw [h]; simp
  · rfl
theorem Clo.bad_no {ps : List Tm} {c : List Nat} {k i : Nat} (hk : k < ps.length) (hi : i < ps.length) (h : Clo.alikeB ps c ps[k] ps[i] = false) : Clo.badB ps c k i = false := by
  unfold Clo.badB
  rw [List.getElem?_eq_getElem hk, List.getElem?_eq_getElem hi]
  simp [h]
theorem Clo.bad_yes {ps : List Tm} {c : List Nat} {k i : Nat} (hk : k < ps.length) (hi : i < ps.length) (hne : Clo.cl c k ≠ Clo.cl c i) (h : Clo.alikeB ps c ps[k] ps[i] = true) : Clo.badB ps c k i = true := by
  unfold Clo.badB
  rw [List.getElem?_eq_getElem hk, List.getElem?_eq_getElem hi]
  simp [h, hne]
theorem zb5 (ps : List Tm) (c : List Nat) (v u : Value) (B a b : Nat) (w : World) (r : Bool) (ho : Tm.Ord ps) (hc : c.length = ps.length) (hl : c.length ≤ 1000000000) (ha : a < ps.length) (hb : b < ps.length) (hr : Clo.alikeB ps c ps[a] ps[b] = r) (hv : TmsR w ps v) (hu : IRow w B u (nats c)) :
    Calls Tryz.prog 105 #[v, u, .int .i64 a, .int .i64 b] w fun e w' => e = .returned (.bool r) ∧ Below w.heap.size w w' := by
  subst hr
  exact zdi ps c v u B a b w ho hc hl ha hb hv hu
/-- What comes back: the next pair, or none. -/
def nextV (o : Option (Nat × Nat)) : Value := match o with
  | some (k, i) => .tuple #[.int .i64 k, .int .i64 i, .bool true]
  | none => .tuple #[.int .i64 0, .int .i64 0, .bool false]
theorem zb6 (ps : List Tm) (c : List Nat) (v u : Value) (B : Nat) (w : World) (ho : Tm.Ord ps) (hc : c.length = ps.length) (hl : c.length ≤ 1000000000) (hv : TmsR w ps v) (hu : IRow w B u (nats c)) :
    Calls Tryz.prog 76 #[v, u] w fun e w' => e = .returned (nextV (Clo.next ps c)) ∧ Below w.heap.size w w' := by
  obtain ⟨pa, pc, rfl, hpc1, hpc2⟩ := hv.form
  have HO := Lib.hid ho
  have HC : Hid (c.length = ps.length) := Lib.hid hc
  have hlp : ps.length ≤ 1000000000 := by omega
  clear ho hc
  go_enter Tryz.func76, Tryz.ntmps76
  go_wp2_with fail
  go_loopw [7] (fun i wr => ∃ n : Nat, n ≤ ps.length ∧ i = .int .i64 n ∧ Hid (Clo.Upto ps c n) ∧ Below w.heap.size w wr) (fun i _ => ps.length - (intOf i).toNat)
  case atStart => exact ⟨0, Nat.zero_le _, rfl, Lib.hid (fun j hj => by omega), Below.refl _ _⟩
  case round =>
    obtain ⟨n, hn, rfl, hup, hB⟩ := hrel
    by_cases hlt : n < ps.length
    · go_wp2_with fail
      go_loopw [8] (fun j wq => ∃ k : Nat, k ≤ n ∧ j = .int .i64 k ∧ Hid (Clo.Upto2 ps c n k) ∧ Below w.heap.size w wq) (fun j _ => n - (intOf j).toNat)
      case atStart => exact ⟨0, Nat.zero_le _, rfl, Lib.hid (fun j hj => by omega), hB⟩
      case round =>
        clear hB
        obtain ⟨k, hk, rfl, hup2, hB⟩ := hrel
        by_cases hlk : k < n
        · have hkp : k < ps.length := by omega
          obtain ⟨g, cp, hcv, hgB, hgw, hcp⟩ := hu.form (by rw [zt, HC.out]; omega)
          rw [zt] at hcv hcp
          subst hcv
          have e0 := ((hu.below hB).cell (k := n) (by rw [zt, HC.out]; exact hlt)).1
          have e1 := ((hu.below hB).cell (k := k) (by rw [zt, HC.out]; exact hkp)).1
          rw [Clo.nats_get (by rw [HC.out]; exact hlt)] at e0
          rw [Clo.nats_get (by rw [HC.out]; exact hkp)] at e1
          have hcx : n < c.length := by rw [HC.out]; exact hlt
          have hcy : k < c.length := by rw [HC.out]; exact hkp
          have hvw := hv.below hB
          have huw := hu.below hB
          by_cases he : Clo.cl c n = Clo.cl c k
          · have heb : (((Clo.cl c n : Nat) : Int) != ((Clo.cl c k : Nat) : Int)) = false := by rw [he]; simp
            have HE : Hid (Clo.badB ps c k n = false) := Lib.hid (Clo.bad_same he.symm)
            clear he
            go_wp2_with fail
            have q0 := cell_regrown e0
            have q1 := cell_regrown e1
            refine wp_region_quiet_below (by kernel_rfl) (by kernel_rfl) ?_
            repeat (quiet_step (fail))
            refine wpQuiet_nil ?_
            intro w2 hw2
            obtain ⟨⟨dq, osq⟩, hw2⟩ := hw2
            have hb2 : Below wr.heap.size wr w2 := hw2 ▸ below_regrown wr dq osq
            clear hw2 q0 q1
            go_wp2_with fail
            go_roundw
            case rel => exact ⟨k + 1, by omega, by go_num, Lib.hid (Clo.upto2_succ hup2.out HE.out), hB.trans (hb2.mono hB.size)⟩
            case measure => simp [intOf]; omega
          · have heb : (((Clo.cl c n : Nat) : Int) != ((Clo.cl c k : Nat) : Int)) = true := by simp; omega
            have HNE := Lib.hid (fun (e : Clo.cl c k = Clo.cl c n) => he e.symm)
            clear he
            cases hal : Clo.alikeB ps c ps[k] ps[n]
            · have HE : Hid (Clo.badB ps c k n = false) := Lib.hid (Clo.bad_no hkp hlt hal)
              have HAL := Lib.hid hal
              clear hal
              go_wp2_with fail
              have q0 := cell_regrown e0
              have q1 := cell_regrown e1
              refine wp_region_quiet_below (by kernel_rfl) (by kernel_rfl) ?_
              repeat (quiet_step (with_reducible refine Calls.regrown_of (zb5 ps c _ _ B k n _ _ HO.out HC.out hl hkp hlt HAL.out (hvw.below (below_regrown _ _ _)) (huw.below (below_regrown _ _ _)))))
              refine wpQuiet_nil ?_
              intro w2 hw2
              obtain ⟨⟨dq, osq⟩, hw2⟩ := hw2
              have hb2 : Below wr.heap.size wr w2 := hw2 ▸ below_regrown wr dq osq
              clear hw2 q0 q1
              go_wp2_with fail
              go_roundw
              case rel => exact ⟨k + 1, by omega, by go_num, Lib.hid (Clo.upto2_succ hup2.out HE.out), hB.trans (hb2.mono hB.size)⟩
              case measure => simp [intOf]; omega
            · have HE := Lib.hid (Clo.next_some hup.out hup2.out hlk hlt (Clo.bad_yes hkp hlt HNE.out hal))
              have HAL := Lib.hid hal
              clear hal
              go_wp2_with fail
              have q0 := cell_regrown e0
              have q1 := cell_regrown e1
              refine wp_region_quiet_below (by kernel_rfl) (by kernel_rfl) ?_
              repeat (quiet_step (with_reducible refine Calls.regrown_of (zb5 ps c _ _ B k n _ _ HO.out HC.out hl hkp hlt HAL.out (hvw.below (below_regrown _ _ _)) (huw.below (below_regrown _ _ _)))))
              refine wpQuiet_nil ?_
              intro w2 hw2
              obtain ⟨⟨dq, osq⟩, hw2⟩ := hw2
              have hb2 : Below wr.heap.size wr w2 := hw2 ▸ below_regrown wr dq osq
              clear hw2 q0 q1
              go_wp2_with fail
              (try simp only [Exit.inBlock, Exit.then])
              refine bodyPost_ret (results_tmp3 rfl _ _ _) rfl ?_
              exact ⟨by rw [HE.out]; rfl, hB.trans (hb2.mono hB.size)⟩
        · go_wp2_with fail
          go_roundw
          case rel => exact ⟨n + 1, by omega, by go_num, Lib.hid (fun j hj i hi => by
            rcases Nat.lt_or_ge j n with h | h
            · exact hup.out j h i hi
            · obtain rfl : j = n := by omega
              exact hup2.out i (by omega)), hB⟩
          case measure => simp [intOf]; omega
    · have HN := Lib.hid (Clo.next_none (ps := ps) (c := c) (fun j hj => hup.out j (by omega)))
      go_wp2_with fail
      (try simp only [Exit.inBlock, Exit.then])
      refine bodyPost_ret (results_tmp3 rfl _ _ _) rfl ?_
      exact ⟨by rw [HN.out]; rfl, hB⟩
end Go.Proofs.YtlefdhhnlbpbkaaGreat
end
