import Derived.Deep.RegionHeld3
import Derived.BigQuiet
import Derived.Test.YtblbommhodondaaSmP
import Derived.Test.YtblbommhodondaaRdrE
import Derived.Test.YtblbommhodondaaCloU
import Derived.Deep.CutRange
import Derived.Test.YtblbommhodondaaCloY
/- What the laws on the closure call: wpNums, wpKids. -/
namespace Go.Proofs.Ytblbommhodondaa
open Go Go.RowKit
set_option linter.unusedVariables false
set_option linter.unusedSimpArgs false

theorem nats_at {c : List Nat} {k : Nat} (h : k < (nats c).length) : (nats c)[k] = ((Clo.cl c k : Nat) : Int) := by
  have h' : k < c.length := by simpa [nats] using h
  simp only [nats, List.getElem_map, Clo.cl, List.getD_eq_getElem?_getD, List.getElem?_eq_getElem h', Option.getD_some]
theorem len_of_eq {a b : Nat} (h : a = b) : ((a : Int) == (b : Int)) = true := by rw [h]; simp
theorem wpNums_same (xs : List Int) (v y : Value) (f f' : List Nat) (w : World) (hv : Rd w (.sl (xs.map intCd)) v f) (hx : Rd w (.sl (xs.map intCd)) y f') :
    Calls Try.prog 14 #[v, y] w fun e w' => e = .returned (.bool true) ∧ Below w.heap.size w w' := by
  obtain ⟨a, c, rfl, hc1, hc2⟩ := rd_sl_inv hv
  obtain ⟨a', c', rfl, hc1', hc2'⟩ := rd_sl_inv hx
  go_enter Try.func14, Try.ntmps14
  go_wp2_with fail
  go_loopw [5] (fun i wr => ∃ k : Nat, k ≤ xs.length ∧ i = .int .i64 k ∧ Below w.heap.size w wr) (fun i _ => xs.length - (intOf i).toNat)
  case atStart => exact ⟨0, Nat.zero_le _, rfl, Below.refl _ _⟩
  case round =>
    obtain ⟨k, hkl, rfl, hb⟩ := hrel
    have hz := hb.size
    by_cases hlt : k < xs.length
    · obtain ⟨b, off, rfl, hbs, _⟩ := rd_addr hv (by omega)
      obtain ⟨b', off', rfl, hbs', _⟩ := rd_addr hx (by omega)
      obtain ⟨d0, _⟩ := intCd_at (hv.below hb) hlt
      obtain ⟨d0', _⟩ := intCd_at (hx.below hb) hlt
      go_wp2_with fail
      have q0 := cell_regrown d0
      have q0' := cell_regrown d0'
      clear d0 d0'
      refine wp_region_quiet_below (by kernel_rfl) (by kernel_rfl) ?_
      repeat (quiet_step (fail))
      refine wpQuiet_nil ?_
      intro w2 hw2
      obtain ⟨⟨dq, osq⟩, hw2⟩ := hw2
      have hb2 : Below wr.heap.size wr w2 := hw2 ▸ below_regrown wr dq osq
      clear hw2 q0 q0'
      go_wp2_with fail
      go_roundw
      case rel => exact ⟨k + 1, by omega, by go_num, hb.trans (hb2.mono hz)⟩
      case measure => simp [intOf]; omega
    · go_wp2_with fail
      go_ret
      exact ⟨rfl, hb⟩
/-- Up to k the kids are in one class each. -/
def KidsTo (ps : List Tm) (c : List Nat) (xs ys : List Tm) (k : Nat) : Prop := ∀ j, j < k → ∀ (h1 : j < xs.length) (h2 : j < ys.length), Clo.cl c (Tm.pos ps xs[j]) = Clo.cl c (Tm.pos ps ys[j])
theorem KidsTo.succ {ps : List Tm} {c : List Nat} {xs ys : List Tm} {k : Nat} (h : KidsTo ps c xs ys k) (hk1 : k < xs.length) (hk2 : k < ys.length) (he : Clo.cl c (Tm.pos ps xs[k]) = Clo.cl c (Tm.pos ps ys[k])) : KidsTo ps c xs ys (k + 1) := fun j hj h1 h2 => by
  rcases Nat.lt_or_ge j k with h3 | h3
  · exact h j h3 h1 h2
  · obtain rfl : j = k := by omega
    exact he
theorem wpPlace_eq {P : Program} {fn : Nat} {args : Array Value} {w : World} {n m : Int} (h : n = m) (hc : Calls P fn args w fun e w' => e = .returned (.int .i64 n) ∧ Below w.heap.size w w') : Calls P fn args w fun e w' => e = .returned (.int .i64 m) ∧ Below w.heap.size w w' := h ▸ hc
set_option maxHeartbeats 4000000 in
theorem wpKids_any (ps : List Tm) (c : List Nat) (i k : Nat) (v u : Value) (f : List Nat) (w : World) (ho : Hid (Tm.Ord ps)) (hl : c.length = ps.length) (hps : ps.length ≤ 24) (hi : i < ps.length) (hk : k < ps.length) (hks : ∀ t ∈ ps, t.kids.length ≤ 5000) (hv : TmsR w ps v) (hu : Rd w (.sl ((nats c).map intCd)) u f) :
    Calls Try.prog 16 #[v, u, .int .i64 i, .int .i64 k] w fun e w' => e = .returned (.bool (Clo.kidsB ps c ps[i].kids ps[k].kids)) ∧ Below w.heap.size w w' := by
  obtain ⟨a, cap, rfl, hc1, hc2⟩ := hv.form
  obtain ⟨b1, off1, rfl, hbs1⟩ := hv.addr (by omega)
  obtain ⟨ua, uc, rfl, huc1, huc2⟩ := rd_sl_inv hu
  rw [nats_len] at huc1
  obtain ⟨b2, off2, rfl, hbs2, _⟩ := rd_addr hu (by rw [nats_len]; omega)
  obtain ⟨xa, xc, c0, c1, hss, hkk⟩ := hv.at hi
  obtain ⟨ya, yc, d0, d1, hst, hkl⟩ := hv.at hk
  obtain ⟨_, _, _, hx1, hx2⟩ := hkk.form
  obtain ⟨_, _, _, hy1, hy2⟩ := hkl.form
  have hki := hks _ (List.getElem_mem hi)
  have hkj := hks _ (List.getElem_mem hk)
  have hii : (i : Int) < (ps.length : Int) := by omega
  have hkk' : (k : Int) < (ps.length : Int) := by omega
  have hKI := Lib.hid (fun t (ht : t ∈ ps[i].kids) => Tm.Ord.kid ho.out hi ht)
  have hKJ := Lib.hid (fun t (ht : t ∈ ps[k].kids) => Tm.Ord.kid ho.out hk ht)
  clear ho hks
  rw [nats_len]
  go_enter Try.func16, Try.ntmps16
  go_wp2_with fail
  have q0 := cell_regrown c1
  have q1 := cell_regrown d1
  refine wp_region_quiet_below (by kernel_rfl) (by kernel_rfl) ?_
  repeat (go_big_quiet_step (fail))
  refine wpQuiet_nil ?_
  intro w2 hw2
  obtain ⟨⟨dq, osq⟩, hw2⟩ := hw2
  have hb2 : Below w.heap.size w w2 := hw2 ▸ below_regrown w dq osq
  clear hw2 q0 q1 dq osq
  by_cases hle : ps[i].kids.length = ps[k].kids.length
  rotate_left
  · have hq : ((ps[i].kids.length : Int) == (ps[k].kids.length : Int)) = false := beq_eq_false_iff_ne.2 (by omega)
    have HF := Lib.hid (Clo.kidsB_len (ps := ps) (c := c) hle)
    go_wp2_with fail
    go_ret
    exact ⟨retB HF.out.symm, hb2⟩
  have hq := len_of_eq hle
  go_wp2_with fail
  go_loopw [9] (fun jv wr => ∃ j : Nat, j ≤ ps[i].kids.length ∧ jv = .int .i64 j ∧ Hid (KidsTo ps c ps[i].kids ps[k].kids j) ∧ Below w.heap.size w wr) (fun jv _ => ps[i].kids.length - (intOf jv).toNat)
  case atStart => exact ⟨0, Nat.zero_le _, rfl, Lib.hid (fun j hj => by omega), hb2⟩
  case round =>
    clear hb2
    obtain ⟨j, hjl, rfl, hall, hb⟩ := hrel
    have hz := hb.size
    have hvw := hv.below hb
    replace c1 := cell_keep c1 hb
    replace d1 := cell_keep d1 hb
    by_cases hlj : j < ps[i].kids.length
    · have hlk : j < ps[k].kids.length := by omega
      obtain ⟨b3, off3, rfl, hbs3⟩ := hkk.addr (by omega)
      obtain ⟨b4, off4, rfl, hbs4⟩ := hkl.addr (by omega)
      obtain ⟨la, lc, e0, e1, hs3, hk3⟩ := (hkk.below hb).at hlj
      obtain ⟨ma, mc, g0, g1, hs4, hk4⟩ := (hkl.below hb).at hlk
      have hm3 := hKI.out _ (List.getElem_mem hlj)
      have hm4 := hKJ.out _ (List.getElem_mem hlk)
      have HP3 := Lib.hid (Tm.plc_pos hm3)
      have HP4 := Lib.hid (Tm.plc_pos hm4)
      have hp3 := (Tm.pos_yes hm3).1
      have hp4 := (Tm.pos_yes hm4).1
      obtain ⟨z3, _⟩ := intCd_at (hu.below hb) (k := Tm.pos ps ps[i].kids[j]) (by rw [nats_len]; omega)
      obtain ⟨z4, _⟩ := intCd_at (hu.below hb) (k := Tm.pos ps ps[k].kids[j]) (by rw [nats_len]; omega)
      rw [nats_at] at z3 z4
      have hz3 : (Tm.pos ps ps[i].kids[j] : Int) < (c.length : Int) := by omega
      have hz4 : (Tm.pos ps ps[k].kids[j] : Int) < (c.length : Int) := by omega
      clear hm3 hm4
      have hjj : (j : Int) < (ps[i].kids.length : Int) := by omega
      have hjk : (j : Int) < (ps[k].kids.length : Int) := by omega
      by_cases hcl : Clo.cl c (Tm.pos ps ps[i].kids[j]) = Clo.cl c (Tm.pos ps ps[k].kids[j])
      · have hq2 := len_of_eq hcl
        have HS := Lib.hid (hall.out.succ hlj hlk hcl)
        go_wp2_with fail
        have q0 := cell_regrown c1
        have q1 := cell_regrown d1
        have q2 := cell_regrown e0
        have q3 := cell_regrown e1
        have q4 := cell_regrown g0
        have q5 := cell_regrown g1
        have q6 := cell_regrown z3
        have q7 := cell_regrown z4
        refine wp_region_quiet_below (by kernel_rfl) (by kernel_rfl) ?_
        repeat (go_big_quiet_step (first
          | (with_reducible refine Calls.regrown_of (wpPlace_eq HP3.out (wpPlace_any ps ps[i].kids[j] _ _ _ (hvw.below (below_regrown _ _ _)) ((TmR.mk hs3 hk3).below (below_regrown _ _ _)))))
          | (with_reducible refine Calls.regrown_of (wpPlace_eq HP4.out (wpPlace_any ps ps[k].kids[j] _ _ _ (hvw.below (below_regrown _ _ _)) ((TmR.mk hs4 hk4).below (below_regrown _ _ _)))))))
        refine wpQuiet_nil ?_
        intro w9 hw9
        obtain ⟨⟨dq, osq⟩, hw9⟩ := hw9
        have hb9 : Below wr.heap.size wr w9 := hw9 ▸ below_regrown wr dq osq
        clear hw9 q0 q1 q2 q3 q4 q5 q6 q7
        go_wp2_with fail
        go_roundw
        case rel => exact ⟨j + 1, by omega, by go_num, HS, hb.trans (hb9.mono hz)⟩
        case measure => simp [intOf]; omega
      · have hq2 : (((Clo.cl c (Tm.pos ps ps[i].kids[j]) : Nat) : Int) == ((Clo.cl c (Tm.pos ps ps[k].kids[j]) : Nat) : Int)) = false := beq_eq_false_iff_ne.2 (by omega)
        have HF := Lib.hid (Clo.kidsB_not hlj hlk hcl)
        go_wp2_with fail
        have q0 := cell_regrown c1
        have q1 := cell_regrown d1
        have q2 := cell_regrown e0
        have q3 := cell_regrown e1
        have q4 := cell_regrown g0
        have q5 := cell_regrown g1
        have q6 := cell_regrown z3
        have q7 := cell_regrown z4
        refine wp_region_quiet_below (by kernel_rfl) (by kernel_rfl) ?_
        repeat (go_big_quiet_step (first
          | (with_reducible refine Calls.regrown_of (wpPlace_eq HP3.out (wpPlace_any ps ps[i].kids[j] _ _ _ (hvw.below (below_regrown _ _ _)) ((TmR.mk hs3 hk3).below (below_regrown _ _ _)))))
          | (with_reducible refine Calls.regrown_of (wpPlace_eq HP4.out (wpPlace_any ps ps[k].kids[j] _ _ _ (hvw.below (below_regrown _ _ _)) ((TmR.mk hs4 hk4).below (below_regrown _ _ _)))))))
        refine wpQuiet_nil ?_
        intro w9 hw9
        obtain ⟨⟨dq, osq⟩, hw9⟩ := hw9
        have hb9 : Below wr.heap.size wr w9 := hw9 ▸ below_regrown wr dq osq
        clear hw9 q0 q1 q2 q3 q4 q5 q6 q7
        go_wp2_with fail
        go_ret
        exact ⟨retB HF.out.symm, hb.trans (hb9.mono hz)⟩
    · have HF := Lib.hid (Clo.kidsB_all (ps := ps) (c := c) hle (fun j h1 h2 => hall.out j (by omega) h1 h2))
      go_wp2_with fail
      go_ret
      exact ⟨retB HF.out.symm, hb⟩
end Go.Proofs.Ytblbommhodondaa
/- What a law has drawn, in three boxes. -/
namespace Go.Proofs.Ytblbommhodondaa
open Go Go.RowKit
set_option linter.unusedVariables false
set_option linter.unusedSimpArgs false
/-- What a law has drawn, in three boxes. -/
structure Env5 (W : World) (n : Nat) (s : Sg) (es : List Eqn) (a b : Tm) (sa : Option Addr) (sc : Nat) (ev : Value) (ka : Option Addr) (kc : Nat) (kb : Option Addr) (kd : Nat) (sf ef fa fb : List Nat) : Prop where
  x0 : W.cell? ⟨n, 0, none⟩ = some (.slice sa s.syms.length sc)
  y0 : W.cell? ⟨n + 1, 0, none⟩ = some (.string a.name)
  y1 : W.cell? ⟨n + 1, 1, none⟩ = some (.slice ka a.kids.length kc)
  k0 : W.cell? ⟨n + 1 + 1, 0, none⟩ = some (.string b.name)
  k1 : W.cell? ⟨n + 1 + 1, 1, none⟩ = some (.slice kb b.kids.length kd)
  hs : RdVs W s.cd [.slice sa s.syms.length sc] sf
  he : Rd W (.sl (es.map Eqn.cd)) ev ef
  ha : RdVs W a.cd [.string a.name, .slice ka a.kids.length kc] fa
  hb : RdVs W b.cd [.string b.name, .slice kb b.kids.length kd] fb
theorem Env5.below {W W' : World} {n : Nat} {s : Sg} {es : List Eqn} {a b : Tm} {sa : Option Addr} {sc : Nat} {ev : Value} {ka : Option Addr} {kc : Nat} {kb : Option Addr} {kd : Nat} {sf ef fa fb : List Nat} (h : Env5 W n s es a b sa sc ev ka kc kb kd sf ef fa fb) (hb : Below W.heap.size W W') : Env5 W' n s es a b sa sc ev ka kc kb kd sf ef fa fb :=
  ⟨cell_keep h.x0 hb, cell_keep h.y0 hb, cell_keep h.y1 hb, cell_keep h.k0 hb, cell_keep h.k1 hb, h.hs.below hb, h.he.below hb, h.ha.below hb, h.hb.below hb⟩
theorem env5_new {u : World} {s : Sg} {es : List Eqn} {a b : Tm} {sa : Option Addr} {sc : Nat} {ev : Value} {ka : Option Addr} {kc : Nat} {kb : Option Addr} {kd : Nat} {sf ef fa fb : List Nat} (T U V : TypeId) (hs : RdVs u s.cd [.slice sa s.syms.length sc] sf) (he : Rd u (.sl (es.map Eqn.cd)) ev ef) (ha : RdVs u a.cd [.string a.name, .slice ka a.kids.length kc] fa) (hb : RdVs u b.cd [.string b.name, .slice kb b.kids.length kd] fb) :
    Env5 (((u.alloc (.cells #[.slice sa s.syms.length sc] T)).alloc (.cells #[.string a.name, .slice ka a.kids.length kc] U)).alloc (.cells #[.string b.name, .slice kb b.kids.length kd] V)) u.heap.size s es a b sa sc ev ka kc kb kd sf ef fa fb ∧
    Below u.heap.size u (((u.alloc (.cells #[.slice sa s.syms.length sc] T)).alloc (.cells #[.string a.name, .slice ka a.kids.length kc] U)).alloc (.cells #[.string b.name, .slice kb b.kids.length kd] V)) := by
  obtain ⟨X, Y, K, hbb, hsz⟩ := box3_new u [.slice sa s.syms.length sc] [.string a.name, .slice ka a.kids.length kc] [.string b.name, .slice kb b.kids.length kd] T U V
  exact ⟨⟨X 0 _ rfl, Y 0 _ rfl, Y 1 _ rfl, K 0 _ rfl, K 1 _ rfl, hs.below hbb, he.below hbb, ha.below hbb, hb.below hbb⟩, hbb⟩
theorem moreP_small {es : List Eqn} {a b : Tm} {n : Nat} (h : ∀ q ∈ es, q.a.size ≤ n ∧ q.b.size ≤ n) (ha : a.size ≤ n) (hb : b.size ≤ n) : ∀ t ∈ moreP es [a, b], t.size ≤ n := by
  refine addPs_P (P := fun t => t.size ≤ n) (fun nm ks hp k hk => ?_) _ _ (by simp) (fun t ht => ?_)
  · have h1 := Tm.size_mem hk
    simp only [Tm.size] at hp; omega
  · rcases List.mem_append.1 ht with ht | ht
    · obtain ⟨q, hq, h2⟩ := List.mem_flatMap.1 ht
      simp at h2
      rcases h2 with rfl | rfl
      · exact (h q hq).1
      · exact (h q hq).2
    · simp at ht
      rcases ht with rfl | rfl
      · exact ha
      · exact hb
theorem big_of3 {es : List Eqn} {a b : Tm} (h1 : es.length ≤ 13) (h2 : ∀ q ∈ es, q.a.size ≤ 45 ∧ q.b.size ≤ 45) (ha : a.size ≤ 100) (hb : b.size ≤ 100) : Tm.sizes (sidesP es ++ [a, b]) ≤ 5000 := by
  have h := sides_few es 90 (fun e he => by have := h2 e he; omega)
  rw [Tm.sizes_append]; simp only [Tm.sizes]; omega
end Go.Proofs.Ytblbommhodondaa
/- Words, equations and two terms that are often one: DrawSameWhy. -/
namespace Go.Proofs.Ytblbommhodondaa
open Go Go.RowKit
set_option linter.unusedVariables false
set_option linter.unusedSimpArgs false

theorem cls_ok (s : Sg) (es : List Eqn) (ms : List Tm) : ∃ c : List Nat, sameCl s es ms = nats c ∧ c.length ≤ (moreP es ms).length ∧ c.length ≤ 24 ∧ ∀ k, k < c.length → Clo.cl c k ≤ k := by
  cases hm : moreB s es ms with
  | false => rw [sameCl_no hm]; exact ⟨[], rfl, by simp, by simp, by simp⟩
  | true =>
    rw [sameCl_yes hm]
    have h3 := (cloC_good es ms).1
    exact ⟨cloC es ms, rfl, by omega, by have := (moreB_yes hm).2; omega, fun k hk => ((cloC_good es ms).2 k (by omega)).1⟩
theorem d5_end {w W : World} {s : Sg} {es : List Eqn} {a b : Tm} {sa ka kb : Option Addr} {sc kc kd : Nat} {ev v0 v1 v2 v3 v4 : Value} {sf ef fa fb : List Nat} (hfew : s.few) (hel : es.length ≤ 13) (hes : ∀ q ∈ es, q.a.size ≤ 45 ∧ q.b.size ≤ 45) (ha : a.size ≤ 45) (hb : b.size ≤ 45)
    (hrs : RdVs W s.cd [.slice sa s.syms.length sc] sf) (hre : Rd W (.sl (es.map Eqn.cd)) ev ef) (hra : RdVs W a.cd [.string a.name, .slice ka a.kids.length kc] fa) (hrb : RdVs W b.cd [.string b.name, .slice kb b.kids.length kd] fb)
    (hown : ∀ x, x ∈ sf ∨ x ∈ ef ∨ x ∈ fa ∨ x ∈ fb → w.heap.size + 1 + 1 + 1 ≤ x) :
    Drawn5 w.heap.size (.returned (.tuple #[.agg #[.slice sa s.syms.length sc], ev, .agg #[.string a.name, .slice ka a.kids.length kc], .agg #[.string b.name, .slice kb b.kids.length kd]])) (((((W.setCell ⟨w.heap.size, 0, none⟩ v0).setCell ⟨w.heap.size + 1, 0, none⟩ v1).setCell ⟨w.heap.size + 1, 1, none⟩ v2).setCell ⟨w.heap.size + 1 + 1, 0, none⟩ v3).setCell ⟨w.heap.size + 1 + 1, 1, none⟩ v4) := by
  refine ⟨s, es, a, b, sa, sc, ev, ka, kc, kb, kd, sf, ef, fa, fb, hfew, hel, hes, ha, hb, rfl, hrs.same _ ?_, hre.same _ ?_, hra.same _ ?_, hrb.same _ ?_, fun x hx => by have := hown x hx; omega⟩
  all_goals exact fun x hx => by have := hown x (by simp [hx]); exact five_sets x (by omega) (by omega) (by omega)
theorem Drawn5.drew {B : Nat} {e : Ending} {W : World} (h : Drawn5 B e W) : Drawn5 B e W.drew := by
  obtain ⟨s, es, a, b, sa, sc, ev, ka, kc, kb, kd, sf, ef, fa, fb, h1, h2, h3, h4, h5, h6, h7, h8, h9, h10, h11⟩ := h
  exact ⟨s, es, a, b, sa, sc, ev, ka, kc, kb, kd, sf, ef, fa, fb, h1, h2, h3, h4, h5, h6, h7.below (below_drew _), h8.below (below_drew _), h9.below (below_drew _), h10.below (below_drew _), h11⟩
theorem Res3.only {w W W' : World} {rb : Nat} (h : Res3 w W) (ho : Only [rb] W W') (hr : w.heap.size + 1 + 1 < rb) : Res3 w W' := by
  have hz := h.size
  have hs := ho.size
  exact ⟨ho.cellk h.r0 (by omega), ho.cellk h.r1 (by omega), ho.cellk h.r2 (by omega), ho.cellk h.r3 (by omega), ho.cellk h.r4 (by omega), ho.free h.f0 (by omega) (by omega), ho.free h.f1 (by omega) (by omega), ho.free h.f2 (by omega) (by omega), ho.free h.f3 (by omega) (by omega), ho.free h.f4 (by omega) (by omega), by omega⟩
set_option maxRecDepth 100000 in
set_option maxHeartbeats 8000000 in
theorem drawSameWhy_any (v : Value) (w : World) (hv : Byts w v) :
    Calls Try.prog 25 #[v] w fun e w' => Drawn5 w.heap.size e w' ∧ Below w.heap.size w w' := by
  have hR := res3_new w
  have hB0 := res3_below w
  go_enter Try.func25, Try.ntmps25
  go_wp2_with fail
  refine (l5Draw_any v _ (by exact hv.below hB0)).mono ?_
  rintro e u1 ⟨⟨s, es, a, b, sa, sc, ev, ka, kc, kb, kd, sf, ef, fa, fb, hfew, hel, hes, hsa, hsb, rfl, hrs, hre, hra, hrb, hown⟩, hb1⟩
  have hR1 := hR.below hb1
  have hz1 := hR1.size
  have hB1 := hB0.trans (hb1.mono hB0.size)
  have hown' : ∀ x, x ∈ sf ∨ x ∈ ef ∨ x ∈ fa ∨ x ∈ fb → w.heap.size + 1 + 1 + 1 ≤ x := fun x hx => by have := hown x hx; simp at this; omega
  have hlt' : ∀ x, x ∈ sf ∨ x ∈ ef ∨ x ∈ fa ∨ x ∈ fb → x < u1.heap.size := fun x hx => by
    rcases hx with h | h | h | h
    · exact RdVs.lt _ hrs x h
    · exact hre.lt _ x h
    · exact RdVs.lt _ hra x h
    · exact RdVs.lt _ hrb x h
  obtain ⟨E, hbb⟩ := env5_new 25 37 37 hrs hre hra hrb
  have hbig := big_of3 hel hes (a := a) (b := b) (by omega) (by omega)
  have HSM := Lib.hid (moreP_small hes hsa hsb)
  obtain ⟨c, hcl, hcp, hc24, hck⟩ := cls_ok s es [a, b]
  have HCK := Lib.hid hck
  have HES := Lib.hid hes
  have hR1' := hR1.below hbb
  have hB1' := hB1.trans (hbb.mono hB1.size)
  have hv1 := hv.below hB1'
  have hzW := hbb.size
  obtain ⟨evA, evC, rfl, hec1, hec2⟩ := rd_sl_inv hre
  have x0 := E.x0
  have y0 := E.y0
  have y1 := E.y1
  have k0 := E.k0
  have k1 := E.k1
  have hl1 : u1.heap.size + 1 + 1 < (((u1.alloc (.cells #[.slice sa s.syms.length sc] 25)).alloc (.cells #[.string a.name, .slice ka a.kids.length kc] 37)).alloc (.cells #[.string b.name, .slice kb b.kids.length kd] 37)).heap.size := by simp
  clear hrs hre hra hrb hb1 hB0 hR hR1 hB1 hbb hown hes hck hv
  go_wp2_with fail
  generalize ((u1.alloc (.cells #[.slice sa s.syms.length sc] 25)).alloc (.cells #[.string a.name, .slice ka a.kids.length kc] 37)).alloc (.cells #[.string b.name, .slice kb b.kids.length kd] 37) = W1 at *
  refine (l16Open_any v _ hv1).mono ?_
  rintro e u2 ⟨rfl, hu2, hb2⟩
  obtain ⟨rb, hrb⟩ : ∃ rb, rb = W1.heap.size := ⟨_, rfl⟩
  rw [← hrb] at hu2 hl1
  rw [← hrb]
  have E2 := E.below hb2
  have hR2 := hR1'.below hb2
  have hB2 := hB1'.trans (hb2.mono hB1'.size)
  have hl2 := hu2.lt
  have hwrb : w.heap.size + 1 + 1 < rb := by omega
  have hu1rb : u1.heap.size ≤ rb := by omega
  clear E hR1' hB1' hb2 x0 y0 y1 k0 k1 hzW hrb hv1
  have x0 := E2.x0
  have y0 := E2.y0
  have y1 := E2.y1
  have k0 := E2.k0
  have k1 := E2.k1
  have ba := below_alloc u2 (.cells #[.string a.name, .slice ka a.kids.length kc, .string b.name, .slice kb b.kids.length kd] 37)
  go_wp2_with fail
  refine (sameClassS_any s es [a, b] _ _ _ _ _ _ _ (by omega) (by exact E2.hs.below ba) (by exact E2.he.below ba) (by exact tms2_rdf (E2.ha.below ba) (E2.hb.below ba) (by simp) (fun j u hu => cells_new' u2 _ 37 j u hu))).mono ?_
  rintro e u3 ⟨cv, cf, rfl, hc, hcf, hb3'⟩
  have hb3 := ba.trans (hb3'.mono (by simp))
  have E3 := E2.below hb3
  have hR3 := hR2.below hb3
  have hB3 := hB2.trans (hb3.mono hB2.size)
  have hu3 := hu2.below hb3
  have hl3 := hu3.lt
  rw [hcl] at hc
  have hcg : ∀ x ∈ cf, rb < x := fun x h => by have := (hcf.2 _ h).1; simp at this; omega
  have hcnr : rb ∉ cf := fun h => by have := hcg _ h; omega
  obtain ⟨ca, cc, rfl, hcc1, hcc2⟩ := rd_sl_inv hc
  rw [nats_len] at hcc1
  rw [nats_len]
  clear E2 hR2 hB2 hu2 hb3 hb3' ba x0 y0 y1 k0 k1 hcl hcf
  have x0 := E3.x0
  have y0 := E3.y0
  have y1 := E3.y1
  have k0 := E3.k0
  have k1 := E3.k1
  have ba := below_alloc u3 (.cells #[.string a.name, .slice ka a.kids.length kc, .string b.name, .slice kb b.kids.length kd] 37)
  go_wp2_with fail
  refine (l5Parts_any es [a, b] _ _ _ _ _ (by omega) (by exact E3.he.below ba) (by exact tms2_rdf (E3.ha.below ba) (E3.hb.below ba) (by simp) (fun j u hu => cells_new' u3 _ 37 j u hu))).mono ?_
  rintro e u4 ⟨⟨pv, pf, rfl, hp, hpf⟩, hb4'⟩
  change Rd u4 (.sl ((moreP es [a, b]).map Tm.cd)) pv pf at hp
  have hb4 := ba.trans (hb4'.mono (by simp))
  have E4 := E3.below hb4
  have hR4 := hR3.below hb4
  have hB4 := hB3.trans (hb4.mono hB3.size)
  have hu4 := hu3.below hb4
  have hl4 := hu4.lt
  replace hc := hc.below hb4
  have hpg : ∀ x ∈ pf, rb < x := fun x h => by have := (hpf.2 _ h).1; simp at this; omega
  have hpnr : rb ∉ pf := fun h => by have := hpg _ h; omega
  obtain ⟨pa, pc, rfl, hpc1, hpc2⟩ := rd_sl_inv hp
  clear E3 hR3 hB3 hu3 hb4 hb4' ba x0 y0 y1 k0 k1 hpf
  generalize moreP es [a, b] = ps at *
  go_wp2_with fail
  go_loopw [13] (fun i wr => ∃ k q : Nat, k ≤ c.length ∧ i = .int .i64 k ∧ q ≤ k ∧ Rdr wr rb q ∧ Only [rb] u4 wr) (fun i _ => c.length - (intOf i).toNat)
  case atStart => exact ⟨0, 0, Nat.zero_le _, rfl, Nat.le_refl _, hu4, Only.refl _ _⟩
  case round =>
    clear hu4
    obtain ⟨k, q, hkl, rfl, hqk, hr, hN⟩ := hrel
    have hsr : ∀ x, x ∈ sf ∨ x ∈ ef ∨ x ∈ fa ∨ x ∈ fb → x ≠ rb := fun x hx => by have := hlt' x hx; omega
    have x0 := hN.cellk E4.x0 (by omega)
    have hsw := E4.hs.only hN (fun h => hsr _ (by simp [h]) rfl)
    have hew := E4.he.only hN (fun h => hsr _ (by simp [h]) rfl)
    have hRw := hR4.only hN hwrb
    have hBw : Below w.heap.size w wr := hB4.trans (hN.toBelow hB4.size (fun b hb => by simp at hb; omega))
    have hcw := hc.only hN hcnr
    have hpw := hp.only hN hpnr
    have hlr := hr.lt
    by_cases hlt : k < c.length
    · obtain ⟨b3, off3, rfl, hbs3, hb3m⟩ := rd_addr hc (by rw [nats_len]; omega)
      have hb3g := hcg b3 hb3m
      obtain ⟨e0, _⟩ := intCd_at hcw (k := k) (by rw [nats_len]; omega)
      rw [nats_at] at e0
      have hkc : (k : Int) < (c.length : Int) := by omega
      by_cases hck : Clo.cl c k = k
      · have hq1 := len_of_eq hck
        go_wp2_with fail
        go_roundw
        case rel => exact ⟨k + 1, q, by omega, by go_num, by omega, hr, hN⟩
        case measure => simp [intOf]; omega
      have hq1 : (((Clo.cl c k : Nat) : Int) == (k : Int)) = false := beq_eq_false_iff_ne.2 (by omega)
      go_wp2_with fail
      refine (pick_any rb q 3 _ (by omega) (by omega) (by omega) hr).mono ?_
      rintro e w5 ⟨⟨m, hm, rfl⟩, hr5, ho5⟩
      have hN5 := hN.trans ho5
      by_cases hm0 : m = 0
      rotate_left
      · have hq2 : ((m : Int) == 0) = false := beq_eq_false_iff_ne.2 (by omega)
        go_wp2_with fail
        go_roundw
        case rel => exact ⟨k + 1, q + 1, by omega, by go_num, by omega, hr5, hN5⟩
        case measure => simp [intOf]; omega
      subst hm0
      have hcc := HCK.out k hlt
      have hkp : k < ps.length := by omega
      have hcp' : Clo.cl c k < ps.length := by omega
      obtain ⟨b1, off1, rfl, hbs1, hb1m⟩ := rd_addr hp (by omega)
      have hb1g := hpg b1 hb1m
      have hp5 := hp.only hN5 hpnr
      obtain ⟨la, lc, g1, c0, c1, n0, n1, sub1⟩ := Tm.at hp5 hkp
      obtain ⟨ma, mc, g2, d0, d1, n2, n3, sub2⟩ := Tm.at hp5 hcp'
      have hs1 := HSM.out _ (List.getElem_mem hkp)
      have hs2 := HSM.out _ (List.getElem_mem hcp')
      generalize ps[k] = t1 at *
      generalize ps[Clo.cl c k] = t2 at *
      have hs5 := E4.hs.only hN5 (fun h => hsr _ (by simp [h]) rfl)
      have he5 := E4.he.only hN5 (fun h => hsr _ (by simp [h]) rfl)
      replace x0 := hN5.cellk E4.x0 (by omega)
      replace e0 := ho5.cellk e0 (by omega)
      obtain ⟨r0, r1, r2, r3, r4, f0, f1, f2, f3, f4, hrz⟩ := hR4.only hN5 hwrb
      have hB5 : Below w.heap.size w w5 := hB4.trans (hN5.toBelow hB4.size (fun b hb => by simp at hb; omega))
      have hkp' : (k : Int) < (ps.length : Int) := by omega
      have hcp2 : ((Clo.cl c k : Nat) : Int) < (ps.length : Int) := by omega
      go_wp2_with fail
      go_region_held3 (fun U => U.cell? ⟨u1.heap.size, 0, none⟩ = some (.slice sa s.syms.length sc) ∧ U.cell? ⟨b1, off1 + k * 2, none⟩ = some (.string t1.name) ∧ U.cell? ⟨b1, off1 + k * 2 + 1, none⟩ = some (.slice la t1.kids.length lc) ∧ U.cell? ⟨b3, off3 + k, none⟩ = some (.int .i64 (Clo.cl c k : Nat)) ∧ U.cell? ⟨b1, off1 + Clo.cl c k * 2, none⟩ = some (.string t2.name) ∧ U.cell? ⟨b1, off1 + Clo.cl c k * 2 + 1, none⟩ = some (.slice ma t2.kids.length mc))
        ((refine ⟨?_, ?_, ?_, ?_, ?_, ?_⟩) <;> ((repeat (first | with_reducible assumption | with_reducible refine cell_drew ?_ | ((with_reducible refine (World.cell?_setCell_other _ _ _ _ ?_).trans ?_); (focus (intro e; simp only [Addr.mk.injEq] at e; omega))))); done))
        (fail)
      all_goals
        go_wp2_with fail
        refine bodyPost_ret (v := .tuple #[.agg #[.slice sa s.syms.length sc], .slice evA es.length evC, .agg #[.string t1.name, .slice la t1.kids.length lc], .agg #[.string t2.name, .slice ma t2.kids.length mc]]) ?_ rfl ?_
        · simp [results, Try.results25, go_sem, r0, r1, r2, r3, r4]
        · have hx9 : ∀ x, x ∈ sf ∨ x ∈ ef ∨ x ∈ g1 ∨ x ∈ g2 → w.heap.size + 1 + 1 + 1 ≤ x := fun x hx => by
            rcases hx with h | h | h | h
            · exact hown' x (by simp [h])
            · exact hown' x (by simp [h])
            · have := hpg _ (sub1 _ h); omega
            · have := hpg _ (sub2 _ h); omega
          exact ⟨(d5_end hfew hel HES.out hs1 hs2 hs5 he5 (Tm.rdv n0 n1) (Tm.rdv n2 n3) hx9).drew, (sets_below hB5).drew⟩
    · have y0 := hN.cellk E4.y0 (by omega)
      have y1 := hN.cellk E4.y1 (by omega)
      have k0 := hN.cellk E4.k0 (by omega)
      have k1 := hN.cellk E4.k1 (by omega)
      have haw := E4.ha.only hN (fun h => hsr _ (by simp [h]) rfl)
      have hbw := E4.hb.only hN (fun h => hsr _ (by simp [h]) rfl)
      obtain ⟨r0, r1, r2, r3, r4, f0, f1, f2, f3, f4, hrz⟩ := hRw
      go_wp2_with fail
      go_region_held3 (fun U => U.cell? ⟨u1.heap.size, 0, none⟩ = some (.slice sa s.syms.length sc) ∧ U.cell? ⟨u1.heap.size + 1, 0, none⟩ = some (.string a.name) ∧ U.cell? ⟨u1.heap.size + 1, 1, none⟩ = some (.slice ka a.kids.length kc) ∧ U.cell? ⟨u1.heap.size + 1 + 1, 0, none⟩ = some (.string b.name) ∧ U.cell? ⟨u1.heap.size + 1 + 1, 1, none⟩ = some (.slice kb b.kids.length kd))
        ((refine ⟨?_, ?_, ?_, ?_, ?_⟩) <;> ((repeat (first | with_reducible assumption | with_reducible refine cell_drew ?_ | ((with_reducible refine (World.cell?_setCell_other _ _ _ _ ?_).trans ?_); (focus (intro e; simp only [Addr.mk.injEq] at e; omega))))); done))
        (fail)
      all_goals
        go_wp2_with fail
        refine bodyPost_ret (v := .tuple #[.agg #[.slice sa s.syms.length sc], .slice evA es.length evC, .agg #[.string a.name, .slice ka a.kids.length kc], .agg #[.string b.name, .slice kb b.kids.length kd]]) ?_ rfl ?_
        · simp [results, Try.results25, go_sem, r0, r1, r2, r3, r4]
        · exact ⟨(d5_end hfew hel HES.out hsa hsb hsw hew haw hbw hown').drew, (sets_below hBw).drew⟩
end Go.Proofs.Ytblbommhodondaa
/- The law FnSameParts. -/
namespace Go.Proofs.Ytblbommhodondaa
open Go Go.RowKit
set_option linter.unusedVariables false
set_option linter.unusedSimpArgs false

/-- A term of one part, in a box. -/
def PBox (nm : ByteArray) (t : Tm) (w0 : World) (v : Value) (W : World) : Prop := ∃ (bt g : Nat) (f : List Nat), v = .pointer (some ⟨bt, 0, none⟩) ∧ W.cell? ⟨bt, 0, none⟩ = some (.string nm) ∧ W.cell? ⟨bt, 1, none⟩ = some (.slice (some ⟨g, 0, none⟩) 1 1) ∧
  RdVs W (Tm.mk nm [t]).cd [.string nm, .slice (some ⟨g, 0, none⟩) 1 1] f ∧ Below w0.heap.size w0 W
theorem tm1_box {W : World} {nm : ByteArray} {t : Tm} {ka : Option Addr} {kc g : Nat} {f : List Nat} (hn : nm.size ≤ maxLen) (ht : RdVs W t.cd [.string t.name, .slice ka t.kids.length kc] f) (hg : g < W.heap.size) (hc : ∀ j u, [Value.string t.name, .slice ka t.kids.length kc][j]? = some u → W.cell? ⟨g, j, none⟩ = some u) :
    ∃ f', RdVs W (Tm.mk nm [t]).cd [.string nm, .slice (some ⟨g, 0, none⟩) 1 1] f' := by
  obtain ⟨f', h, _⟩ := tms1_rd ht hg hc
  exact ⟨f', Tm.rdv (t := .mk nm [t]) hn h⟩
theorem pbox1 {W : World} {nm : ByteArray} {t : Tm} {ka : Option Addr} {kc : Nat} {f : List Nat} {T U : TypeId} (hn : nm.size ≤ maxLen) (ht : RdVs W t.cd [.string t.name, .slice ka t.kids.length kc] f) :
    PBox nm t W (.pointer (some ⟨W.heap.size + 1, 0, none⟩)) ((W.alloc (.cells #[.string t.name, .slice ka t.kids.length kc] T)).alloc (.cells #[.string nm, .slice (some ⟨W.heap.size, 0, none⟩) 1 1] U)) := by
  have hb : Below W.heap.size W ((W.alloc (.cells #[.string t.name, .slice ka t.kids.length kc] T)).alloc (.cells #[.string nm, .slice (some ⟨W.heap.size, 0, none⟩) 1 1] U)) := ((Below.refl _ _).alloc (Nat.le_refl _) _).alloc (by simp) _
  have hX := cells_new' (W.alloc (.cells #[.string t.name, .slice ka t.kids.length kc] T)) [.string nm, .slice (some ⟨W.heap.size, 0, none⟩) 1 1] U
  rw [World.size_alloc] at hX
  obtain ⟨f', h⟩ := tm1_box hn (ht.below hb) (g := W.heap.size) (by simp; omega) (fun j u hu => cell_ak (cells_new' W [.string t.name, .slice ka t.kids.length kc] T j u hu))
  exact ⟨_, _, f', rfl, hX 0 _ rfl, hX 1 _ rfl, h, hb⟩
theorem pbox2 {W : World} {nm : ByteArray} {t : Tm} {ka : Option Addr} {kc : Nat} {f : List Nat} {z0 z1 : Value} {T U : TypeId} (hn : nm.size ≤ maxLen) (ht : RdVs W t.cd [.string t.name, .slice ka t.kids.length kc] f) :
    PBox nm t W (.pointer (some ⟨W.heap.size, 0, none⟩)) ((((W.alloc (.cells #[z0, z1] U)).alloc (.cells #[.string t.name, .slice ka t.kids.length kc] T)).setCell ⟨W.heap.size, 0, none⟩ (.string nm)).setCell ⟨W.heap.size, 1, none⟩ (.slice (some ⟨W.heap.size + 1, 0, none⟩) 1 1)) := by
  have hb0 : Below W.heap.size W ((W.alloc (.cells #[z0, z1] U)).alloc (.cells #[.string t.name, .slice ka t.kids.length kc] T)) := ((Below.refl _ _).alloc (Nat.le_refl _) _).alloc (by simp) _
  have hb : Below W.heap.size W ((((W.alloc (.cells #[z0, z1] U)).alloc (.cells #[.string t.name, .slice ka t.kids.length kc] T)).setCell ⟨W.heap.size, 0, none⟩ (.string nm)).setCell ⟨W.heap.size, 1, none⟩ (.slice (some ⟨W.heap.size + 1, 0, none⟩) 1 1)) := by
    refine Below.setCell (Below.setCell hb0 ?_ _) ?_ _ <;> exact Nat.le_refl _
  have hX := cells_new' (W.alloc (.cells #[z0, z1] U)) [.string t.name, .slice ka t.kids.length kc] T
  rw [World.size_alloc] at hX
  obtain ⟨c0, c1⟩ := stored2 (w := (W.alloc (.cells #[z0, z1] U)).alloc (.cells #[.string t.name, .slice ka t.kids.length kc] T)) (b := W.heap.size) (.string nm) (.slice (some ⟨W.heap.size + 1, 0, none⟩) 1 1) (cell_ak (cells_new' W [z0, z1] U 0 _ rfl)) (cell_ak (cells_new' W [z0, z1] U 1 _ rfl))
  obtain ⟨f', h⟩ := tm1_box hn (ht.below hb) (g := W.heap.size + 1) (by simp [World.setCell]) (fun j u hu => (World.cell?_setCell_other _ _ _ _ (by intro e; simp only [Addr.mk.injEq] at e; omega)).trans ((World.cell?_setCell_other _ _ _ _ (by intro e; simp only [Addr.mk.injEq] at e; omega)).trans (hX j u hu)))
  exact ⟨_, _, f', rfl, c0, c1, h, hb⟩
theorem pbox3 {W : World} {nm : ByteArray} {t : Tm} {ka : Option Addr} {kc : Nat} {f : List Nat} {T U : TypeId} (hn : nm.size ≤ maxLen) (ht : RdVs W t.cd [.string t.name, .slice ka t.kids.length kc] f) :
    PBox nm t W (.pointer (some ⟨W.heap.size, 0, none⟩)) ((W.alloc (.cells #[.string nm, .slice (some ⟨W.heap.size + 1, 0, none⟩) 1 1] U)).alloc (.cells #[.string t.name, .slice ka t.kids.length kc] T)) := by
  have hb : Below W.heap.size W ((W.alloc (.cells #[.string nm, .slice (some ⟨W.heap.size + 1, 0, none⟩) 1 1] U)).alloc (.cells #[.string t.name, .slice ka t.kids.length kc] T)) := ((Below.refl _ _).alloc (Nat.le_refl _) _).alloc (by simp) _
  have hX := cells_new' (W.alloc (.cells #[.string nm, .slice (some ⟨W.heap.size + 1, 0, none⟩) 1 1] U)) [.string t.name, .slice ka t.kids.length kc] T
  rw [World.size_alloc] at hX
  obtain ⟨f', h⟩ := tm1_box hn (ht.below hb) (g := W.heap.size + 1) (by simp) hX
  exact ⟨_, _, f', rfl, cell_ak (cells_new' W [.string nm, .slice (some ⟨W.heap.size + 1, 0, none⟩) 1 1] U 0 _ rfl), cell_ak (cells_new' W [.string nm, .slice (some ⟨W.heap.size + 1, 0, none⟩) 1 1] U 1 _ rfl), h, hb⟩
theorem PBox.drew {nm : ByteArray} {t : Tm} {w0 W : World} {v : Value} (h : PBox nm t w0 v W) : PBox nm t w0 v W.drew := by
  obtain ⟨bt, g, f, h1, h2, h3, h4, h5⟩ := h
  exact ⟨bt, g, f, h1, h2, h3, h4.below (below_drew _), h5.drew⟩
theorem parts_same {s : Sg} {es : List Eqn} {a b : Tm} {f : ByteArray} (h : sameIsB s es a b = true) (h0 : 0 < (sameSt s es [.mk f [a], .mk f [b]]).1.length) : sameIsB s es (.mk f [a]) (.mk f [b]) = true := by
  cases hm : moreB s es [.mk f [a], .mk f [b]] with
  | true => exact same_parts h hm
  | false => rw [sameSt_no hm] at h0; simp at h0
set_option maxRecDepth 100000 in
set_option maxHeartbeats 8000000 in
theorem samePartsL_walk (v : Value) (w : World) (hv : Byts w v) :
    Calls Try.prog 7 #[v] w fun e w' => e = .returned (.bool true) ∧ Below w.heap.size w w' := by
  have hv0 := hv
  obtain ⟨a9, n, cap, rfl, hn1, hn2, _⟩ := hv
  by_cases hlen : n ≤ 1048576
  rotate_left
  · have hlb : decide ((1048576 : Int) < (n : Int)) = true := decide_eq_true (by omega)
    go_enter Try.func7, Try.ntmps7
    go_wp2_with fail
    go_ret
    exact ⟨rfl, Below.refl _ _⟩
  have hlb : decide ((1048576 : Int) < (n : Int)) = false := decide_eq_false (by omega)
  go_enter Try.func7, Try.ntmps7
  go_wp2_with fail
  refine (drawSameWhy_any _ _ hv0).mono ?_
  rintro e u1 ⟨⟨s, es, a, b, sa, sc, ev, ka, kc, kb, kd, sf, ef, fa, fb, hfew, hel, hes, hsa, hsb, rfl, hrs, hre, hra, hrb, hown⟩, hb1⟩
  obtain ⟨E, hbb⟩ := env5_new 25 37 37 hrs hre hra hrb
  have hbig := big_of3 hel hes (a := a) (b := b) (by omega) (by omega)
  have HES := Lib.hid hes
  have hB1 := hb1.trans (hbb.mono hb1.size)
  obtain ⟨evA, evC, rfl, hec1, hec2⟩ := rd_sl_inv hre
  clear hv0 hrs hre hra hrb hbb hb1 hes hown
  have x0 := E.x0
  have y0 := E.y0
  have y1 := E.y1
  have k0 := E.k0
  have k1 := E.k1
  go_wp2_with fail
  generalize ((u1.alloc (.cells #[.slice sa s.syms.length sc] 25)).alloc (.cells #[.string a.name, .slice ka a.kids.length kc] 37)).alloc (.cells #[.string b.name, .slice kb b.kids.length kd] 37) = W1 at *
  refine (sameIs_any s es a b _ _ _ _ _ _ _ _ _ (by omega) (by omega) (by exact E.hs) (by exact E.he) (by exact E.ha) (by exact E.hb)).mono ?_
  rintro e W2 ⟨rfl, hb2⟩
  have E2 := E.below hb2
  have hB2 := hB1.trans (hb2.mono hB1.size)
  clear E hb2 hB1 x0 y0 y1 k0 k1
  have x0 := E2.x0
  have y0 := E2.y0
  have y1 := E2.y1
  have k0 := E2.k0
  have k1 := E2.k1
  cases hx : sameIsB s es a b
  · have HX := Lib.hid hx
    clear hx
    go_wp2_with fail
    refine (sameIsS_any s es a b _ _ _ _ _ _ _ _ _ (by omega) (by exact E2.hs) (by exact E2.he) (by exact E2.ha) (by exact E2.hb)).mono ?_
    rintro e W3 ⟨rfl, hb3⟩
    have E3 := E2.below hb3
    have hB3 := hB2.trans (hb3.mono hB2.size)
    clear E2 hb3 hB2 x0 y0 y1 k0 k1
    rw [HX.out]
    have x0 := E3.x0
    have y0 := E3.y0
    have y1 := E3.y1
    have k0 := E3.k0
    have k1 := E3.k1
    go_wp2_with fail
    refine (sameIsS_any s es a b _ _ _ _ _ _ _ _ _ (by omega) (by exact E3.hs) (by exact E3.he) (by exact E3.ha) (by exact E3.hb)).mono ?_
    rintro e W4 ⟨rfl, hb4⟩
    have E4 := E3.below hb4
    have hB4 := hB3.trans (hb4.mono hB3.size)
    clear E3 hb4 hB3 x0 y0 y1 k0 k1
    rw [HX.out]
    have x0 := E4.x0
    have y0 := E4.y0
    have y1 := E4.y1
    have k0 := E4.k0
    have k1 := E4.k1
    go_wp2_with fail
    go_ret
    exact ⟨rfl, hB4⟩
  have HX := Lib.hid hx
  clear hx
  go_wp2_with fail
  refine (sameIsS_any s es a b _ _ _ _ _ _ _ _ _ (by omega) (by exact E2.hs) (by exact E2.he) (by exact E2.ha) (by exact E2.hb)).mono ?_
  rintro e W3 ⟨rfl, hb3⟩
  have E3 := E2.below hb3
  have hB3 := hB2.trans (hb3.mono hB2.size)
  clear E2 hb3 hB2 x0 y0 y1 k0 k1
  rw [HX.out]
  have x0 := E3.x0
  have y0 := E3.y0
  have y1 := E3.y1
  have k0 := E3.k0
  have k1 := E3.k1
  obtain ⟨sn, hta, _⟩ := sameIs_sort HX.out
  have HTA := Lib.hid hta
  clear hta
  have hfl : s.syms.length ≤ 5 := hfew.1
  obtain ⟨a0', c0', f0', he0, hf0', m0⟩ := Sg.open E3.hs
  simp only [List.cons.injEq, Value.slice.injEq, true_and, and_true] at he0
  obtain ⟨rfl, rfl⟩ := he0
  go_wp2_with fail
  go_loopw [8] (fun i wr => ∃ k : Nat, k ≤ s.syms.length ∧ i = .int .i64 k ∧ Below W3.heap.size W3 wr) (fun i _ => s.syms.length - (intOf i).toNat)
  case atStart => exact ⟨0, Nat.zero_le _, rfl, Below.refl _ _⟩
  case round =>
    clear x0 y0 y1 k0 k1
    obtain ⟨k, hkl, rfl, hb⟩ := hrel
    have hz := hb.size
    have E := E3.below hb
    have hm1 := m0.below hb
    have hB := hB3.trans (hb.mono hB3.size)
    have x0 := E.x0
    have y0 := E.y0
    have y1 := E.y1
    have k0 := E.k0
    have k1 := E.k1
    by_cases hlt : k < s.syms.length
    rotate_left
    · go_wp2_with fail
      go_ret
      exact ⟨rfl, hB⟩
    obtain ⟨b7, off7, rfl, hbs7, _⟩ := rd_addr m0 (by omega)
    obtain ⟨a1, c1, f1, e0, e1, e2, n0, n1, n2, _⟩ := Sy.at hm1 hlt
    have hal := hfew.2 _ (List.getElem_mem hlt)
    have hkk : (k : Int) < (s.syms.length : Int) := by omega
    go_wp2_with fail
    refine (termSort_any s a _ _ _ _ _ (by exact E.hs) (by exact E.ha)).mono ?_
    rintro e W4 ⟨rfl, hb4⟩
    rw [HTA.out]
    simp only [Option.getD_some, Option.isSome_some]
    have E4 := E.below hb4
    have hb34 := hb.trans (hb4.mono hz)
    have hB4 := hB.trans (hb4.mono hB.size)
    replace e0 := cell_keep e0 hb4
    replace e1 := cell_keep e1 hb4
    replace n1 := n1.below hb4
    clear E hb hb4 hB hm1 x0 y0 y1 k0 k1 hz e2
    have x0 := E4.x0
    have y0 := E4.y0
    have y1 := E4.y1
    have k0 := E4.k0
    have k1 := E4.k1
    by_cases hl1' : s.syms[k].args.length = 1
    rotate_left
    · have hq1 : ((s.syms[k].args.length : Int) == 1) = false := beq_eq_false_iff_ne.2 (by omega)
      go_wp2_with fail
      go_roundw
      case rel => exact ⟨k + 1, by omega, by go_num, hb34⟩
      case measure => simp [intOf]; omega
    have hq1 : ((s.syms[k].args.length : Int) == 1) = true := by rw [hl1']; rfl
    obtain ⟨b8, off8, rfl, hbs8, _⟩ := rd_addr n1 (by omega)
    obtain ⟨h7, _⟩ := intCd_at n1 (k := 0) (by omega)
    rw [Nat.add_zero] at h7
    have hln : (0 : Int) < (s.syms[k].args.length : Int) := by omega
    cases hq2 : (s.syms[k].args[0] == sn)
    · go_wp2_with fail
      go_roundw
      case rel => exact ⟨k + 1, by omega, by go_num, hb34⟩
      case measure => simp [intOf]; omega
    have hq2n : (s.syms[k].args[0] != sn) = false := by rw [bne, hq2]; rfl
    have HTa := E4.ha
    go_upto_region 12 with fail
    go_cut [11] from 81 to 89 (fun sv wx => PBox s.syms[k].name a W4 sv wx)
    case first =>
      go_region_held3 (fun U => U.cell? ⟨u1.heap.size, 0, none⟩ = some (.slice (some ⟨b7, off7, none⟩) s.syms.length sc) ∧ U.cell? ⟨b7, off7 + k * 3, none⟩ = some (.string s.syms[k].name) ∧ U.cell? ⟨u1.heap.size + 1, 0, none⟩ = some (.string a.name) ∧ U.cell? ⟨u1.heap.size + 1, 1, none⟩ = some (.slice ka a.kids.length kc))
        ((refine ⟨?_, ?_, ?_, ?_⟩) <;> ((repeat (first | with_reducible assumption | with_reducible refine cell_drew ?_ | with_reducible refine cell_ak ?_ | ((with_reducible refine (World.cell?_setCell_other _ _ _ _ ?_).trans ?_); (focus (intro e; simp only [Addr.mk.injEq] at e; omega))))); done))
        (fail)
      all_goals
        go_wp2_with fail
        go_meet
        case rel => first | exact (pbox1 n0 HTa).drew | exact (pbox3 n0 HTa).drew | exact (pbox2 n0 HTa).drew
    case rest =>
    obtain ⟨bp, gp, fp, rfl, p0, p1, hrp, hbp⟩ := hcut
    have E5 := E4.below hbp
    have hb35 := hb34.trans (hbp.mono hb34.size)
    have hB5 := hB4.trans (hbp.mono hB4.size)
    replace e0 := cell_keep e0 hbp
    clear E4 hb34 hB4 hbp x0 y0 y1 k0 k1 e1 n1 h7 HTa
    have x0 := E5.x0
    have y0 := E5.y0
    have y1 := E5.y1
    have k0 := E5.k0
    have k1 := E5.k1
    have HTb := E5.hb
    generalize wc = X5 at *
    go_upto_region 13 with fail
    go_cut [12] from 90 to 98 (fun sv wx => PBox s.syms[k].name b X5 sv wx)
    case first =>
      go_region_held3 (fun U => U.cell? ⟨u1.heap.size, 0, none⟩ = some (.slice (some ⟨b7, off7, none⟩) s.syms.length sc) ∧ U.cell? ⟨b7, off7 + k * 3, none⟩ = some (.string s.syms[k].name) ∧ U.cell? ⟨u1.heap.size + 1 + 1, 0, none⟩ = some (.string b.name) ∧ U.cell? ⟨u1.heap.size + 1 + 1, 1, none⟩ = some (.slice kb b.kids.length kd))
        ((refine ⟨?_, ?_, ?_, ?_⟩) <;> ((repeat (first | with_reducible assumption | with_reducible refine cell_drew ?_ | with_reducible refine cell_ak ?_ | ((with_reducible refine (World.cell?_setCell_other _ _ _ _ ?_).trans ?_); (focus (intro e; simp only [Addr.mk.injEq] at e; omega))))); done))
        (fail)
      all_goals
        go_wp2_with fail
        go_meet
        case rel => first | exact (pbox1 n0 HTb).drew | exact (pbox3 n0 HTb).drew | exact (pbox2 n0 HTb).drew
    case rest =>
    obtain ⟨bq, gq, fq, rfl, q0, q1, hrq, hbq⟩ := hcut
    have E6 := E5.below hbq
    have hb36 := hb35.trans (hbq.mono hb35.size)
    have hB6 := hB5.trans (hbq.mono hB5.size)
    replace p0 := cell_keep p0 hbq
    replace p1 := cell_keep p1 hbq
    replace hrp := hrp.below hbq
    clear E5 hb35 hB5 hbq x0 y0 y1 k0 k1 e0 HTb
    have x0 := E6.x0
    generalize wc = X6 at *
    have hbigpq := big_of3 hel HES.out (a := .mk s.syms[k].name [a]) (b := .mk s.syms[k].name [b]) (by simp only [Tm.size, Tm.sizes]; omega) (by simp only [Tm.size, Tm.sizes]; omega)
    have ba := below_alloc X6 (.cells #[.string s.syms[k].name, .slice (some ⟨gp, 0, none⟩) 1 1, .string s.syms[k].name, .slice (some ⟨gq, 0, none⟩) 1 1] 37)
    go_wp2_with fail
    refine (sameSteps_any s es [.mk s.syms[k].name [a], .mk s.syms[k].name [b]] _ _ _ _ _ _ _ (by omega) (by omega) (by exact E6.hs.below ba) (by exact E6.he.below ba) (by exact tms2_rdf (hrp.below ba) (hrq.below ba) (by simp) (fun j u hu => cells_new' X6 _ 37 j u hu))).mono ?_
    rintro e W7 ⟨pv, sv, gp7, gs7, rfl, hpr, hsr, _, hb7'⟩
    have hb7 := ba.trans (hb7'.mono (by simp))
    obtain ⟨pa, pc, rfl, hpc1, hpc2⟩ := rd_sl_inv hpr
    obtain ⟨sva, svc, rfl, hsc1, hsc2⟩ := rd_sl_inv hsr
    have E7 := E6.below hb7
    have hb37 := hb36.trans (hb7.mono hb36.size)
    replace x0 := cell_keep x0 hb7
    replace p0 := cell_keep p0 hb7
    replace p1 := cell_keep p1 hb7
    replace q0 := cell_keep q0 hb7
    replace q1 := cell_keep q1 hb7
    replace hrp := hrp.below hb7
    replace hrq := hrq.below hb7
    clear E6 hb36 hB6 hb7 hb7' ba hpr hsr
    by_cases hpl : 0 < (sameSt s es [.mk s.syms[k].name [a], .mk s.syms[k].name [b]]).1.length
    rotate_left
    · have hd7 : decide ((0 : Int) < ((sameSt s es [.mk s.syms[k].name [a], .mk s.syms[k].name [b]]).1.length : Int)) = false := decide_eq_false (by omega)
      go_wp2_with fail
      go_roundw
      case rel => exact ⟨k + 1, by omega, by go_num, hb37⟩
      case measure => simp [intOf]; omega
    have hd7 : decide ((0 : Int) < ((sameSt s es [.mk s.syms[k].name [a], .mk s.syms[k].name [b]]).1.length : Int)) = true := decide_eq_true (by omega)
    have HPQ := Lib.hid (parts_same HX.out hpl)
    go_wp2_with fail
    refine (sameIs_any s es (.mk s.syms[k].name [a]) (.mk s.syms[k].name [b]) _ _ _ _ _ _ _ _ _ (by omega) (by omega) (by exact E7.hs) (by exact E7.he) (by exact hrp) (by exact hrq)).mono ?_
    rintro e W8 ⟨rfl, hb8⟩
    rw [HPQ.out]
    go_wp2_with fail
    go_roundw
    case rel => exact ⟨k + 1, by omega, by go_num, hb37.trans (hb8.mono hb37.size)⟩
    case measure => simp [intOf]; omega
end Go.Proofs.Ytblbommhodondaa
