/- Parts of the proof: WhUs. -/
import Derived.Test.YtlefdhhnlbpbkaaGreatPv28
import Derived.Test.YtlefdhhnlbpbkaaGreatPv22
section
namespace Go.Proofs.YtlefdhhnlbpbkaaGreat
open Go Go.RowKit
set_option linter.unusedVariables false
set_option linter.unusedSimpArgs false
set_option maxRecDepth 100000
set_option maxHeartbeats 16000000
def Wy.uses0 (x : Wy) (k : Nat) : List Int := (if x.rule = 2 then [x.n] else []) ++ Wy.usesL (x.kids.take k)
theorem Wy.uses0_all {x : Wy} {k : Nat} (h : x.kids.length ≤ k) : x.uses0 k = x.uses := by unfold Wy.uses0; rw [List.take_of_length_le h, Wy.uses_eq]
theorem Wy.uses0_succ {x : Wy} {k : Nat} (h : k < x.kids.length) : x.uses0 (k + 1) = x.uses0 k ++ (x.kids[k]).uses := by unfold Wy.uses0; rw [Wy.usesL_succ h, List.append_assoc]
theorem Wy.usesL_take (ks : List Wy) (k : Nat) : (Wy.usesL (ks.take k)).length ≤ (Wy.usesL ks).length := by
 have h := Wy.usesL_app (ks.take k) (ks.drop k)
 rw [List.take_append_drop] at h
 rw [h, zet]; omega
theorem Wy.uses0_le (x : Wy) (k : Nat) : (x.uses0 k).length ≤ x.uses.length := by
 have h := Wy.usesL_take x.kids k
 rw [Wy.uses_eq]; unfold Wy.uses0
 rw [zet, zet]; omega
theorem zU {w : World} {base e : Nat} {v : Value} {l : List Int} {fp : List Nat} (h : Own w base e 1 v (l.map zk) fp) : fp = [] := by
 obtain ⟨ys, _, h, _⟩ := h
 exact zcS l _ _ _ h
theorem zY (x : List CD) (l : List Int) (h : x ∈ l.map zk) : x.length = 1 := by
 simp only [List.mem_map] at h
 obtain ⟨t, _, rfl⟩ := h
 rfl
def UsesOut (l : List Int) (w : World) (e : Ending) (w' : World) : Prop := ∃ v, e = .returned v ∧ Own w' w.heap.size 3 1 v (l.map zk) [] ∧ Below w.heap.size w w'
theorem uses_n (n : Nat) : ∀ (x : Wy) (vs : List Value) (xf : List Nat) (w : World), ndV x.cd ≤ n → x.thin → x.uses.length ≤ 1000000000001 → RdVs w x.cd vs xf →
  Calls Tryz.prog 30 #[.agg vs.toArray] w (UsesOut x.uses w) := by
 induction n with
 | zero =>
  intro x vs xf w hn; have h : 0 < ndV x.cd := (by rw [Wy.cd_eq]; simp [ndV, ndC]; try omega); omega
 | succ n ih =>
 intro x vs xf w hn hth hus hv
 have HN : Hid (∀ k ∈ x.kids, ndV k.cd ≤ n) := fun k hk => by have := Wy.kid_nd hk; omega
 have HT := Lib.hid (Wy.thin_kids hth).2
 have hkl0 := (Wy.thin_kids hth).1
 have HU0 : Hid (∀ k (h : k < x.kids.length), (x.kids[k]).uses.length ≤ 1000000000001 ∧ (x.uses0 k).length + (x.kids[k]).uses.length ≤ 1000000000001) := fun k h => by
  have h1 := Wy.uses0_le x (k + 1)
  rw [Wy.uses0_succ h, zet] at h1
  omega
 have HS := Lib.hid (fun k (h : k < x.kids.length) => Wy.uses0_succ h)
 have HA := Lib.hid (Wy.uses0_all (Nat.le_refl x.kids.length))
 have IH := Lib.hid ih
 clear ih hus hth hn
 obtain ⟨a3, c3, f3, a4, c4, f4, rfl, -, m0, m1, m2, m3, m4⟩ := Wy.open hv
 clear hv
 have hbase : ∃ b, Hid (x.uses0 0 = b) := ⟨_, Lib.hid rfl⟩
 by_cases hr : x.rule = 2
 ·have tk : (x.rule == 2) = true := by simp [hr]
  have HB : Hid (x.uses0 0 = [x.n]) := Lib.hid (by unfold Wy.uses0; rw [if_pos hr]; simp [Wy.usesL])
  clear hr
  go_enter Tryz.func30, Tryz.ntmps30
  have hown0 := Own.nil ((w.alloc (.cells #[.int .i64 x.rule, .int .i64 x.n, .string x.t.name, .slice a3 x.t.kids.length c3, .slice a4 x.kids.length c4] 32)).alloc (.cells #[.int .i64 x.n] 3)) (w.heap.size + 1) 3 1
  have hcn := zn (w.alloc (.cells #[.int .i64 x.rule, .int .i64 x.n, .string x.t.name, .slice a3 x.t.kids.length c3, .slice a4 x.kids.length c4] 32)) [.int .i64 x.n] 3
  rw [World.size_alloc] at hcn
  go_wp2_with (at_builtin; refine zp zB rfl _ _ rfl (w.heap.size + 1) _ [] [] rfl hown0 ⟨w.heap.size + 1, 0, none⟩ 1 1 [zk x.n] [.int .i64 x.n] [] rfl rfl ?rd ?k ?cells ?na ?bytes ?len ?base ?next)
  case rd => simp only [zk, List.flatten_cons, List.flatten_nil, List.append_nil]; exact RdVs.single (by simp only [Rd]; exact ⟨trivial, m1, trivial⟩)
  case k => simp [zk]
  case cells => exact hcn
  case na => simp
  case bytes => simp
  case len => simp
  case base => simp
  case next =>
   intro v1 w1 hown1 hg1 hv1 hs1
   have hb1 : Below (w.heap.size + 1) (w.alloc (.cells #[.int .i64 x.rule, .int .i64 x.n, .string x.t.name, .slice a3 x.t.kids.length c3, .slice a4 x.kids.length c4] 32)) w1 := zf (((Below.refl _ _).alloc (by simp) _)) hg1 (by simp) (fun q hq => by simp [Value.ownBlock] at hq)
   try simp only [List.nil_append] at hown1
   obtain ⟨va, vn, vc, rfl⟩ := hown1.form'
   have hown9 : Own w1 (w.heap.size + 1) 3 1 (.slice va vn vc) ((x.uses0 0).map zk) [] := by rw [HB.out]; simpa using hown1
   obtain ⟨hx0, hz0, hB0⟩ := box1 (w := w) (wr := w1) (cs := #[.int .i64 x.rule, .int .i64 x.n, .string x.t.name, .slice a3 x.t.kids.length c3, .slice a4 x.kids.length c4]) (T := 32) hb1
   have q4 := hx0 4
   simp only [zeo, zem, zen] at q4
   clear hown1 hown0 hcn hg1 hv1 hs1 HB hx0 hz0 hB0
   go_wp2_with fail
   go_loopw [3, 17] (fun ov i wr => ∃ k : Nat, k ≤ x.kids.length ∧ i = .int .i64 k ∧ Own wr (w.heap.size + 1) 3 1 ov ((x.uses0 k).map zk) [] ∧ Below (w.heap.size + 1) (w.alloc (.cells #[.int .i64 x.rule, .int .i64 x.n, .string x.t.name, .slice a3 x.t.kids.length c3, .slice a4 x.kids.length c4] 32)) wr) (fun _ i _ => x.kids.length - (intOf i).toNat)
   case atStart => exact ⟨0, Nat.zero_le _, rfl, hown9, hb1⟩
   case round =>
    clear hown9 hb1
    obtain ⟨k, hkl, rfl, hown, hbx⟩ := hrel
    obtain ⟨hx, hz, hB⟩ := box1 (w := w) (wr := wr) (cs := #[.int .i64 x.rule, .int .i64 x.n, .string x.t.name, .slice a3 x.t.kids.length c3, .slice a4 x.kids.length c4]) (T := 32) hbx
    by_cases hlt : k < x.kids.length
    ·obtain ⟨b, off, rfl, hbs, _⟩ := zm m4 (by omega)
     obtain ⟨e3, g3, h3, e4, g4, h4, d0, d1, d2, d3, d4, n0, n1, n2, n3, n4, _⟩ := Wy.at (m4.below hB) hlt
     have hbz : b < wr.heap.size := by omega
     have hcl := Wy.close n0 n1 n2 n3 n4
     obtain ⟨hu1, hu2⟩ := HU0.out k hlt
     obtain ⟨oa, on, oc, rfl⟩ := hown.form'
     have hrow : ∀ q, (Value.slice oa on oc).ownBlock = some q → w.heap.size + 1 ≤ q ∧ q < wr.heap.size := fun q hq => hown.block hq
     have hal := zb wr (.cells #[.int .i64 x.kids[k].rule, .int .i64 x.kids[k].n, .string x.kids[k].t.name, .slice e3 x.kids[k].t.kids.length g3, .slice e4 x.kids[k].kids.length g4] 32)
     have hsa : (wr.alloc (.cells #[.int .i64 x.kids[k].rule, .int .i64 x.kids[k].n, .string x.kids[k].t.name, .slice e3 x.kids[k].t.kids.length g3, .slice e4 x.kids[k].kids.length g4] 32)).heap.size = wr.heap.size + 1 := by simp
     go_wp2_with fail
     refine (IH.out x.kids[k] _ _ _ (HN.out _ (zes hlt)) (HT.out _ (zes hlt)) hu1 (by exact hcl.below hal)).mono ?_
     rintro e w2 ⟨nv, rfl, hon, hb2⟩
     rw [hsa] at hon hb2
     have hbw : Below wr.heap.size wr w2 := hal.trans (hb2.mono (by omega))
     have hz2 := hbw.size
     have hown2 := hown.below hbw
     obtain ⟨nf, hrn, hnf⟩ := hon.rd
     obtain ⟨na, nn, nc, rfl⟩ := hon.form'
     have hnb : ∀ b ∈ nf, wr.heap.size + 1 ≤ b := fun b hb => by
      rcases hnf with ⟨_, _, rfl⟩ | ⟨b', c', hb', rfl, _, hge, _⟩
      ·cases hb
      ·rcases zev.1 hb with rfl | hb
       ·exact hge
       ·cases hb
     have HSU := Lib.hid (HS.out k hlt)
     generalize (x.kids[k]).uses = us at *
     go_wp2_with (at_builtin; refine zq zB rfl _ _ rfl (w.heap.size + 1) _ _ [] rfl hown2 (us.map zk) _ nf rfl hrn ?k ?na ?bytes ?len ?base ?next)
     case k => exact fun e he => zY e _ he
     case na => intro b hb h; have h1 := hnb b hb; have h2 := hrow b h; omega
     case bytes => simp only [zew]; omega
     case len => simp only [zew]; omega
     case base => omega
     case next =>
      intro v3 w3 nfp hnfp hown3 hg3 hv3 hs3
      rw [← zeu] at hown3
      have hfp := zU hown3
      rw [hfp, ← HSU.out] at hown3
      have hb3 := zf (hbx.trans (hbw.mono hz)) hg3 (by omega) (fun q hq => (hrow q hq).1)
      go_wp2_with fail
      go_roundw
      case rel => exact ⟨k + 1, by omega, by go_num, hown3, hb3⟩
      case measure => simp [intOf]; omega
    ·have hke : k = x.kids.length := by omega
     subst hke
     rw [HA.out] at hown
     have hB2 := hB
     obtain ⟨oa, on, oc, rfl⟩ := hown.form'
     go_wp2_with fail
     go_ret
     exact ⟨_, rfl, hown.base (fun b hb => by have := (hown.block hb).1; omega), hB⟩
 ·have tk : (x.rule == 2) = false := by simp [hr]
  have HB : Hid (x.uses0 0 = []) := Lib.hid (by unfold Wy.uses0; rw [if_neg hr]; simp [Wy.usesL])
  clear hr
  go_enter Tryz.func30, Tryz.ntmps30
  have hown9 : Own (w.alloc (.cells #[.int .i64 x.rule, .int .i64 x.n, .string x.t.name, .slice a3 x.t.kids.length c3, .slice a4 x.kids.length c4] 32)) (w.heap.size + 1) 3 1 (.slice none 0 0) ((x.uses0 0).map zk) [] := by rw [HB.out]; exact Own.nil _ _ _ _
  have hb1 := Below.refl (w.heap.size + 1) (w.alloc (.cells #[.int .i64 x.rule, .int .i64 x.n, .string x.t.name, .slice a3 x.t.kids.length c3, .slice a4 x.kids.length c4] 32))
  clear HB
  go_wp2_with fail
  go_loopw [3, 17] (fun ov i wr => ∃ k : Nat, k ≤ x.kids.length ∧ i = .int .i64 k ∧ Own wr (w.heap.size + 1) 3 1 ov ((x.uses0 k).map zk) [] ∧ Below (w.heap.size + 1) (w.alloc (.cells #[.int .i64 x.rule, .int .i64 x.n, .string x.t.name, .slice a3 x.t.kids.length c3, .slice a4 x.kids.length c4] 32)) wr) (fun _ i _ => x.kids.length - (intOf i).toNat)
  case atStart => exact ⟨0, Nat.zero_le _, rfl, hown9, hb1⟩
  case round =>
   clear hown9 hb1
   obtain ⟨k, hkl, rfl, hown, hbx⟩ := hrel
   obtain ⟨hx, hz, hB⟩ := box1 (w := w) (wr := wr) (cs := #[.int .i64 x.rule, .int .i64 x.n, .string x.t.name, .slice a3 x.t.kids.length c3, .slice a4 x.kids.length c4]) (T := 32) hbx
   by_cases hlt : k < x.kids.length
   ·obtain ⟨b, off, rfl, hbs, _⟩ := zm m4 (by omega)
    obtain ⟨e3, g3, h3, e4, g4, h4, d0, d1, d2, d3, d4, n0, n1, n2, n3, n4, _⟩ := Wy.at (m4.below hB) hlt
    have hbz : b < wr.heap.size := by omega
    have hcl := Wy.close n0 n1 n2 n3 n4
    obtain ⟨hu1, hu2⟩ := HU0.out k hlt
    obtain ⟨oa, on, oc, rfl⟩ := hown.form'
    have hrow : ∀ q, (Value.slice oa on oc).ownBlock = some q → w.heap.size + 1 ≤ q ∧ q < wr.heap.size := fun q hq => hown.block hq
    have hal := zb wr (.cells #[.int .i64 x.kids[k].rule, .int .i64 x.kids[k].n, .string x.kids[k].t.name, .slice e3 x.kids[k].t.kids.length g3, .slice e4 x.kids[k].kids.length g4] 32)
    have hsa : (wr.alloc (.cells #[.int .i64 x.kids[k].rule, .int .i64 x.kids[k].n, .string x.kids[k].t.name, .slice e3 x.kids[k].t.kids.length g3, .slice e4 x.kids[k].kids.length g4] 32)).heap.size = wr.heap.size + 1 := by simp
    go_wp2_with fail
    refine (IH.out x.kids[k] _ _ _ (HN.out _ (zes hlt)) (HT.out _ (zes hlt)) hu1 (by exact hcl.below hal)).mono ?_
    rintro e w2 ⟨nv, rfl, hon, hb2⟩
    rw [hsa] at hon hb2
    have hbw : Below wr.heap.size wr w2 := hal.trans (hb2.mono (by omega))
    have hz2 := hbw.size
    have hown2 := hown.below hbw
    obtain ⟨nf, hrn, hnf⟩ := hon.rd
    obtain ⟨na, nn, nc, rfl⟩ := hon.form'
    have hnb : ∀ b ∈ nf, wr.heap.size + 1 ≤ b := fun b hb => by
     rcases hnf with ⟨_, _, rfl⟩ | ⟨b', c', hb', rfl, _, hge, _⟩
     ·cases hb
     ·rcases zev.1 hb with rfl | hb
      ·exact hge
      ·cases hb
    have HSU := Lib.hid (HS.out k hlt)
    generalize (x.kids[k]).uses = us at *
    go_wp2_with (at_builtin; refine zq zB rfl _ _ rfl (w.heap.size + 1) _ _ [] rfl hown2 (us.map zk) _ nf rfl hrn ?k ?na ?bytes ?len ?base ?next)
    case k => exact fun e he => zY e _ he
    case na => intro b hb h; have h1 := hnb b hb; have h2 := hrow b h; omega
    case bytes => simp only [zew]; omega
    case len => simp only [zew]; omega
    case base => omega
    case next =>
     intro v3 w3 nfp hnfp hown3 hg3 hv3 hs3
     rw [← zeu] at hown3
     have hfp := zU hown3
     rw [hfp, ← HSU.out] at hown3
     have hb3 := zf (hbx.trans (hbw.mono hz)) hg3 (by omega) (fun q hq => (hrow q hq).1)
     go_wp2_with fail
     go_roundw
     case rel => exact ⟨k + 1, by omega, by go_num, hown3, hb3⟩
     case measure => simp [intOf]; omega
   ·have hke : k = x.kids.length := by omega
    subst hke
    rw [HA.out] at hown
    have hB2 := hB
    obtain ⟨oa, on, oc, rfl⟩ := hown.form'
    go_wp2_with fail
    go_ret
    exact ⟨_, rfl, hown.base (fun b hb => by have := (hown.block hb).1; omega), hB⟩
end Go.Proofs.YtlefdhhnlbpbkaaGreat
end
