/- Parts of the proof: WhR. -/
import Derived.Deep.CutRange
import Derived.Test.YtlefdhhnlbpbkaaGreatPv29
import Derived.Test.YtlefdhhnlbpbkaaGreatPv27
import Derived.Test.YtlefdhhnlbpbkaaGreatPv22
section
namespace Go.Proofs.YtlefdhhnlbpbkaaGreat
open Go Go.RowKit
set_option linter.unusedVariables false
set_option linter.unusedSimpArgs false
set_option maxRecDepth 100000
set_option maxHeartbeats 16000000
theorem take_not {ns : List Int} {n : Int} {i : Nat} (h : n ∉ ns.take i) (hi : i < ns.length) (hne : ns[i] ≠ n) : n ∉ ns.take (i + 1) := by
 rw [zeq hi]
 simp only [zer, List.mem_singleton, not_or]
 exact ⟨h, fun e => hne e.symm⟩
theorem zdG (ns : List Int) (n : Int) (b : Bool) (hb : decide (n ∈ ns) = b) (v : Value) (g : List Nat) (w : World) (hl : ns.length ≤ 1000000000) (hv : Rd w (.sl (ns.map zk)) v g) :
  Calls Tryz.prog 106 #[v, .int .i64 n] w fun e w' => e = .returned (.bool b) ∧ Below w.heap.size w w' := by
 have HB := Lib.hid hb
 clear hb
 obtain ⟨a, cap, rfl, hc1, hc2⟩ := zd hv
 go_enter Tryz.func106, Tryz.ntmps106
 go_wp2_with fail
 go_loopw [5] (fun iv wr => ∃ i : Nat, i ≤ ns.length ∧ iv = .int .i64 i ∧ Hid (n ∉ ns.take i) ∧ Below w.heap.size w wr) (fun iv _ => ns.length - (intOf iv).toNat)
 case atStart => exact ⟨0, Nat.zero_le _, rfl, Lib.hid (by simp), Below.refl _ _⟩
 case round =>
  obtain ⟨i, hi, rfl, HN, hbw⟩ := hrel
  by_cases hlt : i < ns.length
  ·obtain ⟨bk, off, rfl, hbs, _⟩ := zm hv (by omega)
   obtain ⟨q0, hri⟩ := zL (hv.below hbw) hlt
   by_cases he : ns[i] = n
   ·have h2 : (ns[i] == n) = true := by simp [he]
    have HT : Hid (b = true) := Lib.hid (by rw [← HB.out]; simp only [decide_eq_true_eq]; rw [← he]; exact zes hlt)
    clear he
    go_wp2_with fail
    go_ret
    exact ⟨by rw [HT.out]; rfl, hbw⟩
   ·have h2 : (ns[i] == n) = false := by simpa using he
    have HN2 := Lib.hid (take_not HN.out hlt he)
    clear he
    go_wp2_with fail
    go_roundw
    case rel => exact ⟨i + 1, by omega, by go_num, HN2, hbw⟩
    case measure => simp [intOf]; omega
  ·have ei : i = ns.length := by omega
   have HF : Hid (b = false) := Lib.hid (by rw [← HB.out]; have := HN.out; rw [ei, List.take_length] at this; simpa using this)
   clear ei
   go_wp2_with fail
   go_ret
   exact ⟨by rw [HF.out]; rfl, hbw⟩
theorem ints_one {w : World} {b : Nat} {n : Int} (hn : I64 n) (hc : w.cell? ⟨b, 0, none⟩ = some (.int .i64 n)) (hb : b < w.heap.size) : Rd w (.sl ([n].map zk)) (.slice (some ⟨b, 0, none⟩) 1 1) [b] := by
 simp only [Rd]
 refine ⟨_, _, rfl, Nat.le_refl _, by decide, .inr ⟨by simp, b, 0, [], rfl, hb, rfl, ?_⟩⟩
 simp only [List.map_cons, List.map_nil, RdRows]
 refine ⟨[.int .i64 n], [], [], rfl, ?_, zH hn, rfl⟩
 intro j v hv
 cases j with
 | zero => simp only [zem, Option.some.injEq] at hv; subst hv; exact hc
 | succ j => simp at hv
theorem zaE {st : List Stp} {n N : Nat} {a b : Int} {seen l : List Int} (h : way st n N a b seen = some l) : wayL st n N a b seen = l ∧ (way st n N a b seen).isSome = true := by unfold wayL; rw [h]; exact ⟨rfl, rfl⟩
theorem zcT {st : List Stp} {n N : Nat} {a b : Int} {seen : List Int} (h : way st n N a b seen = none) : wayL st n N a b seen = [] ∧ (way st n N a b seen).isSome = false := by unfold wayL; rw [h]; exact ⟨rfl, rfl⟩
theorem next_fit {ps : List Tm} {s : Stp} (h : zax ps s) (a : Int) (h0 : ¬ s.next a < 0) : ∃ p : Nat, s.next a = (p : Int) ∧ p < ps.length := by
 obtain ⟨p, q, h1, h2, hp, hq, _⟩ := h
 unfold Stp.next at h0 ⊢
 split
 ·exact ⟨p, h1, hp⟩
 ·rename_i hn
  rw [if_neg hn] at h0
  split
  ·exact ⟨q, h2, hq⟩
  ·rename_i hn2; rw [if_neg hn2] at h0; omega
/-- The way that comes back. -/
def WayOut (st : List Stp) (n N : Nat) (a b : Int) (seen : List Int) (w : World) (e : Ending) (w' : World) : Prop :=
 ∃ (rv : Value) (rf : List Nat), e = .returned (.tuple #[rv, .bool (way st n N a b seen).isSome]) ∧ Rd w' (.sl ((wayL st n N a b seen).map zk)) rv rf ∧ (∀ x ∈ rf, w.heap.size ≤ x) ∧ Below w.heap.size w w'
theorem Own.single {w : World} {base e k : Nat} {vs : List Value} {d : List CD} {f : List Nat} (hb : base ≤ w.heap.size) (hr : RdVs (w.alloc (.cells vs.toArray e)) d vs f) (hk : d.length = k) (hf : ∀ b ∈ f, b < w.heap.size) :
  Own (w.alloc (.cells vs.toArray e)) base e k (.slice (some ⟨w.heap.size, 0, none⟩) 1 1) [d] f := by
 have hl : vs.length = k := by rw [hr.length, hk]
 refine ⟨vs, ⟨by simp [hl], .inr ⟨w.heap.size, 1, vs.toArray, rfl, hb, heap_alloc_new w _, Nat.le_refl _, by simp [maxLen], by simp [hl], by simp [← hl]⟩⟩, by simpa using hr, by simpa using hk, fun b hb' e => ?_⟩
 have h1 := hf b hb'
 have h2 : w.heap.size = b := Option.some.inj e
 omega
def WayAll (ps : List Tm) (st : List Stp) (sv : Value) (n : Nat) (b : Int) (N : Nat) : Prop := ∀ (a : Int) (seen : List Int) (sf : List Nat) (lv : Value) (lf : List Nat) (w : World),
  Hid (zbE ps.length seen ≤ N) → seen.length + N ≤ 2000000 → Rd w (.sl (st.map Stp.cd)) sv sf → Rd w (.sl (seen.map zk)) lv lf →
  Calls Tryz.prog 77 #[sv, .int .i64 n, .int .i64 a, .int .i64 b, lv] w (WayOut st n (N + 1) a b seen w)
theorem zcf (ps : List Tm) (st : List Stp) (sv : Value) (hfit : Hid (∀ s ∈ st, zax ps s)) (hsl : st.length ≤ 1000000) (hpl : ps.length ≤ 1000000) (n : Nat) (hn : n ≤ st.length) (b : Int) (N : Nat) (hrec : ∀ M, N = M + 1 → WayAll ps st sv n b M) : WayAll ps st sv n b N := by
 intro a seen sf lv lf w hu hsn hv hl
 obtain ⟨sa, sc, rfl, hsc1, hsc2⟩ := zd hv
 obtain ⟨la, lc, rfl, hlc1, hlc2⟩ := zd hl
 by_cases hab : a = b
 ·have h1 : (a == b) = true := by simp [hab]
  have HW := Lib.hid (show way st n (N + 1) a b seen = some [] by rw [hab]; exact zcw st n N b seen)
  clear hab
  go_enter Tryz.func77, Tryz.ntmps77
  go_wp2_with fail
  (try simp only [Exit.inBlock, Exit.then])
  refine bodyPost_ret (results_tmp2 rfl _ _ _) rfl ?_
  exact ⟨_, [], by rw [(zaE HW.out).2]; rfl, by rw [(zaE HW.out).1]; exact zcx _ _ (by simp), by simp, zb _ _⟩
 ·have h1 : (a == b) = false := by simpa using hab
  have HAB := Lib.hid hab
  clear hab
  go_enter Tryz.func77, Tryz.ntmps77
  go_wp2_with fail
  go_loopw [12] (fun iv wr => ∃ i : Nat, i ≤ n ∧ iv = .int .i64 i ∧ Hid (WayNo st n N a b seen i) ∧ Below w.heap.size w wr) (fun iv _ => n - (intOf iv).toNat)
  case atStart => exact ⟨0, Nat.zero_le _, rfl, Lib.hid (fun j hj => by omega), Below.refl _ _⟩
  case round =>
   obtain ⟨i, hi, rfl, HN, hbw⟩ := hrel
   by_cases hlt : i < n
   ·have hil : i < st.length := by omega
    obtain ⟨bk, off, rfl, hbs, _⟩ := zm hv (by omega)
    obtain ⟨d0, d1, d2, ia, ib, ig, _⟩ := Stp.at (hv.below hbw) hil
    obtain ⟨nx, HX⟩ : ∃ z, Hid (st[i].next a = z) := ⟨_, Lib.hid rfl⟩
    obtain ⟨sg, HS⟩ : ∃ z, Hid (st[i].sign a i = z) := ⟨_, Lib.hid rfl⟩
    obtain ⟨wq, hwq⟩ : ∃ z, z = wr := ⟨_, rfl⟩
    have hlw := hl.below hbw
    have hvw := hv.below hbw
    go_upto_if 33 with (fail)
    go_cut [13] from 21 to 78 (fun nv wx => ∃ z : Int, nv = .int .i64 z ∧ Hid (z = if st[i].a = a then st[i].b else -1) ∧ wx = wr)
    case first =>
     by_cases ha : st[i].a = a
     ·have h2 : (st[i].a == a) = true := by simp [ha]
      have HZ := Lib.hid (show st[i].b = if st[i].a = a then st[i].b else -1 by rw [if_pos ha])
      clear ha
      go_wp2_with fail
      go_meet
      case rel => exact ⟨_, rfl, HZ, rfl⟩
     ·have h2 : (st[i].a == a) = false := by simpa using ha
      have HZ := Lib.hid (show (-1 : Int) = if st[i].a = a then st[i].b else -1 by rw [if_neg ha])
      clear ha
      go_wp2_with fail
      go_meet
      case rel => exact ⟨_, rfl, HZ, rfl⟩
    case rest =>
    obtain ⟨z, rfl, HZ, hwc⟩ := hcut
    subst hwc
    clear d0
    go_upto_if 45 with (fail)
    go_cut [13, 14] from 21 to 78 (fun nv gv wx => nv = .int .i64 nx ∧ gv = .int .i64 sg ∧ wx = wc)
    case first =>
     obtain ⟨d0, _, _, _⟩ := Stp.at hvw hil
     by_cases hb2 : st[i].b = a
     ·have h2 : (st[i].b == a) = true := by simp [hb2]
      have hx : st[i].a = nx := by rw [← HX.out, Stp.next, if_pos hb2]
      have hs : -1 - (i : Int) = sg := by rw [← HS.out, Stp.sign, if_pos hb2]
      clear hb2
      rw [hx] at d0
      have HS2 := Lib.hid hs
      clear hs hx
      go_wp2_with fail
      go_meet
      case rel => exact ⟨rfl, by rw [← HS2.out], rfl⟩
     ·have h2 : (st[i].b == a) = false := by simpa using hb2
      have hx : z = nx := by rw [← HX.out, HZ.out, Stp.next, if_neg hb2]
      have hs : (i : Int) = sg := by rw [← HS.out, Stp.sign, if_neg hb2]
      clear hb2
      have HS2 := Lib.hid hs
      have HX2 := Lib.hid hx
      clear hs hx
      go_wp2_with fail
      go_meet
      case rel => exact ⟨by rw [HX2.out], by rw [← HS2.out], rfl⟩
    case rest =>
    obtain ⟨rfl, rfl, hwc2⟩ := hcut
    subst hwc2
    clear d1 d2 HZ
    by_cases h0 : nx < 0
    ·have h3 : decide (nx < 0) = true := by simpa using h0
     have HN2 := Lib.hid (HN.out.succ (zcb hil (.inl (by rw [HX.out]; exact h0))))
     clear h0
     go_wp2_with fail
     go_roundw
     case rel => exact ⟨i + 1, by omega, by go_num, HN2, hbw⟩
     case measure => simp [intOf]; omega
    ·have h3 : decide (nx < 0) = false := by simpa using h0
     obtain ⟨p, hp, hpm⟩ := next_fit (hfit.out _ (zes hil)) a (by rw [HX.out]; exact h0)
     rw [HX.out] at hp
     subst hp
     cases hin : decide ((p : Int) ∈ seen)
     ·have HNI : Hid ((p : Int) ∉ seen) := Lib.hid (by simpa using hin)
      clear h0
      go_wp2_with fail
      refine (zdG seen (p : Int) false hin _ _ _ (by omega) hlw).mono ?_
      rintro e w1 ⟨rfl, hb1⟩
      have hbw1 := hbw.trans (hb1.mono hbw.size)
      have hl1 := hlw.below hb1
      have hv1 := hvw.below hb1
      clear hb1 hlw hvw hin
      have hlf := hl1.lt
      have hba := zb w1 (.cells #[] 3)
      go_wp2_with (at_builtin; refine zq zB rfl _ _ rfl w1.heap.size _ [] [] rfl (Own.empty w1 w1.heap.size _ _ (Nat.le_refl _)) (seen.map zk) _ lf rfl (by exact hl1.below hba) ?k ?na ?bytes ?len ?base ?next)
      case k => simp only [List.mem_map]; rintro e ⟨t, _, rfl⟩; exact zaz t
      case na => intro x hx h; have h1 := hl1.lt _ x hx; have h2 : w1.heap.size = x := Option.some.inj h; omega
      case bytes => simp; omega
      case len => simp; omega
      case base => simp
      case next =>
       intro v5 w5 f5 hf5 hown5 hg5 hv5 hs5
       have hb5 : Below w1.heap.size w1 w5 := zf hba hg5 (by simp) (fun q hq => by have h2 : w1.heap.size = q := Option.some.inj hq; omega)
       try simp only [List.nil_append] at hown5
       have hz5 := hb5.size
       have hba5 := zb w5 (.cells #[.int .i64 (p : Int)] 3)
       have hown7 := hown5.below hba5
       have hlt5 : ∀ {q : Nat}, v5.ownBlock = some q → w1.heap.size ≤ q ∧ q < w5.heap.size := hown5.block
       have HNX : Hid (I64 (p : Int)) := Lib.hid ⟨by omega, by omega⟩
       have hbA := hb5.trans (hba5.mono hz5)
       go_wp2_with (at_builtin; refine zp zB rfl _ _ rfl w1.heap.size _ _ _ rfl hown7 ⟨w5.heap.size, 0, none⟩ 1 1 [zk (p : Int)] [.int .i64 (p : Int)] [] rfl rfl ?rd ?k ?cells ?na ?bytes ?len ?base ?next)
       case rd => exact by simpa using zX [(p : Int)] (by simpa using HNX.out)
       case k => simp [zaz]
       case cells => exact zn _ _ _
       case na => simp
       case bytes => simp; omega
       case len => simp; omega
       case base => simp; omega
       case next =>
        intro v6 w6 hown6 hg6 hv6 hs6
        have hb6 : Below w1.heap.size w1 w6 := zf hbA hg6 (by simp; omega) (fun q hq => (hlt5 hq).1)
        obtain ⟨sn, hsn'⟩ : ∃ l, l = seen ++ [(p : Int)] := ⟨_, rfl⟩
        rw [show seen.map zk ++ [zk (p : Int)] = sn.map zk from by rw [hsn']; simp] at hown6
        obtain ⟨g6, hr6⟩ := hown6.rd'
        have hsl2 : sn.length ≤ seen.length + 1 := by rw [hsn']; simp
        have HSN := Lib.hid hsn'
        clear hsn'
        obtain ⟨M, hM⟩ : ∃ M, N = M + 1 := by
         have h8 := zcc hpm (seen := seen) HNI.out
         have h9 := hu.out
         exact ⟨N - 1, by omega⟩
        have hv6' := hv1.below hb6
        have HU : Hid (zbE ps.length sn ≤ M) := Lib.hid (by
         rw [HSN.out]
         have h8 := zcc hpm (seen := seen) HNI.out
         have h9 := hu.out
         omega)
        have hbw6 := hbw1.trans (hb6.mono hbw1.size)
        have hm2 : sn.length + M ≤ 2000000 := by omega
        clear hown5 hown6 hown7 hg5 hg6 hv5 hv6 hs5 hs6 hba hba5 hbA hb5 hb6 hl1 hv1 hlf hlt5 hf5
        obtain ⟨va, vc, rfl, _, _⟩ := zd hr6
        go_wp2_with fail
        refine (hrec M hM (p : Int) sn _ _ _ _ HU hm2 hv6' (by exact hr6)).mono ?_
        rintro e w8 ⟨rv, rf, rfl, hrr, hrf, hb8⟩
        obtain ⟨ra, rc, rfl, hrc1, hrc2⟩ := zd hrr
        have hbw8 := hbw6.trans (hb8.mono hbw6.size)
        have hz8 := hb8.size
        have hz6 := hbw6.size
        cases hway : way st n (M + 1) (p : Int) b sn with
        | none =>
         have HN2 := Lib.hid (HN.out.succ (by
          subst hM
          rw [zdE hil (by rw [HX.out]; exact fun h => h.elim (fun h9 => absurd h9 (by omega)) HNI.out), HX.out, ← HSN.out, hway]; rfl))
         simp only [Option.isSome_none]
         clear hway hrr
         go_wp2_with fail
         go_roundw
         case rel => exact ⟨i + 1, by omega, by go_num, HN2, hbw8⟩
         case measure => simp [intOf]; omega
        | some l =>
         have e1 := (zaE hway).1
         have HL := Lib.hid (zdF st n (M + 1) _ _ _ _ hway).2
         have HW := Lib.hid (HN.out.some HAB.out hlt (l := sg :: l) (by
          subst hM
          rw [zdE hil (by rw [HX.out]; exact fun h => h.elim (fun h9 => absurd h9 (by omega)) HNI.out), HX.out, ← HSN.out, hway, HS.out]; rfl))
         rw [e1] at hrr ⊢
         simp only [Option.isSome_some]
         clear e1 hway
         have HSG : Hid (I64 sg) := Lib.hid (by rw [← HS.out, Stp.sign]; split <;> constructor <;> omega)
         have hba := zb w8 (.cells #[.int .i64 sg] 3)
         have hown := Own.single (w := w8) (base := w8.heap.size) (e := 3) (k := 1) (vs := [.int .i64 sg]) (d := zk sg) (f := []) (Nat.le_refl _) (zH HSG.out) rfl (by simp)
         have hll : l.length ≤ 2000001 := by have := HL.out; omega
         go_wp2_with (at_builtin; refine zq zB rfl _ _ rfl w8.heap.size _ _ _ rfl hown (l.map zk) _ rf rfl (by exact hrr.below hba) ?k ?na ?bytes ?len ?base ?next)
         case k => simp only [List.mem_map]; rintro e ⟨t, _, rfl⟩; exact zaz t
         case na => intro x hx h; have h1 := hrr.lt _ x hx; have h2 : w8.heap.size = x := Option.some.inj h; omega
         case bytes => simp; omega
         case len => simp; omega
         case base => simp
         case next =>
          intro v9 w9 f9 hf9 hown9 hg9 hv9 hs9
          have hb9 : Below w8.heap.size w8 w9 := zf hba hg9 (by simp) (fun q hq => by have h2 : w8.heap.size = q := Option.some.inj hq; omega)
          obtain ⟨g9, hr9, hg9m⟩ := hown9.rd
          have hbw9 := hbw8.trans (hb9.mono hbw8.size)
          go_wp2_with fail
          (try simp only [Exit.inBlock, Exit.then])
          refine bodyPost_ret (results_tmp2 rfl _ _ _) rfl ?_
          refine ⟨_, g9, by rw [(zaE HW.out).2]; rfl, by rw [(zaE HW.out).1]; simpa using hr9, fun x hx => ?_, hbw9⟩
          rcases hg9m with ⟨_, _, rfl⟩ | ⟨q, c, hq, rfl, _, hq4, _⟩
          ·simp at hx
          ·rcases zev.1 hx with rfl | hx
           ·omega
           ·have := hrf x (hf9 x (by simpa using hx)); omega
     ·have HN2 := Lib.hid (HN.out.succ (zcb hil (.inr (by rw [HX.out]; simpa using hin))))
      clear h0
      go_wp2_with fail
      refine (zdG seen (p : Int) true hin _ _ _ (by omega) hlw).mono ?_
      rintro e w1 ⟨rfl, hb1⟩
      have hbw1 := hbw.trans (hb1.mono hbw.size)
      go_wp2_with fail
      go_roundw
      case rel => exact ⟨i + 1, by omega, by go_num, HN2, hbw1⟩
      case measure => simp [intOf]; omega
   ·have ei : i = n := by omega
    have HW : Hid (way st n (N + 1) a b seen = none) := Lib.hid (by have h9 := HN.out; rw [ei] at h9; exact h9.none HAB.out)
    clear ei
    go_wp2_with fail
    (try simp only [Exit.inBlock, Exit.then])
    refine bodyPost_ret (results_tmp2 rfl _ _ _) rfl ?_
    exact ⟨_, [], by rw [(zcT HW.out).2]; rfl, by rw [(zcT HW.out).1]; exact zcx _ _ (by simp), by simp, hbw.alloc hbw.size _⟩
theorem l5Way_any (ps : List Tm) (st : List Stp) (sv : Value) (hfit : Hid (∀ s ∈ st, zax ps s)) (hsl : st.length ≤ 1000000) (hpl : ps.length ≤ 1000000) (n : Nat) (hn : n ≤ st.length) (b : Int) (N : Nat) : WayAll ps st sv n b N := by
 induction N with
 | zero => exact zcf ps st sv hfit hsl hpl n hn b 0 (fun M h => by omega)
 | succ N ih => exact zcf ps st sv hfit hsl hpl n hn b (N + 1) (fun M h => (show N = M by omega) ▸ ih)
end Go.Proofs.YtlefdhhnlbpbkaaGreat
end
