/- Parts of the proof: LawStackSameL. -/
import Derived.BigQuiet
import Derived.Test.YticlgpkjdmcnaaaPa47
import Derived.Test.YticlgpkjdmcnaaaPa46
section
namespace Go.Proofs.Yticlgpkjdmcnaaa
open Go Go.RowKit
set_option linter.unusedVariables false
set_option linter.unusedSimpArgs false
set_option maxRecDepth 100000
set_option maxHeartbeats 16000000
theorem longer_ne (K : Stk) : eqV K.cd (Stk.mk K.sig (K.levels ++ [[]])).cd = false := by
 cases h : eqV K.cd (Stk.mk K.sig (K.levels ++ [[]])).cd with
 | false => rfl
 | true =>
  rw [zay] at h
  unfold Stk.cd at h
  have h1 := List.append_cancel_left h
  simp only [List.cons.injEq, CD.sl.injEq, and_true] at h1
  have h2 := congrArg List.length h1
  simp at h2
theorem za0 (x y : Stk) (b : Bool) (h : eqV x.cd y.cd = b) (vs us : List Value) (f f' : List Nat) (w : World) (hv : RdVs w x.cd vs f) (hx : RdVs w y.cd us f') :
  Calls Try.prog 5 #[.agg vs.toArray, .agg us.toArray] w fun e w' => e = .returned (.bool b) ∧ Below w.heap.size w w' := by subst h; exact sameStk_x x y vs us f f' w hv hx
theorem zdf (x y : Stk) (b : Bool) (h : eqV x.cd y.cd = b) (vs us : List Value) (f f' : List Nat) (w : World) (hv : RdVs w x.cd vs f) (hx : RdVs w y.cd us f') :
  Calls Try.prog 6 #[.agg vs.toArray, .agg us.toArray] w fun e w' => e = .returned (.bool b) ∧ Below w.heap.size w w' := by subst h; exact zdW x y vs us f f' w hv hx
theorem rd_one9 {w : World} {b q : Nat} (hc : w.cell? ⟨b, 0, none⟩ = some (.slice (some ⟨q, 0, none⟩) 0 0)) (hb : b < w.heap.size) : Rd w (.sl [[.sl []]]) (.slice (some ⟨b, 0, none⟩) 1 1) [b] := by
 simp only [Rd]
 refine ⟨_, _, rfl, Nat.le_refl _, by decide, .inr ⟨by simp, b, 0, [], rfl, hb, rfl, ?_⟩⟩
 simp only [RdRows]
 refine ⟨[.slice (some ⟨q, 0, none⟩) 0 0], [], [], rfl, ?_, RdVs.single (zc6 rfl _), rfl⟩
 intro j v hv
 cases j with
 | zero => simp only [zd0, Option.some.injEq] at hv; subst hv; exact hc
 | succ j => simp at hv
theorem zb4 (v : Value) (w : World) (hv : Byts w v) :
  Calls Try.prog 3 #[v] w fun e w' => e = .returned (.bool true) ∧ Below w.heap.size w w' := by
 have hv0 := hv
 obtain ⟨a9, n, cap, rfl, hn1, hn2, _⟩ := hv
 by_cases hlen : n ≤ 1048576
 rotate_left
 ·have hlb0 : decide ((1048576 : Int) < (n : Int)) = true := decide_eq_true (by omega)
  go_enter Try.func3, Try.ntmps3
  go_wp2_with fail
  go_ret
  exact ⟨rfl, Below.refl _ _⟩
 have hlb0 : decide ((1048576 : Int) < (n : Int)) = false := decide_eq_false (by omega)
 go_enter Try.func3, Try.ntmps3
 go_wp2_with fail
 refine (zbz _ _ hv0).mono ?_
 rintro e w1 ⟨⟨K, P, sa, sc, la, lc, xa, xc, xl, xm, kf, xf, hwK, hwP, rfl, hrk, hrx⟩, hB⟩
 obtain ⟨kB, hkB⟩ : ∃ F, F = w1.heap.size := ⟨_, rfl⟩
 obtain ⟨pB, hpB⟩ : ∃ G, G = kB + 1 := ⟨_, rfl⟩
 have hK := (Box.new w1 [.slice sa K.sig.syms.length sc, .slice la K.levels.length lc] 28).alloc (.cells #[.slice xa P.sig.syms.length xc, .slice xl P.levels.length xm] 28)
 have hP := Box.new (w1.alloc (.cells #[.slice sa K.sig.syms.length sc, .slice la K.levels.length lc] 28)) [.slice xa P.sig.syms.length xc, .slice xl P.levels.length xm] 28
 rw [World.size_alloc] at hP
 rw [← hkB, ← hpB] at hP
 rw [← hkB] at hK
 go_upto_region 4 with fail
 try rw [← hkB]
 try rw [← hpB]
 have hba : Below w1.heap.size w1 ((w1.alloc (.cells #[.slice sa K.sig.syms.length sc, .slice la K.levels.length lc] 28)).alloc (.cells #[.slice xa P.sig.syms.length xc, .slice xl P.levels.length xm] 28)) := ((Below.refl _ _).alloc (Nat.le_refl _) _).alloc (by simp) _
 replace hrk := hrk.below hba
 replace hrx := hrx.below hba
 replace hB := hB.trans (hba.mono hB.size)
 clear hba hkB hpB
 generalize (w1.alloc (.cells #[.slice sa K.sig.syms.length sc, .slice la K.levels.length lc] 28)).alloc (.cells #[.slice xa P.sig.syms.length xc, .slice xl P.levels.length xm] 28) = w2 at *
 obtain ⟨ok, HI⟩ : ∃ a, Hid (eqV K.cd P.cd = a) := ⟨_, Lib.hid rfl⟩
 have HJ : Hid (eqV P.cd K.cd = ok) := Lib.hid (by rw [eqV_comm]; exact HI.out)
 have HE : Hid (eqV K.cd K.cd = true) := Lib.hid (by rw [zay])
 have n1 : (ok != ok) = false := by cases ok <;> rfl
 have n2 : (ok == ok) = true := by cases ok <;> rfl
 have qk0 := cell_regrown (hK.2.1 0 _ rfl); have qk1 := cell_regrown (hK.2.1 1 _ rfl); have qp0 := cell_regrown (hP.2.1 0 _ rfl); have qp1 := cell_regrown (hP.2.1 1 _ rfl)
 refine wp_region_quiet_below (by kernel_rfl) (by kernel_rfl) ?_
 repeat (go_big_quiet_step (with_reducible refine Calls.regrown_of (by first | exact za0 K P ok HI.out _ _ _ _ _ (hrk.below (below_regrown _ _ _)) (hrx.below (below_regrown _ _ _)) | exact zdf K P ok HI.out _ _ _ _ _ (hrk.below (below_regrown _ _ _)) (hrx.below (below_regrown _ _ _)) | exact za0 P K ok HJ.out _ _ _ _ _ (hrx.below (below_regrown _ _ _)) (hrk.below (below_regrown _ _ _)) | exact za0 K K true HE.out _ _ _ _ _ (hrk.below (below_regrown _ _ _)) (hrk.below (below_regrown _ _ _)))))
 refine wpQuiet_nil ?_
 intro w3 hq9
 obtain ⟨⟨dq, osq⟩, hq9⟩ := hq9
 have hb9 : Below w2.heap.size w2 w3 := hq9 ▸ below_regrown w2 dq osq
 clear hq9
 replace hK := hK.below hb9
 replace hrk := hrk.below hb9
 replace hB := hB.trans (hb9.mono hB.size)
 clear hb9 hrx hP n1 n2 qk0 qk1 qp0 qp1
 have k0 := hK.2.1 0 _ rfl; have k1 := hK.2.1 1 _ rfl
 obtain ⟨XB, hXB⟩ : ∃ F, F = w3.heap.size := ⟨_, rfl⟩
 have hX := Box.new w3 [.slice sa K.sig.syms.length sc, .slice la K.levels.length lc] 28
 rw [← hXB] at hX
 have hwX : w.heap.size ≤ XB := by have := hB.size; omega
 have hkX : kB < XB := by have := hK.1; omega
 have hfX : ∀ b ∈ kf, b < XB := fun b hb => by have := hrk.lt _ b hb; omega
 go_upto_region 7 with fail
 rw [← hXB]
 have hba := zb w3 (.cells #[.slice sa K.sig.syms.length sc, .slice la K.levels.length lc] 28)
 replace hK := hK.below hba
 replace hrk := hrk.below hba
 replace hB := hB.trans (hba.mono hB.size)
 clear hba hXB k0 k1
 generalize w3.alloc (.cells #[.slice sa K.sig.syms.length sc, .slice la K.levels.length lc] 28) = w4 at *
 have k0 := hK.2.1 0 _ rfl; have k1 := hK.2.1 1 _ rfl
 have hfX4 : XB < w4.heap.size := hX.1
 have hfK4 : kB < w4.heap.size := hK.1
 obtain ⟨_, _, fs, _, _, fl, hve, hkf, hm0, hlv⟩ := Stk.open hrk
 simp only [List.cons.injEq, Value.slice.injEq, and_true, true_and] at hve
 obtain ⟨⟨rfl, rfl⟩, rfl, rfl⟩ := hve
 have hflX : ∀ b ∈ fl, b < XB := fun b hb => hfX b (by rw [hkf]; exact List.mem_append_right _ hb)
 have hfsX : ∀ b ∈ fs, b < XB := fun b hb => hfX b (by rw [hkf]; exact List.mem_append_left _ hb)
 have hKl : K.levels.length ≤ 1048576 := by have h9 := zS K.sig K.levels; rw [zdw] at h9; omega
 clear hkf
 have hba := zb w4 (.cells #[] 32)
 go_wp2_with (at_builtin; refine zar zaA rfl _ _ rfl w4.heap.size _ [] [] rfl (Own.empty w4 w4.heap.size _ _ (Nat.le_refl _)) (K.levels.map zx) _ fl rfl (by exact hlv.below hba) ?k ?na ?bytes ?len ?base ?next)
 case k => simp only [List.mem_map]; rintro e ⟨t, _, rfl⟩; rfl
 case na => intro b hb h; have h1 := hflX b hb; have h2 : w4.heap.size = b := Option.some.inj h; omega
 case bytes => simp; omega
 case len => simp; omega
 case base => simp
 case next =>
  intro v5 w5 f5 hf5 hown5 hg5 hv5 hs5
  have hb5 : Below w4.heap.size w4 w5 := zk hba hg5 (by simp) (fun q hq => by have h2 : w4.heap.size = q := Option.some.inj hq; omega)
  try simp only [List.nil_append] at hown5
  have hz5 := hb5.size
  have hrow5 : ∀ q, v5.ownBlock = some q → w4.heap.size ≤ q := fun q hq => (hown5.block hq).1
  have hb7 : Below w5.heap.size w5 ((w5.alloc (.cells #[] 52)).alloc (.cells #[.slice (some ⟨w5.heap.size, 0, none⟩) 0 0] 32)) := ((Below.refl _ _).alloc (Nat.le_refl _) _).alloc (by simp) _
  have hc7 := zy (w5.alloc (.cells #[] 52)) #[.slice (some ⟨w5.heap.size, 0, none⟩) 0 0] 32 0
  rw [World.size_alloc] at hc7
  have hown7 := hown5.below hb7
  have hz7 : ((w5.alloc (.cells #[] 52)).alloc (.cells #[.slice (some ⟨w5.heap.size, 0, none⟩) 0 0] 32)).heap.size = w5.heap.size + 1 + 1 := by simp
  have hlt5 : ∀ {b : Nat}, v5.ownBlock = some b → w4.heap.size ≤ b ∧ b < w5.heap.size := hown5.block
  clear hs5 hg5 hba
  have hb47 := hb5.trans (hb7.mono hz5)
  have KA := hK.below hb47; have KX := hX.below hb47
  have kz0 := KA.2.1 0 _ rfl; have kz1 := KA.2.1 1 _ rfl
  go_wp2_with (at_builtin; refine zar zaA rfl _ _ rfl w4.heap.size _ _ _ rfl hown7 [[.sl []]] (.slice (some ⟨w5.heap.size + 1, 0, none⟩) 1 1) [w5.heap.size + 1] rfl ?rd ?k ?na ?bytes ?len ?base ?next)
  case rd => exact rd_one9 hc7 (by rw [hz7]; omega)
  case k => intro x hx; simp only [List.mem_singleton] at hx; subst hx; rfl
  case na => intro b hb h; simp only [List.mem_singleton] at hb; have := (hlt5 h).2; omega
  case bytes => simp; omega
  case len => simp; omega
  case base => omega
  case next =>
   intro v6 w6 f6 hf6 hown6 hg6 hv6 hs6
   have hb6 : Below w4.heap.size w4 w6 := zk hb47 hg6 (by omega) hrow5
   have he6 : K.levels.map zx ++ [[.sl []]] = (K.levels ++ [[]]).map zx := by simp [zx]
   rw [he6] at hown6
   obtain ⟨g6, hr6, hg6m⟩ := hown6.rd
   obtain ⟨va, vc, rfl, _, _⟩ := hown6.form
   rw [zea] at hr6 ⊢
   obtain ⟨m, hm⟩ : ∃ m, (K.levels ++ [[]]).length = m := ⟨_, rfl⟩
   rw [hm] at hr6 ⊢
   have HM := Lib.hid hm
   clear hm
   have hgX : ∀ b ∈ g6, b ≠ XB := fun b hb => by
    rcases hg6m with ⟨_, _, rfl⟩ | ⟨q, c, hq, rfl, _, hq4, _⟩
    ·simp at hb
    ·rcases zd9.1 hb with rfl | hb
     ·omega
     ·rcases zd5.1 hb with hb | hb
      ·have := hflX b (hf5 b hb); omega
      ·have := hf6 b hb; try simp only [List.mem_singleton] at this
       omega
   have K6 := hK.below hb6; have X6 := hX.below hb6
   have hm6 := hm0.below hb6
   have hrk6 := hrk.below hb6
   replace hB := hB.trans (hb6.mono hB.size)
   clear hf6 hown6 hg6 hv6 hs6 hg6m hf5 hown5 hv5 hown7 hc7 hb7 hb47 KA KX kz0 kz1 hK hX hm0 hrk hlv hb5 hb6 k0 k1
   have x0 := X6.2.1 0 _ rfl; have x1 := X6.2.1 1 _ rfl; have y1 := X6.2.2 1
   go_upto_region 8 with fail
   have hr6' := hr6
   rw [← HM.out] at hr6'
   have hrx6 := Stk.close (x := Stk.mk K.sig (K.levels ++ [[]])) hm6 hr6'
   simp only [HM.out] at hrx6
   have hX := X6.put (k := 1) (by simp) (.slice va m vc)
   have hK := K6.sets_other (b := XB) (.inl hkX) [(1, .slice va m vc)]
   simp only [zdY, zdZ, zo] at hX hK
   have hsa : ∀ {f : List Nat}, (∀ b ∈ f, b ≠ XB) → SameOn f w6 (w6.setCell ⟨XB, 1, none⟩ (.slice va m vc)) := fun hf b hb => Below.heap_setCell _ _ _ _ (hf b hb)
   have hrk8 := hrk6.same _ (hsa (f := kf) (fun b hb => Nat.ne_of_lt (hfX b hb)))
   have hrx8 := hrx6.same _ (hsa (f := fs ++ g6) (fun b hb => (zd5.1 hb).elim (fun h => Nat.ne_of_lt (hfsX b h)) (hgX b)))
   replace hB := hB.setCell (p := ⟨XB, 1, none⟩) hwX (.slice va m vc)
   clear x0 x1 y1 X6 K6 hm6 hr6 hr6' hrk6 hrx6 hsa
   generalize w6.setCell ⟨XB, 1, none⟩ (.slice va m vc) = w8 at *
   have k0 := hK.2.1 0 _ rfl; have k1 := hK.2.1 1 _ rfl; have x0 := hX.2.1 0 _ rfl; have x1 := hX.2.1 1 _ rfl
   go_wp2_with fail
   refine (za0 K _ false (longer_ne K) _ _ _ _ _ (by exact hrk8) (by exact hrx8)).mono ?_
   rintro e w9 ⟨rfl, hb⟩
   replace hB := hB.trans (hb.mono hB.size)
   go_wp2_with fail
   go_ret
   exact ⟨rfl, hB⟩
end Go.Proofs.Yticlgpkjdmcnaaa
end
