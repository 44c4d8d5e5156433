/- Parts of the proof: RdrI. -/
import Derived.Test.YtoehhbkhdddeeaaGreatDoorPf39
import Derived.Test.YtoehhbkhdddeeaaGreatDoorPf35
section
namespace Go.Proofs.YtoehhbkhdddeeaaGreatDoor
open Go Go.RowKit
set_option linter.unusedVariables false
set_option linter.unusedSimpArgs false
set_option maxRecDepth 100000
set_option maxHeartbeats 16000000
theorem Box.grownB {u u' : World} {b : Nat} {vs : List Value} {row : Option Nat} (h : Box vs b u) (hg : u.grownBy u' row) (hr : ∀ q, row = some q → q ≠ b) : Box vs b u' := by
 have hn : row ≠ some b := fun e => hr b e rfl
 exact ⟨zdQ h.1 hg.size, fun j x hx => zg hg (h.2.1 j x hx) hn, fun j => zt hg h.1 (h.2.2 j) hn⟩
def gcap : Nat → Nat | 0 => 0 | n + 1 => 4 + 2 * gcap n
def fcap : Nat → Nat | 0 => 0 | n + 1 => 5002 + 2 * fcap n
/-- A form that is drawn, out of what lies in lf. -/
def DrawnF (cap : Nat) (lf : List Nat) (w : World) (e : Ending) (w' : World) : Prop := ∃ (f : Fm) (vs : List Value) (fp : List Nat), wtV f.cd ≤ cap ∧ e = .returned (.agg vs.toArray) ∧ RdVs w' f.cd vs fp ∧ ∀ b ∈ fp, b ∈ lf ∨ w.heap.size ≤ b
theorem lt_wt9 (x : Atm) (no : Bool) : wtV (Lt.mk x no).cd = wtV x.cd := by rw [Lt.cd, zR, zbj]; rfl
theorem leaf_wt (x : Atm) (no : Bool) : wtV (Fm.mk 1 ⟨x, no⟩ []).cd = wtV x.cd := by
 rw [Fm.wt_eq]
 simp only [Fm.lit, Fm.kids, List.length_nil, List.map_nil, wtR]
 rw [lt_wt9]; omega
theorem inner_wt (k : Int) (ks : List Fm) : wtV (Fm.mk k ⟨Atm.zero, false⟩ ks).cd = ks.length + wtR (ks.map Fm.cd) := by
 rw [Fm.wt_eq]
 simp only [Fm.lit, Fm.kids]
 have h : wtV (Lt.mk Atm.zero false).cd = 0 := by rw [lt_wt9, Atm.wtV_eq]; simp only [Atm.zero]; rw [Tm.wtV_eq]; rfl
 omega
theorem kids_wt {ks : List Fm} {f : Fm} {c : Nat} (h : wtR (ks.map Fm.cd) ≤ ks.length * c) (hf : wtV f.cd ≤ c) : wtR ((ks ++ [f]).map Fm.cd) ≤ (ks ++ [f]).length * c := by
 have h1 : (ks ++ [f]).length * c = ks.length * c + c := by rw [zdU]; exact Nat.succ_mul _ _
 rw [h1, zdV, zah]
 have h2 : wtR ([f].map Fm.cd) = wtV f.cd := by simp [wtR]
 omega
theorem wrap9 {d : Int} (h1 : 0 ≤ d) (h2 : d ≤ 100) : IntKind.i64.wrap d = d := IntWalk.i64_in _ (by omega)
theorem l9Any_n (n : Nat) : ∀ (l : List Atm) (lv : Value) (lf : List Nat) (deep : Int) (rb p : Nat) (w : World), 1 ≤ deep → deep ≤ n → n ≤ 4 → p + gcap n ≤ 1000000000 → 1 ≤ l.length → l.length ≤ 6 → Hid (∀ x ∈ l, x.few) → Rd w (.sl (l.map Atm.cd)) lv lf → rb ∉ lf → Rdr w rb p →
  Calls Tryz.prog 29 #[.pointer (some ⟨rb, 0, none⟩), lv, .int .i64 deep] w fun e w' => DrawnF (fcap n) lf w e w' ∧ Rdr w' rb (p + gcap n) ∧ Only [rb] w w' := by
 induction n with
 | zero => intro l lv lf deep rb p w h1 h2; omega
 | succ n ih =>
  intro l lv lf deep rb p w hd1 hdn hn4 hp hl1 hl6 HL hrd hnr hr
  simp only [gcap] at hp ⊢
  simp only [fcap]
  obtain ⟨la, lc, rfl, _, _⟩ := ze hrd
  obtain ⟨lb, lo, rfl, hlb, hlm⟩ := zl hrd (by omega)
  have hlfl := hrd.lt
  have hlt := hr.lt
  have hA0 := Box.new w [.int .i64 0, .int .i64 0, .string ⟨#[]⟩, .slice none 0 0, .string ⟨#[]⟩, .slice none 0 0, .slice none 0 0, .slice none 0 0, .int .i64 0, .bool false, .bool false, .slice none 0 0] 33
  have hbn := za w (.cells #[.int .i64 0, .int .i64 0, .string ⟨#[]⟩, .slice none 0 0, .string ⟨#[]⟩, .slice none 0 0, .slice none 0 0, .slice none 0 0, .int .i64 0, .bool false, .bool false, .slice none 0 0] 33)
  go_enter Tryz.func29, Tryz.ntmps29
  go_upto_region 1 with fail
  generalize w.alloc (.cells #[.int .i64 0, .int .i64 0, .string ⟨#[]⟩, .slice none 0 0, .string ⟨#[]⟩, .slice none 0 0, .slice none 0 0, .slice none 0 0, .int .i64 0, .bool false, .bool false, .slice none 0 0] 33) = W0 at *
  have hr0 := hr.below hbn
  have hN0 : Only [rb] w W0 := Only.below hbn
  clear hbn hr
  by_cases hdeep : deep ≤ 1
  ·have hg : decide (deep ≤ 1) = true := decide_eq_true hdeep
   have hrdW := hrd.only hN0 hnr; have hAW := hA0; have hrW := hr0; have hNW := hN0
   clear hrd hA0 hr0 hN0 ih
   go_upto_region 2 with fail
   have hLW := hrdW.lt
   refine Till.start (F := (fun U : World => ∀ b ∈ lf, U.heap[b]? = W0.heap[b]?)) (s0 := 12) (by kernel_rfl) ?_
   have hF : (fun U : World => ∀ b ∈ lf, U.heap[b]? = W0.heap[b]?) W0.drew := fun b hb => (zd W0).block b (hLW b hb)
   have hA' := hAW.below (zd W0)
   have hr' := hrW.below (zd W0)
   have hN' := hNW.trans (Only.below (zd W0))
   clear hAW hrW hNW
   generalize W0.drew = v0 at *
   refine Till.take (i := 0) (v := (.slice (some ⟨lb, lo, none⟩) l.length lc)) rfl (by kernel_rfl) (by kernel_rfl) (by kernel_rfl) (fun _ _ _ h => h) (by kernel_rfl) (Or.inl ⟨by rfl, fun U hU => ?_⟩) hF ?_
   ·clear hU; go_simp
   try simp only [Act.put, zdK, zdL, zdM]
   refine Till.take (i := 1) (v := (.pointer (some ⟨rb, 0, none⟩))) rfl (by kernel_rfl) (by kernel_rfl) (by kernel_rfl) (fun _ _ _ h => h) (by kernel_rfl) (Or.inl ⟨by rfl, fun U hU => ?_⟩) hF ?_
   ·clear hU; go_simp
   try simp only [Act.put, zdK, zdL, zdM]
   refine Till.take (i := 2) (v := (.slice (some ⟨lb, lo, none⟩) l.length lc)) rfl (by kernel_rfl) (by kernel_rfl) (by kernel_rfl) (fun _ _ _ h => h) (by kernel_rfl) (Or.inl ⟨by rfl, fun U hU => ?_⟩) hF ?_
   ·clear hU; go_simp
   try simp only [Act.put, zdK, zdL, zdM]
   refine Till.take (i := 3) (v := (.int .i64 l.length)) rfl (by kernel_rfl) (by kernel_rfl) (by kernel_rfl) (fun _ _ _ h => h) (by kernel_rfl) (Or.inl ⟨by rfl, fun U hU => ?_⟩) hF ?_
   ·clear hU; go_simp
   try simp only [Act.put, zdK, zdL, zdM]
   refine Till.take (i := 7) (v := (.pointer (some ⟨rb, 0, none⟩))) rfl (by kernel_rfl) (by kernel_rfl) (by kernel_rfl) (fun _ _ _ h => h) (by kernel_rfl) (Or.inl ⟨by rfl, fun U hU => ?_⟩) hF ?_
   ·clear hU; go_simp
   try simp only [Act.put, zdK, zdL, zdM]
   refine Till.one (i := 4) (by kernel_rfl) rfl (fun K hK => ?_)
   go_simp; go_at_call 10
   refine (zz rb p (l.length : Int) _ (by omega) (by omega) (by omega) (by exact hr')).mono ?_
   rintro e v1 ⟨⟨d, hd, rfl⟩, hr1, ho1⟩
   have hdl : d < l.length := by omega
   have hzR := hA'.1
   replace hF : (fun U : World => ∀ b ∈ lf, U.heap[b]? = W0.heap[b]?) v1 := fun b hb => (ho1.block b (zdQ (zdQ (hlfl b hb) (Nat.le_of_lt hzR)) (Nat.le_refl _)) (by simp; exact fun e => hnr (e ▸ hb))).trans (hF b hb)
   have hA1 := hA'.only ho1 (by omega)
   have hN1 := hN'.trans ho1
   obtain ⟨b3, d3, g3, b5, d5, g5, b6, d6, g6, b7, d7, g7, e0, e1, e2, e3, e4, e5, e6, e7, e8, m0, m1, m2, m3, m4, m5, m6, m7, hsub⟩ := Atm.at hrdW hdl
   obtain ⟨x, hx⟩ : ∃ x, l[d] = x := ⟨_, rfl⟩
   have hxf := HL.out x (hx ▸ zdT hdl)
   rw [hx] at e0 e1 e2 e3 e4 e5 e6 e7 e8 m0 m1 m2 m3 m4 m5 m6 m7
   clear hA' hr' hN' ho1 hd hx
   refine hK.out _ _ (fun _ => hF) ?_
   clear hK
   try simp only [Act.put, zdK, zdL, zdM]
   refine Till.take (i := 5) (v := (.pointer (some ⟨lb, lo + d * 9, none⟩))) rfl (by kernel_rfl) (by kernel_rfl) (by kernel_rfl) (fun _ _ _ h => h) (by kernel_rfl) (Or.inl ⟨by rfl, fun U hU => ?_⟩) hF ?_
   ·clear hU; go_simp
   try simp only [Act.put, zdK, zdL, zdM]
   refine Till.take (i := 6) (v := (.agg #[.int .i64 x.kind, .string x.a.name, .slice b3 x.a.kids.length d3, .string x.b.name, .slice b5 x.b.kids.length d5, .slice b6 x.nums.length d6, .slice b7 x.times.length d7, .int .i64 x.bound, .bool x.strict])) rfl (by kernel_rfl) (by kernel_rfl) (by kernel_rfl) (fun _ _ _ h => h) (by kernel_rfl) (Or.inl ⟨by rfl, fun U hU => ?_⟩) hF ?_
   ·have t0 := (World.cell?_of_block (hU lb hlm)).trans e0; have t1 := (World.cell?_of_block (hU lb hlm)).trans e1; have t2 := (World.cell?_of_block (hU lb hlm)).trans e2; have t3 := (World.cell?_of_block (hU lb hlm)).trans e3; have t4 := (World.cell?_of_block (hU lb hlm)).trans e4; have t5 := (World.cell?_of_block (hU lb hlm)).trans e5; have t6 := (World.cell?_of_block (hU lb hlm)).trans e6; have t7 := (World.cell?_of_block (hU lb hlm)).trans e7; have t8 := (World.cell?_of_block (hU lb hlm)).trans e8; clear hU; go_simp
   try simp only [Act.put, zdK, zdL, zdM]
   refine Till.one (i := 8) (by kernel_rfl) rfl (fun K hK => ?_)
   go_simp; go_at_call 10
   refine (zz rb (p + 1) 3 _ (by omega) (by omega) (by omega) (by exact hr1)).mono ?_
   rintro e v2 ⟨⟨m', hm', rfl⟩, hRd, ho2⟩
   have hzR2 := hA1.1
   replace hF : (fun U : World => ∀ b ∈ lf, U.heap[b]? = W0.heap[b]?) v2 := fun b hb => (ho2.block b (zdQ (hlfl b hb) (Nat.le_of_lt hzR2)) (by simp; exact fun e => hnr (e ▸ hb))).trans (hF b hb)
   have hA := hA1.only ho2 (by omega)
   have hN := hN1.trans ho2
   obtain ⟨no, hno⟩ : ∃ no, ((m' : Int) == 0) = no := ⟨_, rfl⟩
   clear hA1 hN1 ho2 hm' hr1
   refine hK.out _ _ (fun _ => hF) ?_
   clear hK
   try simp only [Act.put, zdK, zdL, zdM]
   refine Till.one (i := 9) (by kernel_rfl) rfl (fun K hK => ?_)
   go_simp
   try rw [hno]
   clear hno
   refine hK.out _ _ (fun _ => hF) ?_
   clear hK
   try simp only [Act.put, zdK, zdL, zdM]
   refine Till.one (i := 10) (by kernel_rfl) rfl (fun K hK => ?_)
   go_simp
   refine hK.out _ _ (fun _ => hF) ?_
   clear hK
   try simp only [Act.put, zdK, zdL, zdM]
   refine Till.one (i := 11) (by kernel_rfl) rfl (fun K hK => ?_)
   go_simp
   refine hK.out _ _ (fun _ => hF) ?_
   clear hK
   try simp only [Act.put, zdK, zdL, zdM]
   have ca0 := hA.2.1 0 _ rfl; have cf0 := hA.2.2 0
   have ca1 := hA.2.1 1 _ rfl; have cf1 := hA.2.2 1
   have ca2 := hA.2.1 2 _ rfl; have cf2 := hA.2.2 2
   have ca3 := hA.2.1 3 _ rfl; have cf3 := hA.2.2 3
   have ca4 := hA.2.1 4 _ rfl; have cf4 := hA.2.2 4
   have ca5 := hA.2.1 5 _ rfl; have cf5 := hA.2.2 5
   have ca6 := hA.2.1 6 _ rfl; have cf6 := hA.2.2 6
   have ca7 := hA.2.1 7 _ rfl; have cf7 := hA.2.2 7
   have ca8 := hA.2.1 8 _ rfl; have cf8 := hA.2.2 8
   have ca9 := hA.2.1 9 _ rfl; have cf9 := hA.2.2 9
   have ca10 := hA.2.1 10 _ rfl; have cf10 := hA.2.2 10
   have ca11 := hA.2.1 11 _ rfl; have cf11 := hA.2.2 11
   refine Till.one (i := 12) (by kernel_rfl) rfl (fun K hK => ?_)
   go_simp
   refine hK.out _ _ (fun h => absurd h (by decide)) ?_
   clear hK
   try simp only [Act.put, zdK, zdL, zdM]
   refine Till.done (by kernel_rfl) ?_ _
   clear ca0 cf0 ca1 cf1 ca2 cf2 ca3 cf3 ca4 cf4 ca5 cf5 ca6 cf6 ca7 cf7 ca8 cf8 ca9 cf9 ca10 cf10 ca11 cf11
   have hcl : RdVs W0 (Fm.mk 1 ⟨x, no⟩ []).cd [.int .i64 1, .int .i64 x.kind, .string x.a.name, .slice b3 x.a.kids.length d3, .string x.b.name, .slice b5 x.b.kids.length d5, .slice b6 x.nums.length d6, .slice b7 x.times.length d7, .int .i64 x.bound, .bool x.strict, .bool no, .slice none 0 0] (g3 ++ (g5 ++ (g6 ++ (g7 ++ [])))) := Fm.close (x := Fm.mk 1 ⟨x, no⟩ []) (by unfold I64; simp [Fm.kind]) m0 m1 m2 m3 m4 m5 m6 m7 (zY (cd := Fm.cd) none 0 (by simp))
   have hsb : ∀ b ∈ g3 ++ (g5 ++ (g6 ++ (g7 ++ []))), b ∈ lf := fun b hb => hsub b (by simpa using hb)
   have g1 := hA.puts [.int .i64 1, .int .i64 x.kind, .string x.a.name, .slice b3 x.a.kids.length d3, .string x.b.name, .slice b5 x.b.kids.length d5, .slice b6 x.nums.length d6, .slice b7 x.times.length d7, .int .i64 x.bound, .bool x.strict, .bool no, .slice none 0 0] rfl
   have hK := (Same2.refl w.heap.size w.heap.size v2).sets (b := w.heap.size) (.inl rfl) (zc 0 [.int .i64 1, .int .i64 x.kind, .string x.a.name, .slice b3 x.a.kids.length d3, .string x.b.name, .slice b5 x.b.kids.length d5, .slice b6 x.nums.length d6, .slice b7 x.times.length d7, .int .i64 x.bound, .bool x.strict, .bool no, .slice none 0 0])
   have hO5 := Only.setsR (b := w.heap.size) (Nat.le_refl _) (zc 0 [.int .i64 1, .int .i64 x.kind, .string x.a.name, .slice b3 x.a.kids.length d3, .string x.b.name, .slice b5 x.b.kids.length d5, .slice b6 x.nums.length d6, .slice b7 x.times.length d7, .int .i64 x.bound, .bool x.strict, .bool no, .slice none 0 0]) hN
   have hR9 := Rdr.sets (b := w.heap.size) (by omega) (zc 0 [.int .i64 1, .int .i64 x.kind, .string x.a.name, .slice b3 x.a.kids.length d3, .string x.b.name, .slice b5 x.b.kids.length d5, .slice b6 x.nums.length d6, .slice b7 x.times.length d7, .int .i64 x.bound, .bool x.strict, .bool no, .slice none 0 0]) hRd
   simp only [zc, zi, Nat.zero_add, Nat.reduceAdd] at g1 hK hO5 hR9
   have ra0 := g1.2.1 0 _ rfl
   have ra1 := g1.2.1 1 _ rfl
   have ra2 := g1.2.1 2 _ rfl
   have ra3 := g1.2.1 3 _ rfl
   have ra4 := g1.2.1 4 _ rfl
   have ra5 := g1.2.1 5 _ rfl
   have ra6 := g1.2.1 6 _ rfl
   have ra7 := g1.2.1 7 _ rfl
   have ra8 := g1.2.1 8 _ rfl
   have ra9 := g1.2.1 9 _ rfl
   have ra10 := g1.2.1 10 _ rfl
   have ra11 := g1.2.1 11 _ rfl
   clear g1
   go_wp2_with fail
   refine bodyPost_ret (v := .agg #[.int .i64 1, .int .i64 x.kind, .string x.a.name, .slice b3 x.a.kids.length d3, .string x.b.name, .slice b5 x.b.kids.length d5, .slice b6 x.nums.length d6, .slice b7 x.times.length d7, .int .i64 x.bound, .bool x.strict, .bool no, .slice none 0 0]) (by simp [results, Tryz.results29, go_sem, ra0, ra1, ra2, ra3, ra4, ra5, ra6, ra7, ra8, ra9, ra10, ra11]) rfl ?_
   exact ⟨⟨Fm.mk 1 ⟨x, no⟩ [], _, _, by rw [leaf_wt]; have := hxf.tame.2.2.2.2.2; omega, rfl, (hcl.same _ (fun b hb => hF b (hsb b hb))).same2 hK (fun b hb => by have := hlfl b (hsb b hb); omega), fun b hb => .inl (hsb b hb)⟩, hR9.mono (by omega), hO5⟩
  ·have hg : decide (deep ≤ 1) = false := decide_eq_false hdeep
   go_wp2_with fail
   refine (zz rb p 4 _ (by omega) (by omega) (by omega) hr0).mono ?_
   rintro e w1 ⟨⟨m, hm, rfl⟩, hr1, ho1⟩
   have hzA := hA0.1
   have hA1 := hA0.only ho1 (by omega)
   have hN1 := hN0.trans ho1
   clear hr0 hA0 hN0 ho1
   by_cases hm0 : m = 0
   ·subst hm0
    have hrdW := hrd.only hN1 hnr; have hAW := hA1; have hrW := hr1; have hNW := hN1
    clear hrd hA1 hr1 hN1 ih
    go_upto_region 2 with fail
    have hLW := hrdW.lt
    refine Till.start (F := (fun U : World => ∀ b ∈ lf, U.heap[b]? = w1.heap[b]?)) (s0 := 12) (by kernel_rfl) ?_
    have hF : (fun U : World => ∀ b ∈ lf, U.heap[b]? = w1.heap[b]?) w1.drew := fun b hb => (zd w1).block b (hLW b hb)
    have hA' := hAW.below (zd w1)
    have hr' := hrW.below (zd w1)
    have hN' := hNW.trans (Only.below (zd w1))
    clear hAW hrW hNW
    generalize w1.drew = v0 at *
    refine Till.take (i := 0) (v := (.slice (some ⟨lb, lo, none⟩) l.length lc)) rfl (by kernel_rfl) (by kernel_rfl) (by kernel_rfl) (fun _ _ _ h => h) (by kernel_rfl) (Or.inl ⟨by rfl, fun U hU => ?_⟩) hF ?_
    ·clear hU; go_simp
    try simp only [Act.put, zdK, zdL, zdM]
    refine Till.take (i := 1) (v := (.pointer (some ⟨rb, 0, none⟩))) rfl (by kernel_rfl) (by kernel_rfl) (by kernel_rfl) (fun _ _ _ h => h) (by kernel_rfl) (Or.inl ⟨by rfl, fun U hU => ?_⟩) hF ?_
    ·clear hU; go_simp
    try simp only [Act.put, zdK, zdL, zdM]
    refine Till.take (i := 2) (v := (.slice (some ⟨lb, lo, none⟩) l.length lc)) rfl (by kernel_rfl) (by kernel_rfl) (by kernel_rfl) (fun _ _ _ h => h) (by kernel_rfl) (Or.inl ⟨by rfl, fun U hU => ?_⟩) hF ?_
    ·clear hU; go_simp
    try simp only [Act.put, zdK, zdL, zdM]
    refine Till.take (i := 3) (v := (.int .i64 l.length)) rfl (by kernel_rfl) (by kernel_rfl) (by kernel_rfl) (fun _ _ _ h => h) (by kernel_rfl) (Or.inl ⟨by rfl, fun U hU => ?_⟩) hF ?_
    ·clear hU; go_simp
    try simp only [Act.put, zdK, zdL, zdM]
    refine Till.take (i := 7) (v := (.pointer (some ⟨rb, 0, none⟩))) rfl (by kernel_rfl) (by kernel_rfl) (by kernel_rfl) (fun _ _ _ h => h) (by kernel_rfl) (Or.inl ⟨by rfl, fun U hU => ?_⟩) hF ?_
    ·clear hU; go_simp
    try simp only [Act.put, zdK, zdL, zdM]
    refine Till.one (i := 4) (by kernel_rfl) rfl (fun K hK => ?_)
    go_simp; go_at_call 10
    refine (zz rb (p + 1) (l.length : Int) _ (by omega) (by omega) (by omega) (by exact hr')).mono ?_
    rintro e v1 ⟨⟨d, hd, rfl⟩, hr1, ho1⟩
    have hdl : d < l.length := by omega
    have hzR := hA'.1
    replace hF : (fun U : World => ∀ b ∈ lf, U.heap[b]? = w1.heap[b]?) v1 := fun b hb => (ho1.block b (zdQ (zdQ (hlfl b hb) (Nat.le_of_lt hzR)) (Nat.le_refl _)) (by simp; exact fun e => hnr (e ▸ hb))).trans (hF b hb)
    have hA1 := hA'.only ho1 (by omega)
    have hN1 := hN'.trans ho1
    obtain ⟨b3, d3, g3, b5, d5, g5, b6, d6, g6, b7, d7, g7, e0, e1, e2, e3, e4, e5, e6, e7, e8, m0, m1, m2, m3, m4, m5, m6, m7, hsub⟩ := Atm.at hrdW hdl
    obtain ⟨x, hx⟩ : ∃ x, l[d] = x := ⟨_, rfl⟩
    have hxf := HL.out x (hx ▸ zdT hdl)
    rw [hx] at e0 e1 e2 e3 e4 e5 e6 e7 e8 m0 m1 m2 m3 m4 m5 m6 m7
    clear hA' hr' hN' ho1 hd hx
    refine hK.out _ _ (fun _ => hF) ?_
    clear hK
    try simp only [Act.put, zdK, zdL, zdM]
    refine Till.take (i := 5) (v := (.pointer (some ⟨lb, lo + d * 9, none⟩))) rfl (by kernel_rfl) (by kernel_rfl) (by kernel_rfl) (fun _ _ _ h => h) (by kernel_rfl) (Or.inl ⟨by rfl, fun U hU => ?_⟩) hF ?_
    ·clear hU; go_simp
    try simp only [Act.put, zdK, zdL, zdM]
    refine Till.take (i := 6) (v := (.agg #[.int .i64 x.kind, .string x.a.name, .slice b3 x.a.kids.length d3, .string x.b.name, .slice b5 x.b.kids.length d5, .slice b6 x.nums.length d6, .slice b7 x.times.length d7, .int .i64 x.bound, .bool x.strict])) rfl (by kernel_rfl) (by kernel_rfl) (by kernel_rfl) (fun _ _ _ h => h) (by kernel_rfl) (Or.inl ⟨by rfl, fun U hU => ?_⟩) hF ?_
    ·have t0 := (World.cell?_of_block (hU lb hlm)).trans e0; have t1 := (World.cell?_of_block (hU lb hlm)).trans e1; have t2 := (World.cell?_of_block (hU lb hlm)).trans e2; have t3 := (World.cell?_of_block (hU lb hlm)).trans e3; have t4 := (World.cell?_of_block (hU lb hlm)).trans e4; have t5 := (World.cell?_of_block (hU lb hlm)).trans e5; have t6 := (World.cell?_of_block (hU lb hlm)).trans e6; have t7 := (World.cell?_of_block (hU lb hlm)).trans e7; have t8 := (World.cell?_of_block (hU lb hlm)).trans e8; clear hU; go_simp
    try simp only [Act.put, zdK, zdL, zdM]
    refine Till.one (i := 8) (by kernel_rfl) rfl (fun K hK => ?_)
    go_simp; go_at_call 10
    refine (zz rb ((p + 1) + 1) 3 _ (by omega) (by omega) (by omega) (by exact hr1)).mono ?_
    rintro e v2 ⟨⟨m', hm', rfl⟩, hRd, ho2⟩
    have hzR2 := hA1.1
    replace hF : (fun U : World => ∀ b ∈ lf, U.heap[b]? = w1.heap[b]?) v2 := fun b hb => (ho2.block b (zdQ (hlfl b hb) (Nat.le_of_lt hzR2)) (by simp; exact fun e => hnr (e ▸ hb))).trans (hF b hb)
    have hA := hA1.only ho2 (by omega)
    have hN := hN1.trans ho2
    obtain ⟨no, hno⟩ : ∃ no, ((m' : Int) == 0) = no := ⟨_, rfl⟩
    clear hA1 hN1 ho2 hm' hr1
    refine hK.out _ _ (fun _ => hF) ?_
    clear hK
    try simp only [Act.put, zdK, zdL, zdM]
    refine Till.one (i := 9) (by kernel_rfl) rfl (fun K hK => ?_)
    go_simp
    try rw [hno]
    clear hno
    refine hK.out _ _ (fun _ => hF) ?_
    clear hK
    try simp only [Act.put, zdK, zdL, zdM]
    refine Till.one (i := 10) (by kernel_rfl) rfl (fun K hK => ?_)
    go_simp
    refine hK.out _ _ (fun _ => hF) ?_
    clear hK
    try simp only [Act.put, zdK, zdL, zdM]
    refine Till.one (i := 11) (by kernel_rfl) rfl (fun K hK => ?_)
    go_simp
    refine hK.out _ _ (fun _ => hF) ?_
    clear hK
    try simp only [Act.put, zdK, zdL, zdM]
    have ca0 := hA.2.1 0 _ rfl; have cf0 := hA.2.2 0
    have ca1 := hA.2.1 1 _ rfl; have cf1 := hA.2.2 1
    have ca2 := hA.2.1 2 _ rfl; have cf2 := hA.2.2 2
    have ca3 := hA.2.1 3 _ rfl; have cf3 := hA.2.2 3
    have ca4 := hA.2.1 4 _ rfl; have cf4 := hA.2.2 4
    have ca5 := hA.2.1 5 _ rfl; have cf5 := hA.2.2 5
    have ca6 := hA.2.1 6 _ rfl; have cf6 := hA.2.2 6
    have ca7 := hA.2.1 7 _ rfl; have cf7 := hA.2.2 7
    have ca8 := hA.2.1 8 _ rfl; have cf8 := hA.2.2 8
    have ca9 := hA.2.1 9 _ rfl; have cf9 := hA.2.2 9
    have ca10 := hA.2.1 10 _ rfl; have cf10 := hA.2.2 10
    have ca11 := hA.2.1 11 _ rfl; have cf11 := hA.2.2 11
    refine Till.one (i := 12) (by kernel_rfl) rfl (fun K hK => ?_)
    go_simp
    refine hK.out _ _ (fun h => absurd h (by decide)) ?_
    clear hK
    try simp only [Act.put, zdK, zdL, zdM]
    refine Till.done (by kernel_rfl) ?_ _
    clear ca0 cf0 ca1 cf1 ca2 cf2 ca3 cf3 ca4 cf4 ca5 cf5 ca6 cf6 ca7 cf7 ca8 cf8 ca9 cf9 ca10 cf10 ca11 cf11
    have hcl : RdVs w1 (Fm.mk 1 ⟨x, no⟩ []).cd [.int .i64 1, .int .i64 x.kind, .string x.a.name, .slice b3 x.a.kids.length d3, .string x.b.name, .slice b5 x.b.kids.length d5, .slice b6 x.nums.length d6, .slice b7 x.times.length d7, .int .i64 x.bound, .bool x.strict, .bool no, .slice none 0 0] (g3 ++ (g5 ++ (g6 ++ (g7 ++ [])))) := Fm.close (x := Fm.mk 1 ⟨x, no⟩ []) (by unfold I64; simp [Fm.kind]) m0 m1 m2 m3 m4 m5 m6 m7 (zY (cd := Fm.cd) none 0 (by simp))
    have hsb : ∀ b ∈ g3 ++ (g5 ++ (g6 ++ (g7 ++ []))), b ∈ lf := fun b hb => hsub b (by simpa using hb)
    have g1 := hA.puts [.int .i64 1, .int .i64 x.kind, .string x.a.name, .slice b3 x.a.kids.length d3, .string x.b.name, .slice b5 x.b.kids.length d5, .slice b6 x.nums.length d6, .slice b7 x.times.length d7, .int .i64 x.bound, .bool x.strict, .bool no, .slice none 0 0] rfl
    have hK := (Same2.refl w.heap.size w.heap.size v2).sets (b := w.heap.size) (.inl rfl) (zc 0 [.int .i64 1, .int .i64 x.kind, .string x.a.name, .slice b3 x.a.kids.length d3, .string x.b.name, .slice b5 x.b.kids.length d5, .slice b6 x.nums.length d6, .slice b7 x.times.length d7, .int .i64 x.bound, .bool x.strict, .bool no, .slice none 0 0])
    have hO5 := Only.setsR (b := w.heap.size) (Nat.le_refl _) (zc 0 [.int .i64 1, .int .i64 x.kind, .string x.a.name, .slice b3 x.a.kids.length d3, .string x.b.name, .slice b5 x.b.kids.length d5, .slice b6 x.nums.length d6, .slice b7 x.times.length d7, .int .i64 x.bound, .bool x.strict, .bool no, .slice none 0 0]) hN
    have hR9 := Rdr.sets (b := w.heap.size) (by omega) (zc 0 [.int .i64 1, .int .i64 x.kind, .string x.a.name, .slice b3 x.a.kids.length d3, .string x.b.name, .slice b5 x.b.kids.length d5, .slice b6 x.nums.length d6, .slice b7 x.times.length d7, .int .i64 x.bound, .bool x.strict, .bool no, .slice none 0 0]) hRd
    simp only [zc, zi, Nat.zero_add, Nat.reduceAdd] at g1 hK hO5 hR9
    have ra0 := g1.2.1 0 _ rfl
    have ra1 := g1.2.1 1 _ rfl
    have ra2 := g1.2.1 2 _ rfl
    have ra3 := g1.2.1 3 _ rfl
    have ra4 := g1.2.1 4 _ rfl
    have ra5 := g1.2.1 5 _ rfl
    have ra6 := g1.2.1 6 _ rfl
    have ra7 := g1.2.1 7 _ rfl
    have ra8 := g1.2.1 8 _ rfl
    have ra9 := g1.2.1 9 _ rfl
    have ra10 := g1.2.1 10 _ rfl
    have ra11 := g1.2.1 11 _ rfl
    clear g1
    go_wp2_with fail
    refine bodyPost_ret (v := .agg #[.int .i64 1, .int .i64 x.kind, .string x.a.name, .slice b3 x.a.kids.length d3, .string x.b.name, .slice b5 x.b.kids.length d5, .slice b6 x.nums.length d6, .slice b7 x.times.length d7, .int .i64 x.bound, .bool x.strict, .bool no, .slice none 0 0]) (by simp [results, Tryz.results29, go_sem, ra0, ra1, ra2, ra3, ra4, ra5, ra6, ra7, ra8, ra9, ra10, ra11]) rfl ?_
    exact ⟨⟨Fm.mk 1 ⟨x, no⟩ [], _, _, by rw [leaf_wt]; have := hxf.tame.2.2.2.2.2; omega, rfl, (hcl.same _ (fun b hb => hF b (hsb b hb))).same2 hK (fun b hb => by have := hlfl b (hsb b hb); omega), fun b hb => .inl (hsb b hb)⟩, hR9.mono (by omega), hO5⟩
   ·have em : ((m : Int) == 0) = false := by simpa using hm0
    go_wp2_with fail
    refine (zar 7 [3, 4, 4, 5, 3, 6, 2] [.int .i64 3, .int .i64 4, .int .i64 4, .int .i64 5, .int .i64 3, .int .i64 6, .int .i64 2] rfl rfl rb (p + 1) _ _ (by omega) (by simp) (by simp) (by exact Lst.new hr1.lt _ _) (hr1.below (za _ _))).mono ?_
    rintro e w2 ⟨⟨k, hk, rfl⟩, hr2, ho2⟩
    have hk64 : I64 k := by simp at hk; unfold I64; omega
    have hnk : 0 ≤ Fm.nk k ∧ Fm.nk k ≤ 2 := by
     have hk' : k = 2 ∨ k = 3 ∨ k = 4 ∨ k = 5 ∨ k = 6 := by simp at hk; omega
     rcases hk' with rfl | rfl | rfl | rfl | rfl <;> decide
    have hA2 := (hA1.alloc (.cells #[.int .i64 3, .int .i64 4, .int .i64 4, .int .i64 5, .int .i64 3, .int .i64 6, .int .i64 2] 3)).only ho2 (by omega)
    have hN2 := (hN1.alloc (.cells #[.int .i64 3, .int .i64 4, .int .i64 4, .int .i64 5, .int .i64 3, .int .i64 6, .int .i64 2] 3)).trans ho2
    clear hr1 hA1 hN1 ho2 hk em
    go_upto_region 4 with fail
    obtain ⟨V, hVe⟩ : ∃ V, V = w2.heap.size := ⟨_, rfl⟩
    have hV := Box.new w2 [.int .i64 k, .int .i64 0, .string ⟨#[]⟩, .slice none 0 0, .string ⟨#[]⟩, .slice none 0 0, .slice none 0 0, .slice none 0 0, .int .i64 0, .bool false, .bool false, .slice none 0 0] 33
    have hzV := hA2.1
    rw [← hVe] at hV ⊢
    have hVA : w.heap.size < V := by omega
    have hA3 := hA2.alloc (.cells #[.int .i64 k, .int .i64 0, .string ⟨#[]⟩, .slice none 0 0, .string ⟨#[]⟩, .slice none 0 0, .slice none 0 0, .slice none 0 0, .int .i64 0, .bool false, .bool false, .slice none 0 0] 33)
    have hr3 := hr2.alloc (.cells #[.int .i64 k, .int .i64 0, .string ⟨#[]⟩, .slice none 0 0, .string ⟨#[]⟩, .slice none 0 0, .slice none 0 0, .slice none 0 0, .int .i64 0, .bool false, .bool false, .slice none 0 0] 33)
    have hN3 := hN2.alloc (.cells #[.int .i64 k, .int .i64 0, .string ⟨#[]⟩, .slice none 0 0, .string ⟨#[]⟩, .slice none 0 0, .slice none 0 0, .slice none 0 0, .int .i64 0, .bool false, .bool false, .slice none 0 0] 33)
    have hz3 : V + 1 ≤ (w2.alloc (.cells #[.int .i64 k, .int .i64 0, .string ⟨#[]⟩, .slice none 0 0, .string ⟨#[]⟩, .slice none 0 0, .slice none 0 0, .slice none 0 0, .int .i64 0, .bool false, .bool false, .slice none 0 0] 33)).heap.size := by rw [World.size_alloc]; omega
    clear hA2 hN2 hr2 hVe hzV
    generalize w2.alloc (.cells #[.int .i64 k, .int .i64 0, .string ⟨#[]⟩, .slice none 0 0, .string ⟨#[]⟩, .slice none 0 0, .slice none 0 0, .slice none 0 0, .int .i64 0, .bool false, .bool false, .slice none 0 0] 33) = w3 at *
    go_wp2_with fail
    go_loopw [8] (fun iv wr => ∃ (ks : List Fm) (kv : Value) (fp : List Nat) (q : Nat), iv = .int .i64 ks.length ∧ ks.length ≤ 2 ∧ q ≤ p + 2 + ks.length * gcap n ∧ Hid (wtR (ks.map Fm.cd) ≤ ks.length * fcap n) ∧ Own wr (V + 1) 33 12 kv (ks.map Fm.cd) fp ∧ (∀ b ∈ fp, b ∈ lf ∨ V < b) ∧ Box [.int .i64 k, .int .i64 0, .string ⟨#[]⟩, .slice none 0 0, .string ⟨#[]⟩, .slice none 0 0, .slice none 0 0, .slice none 0 0, .int .i64 0, .bool false, .bool false, kv] V wr ∧ Box [.int .i64 0, .int .i64 0, .string ⟨#[]⟩, .slice none 0 0, .string ⟨#[]⟩, .slice none 0 0, .slice none 0 0, .slice none 0 0, .int .i64 0, .bool false, .bool false, .slice none 0 0] w.heap.size wr ∧ Rdr wr rb q ∧ Only [rb] w wr ∧ V + 1 ≤ wr.heap.size) (fun iv _ => 2 - (intOf iv).toNat)
    case atStart => exact ⟨[], .slice none 0 0, [], p + 1 + 1, rfl, by simp, by omega, Lib.hid (by simp [wtR]), Own.nil _ _ _ _, by simp, hV, hA3, hr3, hN3, hz3⟩
    case round =>
     clear hV hA3 hr3 hN3 hz3
     obtain ⟨ks, kv, fp, q, rfl, hks2, hq, HWT, hO3, hfp, hV3, hA3, hr3, hN3, hz3⟩ := hrel
     obtain ⟨ka, kn, kc, rfl⟩ := hO3.form'
     have k0 := hV3.2.1 0 _ rfl
     go_wp2_with fail
     refine (l9Kids_b k _).mono ?_
     rintro e w3 ⟨rfl, hb3⟩
     replace hO3 := hO3.below hb3
     replace hV3 := hV3.below hb3
     replace hA3 := hA3.below hb3
     replace hr3 := hr3.below hb3
     replace hN3 := hN3.trans (Only.below hb3)
     replace hz3 := Nat.le_trans hz3 hb3.size
     clear hb3 k0
     by_cases hc : (ks.length : Int) < Fm.nk k
     ·have hc1 : decide ((ks.length : Int) < Fm.nk k) = true := decide_eq_true hc
      have hm1 : ks.length * gcap n ≤ 1 * gcap n := Nat.mul_le_mul_right _ (by omega)
      go_upto_region 7 with fail
      refine Till.start (F := (fun U : World => Box [.int .i64 k, .int .i64 0, .string ⟨#[]⟩, .slice none 0 0, .string ⟨#[]⟩, .slice none 0 0, .slice none 0 0, .slice none 0 0, .int .i64 0, .bool false, .bool false, .slice ka kn kc] V U)) (s0 := 10) (by kernel_rfl) ?_
      have hbd := zd w3
      have hF : (fun U : World => Box [.int .i64 k, .int .i64 0, .string ⟨#[]⟩, .slice none 0 0, .string ⟨#[]⟩, .slice none 0 0, .slice none 0 0, .slice none 0 0, .int .i64 0, .bool false, .bool false, .slice ka kn kc] V U) w3.drew := hV3.below hbd
      have hA' := hA3.below hbd
      have hr' := hr3.below hbd
      have hN' := hN3.trans (Only.below hbd)
      have hO' := hO3.below hbd
      have hrdv := hrd.only hN' hnr
      have hzv : V + 1 ≤ w3.drew.heap.size := Nat.le_trans hz3 hbd.size
      clear hV3 hA3 hr3 hN3 hO3 hbd hz3
      generalize w3.drew = v0 at *
      refine Till.take (i := 0) (v := (.pointer (some ⟨V, 11, none⟩))) rfl (by kernel_rfl) (by kernel_rfl) (by kernel_rfl) (fun _ _ _ h => h) (by kernel_rfl) (Or.inl ⟨by rfl, fun U hU => ?_⟩) hF ?_
      ·clear hU; go_simp
      try simp only [Act.put, zdK, zdL, zdM]
      refine Till.take (i := 1) (v := (.slice ka kn kc)) rfl (by kernel_rfl) (by kernel_rfl) (by kernel_rfl) (fun _ _ _ h => h) (by kernel_rfl) (Or.inl ⟨by rfl, fun U hU => ?_⟩) hF ?_
      ·have u11 := hU.2.1 11 _ rfl; clear hU; go_simp
      try simp only [Act.put, zdK, zdL, zdM]
      refine Till.take (i := 2) (v := (.pointer (some ⟨rb, 0, none⟩))) rfl (by kernel_rfl) (by kernel_rfl) (by kernel_rfl) (fun _ _ _ h => h) (by kernel_rfl) (Or.inl ⟨by rfl, fun U hU => ?_⟩) hF ?_
      ·clear hU; go_simp
      try simp only [Act.put, zdK, zdL, zdM]
      refine Till.take (i := 3) (v := (.slice (some ⟨lb, lo, none⟩) l.length lc)) rfl (by kernel_rfl) (by kernel_rfl) (by kernel_rfl) (fun _ _ _ h => h) (by kernel_rfl) (Or.inl ⟨by rfl, fun U hU => ?_⟩) hF ?_
      ·clear hU; go_simp
      try simp only [Act.put, zdK, zdL, zdM]
      refine Till.take (i := 4) (v := (.int .i64 deep)) rfl (by kernel_rfl) (by kernel_rfl) (by kernel_rfl) (fun _ _ _ h => h) (by kernel_rfl) (Or.inl ⟨by rfl, fun U hU => ?_⟩) hF ?_
      ·clear hU; go_simp
      try simp only [Act.put, zdK, zdL, zdM]
      refine Till.take (i := 5) (v := (.int .i64 (deep - 1))) rfl (by kernel_rfl) (by kernel_rfl) (by kernel_rfl) (fun _ _ _ h => h) (by kernel_rfl) (Or.inl ⟨by rfl, fun U hU => ?_⟩) hF ?_
      ·clear hU; go_simp; exact wrap9 (by omega) (by omega)
      try simp only [Act.put, zdK, zdL, zdM]
      refine Till.one (i := 6) (by kernel_rfl) rfl (fun K hK => ?_)
      go_simp; go_at_call 29
      refine (ih l _ lf (deep - 1) rb q _ (by omega) (by omega) (by omega) (by omega) hl1 hl6 HL (by exact hrdv) hnr (by exact hr')).mono ?_
      rintro e v1 ⟨⟨f, vf, ff, hwf, rfl, hrf, hff⟩, hr1, ho1⟩
      obtain ⟨b3, d3, _, b5, d5, _, b6, d6, _, b7, d7, _, b11, d11, _, rfl, _, m0, m1, m2, m3, m4, m5, m6, m7, m8, m9⟩ := Fm.open hrf
      clear m0 m1 m2 m3 m4 m5 m6 m7 m8 m9
      have hfpl := hO'.lt
      have hOb := fun b h => (hO'.block (b := b) h).2
      have hrfp : rb ∉ fp := fun h => by
       rcases hfp _ h with h1 | h1
       ·exact hnr h1
       ·omega
      replace hF : (fun U : World => Box [.int .i64 k, .int .i64 0, .string ⟨#[]⟩, .slice none 0 0, .string ⟨#[]⟩, .slice none 0 0, .slice none 0 0, .slice none 0 0, .int .i64 0, .bool false, .bool false, .slice ka kn kc] V U) v1 := hF.only ho1 (by omega)
      have hA1 := hA'.only ho1 (by omega)
      have hN1 := hN'.trans ho1
      have hO1 := hO'.only ho1 (by omega) hrfp
      have hz1 := ho1.size
      have hffV : ∀ b ∈ ff, b ∈ lf ∨ v0.heap.size ≤ b := hff
      have hna : ∀ b ∈ ff, (Value.slice ka kn kc).ownBlock ≠ some b := fun b hb e => by
       rcases hffV b hb with h1 | h1
       ·have := hlfl b h1; have := (hO1.block e).1; omega
       ·have := hOb b e; omega
      clear hA' hr' hN' hO' hrdv ho1 hOb hff
      refine hK.out _ _ (fun _ => hF) ?_
      clear hK
      try simp only [Act.put, zdK, zdL, zdM]
      refine Till.one (i := 7) (by kernel_rfl) rfl (fun K hK => ?_)
      go_simp
      have hcl : ∀ j u, ([.int .i64 f.kind, .int .i64 f.lit.atom.kind, .string f.lit.atom.a.name, .slice b3 f.lit.atom.a.kids.length d3, .string f.lit.atom.b.name, .slice b5 f.lit.atom.b.kids.length d5, .slice b6 f.lit.atom.nums.length d6, .slice b7 f.lit.atom.times.length d7, .int .i64 f.lit.atom.bound, .bool f.lit.atom.strict, .bool f.lit.no, .slice b11 f.kids.length d11] : List Value)[j]? = some u → (v1.alloc (.cells #[.int .i64 f.kind, .int .i64 f.lit.atom.kind, .string f.lit.atom.a.name, .slice b3 f.lit.atom.a.kids.length d3, .string f.lit.atom.b.name, .slice b5 f.lit.atom.b.kids.length d5, .slice b6 f.lit.atom.nums.length d6, .slice b7 f.lit.atom.times.length d7, .int .i64 f.lit.atom.bound, .bool f.lit.atom.strict, .bool f.lit.no, .slice b11 f.kids.length d11] 33)).cell? ((⟨v1.heap.size, 0, none⟩ : Addr).add j) = some u := by exact zp v1 [.int .i64 f.kind, .int .i64 f.lit.atom.kind, .string f.lit.atom.a.name, .slice b3 f.lit.atom.a.kids.length d3, .string f.lit.atom.b.name, .slice b5 f.lit.atom.b.kids.length d5, .slice b6 f.lit.atom.nums.length d6, .slice b7 f.lit.atom.times.length d7, .int .i64 f.lit.atom.bound, .bool f.lit.atom.strict, .bool f.lit.no, .slice b11 f.kids.length d11] 33
      replace hF : (fun U : World => Box [.int .i64 k, .int .i64 0, .string ⟨#[]⟩, .slice none 0 0, .string ⟨#[]⟩, .slice none 0 0, .slice none 0 0, .slice none 0 0, .int .i64 0, .bool false, .bool false, .slice ka kn kc] V U) _ := hF.alloc (.cells #[.int .i64 f.kind, .int .i64 f.lit.atom.kind, .string f.lit.atom.a.name, .slice b3 f.lit.atom.a.kids.length d3, .string f.lit.atom.b.name, .slice b5 f.lit.atom.b.kids.length d5, .slice b6 f.lit.atom.nums.length d6, .slice b7 f.lit.atom.times.length d7, .int .i64 f.lit.atom.bound, .bool f.lit.atom.strict, .bool f.lit.no, .slice b11 f.kids.length d11] 33)
      replace hA1 := hA1.alloc (.cells #[.int .i64 f.kind, .int .i64 f.lit.atom.kind, .string f.lit.atom.a.name, .slice b3 f.lit.atom.a.kids.length d3, .string f.lit.atom.b.name, .slice b5 f.lit.atom.b.kids.length d5, .slice b6 f.lit.atom.nums.length d6, .slice b7 f.lit.atom.times.length d7, .int .i64 f.lit.atom.bound, .bool f.lit.atom.strict, .bool f.lit.no, .slice b11 f.kids.length d11] 33)
      replace hr1 := hr1.alloc (.cells #[.int .i64 f.kind, .int .i64 f.lit.atom.kind, .string f.lit.atom.a.name, .slice b3 f.lit.atom.a.kids.length d3, .string f.lit.atom.b.name, .slice b5 f.lit.atom.b.kids.length d5, .slice b6 f.lit.atom.nums.length d6, .slice b7 f.lit.atom.times.length d7, .int .i64 f.lit.atom.bound, .bool f.lit.atom.strict, .bool f.lit.no, .slice b11 f.kids.length d11] 33)
      replace hN1 := hN1.alloc (.cells #[.int .i64 f.kind, .int .i64 f.lit.atom.kind, .string f.lit.atom.a.name, .slice b3 f.lit.atom.a.kids.length d3, .string f.lit.atom.b.name, .slice b5 f.lit.atom.b.kids.length d5, .slice b6 f.lit.atom.nums.length d6, .slice b7 f.lit.atom.times.length d7, .int .i64 f.lit.atom.bound, .bool f.lit.atom.strict, .bool f.lit.no, .slice b11 f.kids.length d11] 33)
      replace hO1 := hO1.below (za _ (.cells #[.int .i64 f.kind, .int .i64 f.lit.atom.kind, .string f.lit.atom.a.name, .slice b3 f.lit.atom.a.kids.length d3, .string f.lit.atom.b.name, .slice b5 f.lit.atom.b.kids.length d5, .slice b6 f.lit.atom.nums.length d6, .slice b7 f.lit.atom.times.length d7, .int .i64 f.lit.atom.bound, .bool f.lit.atom.strict, .bool f.lit.no, .slice b11 f.kids.length d11] 33))
      replace hrf := hrf.below (za _ (.cells #[.int .i64 f.kind, .int .i64 f.lit.atom.kind, .string f.lit.atom.a.name, .slice b3 f.lit.atom.a.kids.length d3, .string f.lit.atom.b.name, .slice b5 f.lit.atom.b.kids.length d5, .slice b6 f.lit.atom.nums.length d6, .slice b7 f.lit.atom.times.length d7, .int .i64 f.lit.atom.bound, .bool f.lit.atom.strict, .bool f.lit.no, .slice b11 f.kids.length d11] 33))
      have hz2 : V + 1 ≤ (v1.alloc (.cells #[.int .i64 f.kind, .int .i64 f.lit.atom.kind, .string f.lit.atom.a.name, .slice b3 f.lit.atom.a.kids.length d3, .string f.lit.atom.b.name, .slice b5 f.lit.atom.b.kids.length d5, .slice b6 f.lit.atom.nums.length d6, .slice b7 f.lit.atom.times.length d7, .int .i64 f.lit.atom.bound, .bool f.lit.atom.strict, .bool f.lit.no, .slice b11 f.kids.length d11] 33)).heap.size := by rw [World.size_alloc]; omega
      generalize v1.alloc (.cells #[.int .i64 f.kind, .int .i64 f.lit.atom.kind, .string f.lit.atom.a.name, .slice b3 f.lit.atom.a.kids.length d3, .string f.lit.atom.b.name, .slice b5 f.lit.atom.b.kids.length d5, .slice b6 f.lit.atom.nums.length d6, .slice b7 f.lit.atom.times.length d7, .int .i64 f.lit.atom.bound, .bool f.lit.atom.strict, .bool f.lit.no, .slice b11 f.kids.length d11] 33) = v2 at *
      refine hK.out _ _ (fun _ => hF) ?_
      clear hK
      try simp only [Act.put, zdK, zdL, zdM]
      refine Till.one (i := 8) (by kernel_rfl) rfl (fun K hK => ?_)
      refine zE zag rfl _ _ rfl (V + 1) _ _ _ rfl (by exact hO1) ⟨v1.heap.size, 0, none⟩ 1 1 [f.cd] [.int .i64 f.kind, .int .i64 f.lit.atom.kind, .string f.lit.atom.a.name, .slice b3 f.lit.atom.a.kids.length d3, .string f.lit.atom.b.name, .slice b5 f.lit.atom.b.kids.length d5, .slice b6 f.lit.atom.nums.length d6, .slice b7 f.lit.atom.times.length d7, .int .i64 f.lit.atom.bound, .bool f.lit.atom.strict, .bool f.lit.no, .slice b11 f.kids.length d11] ff rfl rfl (by simpa using hrf) (by simp [Fm.cd_len]) (by exact hcl) hna (by rw [zdX]; omega) (by rw [zdX]; omega) (by omega) ?_
      intro v' v5 hown5 hg5 hv5 hs5
      have hrow : ∀ q, (Value.slice ka kn kc).ownBlock = some q → V + 1 ≤ q := fun q hq => (hO1.block hq).1
      replace hF : (fun U : World => Box [.int .i64 k, .int .i64 0, .string ⟨#[]⟩, .slice none 0 0, .string ⟨#[]⟩, .slice none 0 0, .slice none 0 0, .slice none 0 0, .int .i64 0, .bool false, .bool false, .slice ka kn kc] V U) v5 := hF.grownB hg5 (fun q hq => by have := hrow q hq; omega)
      have hA5 := hA1.grownB hg5 (fun q hq => by have := hrow q hq; omega)
      have hr5 := hr1.grown hg5 (fun q hq => by have := hrow q hq; omega)
      have hN5 := hN1.grown hg5 (fun q hq => by have := hrow q hq; omega)
      have hz5 : V + 1 ≤ v5.heap.size := Nat.le_trans hz2 hg5.size
      obtain ⟨ka', kn', kc', rfl⟩ := hown5.form'
      have hfp5 : ∀ b ∈ fp ++ ff, b ∈ lf ∨ V < b := fun b hb => by
       rcases zdS.1 hb with h | h
       ·exact hfp b h
       ·rcases hffV b h with h1 | h1
        ·exact .inl h1
        ·exact .inr (by omega)
      have hVn : V ∉ fp ++ ff := fun h => by
       rcases hfp5 V h with h1 | h1
       ·have := hlfl V h1; omega
       ·omega
      have hVo : (Value.slice ka' kn' kc').ownBlock ≠ some V := fun e => by have := (hown5.block e).1; omega
      clear hg5 hv5 hs5 hO1 hrf hcl hrow hna hA1 hr1 hN1 hffV hfpl
      refine hK.out _ _ (fun _ => hF) ?_
      clear hK
      try simp only [Act.put, zdK, zdL, zdM]
      refine Till.one (i := 9) (by kernel_rfl) rfl (fun K hK => ?_)
      go_simp
      refine hK.out _ _ (fun _ => hF) ?_
      clear hK
      try simp only [Act.put, zdK, zdL, zdM]
      refine Till.one (i := 10) (by kernel_rfl) rfl (fun K hK => ?_)
      have k0 := hF.2.1 11 _ rfl; have k1 := hF.2.2 11
      go_simp
      refine hK.out _ _ (fun h => absurd h (by decide)) ?_
      clear hK
      try simp only [Act.put, zdK, zdL, zdM]
      refine Till.done (by kernel_rfl) ?_ _
      have hV6 : Box [.int .i64 k, .int .i64 0, .string ⟨#[]⟩, .slice none 0 0, .string ⟨#[]⟩, .slice none 0 0, .slice none 0 0, .slice none 0 0, .int .i64 0, .bool false, .bool false, .slice ka' kn' kc'] V (v5.setCell ⟨V, 11, none⟩ (.slice ka' kn' kc')) := hF.put (k := 11) (by simp) _
      have hA6 := hA5.sets_other (b := V) (.inl (by omega)) [(11, .slice ka' kn' kc')]
      have hr6 := Rdr.sets (b := V) (by omega) [(11, .slice ka' kn' kc')] hr5
      have hN6 := Only.setsR (b := V) (by omega) [(11, .slice ka' kn' kc')] hN5
      have hO6 := hown5.set_ne (b := V) (j := 11) (u := .slice ka' kn' kc') hVn hVo
      have hz6 := hV6.1
      simp only [zi] at hA6 hr6 hN6
      clear hF hA5 hr5 hN5 hown5 k0 k1
      generalize v5.setCell ⟨V, 11, none⟩ (.slice ka' kn' kc') = W6 at *
      have HW6 := Lib.hid (kids_wt HWT.out hwf)
      obtain ⟨ks', hks⟩ : ∃ ks', ks' = ks ++ [f] := ⟨_, rfl⟩
      have hk1 : ks'.length = ks.length + 1 := by rw [hks]; simp
      have hO7 : Own W6 (V + 1) 33 12 (.slice ka' kn' kc') (ks'.map Fm.cd) (fp ++ ff) := by rw [hks, zdV]; exact hO6
      have HW7 : Hid (wtR (ks'.map Fm.cd) ≤ ks'.length * fcap n) := Lib.hid (by rw [hks]; exact HW6.out)
      have hm2 : ks'.length * gcap n = ks.length * gcap n + gcap n := by rw [hk1]; exact Nat.succ_mul _ _
      have HK1 := Lib.hid hk1
      have hk2 : ks'.length ≤ 2 := by omega
      clear hO6 hks HW6 hk1
      go_wp2_with fail
      go_roundw
      case rel => exact ⟨ks', _, fp ++ ff, q + gcap n, by rw [HK1.out]; go_num, hk2, by omega, HW7, hO7, hfp5, hV6, hA6, hr6, hN6, by omega⟩
      case measure => simp [intOf]; omega
     ·have hc1 : decide ((ks.length : Int) < Fm.nk k) = false := decide_eq_false hc
      have hA := hA3; have hN := hN3; have hRd := hr3
      obtain ⟨xa, xc, hxe, _, _⟩ := hO3.form
      rw [zdX] at hxe
      simp only [Value.slice.injEq] at hxe
      obtain ⟨rfl, rfl, rfl⟩ := hxe
      obtain ⟨fz, hz, hq3⟩ := hO3.rd
      have hfz : ∀ b ∈ fz, b ≠ w.heap.size ∧ (b ∈ lf ∨ w.heap.size ≤ b) := fun b hb => by
       rcases hq3 with ⟨_, _, rfl⟩ | ⟨b', _, _, rfl, _, h2, _⟩
       ·simp at hb
       ·rcases zdW.1 hb with rfl | hb
        ·exact ⟨by omega, .inr (by omega)⟩
        ·rcases hfp b hb with h | h
         ·exact ⟨by have := hlfl b h; omega, .inl h⟩
         ·exact ⟨by omega, .inr (by omega)⟩
      have HCL := Lib.hid (show RdVs w3 (Fm.mk k ⟨Atm.zero, false⟩ ks).cd [.int .i64 k, .int .i64 0, .string ⟨#[]⟩, .slice none 0 0, .string ⟨#[]⟩, .slice none 0 0, .slice none 0 0, .slice none 0 0, .int .i64 0, .bool false, .bool false, .slice ka ks.length kc] _ from Fm.close (x := Fm.mk k ⟨Atm.zero, false⟩ ks) (f3 := []) (f5 := []) (f6 := []) (f7 := []) hk64 (by unfold I64; simp [Fm.lit, Atm.zero]) (Nat.zero_le _) (zY (cd := Tm.cd) none 0 (by simp)) (Nat.zero_le _) (zY (cd := Tm.cd) none 0 (by simp)) (zY (cd := Tm.cd) none 0 (by simp)) (zY (cd := zm) none 0 (by simp)) (by unfold I64; simp [Fm.lit, Atm.zero]) hz)
      have cv0 := hV3.2.1 0 _ rfl; have ca0 := hA.2.1 0 _ rfl; have cf0 := hA.2.2 0
      have cv1 := hV3.2.1 1 _ rfl; have ca1 := hA.2.1 1 _ rfl; have cf1 := hA.2.2 1
      have cv2 := hV3.2.1 2 _ rfl; have ca2 := hA.2.1 2 _ rfl; have cf2 := hA.2.2 2
      have cv3 := hV3.2.1 3 _ rfl; have ca3 := hA.2.1 3 _ rfl; have cf3 := hA.2.2 3
      have cv4 := hV3.2.1 4 _ rfl; have ca4 := hA.2.1 4 _ rfl; have cf4 := hA.2.2 4
      have cv5 := hV3.2.1 5 _ rfl; have ca5 := hA.2.1 5 _ rfl; have cf5 := hA.2.2 5
      have cv6 := hV3.2.1 6 _ rfl; have ca6 := hA.2.1 6 _ rfl; have cf6 := hA.2.2 6
      have cv7 := hV3.2.1 7 _ rfl; have ca7 := hA.2.1 7 _ rfl; have cf7 := hA.2.2 7
      have cv8 := hV3.2.1 8 _ rfl; have ca8 := hA.2.1 8 _ rfl; have cf8 := hA.2.2 8
      have cv9 := hV3.2.1 9 _ rfl; have ca9 := hA.2.1 9 _ rfl; have cf9 := hA.2.2 9
      have cv10 := hV3.2.1 10 _ rfl; have ca10 := hA.2.1 10 _ rfl; have cf10 := hA.2.2 10
      have cv11 := hV3.2.1 11 _ rfl; have ca11 := hA.2.1 11 _ rfl; have cf11 := hA.2.2 11
      clear hA3 hN3 hr3 hO3 hz hq3
      have g1 := hA.puts [.int .i64 k, .int .i64 0, .string ⟨#[]⟩, .slice none 0 0, .string ⟨#[]⟩, .slice none 0 0, .slice none 0 0, .slice none 0 0, .int .i64 0, .bool false, .bool false, .slice ka ks.length kc] rfl
      have hK := (Same2.refl w.heap.size w.heap.size w3).sets (b := w.heap.size) (.inl rfl) (zc 0 [.int .i64 k, .int .i64 0, .string ⟨#[]⟩, .slice none 0 0, .string ⟨#[]⟩, .slice none 0 0, .slice none 0 0, .slice none 0 0, .int .i64 0, .bool false, .bool false, .slice ka ks.length kc])
      have hO5 := Only.setsR (b := w.heap.size) (Nat.le_refl _) (zc 0 [.int .i64 k, .int .i64 0, .string ⟨#[]⟩, .slice none 0 0, .string ⟨#[]⟩, .slice none 0 0, .slice none 0 0, .slice none 0 0, .int .i64 0, .bool false, .bool false, .slice ka ks.length kc]) hN
      have hR9 := Rdr.sets (b := w.heap.size) (by omega) (zc 0 [.int .i64 k, .int .i64 0, .string ⟨#[]⟩, .slice none 0 0, .string ⟨#[]⟩, .slice none 0 0, .slice none 0 0, .slice none 0 0, .int .i64 0, .bool false, .bool false, .slice ka ks.length kc]) hRd
      simp only [zc, zi, Nat.zero_add, Nat.reduceAdd] at g1 hK hO5 hR9
      have ra0 := g1.2.1 0 _ rfl
      have ra1 := g1.2.1 1 _ rfl
      have ra2 := g1.2.1 2 _ rfl
      have ra3 := g1.2.1 3 _ rfl
      have ra4 := g1.2.1 4 _ rfl
      have ra5 := g1.2.1 5 _ rfl
      have ra6 := g1.2.1 6 _ rfl
      have ra7 := g1.2.1 7 _ rfl
      have ra8 := g1.2.1 8 _ rfl
      have ra9 := g1.2.1 9 _ rfl
      have ra10 := g1.2.1 10 _ rfl
      have ra11 := g1.2.1 11 _ rfl
      clear g1
      go_wp2_with fail
      refine bodyPost_ret (v := .agg #[.int .i64 k, .int .i64 0, .string ⟨#[]⟩, .slice none 0 0, .string ⟨#[]⟩, .slice none 0 0, .slice none 0 0, .slice none 0 0, .int .i64 0, .bool false, .bool false, .slice ka ks.length kc]) (by simp [results, Tryz.results29, go_sem, ra0, ra1, ra2, ra3, ra4, ra5, ra6, ra7, ra8, ra9, ra10, ra11]) rfl ?_
      exact ⟨⟨Fm.mk k ⟨Atm.zero, false⟩ ks, _, _, by rw [inner_wt]; have h1 := HWT.out; have h2 := Nat.mul_le_mul_right (fcap n) hks2; omega, rfl, HCL.out.same2 hK (fun b hb => by have := (hfz b (by simpa using hb)).1; omega), fun b hb => (hfz b (by simpa using hb)).2⟩, hR9.mono (by have h2 := Nat.mul_le_mul_right (gcap n) hks2; omega), hO5⟩
end Go.Proofs.YtoehhbkhdddeeaaGreatDoor
end
