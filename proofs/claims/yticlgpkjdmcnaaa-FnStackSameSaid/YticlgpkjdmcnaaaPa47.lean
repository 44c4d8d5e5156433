/- Parts of the proof: StkZ. -/
import Derived.Deep.CutRange
import Derived.Test.YticlgpkjdmcnaaaPa45
import Derived.Test.YticlgpkjdmcnaaaPa46
import Derived.Test.YticlgpkjdmcnaaaPa7
section
namespace Go.Proofs.Yticlgpkjdmcnaaa
open Go Go.RowKit
set_option linter.unusedVariables false
set_option linter.unusedSimpArgs false
set_option maxRecDepth 100000
set_option maxHeartbeats 16000000
def StkNew (P : Stk) (b : Bool) (w : World) (e : Ending) (w' : World) : Prop := ∃ (xa : Option Addr) (xc : Nat) (xl : Option Addr) (xm : Nat) (xf : List Nat), e = .returned (.tuple #[.agg #[.slice xa P.sig.syms.length xc, .slice xl P.levels.length xm], .bool b]) ∧ RdVs w' P.cd [.slice xa P.sig.syms.length xc, .slice xl P.levels.length xm] xf ∧ (∀ q ∈ xf, w.heap.size ≤ q) ∧ Below w.heap.size w w'
theorem pushS_new (K P : Stk) (b : Bool) (h : K.push = (P, b)) (vs : List Value) (gk : List Nat) (w : World) (hbig : wtV K.cd ≤ 1048576) (hv : RdVs w K.cd vs gk) :
  Calls Try.prog 10 #[.agg vs.toArray] w (StkNew P b w) := by
 refine (za5 K vs gk w hbig hv).mono ?_
 rintro e w' ⟨us, fs, he, hr, hf, hb⟩
 rw [h] at he hr
 obtain ⟨xa, xc, _, xl, xm, _, rfl, _, _, _⟩ := Stk.open hr
 exact ⟨xa, xc, xl, xm, fs, he, hr, fun q hq => (hf.2 q hq).1, hb⟩
theorem zb3 (K P : Stk) (f : Fm) (b : Bool) (h : K.tell f = (P, b)) (vs us : List Value) (gk ff : List Nat) (w : World) (hbig : wtV K.cd + (wtV f.cd + 1) ≤ 1048576) (hv : RdVs w K.cd vs gk) (hf : RdVs w f.cd us ff) :
  Calls Try.prog 11 #[.agg vs.toArray, .agg us.toArray] w (StkNew P b w) := by
 refine (za6 K f vs us gk ff w hbig hv hf).mono ?_
 rintro e w' ⟨us, fs, he, hr, hf, hb⟩
 rw [h] at he hr
 obtain ⟨xa, xc, _, xl, xm, _, rfl, _, _, _⟩ := Stk.open hr
 exact ⟨xa, xc, xl, xm, fs, he, hr, hf, hb⟩
def DrawnKK (e : Ending) (w' : World) : Prop := ∃ (K P : Stk) (sa : Option Addr) (sc : Nat) (la : Option Addr) (lc : Nat) (xa : Option Addr) (xc : Nat) (xl : Option Addr) (xm : Nat) (kf xf : List Nat), wtV K.cd ≤ 460000 ∧ wtV P.cd ≤ 460000 ∧
 e = .returned (.tuple #[.agg #[.slice sa K.sig.syms.length sc, .slice la K.levels.length lc], .agg #[.slice xa P.sig.syms.length xc, .slice xl P.levels.length xm]]) ∧ RdVs w' K.cd [.slice sa K.sig.syms.length sc, .slice la K.levels.length lc] kf ∧ RdVs w' P.cd [.slice xa P.sig.syms.length xc, .slice xl P.levels.length xm] xf
theorem zbz (v : Value) (w : World) (hv : Byts w v) :
  Calls Try.prog 4 #[v] w fun e w' => DrawnKK e w' ∧ Below w.heap.size w w' := by
 have hA := (Box.new w [.slice none 0 0, .slice none 0 0] 28).alloc (.cells #[.slice none 0 0, .slice none 0 0] 28)
 have hC := Box.new (w.alloc (.cells #[.slice none 0 0, .slice none 0 0] 28)) [.slice none 0 0, .slice none 0 0] 28
 rw [World.size_alloc] at hC
 have hbn : Below w.heap.size w ((w.alloc (.cells #[.slice none 0 0, .slice none 0 0] 28)).alloc (.cells #[.slice none 0 0, .slice none 0 0] 28)) := ((Below.refl _ _).alloc (Nat.le_refl _) _).alloc (by simp) _
 have hs0 : ((w.alloc (.cells #[.slice none 0 0, .slice none 0 0] 28)).alloc (.cells #[.slice none 0 0, .slice none 0 0] 28)).heap.size = w.heap.size + 2 := by simp
 go_enter Try.func4, Try.ntmps4
 go_upto_region 1 with fail
 generalize (w.alloc (.cells #[.slice none 0 0, .slice none 0 0] 28)).alloc (.cells #[.slice none 0 0, .slice none 0 0] 28) = W0 at *
 go_wp2_with fail
 refine (zcP v _ (by exact hv.below hbn)).mono ?_
 rintro e u1 ⟨rfl, hu1, hb1⟩
 rw [hs0] at hu1 ⊢
 replace hA := hA.below hb1
 replace hC := hC.below hb1
 have hBW := hbn.trans (hb1.mono (by omega))
 have hzu := hb1.size
 rw [hs0] at hzu
 obtain ⟨rb, hrb⟩ : ∃ rb, rb = w.heap.size + 2 := ⟨_, rfl⟩
 rw [← hrb] at hu1 ⊢
 have hrw1 : rb ≤ w.heap.size + 2 := by omega
 have hrw2 : w.heap.size + 2 ≤ rb := by omega
 clear hrb hb1 hs0 hbn
 have hl1 := hu1.lt
 go_wp2_with fail
 refine (zdd rb 0 _ (by omega) hu1).mono ?_
 rintro e w1 ⟨⟨K, l, sa, sc, la, lc, ta, tc, kf, lf, hlite, ⟨hl1', hl6, hlx⟩, rfl, hrk, hrl, hkf0, hlf0⟩, hRd, ho1⟩
 have HL := Lib.hid hlx
 have HF := Lib.hid (lite_fit hlite)
 clear hlx hlite
 have hz1 := ho1.size
 have hkf : ∀ b ∈ kf, rb < b := fun b hb => by have := hkf0 b hb; omega
 have hlf : ∀ b ∈ lf, rb < b := fun b hb => by have := hlf0 b hb; omega
 replace hA := hA.only ho1 (by omega)
 replace hC := hC.only ho1 (by omega)
 replace hBW := hBW.trans (ho1.toBelow (B := w.heap.size) (by omega) (fun b hb => by simp at hb; omega))
 clear ho1 hu1 hkf0 hlf0
 obtain ⟨KB, hKB⟩ : ∃ S, S = w1.heap.size := ⟨_, rfl⟩
 have hX := Box.new w1 [.slice sa K.sig.syms.length sc, .slice la K.levels.length lc] 28
 rw [← hKB] at hX
 have hrK : rb < KB := by have := hRd.lt; omega
 go_upto_region 3 with fail
 rw [← hKB]
 have hba := zb w1 (.cells #[.slice sa K.sig.syms.length sc, .slice la K.levels.length lc] 28)
 replace hA := hA.below hba
 replace hC := hC.below hba
 replace hrk := hrk.below hba
 replace hrl := hrl.below hba
 replace hRd := hRd.below hba
 replace hBW := hBW.trans (hba.mono (by have := hBW.size; omega))
 have hzK : KB + 1 ≤ (w1.alloc (.cells #[.slice sa K.sig.syms.length sc, .slice la K.levels.length lc] 28)).heap.size := hX.1
 clear hba hKB
 generalize w1.alloc (.cells #[.slice sa K.sig.syms.length sc, .slice la K.levels.length lc] 28) = w2 at *
 go_wp2_with fail
 refine (zX rb (0 + 2000) 4 _ (by omega) (by omega) (by omega) hRd).mono ?_
 rintro e u ⟨⟨d, hd, rfl⟩, hRn, ho⟩
 replace hA := hA.only ho (by omega)
 replace hC := hC.only ho (by omega)
 replace hX := hX.only ho (by omega)
 replace hrk := hrk.only ho (fun h => by have := hkf _ h; omega)
 replace hrl := hrl.only ho (fun h => by have := hlf _ h; omega)
 replace hBW := hBW.trans (ho.toBelow (B := w.heap.size) (by have := hBW.size; omega) (fun b hb => by simp at hb; omega))
 clear hRd ho
 have hRd := hRn
 clear hRn
 by_cases hd0 : d = 0
 ·have d1 : ((d : Int) == 0) = true := by subst hd0; rfl
  obtain ⟨⟨P, tb⟩, hP⟩ : ∃ T, K.push = T := ⟨_, rfl⟩
  have hwP : wtV P.cd ≤ 460000 := by have h := push_wt hP; have := HF.out.2; omega
  have hPh := Lib.hid hP
  clear hP
  have x0 := hX.2.1 0 _ rfl; have x1 := hX.2.1 1 _ rfl
  go_wp2_with fail
  refine (pushS_new K P tb hPh.out _ _ _ (by have := HF.out.2; omega) (by exact hrk)).mono ?_
  rintro e v1 ⟨xa, xc, xl, xm, xf, rfl, hrx, hxf0, hb⟩
  clear x0 x1
  have hxf : ∀ b ∈ xf, rb < b := fun b hb' => by have := hxf0 b hb'; have := hRd.lt; omega
  replace hA := hA.below hb
  replace hC := hC.below hb
  replace hX := hX.below hb
  replace hrk := hrk.below hb
  replace hrl := hrl.below hb
  replace hRd := hRd.below hb
  replace hBW := hBW.trans (hb.mono (by have := hBW.size; omega))
  clear hb hxf0 hRd hrl
  obtain ⟨XB, hXBe⟩ : ∃ S, S = v1.heap.size := ⟨_, rfl⟩
  have hT := Box.new v1 [.slice xa P.sig.syms.length xc, .slice xl P.levels.length xm] 28
  rw [← hXBe] at hT
  have hKX : KB < XB := by have := hX.1; omega
  go_upto_region 6 with fail
  rw [← hXBe]
  have hba := zb v1 (.cells #[.slice xa P.sig.syms.length xc, .slice xl P.levels.length xm] 28)
  replace hA := hA.below hba
  replace hC := hC.below hba
  replace hX := hX.below hba
  replace hrk := hrk.below hba
  replace hrx := hrx.below hba
  replace hBW := hBW.trans (hba.mono (by have := hBW.size; omega))
  clear hba hXBe
  generalize v1.alloc (.cells #[.slice xa P.sig.syms.length xc, .slice xl P.levels.length xm] 28) = v2 at *
  have hbd := zm v2
  replace hA := hA.below hbd
  replace hC := hC.below hbd
  replace hX := hX.below hbd
  replace hT := hT.below hbd
  replace hrk := hrk.below hbd
  replace hrx := hrx.below hbd
  replace hBW := hBW.trans (hbd.mono (by have := hBW.size; omega))
  clear hbd
  go_upto_region 6 with fail
  refine Ever.start (F := (fun U : World => U.cell? ⟨KB, 0, none⟩ = some (.slice sa K.sig.syms.length sc) ∧ U.cell? ⟨KB, 1, none⟩ = some (.slice la K.levels.length lc) ∧ U.cell? ⟨XB, 0, none⟩ = some (.slice xa P.sig.syms.length xc) ∧ U.cell? ⟨XB, 1, none⟩ = some (.slice xl P.levels.length xm))) (by kernel_rfl) ?_
  generalize v2.drew = v9 at *
  have hF9 : (fun U : World => U.cell? ⟨KB, 0, none⟩ = some (.slice sa K.sig.syms.length sc) ∧ U.cell? ⟨KB, 1, none⟩ = some (.slice la K.levels.length lc) ∧ U.cell? ⟨XB, 0, none⟩ = some (.slice xa P.sig.syms.length xc) ∧ U.cell? ⟨XB, 1, none⟩ = some (.slice xl P.levels.length xm)) _ := ⟨hX.2.1 0 _ rfl, hX.2.1 1 _ rfl, hT.2.1 0 _ rfl, hT.2.1 1 _ rfl⟩
  refine Ever.take (i := 0) (v := (.agg #[.slice sa K.sig.syms.length sc, .slice la K.levels.length lc])) rfl (by kernel_rfl) (by kernel_rfl) (by kernel_rfl) (fun _ _ _ h => h) (Or.inl ⟨by rfl, fun U hU => ?_⟩) hF9 ?_
  ·obtain ⟨u0F, u1F, u2F, u3F⟩ := hU
   go_simp
  try simp only [Act.put, zdX, zdY, zdZ]
  refine Ever.take (i := 1) (v := (.agg #[.slice xa P.sig.syms.length xc, .slice xl P.levels.length xm])) rfl (by kernel_rfl) (by kernel_rfl) (by kernel_rfl) (fun _ _ _ h => h) (Or.inl ⟨by rfl, fun U hU => ?_⟩) hF9 ?_
  ·obtain ⟨u0F, u1F, u2F, u3F⟩ := hU
   go_simp
  try simp only [Act.put, zdX, zdY, zdZ]
  refine Ever.one (i := 2) (by kernel_rfl) rfl (fun J9 hK => ?_)
  have yr0 := hA.2.1 0 _ rfl; have yr1 := hA.2.1 1 _ rfl; have zr0 := hA.2.2 0; have zr1 := hA.2.2 1
  go_simp
  have gA := hA.puts [.slice sa K.sig.syms.length sc, .slice la K.levels.length lc] rfl
  have gC := hC.sets_other (b := w.heap.size) (by omega) (ze 0 [.slice sa K.sig.syms.length sc, .slice la K.levels.length lc])
  have gX := hX.sets_other (b := w.heap.size) (by omega) (ze 0 [.slice sa K.sig.syms.length sc, .slice la K.levels.length lc])
  have gT := hT.sets_other (b := w.heap.size) (by omega) (ze 0 [.slice sa K.sig.syms.length sc, .slice la K.levels.length lc])
  have hBE := zO (b := w.heap.size) (Nat.le_refl _) (ze 0 [.slice sa K.sig.syms.length sc, .slice la K.levels.length lc]) hBW
  have hK1 := (Same2.refl w.heap.size (w.heap.size + 1) v9).sets (b := w.heap.size) (.inl rfl) (ze 0 [.slice sa K.sig.syms.length sc, .slice la K.levels.length lc])
  simp only [zo, ze] at gA gC gX gT hBE hK1
  clear hA hC hX hT hBW yr0 yr1 zr0 zr1
  have hX := gX
  have hT := gT
  refine hK.out _ _ ⟨hX.2.1 0 _ rfl, hX.2.1 1 _ rfl, hT.2.1 0 _ rfl, hT.2.1 1 _ rfl⟩ ?_
  clear hK
  try simp only [Act.put, zdX, zdY, zdZ]
  refine Ever.one (i := 3) (by kernel_rfl) rfl (fun J9 hK => ?_)
  have yr0 := gC.2.1 0 _ rfl; have yr1 := gC.2.1 1 _ rfl; have zr0 := gC.2.2 0; have zr1 := gC.2.2 1
  go_simp
  generalize (v9.setCell ⟨w.heap.size, 0, none⟩ (.slice sa K.sig.syms.length sc)).setCell ⟨w.heap.size, 1, none⟩ (.slice la K.levels.length lc) = w9 at *
  have gC2 := gC.puts [.slice xa P.sig.syms.length xc, .slice xl P.levels.length xm] rfl
  have gA2 := gA.sets_other (b := w.heap.size + 1) (by omega) (ze 0 [.slice xa P.sig.syms.length xc, .slice xl P.levels.length xm])
  have gX2 := gX.sets_other (b := w.heap.size + 1) (by omega) (ze 0 [.slice xa P.sig.syms.length xc, .slice xl P.levels.length xm])
  have gT2 := gT.sets_other (b := w.heap.size + 1) (by omega) (ze 0 [.slice xa P.sig.syms.length xc, .slice xl P.levels.length xm])
  have hBE2 := zO (b := w.heap.size + 1) (by omega) (ze 0 [.slice xa P.sig.syms.length xc, .slice xl P.levels.length xm]) hBE
  have hK2 := hK1.sets (b := w.heap.size + 1) (.inr rfl) (ze 0 [.slice xa P.sig.syms.length xc, .slice xl P.levels.length xm])
  simp only [zo, ze] at gC2 gA2 gX2 gT2 hBE2 hK2
  clear hX hT yr0 yr1 zr0 zr1
  have hX := gX2
  have hT := gT2
  refine hK.out _ _ ⟨hX.2.1 0 _ rfl, hX.2.1 1 _ rfl, hT.2.1 0 _ rfl, hT.2.1 1 _ rfl⟩ ?_
  clear hK
  try simp only [Act.put, zdX, zdY, zdZ]
  refine Ever.done (by kernel_rfl) ?_ _
  have r0 := gA2.2.1 0 _ rfl
  have r1 := gA2.2.1 1 _ rfl
  have r2 := gC2.2.1 0 _ rfl
  have r3 := gC2.2.1 1 _ rfl
  have hrk2 := hrk.same2 hK2 (fun b hb => by have := hkf b hb; omega)
  have hrx2 := hrx.same2 hK2 (fun b hb => by have := hxf b hb; omega)
  clear gC2 gA2 gC gA gX gX2 gT gT2 hT hX hF9 hBE hK1 hK2 hrk hrx
  go_wp2_with fail
  refine bodyPost_ret (v := .tuple #[.agg #[.slice sa K.sig.syms.length sc, .slice la K.levels.length lc], .agg #[.slice xa P.sig.syms.length xc, .slice xl P.levels.length xm]]) (by simp [results, Try.results4, go_sem, r0, r1, r2, r3]) rfl ?_
  exact ⟨⟨K, P, _, _, _, _, _, _, _, _, _, _, by have := HF.out.2; omega, hwP, rfl, hrk2, hrx2⟩, hBE2⟩
 ·have d1 : ((d : Int) == 0) = false := by simpa using hd0
  by_cases hd1 : d = 1
  ·have d2 : ((d : Int) == 1) = true := by subst hd1; rfl
   go_upto_region 8 with fail
   go_cut [9, 10] from 31 to 39 (fun pv bv wx => ∃ (XB : Nat) (P : Stk) (tb : Bool) (xa : Option Addr) (xc : Nat) (xl : Option Addr) (xm : Nat) (xf : List Nat), pv = .pointer (some ⟨XB, 0, none⟩) ∧ bv = .bool tb ∧ KB < XB ∧ wtV P.cd ≤ 460000 ∧ (∀ b ∈ xf, rb < b) ∧ Box [.slice xa P.sig.syms.length xc, .slice xl P.levels.length xm] XB wx ∧ Box [.slice none 0 0, .slice none 0 0] w.heap.size wx ∧ Box [.slice none 0 0, .slice none 0 0] (w.heap.size + 1) wx ∧ Box [.slice sa K.sig.syms.length sc, .slice la K.levels.length lc] KB wx ∧ RdVs wx K.cd [.slice sa K.sig.syms.length sc, .slice la K.levels.length lc] kf ∧ RdVs wx P.cd [.slice xa P.sig.syms.length xc, .slice xl P.levels.length xm] xf ∧ Below w.heap.size w wx)
   case first =>
    refine Ever.start (F := (fun U : World => U.cell? ⟨KB, 0, none⟩ = some (.slice sa K.sig.syms.length sc) ∧ U.cell? ⟨KB, 1, none⟩ = some (.slice la K.levels.length lc))) (by kernel_rfl) ?_
    have hbd := zm u
    replace hA := hA.below hbd
    replace hC := hC.below hbd
    replace hX := hX.below hbd
    replace hrk := hrk.below hbd
    replace hrl := hrl.below hbd
    replace hRd := hRd.below hbd
    replace hBW := hBW.trans (hbd.mono (by have := hBW.size; omega))
    clear hbd
    generalize u.drew = y0 at *
    have hF9 : (fun U : World => U.cell? ⟨KB, 0, none⟩ = some (.slice sa K.sig.syms.length sc) ∧ U.cell? ⟨KB, 1, none⟩ = some (.slice la K.levels.length lc)) _ := ⟨hX.2.1 0 _ rfl, hX.2.1 1 _ rfl⟩
    refine Ever.take (i := 0) (v := (.agg #[.slice sa K.sig.syms.length sc, .slice la K.levels.length lc])) rfl (by kernel_rfl) (by kernel_rfl) (by kernel_rfl) (fun _ _ _ h => h) (Or.inl ⟨by rfl, fun U hU => ?_⟩) hF9 ?_
    ·obtain ⟨u0F, u1F⟩ := hU
     go_simp
    try simp only [Act.put, zdX, zdY, zdZ]
    refine Ever.take (i := 1) (v := (.pointer (some ⟨rb, 0, none⟩))) rfl (by kernel_rfl) (by kernel_rfl) (by kernel_rfl) (fun _ _ _ h => h) (Or.inl ⟨by rfl, fun U hU => ?_⟩) hF9 ?_
    ·obtain ⟨u0F, u1F⟩ := hU
     go_simp
    try simp only [Act.put, zdX, zdY, zdZ]
    refine Ever.take (i := 2) (v := (.slice ta l.length tc)) rfl (by kernel_rfl) (by kernel_rfl) (by kernel_rfl) (fun _ _ _ h => h) (Or.inl ⟨by rfl, fun U hU => ?_⟩) hF9 ?_
    ·obtain ⟨u0F, u1F⟩ := hU
     go_simp
    try simp only [Act.put, zdX, zdY, zdZ]
    refine Ever.two (i := 3) (j := 8) (by kernel_rfl) rfl rfl (fun J9 hK => ?_) (fun J9 hK => ?_)
    ·go_simp
     go_wp2_with (go_at_call 12; refine (zdb 1 l _ lf 1 rb (0 + 2000 + 1) _ (by omega) (by omega) (by omega) (by simp only [gcap]; omega) hl1' hl6 HL (by exact hrl) (fun h => by have := hlf _ h; omega) (by exact hRd)).mono ?_; rintro e y1 ⟨⟨f, vf, ff, hwf0, rfl, hrf, hff0⟩, hRn, ho⟩)
     have hwf : wtV f.cd ≤ 5002 := hwf0
     clear hwf0 hRn hff0
     have hzo := ho.size
     obtain ⟨⟨P, tb⟩, hP⟩ : ∃ T, K.tell f = T := ⟨_, rfl⟩
     have hwP : wtV P.cd ≤ 460000 := by have h := tell_wt hP; have := HF.out.2; omega
     have hPh := Lib.hid hP
     clear hP
     replace hA := hA.only ho (by omega)
     replace hC := hC.only ho (by omega)
     replace hX := hX.only ho (by omega)
     replace hrk := hrk.only ho (fun h => by have := hkf _ h; omega)
     replace hBW := hBW.trans (ho.toBelow (B := w.heap.size) (by have := hBW.size; omega) (fun b hb => by simp at hb; omega))
     clear ho hRd hrl
     replace hF9 : (fun U : World => U.cell? ⟨KB, 0, none⟩ = some (.slice sa K.sig.syms.length sc) ∧ U.cell? ⟨KB, 1, none⟩ = some (.slice la K.levels.length lc)) _ := ⟨hX.2.1 0 _ rfl, hX.2.1 1 _ rfl⟩
     refine hK.out _ _ hF9 ?_
     clear hK
     try simp only [Act.put, zdX, zdY, zdZ]
     refine Ever.two (i := 4) (j := 8) (by kernel_rfl) rfl rfl (fun J9 hK => ?_) (fun J9 hK => ?_)
     ·go_simp
      go_wp2_with (go_at_call 11; refine (zb3 K P f tb hPh.out _ _ _ _ _ (by have := HF.out.2; omega) (by exact hrk) (by exact hrf)).mono ?_; rintro e y3 ⟨xa, xc, xl, xm, xf, rfl, hrx, hxf0, hb⟩)
      have hxf : ∀ b ∈ xf, rb < b := fun b hb' => by have := hxf0 b hb'; have := hX.1; omega
      replace hA := hA.below hb
      replace hC := hC.below hb
      replace hX := hX.below hb
      replace hrk := hrk.below hb
      replace hBW := hBW.trans (hb.mono (by have := hBW.size; omega))
      clear hb hxf0 hrf
      replace hF9 : (fun U : World => U.cell? ⟨KB, 0, none⟩ = some (.slice sa K.sig.syms.length sc) ∧ U.cell? ⟨KB, 1, none⟩ = some (.slice la K.levels.length lc)) _ := ⟨hX.2.1 0 _ rfl, hX.2.1 1 _ rfl⟩
      refine hK.out _ _ hF9 ?_
      clear hK
      try simp only [Act.put, zdX, zdY, zdZ]
      refine Ever.take (i := 5) (v := (.tuple #[.agg #[.slice xa P.sig.syms.length xc, .slice xl P.levels.length xm], .bool tb])) rfl (by kernel_rfl) (by kernel_rfl) (by kernel_rfl) (fun _ _ _ h => h) (Or.inl ⟨by rfl, fun U hU => ?_⟩) hF9 ?_
      ·obtain ⟨u0F, u1F⟩ := hU
       go_simp
      try simp only [Act.put, zdX, zdY, zdZ]
      refine Ever.take (i := 6) (v := (.agg #[.slice xa P.sig.syms.length xc, .slice xl P.levels.length xm])) rfl (by kernel_rfl) (by kernel_rfl) (by kernel_rfl) (fun _ _ _ h => h) (Or.inl ⟨by rfl, fun U hU => ?_⟩) hF9 ?_
      ·obtain ⟨u0F, u1F⟩ := hU
       go_simp
      try simp only [Act.put, zdX, zdY, zdZ]
      refine Ever.take (i := 7) (v := (.bool tb)) rfl (by kernel_rfl) (by kernel_rfl) (by kernel_rfl) (fun _ _ _ h => h) (Or.inl ⟨by rfl, fun U hU => ?_⟩) hF9 ?_
      ·obtain ⟨u0F, u1F⟩ := hU
       go_simp
      try simp only [Act.put, zdX, zdY, zdZ]
      refine Ever.one (i := 8) (by kernel_rfl) rfl (fun J9 hK => ?_)
      go_simp
      obtain ⟨XB, hXBe⟩ : ∃ S, S = y3.heap.size := ⟨_, rfl⟩
      have hE := Box.new y3 [.slice none 0 0, .slice none 0 0] 28
      rw [← hXBe] at hE ⊢
      have hKX : KB < XB := by have := hX.1; omega
      have hneK : ∀ b ∈ kf, b ≠ XB := fun b hb' => by have := hrk.lt _ b hb'; omega
      have hneX : ∀ b ∈ xf, b ≠ XB := fun b hb' => by have := hrx.lt _ b hb'; omega
      have hba := zb y3 (.cells #[.slice none 0 0, .slice none 0 0] 28)
      replace hA := hA.below hba
      replace hC := hC.below hba
      replace hX := hX.below hba
      replace hrk := hrk.below hba
      replace hrx := hrx.below hba
      replace hBW := hBW.trans (hba.mono (by have := hBW.size; omega))
      clear hba hXBe
      generalize y3.alloc (.cells #[.slice none 0 0, .slice none 0 0] 28) = y5 at *
      replace hF9 : (fun U : World => U.cell? ⟨KB, 0, none⟩ = some (.slice sa K.sig.syms.length sc) ∧ U.cell? ⟨KB, 1, none⟩ = some (.slice la K.levels.length lc)) _ := ⟨hX.2.1 0 _ rfl, hX.2.1 1 _ rfl⟩
      refine hK.out _ _ hF9 ?_
      clear hK
      try simp only [Act.put, zdX, zdY, zdZ]
      refine Ever.one (i := 9) (by kernel_rfl) rfl (fun J9 hK => ?_)
      have yr0 := hE.2.1 0 _ rfl; have yr1 := hE.2.1 1 _ rfl; have zr0 := hE.2.2 0; have zr1 := hE.2.2 1
      go_simp
      have gE := hE.puts [.slice xa P.sig.syms.length xc, .slice xl P.levels.length xm] rfl
      have gA := hA.sets_other (b := XB) (by omega) (ze 0 [.slice xa P.sig.syms.length xc, .slice xl P.levels.length xm])
      have gC := hC.sets_other (b := XB) (by omega) (ze 0 [.slice xa P.sig.syms.length xc, .slice xl P.levels.length xm])
      have gX := hX.sets_other (b := XB) (by omega) (ze 0 [.slice xa P.sig.syms.length xc, .slice xl P.levels.length xm])
      have hBE := zO (b := XB) (by omega) (ze 0 [.slice xa P.sig.syms.length xc, .slice xl P.levels.length xm]) hBW
      have hK1 := (Same2.refl XB XB y5).sets (b := XB) (.inl rfl) (ze 0 [.slice xa P.sig.syms.length xc, .slice xl P.levels.length xm])
      simp only [zo, ze] at gE gA gC gX hBE hK1
      replace hrk := hrk.same2 hK1 (fun b hb => ⟨hneK b hb, hneK b hb⟩)
      replace hrx := hrx.same2 hK1 (fun b hb => ⟨hneX b hb, hneX b hb⟩)
      clear hA hC hX hE hBW hK1 yr0 yr1 zr0 zr1
      have hX := gX
      replace hF9 : (fun U : World => U.cell? ⟨KB, 0, none⟩ = some (.slice sa K.sig.syms.length sc) ∧ U.cell? ⟨KB, 1, none⟩ = some (.slice la K.levels.length lc)) _ := ⟨hX.2.1 0 _ rfl, hX.2.1 1 _ rfl⟩
      refine hK.out _ _ hF9 ?_
      clear hK
      try simp only [Act.put, zdX, zdY, zdZ]
      refine Ever.one (i := 10) (by kernel_rfl) rfl (fun J9 hK => ?_)
      go_simp
      replace hF9 : (fun U : World => U.cell? ⟨KB, 0, none⟩ = some (.slice sa K.sig.syms.length sc) ∧ U.cell? ⟨KB, 1, none⟩ = some (.slice la K.levels.length lc)) _ := ⟨hX.2.1 0 _ rfl, hX.2.1 1 _ rfl⟩
      refine hK.out _ _ hF9 ?_
      clear hK
      try simp only [Act.put, zdX, zdY, zdZ]
      refine Ever.done (by kernel_rfl) ?_ _
      go_wp2_with fail
      go_meet
      case rel => exact ⟨XB, P, tb, xa, xc, xl, xm, xf, rfl, rfl, hKX, hwP, hxf, gE, gA, gC, hX, hrk, hrx, hBE⟩
     ·go_simp
      obtain ⟨XB, hXBe⟩ : ∃ S, S = y1.heap.size := ⟨_, rfl⟩
      have hE := Box.new y1 [.slice none 0 0, .slice none 0 0] 28
      rw [← hXBe] at hE ⊢
      have hKX : KB < XB := by have := hX.1; omega
      have hneK : ∀ b ∈ kf, b ≠ XB := fun b hb' => by have := hrk.lt _ b hb'; omega
      have hba := zb y1 (.cells #[.slice none 0 0, .slice none 0 0] 28)
      replace hA := hA.below hba
      replace hC := hC.below hba
      replace hX := hX.below hba
      replace hrk := hrk.below hba
      replace hrf := hrf.below hba
      replace hBW := hBW.trans (hba.mono (by have := hBW.size; omega))
      clear hba hXBe
      generalize y1.alloc (.cells #[.slice none 0 0, .slice none 0 0] 28) = y4 at *
      replace hF9 : (fun U : World => U.cell? ⟨KB, 0, none⟩ = some (.slice sa K.sig.syms.length sc) ∧ U.cell? ⟨KB, 1, none⟩ = some (.slice la K.levels.length lc)) _ := ⟨hX.2.1 0 _ rfl, hX.2.1 1 _ rfl⟩
      refine hK.out _ _ hF9 ?_
      clear hK
      try simp only [Act.put, zdX, zdY, zdZ]
      refine Ever.one (i := 4) (by kernel_rfl) rfl (fun J9 hK => ?_)
      go_simp
      go_wp2_with (go_at_call 11; refine (zb3 K P f tb hPh.out _ _ _ _ _ (by have := HF.out.2; omega) (by exact hrk) (by exact hrf)).mono ?_; rintro e y6 ⟨xa, xc, xl, xm, xf, rfl, hrx, hxf0, hb⟩)
      have hxf : ∀ b ∈ xf, rb < b := fun b hb' => by have := hxf0 b hb'; have := hX.1; omega
      have hneX : ∀ b ∈ xf, b ≠ XB := fun b hb' => by have := hxf0 b hb'; have := hE.1; omega
      replace hA := hA.below hb
      replace hC := hC.below hb
      replace hX := hX.below hb
      replace hE := hE.below hb
      replace hrk := hrk.below hb
      replace hBW := hBW.trans (hb.mono (by have := hBW.size; omega))
      clear hb hxf0 hrf
      replace hF9 : (fun U : World => U.cell? ⟨KB, 0, none⟩ = some (.slice sa K.sig.syms.length sc) ∧ U.cell? ⟨KB, 1, none⟩ = some (.slice la K.levels.length lc)) _ := ⟨hX.2.1 0 _ rfl, hX.2.1 1 _ rfl⟩
      refine hK.out _ _ hF9 ?_
      clear hK
      try simp only [Act.put, zdX, zdY, zdZ]
      refine Ever.take (i := 5) (v := (.tuple #[.agg #[.slice xa P.sig.syms.length xc, .slice xl P.levels.length xm], .bool tb])) rfl (by kernel_rfl) (by kernel_rfl) (by kernel_rfl) (fun _ _ _ h => h) (Or.inl ⟨by rfl, fun U hU => ?_⟩) hF9 ?_
      ·obtain ⟨u0F, u1F⟩ := hU
       go_simp
      try simp only [Act.put, zdX, zdY, zdZ]
      refine Ever.take (i := 6) (v := (.agg #[.slice xa P.sig.syms.length xc, .slice xl P.levels.length xm])) rfl (by kernel_rfl) (by kernel_rfl) (by kernel_rfl) (fun _ _ _ h => h) (Or.inl ⟨by rfl, fun U hU => ?_⟩) hF9 ?_
      ·obtain ⟨u0F, u1F⟩ := hU
       go_simp
      try simp only [Act.put, zdX, zdY, zdZ]
      refine Ever.take (i := 7) (v := (.bool tb)) rfl (by kernel_rfl) (by kernel_rfl) (by kernel_rfl) (fun _ _ _ h => h) (Or.inl ⟨by rfl, fun U hU => ?_⟩) hF9 ?_
      ·obtain ⟨u0F, u1F⟩ := hU
       go_simp
      try simp only [Act.put, zdX, zdY, zdZ]
      refine Ever.one (i := 9) (by kernel_rfl) rfl (fun J9 hK => ?_)
      have yr0 := hE.2.1 0 _ rfl; have yr1 := hE.2.1 1 _ rfl; have zr0 := hE.2.2 0; have zr1 := hE.2.2 1
      go_simp
      have gE := hE.puts [.slice xa P.sig.syms.length xc, .slice xl P.levels.length xm] rfl
      have gA := hA.sets_other (b := XB) (by omega) (ze 0 [.slice xa P.sig.syms.length xc, .slice xl P.levels.length xm])
      have gC := hC.sets_other (b := XB) (by omega) (ze 0 [.slice xa P.sig.syms.length xc, .slice xl P.levels.length xm])
      have gX := hX.sets_other (b := XB) (by omega) (ze 0 [.slice xa P.sig.syms.length xc, .slice xl P.levels.length xm])
      have hBE := zO (b := XB) (by omega) (ze 0 [.slice xa P.sig.syms.length xc, .slice xl P.levels.length xm]) hBW
      have hK1 := (Same2.refl XB XB y6).sets (b := XB) (.inl rfl) (ze 0 [.slice xa P.sig.syms.length xc, .slice xl P.levels.length xm])
      simp only [zo, ze] at gE gA gC gX hBE hK1
      replace hrk := hrk.same2 hK1 (fun b hb => ⟨hneK b hb, hneK b hb⟩)
      replace hrx := hrx.same2 hK1 (fun b hb => ⟨hneX b hb, hneX b hb⟩)
      clear hA hC hX hE hBW hK1 yr0 yr1 zr0 zr1
      have hX := gX
      replace hF9 : (fun U : World => U.cell? ⟨KB, 0, none⟩ = some (.slice sa K.sig.syms.length sc) ∧ U.cell? ⟨KB, 1, none⟩ = some (.slice la K.levels.length lc)) _ := ⟨hX.2.1 0 _ rfl, hX.2.1 1 _ rfl⟩
      refine hK.out _ _ hF9 ?_
      clear hK
      try simp only [Act.put, zdX, zdY, zdZ]
      refine Ever.one (i := 10) (by kernel_rfl) rfl (fun J9 hK => ?_)
      go_simp
      replace hF9 : (fun U : World => U.cell? ⟨KB, 0, none⟩ = some (.slice sa K.sig.syms.length sc) ∧ U.cell? ⟨KB, 1, none⟩ = some (.slice la K.levels.length lc)) _ := ⟨hX.2.1 0 _ rfl, hX.2.1 1 _ rfl⟩
      refine hK.out _ _ hF9 ?_
      clear hK
      try simp only [Act.put, zdX, zdY, zdZ]
      refine Ever.done (by kernel_rfl) ?_ _
      go_wp2_with fail
      go_meet
      case rel => exact ⟨XB, P, tb, xa, xc, xl, xm, xf, rfl, rfl, hKX, hwP, hxf, gE, gA, gC, hX, hrk, hrx, hBE⟩
    ·go_simp
     obtain ⟨XB, hXBe⟩ : ∃ S, S = y0.heap.size := ⟨_, rfl⟩
     have hE := Box.new y0 [.slice none 0 0, .slice none 0 0] 28
     rw [← hXBe] at hE ⊢
     have hKX : KB < XB := by have := hX.1; omega
     have hneK : ∀ b ∈ kf, b ≠ XB := fun b hb' => by have := hrk.lt _ b hb'; omega
     have hba := zb y0 (.cells #[.slice none 0 0, .slice none 0 0] 28)
     replace hA := hA.below hba
     replace hC := hC.below hba
     replace hX := hX.below hba
     replace hrk := hrk.below hba
     replace hrl := hrl.below hba
     replace hRd := hRd.below hba
     replace hBW := hBW.trans (hba.mono (by have := hBW.size; omega))
     clear hba hXBe
     generalize y0.alloc (.cells #[.slice none 0 0, .slice none 0 0] 28) = y2 at *
     replace hF9 : (fun U : World => U.cell? ⟨KB, 0, none⟩ = some (.slice sa K.sig.syms.length sc) ∧ U.cell? ⟨KB, 1, none⟩ = some (.slice la K.levels.length lc)) _ := ⟨hX.2.1 0 _ rfl, hX.2.1 1 _ rfl⟩
     refine hK.out _ _ hF9 ?_
     clear hK
     try simp only [Act.put, zdX, zdY, zdZ]
     refine Ever.one (i := 3) (by kernel_rfl) rfl (fun J9 hK => ?_)
     go_simp
     go_wp2_with (go_at_call 12; refine (zdb 1 l _ lf 1 rb (0 + 2000 + 1) _ (by omega) (by omega) (by omega) (by simp only [gcap]; omega) hl1' hl6 HL (by exact hrl) (fun h => by have := hlf _ h; omega) (by exact hRd)).mono ?_; rintro e y7 ⟨⟨f, vf, ff, hwf0, rfl, hrf, hff0⟩, hRn, ho⟩)
     have hwf : wtV f.cd ≤ 5002 := hwf0
     clear hwf0 hRn hff0
     have hzo := ho.size
     obtain ⟨⟨P, tb⟩, hP⟩ : ∃ T, K.tell f = T := ⟨_, rfl⟩
     have hwP : wtV P.cd ≤ 460000 := by have h := tell_wt hP; have := HF.out.2; omega
     have hPh := Lib.hid hP
     clear hP
     replace hA := hA.only ho (by omega)
     replace hC := hC.only ho (by omega)
     replace hX := hX.only ho (by omega)
     replace hE := hE.only ho (by omega)
     replace hrk := hrk.only ho (fun h => by have := hkf _ h; omega)
     replace hBW := hBW.trans (ho.toBelow (B := w.heap.size) (by have := hBW.size; omega) (fun b hb => by simp at hb; omega))
     clear ho hRd hrl
     replace hF9 : (fun U : World => U.cell? ⟨KB, 0, none⟩ = some (.slice sa K.sig.syms.length sc) ∧ U.cell? ⟨KB, 1, none⟩ = some (.slice la K.levels.length lc)) _ := ⟨hX.2.1 0 _ rfl, hX.2.1 1 _ rfl⟩
     refine hK.out _ _ hF9 ?_
     clear hK
     try simp only [Act.put, zdX, zdY, zdZ]
     refine Ever.one (i := 4) (by kernel_rfl) rfl (fun J9 hK => ?_)
     go_simp
     go_wp2_with (go_at_call 11; refine (zb3 K P f tb hPh.out _ _ _ _ _ (by have := HF.out.2; omega) (by exact hrk) (by exact hrf)).mono ?_; rintro e y8 ⟨xa, xc, xl, xm, xf, rfl, hrx, hxf0, hb⟩)
     have hxf : ∀ b ∈ xf, rb < b := fun b hb' => by have := hxf0 b hb'; have := hX.1; omega
     have hneX : ∀ b ∈ xf, b ≠ XB := fun b hb' => by have := hxf0 b hb'; have := hE.1; omega
     replace hA := hA.below hb
     replace hC := hC.below hb
     replace hX := hX.below hb
     replace hE := hE.below hb
     replace hrk := hrk.below hb
     replace hBW := hBW.trans (hb.mono (by have := hBW.size; omega))
     clear hb hxf0 hrf
     replace hF9 : (fun U : World => U.cell? ⟨KB, 0, none⟩ = some (.slice sa K.sig.syms.length sc) ∧ U.cell? ⟨KB, 1, none⟩ = some (.slice la K.levels.length lc)) _ := ⟨hX.2.1 0 _ rfl, hX.2.1 1 _ rfl⟩
     refine hK.out _ _ hF9 ?_
     clear hK
     try simp only [Act.put, zdX, zdY, zdZ]
     refine Ever.take (i := 5) (v := (.tuple #[.agg #[.slice xa P.sig.syms.length xc, .slice xl P.levels.length xm], .bool tb])) rfl (by kernel_rfl) (by kernel_rfl) (by kernel_rfl) (fun _ _ _ h => h) (Or.inl ⟨by rfl, fun U hU => ?_⟩) hF9 ?_
     ·obtain ⟨u0F, u1F⟩ := hU
      go_simp
     try simp only [Act.put, zdX, zdY, zdZ]
     refine Ever.take (i := 6) (v := (.agg #[.slice xa P.sig.syms.length xc, .slice xl P.levels.length xm])) rfl (by kernel_rfl) (by kernel_rfl) (by kernel_rfl) (fun _ _ _ h => h) (Or.inl ⟨by rfl, fun U hU => ?_⟩) hF9 ?_
     ·obtain ⟨u0F, u1F⟩ := hU
      go_simp
     try simp only [Act.put, zdX, zdY, zdZ]
     refine Ever.take (i := 7) (v := (.bool tb)) rfl (by kernel_rfl) (by kernel_rfl) (by kernel_rfl) (fun _ _ _ h => h) (Or.inl ⟨by rfl, fun U hU => ?_⟩) hF9 ?_
     ·obtain ⟨u0F, u1F⟩ := hU
      go_simp
     try simp only [Act.put, zdX, zdY, zdZ]
     refine Ever.one (i := 9) (by kernel_rfl) rfl (fun J9 hK => ?_)
     have yr0 := hE.2.1 0 _ rfl; have yr1 := hE.2.1 1 _ rfl; have zr0 := hE.2.2 0; have zr1 := hE.2.2 1
     go_simp
     have gE := hE.puts [.slice xa P.sig.syms.length xc, .slice xl P.levels.length xm] rfl
     have gA := hA.sets_other (b := XB) (by omega) (ze 0 [.slice xa P.sig.syms.length xc, .slice xl P.levels.length xm])
     have gC := hC.sets_other (b := XB) (by omega) (ze 0 [.slice xa P.sig.syms.length xc, .slice xl P.levels.length xm])
     have gX := hX.sets_other (b := XB) (by omega) (ze 0 [.slice xa P.sig.syms.length xc, .slice xl P.levels.length xm])
     have hBE := zO (b := XB) (by omega) (ze 0 [.slice xa P.sig.syms.length xc, .slice xl P.levels.length xm]) hBW
     have hK1 := (Same2.refl XB XB y8).sets (b := XB) (.inl rfl) (ze 0 [.slice xa P.sig.syms.length xc, .slice xl P.levels.length xm])
     simp only [zo, ze] at gE gA gC gX hBE hK1
     replace hrk := hrk.same2 hK1 (fun b hb => ⟨hneK b hb, hneK b hb⟩)
     replace hrx := hrx.same2 hK1 (fun b hb => ⟨hneX b hb, hneX b hb⟩)
     clear hA hC hX hE hBW hK1 yr0 yr1 zr0 zr1
     have hX := gX
     replace hF9 : (fun U : World => U.cell? ⟨KB, 0, none⟩ = some (.slice sa K.sig.syms.length sc) ∧ U.cell? ⟨KB, 1, none⟩ = some (.slice la K.levels.length lc)) _ := ⟨hX.2.1 0 _ rfl, hX.2.1 1 _ rfl⟩
     refine hK.out _ _ hF9 ?_
     clear hK
     try simp only [Act.put, zdX, zdY, zdZ]
     refine Ever.one (i := 10) (by kernel_rfl) rfl (fun J9 hK => ?_)
     go_simp
     replace hF9 : (fun U : World => U.cell? ⟨KB, 0, none⟩ = some (.slice sa K.sig.syms.length sc) ∧ U.cell? ⟨KB, 1, none⟩ = some (.slice la K.levels.length lc)) _ := ⟨hX.2.1 0 _ rfl, hX.2.1 1 _ rfl⟩
     refine hK.out _ _ hF9 ?_
     clear hK
     try simp only [Act.put, zdX, zdY, zdZ]
     refine Ever.done (by kernel_rfl) ?_ _
     go_wp2_with fail
     go_meet
     case rel => exact ⟨XB, P, tb, xa, xc, xl, xm, xf, rfl, rfl, hKX, hwP, hxf, gE, gA, gC, hX, hrk, hrx, hBE⟩
   case rest =>
   clear hA hC hX hrk hBW hRd hrl
   obtain ⟨XB, P, tb, xa, xc, xl, xm, xf, rfl, rfl, hKX, hwP, hxf, hT, hA, hC, hX, hrk, hrx, hBW⟩ := hcut
   obtain ⟨v2, rfl⟩ : ∃ x, x = wc := ⟨_, rfl⟩
   have hbd := zm v2
   replace hA := hA.below hbd
   replace hC := hC.below hbd
   replace hX := hX.below hbd
   replace hT := hT.below hbd
   replace hrk := hrk.below hbd
   replace hrx := hrx.below hbd
   replace hBW := hBW.trans (hbd.mono (by have := hBW.size; omega))
   clear hbd
   go_upto_region 9 with fail
   refine Ever.start (F := (fun U : World => U.cell? ⟨KB, 0, none⟩ = some (.slice sa K.sig.syms.length sc) ∧ U.cell? ⟨KB, 1, none⟩ = some (.slice la K.levels.length lc) ∧ U.cell? ⟨XB, 0, none⟩ = some (.slice xa P.sig.syms.length xc) ∧ U.cell? ⟨XB, 1, none⟩ = some (.slice xl P.levels.length xm))) (by kernel_rfl) ?_
   generalize v2.drew = v9 at *
   have hF9 : (fun U : World => U.cell? ⟨KB, 0, none⟩ = some (.slice sa K.sig.syms.length sc) ∧ U.cell? ⟨KB, 1, none⟩ = some (.slice la K.levels.length lc) ∧ U.cell? ⟨XB, 0, none⟩ = some (.slice xa P.sig.syms.length xc) ∧ U.cell? ⟨XB, 1, none⟩ = some (.slice xl P.levels.length xm)) _ := ⟨hX.2.1 0 _ rfl, hX.2.1 1 _ rfl, hT.2.1 0 _ rfl, hT.2.1 1 _ rfl⟩
   refine Ever.take (i := 0) (v := (.agg #[.slice sa K.sig.syms.length sc, .slice la K.levels.length lc])) rfl (by kernel_rfl) (by kernel_rfl) (by kernel_rfl) (fun _ _ _ h => h) (Or.inl ⟨by rfl, fun U hU => ?_⟩) hF9 ?_
   ·obtain ⟨u0F, u1F, u2F, u3F⟩ := hU
    go_simp
   try simp only [Act.put, zdX, zdY, zdZ]
   refine Ever.take (i := 1) (v := (.agg #[.slice xa P.sig.syms.length xc, .slice xl P.levels.length xm])) rfl (by kernel_rfl) (by kernel_rfl) (by kernel_rfl) (fun _ _ _ h => h) (Or.inl ⟨by rfl, fun U hU => ?_⟩) hF9 ?_
   ·obtain ⟨u0F, u1F, u2F, u3F⟩ := hU
    go_simp
   try simp only [Act.put, zdX, zdY, zdZ]
   refine Ever.one (i := 2) (by kernel_rfl) rfl (fun J9 hK => ?_)
   have yr0 := hA.2.1 0 _ rfl; have yr1 := hA.2.1 1 _ rfl; have zr0 := hA.2.2 0; have zr1 := hA.2.2 1
   go_simp
   have gA := hA.puts [.slice sa K.sig.syms.length sc, .slice la K.levels.length lc] rfl
   have gC := hC.sets_other (b := w.heap.size) (by omega) (ze 0 [.slice sa K.sig.syms.length sc, .slice la K.levels.length lc])
   have gX := hX.sets_other (b := w.heap.size) (by omega) (ze 0 [.slice sa K.sig.syms.length sc, .slice la K.levels.length lc])
   have gT := hT.sets_other (b := w.heap.size) (by omega) (ze 0 [.slice sa K.sig.syms.length sc, .slice la K.levels.length lc])
   have hBE := zO (b := w.heap.size) (Nat.le_refl _) (ze 0 [.slice sa K.sig.syms.length sc, .slice la K.levels.length lc]) hBW
   have hK1 := (Same2.refl w.heap.size (w.heap.size + 1) v9).sets (b := w.heap.size) (.inl rfl) (ze 0 [.slice sa K.sig.syms.length sc, .slice la K.levels.length lc])
   simp only [zo, ze] at gA gC gX gT hBE hK1
   clear hA hC hX hT hBW yr0 yr1 zr0 zr1
   have hX := gX
   have hT := gT
   refine hK.out _ _ ⟨hX.2.1 0 _ rfl, hX.2.1 1 _ rfl, hT.2.1 0 _ rfl, hT.2.1 1 _ rfl⟩ ?_
   clear hK
   try simp only [Act.put, zdX, zdY, zdZ]
   refine Ever.one (i := 3) (by kernel_rfl) rfl (fun J9 hK => ?_)
   have yr0 := gC.2.1 0 _ rfl; have yr1 := gC.2.1 1 _ rfl; have zr0 := gC.2.2 0; have zr1 := gC.2.2 1
   go_simp
   generalize (v9.setCell ⟨w.heap.size, 0, none⟩ (.slice sa K.sig.syms.length sc)).setCell ⟨w.heap.size, 1, none⟩ (.slice la K.levels.length lc) = w9 at *
   have gC2 := gC.puts [.slice xa P.sig.syms.length xc, .slice xl P.levels.length xm] rfl
   have gA2 := gA.sets_other (b := w.heap.size + 1) (by omega) (ze 0 [.slice xa P.sig.syms.length xc, .slice xl P.levels.length xm])
   have gX2 := gX.sets_other (b := w.heap.size + 1) (by omega) (ze 0 [.slice xa P.sig.syms.length xc, .slice xl P.levels.length xm])
   have gT2 := gT.sets_other (b := w.heap.size + 1) (by omega) (ze 0 [.slice xa P.sig.syms.length xc, .slice xl P.levels.length xm])
   have hBE2 := zO (b := w.heap.size + 1) (by omega) (ze 0 [.slice xa P.sig.syms.length xc, .slice xl P.levels.length xm]) hBE
   have hK2 := hK1.sets (b := w.heap.size + 1) (.inr rfl) (ze 0 [.slice xa P.sig.syms.length xc, .slice xl P.levels.length xm])
   simp only [zo, ze] at gC2 gA2 gX2 gT2 hBE2 hK2
   clear hX hT yr0 yr1 zr0 zr1
   have hX := gX2
   have hT := gT2
   refine hK.out _ _ ⟨hX.2.1 0 _ rfl, hX.2.1 1 _ rfl, hT.2.1 0 _ rfl, hT.2.1 1 _ rfl⟩ ?_
   clear hK
   try simp only [Act.put, zdX, zdY, zdZ]
   refine Ever.done (by kernel_rfl) ?_ _
   have r0 := gA2.2.1 0 _ rfl
   have r1 := gA2.2.1 1 _ rfl
   have r2 := gC2.2.1 0 _ rfl
   have r3 := gC2.2.1 1 _ rfl
   have hrk2 := hrk.same2 hK2 (fun b hb => by have := hkf b hb; omega)
   have hrx2 := hrx.same2 hK2 (fun b hb => by have := hxf b hb; omega)
   clear gC2 gA2 gC gA gX gX2 gT gT2 hT hX hF9 hBE hK1 hK2 hrk hrx
   go_wp2_with fail
   refine bodyPost_ret (v := .tuple #[.agg #[.slice sa K.sig.syms.length sc, .slice la K.levels.length lc], .agg #[.slice xa P.sig.syms.length xc, .slice xl P.levels.length xm]]) (by simp [results, Try.results4, go_sem, r0, r1, r2, r3]) rfl ?_
   exact ⟨⟨K, P, _, _, _, _, _, _, _, _, _, _, by have := HF.out.2; omega, hwP, rfl, hrk2, hrx2⟩, hBE2⟩
  ·have d2 : ((d : Int) == 1) = false := by simpa using (by omega : ¬ ((d : Int) = 1))
   have hbd := zm u
   replace hA := hA.below hbd
   replace hC := hC.below hbd
   replace hX := hX.below hbd
   replace hrk := hrk.below hbd
   replace hRd := hRd.below hbd
   replace hBW := hBW.trans (hbd.mono (by have := hBW.size; omega))
   clear hbd hrl
   go_upto_region 10 with fail
   refine Ever.start (F := (fun U : World => U.cell? ⟨KB, 0, none⟩ = some (.slice sa K.sig.syms.length sc) ∧ U.cell? ⟨KB, 1, none⟩ = some (.slice la K.levels.length lc))) (by kernel_rfl) ?_
   generalize u.drew = y0 at *
   have hF9 : (fun U : World => U.cell? ⟨KB, 0, none⟩ = some (.slice sa K.sig.syms.length sc) ∧ U.cell? ⟨KB, 1, none⟩ = some (.slice la K.levels.length lc)) _ := ⟨hX.2.1 0 _ rfl, hX.2.1 1 _ rfl⟩
   refine Ever.take (i := 0) (v := (.agg #[.slice sa K.sig.syms.length sc, .slice la K.levels.length lc])) rfl (by kernel_rfl) (by kernel_rfl) (by kernel_rfl) (fun _ _ _ h => h) (Or.inl ⟨by rfl, fun U hU => ?_⟩) hF9 ?_
   ·obtain ⟨u0F, u1F⟩ := hU
    go_simp
   try simp only [Act.put, zdX, zdY, zdZ]
   refine Ever.take (i := 1) (v := (.pointer (some ⟨rb, 0, none⟩))) rfl (by kernel_rfl) (by kernel_rfl) (by kernel_rfl) (fun _ _ _ h => h) (Or.inl ⟨by rfl, fun U hU => ?_⟩) hF9 ?_
   ·obtain ⟨u0F, u1F⟩ := hU
    go_simp
   try simp only [Act.put, zdX, zdY, zdZ]
   refine Ever.take (i := 2) (v := (.pointer (some ⟨rb, 0, none⟩))) rfl (by kernel_rfl) (by kernel_rfl) (by kernel_rfl) (fun _ _ _ h => h) (Or.inl ⟨by rfl, fun U hU => ?_⟩) hF9 ?_
   ·obtain ⟨u0F, u1F⟩ := hU
    go_simp
   try simp only [Act.put, zdX, zdY, zdZ]
   refine Ever.take (i := 3) (v := (.agg #[.slice sa K.sig.syms.length sc, .slice la K.levels.length lc])) rfl (by kernel_rfl) (by kernel_rfl) (by kernel_rfl) (fun _ _ _ h => h) (Or.inl ⟨by rfl, fun U hU => ?_⟩) hF9 ?_
   ·obtain ⟨u0F, u1F⟩ := hU
    go_simp
   try simp only [Act.put, zdX, zdY, zdZ]
   refine Ever.one (i := 4) (by kernel_rfl) rfl (fun J9 hK => ?_)
   go_simp
   go_wp2_with (go_at_call 13; refine (zb2 5 2 451000 K _ kf rb (0 + 2000 + 1) _ (by omega) (by omega) (by omega) HF.out (by omega) (by exact hrk) (fun h => by have := hkf _ h; omega) hRd).mono ?_; rintro e y1 ⟨⟨Q, qa, qc, ql, qm, qf, hfit, rfl, hrq, hqf⟩, hR3, ho3⟩)
   have HQ := Lib.hid hfit
   have hqf' : ∀ b ∈ qf, rb < b := fun b hb => by have := hqf b hb; have := hX.1; omega
   replace hA := hA.only ho3 (by omega)
   replace hC := hC.only ho3 (by omega)
   replace hX := hX.only ho3 (by omega)
   replace hrk := hrk.only ho3 (fun h => by have := hkf _ h; omega)
   replace hBW := hBW.trans (ho3.toBelow (B := w.heap.size) (by have := hBW.size; omega) (fun b hb => by simp at hb; omega))
   clear ho3 hRd hfit hqf
   replace hF9 : (fun U : World => U.cell? ⟨KB, 0, none⟩ = some (.slice sa K.sig.syms.length sc) ∧ U.cell? ⟨KB, 1, none⟩ = some (.slice la K.levels.length lc)) _ := ⟨hX.2.1 0 _ rfl, hX.2.1 1 _ rfl⟩
   refine hK.out _ _ hF9 ?_
   clear hK
   try simp only [Act.put, zdX, zdY, zdZ]
   refine Ever.one (i := 5) (by kernel_rfl) rfl (fun J9 hK => ?_)
   go_simp
   go_wp2_with (go_at_call 13; refine (zb2 (5 + 16) (2 + 2) (451000 + 3000) Q _ qf rb (0 + 2000 + 1 + 50) _ (by omega) (by omega) (by omega) HQ.out (by omega) (by exact hrq) (fun h => by have := hqf' _ h; omega) hR3).mono ?_; rintro e y2 ⟨⟨P, xa, xc, xl, xm, xf, hfit, rfl, hrx, hxf0⟩, hR4, ho4⟩)
   have hwP : wtV P.cd ≤ 460000 := by have := hfit.2; omega
   have hxf : ∀ b ∈ xf, rb < b := fun b hb => by have := hxf0 b hb; have := hX.1; omega
   replace hA := hA.only ho4 (by omega)
   replace hC := hC.only ho4 (by omega)
   replace hX := hX.only ho4 (by omega)
   replace hrk := hrk.only ho4 (fun h => by have := hkf _ h; omega)
   replace hBW := hBW.trans (ho4.toBelow (B := w.heap.size) (by have := hBW.size; omega) (fun b hb => by simp at hb; omega))
   clear ho4 hR3 hR4 hfit hxf0 hrq
   replace hF9 : (fun U : World => U.cell? ⟨KB, 0, none⟩ = some (.slice sa K.sig.syms.length sc) ∧ U.cell? ⟨KB, 1, none⟩ = some (.slice la K.levels.length lc)) _ := ⟨hX.2.1 0 _ rfl, hX.2.1 1 _ rfl⟩
   refine hK.out _ _ hF9 ?_
   clear hK
   try simp only [Act.put, zdX, zdY, zdZ]
   refine Ever.one (i := 6) (by kernel_rfl) rfl (fun J9 hK => ?_)
   have yr0 := hA.2.1 0 _ rfl; have yr1 := hA.2.1 1 _ rfl; have zr0 := hA.2.2 0; have zr1 := hA.2.2 1
   go_simp
   have gA := hA.puts [.slice sa K.sig.syms.length sc, .slice la K.levels.length lc] rfl
   have gC := hC.sets_other (b := w.heap.size) (by omega) (ze 0 [.slice sa K.sig.syms.length sc, .slice la K.levels.length lc])
   have gX := hX.sets_other (b := w.heap.size) (by omega) (ze 0 [.slice sa K.sig.syms.length sc, .slice la K.levels.length lc])
   have hBE := zO (b := w.heap.size) (Nat.le_refl _) (ze 0 [.slice sa K.sig.syms.length sc, .slice la K.levels.length lc]) hBW
   have hK1 := (Same2.refl w.heap.size (w.heap.size + 1) y2).sets (b := w.heap.size) (.inl rfl) (ze 0 [.slice sa K.sig.syms.length sc, .slice la K.levels.length lc])
   simp only [zo, ze] at gA gC gX hBE hK1
   clear hA hC hX hBW yr0 yr1 zr0 zr1
   have hX := gX
   refine hK.out _ _ ⟨hX.2.1 0 _ rfl, hX.2.1 1 _ rfl⟩ ?_
   clear hK
   try simp only [Act.put, zdX, zdY, zdZ]
   refine Ever.one (i := 7) (by kernel_rfl) rfl (fun J9 hK => ?_)
   have yr0 := gC.2.1 0 _ rfl; have yr1 := gC.2.1 1 _ rfl; have zr0 := gC.2.2 0; have zr1 := gC.2.2 1
   go_simp
   generalize (y2.setCell ⟨w.heap.size, 0, none⟩ (.slice sa K.sig.syms.length sc)).setCell ⟨w.heap.size, 1, none⟩ (.slice la K.levels.length lc) = w9 at *
   have gC2 := gC.puts [.slice xa P.sig.syms.length xc, .slice xl P.levels.length xm] rfl
   have gA2 := gA.sets_other (b := w.heap.size + 1) (by omega) (ze 0 [.slice xa P.sig.syms.length xc, .slice xl P.levels.length xm])
   have gX2 := gX.sets_other (b := w.heap.size + 1) (by omega) (ze 0 [.slice xa P.sig.syms.length xc, .slice xl P.levels.length xm])
   have hBE2 := zO (b := w.heap.size + 1) (by omega) (ze 0 [.slice xa P.sig.syms.length xc, .slice xl P.levels.length xm]) hBE
   have hK2 := hK1.sets (b := w.heap.size + 1) (.inr rfl) (ze 0 [.slice xa P.sig.syms.length xc, .slice xl P.levels.length xm])
   simp only [zo, ze] at gC2 gA2 gX2 hBE2 hK2
   clear hX yr0 yr1 zr0 zr1
   have hX := gX2
   refine hK.out _ _ ⟨hX.2.1 0 _ rfl, hX.2.1 1 _ rfl⟩ ?_
   clear hK
   try simp only [Act.put, zdX, zdY, zdZ]
   refine Ever.done (by kernel_rfl) ?_ _
   have r0 := gA2.2.1 0 _ rfl
   have r1 := gA2.2.1 1 _ rfl
   have r2 := gC2.2.1 0 _ rfl
   have r3 := gC2.2.1 1 _ rfl
   have hrk2 := hrk.same2 hK2 (fun b hb => by have := hkf b hb; omega)
   have hrx2 := hrx.same2 hK2 (fun b hb => by have := hxf b hb; omega)
   clear gC2 gA2 gC gA gX gX2 hX hF9 hBE hK1 hK2 hrk hrx
   go_wp2_with fail
   refine bodyPost_ret (v := .tuple #[.agg #[.slice sa K.sig.syms.length sc, .slice la K.levels.length lc], .agg #[.slice xa P.sig.syms.length xc, .slice xl P.levels.length xm]]) (by simp [results, Try.results4, go_sem, r0, r1, r2, r3]) rfl ?_
   exact ⟨⟨K, P, _, _, _, _, _, _, _, _, _, _, by have := HF.out.2; omega, hwP, rfl, hrk2, hrx2⟩, hBE2⟩
end Go.Proofs.Yticlgpkjdmcnaaa
end
