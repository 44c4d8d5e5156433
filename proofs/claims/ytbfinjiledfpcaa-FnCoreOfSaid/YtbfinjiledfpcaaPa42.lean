/- Parts of the proof: RdrM. -/
import Derived.Test.YtbfinjiledfpcaaPa41
section
namespace Go.Proofs.Ytbfinjiledfpcaa
open Go Go.RowKit
set_option linter.unusedVariables false
set_option linter.unusedSimpArgs false
set_option maxRecDepth 100000
set_option maxHeartbeats 16000000
/-- Forms none of which is large, nor all together. -/
def zdq (fs : List Fm) (n : Nat) : Prop := (∀ x ∈ fs, wtV x.cd ≤ 160000) ∧ wtR (fs.map Fm.cd) ≤ n
/-- Words and some forms that are drawn. -/
def DrawnSL (w : World) (e : Ending) (w' : World) : Prop := ∃ (s : Sg) (fs : List Fm) (a0 : Option Addr) (c0 : Nat) (v : Value) (sf fp : List Nat), (s.Y.length ≤ 21 ∧ ∀ x ∈ s.Y, x.args.length ≤ 4) ∧ fs.length ≤ 7 ∧ zdq fs 700000 ∧
 e = .returned (.tuple #[.agg #[.slice a0 s.Y.length c0], v]) ∧ RdVs w' s.cd [.slice a0 s.Y.length c0] sf ∧ Own w' w.heap.size 37 12 v (fs.map Fm.cd) fp ∧ (∀ b, v.ownBlock = some b → b ∉ sf) ∧ (∀ b ∈ sf, w.heap.size ≤ b) ∧ ∀ b ∈ fp, w.heap.size ≤ b
def slLen9 : Value → Nat
 | .slice _ n _ => n
 | _ => 0
theorem zcE (rb p : Nat) (w : World) (hp : p + 3000 ≤ 1000000000) (hr : Rdr w rb p) :
  Calls Try.prog 32 #[.pointer (some ⟨rb, 0, none⟩)] w fun e w' => DrawnSL w e w' ∧ Rdr w' rb (p + 3000) ∧ Only [rb] w w' := by
 have hlt := hr.lt; have hA := Box.new w [.slice none 0 0] 41; have hbn := za w (.cells #[.slice none 0 0] 41); go_enter Try.func32, Try.ntmps32; go_upto_region 1 with fail; generalize w.alloc (.cells #[.slice none 0 0] 41) = W0 at *; have hN : Only [rb] w W0 := Only.below hbn; have hr0 := hr.below hbn; clear hbn hr; go_wp2_with fail; refine (zbM rb p _ (by omega) hr0).mono ?_; rintro e w1 ⟨⟨s, vs, sf, ⟨hfew, hnice⟩, rfl, hrs, hsf⟩, hr1, ho1⟩; obtain ⟨a0, c0, _, rfl, rfl, m0⟩ := Sg.open hrs; have hzA := hA.1
 have hnr : rb ∉ sf := fun h => by have := hsf _ h; omega
 have hsg : ∀ b ∈ sf, w.heap.size < b := fun b hb => by have := hsf b hb; omega
 have hsl := hrs.lt; have hz1 := ho1.size; replace hA := hA.only ho1 (by omega); replace hN := hN.trans ho1; clear hr0 ho1 m0; obtain ⟨S, hS⟩ : ∃ S, S = w1.heap.size := ⟨_, rfl⟩
 have hSz : w.heap.size < S := by omega
 have hX := Box.new w1 [.slice a0 s.Y.length c0] 41; rw [← hS] at hX
 replace hsl : ∀ b ∈ sf, b < S := fun b hb => by rw [hS]; exact hsl b hb
 go_upto_region 2 with fail; rw [← hS]; have hba := za w1 (.cells #[.slice a0 s.Y.length c0] 41); replace hA := hA.below hba; replace hN := hN.trans (Only.below hba); replace hr1 := hr1.below hba; replace hrs := hrs.below hba; clear hba hS hzA hz1; generalize w1.alloc (.cells #[.slice a0 s.Y.length c0] 41) = w2 at *; have x0 := hX.2.1 0 _ rfl; go_wp2_with fail; refine (zbe s _ sf rb (p + 1) _ (by omega) hfew hnice (by exact hrs) hnr hr1).mono ?_; rintro e w3 ⟨⟨l, lv, lf, ⟨hl1, hl6, hlx⟩, rfl, hrl, hlg0⟩, hRd, ho3⟩; have hXz := hX.1
 have hlg : ∀ b ∈ lf, w.heap.size < b ∧ b ≠ S := fun b hb => by have := hlg0 b hb; omega
 have hnl : rb ∉ lf := fun h => by have := hlg _ h; omega
 have HL := zdH hlx; have hz3 := ho3.size; replace hA := hA.only ho3 (by omega); replace hX := hX.only ho3 (by omega); replace hN := hN.trans ho3; replace hrs := hrs.only ho3 hnr; clear hr1 ho3 hlx hlg0 x0; obtain ⟨E, hE⟩ : ∃ E, E = w3.heap.size := ⟨_, rfl⟩; have hO := Own.empty w3 E 37 12 (by omega)
 have hSE : S < E := by omega
 have hlE : ∀ b ∈ lf, b < E := fun b hb => by rw [hE]; exact hrl.lt _ b hb
 have hsE : ∀ b ∈ sf, b < E := fun b hb => by have := hsl b hb; omega
 go_upto_region 4 with fail; have hba := za w3 (.cells #[] 37); replace hA := hA.below hba; replace hX := hX.below hba; replace hN := hN.trans (Only.below hba); replace hrs := hrs.below hba; replace hrl := hrl.below hba; replace hRd := hRd.below hba
 have hzE : E + 1 ≤ (w3.alloc (.cells #[] 37)).heap.size := by rw [zdM]; omega
 clear hba hz3; rw [← hE] at hO ⊢; clear hE; generalize w3.alloc (.cells #[] 37) = w4 at *; go_wp2_with fail; refine (zap 5 [2, 3, 1, 4, 0] [.int .i64 2, .int .i64 3, .int .i64 1, .int .i64 4, .int .i64 0] rfl rfl rb (p + 1 + 600) _ _ (by omega) (by simp) (by simp) (by exact Lst.new hRd.lt _ _) (hRd.below (za _ _))).mono ?_; rintro e w5 ⟨⟨n0, hn0, rfl⟩, hRn, ho⟩; obtain ⟨n, rfl, hn4⟩ : ∃ n : Nat, n0 = (n : Int) ∧ n ≤ 4 := ⟨n0.toNat, by simp at hn0; omega, by simp at hn0; omega⟩; have hbn := za w4 (.cells #[.int .i64 2, .int .i64 3, .int .i64 1, .int .i64 4, .int .i64 0] 3); have hz5 := ho.size; rw [zdM] at hz5; replace hO := (hO.below hbn).only ho (by omega) (by simp); replace hX := (hX.below hbn).only ho (by omega); replace hA := (hA.below hbn).only ho (by omega); replace hrs := (hrs.below hbn).only ho hnr; replace hrl := (hrl.below hbn).only ho hnl; replace hN := (hN.trans (Only.below hbn)).trans ho; clear hRd hbn ho hn0; go_wp2_with fail
 go_loopw [6, 7] (fun ov iv wr => ∃ (k : Nat) (fs : List Fm) (fp : List Nat) (q : Nat), iv = .int .i64 k ∧ k + fs.length ≤ 4 ∧ q + k * 100 ≤ p + 1100 ∧ Own wr E 37 12 ov (fs.map Fm.cd) fp ∧ (∀ b ∈ fp, w.heap.size < b ∧ b ≠ S) ∧ Hid (zdq fs (fs.length * 75030)) ∧ Box [.slice a0 s.Y.length c0] S wr ∧ Box [.slice none 0 0] w.heap.size wr ∧ RdVs wr s.cd [.slice a0 s.Y.length c0] sf ∧ Rd wr (.sl (l.map Atm.cd)) lv lf ∧ Rdr wr rb q ∧ Only [rb] w wr ∧ E + 1 ≤ wr.heap.size) (fun ov iv _ => (intOf iv).toNat)
 case atStart => exact ⟨n, [], [], p + 1 + 600 + 1, rfl, by simp; omega, by omega, hO, by simp, zdH ⟨by simp, by simp [wtR]⟩, hX, hA, hrs, hrl, hRn, hN, by omega⟩
 case round =>
  clear hO hX hA hrs hrl hRn hN hzE hz5; obtain ⟨k, fs, fp, q, rfl, hk, hq, hO, hfp, HW, hX, hA, hrs, hrl, hRd, hN, hzr⟩ := hrel; obtain ⟨oa, on, oc, rfl⟩ := hO.form'
  by_cases hn : (0 : Int) < (k : Int)
  ·go_wp2_with fail
   refine (zap 3 [2, 3, 1] [.int .i64 2, .int .i64 3, .int .i64 1] rfl rfl rb q _ _ (by omega) (by simp) (by simp) (by exact Lst.new hRd.lt _ _) (hRd.below (za _ _))).mono ?_; rintro e w5 ⟨⟨dv, hdv, rfl⟩, hRn, ho⟩
   have hd1 : 1 ≤ dv ∧ dv ≤ 3 := by simp at hdv; omega
   have hbn := za wr (.cells #[.int .i64 2, .int .i64 3, .int .i64 1] 3); have hz5 := ho.size; rw [zdM] at hz5; replace hO := (hO.below hbn).only ho (by omega) (fun h => by have := hfp _ h; omega); replace hX := (hX.below hbn).only ho (by omega); replace hA := (hA.below hbn).only ho (by omega); replace hrs := (hrs.below hbn).only ho hnr; replace hrl := (hrl.below hbn).only ho hnl; replace hN := (hN.trans (Only.below hbn)).trans ho; clear hRd hbn ho hdv; have hRd := hRn; clear hRn; go_wp2_with fail; refine (zbW 4 l _ lf dv rb (q + 1) _ hd1.1 (by omega) (by omega) (by simp only [gcap]; omega) hl1 hl6 HL (by exact hrl) hnl (by exact hRd)).mono ?_; rintro e w6 ⟨⟨f, vf, ff, hwf, rfl, hrf, hff⟩, hRn, ho⟩; obtain ⟨b3, d3, _, b5, d5, _, b6, d6, _, b7, d7, _, b11, d11, _, rfl, -, m0, m1, m2, m3, m4, m5, m6, m7, m8, m9⟩ := Fm.open hrf; clear m0 m1 m2 m3 m4 m5 m6 m7 m8 m9; have hOb := fun b h => (hO.block (b := b) h).2; have hWz := hN.size; have hXw := hX.1
   have hffg : ∀ b ∈ ff, w.heap.size < b ∧ b ≠ S := fun b hm => by
    rcases hff b hm with h | h
    ·exact hlg b h
    ·omega
   have hna : ∀ b ∈ ff, (Value.slice oa on oc).ownBlock ≠ some b := fun b hm e => by
    rcases hff b hm with h | h
    ·have := hlE b h; have := (hO.block e).1; omega
    ·have := hOb b e; omega
   have HWF : wtV f.cd ≤ 75030 := by have h4 : fcap 4 = 75030 := rfl; rw [h4] at hwf; omega
   have hz1 := ho.size; replace hO := hO.only ho (by omega) (fun h => by have := hfp _ h; omega); replace hX := hX.only ho (by omega); replace hA := hA.only ho (by omega); replace hrs := hrs.only ho hnr; replace hrl := hrl.only ho hnl; replace hN := hN.trans ho; clear hRd hOb hff ho hwf; have hRd := hRn; clear hRn; go_wp2_with (at_builtin; refine zp zG rfl _ _ rfl E _ _ _ rfl (by exact hO.below (za _ _)) ⟨w6.heap.size, 0, none⟩ 1 1 [f.cd] (yTl f b3 d3 b5 d5 b6 d6 b7 d7 b11 d11) ff rfl rfl ?rd ?k ?cells ?na ?bytes ?len ?base ?next)
   try (case rd => simpa using hrf.below (za _ _))
   try (case k => simp [Fm.cd_len])
   try (case cells => exact zl _ _ _)
   try (case na => exact hna)
   try (case bytes => simp; omega)
   try (case len => simp; omega)
   case base => first | omega | (rw [zdM]; omega) | (simp; omega)
   case next =>
    intro v' w9 hown9 hg hv' hs9; have hrow : ∀ q, (Value.slice oa on oc).ownBlock = some q → E ≤ q := fun q hq => (hO.block hq).1; have hX9 := (hX.alloc (.cells (yTa f b3 d3 b5 d5 b6 d6 b7 d7 b11 d11) 37)).grownB hg (fun q hq => by have := hrow q hq; omega); have hA9 := (hA.alloc (.cells (yTa f b3 d3 b5 d5 b6 d6 b7 d7 b11 d11) 37)).grownB hg (fun q hq => by have := hrow q hq; omega); have hr9 := (hRd.alloc (.cells (yTa f b3 d3 b5 d5 b6 d6 b7 d7 b11 d11) 37)).grown hg (fun q hq => by have := hrow q hq; omega); have hN9 := (hN.alloc (.cells (yTa f b3 d3 b5 d5 b6 d6 b7 d7 b11 d11) 37)).grown hg (fun q hq => by have := hrow q hq; omega); have hkeep : ∀ b, b < w6.heap.size → b < E → w9.heap[b]? = (w6.alloc (.cells (yTa f b3 d3 b5 d5 b6 d6 b7 d7 b11 d11) 37)).heap[b]? := fun b h1 h2 => hg.block b (by rw [zdM]; omega) (fun e => by have := hrow b e.symm; omega); have hrs9 := (hrs.below (za _ (.cells (yTa f b3 d3 b5 d5 b6 d6 b7 d7 b11 d11) 37))).same _ (fun b hm => hkeep b (hrs.lt _ b hm) (hsE b hm)); have hrl9 := (hrl.below (za _ (.cells (yTa f b3 d3 b5 d5 b6 d6 b7 d7 b11 d11) 37))).same _ (fun b hm => hkeep b (hrl.lt _ b hm) (hlE b hm))
    have hz9 : E + 1 ≤ w9.heap.size := by have := hg.size; rw [zdM] at this; omega
    obtain ⟨oa', on', oc', rfl⟩ := hown9.form'
    have hfp9 : ∀ b ∈ fp ++ ff, w.heap.size < b ∧ b ≠ S := fun b hm => by
     rcases zdA.1 hm with h | h
     ·exact hfp b h
     ·exact hffg b h
    obtain ⟨fs', hfs⟩ : ∃ fs', fs' = fs ++ [f] := ⟨_, rfl⟩
    have hl9 : fs'.length = fs.length + 1 := by rw [hfs]; simp
    have hO9 : Own w9 E 37 12 (.slice oa' on' oc') (fs'.map Fm.cd) (fp ++ ff) := by rw [hfs, zdD]; exact hown9
    have HW9 : Hid (zdq fs' (fs'.length * 75030)) := zdH ⟨fun x hx => by
     rw [hfs] at hx
     rcases zdA.1 hx with h | h
     ·exact HW.out.1 x h
     ·rw [List.mem_singleton.1 h]; exact zdS HWF (by omega), by
     have h1 := HW.out.2
     have h2 : wtR (fs'.map Fm.cd) = wtR (fs.map Fm.cd) + wtV f.cd := by rw [hfs, zdD, zP]; simp [wtR]
     omega⟩
    have HL9 := zdH hl9
    have hle9 : fs'.length ≤ fs.length + 1 := by omega
    have hge9 : fs.length + 1 ≤ fs'.length := by omega
    clear hl9 hfs hX hA hRd hN hkeep hrs hrl hown9 hg hv' hs9 hrow hO; go_wp2_with fail; go_roundw
    case rel => exact ⟨k - 1, fs', fp ++ ff, q + 62, by go_num, by omega, by omega, hO9, hfp9, HW9, hX9, hA9, hrs9, hrl9, hr9.mono (by simp only [gcap]; omega), hN9, hz9⟩
    case measure => simp [intOf]; omega
  ·obtain rfl : k = 0 := by omega
   go_wp2_with fail; refine (zz rb q 48 _ (by omega) (by omega) (by omega) hRd).mono ?_; rintro e w5 ⟨⟨d, hd, rfl⟩, hRn, ho⟩; have hz5 := ho.size; replace hO := hO.only ho (by omega) (fun h => by have := hfp _ h; omega); replace hX := hX.only ho (by omega); replace hA := hA.only ho (by omega); replace hrs := hrs.only ho hnr; replace hrl := hrl.only ho hnl; replace hN := hN.trans ho; clear hRd ho hd; have hRd := hRn; clear hRn
   by_cases nd0 : d = 0
   ·subst nd0
    go_wp2_with fail; refine (zdp rb (q + 1) _ (by omega) (by exact hRd)).mono ?_; rintro e w5 ⟨⟨s2, f, a2, c2, b3, d3, b5, d5, b6, d6, b7, d7, b11, d11, sf2, ff, _, HWF, rfl, _, hrf, _, hff⟩, hRn, ho⟩; have hOb := fun b h => (hO.block (b := b) h).2; have hWz := hN.size
    have hna : ∀ b ∈ ff, (Value.slice oa on oc).ownBlock ≠ some b := fun b hm e => by have := hff b hm; have := hOb b e; omega
    have hXw := hX.1
    have hffg : ∀ b ∈ ff, w.heap.size < b ∧ b ≠ S := fun b hm => by have := hff b hm; omega
    have hz1 := ho.size; replace hO := hO.only ho (by omega) (fun h => by have := hfp _ h; omega); replace hX := hX.only ho (by omega); replace hA := hA.only ho (by omega); replace hrs := hrs.only ho hnr; replace hrl := hrl.only ho hnl; replace hN := hN.trans ho; clear hRd hOb hff ho; have hRd := hRn; clear hRn; go_upto_region 11 with fail; have hq0 := zj (w5.alloc (.cells #[.slice a2 s2.Y.length c2] 41)) (yTl f b3 d3 b5 d5 b6 d6 b7 d7 b11 d11) 37; rw [zdM] at hq0; have hba : Below w5.heap.size w5 ((w5.alloc (.cells #[.slice a2 s2.Y.length c2] 41)).alloc (.cells (yTa f b3 d3 b5 d5 b6 d6 b7 d7 b11 d11) 37)) := ((zdT _ _).alloc (zdI _) _).alloc (by simp) _; replace hO := hO.below hba; replace hX := hX.below hba; replace hA := hA.below hba; replace hrs := hrs.below hba; replace hrl := hrl.below hba; replace hRd := hRd.below hba; replace hN := hN.trans (Only.below hba); replace hrf := hrf.below hba; have hz6 := hba.size; clear hba; generalize (w5.alloc (.cells #[.slice a2 s2.Y.length c2] 41)).alloc (.cells (yTa f b3 d3 b5 d5 b6 d6 b7 d7 b11 d11) 37) = w6 at *; obtain ⟨q0, q1, q2, q3, q4, q5, q6, q7, q8, q9, q10, q11⟩ := yR12 hq0 rfl; go_wp2_with (at_builtin; refine zp zG rfl _ _ rfl E _ _ _ rfl (by exact hO.below (za _ _)) ⟨w6.heap.size, 0, none⟩ 1 1 [f.cd] (yTl f b3 d3 b5 d5 b6 d6 b7 d7 b11 d11) ff rfl rfl ?rd ?k ?cells ?na ?bytes ?len ?base ?next)
    try (case rd => simpa using hrf.below (za _ _))
    try (case k => simp [Fm.cd_len])
    try (case cells => exact zl _ _ _)
    try (case na => exact hna)
    try (case bytes => simp; omega)
    try (case len => simp; omega)
    case base => first | omega | (rw [zdM]; omega) | (simp; omega)
    case next =>
     intro v' w9 hown9 hg hv' hs9; have hrow : ∀ q, (Value.slice oa on oc).ownBlock = some q → E ≤ q := fun q hq => (hO.block hq).1; have hX9 := (hX.alloc (.cells (yTa f b3 d3 b5 d5 b6 d6 b7 d7 b11 d11) 37)).grownB hg (fun q hq => by have := hrow q hq; omega); have hA9 := (hA.alloc (.cells (yTa f b3 d3 b5 d5 b6 d6 b7 d7 b11 d11) 37)).grownB hg (fun q hq => by have := hrow q hq; omega); have hr9 := (hRd.alloc (.cells (yTa f b3 d3 b5 d5 b6 d6 b7 d7 b11 d11) 37)).grown hg (fun q hq => by have := hrow q hq; omega); have hN9 := (hN.alloc (.cells (yTa f b3 d3 b5 d5 b6 d6 b7 d7 b11 d11) 37)).grown hg (fun q hq => by have := hrow q hq; omega); have hkeep : ∀ b, b < w6.heap.size → b < E → w9.heap[b]? = (w6.alloc (.cells (yTa f b3 d3 b5 d5 b6 d6 b7 d7 b11 d11) 37)).heap[b]? := fun b h1 h2 => hg.block b (by rw [zdM]; omega) (fun e => by have := hrow b e.symm; omega); have hrs9 := (hrs.below (za _ (.cells (yTa f b3 d3 b5 d5 b6 d6 b7 d7 b11 d11) 37))).same _ (fun b hm => hkeep b (hrs.lt _ b hm) (hsE b hm)); have hrl9 := (hrl.below (za _ (.cells (yTa f b3 d3 b5 d5 b6 d6 b7 d7 b11 d11) 37))).same _ (fun b hm => hkeep b (hrl.lt _ b hm) (hlE b hm))
     have hz9 : E + 1 ≤ w9.heap.size := by have := hg.size; rw [zdM] at this; omega
     obtain ⟨oa', on', oc', rfl⟩ := hown9.form'
     have hfp9 : ∀ b ∈ fp ++ ff, w.heap.size < b ∧ b ≠ S := fun b hm => by
      rcases zdA.1 hm with h | h
      ·exact hfp b h
      ·exact hffg b h
     obtain ⟨fs', hfs⟩ : ∃ fs', fs' = fs ++ [f] := ⟨_, rfl⟩
     have hl9 : fs'.length = fs.length + 1 := by rw [hfs]; simp
     have hO9 : Own w9 E 37 12 (.slice oa' on' oc') (fs'.map Fm.cd) (fp ++ ff) := by rw [hfs, zdD]; exact hown9
     have HW9 : Hid (zdq fs' (fs.length * 75030 + 160000)) := zdH ⟨fun x hx => by
      rw [hfs] at hx
      rcases zdA.1 hx with h | h
      ·exact HW.out.1 x h
      ·rw [List.mem_singleton.1 h]; exact zdS HWF (by omega), by
      have h1 := HW.out.2
      have h2 : wtR (fs'.map Fm.cd) = wtR (fs.map Fm.cd) + wtV f.cd := by rw [hfs, zdD, zP]; simp [wtR]
      omega⟩
     have HL9 := zdH hl9
     have hle9 : fs'.length ≤ fs.length + 1 := by omega
     have hge9 : fs.length + 1 ≤ fs'.length := by omega
     clear hl9 hfs hX hA hRd hN hkeep hrs hrl hown9 hg hv' hs9 hrow hO; go_upto_region 17 with fail
     have hln : fs'.length ≤ 7 := by omega
     have hX := hX9; have hA := hA9; have hRd := hr9; have hN := hN9; have hrs := hrs9; have hO := hO9; have HW := HW9; have hfp := hfp9; clear hX9 hA9 hr9 hN9 hrs9 hO9 HW9 hfp9; have x0 := hX.2.1 0 _ rfl; have y0 := hA.2.1 0 _ rfl; have yf := hA.2.2 0; have g1 := hA.put (k := 0) (by simp) (.slice a0 s.Y.length c0); have hK := (Same2.refl w.heap.size w.heap.size w9).sets (b := w.heap.size) (.inl rfl) [(0, .slice a0 s.Y.length c0)]; have hO5 := Only.setsR (b := w.heap.size) (zdI _) [(0, .slice a0 s.Y.length c0)] hN; have hR9 := Rdr.sets (b := w.heap.size) (by omega) [(0, .slice a0 s.Y.length c0)] hRd; have hOw := hO.set_ne (b := w.heap.size) (j := 0) (u := .slice a0 s.Y.length c0) (fun h => by have := hfp _ h; omega) (fun e => by have := (hO.block e).1; omega); simp only [zg] at hK hO5 hR9; have r0 := g1.2.1 0 _ rfl; have HLN := zdH hln; have hse5 : ∀ b, (Value.slice oa' on' oc').ownBlock = some b → b ∉ sf := (fun b e h => by have := (hOw.block e).1; have := hsE b h; omega); have hrs5 := hrs.same2 hK (fun b hm => by have := hsg b hm; omega); have hob5 := hOw.base (base' := w.heap.size) (fun b hb => by have := (hOw.block hb).1; omega); clear g1 hX hA hN hRd hO hln hK hOw hrs; go_wp2_with fail; refine bodyPost_ret (v := .tuple #[.agg #[.slice a0 s.Y.length c0], .slice oa' on' oc']) (by simp [results, Try.results32, go_sem, r0]) rfl ?_; exact ⟨⟨s, fs', _, _, _, _, (fp ++ ff), ⟨by have := hfew.1; omega, fun x hx => by have := hfew.2 x hx; omega⟩, HLN.out, ⟨HW.out.1, by have := HW.out.2; have := HLN.out; omega⟩, rfl, hrs5, hob5, hse5, fun b hm => by have := hsg b hm; omega, fun b hm => by have := hfp b hm; omega⟩, hR9.mono (by (try simp only [gcap]); omega), hO5⟩
   have e0 : ((d : Int) == 0) = false := by simpa using (by omega : ¬ ((d : Int) = 0))
   by_cases nd1 : d = 1
   ·subst nd1
    go_wp2_with fail
    go_loopw [6] (fun ov wr => ∃ (fs : List Fm) (fp : List Nat) (q : Nat), fs.length ≤ 6 ∧ q + (6 - fs.length) * 60 ≤ p + 2000 ∧ Own wr E 37 12 ov (fs.map Fm.cd) fp ∧ (∀ b ∈ fp, w.heap.size < b ∧ b ≠ S) ∧ Hid (zdq fs (fs.length * 75030)) ∧ Box [.slice a0 s.Y.length c0] S wr ∧ Box [.slice none 0 0] w.heap.size wr ∧ RdVs wr s.cd [.slice a0 s.Y.length c0] sf ∧ Rd wr (.sl (l.map Atm.cd)) lv lf ∧ Rdr wr rb q ∧ Only [rb] w wr ∧ E + 1 ≤ wr.heap.size) (fun ov _ => 6 - slLen9 ov)
    case atStart => exact ⟨fs, fp, q + 1, by omega, by omega, hO, hfp, HW, hX, hA, hrs, hrl, hRd, hN, by omega⟩
    case round =>
     clear hO hX hA hrs hrl hRd hN hfp HW hq hk hzr; obtain ⟨fs, fp, q, hk, hq, hO, hfp, HW, hX, hA, hrs, hrl, hRd, hN, hzr⟩ := hrel; obtain ⟨oa, on, oc, rfl⟩ := hO.form'; obtain ⟨_, _, hve, _, _⟩ := hO.form; rw [zdF] at hve; simp only [Value.slice.injEq] at hve
     have hon1 : on ≤ fs.length := by rw [hve.2.1]; omega
     have hon2 : fs.length ≤ on := by rw [hve.2.1]; omega
     clear hve
     by_cases h6 : on ≤ 5
     ·have h61 : decide ((on : Int) ≤ 5) = true := decide_eq_true (by omega)
      go_wp2_with fail; refine (zbW 4 l _ lf 1 rb (q) _ (by omega) (by omega) (by omega) (by simp only [gcap]; omega) hl1 hl6 HL (by exact hrl) hnl (by exact hRd)).mono ?_; rintro e w6 ⟨⟨f, vf, ff, hwf, rfl, hrf, hff⟩, hRn, ho⟩; obtain ⟨b3, d3, _, b5, d5, _, b6, d6, _, b7, d7, _, b11, d11, _, rfl, -, m0, m1, m2, m3, m4, m5, m6, m7, m8, m9⟩ := Fm.open hrf; clear m0 m1 m2 m3 m4 m5 m6 m7 m8 m9; have hOb := fun b h => (hO.block (b := b) h).2; have hWz := hN.size; have hXw := hX.1
      have hffg : ∀ b ∈ ff, w.heap.size < b ∧ b ≠ S := fun b hm => by
       rcases hff b hm with h | h
       ·exact hlg b h
       ·omega
      have hna : ∀ b ∈ ff, (Value.slice oa on oc).ownBlock ≠ some b := fun b hm e => by
       rcases hff b hm with h | h
       ·have := hlE b h; have := (hO.block e).1; omega
       ·have := hOb b e; omega
      have HWF : wtV f.cd ≤ 75030 := by have h4 : fcap 4 = 75030 := rfl; rw [h4] at hwf; omega
      have hz1 := ho.size; replace hO := hO.only ho (by omega) (fun h => by have := hfp _ h; omega); replace hX := hX.only ho (by omega); replace hA := hA.only ho (by omega); replace hrs := hrs.only ho hnr; replace hrl := hrl.only ho hnl; replace hN := hN.trans ho; clear hRd hOb hff ho hwf; have hRd := hRn; clear hRn; go_wp2_with (at_builtin; refine zp zG rfl _ _ rfl E _ _ _ rfl (by exact hO.below (za _ _)) ⟨w6.heap.size, 0, none⟩ 1 1 [f.cd] (yTl f b3 d3 b5 d5 b6 d6 b7 d7 b11 d11) ff rfl rfl ?rd ?k ?cells ?na ?bytes ?len ?base ?next)
      try (case rd => simpa using hrf.below (za _ _))
      try (case k => simp [Fm.cd_len])
      try (case cells => exact zl _ _ _)
      try (case na => exact hna)
      try (case bytes => simp; omega)
      try (case len => simp; omega)
      case base => first | omega | (rw [zdM]; omega) | (simp; omega)
      case next =>
       intro v' w9 hown9 hg hv' hs9; have hrow : ∀ q, (Value.slice oa on oc).ownBlock = some q → E ≤ q := fun q hq => (hO.block hq).1; have hX9 := (hX.alloc (.cells (yTa f b3 d3 b5 d5 b6 d6 b7 d7 b11 d11) 37)).grownB hg (fun q hq => by have := hrow q hq; omega); have hA9 := (hA.alloc (.cells (yTa f b3 d3 b5 d5 b6 d6 b7 d7 b11 d11) 37)).grownB hg (fun q hq => by have := hrow q hq; omega); have hr9 := (hRd.alloc (.cells (yTa f b3 d3 b5 d5 b6 d6 b7 d7 b11 d11) 37)).grown hg (fun q hq => by have := hrow q hq; omega); have hN9 := (hN.alloc (.cells (yTa f b3 d3 b5 d5 b6 d6 b7 d7 b11 d11) 37)).grown hg (fun q hq => by have := hrow q hq; omega); have hkeep : ∀ b, b < w6.heap.size → b < E → w9.heap[b]? = (w6.alloc (.cells (yTa f b3 d3 b5 d5 b6 d6 b7 d7 b11 d11) 37)).heap[b]? := fun b h1 h2 => hg.block b (by rw [zdM]; omega) (fun e => by have := hrow b e.symm; omega); have hrs9 := (hrs.below (za _ (.cells (yTa f b3 d3 b5 d5 b6 d6 b7 d7 b11 d11) 37))).same _ (fun b hm => hkeep b (hrs.lt _ b hm) (hsE b hm)); have hrl9 := (hrl.below (za _ (.cells (yTa f b3 d3 b5 d5 b6 d6 b7 d7 b11 d11) 37))).same _ (fun b hm => hkeep b (hrl.lt _ b hm) (hlE b hm))
       have hz9 : E + 1 ≤ w9.heap.size := by have := hg.size; rw [zdM] at this; omega
       obtain ⟨oa', on', oc', rfl⟩ := hown9.form'
       have hfp9 : ∀ b ∈ fp ++ ff, w.heap.size < b ∧ b ≠ S := fun b hm => by
        rcases zdA.1 hm with h | h
        ·exact hfp b h
        ·exact hffg b h
       obtain ⟨fs', hfs⟩ : ∃ fs', fs' = fs ++ [f] := ⟨_, rfl⟩
       have hl9 : fs'.length = fs.length + 1 := by rw [hfs]; simp
       have hO9 : Own w9 E 37 12 (.slice oa' on' oc') (fs'.map Fm.cd) (fp ++ ff) := by rw [hfs, zdD]; exact hown9
       have HW9 : Hid (zdq fs' (fs'.length * 75030)) := zdH ⟨fun x hx => by
        rw [hfs] at hx
        rcases zdA.1 hx with h | h
        ·exact HW.out.1 x h
        ·rw [List.mem_singleton.1 h]; exact zdS HWF (by omega), by
        have h1 := HW.out.2
        have h2 : wtR (fs'.map Fm.cd) = wtR (fs.map Fm.cd) + wtV f.cd := by rw [hfs, zdD, zP]; simp [wtR]
        omega⟩
       have HL9 := zdH hl9
       have hle9 : fs'.length ≤ fs.length + 1 := by omega
       have hge9 : fs.length + 1 ≤ fs'.length := by omega
       clear hl9 hfs hX hA hRd hN hkeep hrs hrl hown9 hg hv' hs9 hrow hO; obtain ⟨_, _, hve9, _, _⟩ := hO9.form; rw [zdF] at hve9; simp only [Value.slice.injEq] at hve9; have hn1 := Nat.le_of_eq hve9.2.1; have hn2 := Nat.le_of_eq hve9.2.1.symm; clear hve9; go_wp2_with fail; go_roundw
       case rel => exact ⟨fs', fp ++ ff, q + 60, by omega, by omega, hO9, hfp9, HW9, hX9, hA9, hrs9, hrl9, hr9.mono (by simp only [gcap]; omega), hN9, hz9⟩
       case measure => simp [slLen9]; omega
     ·have h61 : decide ((on : Int) ≤ 5) = false := decide_eq_false (by omega)
      go_upto_region 17 with fail
      have hln : fs.length ≤ 7 := by omega
      have x0 := hX.2.1 0 _ rfl; have y0 := hA.2.1 0 _ rfl; have yf := hA.2.2 0; have g1 := hA.put (k := 0) (by simp) (.slice a0 s.Y.length c0); have hK := (Same2.refl w.heap.size w.heap.size wr).sets (b := w.heap.size) (.inl rfl) [(0, .slice a0 s.Y.length c0)]; have hO5 := Only.setsR (b := w.heap.size) (zdI _) [(0, .slice a0 s.Y.length c0)] hN; have hR9 := Rdr.sets (b := w.heap.size) (by omega) [(0, .slice a0 s.Y.length c0)] hRd; have hOw := hO.set_ne (b := w.heap.size) (j := 0) (u := .slice a0 s.Y.length c0) (fun h => by have := hfp _ h; omega) (fun e => by have := (hO.block e).1; omega); simp only [zg] at hK hO5 hR9; have r0 := g1.2.1 0 _ rfl; have HLN := zdH hln; have hse5 : ∀ b, (Value.slice oa on oc).ownBlock = some b → b ∉ sf := (fun b e h => by have := (hOw.block e).1; have := hsE b h; omega); have hrs5 := hrs.same2 hK (fun b hm => by have := hsg b hm; omega); have hob5 := hOw.base (base' := w.heap.size) (fun b hb => by have := (hOw.block hb).1; omega); clear g1 hX hA hN hRd hO hln hK hOw hrs; go_wp2_with fail; refine bodyPost_ret (v := .tuple #[.agg #[.slice a0 s.Y.length c0], .slice oa on oc]) (by simp [results, Try.results32, go_sem, r0]) rfl ?_; exact ⟨⟨s, fs, _, _, _, _, fp, ⟨by have := hfew.1; omega, fun x hx => by have := hfew.2 x hx; omega⟩, HLN.out, ⟨HW.out.1, by have := HW.out.2; have := HLN.out; omega⟩, rfl, hrs5, hob5, hse5, fun b hm => by have := hsg b hm; omega, fun b hm => by have := hfp b hm; omega⟩, hR9.mono (by (try simp only [gcap]); omega), hO5⟩
   have e1 : ((d : Int) == 1) = false := by simpa using (by omega : ¬ ((d : Int) = 1))
   by_cases nd2 : d = 2
   ·subst nd2
    have x3 := hX.2.1 0 _ rfl; go_wp2_with fail; refine (zaP 5 2 s _ sf rb (q + 1) _ (by omega) (by omega) (by omega) hfew.1 hfew.2 (by exact hrs) hnr hRd).mono ?_; rintro e u5 ⟨⟨s5, v5, f5, hs5, ha5, rfl, hrd5, hf5⟩, hu5, ho5⟩; obtain ⟨a5', c5', _, rfl, rfl, m5⟩ := Sg.open hrd5; have hz6 := ho5.size; have hNz := hN.size; have hXz := hX.1; go_wp2_with fail; refine (zaP (5 + 8) (2 + 1) s5 _ f5 rb (q + 1 + 20) _ (by omega) (by omega) (by omega) hs5 ha5 (by exact hrd5) (fun h => by have := hf5 _ h; omega) hu5).mono ?_; rintro e w6 ⟨⟨s9, v6, f9, hs1, hs2, rfl, hrd9, hf9⟩, hRd0, ho6⟩; obtain ⟨a9, c9, _, rfl, rfl, m6⟩ := Sg.open hrd9; have ho4 := ho5.trans ho6; have hOz := fun b h => (hO.block (b := b) h).2; have hfz := hO.lt; replace hO := hO.only ho4 (by omega) (fun h => by have := hfp _ h; omega); have hX4 := hX.only ho4 (by omega); replace hA := hA.only ho4 (by omega); have hN4 := hN.trans ho4
    have hsg9 : ∀ b ∈ f9, S < b := fun b hb => by have := hf9 b hb; omega
    have hse9 : ∀ b, (Value.slice oa on oc).ownBlock = some b → b ∉ f9 := fun b e h => by have := hOz b e; have := hf9 b h; omega
    have hsw9 : ∀ b ∈ f9, w.heap.size < b := fun b hb => by have := hsg9 b hb; omega
    clear hRd ho5 ho6 ho4 hrd5 hu5 m5 m6 x3 hN hX hrs; have k0 := hX4.2.1 0 _ rfl; have k1 := hX4.2.2 0; go_upto_region 17 with fail; have hX : Box [.slice a9 s9.Y.length c9] S (w6.setCell ⟨S, 0, none⟩ (.slice a9 s9.Y.length c9)) := hX4.put (k := 0) (by simp) _; replace hA := hA.sets_other (b := S) (by omega) [(0, .slice a9 s9.Y.length c9)]; have hN := Only.setsR (b := S) (by omega) [(0, .slice a9 s9.Y.length c9)] hN4; have hRd := Rdr.sets (b := S) (by omega) [(0, .slice a9 s9.Y.length c9)] hRd0; have hK9 := (Same2.refl S S w6).sets (b := S) (.inl rfl) [(0, .slice a9 s9.Y.length c9)]; have hrs := hrd9.same2 hK9 (fun b hb => by have := hsg9 b hb; omega); replace hO := hO.set_ne (b := S) (j := 0) (u := .slice a9 s9.Y.length c9) (fun h => by have := hfp _ h; omega) (fun e => by have := (hO.block e).1; omega); simp only [zg] at hA hN hRd hrs; clear hX4 hN4 hrd9 hRd0 hK9 k0 k1; generalize w6.setCell ⟨S, 0, none⟩ (.slice a9 s9.Y.length c9) = w7 at *
    have hln : fs.length ≤ 7 := by omega
    have x0 := hX.2.1 0 _ rfl; have y0 := hA.2.1 0 _ rfl; have yf := hA.2.2 0; have g1 := hA.put (k := 0) (by simp) (.slice a9 s9.Y.length c9); have hK := (Same2.refl w.heap.size w.heap.size w7).sets (b := w.heap.size) (.inl rfl) [(0, .slice a9 s9.Y.length c9)]; have hO5 := Only.setsR (b := w.heap.size) (zdI _) [(0, .slice a9 s9.Y.length c9)] hN; have hR9 := Rdr.sets (b := w.heap.size) (by omega) [(0, .slice a9 s9.Y.length c9)] hRd; have hOw := hO.set_ne (b := w.heap.size) (j := 0) (u := .slice a9 s9.Y.length c9) (fun h => by have := hfp _ h; omega) (fun e => by have := (hO.block e).1; omega); simp only [zg] at hK hO5 hR9; have r0 := g1.2.1 0 _ rfl; have HLN := zdH hln; have hse5 : ∀ b, (Value.slice oa on oc).ownBlock = some b → b ∉ f9 := hse9; have hrs5 := hrs.same2 hK (fun b hm => by have := hsw9 b hm; omega); have hob5 := hOw.base (base' := w.heap.size) (fun b hb => by have := (hOw.block hb).1; omega); clear g1 hX hA hN hRd hO hln hK hOw hrs; go_wp2_with fail; refine bodyPost_ret (v := .tuple #[.agg #[.slice a9 s9.Y.length c9], .slice oa on oc]) (by simp [results, Try.results32, go_sem, r0]) rfl ?_; exact ⟨⟨s9, fs, _, _, _, _, fp, ⟨hs1, hs2⟩, HLN.out, ⟨HW.out.1, by have := HW.out.2; have := HLN.out; omega⟩, rfl, hrs5, hob5, hse5, fun b hm => by have := hsw9 b hm; omega, fun b hm => by have := hfp b hm; omega⟩, hR9.mono (by (try simp only [gcap]); omega), hO5⟩
   have e2 : ((d : Int) == 2) = false := by simpa using (by omega : ¬ ((d : Int) = 2))
   go_upto_region 17 with fail
   have hln : fs.length ≤ 7 := by omega
   have x0 := hX.2.1 0 _ rfl; have y0 := hA.2.1 0 _ rfl; have yf := hA.2.2 0; have g1 := hA.put (k := 0) (by simp) (.slice a0 s.Y.length c0); have hK := (Same2.refl w.heap.size w.heap.size w5).sets (b := w.heap.size) (.inl rfl) [(0, .slice a0 s.Y.length c0)]; have hO5 := Only.setsR (b := w.heap.size) (zdI _) [(0, .slice a0 s.Y.length c0)] hN; have hR9 := Rdr.sets (b := w.heap.size) (by omega) [(0, .slice a0 s.Y.length c0)] hRd; have hOw := hO.set_ne (b := w.heap.size) (j := 0) (u := .slice a0 s.Y.length c0) (fun h => by have := hfp _ h; omega) (fun e => by have := (hO.block e).1; omega); simp only [zg] at hK hO5 hR9; have r0 := g1.2.1 0 _ rfl; have HLN := zdH hln; have hse5 : ∀ b, (Value.slice oa on oc).ownBlock = some b → b ∉ sf := (fun b e h => by have := (hOw.block e).1; have := hsE b h; omega); have hrs5 := hrs.same2 hK (fun b hm => by have := hsg b hm; omega); have hob5 := hOw.base (base' := w.heap.size) (fun b hb => by have := (hOw.block hb).1; omega); clear g1 hX hA hN hRd hO hln hK hOw hrs; go_wp2_with fail; refine bodyPost_ret (v := .tuple #[.agg #[.slice a0 s.Y.length c0], .slice oa on oc]) (by simp [results, Try.results32, go_sem, r0]) rfl ?_; exact ⟨⟨s, fs, _, _, _, _, fp, ⟨by have := hfew.1; omega, fun x hx => by have := hfew.2 x hx; omega⟩, HLN.out, ⟨HW.out.1, by have := HW.out.2; have := HLN.out; omega⟩, rfl, hrs5, hob5, hse5, fun b hm => by have := hsg b hm; omega, fun b hm => by have := hfp b hm; omega⟩, hR9.mono (by (try simp only [gcap]); omega), hO5⟩
end Go.Proofs.Ytbfinjiledfpcaa
end
