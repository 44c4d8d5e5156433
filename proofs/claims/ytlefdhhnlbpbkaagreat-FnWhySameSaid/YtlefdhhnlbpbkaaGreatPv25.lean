/- Parts of the proof: RdrB. -/
import Derived.Deep.RegionHeld3
import Derived.Test.YtlefdhhnlbpbkaaGreatPv20
import Derived.Test.YtlefdhhnlbpbkaaGreatPv16
import Derived.Test.YtlefdhhnlbpbkaaGreatPv22
import Derived.Test.YtlefdhhnlbpbkaaGreatPv15
section
namespace Go.Proofs.YtlefdhhnlbpbkaaGreat
open Go Go.RowKit
set_option linter.unusedVariables false
set_option linter.unusedSimpArgs false
set_option maxRecDepth 100000
set_option maxHeartbeats 16000000
theorem Only.grownIn {fp : List Nat} {a w w' : World} {r : Option Nat} (h : Only fp a w) (hg : w.grownBy w' r) (hr : ∀ b, r = some b → b ∈ fp ∨ a.heap.size ≤ b) : Only fp a w' :=
 ⟨hg.os.trans h.os, hg.tape.trans h.tape, hg.output.trans h.output, Nat.le_trans h.size hg.size, fun b hb hn => (hg.block b (zep hb h.size) (fun e => by rcases hr b e.symm with h1 | h1; exact hn h1; omega)).trans (h.block b hb hn)⟩
theorem Only.wide {fp gp : List Nat} {a w : World} (h : Only fp a w) (hs : ∀ b ∈ fp, b ∈ gp) : Only gp a w := ⟨h.os, h.tape, h.output, h.size, fun b hb hn => h.block b hb (fun h1 => hn (hs b h1))⟩
/-- Equations, bent or not: few, small. -/
def BentEqs (B : Nat) (e : Ending) (w' : World) : Prop := ∃ (es : List Eqn) (v : Value) (fp : List Nat), es.length ≤ 13 ∧ (∀ q ∈ es, q.a.size ≤ 45 ∧ q.b.size ≤ 45) ∧ e = .returned v ∧ Rd w' (.sl (es.map Eqn.cd)) v fp ∧ ∀ b ∈ fp, B ≤ b
theorem zbp {w : World} {B : Nat} {v : Value} {es : List Eqn} {fp : List Nat} (h1 : es.length ≤ 13) (h2 : ∀ q ∈ es, q.a.size ≤ 45 ∧ q.b.size ≤ 45) (h : Own w B 36 4 v (es.map Eqn.cd) fp) (hf : ∀ b ∈ fp, B ≤ b) : BentEqs B (.returned v) w := by
 obtain ⟨f', hrw, hff⟩ := h.rd
 refine ⟨es, v, f', h1, h2, rfl, hrw, fun b hb => ?_⟩
 rcases hff with ⟨_, _, rfl⟩ | ⟨b', _, hvb, rfl, _, hBb, _⟩
 ·simp at hb
 ·rcases zev.1 hb with rfl | hb
  ·exact hBb
  ·exact hf b hb
theorem zee (s : Sg) (es : List Eqn) (vs : List Value) (sf : List Nat) (v : Value) (fp : List Nat) (B rb p g : Nat) (w : World) (hp : p + 100 ≤ 1000000000) (hfew : s.few) (hlen : es.length ≤ 5) (hsz : ∀ q ∈ es, q.a.size ≤ 45 ∧ q.b.size ≤ 45) (hrd : RdVs w s.cd vs sf) (hnr : rb ∉ sf) (hr : Rdr w rb p) (hrb : rb < B) (hB : B ≤ w.heap.size)
  (hown : Own w B 36 4 v (es.map Eqn.cd) fp) (hfp : ∀ b ∈ fp, B ≤ b) (hg : ∀ b, v.ownBlock = some b → b = g) :
  Calls Tryz.prog 73 #[.pointer (some ⟨rb, 0, none⟩), .agg vs.toArray, v] w fun e w' => BentEqs B e w' ∧ Rdr w' rb (p + 60) ∧ Only [rb, g] w w' := by
 obtain ⟨a0, c0, f0, rfl, rfl, m0⟩ := Sg.open hrd
 have hlt := hr.lt
 have HSZ := Lib.hid hsz
 have HFP := Lib.hid hfp
 clear hsz hfp
 obtain ⟨oa, oc, rfl, ho1, ho2⟩ := hown.form
 rw [zew] at ho1
 have b0 := zb w (.cells #[.slice a0 s.syms.length c0] 25)
 have x0 : (w.alloc (.cells #[.slice a0 s.syms.length c0] 25)).cell? ⟨w.heap.size, 0, none⟩ = some (.slice a0 s.syms.length c0) := zv w _ _ 0
 go_enter Tryz.func73, Tryz.ntmps73
 go_wp2_with fail
 refine (zE rb p 36 _ (by omega) (by omega) (by omega) (hr.below b0)).mono ?_
 rintro e w1 ⟨⟨m, hm, rfl⟩, hr1, ho1'⟩
 have hN1 : Only [rb] w w1 := (Only.below b0).trans ho1'
 have hz1 := hN1.size
 have x1 := ho1'.cellk x0 (by omega)
 have hown1 := hown.only hN1 hrb (fun h => by have := HFP.out _ h; omega)
 have hrow : ∀ q, (Value.slice oa (es.map Eqn.cd).length oc).ownBlock = some q → q = g ∧ B ≤ q ∧ q < w.heap.size := fun q hq => ⟨hg q hq, hown.block hq⟩
 have hrd1 := hrd.only hN1 hnr
 clear x0 b0 ho1' hown hrd hr
 have hl1 := hr1.lt
 rw [zew] at hown1 hrow
 rw [zew]
 by_cases hm0 : m = 0
 ·subst hm0
  have hsw := World.block_lt_of_cell? _ _ x1
  go_wp2_with fail
  go_region_held3 (fun U => U.cell? ⟨w.heap.size, 0, none⟩ = some (.slice a0 s.syms.length c0))
   (first | exact x1 | exact h2N.cellk x1 (by omega) | exact h3N.cellk x1 (by omega) | exact zz (h3N.cellk x1 (by omega)) | exact zo hg5 (zz (h3N.cellk x1 (by omega))) (fun e => by have := hrow _ e; omega))
   (first
    | (go_at_call 103; (with_reducible refine (zaK s _ _ rb (p + 1) _ (by omega) hfew ?_ hnr ?_).mono ?_); exact hrd1.below (zi _); exact hr1.below (zi _); rintro e w2 ⟨⟨t1, kv1, fo1, hs1, rfl, hnm1, hown2, hfo1⟩, hr2, ho2'⟩; obtain ⟨ka, kc, hkv, hk1, hk2⟩ := hown2.form; rw [zew] at hkv hk1; subst hkv; obtain ⟨fa, hra, hfa, _⟩ := hown2.fresh hfo1; have h2N : Only [rb] w1 w2 := (Only.below (zi w1)).trans ho2'; have hl2 := hr2.lt; have hrd2 := hrd1.only h2N hnr)
    | (go_at_call 103; (with_reducible refine (zaK s _ _ rb (p + 1 + 20) _ (by omega) hfew ?_ hnr ?_).mono ?_); exact hrd2; exact hr2; rintro e w3 ⟨⟨t2, kv2, fo2, hs2, rfl, hnm2, hown3, hfo2⟩, hr3, ho3'⟩; obtain ⟨kb, kd, hkv2, hk3, hk4⟩ := hown3.form; rw [zew] at hkv2 hk3; subst hkv2; obtain ⟨fb, hrb', hfb, _⟩ := hown3.fresh hfo2; have h3M : Only [rb] w2 w3 := ho3'; have h3N := h2N.trans h3M; have hz2 := h2N.size; have hz3 := h3M.size; have hl3 := hr3.lt; have hra3 := hra.only h3M (hfa.notin hl1); have hrv : RdVs w3 (Eqn.mk t1 t2).cd [.string t1.name, .slice ka t1.kids.length kc, .string t2.name, .slice kb t2.kids.length kd] (fa ++ fb) := (Eqn.close (x := ⟨t1, t2⟩) hnm1 hra3 hnm2 hrb'); have hown4 := hown1.only h3N hrb (fun h => by have := HFP.out _ h; omega); have hfab : ∀ b ∈ fa ++ fb, w1.heap.size ≤ b := (fun b hb => by rcases zer.1 hb with h | h; exact (hfa.2 b h).1; have := (hfb.2 b h).1; omega))
    | (refine zN zac rfl _ _ rfl B _ _ _ rfl (by exact hown4.below (zb _ _)) ⟨w3.heap.size, 0, none⟩ 1 1 [(Eqn.mk t1 t2).cd] [.string t1.name, .slice ka t1.kids.length kc, .string t2.name, .slice kb t2.kids.length kd] (fa ++ fb) rfl rfl (by simpa using hrv.below (zb _ _)) (by simp [Eqn.cd_len]) (by exact zn w3 _ _) (fun b hb h => by have h1 := hfab b hb; have h2 := hrow b h; omega) (by simp; omega) (by simp; omega) (by simp; omega) ?_; intro v5 w5 hown5 hg5 hv5 hs5))
  have hz5 := hg5.size
  rw [World.size_alloc] at hz5
  obtain ⟨qa, qn, qc, rfl⟩ := hown5.form'
  go_wp2_with fail
  go_ret
  refine ⟨zbp (es := es ++ [⟨t1, t2⟩]) (by simp; omega) (fun q hq => ?_) (by rw [zeu]; exact hown5) (fun b hb => ?_), ((hr3.alloc _).grown hg5 (fun q hq => by have := hrow q hq; omega)).mono (by omega), ((((hN1.trans h3N).alloc _).wide (by simp)).grownIn hg5 (fun q hq => by have := (hrow q hq).1; subst this; simp))⟩
  ·rcases zer.1 hq with h | h
   ·exact HSZ.out q h
   ·rw [List.mem_singleton.1 h]; exact ⟨hs1, hs2⟩
  ·rcases zer.1 hb with h | h
   ·exact HFP.out b h
   ·have := hfab b h; omega
 have hmb : ((m : Int) == 0) = false := beq_eq_false_iff_ne.2 (by omega)
 by_cases hm1 : m = 1
 ·subst hm1
  go_wp2_with fail
  go_loopw [2] (fun ov wr => ∃ (xs : List Eqn) (fq : List Nat), xs.length ≤ 13 ∧ Own wr B 36 4 ov (xs.map Eqn.cd) fq ∧ Hid (∀ b ∈ fq, B ≤ b) ∧ Hid (∀ q ∈ xs, q.a.size ≤ 45 ∧ q.b.size ≤ 45) ∧ (∀ q, ov.ownBlock = some q → q = g ∨ w.heap.size ≤ q) ∧ Rdr wr rb (p + 1) ∧ Only [rb, g] w wr) (fun ov _ => 14 - slLen ov)
  case atStart => exact ⟨es, fp, by omega, hown1, HFP, HSZ, fun q hq => .inl (hrow q hq).1, hr1, hN1.wide (by simp)⟩
  case round =>
   clear hown1 hrow hr1 hN1 x1 hrd1 hl1
   obtain ⟨xs, fq, hxl, hown, hfq, hsq, hrow, hr1, hN1⟩ := hrel
   have hz1 := hN1.size
   have hl1 := hr1.lt
   obtain ⟨xa, xc, rfl, hx1, hx2⟩ := hown.form
   rw [zew] at hx1 hown hrow
   rw [zew]
   by_cases hx : xs.length ≤ 12
   ·have hxb : decide ((xs.length : Int) ≤ 12) = true := by simp; omega
    have B9 := zb wr (.cells #[.string ⟨#[97]⟩, .slice none 0 0, .string ⟨#[97]⟩, .slice none 0 0] 36)
    have hrv : RdVs wr (Eqn.mk (.mk ⟨#[97]⟩ []) (.mk ⟨#[97]⟩ [])).cd [.string ⟨#[97]⟩, .slice none 0 0, .string ⟨#[97]⟩, .slice none 0 0] ([] ++ []) := Eqn.close (x := ⟨.mk ⟨#[97]⟩ [], .mk ⟨#[97]⟩ []⟩) (by simp only [Tm.name]; decide) (zav none) (by simp only [Tm.name]; decide) (zav none)
    go_wp2_with (at_builtin; refine zp zac rfl _ _ rfl B _ _ _ rfl (by exact hown.below B9) ⟨wr.heap.size, 0, none⟩ 1 1 [(Eqn.mk (.mk ⟨#[97]⟩ []) (.mk ⟨#[97]⟩ [])).cd] [.string ⟨#[97]⟩, .slice none 0 0, .string ⟨#[97]⟩, .slice none 0 0] ([] ++ []) rfl rfl ?rd ?k ?cells ?na ?bytes ?len ?base ?next)
    case rd => simpa using hrv.below B9
    case k => simp [Eqn.cd_len]
    case cells => exact zn wr _ _
    case na => simp
    case bytes => simp; omega
    case len => simp; omega
    case base => simp; omega
    case next =>
     intro v8 w8 hown8 hg8 hv8 hs8
     obtain ⟨qa, qc, rfl, _, _⟩ := hown8.form
     go_wp2_with fail
     go_roundw
     case rel =>
      refine ⟨xs ++ [⟨.mk ⟨#[97]⟩ [], .mk ⟨#[97]⟩ []⟩], fq, by simp; omega, by rw [zeu]; simpa using hown8, Lib.hid fun b hb => ?_, Lib.hid fun q hq => ?_, fun q hq => ?_, (hr1.alloc _).grown hg8 (fun q hq => ?_), ((hN1.trans (Only.below B9)).grownIn hg8 (fun q hq => ?_))⟩
      ·exact hfq.out b hb
      ·rcases zer.1 hq with h | h
       ·exact hsq.out q h
       ·rw [List.mem_singleton.1 h]; simp [Tm.size, Tm.sizes]
      ·rcases hv8 q hq with h | h
       ·exact hrow q h
       ·right; (try rw [World.size_alloc] at h); omega
      ·have := (hown.block hq).1; omega
      ·rcases hrow q hq with h | h
       ·subst h; simp
       ·exact .inr h
     case measure => simp [slLen]; omega
   ·have hxb : decide ((xs.length : Int) ≤ 12) = false := by simp; omega
    go_wp2_with fail
    go_ret
    exact ⟨zbp hxl hsq.out (by simpa using hown) hfq.out, hr1.mono (by omega), hN1⟩
 have hmb1 : ((m : Int) == 1) = false := beq_eq_false_iff_ne.2 (by omega)
 by_cases hm2 : m = 2
 ·subst hm2
  have B9 := zb w1 (.cells #[.string ⟨#[]⟩, .slice none 0 0, .string ⟨#[]⟩, .slice none 0 0] 36)
  have hrv : RdVs w1 (Eqn.mk (.mk ⟨#[]⟩ []) (.mk ⟨#[]⟩ [])).cd [.string ⟨#[]⟩, .slice none 0 0, .string ⟨#[]⟩, .slice none 0 0] ([] ++ []) := Eqn.close (x := ⟨.mk ⟨#[]⟩ [], .mk ⟨#[]⟩ []⟩) (by simp only [Tm.name]; decide) (zav none) (by simp only [Tm.name]; decide) (zav none)
  go_wp2_with (at_builtin; refine zp zac rfl _ _ rfl B _ _ _ rfl (by exact hown1.below B9) ⟨w1.heap.size, 0, none⟩ 1 1 [(Eqn.mk (.mk ⟨#[]⟩ []) (.mk ⟨#[]⟩ [])).cd] [.string ⟨#[]⟩, .slice none 0 0, .string ⟨#[]⟩, .slice none 0 0] ([] ++ []) rfl rfl ?rd ?k ?cells ?na ?bytes ?len ?base ?next)
  case rd => simpa using hrv.below B9
  case k => simp [Eqn.cd_len]
  case cells => exact zn w1 _ _
  case na => simp
  case bytes => simp; omega
  case len => simp; omega
  case base => simp; omega
  case next =>
   intro v8 w8 hown8 hg8 hv8 hs8
   obtain ⟨qa, qn, qc, rfl⟩ := hown8.form'
   go_wp2_with fail
   go_ret
   refine ⟨zbp (es := es ++ [⟨.mk ⟨#[]⟩ [], .mk ⟨#[]⟩ []⟩]) (by simp; omega) (fun q hq => ?_) (by rw [zeu]; exact hown8) (fun b hb => HFP.out b (by simpa using hb)), ((hr1.alloc _).grown hg8 (fun q hq => by have := hrow q hq; omega)).mono (by omega), ((hN1.trans (Only.below B9)).wide (by simp)).grownIn hg8 (fun q hq => by have := (hrow q hq).1; subst this; simp)⟩
   rcases zer.1 hq with h | h
   ·exact HSZ.out q h
   ·rw [List.mem_singleton.1 h]; simp [Tm.size, Tm.sizes]
 have hmb2 : ((m : Int) == 2) = false := beq_eq_false_iff_ne.2 (by omega)
 go_wp2_with fail
 go_ret
 exact ⟨zbp (by omega) HSZ.out (by simpa using hown1) HFP.out, hr1.mono (by omega), hN1.wide (by simp)⟩
end Go.Proofs.YtlefdhhnlbpbkaaGreat
end
