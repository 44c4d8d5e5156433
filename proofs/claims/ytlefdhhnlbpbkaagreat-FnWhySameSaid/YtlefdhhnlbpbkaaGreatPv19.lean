/- Parts of the proof: Rdr4. -/
import Derived.Deep.RegionLaw
import Derived.Test.YtlefdhhnlbpbkaaGreatPv18
import Derived.Test.YtlefdhhnlbpbkaaGreatPv7
import Derived.Test.YtlefdhhnlbpbkaaGreatPv8
section
namespace Go.Proofs.YtlefdhhnlbpbkaaGreat
open Go Go.RowKit
set_option linter.unusedVariables false
set_option linter.unusedSimpArgs false
set_option maxRecDepth 100000
set_option maxHeartbeats 16000000
theorem Only.undrew {w w' : World} {fp : List Nat} (h : Only fp w.drew w') : Only fp w w' := ⟨h.os, h.tape, h.output, h.size, h.block⟩
theorem Only.set_new {w w' : World} {rb b i : Nat} {u : Value} (h : Only [rb] w w') (hb : w.heap.size ≤ b) : Only [rb] w (w'.setCell ⟨b, i, none⟩ u) :=
 ⟨h.os, h.tape, h.output, by simpa [World.setCell] using h.size, fun q hq hn => (Below.heap_setCell _ _ _ _ (by show q ≠ b; omega)).trans (h.block q hq hn)⟩
theorem Rdr.set {w : World} {rb p b i : Nat} {u : Value} (h : Rdr w rb p) (hb : rb < b) : Rdr (w.setCell ⟨b, i, none⟩ u) rb p := h.same (fun q hq => Below.heap_setCell _ _ _ _ (by show q ≠ b; omega))
theorem Only.free {w w' : World} {rb b i : Nat} {f : Bool} (h : Only [rb] w w') (hc : w.frozen? ⟨b, i, none⟩ = f) (hb : b < w.heap.size) (hne : b ≠ rb) : w'.frozen? ⟨b, i, none⟩ = f := zah (h.block b hb (by simpa using hne)) hc
theorem zd5 {wr w2 w4 : World} {o : Obj} {row : Option Nat} {b rb : Nat} (ho : Only [rb] wr w2) (hg : (w2.alloc o).grownBy w4 row) (hl : b < wr.heap.size) (hb : b ≠ rb) (hn : row ≠ some b) : w4.heap[b]? = wr.heap[b]? := by
 have h1 : b < w2.heap.size := zep hl ho.size
 exact ((hg.block b (by simp; omega) (fun e => hn e.symm)).trans ((zb w2 o).block b h1)).trans (ho.block b hl (by simpa using hb))
def pcap : Nat → Nat | 0 => 0 | n + 1 => 1 + 2 * pcap n
/-- A term that was drawn. -/
def zdo (w : World) (cap : Nat) (e : Ending) (w' : World) : Prop := ∃ (t : Tm) (kv : Value) (fp : List Nat), t.size ≤ cap ∧ e = .returned (.agg #[.string t.name, kv]) ∧ t.name.size ≤ maxLen ∧ Own w' w.heap.size 29 2 kv (t.kids.map Tm.cd) fp ∧ Fresh w.heap.size w' fp
theorem Fresh.notin {lo rb : Nat} {w : World} {fp : List Nat} (h : Fresh lo w fp) (hl : rb < lo) : rb ∉ fp := fun hm => by have := (h.2 _ hm).1; omega
theorem Own.set_row {w : World} {base e k : Nat} {v : Value} {es : List (List CD)} {fp : List Nat} (h : Own w base e k v es fp) {b j : Nat} {u : Value} (hb : b < base) (hn : b ∉ fp) : Own (w.setCell ⟨b, j, none⟩ u) base e k v es fp :=
 h.same (zw (fun x hx (e : x = b) => hn (e ▸ hx))) fun x hx => Below.heap_setCell _ _ _ _ (by have := (h.block hx).1; show x ≠ b; omega)
theorem l4Sig_any (rb p : Nat) (w : World) (hp : p ≤ 1000000000) (h : Rdr w rb p) :
  Calls Tryz.prog 70 #[.pointer (some ⟨rb, 0, none⟩)] w fun e w' => (∃ (s : Sg) (vs : List Value) (f : List Nat), s.few ∧ e = .returned (.agg vs.toArray) ∧ RdVs w' s.cd vs f ∧ ∀ b ∈ f, w.heap.size ≤ b) ∧ Rdr w' rb (p + 1) ∧ Only [rb] w w' := by
 have hlt := h.lt
 go_enter Tryz.func70, Tryz.ntmps70
 go_wp2_with fail
 generalize hW : (w.alloc (.cells #[.slice none 0 0] 25)).alloc (.cells #[.int .i64 0, .int .i64 0, .int .i64 1, .int .i64 1, .int .i64 2, .int .i64 3, .int .i64 1, .int .i64 4] 3) = W
 have hz : W.heap.size = w.heap.size + 1 + 1 := by rw [← hW]; simp
 have hB : Below w.heap.size w W := by rw [← hW]; exact ((Below.refl _ _).alloc (Nat.le_refl _) _).alloc (by simp) _
 have hr : W.cell? ⟨w.heap.size, 0, none⟩ = some (.slice none 0 0) := by rw [← hW]; exact za (zv _ _ _ 0) ((Below.refl _ _).alloc (Nat.le_refl _) _)
 have hrf : W.frozen? ⟨w.heap.size, 0, none⟩ = false := by rw [← hW]; exact (zc ((zb _ _).block w.heap.size (by simp))).trans (zJ _ _ _ 0)
 have hs : ∀ j u, (([0, 0, 1, 1, 2, 3, 1, 4] : List Int).map (Value.int .i64))[j]? = some u → W.cell? ⟨w.heap.size + 1, j, none⟩ = some u := fun j u hu => by rw [← hW]; have h := zg (w.alloc (.cells #[.slice none 0 0] 25)) [.int .i64 0, .int .i64 0, .int .i64 1, .int .i64 1, .int .i64 2, .int .i64 3, .int .i64 1, .int .i64 4] 3 j u (by simpa using hu); simpa using h
 clear hW
 refine (num_any [0, 0, 1, 1, 2, 3, 1, 4] rb p (w.heap.size + 1) _ hp (by simp) (by simp) (by omega) (by omega) (fun i hi => hs i _ (by rw [List.getElem?_map, List.getElem?_eq_getElem hi]; rfl)) (h.below hB)).mono ?_
 rintro e w1 ⟨⟨x, -, rfl⟩, hr1, ho1⟩
 have c1 := ho1.keep hr (by omega) (by omega)
 have f1 := ho1.free hrf (by omega) (by omega)
 have hz1 := ho1.size
 go_wp2_with fail
 refine (zd4 x _).mono ?_
 rintro e w2 ⟨⟨s, vs, f, hfew, rfl, hrd, hf⟩, hb2⟩
 obtain ⟨a0, c0, f0, rfl, rfl, m0⟩ := Sg.open hrd
 have c2 := (hb2.cell (p := ⟨w.heap.size, 0, none⟩) (by show w.heap.size < _; omega)).trans c1
 have f2 := (zc (hb2.block w.heap.size (by omega))).trans f1
 have hz2 := hb2.size
 have z0 := World.cell?_setCell_same w2 ⟨w.heap.size, 0, none⟩ (.slice a0 s.syms.length c0) c2
 go_wp2_with fail
 refine bodyPost_ret (v := .agg #[.slice a0 s.syms.length c0]) (by simp [results, Tryz.results70, go_sem, z0]) rfl ⟨⟨s, [.slice a0 s.syms.length c0], f, hfew, rfl, hrd.same _ (zw (a := ⟨w.heap.size, 0, none⟩) (fun b hb => by have := hf b hb; show b ≠ w.heap.size; omega)), fun b hb => by have := hf b hb; omega⟩, (hr1.below hb2).set (by omega), (((Only.below hB).trans ho1).trans (Only.below hb2)).set_new (Nat.le_refl _)⟩
def Sg.words (s : Sg) (so deep : Int) (k : Nat) : List Sy := (s.syms.take k).filter fun y => (y.sort == so) && (decide (1 < deep) || ((y.args.length : Int) == 0))
theorem Sg.words_yes {s : Sg} {so deep : Int} {k : Nat} (hk : k < s.syms.length) (h : ((s.syms[k].sort == so) && (decide (1 < deep) || ((s.syms[k].args.length : Int) == 0))) = true) : s.words so deep (k + 1) = s.words so deep k ++ [s.syms[k]] := by
 unfold Sg.words; rw [zeq hk, List.filter_append, List.filter_cons, if_pos h, List.filter_nil]
theorem Sg.words_no {s : Sg} {so deep : Int} {k : Nat} (hk : k < s.syms.length) (h : ((s.syms[k].sort == so) && (decide (1 < deep) || ((s.syms[k].args.length : Int) == 0))) = false) : s.words so deep (k + 1) = s.words so deep k := by
 unfold Sg.words; rw [zeq hk, List.filter_append, List.filter_cons, if_neg (by simp [h]), List.filter_nil, List.append_nil]
theorem Sg.words_len (s : Sg) (so deep : Int) (k : Nat) : (s.words so deep k).length ≤ s.syms.length := by
 unfold Sg.words; have h1 := List.length_filter_le (fun y : Sy => (y.sort == so) && (decide (1 < deep) || ((y.args.length : Int) == 0))) (s.syms.take k); have h2 : (s.syms.take k).length ≤ s.syms.length := by simp; omega
 omega
theorem Sg.words_mem {s : Sg} {so deep : Int} {k : Nat} {y : Sy} (h : y ∈ s.words so deep k) : y ∈ s.syms ∧ (0 < y.args.length → 1 < deep) := by
 unfold Sg.words at h
 rw [List.mem_filter] at h
 refine ⟨List.mem_of_mem_take h.1, fun h0 => ?_⟩
 have h2 := h.2
 simp only [zex, Bool.or_eq_true, decide_eq_true_eq, beq_iff_eq] at h2
 omega
theorem zbF (n : Nat) : ∀ (s : Sg) (vs : List Value) (sf : List Nat) (so deep : Int) (rb p : Nat) (w : World), 1 ≤ deep → deep ≤ n → n ≤ 4 → p + pcap n ≤ 1000000000 → s.few → RdVs w s.cd vs sf → rb ∉ sf → Rdr w rb p →
  Calls Tryz.prog 102 #[.pointer (some ⟨rb, 0, none⟩), .agg vs.toArray, .int .i64 so, .int .i64 deep] w fun e w' => zdo w (pcap n) e w' ∧ Rdr w' rb (p + pcap n) ∧ Only [rb] w w' := by
 induction n with
 | zero => intro s vs sf so deep rb p w h1 h2; omega
 | succ n ih =>
  rintro s vs sf so deep rb p w h1 h2 h3 hp hfew hrd hnr hr
  obtain ⟨a0, c0, f0, rfl, rfl, m0⟩ := Sg.open hrd
  have IH := Lib.hid ih
  clear ih
  have hpc : pcap (n + 1) = 1 + 2 * pcap n := rfl
  have hlt := hr.lt
  have hsl : s.syms.length ≤ 5 := hfew.1
  have hfl := m0.lt _
  go_enter Tryz.func102, Tryz.ntmps102
  go_wp2_with fail
  go_loopw [9, 10] (fun ov i wr => ∃ (k : Nat) (fp : List Nat), k ≤ s.syms.length ∧ i = .int .i64 k ∧ Own wr (w.heap.size + 1 + 1) 102 3 ov ((s.words so deep k).map Sy.cd) fp ∧ Hid (∀ b ∈ fp, b ∈ sf) ∧ Below (w.heap.size + 1 + 1) ((w.alloc (.cells #[.slice a0 s.syms.length c0] 25)).alloc (.cells #[.string ⟨#[]⟩, .slice none 0 0] 29)) wr) (fun _ i _ => s.syms.length - (intOf i).toNat)
  case atStart => exact ⟨0, [], Nat.zero_le _, rfl, (by have h := Own.empty ((w.alloc (.cells #[.slice a0 s.syms.length c0] 25)).alloc (.cells #[.string ⟨#[]⟩, .slice none 0 0] 29)) (w.heap.size + 1 + 1) 102 3 (by simp); simp only [World.size_alloc] at h; exact h), Lib.hid (fun b hb => by simp at hb), (Below.refl _ _).alloc (by simp) _⟩
  case round =>
   obtain ⟨k, fp, hkl, rfl, hown, hsub, hb'⟩ := hrel
   have hzz := hb'.size
   simp only [World.size_alloc] at hzz
   obtain ⟨hx, hy, _, hb⟩ := box2 hb'
   have x0 : wr.cell? ⟨w.heap.size, 0, none⟩ = some (.slice a0 s.syms.length c0) := hx 0
   have r0 : wr.cell? ⟨w.heap.size + 1, 0, none⟩ = some (.string ⟨#[]⟩) := hy 0
   have r1 : wr.cell? ⟨w.heap.size + 1, 1, none⟩ = some (.slice none 0 0) := hy 1
   have rf0 := (zD hb' 0).2
   have rf1 := (zD hb' 1).2
   clear hx hy
   have hz := hb.size
   have m0w := m0.below hb
   by_cases hlt : k < s.syms.length
   ·obtain ⟨b, off, rfl, hbs, _⟩ := zm m0w (by omega)
    obtain ⟨a1, c1, f1, d0, d1, d2, n0, n1, n2, hsub1⟩ := Sy.at m0w hlt
    have hl : ((s.words so deep k).map Sy.cd).length ≤ 5 := by rw [zew]; have := s.words_len so deep k; omega
    cases hc : ((s.syms[k].sort == so) && (decide (1 < deep) || ((s.syms[k].args.length : Int) == 0)))
    ·have HW := Lib.hid (Sg.words_no hlt hc)
     cases e1 : (s.syms[k].sort == so) <;> cases e2 : decide (1 < deep) <;> cases e3 : ((s.syms[k].args.length : Int) == 0) <;> first | (exfalso; rw [e1, e2, e3] at hc; exact absurd hc (by decide)) | skip
     all_goals
      clear hc
      go_wp2_with fail
      go_roundw
      case rel => exact ⟨k + 1, fp, by omega, by go_num, by rw [HW.out]; exact hown, hsub, hb'⟩
      case measure => simp [intOf]; omega
    ·have HW := Lib.hid (Sg.words_yes hlt hc)
     have hBA : Below wr.heap.size wr (wr.alloc (.cells #[.string s.syms[k].name, .slice a1 s.syms[k].args.length c1, .int .i64 s.syms[k].sort] 102)) := zb _ _
     have hnews := (Sy.close (x := s.syms[k]) n0 n1 n2)
     cases e1 : (s.syms[k].sort == so) <;> cases e2 : decide (1 < deep) <;> cases e3 : ((s.syms[k].args.length : Int) == 0) <;> first | (exfalso; rw [e1, e2, e3] at hc; exact absurd hc (by decide)) | skip
     all_goals
      clear hc
      go_wp2_with (at_builtin; refine zp slTySymS rfl _ _ rfl (w.heap.size + 1 + 1) _ _ _ rfl (hown.below hBA) ⟨wr.heap.size, 0, none⟩ 1 1 [s.syms[k].cd] [.string s.syms[k].name, .slice a1 s.syms[k].args.length c1, .int .i64 s.syms[k].sort] f1 rfl rfl (by simpa using hnews.below hBA) (by simp [Sy.cd_len]) (by exact zn wr _ _) (fun y hy e => by have h1 := (hown.block e).1; have h2 := hfl y (hsub1 y hy); omega) (by omega) (by omega) (by simp; omega) ?_)
      intro v' w4 hown4 hg hv' hs4
      have hb4 := zf (hb'.trans (hBA.mono (by omega))) hg (by simp; omega) (fun q hq => (hown.block hq).1)
      go_wp2_with fail
      go_roundw
      case rel => exact ⟨k + 1, fp ++ f1, by omega, by go_num, by rw [HW.out, zeu]; exact hown4, Lib.hid (fun y hy => (zer.1 hy).elim (hsub.out y) (hsub1 y)), hb4⟩
      case measure => simp [intOf]; omega
   ·have hke : k = s.syms.length := by omega
    obtain ⟨ws, hws⟩ : ∃ ws, ws = s.words so deep k := ⟨_, rfl⟩
    have hmem : ∀ y ∈ ws, y.args.length ≤ 2 ∧ (0 < y.args.length → 1 < deep) := fun y hy => by rw [hws] at hy; have h := Sg.words_mem hy; exact ⟨hfew.2 y h.1, h.2⟩
    have hwl : ws.length ≤ 5 := by rw [hws]; have := s.words_len so deep k; omega
    rw [← hws] at hown
    have HM := Lib.hid hmem
    clear hws hmem hke
    obtain ⟨oa, oc, he9, _, _⟩ := hown.form
    rw [zew] at he9
    subst he9
    obtain ⟨fw, hw, hwf⟩ := hown.rd
    have hnw : rb ∉ fw := fun hm => by
     rcases hwf with ⟨_, _, rfl⟩ | ⟨b, c, _, rfl, _, hbb, _⟩
     ·simp at hm
     ·rcases zev.1 hm with h | h
      ·omega
      ·exact hnr (hsub.out _ h)
    clear hwf hown hsub
    by_cases hz0 : ws.length = 0
    ·obtain ⟨z0, z1⟩ := zT (.string ⟨#[113]⟩) (.slice none 0 0) r0 r1
     go_wp2_with fail
     refine bodyPost_ret (v := .agg #[.string ⟨#[113]⟩, .slice none 0 0]) (by simp [results, Tryz.results102, go_sem, z0, z1]) rfl ⟨⟨.mk ⟨#[113]⟩ [], .slice none 0 0, [], ?_, rfl, by decide, Own.nil _ _ _ _, Fresh.nil _ _⟩, ?_, ?_⟩
     ·simp [Tm.size, Tm.sizes, hpc]
     ·exact (((hr.below hb).set (by omega)).set (by omega)).mono (by omega)
     ·exact ((Only.below hb).set_new (by omega)).set_new (by omega)
    ·obtain ⟨bw, offw, rfl, hbw, hbwf⟩ := zm hw (by omega)
     go_wp2_with fail
     refine (zE rb p ws.length _ (by omega) (by omega) (by omega) (hr.below hb)).mono ?_
     rintro e w1 ⟨⟨m, hm, rfl⟩, hr1, ho1⟩
     have hm' : m < ws.length := by omega
     have hw1 := hw.only ho1 hnw
     obtain ⟨a1, c1, f1, d0, d1, d2, n0, n1, n2, hsub1⟩ := Sy.at hw1 hm'
     have hnf1 : rb ∉ f1 := fun h => hnw (hsub1 _ h)
     obtain ⟨hxa, hxd⟩ := HM.out ws[m] (zes hm')
     obtain ⟨x, hx⟩ : ∃ x, x = ws[m] := ⟨_, rfl⟩
     rw [← hx] at d0 d1 d2 n0 n1 n2 hxa hxd
     have hz1 := ho1.size
     have x01 := ho1.keep x0 (by omega) (by omega)
     have r01 := ho1.keep r0 (by omega) (by omega)
     have r11 := ho1.keep r1 (by omega) (by omega)
     have rf01 := ho1.free rf0 (by omega) (by omega)
     have rf11 := ho1.free rf1 (by omega) (by omega)
     have hbw1 : bw < w1.heap.size := by omega
     have hm1 := hrd.below hb
     have hrdw := (hrd.below hb).only ho1 hnr
     clear hw hw1 hm1 hx HM hbwf x0 r0 r1 rf0 rf1 hsub1 m0w
     have hON : Only [rb] w w1 := (Only.below hb).trans ho1
     clear hb hb' ho1 hz
     go_wp2_with fail
     go_loopw [13] (fun i wq => ∃ (k : Nat) (fp : List Nat) (ov : Value) (kids : List Tm), k ≤ x.args.length ∧ i = .int .i64 k ∧ kids.length = k ∧ Tm.sizes kids ≤ k * pcap n ∧ Own wq (w1.heap.size + 1 + 1) 29 2 ov (kids.map Tm.cd) fp ∧ Fresh (w1.heap.size + 1 + 1) wq fp ∧
      wq.cell? ⟨w1.heap.size + 1, 0, none⟩ = some (.string x.name) ∧ wq.cell? ⟨w1.heap.size + 1, 1, none⟩ = some ov ∧ wq.frozen? ⟨w1.heap.size + 1, 1, none⟩ = false ∧ w1.heap.size + 1 + 1 ≤ wq.heap.size ∧ Rdr wq rb (p + 1 + k * pcap n) ∧
      Only [rb] (w1.alloc (.cells #[.string x.name, .slice a1 x.args.length c1, .int .i64 x.sort] 102)) wq) (fun i _ => x.args.length - (intOf i).toNat)
     case atStart => exact ⟨0, [], .slice none 0 0, [], Nat.zero_le _, rfl, rfl, by simp [Tm.sizes], Own.nil _ _ _ _, Fresh.nil _ _, by simp [go_sem], by simp [go_sem], by simp [go_sem], by simp, by simpa using (hr1.alloc _).alloc _, (Only.refl _ _).alloc _⟩
     case round =>
      obtain ⟨k, fp, ov, kids, hkl, rfl, hkn, hks, hown, hfr, y0, y1, fz1, hzq, hrq, hoq⟩ := hrel
      have hkc : k * pcap n ≤ 2 * pcap n := Nat.mul_le_mul_right _ (by omega)
      have hBA := zb w1 (.cells #[.string x.name, .slice a1 x.args.length c1, .int .i64 x.sort] 102)
      have xq : wr.cell? ⟨w.heap.size, 0, none⟩ = some (.slice a0 s.syms.length c0) := hoq.keep (za x01 hBA) (by simp; omega) (by omega)
      have g1 : wr.cell? ⟨w1.heap.size, 1, none⟩ = some (.slice a1 x.args.length c1) := hoq.keep (zg w1 _ _ 1 _ rfl) (by simp) (by omega)
      have hrdq : RdVs wr s.cd [.slice a0 s.syms.length c0] sf := (hrdw.below hBA).only hoq hnr
      have n1q := (n1.below hBA).only hoq hnf1
      by_cases hlt : k < x.args.length
      ·obtain ⟨ba, offa, rfl, hba, _⟩ := zm n1q (by omega)
       obtain ⟨ga, _⟩ := zL n1q hlt
       have hkc2 : (k + 1) * pcap n ≤ 2 * pcap n := Nat.mul_le_mul_right _ (by omega)
       have hkm : (k + 1) * pcap n = k * pcap n + pcap n := by rw [Nat.add_mul, Nat.one_mul]
       have hnfp := hfr.notin (rb := rb) (by omega)
       have hd1 : 1 < deep := hxd (by omega)
       have hwd : IntKind.i64.wrap (deep - 1) = deep - 1 := by rw [IntKind.wrap_i64]; omega
       go_wp2_with fail
       have tok1 : True := trivial
       go_region_law (first
        | (have _t := @hown2; refine zN zal rfl _ _ rfl (w1.heap.size + 1 + 1) _ _ fp rfl (by exact hown2) ⟨w2.heap.size, 0, none⟩ 1 1 [t3.cd] [.string t3.name, .slice a3 t3.kids.length cap3] fp3 rfl rfl (by simpa using Tm.rdvs hnm3 hr3') (by simp [Tm.cd_len]) (by exact zn _ _ _) (by exact hown.away hoz2 hf3) (by rw [zew]; omega) (by rw [zew]; omega) (by simp; omega) ?_; intro v' w4 hown4 hg hv' hs4; obtain ⟨a4, n4, c4, rfl⟩ := hown4.form'; have hcb := zd5 hon2 hg (b := w1.heap.size + 1) (by omega) (by omega) (hown.row_ne (by omega)); have y0' := zl hcb y0; have y1' := zl hcb y1; have f1' := zah hcb fz1; clear hcb)
        | (have _t := tok1; clear _t tok1; go_simp; go_at_call 102; refine (IH.out s _ sf _ _ rb (p + 1 + k * pcap n) _ (by omega) (by omega) (by omega) (by omega) hfew (by exact hrdq.below (zi _)) hnr (by exact hrq)).mono ?_; rintro e w2 ⟨⟨t3, kv3, fo3, hsz3, rfl, hnm3, hro3, hfo3⟩, hr2, hon2⟩; have hon2 := Only.undrew hon2; obtain ⟨fp3, hr3, hf3, _⟩ := hro3.fresh hfo3; obtain ⟨a3, cap3, rfl, hg1, hg2⟩ := zae hr3; have hz2 := hon2.size; have hoz2 : wr.heap.size ≤ wr.drew.heap.size := Nat.le_refl _; have hlz : w1.heap.size + 1 < w2.heap.size := (by omega); have y0w := hon2.keep y0 (by omega) (by omega); have y1w := hon2.keep y1 (by omega) (by omega); have f1w := hon2.free fz1 (by omega) (by omega); have hown2 := (hown.only hon2 (by omega) hnfp).below (zb w2 (.cells #[.string t3.name, .slice a3 t3.kids.length cap3] 29)); have hr3' := hr3.below (zb w2 (.cells #[.string t3.name, .slice a3 t3.kids.length cap3] 29))))
       all_goals
        have hfr4 := ((Fresh.app (hfr.only hon2 (by omega)) hfr.lt hzq hf3).below (zb w2 (.cells #[.string t3.name, .slice a3 t3.kids.length cap3] 29))).same hs4
        have hsz4 := hg.size
        simp only [World.size_alloc] at hsz4
        have hown5 := hown4.set_other hfr4 (b := w1.heap.size + 1) (j := 1) (u := .slice a4 n4 c4) (by omega)
        have hfr5 := hfr4.same (zw (a := ⟨w1.heap.size + 1, 1, none⟩) (v := .slice a4 n4 c4) (hfr4.ne (by simp)))
        have y0'' := (World.cell?_setCell_other w4 ⟨w1.heap.size + 1, 1, none⟩ ⟨w1.heap.size + 1, 0, none⟩ (.slice a4 n4 c4) (by simp)).trans y0'
        have y1'' := World.cell?_setCell_same w4 ⟨w1.heap.size + 1, 1, none⟩ (.slice a4 n4 c4) y1'
        have hrow : ∀ q, Value.ownBlock ov = some q → w1.heap.size + 1 + 1 ≤ q := fun q hq => (hown.block hq).1
        have hr5 := (((hr2.alloc (.cells #[.string t3.name, .slice a3 t3.kids.length cap3] 29)).grown hg (fun q hq => by have := hrow q hq; omega)).set (b := w1.heap.size + 1) (i := 1) (u := .slice a4 n4 c4) (by omega))
        have ho5 := (((hoq.trans hon2).alloc (.cells #[.string t3.name, .slice a3 t3.kids.length cap3] 29)).grown hg (fun q hq => by have := hrow q hq; simp; omega)).set_new (b := w1.heap.size + 1) (i := 1) (u := .slice a4 n4 c4) (by simp)
        go_wp2_with fail
        go_roundw
        case rel => exact ⟨k + 1, fp ++ fp3, .slice a4 n4 c4, kids ++ [t3], by omega, by go_num, by simp [hkn], by rw [Tm.sizes_append]; simp only [Tm.sizes]; omega, by rw [zeu]; simpa using hown5, hfr5, y0'', y1'', by simp [go_sem, f1'], by simp [World.setCell]; omega, by rw [hkm, ← Nat.add_assoc]; exact hr5, ho5⟩
        case measure => simp [intOf]; omega
      ·obtain ⟨oa, on, oc, rfl⟩ := hown.form'
       have q0 := hoq.keep (za r01 hBA) (by simp; omega) (by omega)
       have q1 := hoq.keep (za r11 hBA) (by simp; omega) (by omega)
       have qf0 := hoq.free ((zc (hBA.block (w.heap.size + 1) (by omega))).trans rf01) (by simp; omega) (by omega)
       have qf1 := hoq.free ((zc (hBA.block (w.heap.size + 1) (by omega))).trans rf11) (by simp; omega) (by omega)
       obtain ⟨z0, z1⟩ := zT (.string x.name) (.slice oa on oc) q0 q1
       have hon0 : (w.heap.size + 1) ∉ fp := hfr.notin (by omega)
       go_wp2_with fail
       refine bodyPost_ret (v := .agg #[.string x.name, .slice oa on oc]) (by simp [results, Tryz.results102, go_sem, z0, z1]) rfl ⟨⟨.mk x.name kids, _, fp, ?_, rfl, n0, ?_, ?_⟩, ?_, ?_⟩
       ·simp only [Tm.size]; omega
       ·exact ((hown.set_row (by omega) hon0).set_row (by omega) hon0).base (fun q hq => by have := (hown.block hq).1; omega)
       ·exact (hfr.same (zW (hfr.ne (by omega)))).mono (by omega)
       ·exact (((hrq.set (by omega)).set (by omega)).mono (by omega))
       ·exact (((hON.trans (Only.below hBA)).trans hoq).set_new (by omega)).set_new (by omega)
end Go.Proofs.YtlefdhhnlbpbkaaGreat
end
