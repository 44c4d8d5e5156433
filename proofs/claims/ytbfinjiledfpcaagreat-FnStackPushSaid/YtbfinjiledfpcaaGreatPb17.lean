/- Parts of the proof: Shelf TextW. -/
import Derived.Shelf.Strings.Builder1
import Derived.Shelf.Strings.Builder2
import Derived.Shelf.Strings.OnBuilder
import Derived.Test.YtbfinjiledfpcaaGreatProg
import Derived.Deep.RegionHeld3
import Derived.Laws.Concat
import Derived.Deep.QuietTactic
import Derived.BigQuiet
import Derived.Lib.QuietBelow
import Derived.Test.YtbfinjiledfpcaaGreatPb15
import Derived.Test.YtbfinjiledfpcaaGreatPb5
import Derived.Test.YtbfinjiledfpcaaGreatPb3
namespace Go.Proofs
open Go.Shelf
def Tryz.lays156_ren : Go.Shelf.Ren := ⟨fun | 156 => 145 | 165 => 155 | 166 => 156 | 169 => 157 | 240 => 160 | 241 => 161 | 276 => 162 | 277 => 163 | n => n, fun | 31 => 132 | 9 => 9 | 3 => 3 | 4 => 4 | 0 => 0 | 20 => 20 | 72 => 159 | 76 => 163 | 70 => 157 | 37 => 22 | 75 => 162 | 127 => 167 | 164 => 168 | 5 => 5 | 80 => 165 | n => n, fun | n => n⟩
theorem Tryz.lays156 : Go.Proofs.Lays.n156 Tryz.prog Tryz.lays156_ren := {
 mixed := by kernel_rfl
 f156 := Tryz.func145.trans (congrArg some (by kernel_rfl))
 f165 := Tryz.func155.trans (congrArg some (by kernel_rfl))
 f166 := Tryz.func156.trans (congrArg some (by kernel_rfl))
 f169 := Tryz.func157.trans (congrArg some (by kernel_rfl))
 f240 := Tryz.func160.trans (congrArg some (by kernel_rfl))
 f241 := Tryz.func161.trans (congrArg some (by kernel_rfl))
 f276 := Tryz.func162.trans (congrArg some (by kernel_rfl))
 f277 := Tryz.func163.trans (congrArg some (by kernel_rfl))
 t0 := Tryz.underlying0
 a0 := Tryz.isAgg0
 z0 := Tryz.sizeOf0
 v0 := Tryz.zeroValue0
 t3 := Tryz.underlying3
 a3 := Tryz.isAgg3
 z3 := Tryz.sizeOf3
 v3 := Tryz.zeroValue3
 t4 := Tryz.underlying4
 a4 := Tryz.isAgg4
 z4 := Tryz.sizeOf4
 v4 := Tryz.zeroValue4
 t9 := Tryz.underlying9
 a9 := Tryz.isAgg9
 z9 := Tryz.sizeOf9
 v9 := Tryz.zeroValue9
 t20 := Tryz.underlying20
 a20 := Tryz.isAgg20
 z20 := Tryz.sizeOf20
 v20 := Tryz.zeroValue20
 t31 := Tryz.underlying132
 a31 := Tryz.isAgg132
 z31 := Tryz.sizeOf132
 v31 := Tryz.zeroValue132
 t37 := Tryz.underlying22
 a37 := Tryz.isAgg22
 z37 := Tryz.sizeOf22
 v37 := Tryz.zeroValue22
 t70 := Tryz.underlying157
 a70 := Tryz.isAgg157
 z70 := Tryz.sizeOf157
 v70 := Tryz.zeroValue157
 t72 := Tryz.underlying159
 a72 := Tryz.isAgg159
 z72 := Tryz.sizeOf159
 v72 := Tryz.zeroValue159
 t75 := Tryz.underlying162
 a75 := Tryz.isAgg162
 z75 := Tryz.sizeOf162
 v75 := Tryz.zeroValue162
 t76 := Tryz.underlying163
 a76 := Tryz.isAgg163
 z76 := Tryz.sizeOf163
 v76 := Tryz.zeroValue163
 t127 := Tryz.underlying167
 a127 := Tryz.isAgg167
 z127 := Tryz.sizeOf167
 v127 := Tryz.zeroValue167
 t164 := Tryz.underlying168
 a164 := Tryz.isAgg168
 z164 := Tryz.sizeOf168
 v164 := Tryz.zeroValue168 }
theorem Tryz.Builder_Extra_156 : Builder.Extra Tryz.prog Tryz.lays156_ren := {
 sizeBuilder := by kernel_rfl
 liesBuilder := by kernel_rfl
 t5 := Tryz.underlying5
 a5 := Tryz.isAgg5
 z5 := Tryz.sizeOf5
 v5 := Tryz.zeroValue5
 infoByte := by kernel_rfl
 cellsByte := by kernel_rfl
 sizeByte := by kernel_rfl
 neB5 := by decide }
open Go.RowKit in
theorem Tryz.strings_Join (bk o c : Nat) (xs : List ByteArray) (sep : ByteArray) (w : World) (hcells : ∀ (j : Nat) x, xs[j]? = some x → w.cell? ⟨bk, o + j, none⟩ = some (.string x)) (hbk : bk < w.heap.size) (hN : xs.length ≤ 140737488355328) (hcap : xs.length ≤ c) (hlen : (Lib.join (xs.map (·.data.toList)) sep.data.toList).length ≤ 140737488355328) :
  Calls Tryz.prog 145 #[.slice (some ⟨bk, o, none⟩) xs.length c, .string sep] w fun e w' => e = .returned (.string ⟨(Lib.join (xs.map (·.data.toList)) sep.data.toList).toArray⟩) ∧ Below w.heap.size w w' := Any.strings_Join Tryz.lays156 Tryz.Builder_Extra_156 bk o c xs sep w hcells hbk hN hcap hlen
end Go.Proofs
section
namespace Go.Proofs.YtbfinjiledfpcaaGreat
open Go Go.RowKit
set_option linter.unusedVariables false
set_option linter.unusedSimpArgs false
set_option maxRecDepth 100000
set_option maxHeartbeats 16000000
theorem slStr : SlTy Tryz.prog 132 9 (.string ByteArray.empty) 1 16 :=
 ⟨Tryz.underlying132, by kernel_rfl, rfl, by omega⟩
def zdT (s : ByteArray) : List CD := [.str s]
theorem Tm.shape_kids {t : Tm} {d : Int} (h : Tm.shape t d = true) : ∀ k ∈ t.kids, Tm.shape k (d - 1) = true := by
 rw [Tm.shape_eq] at h
 simp only [zfP] at h
 have h2 := h.2
 rw [Tm.shapes_all, List.all_eq_true] at h2
 exact h2
theorem Tm.shape_len {t : Tm} {d : Int} (h : Tm.shape t d = true) : t.kids.length ≤ 2 ∧ zax t.name = true := by
 rw [Tm.shape_eq] at h
 simp only [zfP, decide_eq_true_eq] at h
 exact ⟨h.1.2, h.1.1.2⟩
theorem sz1 (c : UInt8) : (⟨#[c]⟩ : ByteArray).size = 1 := rfl
theorem zaY (P : Program) (a b : ByteArray) (h : a.size + b.size ≤ 9223372036854775807) : ∀ W, (Op.stringOp .add a b).run P W = .ok (.string (a ++ b)) W := fun W => run_string_add_sum W a b h
theorem strFlat : ∀ (xs : List ByteArray), (xs.map zdT).flatten = xs.map CD.str
 | [] => rfl
 | a :: l => by simp only [List.map_cons, List.flatten_cons, strFlat l, zdT]; rfl
theorem rd_rows {w : World} {es : List (List CD)} {b off n c : Nat} {fp : List Nat} (h : Rd w (.sl es) (.slice (some ⟨b, off, none⟩) n c) fp) (hne : es ≠ []) : ∃ f, RdRows w b off es f := by
 simp only [Rd] at h
 obtain ⟨a', c', h1, _, _, h2 | ⟨_, b', off', f, rfl, _, _, h3⟩⟩ := h
 ·exact absurd h2.1 hne
 ·simp only [Value.slice.injEq, Option.some.injEq, Addr.mk.injEq] at h1
  obtain ⟨⟨rfl, rfl, _⟩, _⟩ := h1
  exact ⟨f, h3⟩
theorem strRows {w : World} {b off : Nat} {xs : List ByteArray} {f : List Nat} (h : RdRows w b off (xs.map zdT) f) : ∀ (j : Nat) x, xs[j]? = some x → w.cell? ⟨b, off + j, none⟩ = some (.string x) := by
 intro j x hj
 obtain ⟨vs, hc, hr⟩ := h.flat
 rw [strFlat] at hr
 have : ∀ (xs : List ByteArray) (vs : List Value) (f : List Nat) (j : Nat) (x : ByteArray), RdVs w (xs.map CD.str) vs f → xs[j]? = some x → vs[j]? = some (.string x) := by
  intro xs
  induction xs with
  | nil => intro vs f j x _ hj; simp at hj
  | cons a l ih =>
   intro vs f j x hr hj
   simp only [List.map_cons, RdVs] at hr
   obtain ⟨v, us, f1, f2, rfl, rfl, h1, h2⟩ := hr
   simp only [Rd] at h1
   cases j with
   | zero => simp at hj ⊢; subst hj; exact h1.1
   | succ j => simp at hj ⊢; exact ih us f2 j x h2 hj
 exact hc j _ (this xs vs _ j x hr hj)
theorem zaZ (n : Nat) : ∀ (t : Tm) (d : Int) (v : Value) (w : World), t.size ≤ n → t.size ≤ 1100000 → Tm.shape t d = true → TmR w t v →
  Calls Tryz.prog 131 #[v] w fun e w' => e = .returned (.string t.text) ∧ Below w.heap.size w w' := by
 induction n with
 | zero => intro t; have := t.size_pos; omega
 | succ n ih =>
  rintro t d v w hn hbig hsh ⟨kv, rfl, hs, hk⟩
  obtain ⟨a, cap, rfl, hc1, hc2⟩ := hk.form
  have HK : Hid (∀ x ∈ t.kids, x.size ≤ n) := fun x hx => by have := Tm.size_kid_mem hx; omega
  have HS : Hid (∀ x ∈ t.kids, Tm.shape x (d - 1) = true) := Lib.hid (Tm.shape_kids hsh)
  have hlen := (Tm.shape_len hsh).1
  have hnm := Tm.nameB_size (Tm.shape_len hsh).2
  have HJ := Lib.hid (Tm.join_len t d hsh)
  have HX := Lib.hid (fun h : 0 < t.kids.length => Tm.text_join t h)
  have HT0 := Lib.hid (Tm.text_none t)
  have IH := Lib.hid ih
  clear ih
  by_cases h0 : t.kids.length = 0
  ·have HE := Lib.hid (HT0.out h0)
   have h0' : ((t.kids.length : Int) == 0) = true := by simp [h0]
   clear hnm
   go_enter Tryz.func131, Tryz.ntmps131
   go_wp2_with fail
   go_ret
   exact ⟨retS HE.out.symm, zd _ _⟩
  have h0' : ((t.kids.length : Int) == 0) = false := by simpa using h0
  go_enter Tryz.func131, Tryz.ntmps131
  go_wp2_with fail
  go_loopw [3, 15] (fun ov i wr => ∃ (k : Nat) (fp : List Nat), k ≤ t.kids.length ∧ i = .int .i64 k ∧ Own wr (w.heap.size + 1) 9 1 ov (((t.kids.take k).map Tm.text).map zdT) fp ∧ fp = [] ∧ Below (w.heap.size + 1) (w.alloc (.cells #[.string t.name, .slice a t.kids.length cap] 28)) wr) (fun _ i _ => t.kids.length - (intOf i).toNat)
  case atStart => exact ⟨0, [], Nat.zero_le _, rfl, Own.nil _ _ _ _, rfl, Below.refl _ _⟩
  case round =>
   obtain ⟨k, fp, hkl, rfl, hown, rfl, hb⟩ := hrel
   obtain ⟨hx, hz, hB⟩ := box1 hb
   by_cases hlt : k < t.kids.length
   ·obtain ⟨b, off, rfl, hbs⟩ := hk.addr (by omega)
    obtain ⟨ka, kc, c0, c1, hss, hkk⟩ := (hk.below hB).at hlt
    have hbz : b < wr.heap.size := by omega
    have hks := Tm.size_mem (zfK hlt)
    rw [Tm.size_eq] at hbig
    go_wp2_with fail
    refine (IH.out t.kids[k] (d - 1) _ _ (HK.out _ (zfK hlt)) (by omega) (HS.out _ (zfK hlt)) (by exact (TmR.mk hss hkk).below ((Below.refl _ _).alloc (Nat.le_refl _) _))).mono ?_
    rintro e w2 ⟨rfl, hb2⟩
    have hbw : Below wr.heap.size wr w2 := ((Below.refl _ _).alloc (Nat.le_refl _) _).trans (hb2.mono (by simp))
    have hz2 := hbw.size
    have hown2 := (hown.below (hbw.alloc hz2 (.cells #[.string t.kids[k].text] 9)))
    have hl : (((t.kids.take k).map Tm.text).map zdT).length ≤ t.kids.length := by simp; omega
    have htx : t.kids[k].text.size ≤ maxLen := by
     have h1 := Tm.bs_len t.kids[k] (d - 1) (HS.out _ (zfK hlt))
     rw [Tm.text_size]; simp only [maxLen]; omega
    go_wp2_with (at_builtin; refine zE slStr rfl _ _ rfl (w.heap.size + 1) _ _ _ rfl hown2 ⟨w2.heap.size, 0, none⟩ 1 1 [zdT t.kids[k].text] [.string t.kids[k].text] [] rfl rfl ?rd ?k ?cells ?na ?bytes ?len ?base ?next)
    case rd => simp only [zdT, List.flatten_cons, List.flatten_nil, List.append_nil]; exact RdVs.single (by simp only [Rd]; exact ⟨trivial, htx, trivial⟩)
    case k => simp [zdT]
    case cells => exact zv _ _ _
    case na => simp
    case bytes => omega
    case len => omega
    case base => simp; omega
    case next =>
     intro v' w4 hown4 hg hv' hs4
     go_wp2_with fail
     go_roundw
     case rel =>
      refine ⟨k + 1, _, by omega, by go_num, ?_, rfl, ?_⟩
      ·rw [zfI hlt, zfM, zfM]; simpa using hown4
      ·exact zp ((hb.trans (hbw.mono hz)).alloc (by omega) _) hg (by simp; omega) (fun k hk => (hown.block hk).1)
     case measure => simp [intOf]; omega
   ·have he : t.kids.take k = t.kids := List.take_of_length_le (by omega)
    rw [he] at hown
    clear he
    obtain ⟨fp', hr⟩ := hown.rd'
    obtain ⟨oa, ocap, rfl, ho1, ho2⟩ := zh hr
    obtain ⟨b', off', rfl, hbs', _⟩ := zr hr (by simp; omega)
    obtain ⟨fr, hrows⟩ := rd_rows hr (by simp; intro h; rw [h] at h0; simp at h0)
    have HX2 := Lib.hid (HX.out (by omega))
    have HJ2 := Lib.hid HJ.out
    have cx0 := hx 0
    simp only [zfG, zfE, zfF] at cx0
    obtain ⟨J, hJ⟩ : ∃ J : ByteArray, ⟨(Lib.join ((t.kids.map Tm.text).map (·.data.toList)) [44]).toArray⟩ = J := ⟨_, rfl⟩
    have hJs : J.size ≤ 4 * t.size := by rw [← hJ]; have := HJ2.out; simpa [ByteArray.size] using this
    have HT := HX2.out
    rw [hJ] at HT
    obtain ⟨y1, hy1⟩ : ∃ y, t.name ++ ⟨#[40]⟩ = y := ⟨_, rfl⟩
    obtain ⟨y2, hy2⟩ : ∃ y, y1 ++ J = y := ⟨_, rfl⟩
    have hs1 : y1.size = t.name.size + 1 := by rw [← hy1, ByteArray.size_append]; rfl
    have hs2 : y2.size = y1.size + J.size := by rw [← hy2, ByteArray.size_append]
    rw [hy1, hy2] at HT
    have ha1 := zaY Tryz.prog t.name ⟨#[40]⟩ (by rw [sz1]; omega)
    have ha2 := zaY Tryz.prog y1 J (by omega)
    have ha3 := zaY Tryz.prog y2 ⟨#[41]⟩ (by rw [sz1]; omega)
    rw [hy1] at ha1
    rw [hy2] at ha2
    rw [HT] at ha3
    have hno1 : ¬ (t.name.size + 1 > 9223372036854775807) := by omega
    have hno2 : ¬ (y1.size + J.size > 9223372036854775807) := by omega
    have hno3 : ¬ (y2.size + 1 > 9223372036854775807) := by omega
    have HCJ : Hid (∀ W, Below wr.heap.size wr W → Calls Tryz.prog 145 #[.slice (some ⟨b', off', none⟩) t.kids.length ocap, .string ⟨#[44]⟩] W fun e w' => e = .returned (.string J) ∧ Below W.heap.size W w') := Lib.hid (fun W hW => by
     have h := Tryz.strings_Join b' off' ocap (t.kids.map Tm.text) ⟨#[44]⟩ W (fun j x hj => zb (strRows hrows j x hj) hW) (zfH hbs' hW.size) (by simp; omega) (by simpa using ho1) (by have := HJ2.out; simp only at this ⊢; omega)
     rw [zfO] at h
     rw [← hJ]
     exact h)
    clear hJ hy1 hy2 HT hJs hs1 hs2 HX2 HJ2 hrows hr hown
    go_wp2_with fail
    have q0 := cell_regrown cx0
    refine wp_region_quiet_below (by kernel_rfl) (by kernel_rfl) ?_
    repeat (first | go_big_quiet_skip | quiet_step ((go_at_call 145; refine Calls.regrown_of (HCJ.out _ (below_regrown _ _ _)))))
    refine wpQuiet_nil ?_
    intro w9 hw9
    obtain ⟨⟨dq, osq⟩, hw9⟩ := hw9
    have hb9 : Below wr.heap.size wr w9 := hw9 ▸ below_regrown wr dq osq
    clear hw9 q0
    go_wp2_with fail
    go_ret
    exact ⟨rfl, hB.trans (hb9.mono hB.size)⟩
theorem zaJ (n : Nat) : ∀ (t : Tm) (d : Int) (v : Value) (w : World), t.size ≤ n → t.size ≤ 1100000 → Tm.shape t d = true → TmR w t v →
  Calls Tryz.prog 148 #[v] w fun e w' => e = .returned (.string t.text) ∧ Below w.heap.size w w' := by
 induction n with
 | zero => intro t; have := t.size_pos; omega
 | succ n ih =>
  rintro t d v w hn hbig hsh ⟨kv, rfl, hs, hk⟩
  obtain ⟨a, cap, rfl, hc1, hc2⟩ := hk.form
  have HK : Hid (∀ x ∈ t.kids, x.size ≤ n) := fun x hx => by have := Tm.size_kid_mem hx; omega
  have HS : Hid (∀ x ∈ t.kids, Tm.shape x (d - 1) = true) := Lib.hid (Tm.shape_kids hsh)
  have hlen := (Tm.shape_len hsh).1
  have HU := Lib.hid (fun k => Tm.upto_size t k d hsh)
  have HU2 := Lib.hid (fun k h => Tm.upto_succ t k h)
  have HA := Lib.hid (fun h : 0 < t.kids.length => Tm.upto_all t h)
  have HT0 := Lib.hid (Tm.text_none t)
  have HZ := Lib.hid (Tm.upto_zero t)
  have IH := Lib.hid ih
  clear ih
  go_enter Tryz.func148, Tryz.ntmps148
  go_wp2_with fail
  go_loopw [3, 4] (fun ov i wr => ∃ (k : Nat), k ≤ t.kids.length ∧ i = .int .i64 k ∧ ov = .string (t.upto k) ∧ Below (w.heap.size + 1) (w.alloc (.cells #[.string t.name, .slice a t.kids.length cap] 28)) wr) (fun _ i _ => t.kids.length - (intOf i).toNat)
  case atStart => exact ⟨0, Nat.zero_le _, rfl, by rw [HZ.out], Below.refl _ _⟩
  case round =>
   obtain ⟨k, hkl, rfl, rfl, hb⟩ := hrel
   obtain ⟨hx, hz, hB⟩ := box1 hb
   have cx1 := hx 1
   simp only [zfG, zfE, zfF] at cx1
   have hu := HU.out k
   by_cases hlt : k < t.kids.length
   ·obtain ⟨b, off, rfl, hbs⟩ := hk.addr (by omega)
    obtain ⟨ka, kc, c0, c1, hss, hkk⟩ := (hk.below hB).at hlt
    have hbz : b < wr.heap.size := by omega
    have hks := Tm.size_mem (zfK hlt)
    have hsz0 := Tm.size_eq t
    have htx : t.kids[k].text.size ≤ 4400000 := by
     have h1 := Tm.bs_len t.kids[k] (d - 1) (HS.out _ (zfK hlt))
     rw [Tm.text_size]; omega
    have HN := Lib.hid (HU2.out k hlt)
    by_cases hk0 : k = 0
    ·have tk : ((k : Int) == 0) = true := by simp [hk0]
     have HSG : Hid (Tm.sign k = ⟨#[40]⟩) := Lib.hid (by simp [Tm.sign, hk0])
     obtain ⟨y1, hy1⟩ : ∃ y, t.upto k ++ ⟨#[40]⟩ = y := ⟨_, rfl⟩
     have ha1 := zaY Tryz.prog (t.upto k) ⟨#[40]⟩ (by rw [sz1]; omega) wr
     have hno1 : ¬ ((t.upto k).size + (⟨#[40]⟩ : ByteArray).size > 9223372036854775807) := by rw [sz1]; omega
     have hno2 : ¬ ((t.upto k).size + 1 > 9223372036854775807) := by omega
     have ha2' := zaY Tryz.prog (t.upto k ++ ⟨#[40]⟩) t.kids[k].text (by rw [ByteArray.size_append, sz1]; omega)
     have HN2 : Hid ((t.upto k ++ ⟨#[40]⟩) ++ t.kids[k].text = t.upto (k + 1)) := Lib.hid (by rw [HN.out, HSG.out])
     have hno3 : ¬ ((t.upto k ++ ⟨#[40]⟩).size + t.kids[k].text.size > 9223372036854775807) := by rw [ByteArray.size_append, sz1]; omega
     rw [hy1] at hno3
     rw [HN2.out, hy1] at ha2'
     rw [hy1] at ha1
     have HY := Lib.hid ha2'
     clear hy1 ha2' hu hk0
     go_wp2_with fail
     refine (IH.out t.kids[k] (d - 1) _ _ (HK.out _ (zfK hlt)) (by omega) (HS.out _ (zfK hlt)) (by exact TmR.mk hss hkk)).mono ?_
     rintro e w2 ⟨rfl, hb2⟩
     have ha2 := HY.out w2
     go_wp2_with fail
     go_roundw
     case rel => exact ⟨k + 1, by omega, by go_num, rfl, hb.trans (hb2.mono hz)⟩
     case measure => simp [intOf]; omega
    ·have tk : ((k : Int) == 0) = false := by simp [hk0]
     have HSG : Hid (Tm.sign k = ⟨#[44]⟩) := Lib.hid (by simp [Tm.sign, hk0])
     obtain ⟨y1, hy1⟩ : ∃ y, t.upto k ++ ⟨#[44]⟩ = y := ⟨_, rfl⟩
     have ha1 := zaY Tryz.prog (t.upto k) ⟨#[44]⟩ (by rw [sz1]; omega) wr
     have hno1 : ¬ ((t.upto k).size + (⟨#[44]⟩ : ByteArray).size > 9223372036854775807) := by rw [sz1]; omega
     have hno2 : ¬ ((t.upto k).size + 1 > 9223372036854775807) := by omega
     have ha2' := zaY Tryz.prog (t.upto k ++ ⟨#[44]⟩) t.kids[k].text (by rw [ByteArray.size_append, sz1]; omega)
     have HN2 : Hid ((t.upto k ++ ⟨#[44]⟩) ++ t.kids[k].text = t.upto (k + 1)) := Lib.hid (by rw [HN.out, HSG.out])
     have hno3 : ¬ ((t.upto k ++ ⟨#[44]⟩).size + t.kids[k].text.size > 9223372036854775807) := by rw [ByteArray.size_append, sz1]; omega
     rw [hy1] at hno3
     rw [HN2.out, hy1] at ha2'
     rw [hy1] at ha1
     have HY := Lib.hid ha2'
     clear hy1 ha2' hu hk0
     go_wp2_with fail
     refine (IH.out t.kids[k] (d - 1) _ _ (HK.out _ (zfK hlt)) (by omega) (HS.out _ (zfK hlt)) (by exact TmR.mk hss hkk)).mono ?_
     rintro e w2 ⟨rfl, hb2⟩
     have ha2 := HY.out w2
     go_wp2_with fail
     go_roundw
     case rel => exact ⟨k + 1, by omega, by go_num, rfl, hb.trans (hb2.mono hz)⟩
     case measure => simp [intOf]; omega
   ·obtain rfl : k = t.kids.length := by omega
    by_cases h0 : t.kids.length = 0
    ·have HE : Hid (t.text = t.upto t.kids.length) := Lib.hid (by rw [HT0.out h0, h0, HZ.out])
     have h0' : decide ((0 : Int) < (t.kids.length : Int)) = false := by simp [h0]
     go_wp2_with fail
     go_ret
     exact ⟨retS HE.out.symm, hB⟩
    ·have HE := Lib.hid (HA.out (by omega))
     have h0' : decide ((0 : Int) < (t.kids.length : Int)) = true := by simp; omega
     have ha1 := zaY Tryz.prog (t.upto t.kids.length) ⟨#[41]⟩ (by rw [sz1]; omega) wr
     rw [HE.out] at ha1
     go_wp2_with fail
     go_ret
     exact ⟨rfl, hB⟩
theorem zdd (t : Tm) (v : Value) (w : World) (hv : TmR w t v) : Calls Tryz.prog 130 #[v] w fun e w' => e = .returned (.bool t.noneB) ∧ Below w.heap.size w w' := by
 obtain ⟨kv, rfl, hs, hk⟩ := hv
 obtain ⟨a, cap, rfl, hc1, hc2⟩ := hk.form
 have HB : Hid (t.noneB = (t.name.toList == [] && ((t.kids.length : Int) == 0))) := Lib.hid rfl
 cases h1 : (t.name.toList == [])
 all_goals
  have H1 := Lib.hid h1
  go_enter Tryz.func130, Tryz.ntmps130
  go_wp2_with fail
  go_ret
  exact ⟨retB (by rw [HB.out, H1.out]; first | rfl | simp | (simp [Bool.beq_eq_decide_eq])), zd _ _⟩
theorem zde (t : Tm) (v : Value) (w : World) (hv : TmR w t v) : Calls Tryz.prog 149 #[v] w fun e w' => e = .returned (.bool t.noneB) ∧ Below w.heap.size w w' := by
 obtain ⟨kv, rfl, hs, hk⟩ := hv
 obtain ⟨a, cap, rfl, hc1, hc2⟩ := hk.form
 have HB : Hid (t.noneB = (t.name.toList == [] && ((t.kids.length : Int) == 0))) := Lib.hid rfl
 cases h1 : (t.name.toList == [])
 all_goals
  have H1 := Lib.hid h1
  go_enter Tryz.func149, Tryz.ntmps149
  go_wp2_with fail
  go_ret
  exact ⟨retB (by rw [HB.out, H1.out]; first | rfl | simp | (simp [Bool.beq_eq_decide_eq])), zd _ _⟩
end Go.Proofs.YtbfinjiledfpcaaGreat
end
