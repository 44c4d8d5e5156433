/- Parts of the proof: Shelf TextW. -/
import Derived.Shelf.Strings.Builder1
import Derived.Shelf.Strings.Builder2
import Derived.Shelf.Strings.OnBuilder
import Derived.Shelf.Strconv.Itoa0
import Derived.Shelf.Strconv.Itoa1
import Derived.Shelf.LaysM
import Derived.Shelf.Strconv.Itoa2
import Derived.Shelf.Strconv.Itoa3
import Derived.Test.YtoehhbkhdddeeaaGreatDoorProg
import Derived.Deep.RegionHeld3
import Derived.Laws.Concat
import Derived.Deep.QuietTactic
import Derived.BigQuiet
import Derived.Lib.QuietBelow
import Derived.Test.YtoehhbkhdddeeaaGreatDoorPf21
import Derived.Test.YtoehhbkhdddeeaaGreatDoorPf6
import Derived.Test.YtoehhbkhdddeeaaGreatDoorPf4
namespace Go.Proofs
open Go.Shelf
def Tryz.lays156_ren : Go.Shelf.Ren := ⟨fun | 156 => 27 | 165 => 41 | 166 => 42 | 169 => 43 | 240 => 62 | 241 => 63 | 276 => 69 | 277 => 70 | n => n, fun | 31 => 62 | 9 => 9 | 3 => 3 | 4 => 4 | 0 => 0 | 20 => 20 | 72 => 79 | 76 => 83 | 70 => 77 | 37 => 22 | 75 => 82 | 127 => 103 | 164 => 105 | 5 => 5 | 80 => 85 | n => n, fun | n => n⟩
theorem Tryz.lays156 : Go.Proofs.Lays.n156 Tryz.prog Tryz.lays156_ren := {
 mixed := by kernel_rfl
 f156 := Tryz.func27.trans (congrArg some (by kernel_rfl))
 f165 := Tryz.func41.trans (congrArg some (by kernel_rfl))
 f166 := Tryz.func42.trans (congrArg some (by kernel_rfl))
 f169 := Tryz.func43.trans (congrArg some (by kernel_rfl))
 f240 := Tryz.func62.trans (congrArg some (by kernel_rfl))
 f241 := Tryz.func63.trans (congrArg some (by kernel_rfl))
 f276 := Tryz.func69.trans (congrArg some (by kernel_rfl))
 f277 := Tryz.func70.trans (congrArg some (by kernel_rfl))
 t0 := Tryz.underlying0
 a0 := Tryz.isAgg0
 z0 := Tryz.sizeOf0
 v0 := Tryz.zeroValue0
 t3 := Tryz.underlying3
 a3 := Tryz.isAgg3
 z3 := Tryz.sizeOf3
 v3 := Tryz.zeroValue3
 t4 := Tryz.underlying4
 a4 := Tryz.isAgg4
 z4 := Tryz.sizeOf4
 v4 := Tryz.zeroValue4
 t9 := Tryz.underlying9
 a9 := Tryz.isAgg9
 z9 := Tryz.sizeOf9
 v9 := Tryz.zeroValue9
 t20 := Tryz.underlying20
 a20 := Tryz.isAgg20
 z20 := Tryz.sizeOf20
 v20 := Tryz.zeroValue20
 t31 := Tryz.underlying62
 a31 := Tryz.isAgg62
 z31 := Tryz.sizeOf62
 v31 := Tryz.zeroValue62
 t37 := Tryz.underlying22
 a37 := Tryz.isAgg22
 z37 := Tryz.sizeOf22
 v37 := Tryz.zeroValue22
 t70 := Tryz.underlying77
 a70 := Tryz.isAgg77
 z70 := Tryz.sizeOf77
 v70 := Tryz.zeroValue77
 t72 := Tryz.underlying79
 a72 := Tryz.isAgg79
 z72 := Tryz.sizeOf79
 v72 := Tryz.zeroValue79
 t75 := Tryz.underlying82
 a75 := Tryz.isAgg82
 z75 := Tryz.sizeOf82
 v75 := Tryz.zeroValue82
 t76 := Tryz.underlying83
 a76 := Tryz.isAgg83
 z76 := Tryz.sizeOf83
 v76 := Tryz.zeroValue83
 t127 := Tryz.underlying103
 a127 := Tryz.isAgg103
 z127 := Tryz.sizeOf103
 v127 := Tryz.zeroValue103
 t164 := Tryz.underlying105
 a164 := Tryz.isAgg105
 z164 := Tryz.sizeOf105
 v164 := Tryz.zeroValue105 }
theorem Tryz.Builder_Extra_156 : Builder.Extra Tryz.prog Tryz.lays156_ren := {
 sizeBuilder := by kernel_rfl
 liesBuilder := by kernel_rfl
 t5 := Tryz.underlying5
 a5 := Tryz.isAgg5
 z5 := Tryz.sizeOf5
 v5 := Tryz.zeroValue5
 infoByte := by kernel_rfl
 cellsByte := by kernel_rfl
 sizeByte := by kernel_rfl
 neB5 := by decide }
open Go.RowKit in
theorem Tryz.strings_Join (bk o c : Nat) (xs : List ByteArray) (sep : ByteArray) (w : World) (hcells : ∀ (j : Nat) x, xs[j]? = some x → w.cell? ⟨bk, o + j, none⟩ = some (.string x)) (hbk : bk < w.heap.size) (hN : xs.length ≤ 140737488355328) (hcap : xs.length ≤ c) (hlen : (Lib.join (xs.map (·.data.toList)) sep.data.toList).length ≤ 140737488355328) :
  Calls Tryz.prog 27 #[.slice (some ⟨bk, o, none⟩) xs.length c, .string sep] w fun e w' => e = .returned (.string ⟨(Lib.join (xs.map (·.data.toList)) sep.data.toList).toArray⟩) ∧ Below w.heap.size w w' := Any.strings_Join Tryz.lays156 Tryz.Builder_Extra_156 bk o c xs sep w hcells hbk hN hcap hlen
def Tryz.laysM171_ren : Go.Shelf.Ren := ⟨fun | 171 => 60 | 243 => 68 | 246 => 76 | 283 => 83 | 284 => 84 | 285 => 85 | 286 => 86 | 129 => 92 | 317 => 91 | 318 => 93 | 319 => 94 | 320 => 95 | 337 => 99 | 338 => 100 | n => n, fun | 3 => 3 | 9 => 9 | 2 => 2 | 4 => 4 | 171 => 118 | 0 => 0 | 53 => 119 | 37 => 22 | 5 => 5 | 173 => 122 | 212 => 128 | 51 => 129 | 20 => 20 | 213 => 130 | 46 => 131 | 232 => 135 | 233 => 136 | n => n, fun | 17 => 1 | 18 => 2 | 19 => 3 | n => n⟩
theorem Tryz.laysM171 : Go.Proofs.LaysM.n171 Tryz.prog Tryz.laysM171_ren := {
 mixed := by kernel_rfl
 f129 := Tryz.func92.trans (congrArg some (by kernel_rfl))
 f171 := Tryz.func60.trans (congrArg some (by kernel_rfl))
 f243 := Tryz.func68.trans (congrArg some (by kernel_rfl))
 f246 := Tryz.func76.trans (congrArg some (by kernel_rfl))
 f283 := Tryz.func83.trans (congrArg some (by kernel_rfl))
 f284 := Tryz.func84.trans (congrArg some (by kernel_rfl))
 f285 := Tryz.func85.trans (congrArg some (by kernel_rfl))
 f286 := Tryz.func86.trans (congrArg some (by kernel_rfl))
 f317 := Tryz.func91.trans (congrArg some (by kernel_rfl))
 f318 := Tryz.func93.trans (congrArg some (by kernel_rfl))
 f319 := Tryz.func94.trans (congrArg some (by kernel_rfl))
 f320 := Tryz.func95.trans (congrArg some (by kernel_rfl))
 f337 := Tryz.func99.trans (congrArg some (by kernel_rfl))
 f338 := Tryz.func100.trans (congrArg some (by kernel_rfl))
 t0 := Tryz.underlying0
 a0 := Tryz.isAgg0
 z0 := Tryz.sizeOf0
 v0 := Tryz.zeroValue0
 t2 := Tryz.underlying2
 a2 := Tryz.isAgg2
 z2 := Tryz.sizeOf2
 v2 := Tryz.zeroValue2
 t3 := Tryz.underlying3
 a3 := Tryz.isAgg3
 z3 := Tryz.sizeOf3
 v3 := Tryz.zeroValue3
 t4 := Tryz.underlying4
 a4 := Tryz.isAgg4
 z4 := Tryz.sizeOf4
 v4 := Tryz.zeroValue4
 t5 := Tryz.underlying5
 a5 := Tryz.isAgg5
 z5 := Tryz.sizeOf5
 v5 := Tryz.zeroValue5
 t9 := Tryz.underlying9
 a9 := Tryz.isAgg9
 z9 := Tryz.sizeOf9
 v9 := Tryz.zeroValue9
 t20 := Tryz.underlying20
 a20 := Tryz.isAgg20
 z20 := Tryz.sizeOf20
 v20 := Tryz.zeroValue20
 t37 := Tryz.underlying22
 a37 := Tryz.isAgg22
 z37 := Tryz.sizeOf22
 v37 := Tryz.zeroValue22
 t46 := Tryz.underlying131
 a46 := Tryz.isAgg131
 z46 := Tryz.sizeOf131
 v46 := Tryz.zeroValue131
 t51 := Tryz.underlying129
 a51 := Tryz.isAgg129
 z51 := Tryz.sizeOf129
 v51 := Tryz.zeroValue129
 t53 := Tryz.underlying119
 a53 := Tryz.isAgg119
 z53 := Tryz.sizeOf119
 v53 := Tryz.zeroValue119
 t171 := Tryz.underlying118
 a171 := Tryz.isAgg118
 z171 := Tryz.sizeOf118
 v171 := Tryz.zeroValue118
 t173 := Tryz.underlying122
 a173 := Tryz.isAgg122
 z173 := Tryz.sizeOf122
 v173 := Tryz.zeroValue122
 t212 := Tryz.underlying128
 a212 := Tryz.isAgg128
 z212 := Tryz.sizeOf128
 v212 := Tryz.zeroValue128
 t213 := Tryz.underlying130
 a213 := Tryz.isAgg130
 z213 := Tryz.sizeOf130
 t232 := Tryz.underlying135
 a232 := Tryz.isAgg135
 z232 := Tryz.sizeOf135
 v232 := Tryz.zeroValue135
 t233 := Tryz.underlying136
 a233 := Tryz.isAgg136
 z233 := Tryz.sizeOf136
 v233 := Tryz.zeroValue136
 g17 := by kernel_rfl
 g18 := by kernel_rfl
 g19 := by kernel_rfl
 i0 := by kernel_rfl
 i2 := by kernel_rfl
 i3 := by kernel_rfl
 i4 := by kernel_rfl
 i5 := by kernel_rfl
 i9 := by kernel_rfl
 i20 := by kernel_rfl
 i37 := by kernel_rfl
 i46 := by kernel_rfl
 i51 := by kernel_rfl
 i53 := by kernel_rfl
 i171 := by kernel_rfl
 i173 := by kernel_rfl
 i212 := by kernel_rfl
 i232 := by kernel_rfl
 i233 := by kernel_rfl
 m17 := by kernel_rfl
 m18 := by kernel_rfl
 m19 := by kernel_rfl }
open Go.RowKit Go.Sort Go.Lib in
theorem Tryz.strconv_Itoa (n : Int) (h0 : -9223372036854775808 ≤ n) (h1 : n ≤ 9223372036854775807) (w : World) (htab : Lib.TabIs Tryz.prog w "internal/strconv.uint64pow10" .u64 Lib.pow10Tab) :
  Calls Tryz.prog 60 #[.int .i64 n] w fun e w' => e = .returned (.string ⟨(Lib.itoa n).toArray⟩) ∧ ∃ k os, w' = grow (w.drewN k) os := Any.strconv_Itoa Tryz.laysM171 n h0 h1 w htab
end Go.Proofs
section
namespace Go.Proofs.YtoehhbkhdddeeaaGreatDoor
open Go Go.RowKit
set_option linter.unusedVariables false
set_option linter.unusedSimpArgs false
set_option maxRecDepth 100000
set_option maxHeartbeats 16000000
theorem slStr : SlTy Tryz.prog 62 9 (.string ByteArray.empty) 1 16 :=
 ⟨Tryz.underlying62, by kernel_rfl, rfl, by omega⟩
def za2 (s : ByteArray) : List CD := [.str s]
theorem Tm.shape_kids {t : Tm} {d : Int} (h : Tm.shape t d = true) : ∀ k ∈ t.kids, Tm.shape k (d - 1) = true := by
 rw [Tm.shape_eq] at h
 simp only [zdY] at h
 have h2 := h.2
 rw [Tm.shapes_all, List.all_eq_true] at h2
 exact h2
theorem Tm.shape_len {t : Tm} {d : Int} (h : Tm.shape t d = true) : t.kids.length ≤ 2 ∧ zO t.name = true := by
 rw [Tm.shape_eq] at h
 simp only [zdY, decide_eq_true_eq] at h
 exact ⟨h.1.2, h.1.1.2⟩
theorem sz1 (c : UInt8) : (⟨#[c]⟩ : ByteArray).size = 1 := rfl
theorem zv (P : Program) (a b : ByteArray) (h : a.size + b.size ≤ 9223372036854775807) : ∀ W, (Op.stringOp .add a b).run P W = .ok (.string (a ++ b)) W := fun W => run_string_add_sum W a b h
theorem strFlat : ∀ (xs : List ByteArray), (xs.map za2).flatten = xs.map CD.str
 | [] => rfl
 | a :: l => by simp only [List.map_cons, List.flatten_cons, strFlat l, za2]; rfl
theorem rd_rows {w : World} {es : List (List CD)} {b off n c : Nat} {fp : List Nat} (h : Rd w (.sl es) (.slice (some ⟨b, off, none⟩) n c) fp) (hne : es ≠ []) : ∃ f, RdRows w b off es f := by
 simp only [Rd] at h
 obtain ⟨a', c', h1, _, _, h2 | ⟨_, b', off', f, rfl, _, _, h3⟩⟩ := h
 ·exact absurd h2.1 hne
 ·simp only [Value.slice.injEq, Option.some.injEq, Addr.mk.injEq] at h1
  obtain ⟨⟨rfl, rfl, _⟩, _⟩ := h1
  exact ⟨f, h3⟩
theorem strRows {w : World} {b off : Nat} {xs : List ByteArray} {f : List Nat} (h : RdRows w b off (xs.map za2) f) : ∀ (j : Nat) x, xs[j]? = some x → w.cell? ⟨b, off + j, none⟩ = some (.string x) := by
 intro j x hj
 obtain ⟨vs, hc, hr⟩ := h.flat
 rw [strFlat] at hr
 have : ∀ (xs : List ByteArray) (vs : List Value) (f : List Nat) (j : Nat) (x : ByteArray), RdVs w (xs.map CD.str) vs f → xs[j]? = some x → vs[j]? = some (.string x) := by
  intro xs
  induction xs with
  | nil => intro vs f j x _ hj; simp at hj
  | cons a l ih =>
   intro vs f j x hr hj
   simp only [List.map_cons, RdVs] at hr
   obtain ⟨v, us, f1, f2, rfl, rfl, h1, h2⟩ := hr
   simp only [Rd] at h1
   cases j with
   | zero => simp at hj ⊢; subst hj; exact h1.1
   | succ j => simp at hj ⊢; exact ih us f2 j x h2 hj
 exact hc j _ (this xs vs _ j x hr hj)
theorem zM (n : Nat) : ∀ (t : Tm) (d : Int) (v : Value) (w : World), t.size ≤ n → t.size ≤ 1100000 → Tm.shape t d = true → TmR w t v →
  Calls Tryz.prog 54 #[v] w fun e w' => e = .returned (.string t.text) ∧ Below w.heap.size w w' := by
 induction n with
 | zero => intro t; have := t.size_pos; omega
 | succ n ih =>
  rintro t d v w hn hbig hsh ⟨kv, rfl, hs, hk⟩
  obtain ⟨a, cap, rfl, hc1, hc2⟩ := hk.form
  have HK : Hid (∀ x ∈ t.kids, x.size ≤ n) := fun x hx => by have := Tm.size_kid_mem hx; omega
  have HS : Hid (∀ x ∈ t.kids, Tm.shape x (d - 1) = true) := Lib.hid (Tm.shape_kids hsh)
  have hlen := (Tm.shape_len hsh).1
  have hnm := Tm.nameB_size (Tm.shape_len hsh).2
  have HJ := Lib.hid (Tm.join_len t d hsh)
  have HX := Lib.hid (fun h : 0 < t.kids.length => Tm.text_join t h)
  have HT0 := Lib.hid (Tm.text_none t)
  have IH := Lib.hid ih
  clear ih
  by_cases h0 : t.kids.length = 0
  ·have HE := Lib.hid (HT0.out h0)
   have h0' : ((t.kids.length : Int) == 0) = true := by simp [h0]
   clear hnm
   go_enter Tryz.func54, Tryz.ntmps54
   go_wp2_with fail
   go_ret
   exact ⟨retS HE.out.symm, za _ _⟩
  have h0' : ((t.kids.length : Int) == 0) = false := by simpa using h0
  go_enter Tryz.func54, Tryz.ntmps54
  go_wp2_with fail
  go_loopw [3, 15] (fun ov i wr => ∃ (k : Nat) (fp : List Nat), k ≤ t.kids.length ∧ i = .int .i64 k ∧ Own wr (w.heap.size + 1) 9 1 ov (((t.kids.take k).map Tm.text).map za2) fp ∧ fp = [] ∧ Below (w.heap.size + 1) (w.alloc (.cells #[.string t.name, .slice a t.kids.length cap] 25)) wr) (fun _ i _ => t.kids.length - (intOf i).toNat)
  case atStart => exact ⟨0, [], Nat.zero_le _, rfl, Own.nil _ _ _ _, rfl, Below.refl _ _⟩
  case round =>
   obtain ⟨k, fp, hkl, rfl, hown, rfl, hb⟩ := hrel
   obtain ⟨hx, hz, hB⟩ := box1 hb
   by_cases hlt : k < t.kids.length
   ·obtain ⟨b, off, rfl, hbs⟩ := hk.addr (by omega)
    obtain ⟨ka, kc, c0, c1, hss, hkk⟩ := (hk.below hB).at hlt
    have hbz : b < wr.heap.size := by omega
    have hks := Tm.size_mem (zdT hlt)
    rw [Tm.size_eq] at hbig
    go_wp2_with fail
    refine (IH.out t.kids[k] (d - 1) _ _ (HK.out _ (zdT hlt)) (by omega) (HS.out _ (zdT hlt)) (by exact (TmR.mk hss hkk).below ((Below.refl _ _).alloc (Nat.le_refl _) _))).mono ?_
    rintro e w2 ⟨rfl, hb2⟩
    have hbw : Below wr.heap.size wr w2 := ((Below.refl _ _).alloc (Nat.le_refl _) _).trans (hb2.mono (by simp))
    have hz2 := hbw.size
    have hown2 := (hown.below (hbw.alloc hz2 (.cells #[.string t.kids[k].text] 9)))
    have hl : (((t.kids.take k).map Tm.text).map za2).length ≤ t.kids.length := by simp; omega
    have htx : t.kids[k].text.size ≤ maxLen := by
     have h1 := Tm.bs_len t.kids[k] (d - 1) (HS.out _ (zdT hlt))
     rw [Tm.text_size]; simp only [maxLen]; omega
    go_wp2_with (at_builtin; refine zq slStr rfl _ _ rfl (w.heap.size + 1) _ _ _ rfl hown2 ⟨w2.heap.size, 0, none⟩ 1 1 [za2 t.kids[k].text] [.string t.kids[k].text] [] rfl rfl ?rd ?k ?cells ?na ?bytes ?len ?base ?next)
    case rd => simp only [za2, List.flatten_cons, List.flatten_nil, List.append_nil]; exact RdVs.single (by simp only [Rd]; exact ⟨trivial, htx, trivial⟩)
    case k => simp [za2]
    case cells => exact zp _ _ _
    case na => simp
    case bytes => omega
    case len => omega
    case base => simp; omega
    case next =>
     intro v' w4 hown4 hg hv' hs4
     go_wp2_with fail
     go_roundw
     case rel =>
      refine ⟨k + 1, _, by omega, by go_num, ?_, rfl, ?_⟩
      ·rw [zdR hlt, zdV, zdV]; simpa using hown4
      ·exact zk ((hb.trans (hbw.mono hz)).alloc (by omega) _) hg (by simp; omega) (fun k hk => (hown.block hk).1)
     case measure => simp [intOf]; omega
   ·have he : t.kids.take k = t.kids := List.take_of_length_le (by omega)
    rw [he] at hown
    clear he
    obtain ⟨fp', hr⟩ := hown.rd'
    obtain ⟨oa, ocap, rfl, ho1, ho2⟩ := ze hr
    obtain ⟨b', off', rfl, hbs', _⟩ := zl hr (by simp; omega)
    obtain ⟨fr, hrows⟩ := rd_rows hr (by simp; intro h; rw [h] at h0; simp at h0)
    have HX2 := Lib.hid (HX.out (by omega))
    have HJ2 := Lib.hid HJ.out
    have cx0 := hx 0
    simp only [zdP, zdN, zdO] at cx0
    obtain ⟨J, hJ⟩ : ∃ J : ByteArray, ⟨(Lib.join ((t.kids.map Tm.text).map (·.data.toList)) [44]).toArray⟩ = J := ⟨_, rfl⟩
    have hJs : J.size ≤ 4 * t.size := by rw [← hJ]; have := HJ2.out; simpa [ByteArray.size] using this
    have HT := HX2.out
    rw [hJ] at HT
    obtain ⟨y1, hy1⟩ : ∃ y, t.name ++ ⟨#[40]⟩ = y := ⟨_, rfl⟩
    obtain ⟨y2, hy2⟩ : ∃ y, y1 ++ J = y := ⟨_, rfl⟩
    have hs1 : y1.size = t.name.size + 1 := by rw [← hy1, ByteArray.size_append]; rfl
    have hs2 : y2.size = y1.size + J.size := by rw [← hy2, ByteArray.size_append]
    rw [hy1, hy2] at HT
    have ha1 := zv Tryz.prog t.name ⟨#[40]⟩ (by rw [sz1]; omega)
    have ha2 := zv Tryz.prog y1 J (by omega)
    have ha3 := zv Tryz.prog y2 ⟨#[41]⟩ (by rw [sz1]; omega)
    rw [hy1] at ha1
    rw [hy2] at ha2
    rw [HT] at ha3
    have hno1 : ¬ (t.name.size + 1 > 9223372036854775807) := by omega
    have hno2 : ¬ (y1.size + J.size > 9223372036854775807) := by omega
    have hno3 : ¬ (y2.size + 1 > 9223372036854775807) := by omega
    have HCJ : Hid (∀ W, Below wr.heap.size wr W → Calls Tryz.prog 27 #[.slice (some ⟨b', off', none⟩) t.kids.length ocap, .string ⟨#[44]⟩] W fun e w' => e = .returned (.string J) ∧ Below W.heap.size W w') := Lib.hid (fun W hW => by
     have h := Tryz.strings_Join b' off' ocap (t.kids.map Tm.text) ⟨#[44]⟩ W (fun j x hj => zb (strRows hrows j x hj) hW) (zdQ hbs' hW.size) (by simp; omega) (by simpa using ho1) (by have := HJ2.out; simp only at this ⊢; omega)
     rw [zdX] at h
     rw [← hJ]
     exact h)
    clear hJ hy1 hy2 HT hJs hs1 hs2 HX2 HJ2 hrows hr hown
    go_wp2_with fail
    have q0 := cell_regrown cx0
    refine wp_region_quiet_below (by kernel_rfl) (by kernel_rfl) ?_
    repeat (first | go_big_quiet_skip | quiet_step ((go_at_call 27; refine Calls.regrown_of (HCJ.out _ (below_regrown _ _ _)))))
    refine wpQuiet_nil ?_
    intro w9 hw9
    obtain ⟨⟨dq, osq⟩, hw9⟩ := hw9
    have hb9 : Below wr.heap.size wr w9 := hw9 ▸ below_regrown wr dq osq
    clear hw9 q0
    go_wp2_with fail
    go_ret
    exact ⟨rfl, hB.trans (hb9.mono hB.size)⟩
theorem zae (n : Nat) : ∀ (t : Tm) (d : Int) (v : Value) (w : World), t.size ≤ n → t.size ≤ 1100000 → Tm.shape t d = true → TmR w t v →
  Calls Tryz.prog 66 #[v] w fun e w' => e = .returned (.string t.text) ∧ Below w.heap.size w w' := by
 induction n with
 | zero => intro t; have := t.size_pos; omega
 | succ n ih =>
  rintro t d v w hn hbig hsh ⟨kv, rfl, hs, hk⟩
  obtain ⟨a, cap, rfl, hc1, hc2⟩ := hk.form
  have HK : Hid (∀ x ∈ t.kids, x.size ≤ n) := fun x hx => by have := Tm.size_kid_mem hx; omega
  have HS : Hid (∀ x ∈ t.kids, Tm.shape x (d - 1) = true) := Lib.hid (Tm.shape_kids hsh)
  have hlen := (Tm.shape_len hsh).1
  have HU := Lib.hid (fun k => Tm.upto_size t k d hsh)
  have HU2 := Lib.hid (fun k h => Tm.upto_succ t k h)
  have HA := Lib.hid (fun h : 0 < t.kids.length => Tm.upto_all t h)
  have HT0 := Lib.hid (Tm.text_none t)
  have HZ := Lib.hid (Tm.upto_zero t)
  have IH := Lib.hid ih
  clear ih
  go_enter Tryz.func66, Tryz.ntmps66
  go_wp2_with fail
  go_loopw [3, 4] (fun ov i wr => ∃ (k : Nat), k ≤ t.kids.length ∧ i = .int .i64 k ∧ ov = .string (t.upto k) ∧ Below (w.heap.size + 1) (w.alloc (.cells #[.string t.name, .slice a t.kids.length cap] 25)) wr) (fun _ i _ => t.kids.length - (intOf i).toNat)
  case atStart => exact ⟨0, Nat.zero_le _, rfl, by rw [HZ.out], Below.refl _ _⟩
  case round =>
   obtain ⟨k, hkl, rfl, rfl, hb⟩ := hrel
   obtain ⟨hx, hz, hB⟩ := box1 hb
   have cx1 := hx 1
   simp only [zdP, zdN, zdO] at cx1
   have hu := HU.out k
   by_cases hlt : k < t.kids.length
   ·obtain ⟨b, off, rfl, hbs⟩ := hk.addr (by omega)
    obtain ⟨ka, kc, c0, c1, hss, hkk⟩ := (hk.below hB).at hlt
    have hbz : b < wr.heap.size := by omega
    have hks := Tm.size_mem (zdT hlt)
    have hsz0 := Tm.size_eq t
    have htx : t.kids[k].text.size ≤ 4400000 := by
     have h1 := Tm.bs_len t.kids[k] (d - 1) (HS.out _ (zdT hlt))
     rw [Tm.text_size]; omega
    have HN := Lib.hid (HU2.out k hlt)
    by_cases hk0 : k = 0
    ·have tk : ((k : Int) == 0) = true := by simp [hk0]
     have HSG : Hid (Tm.sign k = ⟨#[40]⟩) := Lib.hid (by simp [Tm.sign, hk0])
     obtain ⟨y1, hy1⟩ : ∃ y, t.upto k ++ ⟨#[40]⟩ = y := ⟨_, rfl⟩
     have ha1 := zv Tryz.prog (t.upto k) ⟨#[40]⟩ (by rw [sz1]; omega) wr
     have hno1 : ¬ ((t.upto k).size + (⟨#[40]⟩ : ByteArray).size > 9223372036854775807) := by rw [sz1]; omega
     have hno2 : ¬ ((t.upto k).size + 1 > 9223372036854775807) := by omega
     have ha2' := zv Tryz.prog (t.upto k ++ ⟨#[40]⟩) t.kids[k].text (by rw [ByteArray.size_append, sz1]; omega)
     have HN2 : Hid ((t.upto k ++ ⟨#[40]⟩) ++ t.kids[k].text = t.upto (k + 1)) := Lib.hid (by rw [HN.out, HSG.out])
     have hno3 : ¬ ((t.upto k ++ ⟨#[40]⟩).size + t.kids[k].text.size > 9223372036854775807) := by rw [ByteArray.size_append, sz1]; omega
     rw [hy1] at hno3
     rw [HN2.out, hy1] at ha2'
     rw [hy1] at ha1
     have HY := Lib.hid ha2'
     clear hy1 ha2' hu hk0
     go_wp2_with fail
     refine (IH.out t.kids[k] (d - 1) _ _ (HK.out _ (zdT hlt)) (by omega) (HS.out _ (zdT hlt)) (by exact TmR.mk hss hkk)).mono ?_
     rintro e w2 ⟨rfl, hb2⟩
     have ha2 := HY.out w2
     go_wp2_with fail
     go_roundw
     case rel => exact ⟨k + 1, by omega, by go_num, rfl, hb.trans (hb2.mono hz)⟩
     case measure => simp [intOf]; omega
    ·have tk : ((k : Int) == 0) = false := by simp [hk0]
     have HSG : Hid (Tm.sign k = ⟨#[44]⟩) := Lib.hid (by simp [Tm.sign, hk0])
     obtain ⟨y1, hy1⟩ : ∃ y, t.upto k ++ ⟨#[44]⟩ = y := ⟨_, rfl⟩
     have ha1 := zv Tryz.prog (t.upto k) ⟨#[44]⟩ (by rw [sz1]; omega) wr
     have hno1 : ¬ ((t.upto k).size + (⟨#[44]⟩ : ByteArray).size > 9223372036854775807) := by rw [sz1]; omega
     have hno2 : ¬ ((t.upto k).size + 1 > 9223372036854775807) := by omega
     have ha2' := zv Tryz.prog (t.upto k ++ ⟨#[44]⟩) t.kids[k].text (by rw [ByteArray.size_append, sz1]; omega)
     have HN2 : Hid ((t.upto k ++ ⟨#[44]⟩) ++ t.kids[k].text = t.upto (k + 1)) := Lib.hid (by rw [HN.out, HSG.out])
     have hno3 : ¬ ((t.upto k ++ ⟨#[44]⟩).size + t.kids[k].text.size > 9223372036854775807) := by rw [ByteArray.size_append, sz1]; omega
     rw [hy1] at hno3
     rw [HN2.out, hy1] at ha2'
     rw [hy1] at ha1
     have HY := Lib.hid ha2'
     clear hy1 ha2' hu hk0
     go_wp2_with fail
     refine (IH.out t.kids[k] (d - 1) _ _ (HK.out _ (zdT hlt)) (by omega) (HS.out _ (zdT hlt)) (by exact TmR.mk hss hkk)).mono ?_
     rintro e w2 ⟨rfl, hb2⟩
     have ha2 := HY.out w2
     go_wp2_with fail
     go_roundw
     case rel => exact ⟨k + 1, by omega, by go_num, rfl, hb.trans (hb2.mono hz)⟩
     case measure => simp [intOf]; omega
   ·obtain rfl : k = t.kids.length := by omega
    by_cases h0 : t.kids.length = 0
    ·have HE : Hid (t.text = t.upto t.kids.length) := Lib.hid (by rw [HT0.out h0, h0, HZ.out])
     have h0' : decide ((0 : Int) < (t.kids.length : Int)) = false := by simp [h0]
     go_wp2_with fail
     go_ret
     exact ⟨retS HE.out.symm, hB⟩
    ·have HE := Lib.hid (HA.out (by omega))
     have h0' : decide ((0 : Int) < (t.kids.length : Int)) = true := by simp; omega
     have ha1 := zv Tryz.prog (t.upto t.kids.length) ⟨#[41]⟩ (by rw [sz1]; omega) wr
     rw [HE.out] at ha1
     go_wp2_with fail
     go_ret
     exact ⟨rfl, hB⟩
theorem zbN (t : Tm) (v : Value) (w : World) (hv : TmR w t v) : Calls Tryz.prog 52 #[v] w fun e w' => e = .returned (.bool t.noneB) ∧ Below w.heap.size w w' := by
 obtain ⟨kv, rfl, hs, hk⟩ := hv
 obtain ⟨a, cap, rfl, hc1, hc2⟩ := hk.form
 have HB : Hid (t.noneB = (t.name.toList == [] && ((t.kids.length : Int) == 0))) := Lib.hid rfl
 cases h1 : (t.name.toList == [])
 all_goals
  have H1 := Lib.hid h1
  go_enter Tryz.func52, Tryz.ntmps52
  go_wp2_with fail
  go_ret
  exact ⟨retB (by rw [HB.out, H1.out]; first | rfl | simp | (simp [Bool.beq_eq_decide_eq])), za _ _⟩
theorem zbO (t : Tm) (v : Value) (w : World) (hv : TmR w t v) : Calls Tryz.prog 96 #[v] w fun e w' => e = .returned (.bool t.noneB) ∧ Below w.heap.size w w' := by
 obtain ⟨kv, rfl, hs, hk⟩ := hv
 obtain ⟨a, cap, rfl, hc1, hc2⟩ := hk.form
 have HB : Hid (t.noneB = (t.name.toList == [] && ((t.kids.length : Int) == 0))) := Lib.hid rfl
 cases h1 : (t.name.toList == [])
 all_goals
  have H1 := Lib.hid h1
  go_enter Tryz.func96, Tryz.ntmps96
  go_wp2_with fail
  go_ret
  exact ⟨retB (by rw [HB.out, H1.out]; first | rfl | simp | (simp [Bool.beq_eq_decide_eq])), za _ _⟩
end Go.Proofs.YtoehhbkhdddeeaaGreatDoor
end
