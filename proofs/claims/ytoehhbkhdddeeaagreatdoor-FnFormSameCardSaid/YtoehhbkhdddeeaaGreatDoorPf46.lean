/- Parts of the proof: FormX. -/
import Derived.Test.YtoehhbkhdddeeaaGreatDoorPf45
import Derived.Test.YtoehhbkhdddeeaaGreatDoorPf35
section
namespace Go.Proofs.YtoehhbkhdddeeaaGreatDoor
open Go Go.RowKit
set_option linter.unusedVariables false
set_option linter.unusedSimpArgs false
set_option maxRecDepth 100000
set_option maxHeartbeats 16000000
theorem Fm.sgn_cut {k : Int} (h : k = 2 ∨ k = 3 ∨ k = 4 ∨ k = 5 ∨ k = 6) (W : World) : (Instr.slice 9 (.string ⟨#[123, 33, 38, 124, 62, 126]⟩) (some (.int .i64 (k - 1))) (some (.int .i64 k)) none).run Tryz.prog W = .ok (.string ⟨#[Fm.sgn k]⟩) W := by
 have hs : (⟨#[123, 33, 38, 124, 62, 126]⟩ : ByteArray).size = 6 := rfl
 rw [run_slice_string W 9 _ .i64 .i64 (k - 1) k Tryz.underlying9 (by omega) (by omega) (by rw [hs]; omega)]
 rcases h with rfl | rfl | rfl | rfl | rfl <;> rfl
theorem Fm.sgn_ex {k : Int} (h : k = 2 ∨ k = 3 ∨ k = 4 ∨ k = 5 ∨ k = 6) : (⟨#[123, 33, 38, 124, 62, 126]⟩ : ByteArray).extract (k - 1).toNat k.toNat = ⟨#[Fm.sgn k]⟩ := by
 rcases h with rfl | rfl | rfl | rfl | rfl <;> rfl
theorem zcs (n : Nat) : ∀ (f : Fm) (d : Nat) (vs : List Value) (ff : List Nat) (w : World), ndV f.cd ≤ n → wtV f.cd ≤ 1048576 → Fm.shape d f = true → Fm.many d f ≤ 10 → RdVs w f.cd vs ff → Tab9 w →
  Calls Tryz.prog 16 #[.agg vs.toArray] w fun e w' => e = .returned (.string f.text) ∧ Below w.heap.size w w' := by
 induction n with
 | zero =>
  intro f d vs ff w hn; have h : 0 < ndV f.cd := by rw [Fm.cd_eq]; simp [ndV, ndC]; try omega
  omega
 | succ n ih =>
 intro f d vs ff w hn hbig hsh hmn hv htab
 have HN : Hid (∀ k ∈ f.kids, ndV k.cd ≤ n) := fun k hk => by have := Fm.kid_nd hk; omega
 have IH := Lib.hid ih
 clear ih
 obtain ⟨a3, c3, f3, a5, c5, f5, a6, c6, f6, a7, c7, f7, a11, c11, f11, rfl, -, m0, m1, m2, m3, m4, m5, m6, m7, m8, m9⟩ := Fm.open hv
 clear hv
 have hli := Lt.close (x := f.lit) m1 m2 m3 m4 m5 m6 m7 m8
 have hw := Nat.le_of_eq (Fm.wt_eq f).symm
 have hb0 := za w (.cells #[.int .i64 f.kind, .int .i64 f.lit.atom.kind, .string f.lit.atom.a.name, .slice a3 f.lit.atom.a.kids.length c3, .string f.lit.atom.b.name, .slice a5 f.lit.atom.b.kids.length c5, .slice a6 f.lit.atom.nums.length c6, .slice a7 f.lit.atom.times.length c7, .int .i64 f.lit.atom.bound, .bool f.lit.atom.strict, .bool f.lit.no, .slice a11 f.kids.length c11] 33)
 by_cases k1 : f.kind = 1
 ·have t1 : (f.kind == 1) = true := by simp [k1]
  have hok := Fm.shape_lit hsh k1
  have hsm := Lt.small_of (x := f.lit) (by omega)
  have HT := Lib.hid (Fm.text_lit f k1)
  have h9 := zcV f.lit hok _ _ _ hsm (by exact hli.below hb0) (htab.below hb0)
  have hz := Lt.text_size (Atm.text_ok hok)
  have z1 : (⟨#[123]⟩ : ByteArray).size = 1 := rfl
  have z2 : (⟨#[125]⟩ : ByteArray).size = 1 := rfl
  generalize f.lit.text = tx at *
  obtain ⟨y1, hy1⟩ : ∃ y, (⟨#[123]⟩ : ByteArray) ++ tx = y := ⟨_, rfl⟩
  have hs1 : y1.size ≤ 405 := by rw [← hy1, ByteArray.size_append]; omega
  have ha1 := zv Tryz.prog ⟨#[123]⟩ tx (by omega)
  have hno1 : ¬ ((⟨#[123]⟩ : ByteArray).size + tx.size > 9223372036854775807) := by omega
  have ha2 := zv Tryz.prog y1 ⟨#[125]⟩ (by omega)
  have hno2 : ¬ (y1.size + (⟨#[125]⟩ : ByteArray).size > 9223372036854775807) := by omega
  have HT2 : Hid (y1 ++ ⟨#[125]⟩ = f.text) := Lib.hid (by rw [← hy1]; exact HT.out)
  rw [hy1] at ha1
  rw [HT2.out] at ha2
  clear hy1 HT k1 hok hsh
  go_enter Tryz.func16, Tryz.ntmps16
  go_wp2_with fail
  refine h9.mono ?_
  rintro e w1 ⟨rfl, hb1⟩
  go_wp2_with fail
  go_ret
  exact ⟨rfl, hb0.trans (hb1.mono hb0.size)⟩
 ·have t1 : (f.kind == 1) = false := by simp [k1]
  obtain ⟨hks, hd1, hl0, hl2, hk5⟩ := Fm.shape_kind hsh k1
  have HS : Hid (∀ k ∈ f.kids, Fm.shape (d - 1) k = true) := fun k hk => Fm.shapes_mem hks hk
  have HM : Hid (∀ k ∈ f.kids, Fm.many (d - 1) k ≤ 10) := fun k hk => by
   have h1 := Fm.manys_mem (d := d - 1) hk
   rw [Fm.many_eq, if_pos (by omega)] at hmn
   omega
  have HZ : Hid (∀ k ∈ f.kids, k.text.size ≤ 5000) := fun k hk => by
   have h1 := Fm.bs_len k (d - 1) (Fm.shapes_mem hks hk)
   have h2 := HM.out k hk
   rw [Fm.text_len]; omega
  have HX := Lib.hid (Fm.text_join f k1)
  have HJ := Lib.hid (Nat.le_trans (Fm.join_len f d k1 hsh) (show 411 * Fm.many d f ≤ 5000 by omega))
  have HCUT := Lib.hid (Fm.sgn_cut hk5)
  have HEX := Lib.hid (Fm.sgn_ex hk5)
  have HSG : Hid ((⟨#[Fm.sgn f.kind]⟩ : ByteArray).size = 1) := Lib.hid rfl
  have hk2 : 2 ≤ f.kind := by omega
  have hk6 : f.kind ≤ 6 := by omega
  clear k1 hsh hmn hks hk5
  go_enter Tryz.func16, Tryz.ntmps16
  go_wp2_with fail
  go_loopw [3, 17] (fun ov i wr => ∃ (k : Nat) (fp : List Nat), k ≤ f.kids.length ∧ i = .int .i64 k ∧ Own wr (w.heap.size + 1) 9 1 ov (((f.kids.take k).map Fm.text).map za2) fp ∧ fp = [] ∧ Below (w.heap.size + 1) (w.alloc (.cells #[.int .i64 f.kind, .int .i64 f.lit.atom.kind, .string f.lit.atom.a.name, .slice a3 f.lit.atom.a.kids.length c3, .string f.lit.atom.b.name, .slice a5 f.lit.atom.b.kids.length c5, .slice a6 f.lit.atom.nums.length c6, .slice a7 f.lit.atom.times.length c7, .int .i64 f.lit.atom.bound, .bool f.lit.atom.strict, .bool f.lit.no, .slice a11 f.kids.length c11] 33)) wr) (fun _ i _ => f.kids.length - (intOf i).toNat)
  case atStart => exact ⟨0, [], Nat.zero_le _, rfl, Own.nil _ _ _ _, rfl, Below.refl _ _⟩
  case round =>
   obtain ⟨k, fp, hkl, rfl, hown, rfl, hbx⟩ := hrel
   obtain ⟨hx, hz, hB⟩ := box1 (w := w) (wr := wr) (cs := #[.int .i64 f.kind, .int .i64 f.lit.atom.kind, .string f.lit.atom.a.name, .slice a3 f.lit.atom.a.kids.length c3, .string f.lit.atom.b.name, .slice a5 f.lit.atom.b.kids.length c5, .slice a6 f.lit.atom.nums.length c6, .slice a7 f.lit.atom.times.length c7, .int .i64 f.lit.atom.bound, .bool f.lit.atom.strict, .bool f.lit.no, .slice a11 f.kids.length c11]) (T := 33) hbx
   have C0 := hx 0
   simp only [zdP, zdN, zdO] at C0
   by_cases hlt : k < f.kids.length
   ·obtain ⟨b, off, rfl, hbs, _⟩ := zl m9 (by omega)
    obtain ⟨b3, e3, g3, b5, e5, g5, b6, e6, g6, b7, e7, g7, b11, e11, g11, d0, d1, d2, d3, d4, d5, d6, d7, d8, d9, d10, d11, n0, n1, n2, n3, n4, n5, n6, n7, n8, n9, _⟩ := Fm.at (m9.below hB) hlt
    have hbz : b < wr.heap.size := by omega
    have hle := zG Fm.cd f.kids (k + 1)
    rw [zW Fm.cd f.kids k hlt] at hle
    have hcl := Fm.close n0 n1 n2 n3 n4 n5 n6 n7 n8 n9
    go_wp2_with fail
    refine (IH.out f.kids[k] (d - 1) _ _ _ (HN.out _ (zdT hlt)) (by omega) (HS.out _ (zdT hlt)) (HM.out _ (zdT hlt)) (by exact hcl.below ((Below.refl _ _).alloc (Nat.le_refl _) _)) (by exact (htab.below hB).below ((Below.refl _ _).alloc (Nat.le_refl _) _))).mono ?_
    rintro e w2 ⟨rfl, hb2⟩
    have hbw : Below wr.heap.size wr w2 := ((Below.refl _ _).alloc (Nat.le_refl _) _).trans (hb2.mono (by simp))
    have hz2 := hbw.size
    have hown2 := (hown.below (hbw.alloc hz2 (.cells #[.string f.kids[k].text] 9)))
    have hl : (((f.kids.take k).map Fm.text).map za2).length ≤ f.kids.length := by simp; omega
    have htx : f.kids[k].text.size ≤ maxLen := by
     have h1 := HZ.out _ (zdT hlt)
     simp only [maxLen]; omega
    go_wp2_with (at_builtin; refine zq slStr rfl _ _ rfl (w.heap.size + 1) _ _ _ rfl hown2 ⟨w2.heap.size, 0, none⟩ 1 1 [za2 f.kids[k].text] [.string f.kids[k].text] [] rfl rfl ?rd ?k ?cells ?na ?bytes ?len ?base ?next)
    case rd => simp only [za2, List.flatten_cons, List.flatten_nil, List.append_nil]; exact RdVs.single (by simp only [Rd]; exact ⟨trivial, htx, trivial⟩)
    case k => simp [za2]
    case cells => exact zp _ _ _
    case na => simp
    case bytes => omega
    case len => omega
    case base => simp; omega
    case next =>
     intro v' w4 hown4 hg hv' hs4
     go_wp2_with fail
     go_roundw
     case rel =>
      refine ⟨k + 1, _, by omega, by go_num, ?_, rfl, ?_⟩
      ·rw [zdR hlt, zdV, zdV]; simpa using hown4
      ·exact zk ((hbx.trans (hbw.mono hz)).alloc (by omega) _) hg (by simp; omega) (fun k hk => (hown.block hk).1)
     case measure => simp [intOf]; omega
   ·have he : f.kids.take k = f.kids := List.take_of_length_le (by omega)
    rw [he] at hown
    clear he
    obtain ⟨fp', hr⟩ := hown.rd'
    obtain ⟨oa, ocap, rfl, ho1, ho2⟩ := ze hr
    obtain ⟨b', off', rfl, hbs', _⟩ := zl hr (by simp; omega)
    obtain ⟨fr, hrows⟩ := rd_rows hr (by simp; intro h; rw [h] at hl0; simp at hl0)
    obtain ⟨J, hJ⟩ : ∃ J : ByteArray, ⟨(Lib.join ((f.kids.map Fm.text).map (·.data.toList)) [44]).toArray⟩ = J := ⟨_, rfl⟩
    have hJs : J.size ≤ 5000 := by rw [← hJ]; have := HJ.out; simpa [ByteArray.size] using this
    have HCJ : Hid (∀ W, Below wr.heap.size wr W → Calls Tryz.prog 27 #[.slice (some ⟨b', off', none⟩) f.kids.length ocap, .string ⟨#[44]⟩] W fun e w' => e = .returned (.string J) ∧ Below W.heap.size W w') := Lib.hid (fun W hW => by
     have h := Tryz.strings_Join b' off' ocap (f.kids.map Fm.text) ⟨#[44]⟩ W (fun j x hj => zb (strRows hrows j x hj) hW) (zdQ hbs' hW.size) (by simp; omega) (by simpa using ho1) (by have := HJ.out; simp only at this ⊢; omega)
     rw [zdX] at h
     rw [← hJ]
     exact h)
    have HT := HX.out
    rw [hJ] at HT
    have hcut := HCUT.out
    have hsg := HSG.out
    have hex := HEX.out
    have hsz6 : (⟨#[123, 33, 38, 124, 62, 126]⟩ : ByteArray).size = 6 := rfl
    have hw1 : IntKind.i64.wrap (f.kind - 1) = f.kind - 1 := IntWalk.i64_in _ (by omega)
    have hw2 : IntKind.i64.wrap (f.kind - 1 + 1) = f.kind := by rw [IntWalk.i64_in _ (by omega)]; omega
    have hw3 : IntKind.i64.wrap f.kind = f.kind := IntWalk.i64_in _ (by omega)
    clear HSG HCUT HX HEX
    generalize (⟨#[Fm.sgn f.kind]⟩ : ByteArray) = sg at *
    obtain ⟨y1, hy1⟩ : ∃ y, sg ++ ⟨#[40]⟩ = y := ⟨_, rfl⟩
    obtain ⟨y2, hy2⟩ : ∃ y, y1 ++ J = y := ⟨_, rfl⟩
    have hs1 : y1.size = sg.size + 1 := by rw [← hy1, ByteArray.size_append]; rfl
    have hs2 : y2.size = y1.size + J.size := by rw [← hy2, ByteArray.size_append]
    rw [hy1, hy2] at HT
    have ha1 := zv Tryz.prog sg ⟨#[40]⟩ (by rw [sz1]; omega)
    have ha2 := zv Tryz.prog y1 J (by omega)
    have ha3 := zv Tryz.prog y2 ⟨#[41]⟩ (by rw [sz1]; omega)
    rw [hy1] at ha1
    rw [hy2] at ha2
    rw [HT] at ha3
    have hno1 : ¬ (sg.size + 1 > 9223372036854775807) := by omega
    have hno2 : ¬ (y1.size + J.size > 9223372036854775807) := by omega
    have hno3 : ¬ (y2.size + 1 > 9223372036854775807) := by omega
    clear hJ hy1 hy2 HT hJs hs1 hs2 HJ hrows hr hown hsg
    go_wp2_with fail
    have q0 := cell_regrown C0
    refine wp_region_quiet_below (by kernel_rfl) (by kernel_rfl) ?_
    repeat (first | go_big_quiet_skip | quiet_step (first | (go_at_call 27; with_reducible refine Calls.regrown_of (HCJ.out _ (below_regrown _ _ _)))))
    refine wpQuiet_nil ?_
    intro w9 hw9
    obtain ⟨⟨dq, osq⟩, hw9⟩ := hw9
    have hb9 : Below wr.heap.size wr w9 := hw9 ▸ below_regrown wr dq osq
    clear hw9 q0
    go_wp2_with fail
    go_ret
    exact ⟨rfl, hB.trans (hb9.mono hB.size)⟩
theorem zb6 (f : Fm) (vs : List Value) (ff : List Nat) (w : World) (hbig : wtV f.cd ≤ 1048576) (hv : RdVs w f.cd vs ff) (htab : Tab9 w) :
  Calls Tryz.prog 7 #[.agg vs.toArray] w fun e w' => e = .returned (.string (if f.okF = true then f.text else ⟨#[]⟩)) ∧ Below w.heap.size w w' := by
 have hv0 := hv
 obtain ⟨a3, c3, f3, a5, c5, f5, a6, c6, f6, a7, c7, f7, a11, c11, f11, rfl, -, m0, m1, m2, m3, m4, m5, m6, m7, m8, m9⟩ := Fm.open hv
 clear hv
 obtain ⟨r, hr⟩ : ∃ r, (if f.okF = true then f.text else ⟨#[]⟩) = r := ⟨_, rfl⟩
 rw [hr]
 have HR := Lib.hid hr
 clear hr
 go_enter Tryz.func7, Tryz.ntmps7
 go_wp2_with fail
 refine (zdB f _ _ _ hbig (by exact hv0.below (za _ _))).mono ?_
 rintro e w1 ⟨rfl, hb1⟩
 obtain ⟨hx, hz1, hB⟩ := box1 (w := w) (wr := w1) (cs := #[.int .i64 f.kind, .int .i64 f.lit.atom.kind, .string f.lit.atom.a.name, .slice a3 f.lit.atom.a.kids.length c3, .string f.lit.atom.b.name, .slice a5 f.lit.atom.b.kids.length c5, .slice a6 f.lit.atom.nums.length c6, .slice a7 f.lit.atom.times.length c7, .int .i64 f.lit.atom.bound, .bool f.lit.atom.strict, .bool f.lit.no, .slice a11 f.kids.length c11]) (T := 33) (zs hb1 (by simp))
 have C0 := hx 0
 have C1 := hx 1
 have C2 := hx 2
 have C3 := hx 3
 have C4 := hx 4
 have C5 := hx 5
 have C6 := hx 6
 have C7 := hx 7
 have C8 := hx 8
 have C9 := hx 9
 have C10 := hx 10
 have C11 := hx 11
 simp only [zdP, zdN, zdO] at C0 C1 C2 C3 C4 C5 C6 C7 C8 C9 C10 C11
 clear hb1 hx
 cases hok : f.okF
 ·have HR2 : Hid (r = ⟨#[]⟩) := Lib.hid (by rw [← HR.out, if_neg (by rw [hok]; decide)])
  go_wp2_with fail
  go_ret
  exact ⟨by rw [HR2.out]; rfl, hB⟩
 ·have HOK := Lib.hid (Fm.okF_shape hok)
  have HR2 : Hid (r = f.text) := Lib.hid (by rw [← HR.out, if_pos hok])
  clear hok
  go_wp2_with fail
  refine (zcs _ f 5 _ _ _ (Nat.le_refl _) hbig HOK.out.1 HOK.out.2 (by exact hv0.below hB) (htab.below hB)).mono ?_
  rintro e w2 ⟨rfl, hb2⟩
  go_wp2_with fail
  go_ret
  exact ⟨by rw [HR2.out]; rfl, hB.trans (hb2.mono hB.size)⟩
end Go.Proofs.YtoehhbkhdddeeaaGreatDoor
end
