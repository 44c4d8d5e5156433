/- Parts of the proof: FormU. -/
import Derived.Test.YtlhochahokbonaaPa33
namespace Go.Proofs.Ytlhochahokbonaa
open Go Go.RowKit
set_option linter.unusedVariables false
set_option linter.unusedSimpArgs false
theorem l9Right_any (f : Fm) (vs : List Value) (ff : List Nat) (w : World) (hbig : wtV f.cd ≤ 1048576) (hv : RdVs w f.cd vs ff) :
    Calls Try.prog 46 #[.agg vs.toArray] w fun e w' => e = .returned (.bool f.okF) ∧ Below w.heap.size w w' := by
  rw [Fm.okF_right]
  have hv0 := hv
  obtain ⟨a3, c3, f3, a5, c5, f5, a6, c6, f6, a7, c7, f7, a11, c11, f11, rfl, -, m0, m1, m2, m3, m4, m5, m6, m7, m8, m9⟩ := Fm.open hv
  clear hv
  have hln := Fm.tell_len f []
  have hmn := Fm.many_le f 5
  go_enter Try.func46, Try.ntmps46
  go_wp2_with fail
  refine (l9Shape_n _ f 5 _ _ _ (Nat.le_refl _) hbig (by omega) (by omega) (by exact hv0.below (below_alloc _ _))).mono ?_
  rintro e w1 ⟨rfl, hb1⟩
  have HBX := Lib.hid (below_size (n := w.heap.size + 1) hb1 (by simp))
  obtain ⟨hx, hz1, hB⟩ := box1 (w := w) (wr := w1) (cs := #[.int .i64 f.kind, .int .i64 f.lit.atom.kind, .string f.lit.atom.a.name, .slice a3 f.lit.atom.a.kids.length c3, .string f.lit.atom.b.name, .slice a5 f.lit.atom.b.kids.length c5, .slice a6 f.lit.atom.nums.length c6, .slice a7 f.lit.atom.times.length c7, .int .i64 f.lit.atom.bound, .bool f.lit.atom.strict, .bool f.lit.no, .slice a11 f.kids.length c11]) (T := 43) (below_size hb1 (by simp))
  have C0 := hx 0
  have C1 := hx 1
  have C2 := hx 2
  have C3 := hx 3
  have C4 := hx 4
  have C5 := hx 5
  have C6 := hx 6
  have C7 := hx 7
  have C8 := hx 8
  have C9 := hx 9
  have C10 := hx 10
  have C11 := hx 11
  simp only [List.getElem?_toArray, List.getElem?_cons_zero, List.getElem?_cons_succ] at C0 C1 C2 C3 C4 C5 C6 C7 C8 C9 C10 C11
  clear hb1 hx
  have h55 : (5 : Int).toNat = 5 := rfl
  rw [h55]
  clear h55
  cases hsh : Fm.shape 5 f
  · have HE := Lib.hid (show f.rightF = false by unfold Fm.rightF; simp [hsh])
    clear hsh
    go_wp2_with fail
    go_ret
    exact ⟨retB HE.out.symm, hB⟩
  · go_wp2_with fail
    refine (l9Many_n _ f 5 _ _ _ (Nat.le_refl _) hbig (by omega) (by omega) (by exact hv0.below hB)).mono ?_
    rintro e w2 ⟨rfl, hb2⟩
    obtain ⟨hx, hz2, hB2⟩ := box1 (w := w) (wr := w2) (cs := #[.int .i64 f.kind, .int .i64 f.lit.atom.kind, .string f.lit.atom.a.name, .slice a3 f.lit.atom.a.kids.length c3, .string f.lit.atom.b.name, .slice a5 f.lit.atom.b.kids.length c5, .slice a6 f.lit.atom.nums.length c6, .slice a7 f.lit.atom.times.length c7, .int .i64 f.lit.atom.bound, .bool f.lit.atom.strict, .bool f.lit.no, .slice a11 f.kids.length c11]) (T := 43) (HBX.out.trans (hb2.mono (by omega)))
    clear C0 C1 C2 C3 C4 C5 C6 C7 C8 C9 C10 C11
    have C0 := hx 0
    have C1 := hx 1
    have C2 := hx 2
    have C3 := hx 3
    have C4 := hx 4
    have C5 := hx 5
    have C6 := hx 6
    have C7 := hx 7
    have C8 := hx 8
    have C9 := hx 9
    have C10 := hx 10
    have C11 := hx 11
    simp only [List.getElem?_toArray, List.getElem?_cons_zero, List.getElem?_cons_succ] at C0 C1 C2 C3 C4 C5 C6 C7 C8 C9 C10 C11
    have h55 : (5 : Int).toNat = 5 := rfl
    rw [h55]
    clear h55 hx hB
    by_cases h1 : Fm.many 5 f ≤ 10
    · have HE0 := Lib.hid (show f.rightF = decide (((Fm.tell [] f).length : Int) ≤ 6) by unfold Fm.rightF; rw [Bool.eq_iff_iff]; simp [hsh, h1]; try omega)
      clear hsh
      go_wp2_with fail
      refine (l9Atoms_n _ f [] _ _ (.slice none 0 0) [] w2.heap.size _ (Nat.le_refl _) hbig (by simp; omega) (Nat.le_refl _) (Own.nil _ _ _ _) (by exact hv0.below hB2) (by simp [Value.ownBlock])).mono ?_
      rintro e w3 ⟨lv, fp, rfl, hown, _, hm⟩
      obtain ⟨la, lc, rfl, _, _⟩ := hown.form
      have hB3 := hB2.trans (hm.toBelow (B := w.heap.size) (by omega) (by simp [Value.ownBlock]))
      rw [List.length_map]
      clear hm hown
      go_wp2_with fail
      go_ret
      exact ⟨retB HE0.out.symm, hB3⟩
    · have HE := Lib.hid (show f.rightF = false by unfold Fm.rightF; simp [h1])
      clear hsh
      go_wp2_with fail
      go_ret
      exact ⟨retB HE.out.symm, hB2⟩
theorem Atm.times_of {x : Atm} (h : wtV x.cd ≤ 1048576) : x.times.length ≤ 1048576 := by
  simp only [Atm.cd, wtV_append, wtV_int, wtV_bool, wtV_sl, List.length_map] at h
  omega
mutual
theorem Fm.add_wt : ∀ (f : Fm) (l : List Atm), wtR ((Fm.add l f).map Atm.cd) ≤ wtR (l.map Atm.cd) + wtV f.cd
  | .mk kind lit kids, l => by
    have h := Fm.adds_wt kids l
    have h2 := Fm.wt_eq (.mk kind lit kids)
    simp only [Fm.kids, Fm.lit, Lt.cd, wtV_append, wtV_bool] at h2
    simp only [Fm.add]
    split
    · rw [List.map_append, wtR_append]; simp [wtR]; omega
    · omega
theorem Fm.adds_wt : ∀ (ks : List Fm) (l : List Atm), wtR ((Fm.adds l ks).map Atm.cd) ≤ wtR (l.map Atm.cd) + wtR (ks.map Fm.cd)
  | [], l => by simp [Fm.adds, wtR]
  | k :: ks, l => by
    have h1 := Fm.add_wt k l
    have h2 := Fm.adds_wt ks (Fm.add l k)
    simp only [Fm.adds, List.map_cons, wtR_cons]; omega
end
theorem wtR_mem {α : Type} {cd : α → List CD} : ∀ {l : List α} {x : α}, x ∈ l → wtV (cd x) ≤ wtR (l.map cd)
  | a :: l, x, h => by
    rw [List.map_cons, wtR_cons]
    rcases List.mem_cons.1 h with rfl | h
    · omega
    · have := wtR_mem (cd := cd) h; omega
set_option maxRecDepth 100000 in
set_option maxHeartbeats 1000000 in
theorem formAtomsS_any (f : Fm) (vs : List Value) (ff : List Nat) (w : World) (hbig : wtV f.cd ≤ 1048576) (hv : RdVs w f.cd vs ff) :
    Calls Try.prog 40 #[.agg vs.toArray] w (ToOut (.sl (f.atomsF.map Atm.cd)) w) := by
  have hv0 := hv
  obtain ⟨a3, c3, f3, a5, c5, f5, a6, c6, f6, a7, c7, f7, a11, c11, f11, rfl, -, m0, m1, m2, m3, m4, m5, m6, m7, m8, m9⟩ := Fm.open hv
  clear hv
  have hb0 : Below w.heap.size w ((w.alloc (.cells #[.int .i64 f.kind, .int .i64 f.lit.atom.kind, .string f.lit.atom.a.name, .slice a3 f.lit.atom.a.kids.length c3, .string f.lit.atom.b.name, .slice a5 f.lit.atom.b.kids.length c5, .slice a6 f.lit.atom.nums.length c6, .slice a7 f.lit.atom.times.length c7, .int .i64 f.lit.atom.bound, .bool f.lit.atom.strict, .bool f.lit.no, .slice a11 f.kids.length c11] 43)).alloc (.cells #[] 31)) := (below_alloc _ _).alloc (by simp) _
  go_enter Try.func40, Try.ntmps40
  go_wp2_with fail
  refine (l9Right_any f _ _ _ hbig (by exact hv0.below hb0)).mono ?_
  rintro e w1 ⟨rfl, hb1⟩
  obtain ⟨hx, hy, hz1, hB⟩ := box2 (w := w) (wr := w1) (cs := #[.int .i64 f.kind, .int .i64 f.lit.atom.kind, .string f.lit.atom.a.name, .slice a3 f.lit.atom.a.kids.length c3, .string f.lit.atom.b.name, .slice a5 f.lit.atom.b.kids.length c5, .slice a6 f.lit.atom.nums.length c6, .slice a7 f.lit.atom.times.length c7, .int .i64 f.lit.atom.bound, .bool f.lit.atom.strict, .bool f.lit.no, .slice a11 f.kids.length c11]) (ds := #[]) (T := 43) (U := 31) (below_size hb1 (by simp))
  have C0 := hx 0
  have C1 := hx 1
  have C2 := hx 2
  have C3 := hx 3
  have C4 := hx 4
  have C5 := hx 5
  have C6 := hx 6
  have C7 := hx 7
  have C8 := hx 8
  have C9 := hx 9
  have C10 := hx 10
  have C11 := hx 11
  simp only [List.getElem?_toArray, List.getElem?_cons_zero, List.getElem?_cons_succ] at C0 C1 C2 C3 C4 C5 C6 C7 C8 C9 C10 C11
  clear hy
  have hown0 : Own w1 w.heap.size 31 9 (.slice (some ⟨(w.alloc (.cells #[.int .i64 f.kind, .int .i64 f.lit.atom.kind, .string f.lit.atom.a.name, .slice a3 f.lit.atom.a.kids.length c3, .string f.lit.atom.b.name, .slice a5 f.lit.atom.b.kids.length c5, .slice a6 f.lit.atom.nums.length c6, .slice a7 f.lit.atom.times.length c7, .int .i64 f.lit.atom.bound, .bool f.lit.atom.strict, .bool f.lit.no, .slice a11 f.kids.length c11] 43)).heap.size, 0, none⟩) 0 0) [] [] := (Own.empty (w.alloc (.cells #[.int .i64 f.kind, .int .i64 f.lit.atom.kind, .string f.lit.atom.a.name, .slice a3 f.lit.atom.a.kids.length c3, .string f.lit.atom.b.name, .slice a5 f.lit.atom.b.kids.length c5, .slice a6 f.lit.atom.nums.length c6, .slice a7 f.lit.atom.times.length c7, .int .i64 f.lit.atom.bound, .bool f.lit.atom.strict, .bool f.lit.no, .slice a11 f.kids.length c11] 43)) w.heap.size _ _ (by simp)).below hb1
  simp only [World.size_alloc] at hown0
  clear hb1 hx
  cases hok : f.okF
  · have HE := Lib.hid (Fm.atomsF_no hok)
    clear hok
    go_wp2_with fail
    go_ret
    obtain ⟨fp', h1, h2, _⟩ := hown0.fresh (Fresh.nil _ _)
    exact ⟨_, fp', rfl, by rw [HE.out]; exact h1, h2, hB⟩
  · have HE0 := Lib.hid (Fm.atomsF_yes hok)
    have HT := Lib.hid (Fm.okF_tell hok)
    clear hok
    go_wp2_with fail
    refine (l9Atoms_n _ f [] _ _ (.slice none 0 0) [] w1.heap.size _ (Nat.le_refl _) hbig (by simp; omega) (Nat.le_refl _) (Own.nil _ _ _ _) (by exact hv0.below hB) (by simp [Value.ownBlock])).mono ?_
    rintro e w2 ⟨lv, fl, rfl, hown, hsub, hm⟩
    rw [← HT.out] at hown
    obtain ⟨l, hl⟩ : ∃ l, l = Fm.add [] f := ⟨_, rfl⟩
    have HE : Hid (f.atomsF = l) := Lib.hid (by rw [HE0.out, hl])
    have hwl := Fm.add_wt f []
    have hln := Fm.add_len f []
    rw [← hl] at hown hwl hln
    clear hl
    have HAC : Hid (∀ x ∈ l, x.small ∧ x.times.length ≤ 1048576) := Lib.hid fun x hx => by
      have h1 := wtR_mem (cd := Atm.cd) hx
      simp only [List.map_nil, wtR] at hwl
      exact ⟨Atm.small_of (by omega), Atm.times_of (by omega)⟩
    obtain ⟨la, lc, hlv, hl1, hl2⟩ := hown.form
    rw [List.length_map] at hlv hl1
    subst hlv
    have HOL : Hid (∀ b, la.bind (fun a => some a.block) = some b → w1.heap.size ≤ b) := Lib.hid fun b hb => (hown.block (b := b) (by cases la with | none => simp at hb | some a => simpa [Value.ownBlock] using hb)).1
    obtain ⟨lf, hlr, hlf⟩ := hown.rd
    have hB2 := hB.trans (hm.toBelow (B := w.heap.size) (by omega) (by simp [Value.ownBlock]))
    have hown1 := hown0.same (w' := w2) (fun b hb => by simp at hb) (fun b hb => hm.block (hown0.block hb).2 (by simp [Value.ownBlock]))
    have HLN : Hid (∀ y ∈ lf, (Value.slice (some ⟨w.heap.size + 1, 0, none⟩) 0 0).ownBlock ≠ some y) := Lib.hid fun y hy e => by
      have e1 : w.heap.size + 1 = y := Option.some.inj e
      rcases hlf with ⟨_, _, h⟩ | ⟨b, c, h1, h2, _, h3, _⟩
      · rw [h] at hy; simp at hy
      · rw [h2] at hy
        rcases List.mem_cons.1 hy with h | h
        · omega
        · rcases hsub y h with h | h
          · simp at h
          · have := hv0.lt _ y h; omega
    clear hm hown hown0 hB hlf hsub
    simp only [List.length_nil, Nat.zero_add] at hln
    go_wp2_with fail
    go_loopw [3, 5] (fun ov i wr => ∃ (k : Nat) (fp : List Nat), k ≤ l.length ∧ i = .int .i64 k ∧ Own wr w.heap.size 31 9 ov ((l.take k).map Atm.cd) fp ∧ Fresh w.heap.size wr fp ∧ Rd wr (.sl (l.map Atm.cd)) (.slice la l.length lc) lf ∧ Hid (∀ y ∈ lf, ov.ownBlock ≠ some y) ∧ Below w.heap.size w wr) (fun _ i _ => l.length - (intOf i).toNat)
    case atStart => exact ⟨0, [], Nat.zero_le _, rfl, hown1, Fresh.nil _ _, hlr, HLN, hB2⟩
    case round =>
      clear hlr hB2 HLN
      obtain ⟨k, fp, hkl, rfl, hown, hfr, hlr, HLN, hb⟩ := hrel
      have hz := hb.size
      have hlk : (l.take k).length ≤ l.length := by simp; omega
      by_cases hlt : k < l.length
      · obtain ⟨b, off, rfl, hbs, _⟩ := rd_addr hlr (by omega)
        obtain ⟨a2y, c2y, f2y, a4y, c4y, f4y, a5y, c5y, f5y, a6y, c6y, f6y, d0y, d1y, d2y, d3y, d4y, d5y, d6y, d7y, d8y, n0y, n1y, n2y, n3y, n4y, n5y, n6y, n7y, hsuby⟩ := Atm.at hlr hlt
        have HY := Atm.close n0y n1y n2y n3y n4y n5y n6y n7y
        have HAT := Lib.hid (HAC.out l[k] (List.getElem_mem hlt))
        go_wp2_with fail
        refine (l6Copy_any l[k] _ _ _ HAT.out.1 HAT.out.2 (by exact HY)).mono ?_
        rintro e w3 ⟨us, fp3, rfl, hr3, hf3, hb3⟩
        obtain ⟨a2z, c2z, f2z, a4z, c4z, f4z, a5z, c5z, f5z, a6z, c6z, f6z, rfl, -, m0z, m1z, m2z, m3z, m4z, m5z, m6z, m7z⟩ := Atm.open hr3
        have hown3 := hown.below (hb3.alloc hb3.size (.cells #[.int .i64 l[k].kind, .string l[k].a.name, .slice a2z l[k].a.kids.length c2z, .string l[k].b.name, .slice a4z l[k].b.kids.length c4z, .slice a5z l[k].nums.length c5z, .slice a6z l[k].times.length c6z, .int .i64 l[k].bound, .bool l[k].strict] 31))
        have hr3' := hr3.below (below_alloc w3 (.cells #[.int .i64 l[k].kind, .string l[k].a.name, .slice a2z l[k].a.kids.length c2z, .string l[k].b.name, .slice a4z l[k].b.kids.length c4z, .slice a5z l[k].nums.length c5z, .slice a6z l[k].times.length c6z, .int .i64 l[k].bound, .bool l[k].strict] 31))
        have hz3 := hb3.size
        go_wp2_with (at_builtin; refine wpList_app slTyAtomS rfl _ _ rfl w.heap.size _ _ _ rfl hown3 ⟨w3.heap.size, 0, none⟩ 1 1 [l[k].cd] [.int .i64 l[k].kind, .string l[k].a.name, .slice a2z l[k].a.kids.length c2z, .string l[k].b.name, .slice a4z l[k].b.kids.length c4z, .slice a5z l[k].nums.length c5z, .slice a6z l[k].times.length c6z, .int .i64 l[k].bound, .bool l[k].strict] fp3 rfl rfl ?rd ?k ?cells ?na ?bytes ?len ?base ?next)
        case rd => simpa using hr3'
        case k => simp [Atm.cd_len]
        case cells => exact cells_new _ _ _
        case na => exact hown.away (Nat.le_refl _) hf3
        case bytes => (try rw [List.length_map]); (try simp); omega
        case len => (try rw [List.length_map]); (try simp); omega
        case base => simp; omega
        case next =>
          intro v' w4 hown4 hg hv' hs4
          have hlr4 := (hlr.below (hb3.alloc hb3.size (.cells #[.int .i64 l[k].kind, .string l[k].a.name, .slice a2z l[k].a.kids.length c2z, .string l[k].b.name, .slice a4z l[k].b.kids.length c4z, .slice a5z l[k].nums.length c5z, .slice a6z l[k].times.length c6z, .int .i64 l[k].bound, .bool l[k].strict] 31))).same _ (fun y hy => hg.block y (by have := hlr.lt _ y hy; simp; omega) (fun e => HLN.out y hy e.symm))
          have HLN4 : Hid (∀ y ∈ lf, v'.ownBlock ≠ some y) := Lib.hid fun y hy e => by
            rcases hv' y e with h | h
            · exact HLN.out y hy h
            · have := hlr.lt _ y hy; (try simp at h); omega
          have hb4 := grown_below ((hb.trans (hb3.mono hz)).alloc (by omega) (.cells #[.int .i64 l[k].kind, .string l[k].a.name, .slice a2z l[k].a.kids.length c2z, .string l[k].b.name, .slice a4z l[k].b.kids.length c4z, .slice a5z l[k].nums.length c5z, .slice a6z l[k].times.length c6z, .int .i64 l[k].bound, .bool l[k].strict] 31)) hg (by simp; omega) (fun q hq => (hown.block hq).1)
          go_wp2_with fail
          go_roundw
          case rel => exact ⟨k + 1, _, by omega, by go_num, by rw [List.take_succ_eq_append_getElem hlt, List.map_append]; simpa using hown4, ((Fresh.app (hfr.below hb3) hfr.lt (by omega) hf3).below (below_alloc _ _)).same hs4, hlr4, HLN4, hb4⟩
          case measure => simp [intOf]; omega
      · have he : l.take k = l := List.take_of_length_le (by omega)
        rw [he] at hown
        go_wp2_with fail
        go_ret
        obtain ⟨fp', h1, h2, _⟩ := hown.fresh hfr
        exact ⟨_, fp', rfl, by rw [HE.out]; exact h1, h2, hb⟩
end Go.Proofs.Ytlhochahokbonaa
