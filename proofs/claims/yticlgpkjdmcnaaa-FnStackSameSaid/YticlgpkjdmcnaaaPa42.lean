/- Parts of the proof: StkU. -/
import Derived.Test.YticlgpkjdmcnaaaPa41
import Derived.Test.YticlgpkjdmcnaaaPa28
section
namespace Go.Proofs.Yticlgpkjdmcnaaa
open Go Go.RowKit
set_option linter.unusedVariables false
set_option linter.unusedSimpArgs false
set_option maxRecDepth 100000
set_option maxHeartbeats 16000000
def SgFit (N A : Nat) (s : Sg) : Prop := s.syms.length ≤ N ∧ ∀ y ∈ s.syms, y.args.length ≤ A ∧ y.name.size ≤ 4
def za7 (N A M : Nat) (K : Stk) : Prop := SgFit N A K.sig ∧ wtV K.cd ≤ M
theorem zda {A : Nat} : ∀ {l : List Sy}, (∀ y ∈ l, y.args.length ≤ A ∧ y.name.size ≤ 4) → wtR (l.map Sy.cd) ≤ l.length * (A + 4)
 | [], _ => by simp [wtR]
 | y :: l, h => by
  have h1 := zda (l := l) (fun x hx => h x (by simp [hx]))
  have h2 := h y (by simp)
  have h3 : wtV y.cd = y.name.size + y.args.length := by unfold Sy.cd; simp only [zF, zce, zaO, zao, zdg]; omega
  simp only [List.map_cons, zZ, List.length_cons, Nat.add_mul]; omega
theorem SgFit.wt {N A : Nat} {s : Sg} (h : SgFit N A s) (hN : N ≤ 46) (hA : A ≤ 40) : wtV s.cd ≤ 2100 := by
 have h1 := zda h.2
 have h2 : s.syms.length * (A + 4) ≤ 46 * 44 := Nat.mul_le_mul (by have := h.1; omega) (by omega)
 have h3 : wtV s.cd = s.syms.length + wtR (s.syms.map Sy.cd) := by unfold Sg.cd; simp only [zao, zea]
 have := h.1; omega
/-- Such a stack as it comes back. -/
def DrawnK (N A M : Nat) (w : World) (e : Ending) (w' : World) : Prop := ∃ (K : Stk) (sa : Option Addr) (sc : Nat) (la : Option Addr) (lc : Nat) (kf : List Nat), za7 N A M K ∧
 e = .returned (.agg #[.slice sa K.sig.syms.length sc, .slice la K.levels.length lc]) ∧ RdVs w' K.cd [.slice sa K.sig.syms.length sc, .slice la K.levels.length lc] kf ∧ ∀ b ∈ kf, w.heap.size ≤ b
theorem StkW.keep {w w' : World} {ob lo base : Nat} {s : Sg} {sv lv : Value} {fs : List Nat} {L : List Lv} (h : StkW w ob lo base s sv lv fs L) (hob : lo ≤ ob) (hk : ∀ b, lo ≤ b → b < w.heap.size → w'.heap[b]? = w.heap[b]?) : StkW w' ob lo base s sv lv fs L := by
 have hl := h.row.lt
 have hlb := h.lb
 have ho := hk ob hob h.lt
 refine ⟨zg ho h.c0, zg ho h.c1, fun j => zl ho (h.fr j), h.sg.same _ (fun b hb => hk b (h.sl b hb) (h.sg.lt _ b hb)), h.sl, h.sb, h.lb, h.row.same (fun b hb => hk b (by have := (hl.1 b hb).1; omega) (hl.1 b hb).2) (fun t ht => ⟨fun b hb => hk b (by have := ((hl.2 t ht).1 b hb).1; omega) ((hl.2 t ht).1 b hb).2, fun b hb => hk b (by have := h.lg t ht b hb; omega) ((hl.2 t ht).2 b hb)⟩), h.lg, h.ns, h.nf, h.nr⟩
theorem StkW.only {w w' : World} {rb ob lo base : Nat} {s : Sg} {sv lv : Value} {fs : List Nat} {L : List Lv} (h : StkW w ob lo base s sv lv fs L) (hob : lo ≤ ob) (ho : Only [rb] w w') (hr : rb < lo) : StkW w' ob lo base s sv lv fs L :=
 h.keep hob (fun b h1 h2 => ho.block b h2 (by simp; omega))
theorem StkW.rd {w : World} {ob lo base : Nat} {s : Sg} {sv lv : Value} {fs : List Nat} {L : List Lv} (h : StkW w ob lo base s sv lv fs L) : ∃ fq, RdVs w (Stk.mk s (L.map Lv.fs)).cd [sv, lv] fq ∧ ∀ b ∈ fq, lo ≤ b := by
 obtain ⟨fq, h1, h2⟩ := h.out
 exact ⟨fs ++ fq, h1, h2⟩
theorem Only.belowB9 {rb B : Nat} {w wr w6 : World} (h : Only [rb] w wr) (hb : Below B wr w6) (hB : w.heap.size ≤ B) : Only [rb] w w6 :=
 ⟨hb.os.trans h.os, hb.tape.trans h.tape, hb.output.trans h.output, Nat.le_trans h.size hb.size, fun b hl hn => (hb.block b (by omega)).trans (h.block b hl hn)⟩
theorem Rdr.belowB9 {rb B q : Nat} {wr w6 : World} (h : Rdr wr rb q) (hb : Below B wr w6) (hr : rb < B) : Rdr w6 rb q := h.same (fun b hl => hb.block b (by omega))
def slLen7 : Value → Nat
 | .slice _ n _ => n
 | _ => 0
theorem zaK (K : Stk) : Stk.mk K.sig K.levels = K := by cases K; rfl
/-- append of a level, outside of a region that draws. -/
theorem zdS {P : Program} {z : Value} {bytes : Nat} (hT : SlTy P 26 32 z 1 bytes) {w0 w : World} {ops : Array Oper} {rest : List Oper} {o : Oper} {a : Act} {Q : Exit → Act → World → Prop} (hgd : o.guard = none) (s x : Operand)
  (ho : o.op = .call { callee := .builtin .append, args := #[s, x], argTypes := #[26, 26] })
  {lo : Nat} {lv kv : Value} {L : List Lv} {fs : List Fm} {g : List Nat} (hs : a.eval s = lv) (h : Lvs w0 lo lv L) (hb : Below w0.heap.size w0 w) (ad : Addr) (c : Nat) (hx : a.eval x = .slice (some ad) 1 c) (hc : w.cell? (ad.add 0) = some kv)
  (hkv : Own w w0.heap.size 52 12 kv (fs.map Fm.cd) g) (hg : ∀ b ∈ g, w0.heap.size ≤ b) (hlo : lo ≤ w0.heap.size)
  (hbytes : (L.length + 1) * bytes ≤ 140737488355328) (hlen : L.length + 1 ≤ 140737488355328)
  (hK : ∀ lv' w', Lvs w' lo lv' (L ++ [⟨kv, fs, g⟩]) → Moved w lv w' lv' → wpList P ops Q rest (a.put o.dst lv') w') : wpList P ops Q (o :: rest) a w := by
 have h1 := h.below hb
 have hkf : kv.oneCell' = true := by obtain ⟨a', n', c', rfl⟩ := hkv.form'; rfl
 obtain ⟨v', w', hr, g1, g2, g3⟩ := zbL hT w o.type lo lv L.length (L.map Lv.v) h1.row ad 1 c [kv] (by simp) (fun j u hj => by
  match j with
  | 0 => simp at hj; subst hj; exact hc
  | j + 1 => simp at hj) (by simpa using hkf) (by simp [maxLen]; omega) hbytes (by have := hb.size; omega)
 refine wpList_plain hgd fun K hK' => ?_
 unfold Oper.wp execOp
 simp only [ho, resolve, invoke, builtin, Sem.run_bind, Sem.run_pure, Result.andThen_ok, List.map_toArray, List.map_cons, List.map_nil, hs, hx, hr]
 exact hK' _ _ (hK v' w' (h.app hb hkv hg hlo g1 ⟨g2, g3⟩) ⟨g2, g3⟩)
theorem zb2 (N A M : Nat) (K : Stk) (vs : List Value) (kf : List Nat) (rb p : Nat) (w : World) (hN0 : N ≤ 30) (hA0 : A ≤ 30) (hM0 : M ≤ 1000000) (hfit : za7 N A M K) (hp : p + 100 ≤ 1000000000) (hv : RdVs w K.cd vs kf) (hnr : rb ∉ kf) (hr : Rdr w rb p) :
  Calls Try.prog 13 #[.pointer (some ⟨rb, 0, none⟩), .agg vs.toArray] w fun e w' => DrawnK (N + 16) (A + 2) (M + 3000) w e w' ∧ Rdr w' rb (p + 50) ∧ Only [rb] w w' := by
 have hlt := hr.lt
 have hv0 := hv
 obtain ⟨a0, c0, f0, a1, c1, f1, rfl, _, m0, m1⟩ := Stk.open hv0
 clear hv0 m0 m1
 have HF := Lib.hid hfit
 have hbig : wtV K.cd ≤ 1048576 := by have := hfit.2; omega
 clear hfit
 have hP := (Box.new w [.slice a0 K.sig.syms.length c0, .slice a1 K.levels.length c1] 28).alloc (.cells #[.slice none 0 0, .slice none 0 0] 28)
 have hR := Box.new (w.alloc (.cells #[.slice a0 K.sig.syms.length c0, .slice a1 K.levels.length c1] 28)) [.slice none 0 0, .slice none 0 0] 28
 rw [World.size_alloc] at hR
 have hbn : Below w.heap.size w ((w.alloc (.cells #[.slice a0 K.sig.syms.length c0, .slice a1 K.levels.length c1] 28)).alloc (.cells #[.slice none 0 0, .slice none 0 0] 28)) := ((Below.refl _ _).alloc (Nat.le_refl _) _).alloc (by simp) _
 have hz0 : w.heap.size + 1 + 1 ≤ ((w.alloc (.cells #[.slice a0 K.sig.syms.length c0, .slice a1 K.levels.length c1] 28)).alloc (.cells #[.slice none 0 0, .slice none 0 0] 28)).heap.size := by simp
 go_enter Try.func13, Try.ntmps13
 go_upto_region 1 with fail
 generalize (w.alloc (.cells #[.slice a0 K.sig.syms.length c0, .slice a1 K.levels.length c1] 28)).alloc (.cells #[.slice none 0 0, .slice none 0 0] 28) = w0 at *
 have hN : Only [rb] w w0 := Only.below hbn
 have hRd := hr.below hbn
 have x0 := hP.2.1 0 _ rfl
 have x1 := hP.2.1 1 _ rfl
 go_wp2_with fail
 refine (zbe K _ _ _ hbig (by exact hv.below hbn)).mono ?_
 rintro e w2 ⟨sv, lv, fs, base, L, rfl, hL, hsg, hfs, hlb, hbz, hrow, hlg, hb2⟩
 obtain ⟨sa, sc, sf, hsv, _, _⟩ := Sg.open hsg
 obtain rfl := (List.cons.inj hsv).1
 clear hsv x0 x1 hP hbn hr
 obtain ⟨la, lc, rfl⟩ := hrow.form
 have hLl : L.length = K.levels.length := by rw [← hL, zea]
 rw [hLl] at hrow ⊢
 have HL := Lib.hid hL
 have hL1 : L.length ≤ K.levels.length := by omega
 have hL2 : K.levels.length ≤ L.length := by omega
 clear hL hLl
 have st := StkW.box hsg hfs hlb hrow hlg
 have hz2 := hb2.size
 have hba := zb w2 (.cells #[.slice sa K.sig.syms.length sc, .slice la K.levels.length lc] 28)
 replace hR := (hR.below hb2).below hba
 replace hN := (hN.trans (Only.below hb2)).trans (Only.below hba)
 replace hRd := (hRd.below hb2).below hba
 have hz3 := hba.size
 clear hsg hfs hrow hlg hb2 hba
 go_upto_region 2 with fail
 generalize w2.alloc (.cells #[.slice sa K.sig.syms.length sc, .slice la K.levels.length lc] 28) = wb at *
 obtain ⟨X, hX⟩ : ∃ X, X = w2.heap.size := ⟨_, rfl⟩
 rw [← hX] at st ⊢
 have hX1 : base ≤ X := by omega
 clear hX
 go_wp2_with fail
 refine (zX rb p 40 _ (by omega) (by omega) (by omega) hRd).mono ?_
 rintro e u ⟨⟨d, hd, rfl⟩, hRn, ho⟩
 replace st := st.only (by omega) ho (by omega)
 replace hR := hR.only ho (by omega)
 replace hN := hN.trans ho
 have hzu := ho.size
 clear hRd ho
 have hRd := hRn
 clear hRn
 have e0 := st.c0
 have e1 := st.c1
 have fr0 := st.fr 0
 have fr1 := st.fr 1
 have hXu := st.lt
 by_cases d0 : d = 0
 ·subst d0
  go_upto_region 16 with fail
  obtain ⟨E, hE⟩ : ∃ E, E = u.heap.size := ⟨_, rfl⟩
  rw [← hE]
  have hEX : X < E := by omega
  have e0' := (World.cell?_setCell_other u ⟨X, 1, none⟩ ⟨X, 0, none⟩ (.slice (some ⟨E, 0, none⟩) 0 0) (by simp)).trans e0
  have e1' := World.cell?_setCell_same u ⟨X, 1, none⟩ (.slice (some ⟨E, 0, none⟩) 0 0) e1
  have hro : RdVs (u.setCell ⟨X, 1, none⟩ (.slice (some ⟨E, 0, none⟩) 0 0)) (Stk.mk K.sig []).cd [.slice sa K.sig.syms.length sc, .slice (some ⟨E, 0, none⟩) 0 0] fs := by
   have h1 := (st.sg.app (RdVs.single (zc6 (es := ([] : List (List Fm)).map zx) rfl (some ⟨E, 0, none⟩)))).same _ (zv (a := ⟨X, 1, none⟩) (v := .slice (some ⟨E, 0, none⟩) 0 0) (fun b hb (e : b = X) => by rw [List.append_nil] at hb; exact st.ns (e ▸ hb)))
   rw [List.append_nil] at h1
   exact h1
  have hlo : ∀ b ∈ fs, w.heap.size + 1 < b := fun b hb => by have := st.sl b hb; omega
  replace hR : Box [.slice none 0 0, .slice none 0 0] (w.heap.size + 1) _ := hR.sets_other (b := X) (by omega) [(1, .slice (some ⟨E, 0, none⟩) 0 0)]
  replace hN := Only.setsR (b := X) (by omega) [(1, .slice (some ⟨E, 0, none⟩) 0 0)] hN
  replace hRd := Rdr.sets (b := X) (by omega) [(1, .slice (some ⟨E, 0, none⟩) 0 0)] hRd
  simp only [zo] at hR hN hRd
  have hba := zb (u.setCell ⟨X, 1, none⟩ (.slice (some ⟨E, 0, none⟩) 0 0)) (.cells #[] 32)
  replace hR := hR.below hba
  replace hN := hN.trans (Only.below hba)
  replace hRd := hRd.below hba
  replace hro := hro.below hba
  replace e0' := za e0' hba
  replace e1' := za e1' hba
  generalize (u.setCell ⟨X, 1, none⟩ (.slice (some ⟨E, 0, none⟩) 0 0)).alloc (.cells #[] 32) = u2 at *
  clear st hba e0 e1 fr0 fr1 hE
  have hw0 : wtV (Stk.mk K.sig []).cd ≤ wtV K.cd := by
   have h1 := zS K.sig []
   have h2 := zS K.sig K.levels
   rw [zaK] at h2
   simp only [List.length_nil, List.map_nil, wtR] at h1; omega
  have yr0 := hR.2.1 0 _ rfl; have yr1 := hR.2.1 1 _ rfl; have zr0 := hR.2.2 0; have zr1 := hR.2.2 1
  have gR := hR.puts [.slice sa K.sig.syms.length sc, .slice (some ⟨E, 0, none⟩) 0 0] rfl
  have hO5 := Only.setsR (b := w.heap.size + 1) (by omega) (ze 0 [.slice sa K.sig.syms.length sc, .slice (some ⟨E, 0, none⟩) 0 0]) hN
  have hR9 := Rdr.sets (b := w.heap.size + 1) (by omega) (ze 0 [.slice sa K.sig.syms.length sc, .slice (some ⟨E, 0, none⟩) 0 0]) hRd
  have hKK := (Same2.refl (w.heap.size + 1) (w.heap.size + 1) (u2)).sets (b := w.heap.size + 1) (.inl rfl) (ze 0 [.slice sa K.sig.syms.length sc, .slice (some ⟨E, 0, none⟩) 0 0])
  simp only [zo, ze] at gR hO5 hR9 hKK
  have r0 := gR.2.1 0 _ rfl
  have r1 := gR.2.1 1 _ rfl
  have hro2 := hro.same2 hKK (fun b hb => by have := hlo b hb; omega)
  have HFT : Hid (za7 (N + 16) (A + 2) (M + 3000) (Stk.mk K.sig [])) := Lib.hid (⟨⟨Nat.le_trans HF.out.1.1 (by omega), fun y hy => by have := HF.out.1.2 y hy; omega⟩, by have := HF.out.2; omega⟩)
  clear gR hKK hN hRd hro
  go_wp2_with fail
  refine bodyPost_ret (v := .agg #[.slice sa K.sig.syms.length sc, .slice (some ⟨E, 0, none⟩) 0 0]) (by simp [results, Try.results13, go_sem, r0, r1]) rfl ?_
  exact ⟨⟨Stk.mk K.sig [], _, _, _, _, _, HFT.out, rfl, hro2, fun b hb => by have := hlo b hb; omega⟩, hR9.mono (by omega), hO5⟩
 have n0 : ((d : Int) == 0) = false := by simpa using (by omega : ¬ ((d : Int) = 0))
 by_cases d1 : d = 1
 ·subst d1
  have hw0 : wtV (Stk.mk K.sig (L.map Lv.fs)).cd ≤ M + 0 := by rw [HL.out, zaK]; have := HF.out.2; omega
  have HW0 := Lib.hid hw0
  clear hw0 e0 e1 fr0 fr1
  go_wp2_with fail
  go_loopw [] (fun wr => ∃ (j : Nat) (L : List Lv) (lv : Value), j ≤ 5 ∧ j ≤ L.length ∧ Hid (wtV (Stk.mk K.sig (L.map Lv.fs)).cd ≤ M + j) ∧ StkW wr X w0.heap.size base K.sig (.slice sa K.sig.syms.length sc) lv fs L ∧ Box [.slice none 0 0, .slice none 0 0] (w.heap.size + 1) wr ∧ Rdr wr rb (p + 1) ∧ Only [rb] w wr) (fun wr => 5 - slLen7 ((wr.cell? ⟨X, 1, none⟩).getD undef))
  case atStart => exact ⟨0, L, _, by omega, by omega, HW0, st, hR, hRd, hN⟩
  case round =>
   clear st hR hRd hN HW0 hL1 hL2 HL hXu hzu
   obtain ⟨j, L, lv, hj, hjl, HW, st, hR, hRd, hN⟩ := hrel
   obtain ⟨la, lc, hlv⟩ := st.row.form
   obtain ⟨n, hn⟩ : ∃ n, n = L.length := ⟨_, rfl⟩
   have hn1 : n ≤ L.length := by omega
   have hn2 : L.length ≤ n := by omega
   rw [← hn] at hlv
   clear hn
   subst hlv
   have e0 := st.c0
   have e1 := st.c1
   have fr0 := st.fr 0
   have fr1 := st.fr 1
   have hXu := st.lt
   by_cases h4 : n ≤ 4
   ·have h4b : decide ((n : Int) ≤ 4) = true := decide_eq_true (by omega)
    have hbA : Below wr.heap.size wr ((wr.alloc (.cells #[] 52)).alloc (.cells #[.slice (some ⟨wr.heap.size, 0, none⟩) 0 0] 32)) := (zb _ _).alloc (by simp) _
    have hkv := (Own.empty wr wr.heap.size 52 12 (Nat.le_refl _)).below (zb (wr.alloc (.cells #[] 52)) (.cells #[.slice (some ⟨wr.heap.size, 0, none⟩) 0 0] 32))
    have hcell : ((wr.alloc (.cells #[] 52)).alloc (.cells #[.slice (some ⟨wr.heap.size, 0, none⟩) 0 0] 32)).cell? ((⟨wr.heap.size + 1, 0, none⟩ : Addr).add 0) = some (.slice (some ⟨wr.heap.size, 0, none⟩) 0 0) := by
     have h9 := zdo (wr.alloc (.cells #[] 52)) (.slice (some ⟨wr.heap.size, 0, none⟩) 0 0) 32
     simpa using h9
    go_wp2_with (at_builtin; refine zdS (fs := []) (g := []) zaA rfl _ _ rfl rfl (by exact st.row) hbA ⟨wr.heap.size + 1, 0, none⟩ 1 rfl hcell (by exact hkv) (by simp) (by have := st.lb; omega) (by omega) (by omega) ?_)
    intro lv' w6 hrow6 hm6
    obtain ⟨a6, n6, c6, rfl⟩ := hrow6.form'
    have hm7 := Moved.after hbA hm6
    have hcb := hm7.block st.lt st.nr
    have y1 := zg hcb e1
    have g1 := zl hcb fr1
    have st6 := st.app (by omega) hrow6 (fun b hb => by simp only [Value.ownBlock, Option.some.injEq] at hb; omega) (by simp) hm7
    have hl := st.row.lt
    have hk6 : ∀ b, b < base → w6.heap[b]? = wr.heap[b]? := fun b hb => hm7.block (by omega) (fun e => by have := (hl.1 b e).1; omega)
    have hR6 : Box [.slice none 0 0, .slice none 0 0] (w.heap.size + 1) w6 := ⟨by have := hm7.size; omega, fun j x hx => zg (hk6 _ (by omega)) (hR.2.1 j x hx), fun j => zl (hk6 _ (by omega)) (hR.2.2 j)⟩
    have hbW := hm7.toBelow (B := base) (by omega) (fun b e => (hl.1 b e).1)
    have hR7 := hR6.sets_other (b := X) (by omega) [(1, .slice a6 n6 c6)]
    have hN7 := Only.setsR (b := X) (by omega) [(1, .slice a6 n6 c6)] (hN.belowB9 hbW (by omega))
    have hRd7 := Rdr.sets (b := X) (by omega) [(1, .slice a6 n6 c6)] (hRd.belowB9 hbW (by omega))
    simp only [zo] at hR7 hN7 hRd7
    have HW6 : Hid (wtV (Stk.mk K.sig ((L ++ [(⟨.slice (some ⟨wr.heap.size, 0, none⟩) 0 0, [], []⟩ : Lv)]).map Lv.fs)).cd ≤ M + (j + 1)) := Lib.hid (by
     have h8 := HW.out
     rw [zS] at h8 ⊢
     simp only [zd8, List.map_cons, List.map_nil, zU, zZ, wtR, zx, wtV, wtC, zd7, List.length_cons, List.length_nil] at h8 ⊢
     omega)
    have hn6 : n6 ≤ n + 1 ∧ n + 1 ≤ n6 := by
     obtain ⟨a9, c9, h9⟩ := hrow6.form
     rw [zd7, List.length_singleton] at h9
     simp only [Value.slice.injEq] at h9
     omega
    clear hm6 hm7 hbA hkv hcell hR hRd hN hR6 hbW hk6 hcb hl
    go_wp2_with fail
    go_roundw
    case rel => exact ⟨j + 1, _, _, by omega, by rw [zd7, List.length_singleton]; omega, HW6, st6, hR7, hRd7, hN7⟩
    case measure =>
     have z1 := st6.c1
     simp only [e1, z1, Option.getD_some, slLen7]; omega
   ·have h4b : decide ((n : Int) ≤ 4) = false := decide_eq_false (by omega)
    obtain ⟨kf9, hro, hlo0⟩ := st.rd
    have hlo : ∀ b ∈ kf9, w.heap.size + 1 < b := fun b hb => by have := hlo0 b hb; omega
    obtain ⟨K2, hK2⟩ : ∃ K2 : Stk, K2 = Stk.mk K.sig (L.map Lv.fs) := ⟨_, rfl⟩
    have hn3 : n = K2.levels.length := by rw [hK2]; simp only [zea]; omega
    have hs3 : K2.sig = K.sig := by rw [hK2]
    rw [← hK2] at hro HW
    rw [hn3, ← hs3] at hro
    rw [hn3] at e1
    rw [← hs3] at e0
    have HF2 : SgFit (N + 16) (A + 2) K2.sig := by rw [hs3]; exact ⟨by have := HF.out.1.1; omega, fun y hy => by have := HF.out.1.2 y hy; omega⟩
    rw [hn3] at h4b
    clear st hlo0 hK2 hn1 hn2 hn3 hs3 h4 hjl
    go_upto_region 16 with fail
    have yr0 := hR.2.1 0 _ rfl; have yr1 := hR.2.1 1 _ rfl; have zr0 := hR.2.2 0; have zr1 := hR.2.2 1
    have gR := hR.puts [.slice sa K2.sig.syms.length sc, .slice la K2.levels.length lc] rfl
    have hO5 := Only.setsR (b := w.heap.size + 1) (by omega) (ze 0 [.slice sa K2.sig.syms.length sc, .slice la K2.levels.length lc]) hN
    have hR9 := Rdr.sets (b := w.heap.size + 1) (by omega) (ze 0 [.slice sa K2.sig.syms.length sc, .slice la K2.levels.length lc]) hRd
    have hKK := (Same2.refl (w.heap.size + 1) (w.heap.size + 1) (wr)).sets (b := w.heap.size + 1) (.inl rfl) (ze 0 [.slice sa K2.sig.syms.length sc, .slice la K2.levels.length lc])
    simp only [zo, ze] at gR hO5 hR9 hKK
    have r0 := gR.2.1 0 _ rfl
    have r1 := gR.2.1 1 _ rfl
    have hro2 := hro.same2 hKK (fun b hb => by have := hlo b hb; omega)
    have HFT : Hid (za7 (N + 16) (A + 2) (M + 3000) (K2)) := Lib.hid (⟨HF2, by have := HW.out; omega⟩)
    clear gR hKK hN hRd hro
    go_wp2_with fail
    refine bodyPost_ret (v := .agg #[.slice sa K2.sig.syms.length sc, .slice la K2.levels.length lc]) (by simp [results, Try.results13, go_sem, r0, r1]) rfl ?_
    exact ⟨⟨K2, _, _, _, _, _, HFT.out, rfl, hro2, fun b hb => by have := hlo b hb; omega⟩, hR9.mono (by omega), hO5⟩
 have n1 : ((d : Int) == 1) = false := by simpa using (by omega : ¬ ((d : Int) = 1))
 by_cases d2 : d = 2
 ·subst d2
  go_wp2_with fail
  refine (zcH N A K.sig _ fs rb (p + 1) _ (by omega) (by omega) (by omega) HF.out.1.1 HF.out.1.2 (by exact st.sg) (fun h => by have := st.sl _ h; omega) hRd).mono ?_
  rintro e u5 ⟨⟨s5, v5, f5, hs5, ha5, rfl, hrd5, hf5⟩, hu5, ho5⟩
  obtain ⟨a5, c5, _, rfl, rfl, _⟩ := Sg.open hrd5
  have hz5 := ho5.size
  go_wp2_with fail
  refine (zcH (N + 8) (A + 1) s5 _ f5 rb (p + 1 + 20) _ (by omega) (by omega) (by omega) hs5 ha5 (by exact hrd5) (fun h => by have := hf5 _ h; omega) hu5).mono ?_
  rintro e u6 ⟨⟨s6, v6, f6, hs6, ha6, rfl, hrd6, hf6⟩, hu6, ho6⟩
  obtain ⟨a6, c6, _, rfl, rfl, _⟩ := Sg.open hrd6
  have ho4 := ho5.trans ho6
  replace st := st.only (by omega) ho4 (by omega)
  replace hR := hR.only ho4 (by omega)
  replace hN := hN.trans ho4
  have hf6X : ∀ b ∈ f6, X < b := fun b hb => by have := hf6 b hb; omega
  clear hRd hu5 hrd5 ho5 ho6 ho4 e0 e1 fr0 fr1
  have hRd := hu6
  clear hu6
  have e0 := st.c0
  have e1 := st.c1
  have fr0 := st.fr 0
  have hfit6 : SgFit (N + 16) (A + 2) s6 := ⟨by omega, fun y hy => by have := ha6 y hy; omega⟩
  have hwt6 := hfit6.wt (by omega) (by omega)
  obtain ⟨fq, hrl, hql⟩ := st.row.rd
  rw [HL.out] at hrl
  go_upto_region 16 with fail
  have e0' := World.cell?_setCell_same u6 ⟨X, 0, none⟩ (.slice a6 s6.syms.length c6) e0
  have e1' := (World.cell?_setCell_other u6 ⟨X, 0, none⟩ ⟨X, 1, none⟩ (.slice a6 s6.syms.length c6) (by simp)).trans e1
  have hlb := st.lb
  have hrl2 := st.row.lt
  have hnX : X ∉ f6 ++ fq := fun h => by
   rcases zd5.1 h with h | h
   ·have := hf6X _ h; omega
   ·rcases hql X h with h9 | ⟨t, ht, h9 | h9⟩
    ·exact st.nr h9
    ·exact (st.nf t ht).1 h9
    ·exact (st.nf t ht).2 h9
  have hro : RdVs (u6.setCell ⟨X, 0, none⟩ (.slice a6 s6.syms.length c6)) (Stk.mk s6 K.levels).cd [.slice a6 s6.syms.length c6, .slice la K.levels.length lc] (f6 ++ fq) := (hrd6.app (RdVs.single hrl)).same _ (zv (a := ⟨X, 0, none⟩) (v := .slice a6 s6.syms.length c6) (fun b hb (e : b = X) => hnX (e ▸ hb)))
  have hlo : ∀ b ∈ f6 ++ fq, w.heap.size + 1 < b := fun b hb => by
   rcases zd5.1 hb with h | h
   ·have := hf6X _ h; omega
   ·rcases hql b h with h9 | ⟨t, ht, h9 | h9⟩
    ·have := (hrl2.1 b h9).1; omega
    ·have := ((hrl2.2 t ht).1 b h9).1; omega
    ·have := st.lg t ht b h9; omega
  replace hR : Box [.slice none 0 0, .slice none 0 0] (w.heap.size + 1) _ := hR.sets_other (b := X) (by omega) [(0, .slice a6 s6.syms.length c6)]
  replace hN := Only.setsR (b := X) (by omega) [(0, .slice a6 s6.syms.length c6)] hN
  replace hRd := Rdr.sets (b := X) (by omega) [(0, .slice a6 s6.syms.length c6)] hRd
  simp only [zo] at hR hN hRd
  have hw0 : wtV (Stk.mk s6 K.levels).cd ≤ M + 3000 := by
   have h1 := zS s6 K.levels
   have h2 := zS K.sig K.levels
   rw [zaK] at h2
   have := HF.out.2
   omega
  generalize u6.setCell ⟨X, 0, none⟩ (.slice a6 s6.syms.length c6) = u2 at *
  clear st e0 e1 fr0 hrl hql hrl2 hnX hrd6
  have yr0 := hR.2.1 0 _ rfl; have yr1 := hR.2.1 1 _ rfl; have zr0 := hR.2.2 0; have zr1 := hR.2.2 1
  have gR := hR.puts [.slice a6 s6.syms.length c6, .slice la K.levels.length lc] rfl
  have hO5 := Only.setsR (b := w.heap.size + 1) (by omega) (ze 0 [.slice a6 s6.syms.length c6, .slice la K.levels.length lc]) hN
  have hR9 := Rdr.sets (b := w.heap.size + 1) (by omega) (ze 0 [.slice a6 s6.syms.length c6, .slice la K.levels.length lc]) hRd
  have hKK := (Same2.refl (w.heap.size + 1) (w.heap.size + 1) (u2)).sets (b := w.heap.size + 1) (.inl rfl) (ze 0 [.slice a6 s6.syms.length c6, .slice la K.levels.length lc])
  simp only [zo, ze] at gR hO5 hR9 hKK
  have r0 := gR.2.1 0 _ rfl
  have r1 := gR.2.1 1 _ rfl
  have hro2 := hro.same2 hKK (fun b hb => by have := hlo b hb; omega)
  have HFT : Hid (za7 (N + 16) (A + 2) (M + 3000) (Stk.mk s6 K.levels)) := Lib.hid (⟨hfit6, hw0⟩)
  clear gR hKK hN hRd hro
  go_wp2_with fail
  refine bodyPost_ret (v := .agg #[.slice a6 s6.syms.length c6, .slice la K.levels.length lc]) (by simp [results, Try.results13, go_sem, r0, r1]) rfl ?_
  exact ⟨⟨Stk.mk s6 K.levels, _, _, _, _, _, HFT.out, rfl, hro2, fun b hb => by have := hlo b hb; omega⟩, hR9.mono (by omega), hO5⟩
 have n2 : ((d : Int) == 2) = false := by simpa using (by omega : ¬ ((d : Int) = 2))
 by_cases d3 : d = 3
 ·subst d3
  by_cases hl0 : 0 < L.length
  rotate_left
  ·have h0 : decide ((0 : Int) < (K.levels.length : Int)) = false := decide_eq_false (by omega)
   obtain ⟨kf9, hro, hlo0⟩ := st.rd
   rw [HL.out, zaK] at hro
   have hlo : ∀ b ∈ kf9, w.heap.size + 1 < b := fun b hb => by have := hlo0 b hb; omega
   clear st hlo0
   go_upto_region 16 with fail
   have yr0 := hR.2.1 0 _ rfl; have yr1 := hR.2.1 1 _ rfl; have zr0 := hR.2.2 0; have zr1 := hR.2.2 1
   have gR := hR.puts [.slice sa K.sig.syms.length sc, .slice la K.levels.length lc] rfl
   have hO5 := Only.setsR (b := w.heap.size + 1) (by omega) (ze 0 [.slice sa K.sig.syms.length sc, .slice la K.levels.length lc]) hN
   have hR9 := Rdr.sets (b := w.heap.size + 1) (by omega) (ze 0 [.slice sa K.sig.syms.length sc, .slice la K.levels.length lc]) hRd
   have hKK := (Same2.refl (w.heap.size + 1) (w.heap.size + 1) (u)).sets (b := w.heap.size + 1) (.inl rfl) (ze 0 [.slice sa K.sig.syms.length sc, .slice la K.levels.length lc])
   simp only [zo, ze] at gR hO5 hR9 hKK
   have r0 := gR.2.1 0 _ rfl
   have r1 := gR.2.1 1 _ rfl
   have hro2 := hro.same2 hKK (fun b hb => by have := hlo b hb; omega)
   have HFT : Hid (za7 (N + 16) (A + 2) (M + 3000) (K)) := Lib.hid (⟨⟨Nat.le_trans HF.out.1.1 (by omega), fun y hy => by have := HF.out.1.2 y hy; omega⟩, by have := HF.out.2; omega⟩)
   clear gR hKK hN hRd hro
   go_wp2_with fail
   refine bodyPost_ret (v := .agg #[.slice sa K.sig.syms.length sc, .slice la K.levels.length lc]) (by simp [results, Try.results13, go_sem, r0, r1]) rfl ?_
   exact ⟨⟨K, _, _, _, _, _, HFT.out, rfl, hro2, fun b hb => by have := hlo b hb; omega⟩, hR9.mono (by omega), hO5⟩
  have h0 : decide ((0 : Int) < (K.levels.length : Int)) = true := decide_eq_true (by omega)
  obtain ⟨t, L2, rfl⟩ : ∃ t L2, L = t :: L2 := by cases L with | nil => simp at hl0 | cons t L2 => exact ⟨t, L2, rfl⟩
  obtain ⟨tv, tfs, tg⟩ := t
  obtain ⟨ta, tn, tc, rfl⟩ : ∃ a n c, tv = .slice a n c := (st.row.own _ (List.mem_cons_self)).form'
  obtain ⟨q, hq⟩ : ∃ q, la = some ⟨q, 0, none⟩ := by
   rcases st.row.row.2 with ⟨_, h9⟩ | ⟨g, cap, cur, e, _⟩
   ·simp at h9
   ·simp only [Value.slice.injEq] at e; exact ⟨g, e.1⟩
  subst hq
  obtain ⟨n1, hn1⟩ : ∃ n1, n1 = K.levels.length := ⟨_, rfl⟩
  have hnn1 : 0 < n1 := by omega
  have hix : (0 : Int) < (n1 : Int) := by omega
  rw [← hn1] at st h0 e1
  go_upto_region 12 with fail
  rw [← hn1]
  have hrow := st.row
  have s1 := st.c1
  have htm : (⟨.slice ta tn tc, tfs, tg⟩ : Lv) ∈ ([] ++ ⟨.slice ta tn tc, tfs, tg⟩ :: L2 : List Lv) := by simp
  have t1 := (hrow.cell (k := 0) (by simp)).1
  have tz1 := (hrow.cell (k := 0) (by simp)).2
  simp only [List.getElem_cons_zero] at t1
  go_cut [42] from 41 to 42 (fun bv wx => ∃ b : Bool, bv = .bool b ∧ Below u.heap.size u wx)
  case first =>
   go_region
   all_goals
    go_wp2_with fail
    go_meet
    case rel => exact ⟨_, rfl, (zb u _).drew⟩
  case rest =>
  obtain ⟨bt, rfl, hbc⟩ := hcut
  replace st := st.below hbc
  replace hR := hR.below hbc
  replace hN := hN.trans (Only.below hbc)
  replace hRd := hRd.below hbc
  have hzc := hbc.size
  clear hbc s1 t1 tz1 hrow e0 e1 fr0 fr1
  generalize wc = u at *
  have s1 := st.c1
  have hrow : Lvs u base (.slice (some ⟨q, 0, none⟩) n1 lc) ([] ++ ⟨.slice ta tn tc, tfs, tg⟩ :: L2) := st.row
  have t1 := (hrow.cell (k := 0) (by simp)).1
  have tz1 := (hrow.cell (k := 0) (by simp)).2
  simp only [List.nil_append, List.getElem_cons_zero] at t1
  have hlt0 : ∀ b, (Value.slice ta tn tc).ownBlock = some b → base ≤ b ∧ b < u.heap.size := (hrow.lt.2 _ htm).1
  have hqb := hrow.lt.1 q rfl
  have hown0 := hrow.own _ htm
  have hoq : ∀ b, (Value.slice ta tn tc).ownBlock = some b → b ≠ q := fun b hb e => (hrow.nr _ htm).1 b hb (by rw [e]; rfl)
  have hgl0 := (hrow.lt.2 _ htm).2
  obtain ⟨tn1, tn2⟩ : tn ≤ tfs.length ∧ tfs.length ≤ tn := by
   obtain ⟨_, _, hve, _, _⟩ := hown0.form
   rw [zea] at hve
   simp only [Value.slice.injEq] at hve
   omega
  have hml : tfs.length ≤ 1048576 := by
   have h9 := zS K.sig K.levels
   rw [zaK, ← HL.out] at h9
   simp only [List.map_cons, zZ, zx, wtV, wtC, zea] at h9
   omega
  have BX := zm u
  go_upto_if 42 with (fail)
  cases bt
  ·go_upto_region 15 with fail
   refine Till.start (F := (fun U : World => U.cell? ⟨X, 1, none⟩ = some (.slice (some ⟨q, 0, none⟩) n1 lc) ∧ U.cell? ⟨q, 0, none⟩ = some (.slice ta tn tc))) (s0 := 9) (by kernel_rfl) ?_
   have hF : (fun U : World => U.cell? ⟨X, 1, none⟩ = some (.slice (some ⟨q, 0, none⟩) n1 lc) ∧ U.cell? ⟨q, 0, none⟩ = some (.slice ta tn tc)) _ := ⟨za s1 BX, za t1 BX⟩
   refine Till.take (i := 0) (v := (.pointer (some ⟨X, 1, none⟩))) rfl (by kernel_rfl) (by kernel_rfl) (by kernel_rfl) (fun _ _ _ h => h) (by kernel_rfl) (Or.inl ⟨by rfl, fun U hU => ?_⟩) hF ?_
   ·obtain ⟨u0F, u1F⟩ := hU
    go_simp
   try simp only [Act.put, zdX, zdY, zdZ]
   refine Till.take (i := 1) (v := (.slice (some ⟨q, 0, none⟩) n1 lc)) rfl (by kernel_rfl) (by kernel_rfl) (by kernel_rfl) (fun _ _ _ h => h) (by kernel_rfl) (Or.inl ⟨by rfl, fun U hU => ?_⟩) hF ?_
   ·obtain ⟨u0F, u1F⟩ := hU
    go_simp
   try simp only [Act.put, zdX, zdY, zdZ]
   refine Till.take (i := 2) (v := (.pointer (some ⟨X, 1, none⟩))) rfl (by kernel_rfl) (by kernel_rfl) (by kernel_rfl) (fun _ _ _ h => h) (by kernel_rfl) (Or.inl ⟨by rfl, fun U hU => ?_⟩) hF ?_
   ·obtain ⟨u0F, u1F⟩ := hU
    go_simp
   try simp only [Act.put, zdX, zdY, zdZ]
   refine Till.take (i := 3) (v := (.slice (some ⟨q, 0, none⟩) n1 lc)) rfl (by kernel_rfl) (by kernel_rfl) (by kernel_rfl) (fun _ _ _ h => h) (by kernel_rfl) (Or.inl ⟨by rfl, fun U hU => ?_⟩) hF ?_
   ·obtain ⟨u0F, u1F⟩ := hU
    go_simp
   try simp only [Act.put, zdX, zdY, zdZ]
   refine Till.take (i := 4) (v := (.pointer (some ⟨q, 0, none⟩))) rfl (by kernel_rfl) (by kernel_rfl) (by kernel_rfl) (fun _ _ _ h => h) (by kernel_rfl) (Or.inl ⟨by rfl, fun U hU => ?_⟩) hF ?_
   ·obtain ⟨u0F, u1F⟩ := hU
    go_simp
   try simp only [Act.put, zdX, zdY, zdZ]
   refine Till.take (i := 5) (v := (.slice ta tn tc)) rfl (by kernel_rfl) (by kernel_rfl) (by kernel_rfl) (fun _ _ _ h => h) (by kernel_rfl) (Or.inl ⟨by rfl, fun U hU => ?_⟩) hF ?_
   ·obtain ⟨u0F, u1F⟩ := hU
    go_simp
   try simp only [Act.put, zdX, zdY, zdZ]
   refine Till.take (i := 6) (v := (.agg #[.int .i64 0, .int .i64 0, .string ⟨#[]⟩, .slice none 0 0, .string ⟨#[]⟩, .slice none 0 0, .slice none 0 0, .slice none 0 0, .int .i64 0, .bool false, .bool false, .slice none 0 0])) rfl (by kernel_rfl) (by kernel_rfl) (by kernel_rfl) (fun _ _ _ h => h) (by kernel_rfl) (Or.inl ⟨by rfl, fun U hU => ?_⟩) hF ?_
   ·obtain ⟨u0F, u1F⟩ := hU
    go_simp
   try simp only [Act.put, zdX, zdY, zdZ]
   refine Till.one (i := 7) (by kernel_rfl) rfl (fun J9 hK => ?_)
   go_simp
   have BY : Below u.heap.size u (u.alloc (.cells #[.int .i64 0, .int .i64 0, .string ⟨#[]⟩, .slice none 0 0, .string ⟨#[]⟩, .slice none 0 0, .slice none 0 0, .slice none 0 0, .int .i64 0, .bool false, .bool false, .slice none 0 0] 52)).drew := (zb u _).drew
   refine hK.out _ _ (fun _ => ⟨za s1 BY, za t1 BY⟩) ?_
   clear hK
   try simp only [Act.put, zdX, zdY, zdZ]
   refine Till.one (i := 8) (by kernel_rfl) rfl (fun J9 hK => ?_)
   refine zR zai rfl _ _ rfl base _ _ _ rfl (by exact hown0.below BY) ⟨u.heap.size, 0, none⟩ 1 1 [zz] [.int .i64 0, .int .i64 0, .string ⟨#[]⟩, .slice none 0 0, .string ⟨#[]⟩, .slice none 0 0, .slice none 0 0, .slice none 0 0, .int .i64 0, .bool false, .bool false, .slice none 0 0] [] rfl rfl (by simpa using zaL _) (by simp [zz]) (by exact zr _ _ _) (by simp) (by (try simp); omega) (by (try simp); omega) (by have := BY.size; omega) ?_
   intro v6 w6 hown6 hg6 hv6 hs6
   obtain ⟨ga, gn, gc, rfl⟩ := hown6.form'
   obtain ⟨gb, rfl⟩ := hown6.addr (by simp)
   have hm6 : Moved u (.slice ta tn tc) w6 (.slice (some ⟨gb, 0, none⟩) gn gc) := Moved.after BY ⟨hg6, fun b hb => by first | exact hv6 b hb | simpa using hv6 b hb⟩
   obtain ⟨hgn1, hgn2⟩ : tn < gn ∧ gn ≤ tn + 1 := by
    obtain ⟨_, _, hve, _, _⟩ := hown6.form
    rw [zd7, zea] at hve
    simp only [Value.slice.injEq, List.length_cons, List.length_nil] at hve
    omega
   refine hK.out _ _ (fun _ => ⟨zg (hm6.block st.lt (fun e => (st.nf _ htm).1 e)) s1, zg (hm6.block hqb.2 (fun e => hoq q e rfl)) t1⟩) ?_
   clear hK
   try simp only [Act.put, zdX, zdY, zdZ]
   refine Till.one (i := 9) (by kernel_rfl) rfl (fun J9 hK => ?_)
   have s6 := zg (hm6.block st.lt (fun e => (st.nf _ htm).1 e)) s1
   go_simp
   refine hK.out _ _ (fun h => absurd h (by decide)) ?_
   clear hK
   try simp only [Act.put, zdX, zdY, zdZ]
   refine Till.one (i := 10) (by kernel_rfl) rfl (fun J9 hK => ?_)
   have t6 := zg (hm6.block hqb.2 (fun e => hoq q e rfl)) t1
   have tz6 := zl (hm6.block hqb.2 (fun e => hoq q e rfl)) tz1
   go_simp
   refine hK.out _ _ (fun h => absurd h (by decide)) ?_
   clear hK
   try simp only [Act.put, zdX, zdY, zdZ]
   refine Till.done (by kernel_rfl) ?_ _
   have hown6' : Own w6 base 52 12 (.slice (some ⟨gb, 0, none⟩) gn gc) ((tfs ++ [Fm.zero9]).map Fm.cd) tg := by
    try rw [List.append_nil] at hown6
    rw [zd8, List.map_singleton, zaw]; exact hown6
   have hRow9 := hrow.tell (L1 := []) hm6 hown6' hqb.2 (fun b hb => .inl hb) hgl0
   have hT9 : Turned u _ q (.slice ta tn tc) := Turned.tell (q := q) (n := 0) hm6
   have hglo : ∀ b ∈ tg, base ≤ b := fun b hb => st.lg _ htm b hb
   clear hown6 hg6 hv6 hs6 hm6 hown6' hF BX
   go_upto_region 16 with fail
   generalize w6.setCell ⟨q, 0, none⟩ (.slice (some ⟨gb, 0, none⟩) gn gc) = w9 at *
   obtain ⟨t9, ht9e⟩ : ∃ t9 : Lv, t9 = ⟨.slice (some ⟨gb, 0, none⟩) gn gc, tfs ++ [Fm.zero9], tg⟩ := ⟨_, rfl⟩
   rw [← ht9e] at hRow9
   have ht9 : t9.fs = tfs ++ [Fm.zero9] := by rw [ht9e]
   have hg9 : ∀ b ∈ t9.g, base ≤ b := by rw [ht9e]; exact hglo
   clear ht9e hglo
   have hzu9 := hT9.size
   have hs9 : SameOn fs u w9 := fun b hb => hT9.keep b (st.sg.lt _ b hb) (fun e => by have := st.sb b hb; omega) (fun e => by have := (hlt0 b e).1; have := st.sb b hb; omega)
   have hob9 : w9.heap[X]? = u.heap[X]? := hT9.keep X st.lt (fun e => st.nr (by rw [e]; rfl)) (fun e => (st.nf ⟨.slice ta tn tc, tfs, tg⟩ (by simp)).1 e)
   obtain ⟨e0, e1, kf9, hro, hfq⟩ := st.turn hRow9 hob9 hs9
   have hkb : ∀ b, b < base → w9.heap[b]? = u.heap[b]? := fun b hb => hT9.keep b (by omega) (by omega) (fun e => by have := (hlt0 b e).1; omega)
   replace hR : Box [.slice none 0 0, .slice none 0 0] (w.heap.size + 1) w9 := ⟨by omega, fun j x hx => zg (hkb _ (by omega)) (hR.2.1 j x hx), fun j => zl (hkb _ (by omega)) (hR.2.2 j)⟩
   have hbW := hT9.bel base (by omega) (by omega) (fun b e => (hlt0 b e).1)
   replace hN := hN.belowB9 hbW (by omega)
   replace hRd := hRd.belowB9 hbW (by omega)
   have hlgs := st.lg
   have hlo : ∀ b ∈ kf9, w.heap.size + 1 < b := fun b hb => by
    rcases hfq b hb with h9 | ⟨x, hx, h9⟩
    ·omega
    ·rcases zd9.1 hx with rfl | hx
     ·have := hg9 b h9; omega
     ·have := hlgs x (List.mem_cons_of_mem _ hx) b h9; omega
   obtain ⟨K2, hK2⟩ : ∃ K2 : Stk, K2 = Stk.mk K.sig (([] ++ t9 :: L2).map Lv.fs) := ⟨_, rfl⟩
   have hn3 : n1 = K2.levels.length := by rw [hn1, hK2, ← HL.out]; simp
   have hs3 : K2.sig = K.sig := by rw [hK2]
   have hw2 : wtV K2.cd ≤ M + 3000 := by
    have h1 := HF.out.2
    have h2 := zS K.sig K.levels
    rw [zaK, ← HL.out] at h2
    have hz9 : wtV Fm.zero9.cd = 0 := by rw [zaw]; rfl
    rw [hK2, zS]
    simp only [List.nil_append, List.map_cons, ht9, zd8, List.map_nil, zU, zZ, wtR, zx, wtV, wtC, zd7, List.length_cons, List.length_nil, zea, hz9] at h1 h2 ⊢
    omega
   rw [← hK2] at hro
   rw [hn3, ← hs3] at hro
   rw [hn3] at e1
   rw [← hs3] at e0
   have HF2 : SgFit (N + 16) (A + 2) K2.sig := by rw [hs3]; exact ⟨by have := HF.out.1.1; omega, fun y hy => by have := HF.out.1.2 y hy; omega⟩
   clear st hT9 hRow9 hs9 hob9 hkb hfq hlgs hg9 ht9 hK2 hbW hrow s1 t1 tz1 hown0 hlt0 hoq hgl0 hs3 hn3
   have yr0 := hR.2.1 0 _ rfl; have yr1 := hR.2.1 1 _ rfl; have zr0 := hR.2.2 0; have zr1 := hR.2.2 1
   have gR := hR.puts [.slice sa K2.sig.syms.length sc, .slice (some ⟨q, 0, none⟩) K2.levels.length lc] rfl
   have hO5 := Only.setsR (b := w.heap.size + 1) (by omega) (ze 0 [.slice sa K2.sig.syms.length sc, .slice (some ⟨q, 0, none⟩) K2.levels.length lc]) hN
   have hR9 := Rdr.sets (b := w.heap.size + 1) (by omega) (ze 0 [.slice sa K2.sig.syms.length sc, .slice (some ⟨q, 0, none⟩) K2.levels.length lc]) hRd
   have hKK := (Same2.refl (w.heap.size + 1) (w.heap.size + 1) (w9)).sets (b := w.heap.size + 1) (.inl rfl) (ze 0 [.slice sa K2.sig.syms.length sc, .slice (some ⟨q, 0, none⟩) K2.levels.length lc])
   simp only [zo, ze] at gR hO5 hR9 hKK
   have r0 := gR.2.1 0 _ rfl
   have r1 := gR.2.1 1 _ rfl
   have hro2 := hro.same2 hKK (fun b hb => by have := hlo b hb; omega)
   have HFT : Hid (za7 (N + 16) (A + 2) (M + 3000) (K2)) := Lib.hid (⟨HF2, hw2⟩)
   clear gR hKK hN hRd hro
   go_wp2_with fail
   refine bodyPost_ret (v := .agg #[.slice sa K2.sig.syms.length sc, .slice (some ⟨q, 0, none⟩) K2.levels.length lc]) (by simp [results, Try.results13, go_sem, r0, r1]) rfl ?_
   exact ⟨⟨K2, _, _, _, _, _, HFT.out, rfl, hro2, fun b hb => by have := hlo b hb; omega⟩, hR9.mono (by omega), hO5⟩
  ·have BY : Below u.heap.size u (u.alloc (.cells #[.int .i64 0, .int .i64 0, .string ⟨#[]⟩, .slice none 0 0, .string ⟨#[]⟩, .slice none 0 0, .slice none 0 0, .slice none 0 0, .int .i64 0, .bool false, .bool false, .slice none 0 0] 52)) := zb u _
   have hrz := zaL (u.alloc (.cells #[.int .i64 0, .int .i64 0, .string ⟨#[]⟩, .slice none 0 0, .string ⟨#[]⟩, .slice none 0 0, .slice none 0 0, .slice none 0 0, .int .i64 0, .bool false, .bool false, .slice none 0 0] 52))
   go_wp2_with (at_builtin; refine zH zai rfl _ _ rfl base _ _ _ rfl (by exact hown0.below BY) ⟨u.heap.size, 0, none⟩ 1 1 [zz] [.int .i64 0, .int .i64 0, .string ⟨#[]⟩, .slice none 0 0, .string ⟨#[]⟩, .slice none 0 0, .slice none 0 0, .slice none 0 0, .int .i64 0, .bool false, .bool false, .slice none 0 0] [] rfl rfl (by simpa using zaL _) (by simp [zz]) (by exact zr _ _ _) (by simp) (by (try simp); omega) (by (try simp); omega) (by have := BY.size; omega) ?_)
   intro v6 w6 hown6 hg6 hv6 hs6
   obtain ⟨ga, gn, gc, rfl⟩ := hown6.form'
   obtain ⟨gb, rfl⟩ := hown6.addr (by simp)
   have hm6 : Moved u (.slice ta tn tc) w6 (.slice (some ⟨gb, 0, none⟩) gn gc) := Moved.after BY ⟨hg6, fun b hb => by first | exact hv6 b hb | simpa using hv6 b hb⟩
   obtain ⟨hgn1, hgn2⟩ : tn < gn ∧ gn ≤ tn + 1 := by
    obtain ⟨_, _, hve, _, _⟩ := hown6.form
    rw [zd7, zea] at hve
    simp only [Value.slice.injEq, List.length_cons, List.length_nil] at hve
    omega
   have t6 := zg (hm6.block hqb.2 (fun e => hoq q e rfl)) t1
   have tz6 := zl (hm6.block hqb.2 (fun e => hoq q e rfl)) tz1
   have hown6' : Own w6 base 52 12 (.slice (some ⟨gb, 0, none⟩) gn gc) ((tfs ++ [Fm.zero9]).map Fm.cd) tg := by
    try rw [List.append_nil] at hown6
    rw [zd8, List.map_singleton, zaw]; exact hown6
   have hRow7 := hrow.tell (L1 := []) hm6 hown6' hqb.2 (fun b hb => .inl hb) hgl0
   have hT7 : Turned u _ q (.slice ta tn tc) := Turned.tell (q := q) (n := 0) hm6
   have hgb : (Value.slice ta tn tc).ownBlock = some gb ∨ u.heap.size ≤ gb := hm6.2 gb rfl
   clear hown6 hg6 hv6 hs6 hm6 hown6' BX
   go_upto_region 14 with fail
   generalize w6.setCell ⟨q, 0, none⟩ (.slice (some ⟨gb, 0, none⟩) gn gc) = w7 at *
   have hown7 := hRow7.own ⟨.slice (some ⟨gb, 0, none⟩) gn gc, tfs ++ [Fm.zero9], tg⟩ (by simp)
   simp only [zd8, List.map_singleton, zaw] at hown7
   obtain ⟨zs, zf, hzc, hzr⟩ := hown7.cells
   have hzl := hzr.length
   have hds : (tfs.map Fm.cd).length = tn := by rw [zea]; omega
   rw [hds] at hzc
   have hz0 := hzc 0 _ (List.getElem?_eq_getElem (by rw [hzl]; simp [zz]))
   have hz1 := hzc 1 _ (List.getElem?_eq_getElem (by rw [hzl]; simp [zz]))
   have hz2 := hzc 2 _ (List.getElem?_eq_getElem (by rw [hzl]; simp [zz]))
   have hz3 := hzc 3 _ (List.getElem?_eq_getElem (by rw [hzl]; simp [zz]))
   have hz4 := hzc 4 _ (List.getElem?_eq_getElem (by rw [hzl]; simp [zz]))
   have hz5 := hzc 5 _ (List.getElem?_eq_getElem (by rw [hzl]; simp [zz]))
   have hz6 := hzc 6 _ (List.getElem?_eq_getElem (by rw [hzl]; simp [zz]))
   have hz7 := hzc 7 _ (List.getElem?_eq_getElem (by rw [hzl]; simp [zz]))
   have hz8 := hzc 8 _ (List.getElem?_eq_getElem (by rw [hzl]; simp [zz]))
   have hz9 := hzc 9 _ (List.getElem?_eq_getElem (by rw [hzl]; simp [zz]))
   have hz10 := hzc 10 _ (List.getElem?_eq_getElem (by rw [hzl]; simp [zz]))
   have hz11 := hzc 11 _ (List.getElem?_eq_getElem (by rw [hzl]; simp [zz]))
   generalize zs[0]'_ = u0 at hz0
   generalize zs[1]'_ = u1 at hz1
   generalize zs[2]'_ = u2 at hz2
   generalize zs[3]'_ = u3 at hz3
   generalize zs[4]'_ = u4 at hz4
   generalize zs[5]'_ = u5 at hz5
   generalize zs[6]'_ = u6 at hz6
   generalize zs[7]'_ = u7 at hz7
   generalize zs[8]'_ = u8 at hz8
   generalize zs[9]'_ = u9 at hz9
   generalize zs[10]'_ = u10 at hz10
   generalize zs[11]'_ = u11 at hz11
   have hfz := hown7.free
   have hy0 := hfz (tn * 12)
   have hy1 := hfz (tn * 12 + 1)
   have hy2 := hfz (tn * 12 + 2)
   have hy3 := hfz (tn * 12 + 3)
   have hy4 := hfz (tn * 12 + 4)
   have hy5 := hfz (tn * 12 + 5)
   have hy6 := hfz (tn * 12 + 6)
   have hy7 := hfz (tn * 12 + 7)
   have hy8 := hfz (tn * 12 + 8)
   have hy9 := hfz (tn * 12 + 9)
   have hy10 := hfz (tn * 12 + 10)
   have hy11 := hfz (tn * 12 + 11)
   clear hfz hzc
   rw [Nat.add_zero] at hz0
   obtain ⟨hown8, hg8⟩ := hown7.put (vs := [.int .i64 0, .int .i64 0, .string ⟨#[]⟩, .slice none 0 0, .string ⟨#[]⟩, .slice none 0 0, .slice none 0 0, .slice none 0 0, .int .i64 0, .bool false, .bool false, .slice none 0 0]) (nf := []) (new := zz) zba (by simpa using NoFp.nil) (zaL w7) (by simp [zz]) (by simp)
   rw [hds] at hown8 hg8
   simp only [World.setCells, List.append_nil] at hown8 hg8
   have hgx : (tn : Int) < (gn : Int) := by omega
   have hRow9 := hRow7.put (L1 := []) (fs' := tfs ++ [Fm.zero9]) (g' := tg) ⟨hg8, fun b hb => .inl hb⟩ (by rw [zd8, List.map_singleton, zaw]; exact hown8) (fun b hb => .inl hb)
   have hT9 := hT7.put (v' := .slice (some ⟨gb, 0, none⟩) gn gc) rfl hgb ⟨hg8, fun b hb => .inl hb⟩
   have hglo : ∀ b ∈ tg, base ≤ b := fun b hb => st.lg _ htm b hb
   clear hown8 hg8 hRow7 hT7 hown7 hzr hds
   go_upto_region 16 with fail
   generalize (((((((((((w7.setCell ⟨gb, tn * 12, none⟩ (.int .i64 0)).setCell ⟨gb, tn * 12 + 1, none⟩ (.int .i64 0)).setCell ⟨gb, tn * 12 + 2, none⟩ (.string ⟨#[]⟩)).setCell ⟨gb, tn * 12 + 3, none⟩ (.slice none 0 0)).setCell ⟨gb, tn * 12 + 4, none⟩ (.string ⟨#[]⟩)).setCell ⟨gb, tn * 12 + 5, none⟩ (.slice none 0 0)).setCell ⟨gb, tn * 12 + 6, none⟩ (.slice none 0 0)).setCell ⟨gb, tn * 12 + 7, none⟩ (.slice none 0 0)).setCell ⟨gb, tn * 12 + 8, none⟩ (.int .i64 0)).setCell ⟨gb, tn * 12 + 9, none⟩ (.bool false)).setCell ⟨gb, tn * 12 + 10, none⟩ (.bool false)).setCell ⟨gb, tn * 12 + 11, none⟩ (.slice none 0 0) = w9 at *
   obtain ⟨t9, ht9e⟩ : ∃ t9 : Lv, t9 = ⟨.slice (some ⟨gb, 0, none⟩) gn gc, tfs ++ [Fm.zero9], tg⟩ := ⟨_, rfl⟩
   rw [← ht9e] at hRow9
   have ht9 : t9.fs = tfs ++ [Fm.zero9] := by rw [ht9e]
   have hg9 : ∀ b ∈ t9.g, base ≤ b := by rw [ht9e]; exact hglo
   clear ht9e hglo
   have hzu9 := hT9.size
   have hs9 : SameOn fs u w9 := fun b hb => hT9.keep b (st.sg.lt _ b hb) (fun e => by have := st.sb b hb; omega) (fun e => by have := (hlt0 b e).1; have := st.sb b hb; omega)
   have hob9 : w9.heap[X]? = u.heap[X]? := hT9.keep X st.lt (fun e => st.nr (by rw [e]; rfl)) (fun e => (st.nf ⟨.slice ta tn tc, tfs, tg⟩ (by simp)).1 e)
   obtain ⟨e0, e1, kf9, hro, hfq⟩ := st.turn hRow9 hob9 hs9
   have hkb : ∀ b, b < base → w9.heap[b]? = u.heap[b]? := fun b hb => hT9.keep b (by omega) (by omega) (fun e => by have := (hlt0 b e).1; omega)
   replace hR : Box [.slice none 0 0, .slice none 0 0] (w.heap.size + 1) w9 := ⟨by omega, fun j x hx => zg (hkb _ (by omega)) (hR.2.1 j x hx), fun j => zl (hkb _ (by omega)) (hR.2.2 j)⟩
   have hbW := hT9.bel base (by omega) (by omega) (fun b e => (hlt0 b e).1)
   replace hN := hN.belowB9 hbW (by omega)
   replace hRd := hRd.belowB9 hbW (by omega)
   have hlgs := st.lg
   have hlo : ∀ b ∈ kf9, w.heap.size + 1 < b := fun b hb => by
    rcases hfq b hb with h9 | ⟨x, hx, h9⟩
    ·omega
    ·rcases zd9.1 hx with rfl | hx
     ·have := hg9 b h9; omega
     ·have := hlgs x (List.mem_cons_of_mem _ hx) b h9; omega
   obtain ⟨K2, hK2⟩ : ∃ K2 : Stk, K2 = Stk.mk K.sig (([] ++ t9 :: L2).map Lv.fs) := ⟨_, rfl⟩
   have hn3 : n1 = K2.levels.length := by rw [hn1, hK2, ← HL.out]; simp
   have hs3 : K2.sig = K.sig := by rw [hK2]
   have hw2 : wtV K2.cd ≤ M + 3000 := by
    have h1 := HF.out.2
    have h2 := zS K.sig K.levels
    rw [zaK, ← HL.out] at h2
    have hz9 : wtV Fm.zero9.cd = 0 := by rw [zaw]; rfl
    rw [hK2, zS]
    simp only [List.nil_append, List.map_cons, ht9, zd8, List.map_nil, zU, zZ, wtR, zx, wtV, wtC, zd7, List.length_cons, List.length_nil, zea, hz9] at h1 h2 ⊢
    omega
   rw [← hK2] at hro
   rw [hn3, ← hs3] at hro
   rw [hn3] at e1
   rw [← hs3] at e0
   have HF2 : SgFit (N + 16) (A + 2) K2.sig := by rw [hs3]; exact ⟨by have := HF.out.1.1; omega, fun y hy => by have := HF.out.1.2 y hy; omega⟩
   clear st hT9 hRow9 hs9 hob9 hkb hfq hlgs hg9 ht9 hK2 hbW hrow s1 t1 tz1 hown0 hlt0 hoq hgl0 hs3 hn3
   have yr0 := hR.2.1 0 _ rfl; have yr1 := hR.2.1 1 _ rfl; have zr0 := hR.2.2 0; have zr1 := hR.2.2 1
   have gR := hR.puts [.slice sa K2.sig.syms.length sc, .slice (some ⟨q, 0, none⟩) K2.levels.length lc] rfl
   have hO5 := Only.setsR (b := w.heap.size + 1) (by omega) (ze 0 [.slice sa K2.sig.syms.length sc, .slice (some ⟨q, 0, none⟩) K2.levels.length lc]) hN
   have hR9 := Rdr.sets (b := w.heap.size + 1) (by omega) (ze 0 [.slice sa K2.sig.syms.length sc, .slice (some ⟨q, 0, none⟩) K2.levels.length lc]) hRd
   have hKK := (Same2.refl (w.heap.size + 1) (w.heap.size + 1) (w9)).sets (b := w.heap.size + 1) (.inl rfl) (ze 0 [.slice sa K2.sig.syms.length sc, .slice (some ⟨q, 0, none⟩) K2.levels.length lc])
   simp only [zo, ze] at gR hO5 hR9 hKK
   have r0 := gR.2.1 0 _ rfl
   have r1 := gR.2.1 1 _ rfl
   have hro2 := hro.same2 hKK (fun b hb => by have := hlo b hb; omega)
   have HFT : Hid (za7 (N + 16) (A + 2) (M + 3000) (K2)) := Lib.hid (⟨HF2, hw2⟩)
   clear gR hKK hN hRd hro
   go_wp2_with fail
   refine bodyPost_ret (v := .agg #[.slice sa K2.sig.syms.length sc, .slice (some ⟨q, 0, none⟩) K2.levels.length lc]) (by simp [results, Try.results13, go_sem, r0, r1]) rfl ?_
   exact ⟨⟨K2, _, _, _, _, _, HFT.out, rfl, hro2, fun b hb => by have := hlo b hb; omega⟩, hR9.mono (by omega), hO5⟩
 have n3 : ((d : Int) == 3) = false := by simpa using (by omega : ¬ ((d : Int) = 3))
 obtain ⟨kf9, hro, hlo0⟩ := st.rd
 rw [HL.out, zaK] at hro
 have hlo : ∀ b ∈ kf9, w.heap.size + 1 < b := fun b hb => by have := hlo0 b hb; omega
 clear st hlo0
 go_upto_region 16 with fail
 have yr0 := hR.2.1 0 _ rfl; have yr1 := hR.2.1 1 _ rfl; have zr0 := hR.2.2 0; have zr1 := hR.2.2 1
 have gR := hR.puts [.slice sa K.sig.syms.length sc, .slice la K.levels.length lc] rfl
 have hO5 := Only.setsR (b := w.heap.size + 1) (by omega) (ze 0 [.slice sa K.sig.syms.length sc, .slice la K.levels.length lc]) hN
 have hR9 := Rdr.sets (b := w.heap.size + 1) (by omega) (ze 0 [.slice sa K.sig.syms.length sc, .slice la K.levels.length lc]) hRd
 have hKK := (Same2.refl (w.heap.size + 1) (w.heap.size + 1) (u)).sets (b := w.heap.size + 1) (.inl rfl) (ze 0 [.slice sa K.sig.syms.length sc, .slice la K.levels.length lc])
 simp only [zo, ze] at gR hO5 hR9 hKK
 have r0 := gR.2.1 0 _ rfl
 have r1 := gR.2.1 1 _ rfl
 have hro2 := hro.same2 hKK (fun b hb => by have := hlo b hb; omega)
 have HFT : Hid (za7 (N + 16) (A + 2) (M + 3000) (K)) := Lib.hid (⟨⟨Nat.le_trans HF.out.1.1 (by omega), fun y hy => by have := HF.out.1.2 y hy; omega⟩, by have := HF.out.2; omega⟩)
 clear gR hKK hN hRd hro
 go_wp2_with fail
 refine bodyPost_ret (v := .agg #[.slice sa K.sig.syms.length sc, .slice la K.levels.length lc]) (by simp [results, Try.results13, go_sem, r0, r1]) rfl ?_
 exact ⟨⟨K, _, _, _, _, _, HFT.out, rfl, hro2, fun b hb => by have := hlo b hb; omega⟩, hR9.mono (by omega), hO5⟩
end Go.Proofs.Yticlgpkjdmcnaaa
end
