/- Parts of the proof: WhUv WhUw. -/
import Derived.BigQuiet
import Derived.Lib.QuietBelow
import Derived.Test.YtlefdhhnlbpbkaaGreatPv39
import Derived.Test.YtlefdhhnlbpbkaaGreatPv28
section
namespace Go.Proofs.YtlefdhhnlbpbkaaGreat
open Go Go.RowKit
set_option linter.unusedVariables false
set_option linter.unusedSimpArgs false
set_option maxRecDepth 100000
set_option maxHeartbeats 16000000
/-- Two ascending lists of the same are one. -/
theorem up_ext : ∀ (l m : List Int), l.Pairwise (· < ·) → m.Pairwise (· < ·) → (∀ x, x ∈ l ↔ x ∈ m) → l = m
 | [], [], _, _, _ => rfl
 | [], b :: m, _, _, h => by have := (h b).2 (by simp); cases this
 | a :: l, [], _, _, h => by have := (h a).1 (by simp); cases this
 | a :: l, b :: m, h1, h2, h => by
  rw [List.pairwise_cons] at h1 h2
  have e : a = b := by
   have ha := (h a).1 (by simp)
   have hb := (h b).2 (by simp)
   rcases zev.1 ha with e | ha
   ·exact e
   ·rcases zev.1 hb with e | hb
    ·exact e.symm
    ·have := h1.1 b hb; have := h2.1 a ha; omega
  subst e
  rw [up_ext l m h1.2 h2.2 (fun x => by
   constructor
   ·intro hx
    have := (h x).1 (by simp [hx])
    rcases zev.1 this with e | h3
    ·have := h1.1 x hx; omega
    ·exact h3
   ·intro hx
    have := (h x).2 (by simp [hx])
    rcases zev.1 this with e | h3
    ·have := h2.1 x hx; omega
    ·exact h3)]
/-- A number put where it belongs. -/
theorem up_put {l : List Int} {n : Int} {k : Nat} (hp : l.Pairwise (· < ·)) (hk : k ≤ l.length) (h1 : ∀ j (h : j < l.length), j < k → l[j] < n) (h2 : ∀ (h : k < l.length), n < l[k]) :
  ((l.take k ++ [n]) ++ l.drop k).Pairwise (· < ·) ∧ ∀ x, x ∈ (l.take k ++ [n]) ++ l.drop k ↔ x ∈ l ∨ x = n := by
 have ht : ∀ x ∈ l.take k, x < n := fun x hx => by
  obtain ⟨j, hj, rfl⟩ := List.getElem_of_mem hx
  rw [List.length_take] at hj
  rw [List.getElem_take]
  exact h1 j (by omega) (by omega)
 have hd : ∀ x ∈ l.drop k, n < x := fun x hx => by
  obtain ⟨j, hj, rfl⟩ := List.getElem_of_mem hx
  rw [List.length_drop] at hj
  rw [List.getElem_drop]
  have h3 := h2 (by omega)
  by_cases h0 : j = 0
  ·subst h0; exact h3
  ·have := List.pairwise_iff_getElem.1 hp k (k + j) (by omega) (by omega) (by omega)
   omega
 have hsplit : l.take k ++ l.drop k = l := List.take_append_drop k l
 have hp2 : (l.take k ++ l.drop k).Pairwise (· < ·) := by rw [hsplit]; exact hp
 rw [List.pairwise_append] at hp2
 refine ⟨?_, fun x => ?_⟩
 ·rw [List.pairwise_append, List.pairwise_append]
  refine ⟨⟨hp2.1, by simp, fun x hx y hy => by rw [List.mem_singleton.1 hy]; exact ht x hx⟩, hp2.2.1, fun x hx y hy => ?_⟩
  rcases zer.1 hx with hx | hx
  ·have := ht x hx; have := hd y hy; omega
  ·rw [List.mem_singleton.1 hx]; exact hd y hy
 ·have e : x ∈ l ↔ x ∈ l.take k ∨ x ∈ l.drop k := by rw [← zer, hsplit]
  rw [e, zer, zer, List.mem_singleton]
  constructor
  ·rintro ((h | h) | h)
   ·exact .inl (.inl h)
   ·exact .inr h
   ·exact .inl (.inr h)
  ·rintro ((h | h) | h)
   ·exact .inl (.inl h)
   ·exact .inr h
   ·exact .inl (.inr h)
theorem zbO {w : World} {l : List Int} {a : Option Addr} {n c : Nat} {f : List Nat} (h : Rd w (.sl (l.map zk)) (.slice a n c) f) {k : Nat} (hk : k ≤ l.length) : ∃ g, Rd w (.sl ((l.take k).map zk)) (.slice a k c) g ∧ ∀ x ∈ g, x ∈ f := by
 obtain ⟨g, h1, h2⟩ := h.take8 (i := k) (by rw [zew]; omega)
 rw [← List.map_take] at h1
 exact ⟨g, h1, h2⟩
theorem za2 {w : World} {b : Nat} : ∀ (l : List Int) (off : Nat) (f : List Nat) (k : Nat), k ≤ l.length → RdRows w b off (l.map zk) f → RdRows w b (off + k) ((l.drop k).map zk) f
 | l, off, f, 0, _, h => by simpa using h
 | [], off, f, k + 1, hk, h => by simp at hk
 | x :: l, off, f, k + 1, hk, h => by
  simp only [List.map_cons, RdRows] at h
  obtain ⟨vs, f1, f2, rfl, _, h2, h3⟩ := h
  have e1 : f1 = [] := zdz _ _ _ h2
  subst e1
  have := za2 l (off + (zk x).length) f2 k (by simp at hk; omega) h3
  rw [show off + (k + 1) = off + (zk x).length + k by simp [zk]; omega]
  simpa using this
theorem zbP {w : World} {l : List Int} {b off n c : Nat} {f : List Nat} (h : Rd w (.sl (l.map zk)) (.slice (some ⟨b, off, none⟩) n c) f) {k : Nat} (hk : k ≤ l.length) : ∃ g, Rd w (.sl ((l.drop k).map zk)) (.slice (some ⟨b, off + k, none⟩) (n - k) (c - k)) g ∧ ∀ x ∈ g, x ∈ f := by
 simp only [Rd] at h
 obtain ⟨a', c', e1, hc1, hc2, e2 | ⟨hne, b', off', g, rfl, hbl, rfl, hr⟩⟩ := h
 ·have hl : l = [] := by simpa using e2.1
  subst hl
  simp only [Value.slice.injEq] at e1
  have hk0 : k = 0 := by simpa using hk
  subst hk0
  refine ⟨[], ?_, fun x hx => by cases hx⟩
  simp only [Rd]
  exact ⟨some ⟨b, off + 0, none⟩, c, by simp [e1.2.1], by simp, by rw [e1.2.2]; exact hc2, .inl ⟨by simp, trivial⟩⟩
 ·simp only [Value.slice.injEq, Option.some.injEq, Addr.mk.injEq, and_true] at e1
  obtain ⟨⟨rfl, rfl⟩, rfl, rfl⟩ := e1
  have h2 := za2 l off g k hk hr
  rw [zew] at hc1
  by_cases hkl : l.drop k = []
  ·refine ⟨[], ?_, fun x hx => by cases hx⟩
   have := congrArg List.length hkl
   simp only [List.length_drop, List.length_nil] at this
   simp only [Rd]
   exact ⟨_, c - k, by rw [zew, zew, List.length_drop], by rw [zew, List.length_drop]; omega, by omega, .inl ⟨by rw [hkl]; rfl, trivial⟩⟩
  ·refine ⟨b :: g, ?_, fun x hx => hx⟩
   simp only [Rd]
   exact ⟨_, c - k, by rw [zew, zew, List.length_drop], by rw [zew, List.length_drop]; omega, by omega, .inr ⟨by simpa using hkl, b, off + k, g, rfl, hbl, rfl, h2⟩⟩
theorem rd_nil9 {w : World} {D : List Int} {a : Option Addr} {n c : Nat} (hD : D = []) (hn : n = 0) (hc : c ≤ maxLen) : Rd w (.sl (D.map zk)) (.slice a n c) [] := by
 subst hD; subst hn
 simp only [List.map_nil, Rd]
 exact ⟨a, c, by simp, by simp, hc, .inl ⟨trivial, trivial⟩⟩
def AddOut (l : List Int) (n : Int) (w : World) (e : Ending) (w' : World) : Prop := ∃ (M : List Int) (b off c : Nat) (f : List Nat), e = .returned (.slice (some ⟨b, off, none⟩) M.length c) ∧ (∀ x, x ∈ M ↔ x ∈ l ∨ x = n) ∧ M.Pairwise (· < ·) ∧ Rd w' (.sl (M.map zk)) (.slice (some ⟨b, off, none⟩) M.length c) f ∧ Below w.heap.size w w'
theorem l5Add_any (l : List Int) (n : Int) (hn : I64 n) (hl : l.length ≤ 1000000000002) (hp : l.Pairwise (· < ·)) (b off c : Nat) (f : List Nat) (w : World) (hv : Rd w (.sl (l.map zk)) (.slice (some ⟨b, off, none⟩) l.length c) f) :
  Calls Tryz.prog 63 #[.slice (some ⟨b, off, none⟩) l.length c, .int .i64 n] w (AddOut l n w) := by
 have hcc : l.length ≤ c := by
  obtain ⟨_, _, e, h1, _⟩ := zd hv
  simp only [Value.slice.injEq] at e
  omega
 have HP := Lib.hid hp
 clear hp
 go_enter Tryz.func63, Tryz.ntmps63
 go_wp2_with fail
 go_loopw [5] (fun i wr => ∃ k : Nat, k ≤ l.length ∧ i = .int .i64 k ∧ Hid (∀ j (h : j < l.length), j < k → l[j] < n) ∧ Below w.heap.size w wr) (fun i _ => l.length - (intOf i).toNat)
 case atStart => exact ⟨0, Nat.zero_le _, rfl, Lib.hid (fun j _ h => by omega), Below.refl _ _⟩
 case round =>
  obtain ⟨k, hkl, rfl, HB, hb⟩ := hrel
  have hz := hb.size
  have hv1 := hv.below hb
  by_cases hlt : k < l.length
  ·obtain ⟨b', off', e1, hbs, _⟩ := zm hv1 (by omega)
   simp only [Option.some.injEq, Addr.mk.injEq, and_true] at e1
   obtain ⟨rfl, rfl⟩ := e1
   obtain ⟨n0, n1⟩ := zL hv1 hlt
   by_cases hlk : l[k] < n
   ·have HB2 : Hid (∀ j (h : j < l.length), j < k + 1 → l[j] < n) := Lib.hid (fun j h hj => by
     by_cases e : j = k
     ·subst e; exact hlk
     ·exact HB.out j h (by omega))
    go_wp2_with fail
    go_roundw
    case rel => exact ⟨k + 1, by omega, by go_num, HB2, hb⟩
    case measure => simp [intOf]; omega
   ·by_cases he : l[k] = n
    ·have HE := Lib.hid he
     have hne : (l[k] == n) = true := by rw [he]; simp
     clear he
     go_wp2_with fail
     go_ret
     refine ⟨l, _, _, _, _, rfl, fun x => ⟨.inl, fun h => ?_⟩, HP.out, hv1, hb⟩
     rcases h with h | h
     ·exact h
     ·rw [h, ← HE.out]; exact zes hlt
    ·have hne : (l[k] == n) = false := by simpa using he
     have HU := Lib.hid (up_put HP.out hkl HB.out (fun h => by omega))
     clear he
     obtain ⟨g1, hd, hgd⟩ := zbP hv1 hkl
     obtain ⟨g2, ht, hgt⟩ := zbO hv1 hkl
     have hfl := hv1.lt _
     obtain ⟨T, hT⟩ : ∃ T, l.take k = T := ⟨_, rfl⟩
     obtain ⟨D, hD⟩ : ∃ D, l.drop k = D := ⟨_, rfl⟩
     have HTL : Hid (T.length = k) := Lib.hid (by rw [← hT, List.length_take]; omega)
     have HDL : Hid (D.length = l.length - k) := Lib.hid (by rw [← hD, List.length_drop])
     rw [hT] at ht HU
     rw [hD] at hd HU
     clear hT hD
     go_wp2_with (at_builtin; refine zq zB rfl _ _ rfl wr.heap.size _ [] [] rfl (Own.empty wr wr.heap.size _ _ (Nat.le_refl _)) (D.map zk) _ g1 rfl (by exact hd.below (zb _ _)) ?ka1 ?naa1 ?bytesa1 ?lena1 ?basea1 ?nexta1)
     case ka1 => first | exact fun e he => zY e _ he | exact fun e he => rfl
     case naa1 => intro x hx h; have h1 := hfl x (hgd x hx); have h2 : wr.heap.size = x := Option.some.inj h; omega
     case bytesa1 => have h1 := HTL.out; have h2 := HDL.out; first | omega | (simp only [zew, List.length_nil]; omega) | (simp; omega)
     case lena1 => have h1 := HTL.out; have h2 := HDL.out; first | omega | (simp only [zew, List.length_nil]; omega) | (simp; omega)
     try (case basea1 => first | omega | (simp; done) | (simp; omega))
     case nexta1 =>
      intro v2 w2 nf2 hnf2 hown2 hg2 hv2 hs2
      try simp only [List.nil_append] at hown2
      have hfp := zU hown2
      subst hfp
      have hb2 : Below wr.heap.size wr w2 := zf (zb _ _) hg2 (by simp) (fun q hq => by have h2 : wr.heap.size = q := Option.some.inj hq; omega)
      have hz2 := hb2.size
      obtain ⟨ta, tn, tc, rfl⟩ := hown2.form'
      obtain ⟨td, hrd, hrdq⟩ := hown2.rd
      have htdl := hrd.lt _
      clear hg2 hv2 hs2 hnf2
      go_wp2_with (at_builtin; refine zq zB rfl _ _ rfl w2.heap.size _ [] [] rfl (Own.empty w2 w2.heap.size _ _ (Nat.le_refl _)) (T.map zk) _ g2 rfl (by exact (ht.below hb2).below (zb _ _)) ?kb1 ?nab1 ?bytesb1 ?lenb1 ?baseb1 ?nextb1)
      case kb1 => first | exact fun e he => zY e _ he | exact fun e he => rfl
      case nab1 => intro x hx h; have h1 := hfl x (hgt x hx); have h2 : w2.heap.size = x := Option.some.inj h; omega
      case bytesb1 => have h1 := HTL.out; have h2 := HDL.out; first | omega | (simp only [zew, List.length_nil]; omega) | (simp; omega)
      case lenb1 => have h1 := HTL.out; have h2 := HDL.out; first | omega | (simp only [zew, List.length_nil]; omega) | (simp; omega)
      try (case baseb1 => first | omega | (simp; done) | (simp; omega))
      case nextb1 =>
       intro v3 w3 nf3 hnf3 hown3 hg3 hv3 hs3
       try simp only [List.nil_append] at hown3
       have hfp := zU hown3
       subst hfp
       have hb3 : Below w2.heap.size w2 w3 := zf (zb _ _) hg3 (by simp) (fun q hq => by have h2 : w2.heap.size = q := Option.some.inj hq; omega)
       have hz3 := hb3.size
       obtain ⟨pa, pn, pc, rfl⟩ := hown3.form'
       have hrow3 : ∀ q, (Value.slice pa pn pc).ownBlock = some q → w2.heap.size ≤ q := fun q hq => (hown3.block hq).1
       have hal := zb w3 (.cells #[.int .i64 n] 3)
       clear hg3 hv3 hs3 hnf3
       go_wp2_with (at_builtin; refine zp zB rfl _ _ rfl w2.heap.size _ _ [] rfl (hown3.below hal) ⟨w3.heap.size, 0, none⟩ 1 1 [zk n] [.int .i64 n] [] rfl rfl ?rdc1 ?kc1 ?cellsc1 ?nac1 ?bytesc1 ?lenc1 ?basec1 ?nextc1)
       try (case rdc1 => simp only [zk, List.flatten_cons, List.flatten_nil, List.append_nil]; exact RdVs.single (by simp only [Rd]; exact ⟨trivial, hn, trivial⟩))
       try (case kc1 => simp [zk])
       try (case cellsc1 => exact zn _ _ _)
       try (case nac1 => simp)
       case bytesc1 => have h1 := HTL.out; have h2 := HDL.out; first | omega | (simp only [zew]; omega) | (simp; omega)
       case lenc1 => have h1 := HTL.out; have h2 := HDL.out; first | omega | (simp only [zew]; omega) | (simp; omega)
       try (case basec1 => first | omega | (simp; omega))
       case nextc1 =>
        intro v4 w4 hown4 hg4 hv4 hs4
        have hb4 : Below w2.heap.size w2 w4 := zf (hb3.alloc (by omega) _) hg4 (by rw [World.size_alloc]; omega) hrow3
        have hz4 := hb4.size
        obtain ⟨qa, qn, qc, rfl⟩ := hown4.form'
        have hrow4 : ∀ q, (Value.slice qa qn qc).ownBlock = some q → w2.heap.size ≤ q := fun q hq => (hown4.block hq).1
        have hown4' : Own w4 w2.heap.size 3 1 (.slice qa qn qc) ((T ++ [n]).map zk) [] := by rw [zeu]; simpa using hown4
        clear hg4 hv4 hs4 hown4
        go_wp2_with (at_builtin; refine zq zB rfl _ _ rfl w2.heap.size _ _ [] rfl hown4' (D.map zk) _ td rfl (by exact hrd.below hb4) ?kd1 ?nad1 ?bytesd1 ?lend1 ?based1 ?nextd1)
        case kd1 => first | exact fun e he => zY e _ he | exact fun e he => rfl
        case nad1 => intro x hx h; have h1 := htdl x hx; have h2 := hrow4 x h; omega
        case bytesd1 => have h1 := HTL.out; have h2 := HDL.out; first | omega | (simp only [zew, zet, List.length_cons, List.length_nil]; omega) | (simp; omega)
        case lend1 => have h1 := HTL.out; have h2 := HDL.out; first | omega | (simp only [zew, zet, List.length_cons, List.length_nil]; omega) | (simp; omega)
        try (case based1 => first | omega | (simp; omega))
        case nextd1 =>
         intro v5 w5 nf5 hnf5 hown5 hg5 hv5 hs5
         have hb5 : Below w2.heap.size w2 w5 := zf hb4 hg5 hz4 hrow4
         rw [show List.map zk T ++ zk n :: List.map zk D = ((T ++ [n]) ++ D).map zk by simp] at hown5
         have hfp := zU hown5
         rw [hfp] at hown5
         obtain ⟨M, hM⟩ : ∃ M, (T ++ [n]) ++ D = M := ⟨_, rfl⟩
         have hMn : M ≠ [] := by rw [← hM]; simp
         rw [hM] at hown5 HU
         clear hM
         obtain ⟨fq, hr5, _⟩ := hown5.rd
         obtain ⟨gq, cur, _, rfl, _⟩ := zc5 hown5 hMn
         go_wp2_with fail
         go_ret
         exact ⟨M, _, _, _, fq, rfl, HU.out.2, HU.out.1, hr5, hb.trans ((hb2.trans (hb5.mono hz2)).mono hz)⟩
  ·have HU := Lib.hid (up_put HP.out hkl HB.out (fun h => absurd h hlt))
   by_cases hck : c = k
   ·skip
    obtain ⟨g1, hd, hgd⟩ := zbP hv1 hkl
    obtain ⟨g2, ht, hgt⟩ := zbO hv1 hkl
    have hfl := hv1.lt _
    have HDN : Hid (l.drop k = []) := Lib.hid (List.drop_of_length_le (by omega))
    obtain ⟨T, hT⟩ : ∃ T, l.take k = T := ⟨_, rfl⟩
    obtain ⟨D, hD⟩ : ∃ D, l.drop k = D := ⟨_, rfl⟩
    have HTL : Hid (T.length = k) := Lib.hid (by rw [← hT, List.length_take]; omega)
    have HDL : Hid (D.length = l.length - k) := Lib.hid (by rw [← hD, List.length_drop])
    rw [hT] at ht HU
    rw [hD] at hd HU HDN
    have hck0 : l.length - k = 0 := by omega
    have htk : Rd wr (.sl (T.map zk)) (.slice (some ⟨b, off, none⟩) k k) g2 := by have h9 := ht; rw [hck] at h9; exact h9
    clear hT hD
    go_wp2_with (at_builtin; refine zq zB rfl _ _ rfl wr.heap.size _ [] [] rfl (Own.empty wr wr.heap.size _ _ (Nat.le_refl _)) (D.map zk) _ [] rfl (by exact rd_nil9 HDN.out (by first | rfl | omega) (by first | exact Nat.zero_le _ | (simp only [maxLen]; omega))) ?ka2 ?naa2 ?bytesa2 ?lena2 ?basea2 ?nexta2)
    case ka2 => first | exact fun e he => zY e _ he | exact fun e he => rfl
    case naa2 => intro x hx; cases hx
    case bytesa2 => have h1 := HTL.out; have h2 := HDL.out; first | omega | (simp only [zew, List.length_nil]; omega) | (simp; omega)
    case lena2 => have h1 := HTL.out; have h2 := HDL.out; first | omega | (simp only [zew, List.length_nil]; omega) | (simp; omega)
    try (case basea2 => first | omega | (simp; done) | (simp; omega))
    case nexta2 =>
     intro v2 w2 nf2 hnf2 hown2 hg2 hv2 hs2
     try simp only [List.nil_append] at hown2
     have hfp := zU hown2
     subst hfp
     have hb2 : Below wr.heap.size wr w2 := zf (zb _ _) hg2 (by simp) (fun q hq => by have h2 : wr.heap.size = q := Option.some.inj hq; omega)
     have hz2 := hb2.size
     obtain ⟨ta, tn, tc, rfl⟩ := hown2.form'
     obtain ⟨td, hrd, hrdq⟩ := hown2.rd
     have htdl := hrd.lt _
     clear hg2 hv2 hs2 hnf2
     go_wp2_with (at_builtin; refine zq zB rfl _ _ rfl w2.heap.size _ [] [] rfl (Own.empty w2 w2.heap.size _ _ (Nat.le_refl _)) (T.map zk) _ g2 rfl (by first | exact (ht.below hb2).below (zb _ _) | exact (htk.below hb2).below (zb _ _)) ?kb2 ?nab2 ?bytesb2 ?lenb2 ?baseb2 ?nextb2)
     case kb2 => first | exact fun e he => zY e _ he | exact fun e he => rfl
     case nab2 => intro x hx h; have h1 := hfl x (hgt x hx); have h2 : w2.heap.size = x := Option.some.inj h; omega
     case bytesb2 => have h1 := HTL.out; have h2 := HDL.out; first | omega | (simp only [zew, List.length_nil]; omega) | (simp; omega)
     case lenb2 => have h1 := HTL.out; have h2 := HDL.out; first | omega | (simp only [zew, List.length_nil]; omega) | (simp; omega)
     try (case baseb2 => first | omega | (simp; done) | (simp; omega))
     case nextb2 =>
      intro v3 w3 nf3 hnf3 hown3 hg3 hv3 hs3
      try simp only [List.nil_append] at hown3
      have hfp := zU hown3
      subst hfp
      have hb3 : Below w2.heap.size w2 w3 := zf (zb _ _) hg3 (by simp) (fun q hq => by have h2 : w2.heap.size = q := Option.some.inj hq; omega)
      have hz3 := hb3.size
      obtain ⟨pa, pn, pc, rfl⟩ := hown3.form'
      have hrow3 : ∀ q, (Value.slice pa pn pc).ownBlock = some q → w2.heap.size ≤ q := fun q hq => (hown3.block hq).1
      have hal := zb w3 (.cells #[.int .i64 n] 3)
      clear hg3 hv3 hs3 hnf3
      go_wp2_with (at_builtin; refine zp zB rfl _ _ rfl w2.heap.size _ _ [] rfl (hown3.below hal) ⟨w3.heap.size, 0, none⟩ 1 1 [zk n] [.int .i64 n] [] rfl rfl ?rdc2 ?kc2 ?cellsc2 ?nac2 ?bytesc2 ?lenc2 ?basec2 ?nextc2)
      try (case rdc2 => simp only [zk, List.flatten_cons, List.flatten_nil, List.append_nil]; exact RdVs.single (by simp only [Rd]; exact ⟨trivial, hn, trivial⟩))
      try (case kc2 => simp [zk])
      try (case cellsc2 => exact zn _ _ _)
      try (case nac2 => simp)
      case bytesc2 => have h1 := HTL.out; have h2 := HDL.out; first | omega | (simp only [zew]; omega) | (simp; omega)
      case lenc2 => have h1 := HTL.out; have h2 := HDL.out; first | omega | (simp only [zew]; omega) | (simp; omega)
      try (case basec2 => first | omega | (simp; omega))
      case nextc2 =>
       intro v4 w4 hown4 hg4 hv4 hs4
       have hb4 : Below w2.heap.size w2 w4 := zf (hb3.alloc (by omega) _) hg4 (by rw [World.size_alloc]; omega) hrow3
       have hz4 := hb4.size
       obtain ⟨qa, qn, qc, rfl⟩ := hown4.form'
       have hrow4 : ∀ q, (Value.slice qa qn qc).ownBlock = some q → w2.heap.size ≤ q := fun q hq => (hown4.block hq).1
       have hown4' : Own w4 w2.heap.size 3 1 (.slice qa qn qc) ((T ++ [n]).map zk) [] := by rw [zeu]; simpa using hown4
       clear hg4 hv4 hs4 hown4
       go_wp2_with (at_builtin; refine zq zB rfl _ _ rfl w2.heap.size _ _ [] rfl hown4' (D.map zk) _ td rfl (by exact hrd.below hb4) ?kd2 ?nad2 ?bytesd2 ?lend2 ?based2 ?nextd2)
       case kd2 => first | exact fun e he => zY e _ he | exact fun e he => rfl
       case nad2 => intro x hx h; have h1 := htdl x hx; have h2 := hrow4 x h; omega
       case bytesd2 => have h1 := HTL.out; have h2 := HDL.out; first | omega | (simp only [zew, zet, List.length_cons, List.length_nil]; omega) | (simp; omega)
       case lend2 => have h1 := HTL.out; have h2 := HDL.out; first | omega | (simp only [zew, zet, List.length_cons, List.length_nil]; omega) | (simp; omega)
       try (case based2 => first | omega | (simp; omega))
       case nextd2 =>
        intro v5 w5 nf5 hnf5 hown5 hg5 hv5 hs5
        have hb5 : Below w2.heap.size w2 w5 := zf hb4 hg5 hz4 hrow4
        rw [show List.map zk T ++ zk n :: List.map zk D = ((T ++ [n]) ++ D).map zk by simp] at hown5
        have hfp := zU hown5
        rw [hfp] at hown5
        obtain ⟨M, hM⟩ : ∃ M, (T ++ [n]) ++ D = M := ⟨_, rfl⟩
        have hMn : M ≠ [] := by rw [← hM]; simp
        rw [hM] at hown5 HU
        clear hM
        obtain ⟨fq, hr5, _⟩ := hown5.rd
        obtain ⟨gq, cur, _, rfl, _⟩ := zc5 hown5 hMn
        go_wp2_with fail
        go_ret
        exact ⟨M, _, _, _, fq, rfl, HU.out.2, HU.out.1, hr5, hb.trans ((hb2.trans (hb5.mono hz2)).mono hz)⟩
   ·have hcm : k < c := by omega
    obtain ⟨g1, hd, hgd⟩ := zbP hv1 hkl
    obtain ⟨g2, ht, hgt⟩ := zbO hv1 hkl
    have hfl := hv1.lt _
    obtain ⟨T, hT⟩ : ∃ T, l.take k = T := ⟨_, rfl⟩
    obtain ⟨D, hD⟩ : ∃ D, l.drop k = D := ⟨_, rfl⟩
    have HTL : Hid (T.length = k) := Lib.hid (by rw [← hT, List.length_take]; omega)
    have HDL : Hid (D.length = l.length - k) := Lib.hid (by rw [← hD, List.length_drop])
    rw [hT] at ht HU
    rw [hD] at hd HU
    clear hT hD
    go_wp2_with (at_builtin; refine zq zB rfl _ _ rfl wr.heap.size _ [] [] rfl (Own.empty wr wr.heap.size _ _ (Nat.le_refl _)) (D.map zk) _ g1 rfl (by exact hd.below (zb _ _)) ?ka3 ?naa3 ?bytesa3 ?lena3 ?basea3 ?nexta3)
    case ka3 => first | exact fun e he => zY e _ he | exact fun e he => rfl
    case naa3 => intro x hx h; have h1 := hfl x (hgd x hx); have h2 : wr.heap.size = x := Option.some.inj h; omega
    case bytesa3 => have h1 := HTL.out; have h2 := HDL.out; first | omega | (simp only [zew, List.length_nil]; omega) | (simp; omega)
    case lena3 => have h1 := HTL.out; have h2 := HDL.out; first | omega | (simp only [zew, List.length_nil]; omega) | (simp; omega)
    try (case basea3 => first | omega | (simp; done) | (simp; omega))
    case nexta3 =>
     intro v2 w2 nf2 hnf2 hown2 hg2 hv2 hs2
     try simp only [List.nil_append] at hown2
     have hfp := zU hown2
     subst hfp
     have hb2 : Below wr.heap.size wr w2 := zf (zb _ _) hg2 (by simp) (fun q hq => by have h2 : wr.heap.size = q := Option.some.inj hq; omega)
     have hz2 := hb2.size
     obtain ⟨ta, tn, tc, rfl⟩ := hown2.form'
     obtain ⟨td, hrd, hrdq⟩ := hown2.rd
     have htdl := hrd.lt _
     clear hg2 hv2 hs2 hnf2
     go_wp2_with (at_builtin; refine zq zB rfl _ _ rfl w2.heap.size _ [] [] rfl (Own.empty w2 w2.heap.size _ _ (Nat.le_refl _)) (T.map zk) _ g2 rfl (by exact (ht.below hb2).below (zb _ _)) ?kb3 ?nab3 ?bytesb3 ?lenb3 ?baseb3 ?nextb3)
     case kb3 => first | exact fun e he => zY e _ he | exact fun e he => rfl
     case nab3 => intro x hx h; have h1 := hfl x (hgt x hx); have h2 : w2.heap.size = x := Option.some.inj h; omega
     case bytesb3 => have h1 := HTL.out; have h2 := HDL.out; first | omega | (simp only [zew, List.length_nil]; omega) | (simp; omega)
     case lenb3 => have h1 := HTL.out; have h2 := HDL.out; first | omega | (simp only [zew, List.length_nil]; omega) | (simp; omega)
     try (case baseb3 => first | omega | (simp; done) | (simp; omega))
     case nextb3 =>
      intro v3 w3 nf3 hnf3 hown3 hg3 hv3 hs3
      try simp only [List.nil_append] at hown3
      have hfp := zU hown3
      subst hfp
      have hb3 : Below w2.heap.size w2 w3 := zf (zb _ _) hg3 (by simp) (fun q hq => by have h2 : w2.heap.size = q := Option.some.inj hq; omega)
      have hz3 := hb3.size
      obtain ⟨pa, pn, pc, rfl⟩ := hown3.form'
      have hrow3 : ∀ q, (Value.slice pa pn pc).ownBlock = some q → w2.heap.size ≤ q := fun q hq => (hown3.block hq).1
      have hal := zb w3 (.cells #[.int .i64 n] 3)
      clear hg3 hv3 hs3 hnf3
      go_wp2_with (at_builtin; refine zp zB rfl _ _ rfl w2.heap.size _ _ [] rfl (hown3.below hal) ⟨w3.heap.size, 0, none⟩ 1 1 [zk n] [.int .i64 n] [] rfl rfl ?rdc3 ?kc3 ?cellsc3 ?nac3 ?bytesc3 ?lenc3 ?basec3 ?nextc3)
      try (case rdc3 => simp only [zk, List.flatten_cons, List.flatten_nil, List.append_nil]; exact RdVs.single (by simp only [Rd]; exact ⟨trivial, hn, trivial⟩))
      try (case kc3 => simp [zk])
      try (case cellsc3 => exact zn _ _ _)
      try (case nac3 => simp)
      case bytesc3 => have h1 := HTL.out; have h2 := HDL.out; first | omega | (simp only [zew]; omega) | (simp; omega)
      case lenc3 => have h1 := HTL.out; have h2 := HDL.out; first | omega | (simp only [zew]; omega) | (simp; omega)
      try (case basec3 => first | omega | (simp; omega))
      case nextc3 =>
       intro v4 w4 hown4 hg4 hv4 hs4
       have hb4 : Below w2.heap.size w2 w4 := zf (hb3.alloc (by omega) _) hg4 (by rw [World.size_alloc]; omega) hrow3
       have hz4 := hb4.size
       obtain ⟨qa, qn, qc, rfl⟩ := hown4.form'
       have hrow4 : ∀ q, (Value.slice qa qn qc).ownBlock = some q → w2.heap.size ≤ q := fun q hq => (hown4.block hq).1
       have hown4' : Own w4 w2.heap.size 3 1 (.slice qa qn qc) ((T ++ [n]).map zk) [] := by rw [zeu]; simpa using hown4
       clear hg4 hv4 hs4 hown4
       go_wp2_with (at_builtin; refine zq zB rfl _ _ rfl w2.heap.size _ _ [] rfl hown4' (D.map zk) _ td rfl (by exact hrd.below hb4) ?kd3 ?nad3 ?bytesd3 ?lend3 ?based3 ?nextd3)
       case kd3 => first | exact fun e he => zY e _ he | exact fun e he => rfl
       case nad3 => intro x hx h; have h1 := htdl x hx; have h2 := hrow4 x h; omega
       case bytesd3 => have h1 := HTL.out; have h2 := HDL.out; first | omega | (simp only [zew, zet, List.length_cons, List.length_nil]; omega) | (simp; omega)
       case lend3 => have h1 := HTL.out; have h2 := HDL.out; first | omega | (simp only [zew, zet, List.length_cons, List.length_nil]; omega) | (simp; omega)
       try (case based3 => first | omega | (simp; omega))
       case nextd3 =>
        intro v5 w5 nf5 hnf5 hown5 hg5 hv5 hs5
        have hb5 : Below w2.heap.size w2 w5 := zf hb4 hg5 hz4 hrow4
        rw [show List.map zk T ++ zk n :: List.map zk D = ((T ++ [n]) ++ D).map zk by simp] at hown5
        have hfp := zU hown5
        rw [hfp] at hown5
        obtain ⟨M, hM⟩ : ∃ M, (T ++ [n]) ++ D = M := ⟨_, rfl⟩
        have hMn : M ≠ [] := by rw [← hM]; simp
        rw [hM] at hown5 HU
        clear hM
        obtain ⟨fq, hr5, _⟩ := hown5.rd
        obtain ⟨gq, cur, _, rfl, _⟩ := zc5 hown5 hMn
        go_wp2_with fail
        go_ret
        exact ⟨M, _, _, _, fq, rfl, HU.out.2, HU.out.1, hr5, hb.trans ((hb2.trans (hb5.mono hz2)).mono hz)⟩
theorem zdR {l : List Int} (h : l.Pairwise (· < ·)) : l.Nodup := h.imp fun h => by omega
def UsesS (l us : List Int) (w : World) (e : Ending) (w' : World) : Prop := ∃ (M : List Int) (b off c : Nat) (f : List Nat), e = .returned (.slice (some ⟨b, off, none⟩) M.length c) ∧ (∀ y, y ∈ M ↔ y ∈ l ∨ y ∈ us) ∧ M.Pairwise (· < ·) ∧ Rd w' (.sl (M.map zk)) (.slice (some ⟨b, off, none⟩) M.length c) f ∧ Below w.heap.size w w'
theorem l5Uses_n (n : Nat) : ∀ (x : Wy) (vs : List Value) (xf : List Nat) (l : List Int) (b off c : Nat) (f : List Nat) (w : World), ndV x.cd ≤ n → x.thin → l.length + x.uses.length ≤ 1000000000002 → l.Pairwise (· < ·) → Rd w (.sl (l.map zk)) (.slice (some ⟨b, off, none⟩) l.length c) f → RdVs w x.cd vs xf →
  Calls Tryz.prog 37 #[.slice (some ⟨b, off, none⟩) l.length c, .agg vs.toArray] w (UsesS l x.uses w) := by
 induction n with
 | zero =>
  intro x vs xf l b off c f w hn; have h : 0 < ndV x.cd := (by rw [Wy.cd_eq]; simp [ndV, ndC]; try omega); omega
 | succ n ih =>
 intro x vs xf l b off c f w hn hth hus hp hl hv
 have HN : Hid (∀ k ∈ x.kids, ndV k.cd ≤ n) := fun k hk => by have := Wy.kid_nd hk; omega
 have HT := Lib.hid (Wy.thin_kids hth).2
 have hkl0 := (Wy.thin_kids hth).1
 have HU0 : Hid (∀ k, l.length + (x.uses0 k).length ≤ 1000000000002) := fun k => by have h1 := Wy.uses0_le x k; omega
 have HS := Lib.hid (fun k (h : k < x.kids.length) => Wy.uses0_succ h)
 have HA := Lib.hid (Wy.uses0_all (Nat.le_refl x.kids.length))
 have IH := Lib.hid ih
 have HP := Lib.hid hp
 have hll : l.length ≤ 1000000000002 := by omega
 clear ih hus hth hn hp
 obtain ⟨a3, c3, f3, a4, c4, f4, rfl, -, m0, m1, m2, m3, m4⟩ := Wy.open hv
 clear hv
 have hal := zb w (.cells #[.int .i64 x.rule, .int .i64 x.n, .string x.t.name, .slice a3 x.t.kids.length c3, .slice a4 x.kids.length c4] 32)
 have hsa : (w.alloc (.cells #[.int .i64 x.rule, .int .i64 x.n, .string x.t.name, .slice a3 x.t.kids.length c3, .slice a4 x.kids.length c4] 32)).heap.size = w.heap.size + 1 := by simp
 by_cases hr : x.rule = 2
 ·have tk : (x.rule == 2) = true := by simp [hr]
  have HB : Hid (x.uses0 0 = [x.n]) := Lib.hid (by unfold Wy.uses0; rw [if_pos hr]; simp [Wy.usesL])
  clear hr
  go_enter Tryz.func37, Tryz.ntmps37
  go_wp2_with fail
  refine (l5Add_any l x.n m1 hll HP.out b off c f _ (by exact hl.below hal)).mono ?_
  rintro e w1 ⟨M, b1, off1, cc1, g1, rfl, hM, hMp, hMr, hb1⟩
  rw [hsa] at hb1
  have HM : Hid (∀ y, y ∈ M ↔ y ∈ l ∨ y ∈ x.uses0 0) := Lib.hid (fun y => by rw [hM, HB.out, List.mem_singleton])
  have HMP := Lib.hid hMp
  obtain ⟨hx0, hz0, hB0⟩ := box1 (w := w) (wr := w1) (cs := #[.int .i64 x.rule, .int .i64 x.n, .string x.t.name, .slice a3 x.t.kids.length c3, .slice a4 x.kids.length c4]) (T := 32) hb1
  have q4 := hx0 4
  simp only [zeo, zem, zen] at q4
  clear hM hMp HB hx0 hz0 hB0 hl
  go_wp2_with fail
  go_loopw [0, 5] (fun lv i wr => ∃ (k : Nat) (M : List Int) (mb mo mc : Nat) (mf : List Nat), k ≤ x.kids.length ∧ i = .int .i64 k ∧ lv = .slice (some ⟨mb, mo, none⟩) M.length mc ∧ Hid (∀ y, y ∈ M ↔ y ∈ l ∨ y ∈ x.uses0 k) ∧ Hid (M.Pairwise (· < ·)) ∧ Rd wr (.sl (M.map zk)) (.slice (some ⟨mb, mo, none⟩) M.length mc) mf ∧ Below (w.heap.size + 1) (w.alloc (.cells #[.int .i64 x.rule, .int .i64 x.n, .string x.t.name, .slice a3 x.t.kids.length c3, .slice a4 x.kids.length c4] 32)) wr) (fun _ i _ => x.kids.length - (intOf i).toNat)
  case atStart => exact ⟨0, M, _, _, _, _, Nat.zero_le _, rfl, rfl, HM, HMP, hMr, hb1⟩
  case round =>
   clear HM HMP hMr hb1
   obtain ⟨k, M, mb, mo, mc, mf, hkl, rfl, rfl, HM, HMP, hMr, hbx⟩ := hrel
   obtain ⟨hx, hz, hB⟩ := box1 (w := w) (wr := wr) (cs := #[.int .i64 x.rule, .int .i64 x.n, .string x.t.name, .slice a3 x.t.kids.length c3, .slice a4 x.kids.length c4]) (T := 32) hbx
   have q4 := hx 4
   simp only [zeo, zem, zen] at q4
   have HML : Hid (M.length ≤ l.length + (x.uses0 k).length) := Lib.hid (by
    have h1 := zbI (l := M) (m := l ++ x.uses0 k) (zdR HMP.out) (fun y hy => zer.2 ((HM.out y).1 hy))
    rw [zet] at h1
    exact h1)
   by_cases hlt : k < x.kids.length
   ·obtain ⟨b', off', rfl, hbs, _⟩ := zm m4 (by omega)
    obtain ⟨e3, g3, h3, e4, g4, h4, d0, d1, d2, d3, d4, n0, n1, n2, n3, n4, _⟩ := Wy.at (m4.below hB) hlt
    have hbz : b' < wr.heap.size := by omega
    have hcl := Wy.close n0 n1 n2 n3 n4
    have HSU := Lib.hid (HS.out k hlt)
    have hbd : M.length + (x.kids[k]).uses.length ≤ 1000000000002 := by
     have h1 := HU0.out (k + 1)
     rw [HSU.out, zet] at h1
     have h2 := HML.out
     omega
    go_wp2_with fail
    refine (IH.out x.kids[k] _ _ M mb mo mc mf _ (HN.out _ (zes hlt)) (HT.out _ (zes hlt)) hbd HMP.out hMr (by exact hcl)).mono ?_
    rintro e w2 ⟨M2, b2, o2, cc2, g2, rfl, hM2, hM2p, hM2r, hb2⟩
    have HM2 : Hid (∀ y, y ∈ M2 ↔ y ∈ l ∨ y ∈ x.uses0 (k + 1)) := Lib.hid (fun y => by rw [hM2, HM.out, HSU.out, zer, or_assoc])
    have HM2P := Lib.hid hM2p
    clear hM2 hM2p hbd
    go_wp2_with fail
    go_roundw
    case rel => exact ⟨k + 1, M2, _, _, _, _, by omega, by go_num, rfl, HM2, HM2P, hM2r, hbx.trans (hb2.mono hz)⟩
    case measure => simp [intOf]; omega
   ·have hke : k = x.kids.length := by omega
    subst hke
    go_wp2_with fail
    go_ret
    exact ⟨M, _, _, _, _, rfl, fun y => by rw [HM.out, HA.out], HMP.out, hMr, hB⟩
 ·have tk : (x.rule == 2) = false := by simp [hr]
  have HB : Hid (x.uses0 0 = []) := Lib.hid (by unfold Wy.uses0; rw [if_neg hr]; simp [Wy.usesL])
  clear hr
  obtain ⟨M, hM⟩ : ∃ M, M = l := ⟨_, rfl⟩
  have HM : Hid (∀ y, y ∈ M ↔ y ∈ l ∨ y ∈ x.uses0 0) := Lib.hid (fun y => by rw [HB.out, hM]; simp)
  have HMP : Hid (M.Pairwise (· < ·)) := Lib.hid (by rw [hM]; exact HP.out)
  have hMr : Rd (w.alloc (.cells #[.int .i64 x.rule, .int .i64 x.n, .string x.t.name, .slice a3 x.t.kids.length c3, .slice a4 x.kids.length c4] 32)) (.sl (M.map zk)) (.slice (some ⟨b, off, none⟩) M.length c) f := by rw [hM]; exact hl.below hal
  have hb1 := Below.refl (w.heap.size + 1) (w.alloc (.cells #[.int .i64 x.rule, .int .i64 x.n, .string x.t.name, .slice a3 x.t.kids.length c3, .slice a4 x.kids.length c4] 32))
  rw [show (.slice (some ⟨b, off, none⟩) l.length c : Value) = .slice (some ⟨b, off, none⟩) M.length c by rw [hM]]
  clear HB hM
  go_enter Tryz.func37, Tryz.ntmps37
  go_wp2_with fail
  go_loopw [0, 5] (fun lv i wr => ∃ (k : Nat) (M : List Int) (mb mo mc : Nat) (mf : List Nat), k ≤ x.kids.length ∧ i = .int .i64 k ∧ lv = .slice (some ⟨mb, mo, none⟩) M.length mc ∧ Hid (∀ y, y ∈ M ↔ y ∈ l ∨ y ∈ x.uses0 k) ∧ Hid (M.Pairwise (· < ·)) ∧ Rd wr (.sl (M.map zk)) (.slice (some ⟨mb, mo, none⟩) M.length mc) mf ∧ Below (w.heap.size + 1) (w.alloc (.cells #[.int .i64 x.rule, .int .i64 x.n, .string x.t.name, .slice a3 x.t.kids.length c3, .slice a4 x.kids.length c4] 32)) wr) (fun _ i _ => x.kids.length - (intOf i).toNat)
  case atStart => exact ⟨0, M, _, _, _, _, Nat.zero_le _, rfl, rfl, HM, HMP, hMr, hb1⟩
  case round =>
   clear HM HMP hMr hb1
   obtain ⟨k, M, mb, mo, mc, mf, hkl, rfl, rfl, HM, HMP, hMr, hbx⟩ := hrel
   obtain ⟨hx, hz, hB⟩ := box1 (w := w) (wr := wr) (cs := #[.int .i64 x.rule, .int .i64 x.n, .string x.t.name, .slice a3 x.t.kids.length c3, .slice a4 x.kids.length c4]) (T := 32) hbx
   have q4 := hx 4
   simp only [zeo, zem, zen] at q4
   have HML : Hid (M.length ≤ l.length + (x.uses0 k).length) := Lib.hid (by
    have h1 := zbI (l := M) (m := l ++ x.uses0 k) (zdR HMP.out) (fun y hy => zer.2 ((HM.out y).1 hy))
    rw [zet] at h1
    exact h1)
   by_cases hlt : k < x.kids.length
   ·obtain ⟨b', off', rfl, hbs, _⟩ := zm m4 (by omega)
    obtain ⟨e3, g3, h3, e4, g4, h4, d0, d1, d2, d3, d4, n0, n1, n2, n3, n4, _⟩ := Wy.at (m4.below hB) hlt
    have hbz : b' < wr.heap.size := by omega
    have hcl := Wy.close n0 n1 n2 n3 n4
    have HSU := Lib.hid (HS.out k hlt)
    have hbd : M.length + (x.kids[k]).uses.length ≤ 1000000000002 := by
     have h1 := HU0.out (k + 1)
     rw [HSU.out, zet] at h1
     have h2 := HML.out
     omega
    go_wp2_with fail
    refine (IH.out x.kids[k] _ _ M mb mo mc mf _ (HN.out _ (zes hlt)) (HT.out _ (zes hlt)) hbd HMP.out hMr (by exact hcl)).mono ?_
    rintro e w2 ⟨M2, b2, o2, cc2, g2, rfl, hM2, hM2p, hM2r, hb2⟩
    have HM2 : Hid (∀ y, y ∈ M2 ↔ y ∈ l ∨ y ∈ x.uses0 (k + 1)) := Lib.hid (fun y => by rw [hM2, HM.out, HSU.out, zer, or_assoc])
    have HM2P := Lib.hid hM2p
    clear hM2 hM2p hbd
    go_wp2_with fail
    go_roundw
    case rel => exact ⟨k + 1, M2, _, _, _, _, by omega, by go_num, rfl, HM2, HM2P, hM2r, hbx.trans (hb2.mono hz)⟩
    case measure => simp [intOf]; omega
   ·have hke : k = x.kids.length := by omega
    subst hke
    go_wp2_with fail
    go_ret
    exact ⟨M, _, _, _, _, rfl, fun y => by rw [HM.out, HA.out], HMP.out, hMr, hB⟩
theorem zc7 (x : Wy) (vs : List Value) (xf : List Nat) (w : World) (hth : x.thin) (hus : x.uses.length ≤ 1000000000001) (hv : RdVs w x.cd vs xf) :
  Calls Tryz.prog 16 #[.agg vs.toArray] w fun e w' => ∃ v f, e = .returned v ∧ Rd w' (.sl ((once x.uses).map zk)) v f ∧ Below w.heap.size w w' := by
 have hv0 := hv
 obtain ⟨a3, c3, f3, a4, c4, f4, rfl, -, m0, m1, m2, m3, m4⟩ := Wy.open hv
 have hal : Below w.heap.size w ((w.alloc (.cells #[.int .i64 x.rule, .int .i64 x.n, .string x.t.name, .slice a3 x.t.kids.length c3, .slice a4 x.kids.length c4] 32)).alloc (.cells #[] 3)) := ((Below.refl _ _).alloc (Nat.le_refl _) _).alloc (by simp) _
 have hnil : ∀ (W : World) (g : Nat), Rd W (.sl (([] : List Int).map zk)) (.slice (some ⟨g, 0, none⟩) 0 0) [] := fun W g => rd_nil9 rfl rfl (Nat.zero_le _)
 go_enter Tryz.func16, Tryz.ntmps16
 go_wp2_with fail
 refine (l5Uses_n _ x _ _ [] _ 0 0 [] _ (Nat.le_refl _) hth (by simp; omega) List.Pairwise.nil (by exact hnil _ _) (by exact hv0.below hal)).mono ?_
 rintro e w1 ⟨M, b1, off1, cc1, g1, rfl, hM, hMp, hMr, hb1⟩
 have hE : M = once x.uses := up_ext _ _ hMp (once_up _) (fun y => by rw [hM, once_mem]; simp)
 go_wp2_with fail
 go_ret
 exact ⟨_, g1, rfl, by rw [← hE]; exact hMr, hal.trans (hb1.mono hal.size)⟩
end Go.Proofs.YtlefdhhnlbpbkaaGreat
end
