/- Parts of the proof: HoldP FmsL. -/
import Derived.Test.YtbfinjiledfpcaaGreatPa29
import Derived.Test.YtbfinjiledfpcaaGreatPa37
namespace Go.Proofs.YtbfinjiledfpcaaGreat
open Go Go.RowKit
set_option linter.unusedVariables false
set_option linter.unusedSimpArgs false
def joinB (kind : Int) (a b : Bool) : Bool := if kind = 2 then !a else if kind = 3 then a && b else if kind = 4 then a || b else if kind = 5 then !a || b else a == b
mutual
def Fm.holds (p : Atm → Bool) : Fm → Bool
 | .mk kind lit kids => if kind = 1 then p lit.atom != lit.no else joinB kind ((Fm.holdsL p kids).getD 0 false) ((Fm.holdsL p kids).getD 1 false)
def Fm.holdsL (p : Atm → Bool) : List Fm → List Bool
 | [] => []
 | k :: ks => Fm.holds p k :: Fm.holdsL p ks
end
mutual
def Fm.has (l : List Atm) : Fm → Bool
 | .mk kind lit kids => if kind = 1 then hasA l lit.atom else Fm.hass l kids
def Fm.hass (l : List Atm) : List Fm → Bool
 | [] => true
 | k :: ks => Fm.has l k && Fm.hass l ks
end
theorem Fm.hass_all (l : List Atm) : ∀ (ks : List Fm), Fm.hass l ks = ks.all (Fm.has l)
 | [] => by simp [Fm.hass]
 | k :: ks => by simp only [Fm.hass, List.all_cons, Fm.hass_all l ks]
theorem Fm.has_eq (l : List Atm) (f : Fm) : Fm.has l f = if f.kind = 1 then hasA l f.lit.atom else f.kids.all (Fm.has l) := by
 cases f; simp only [Fm.has, Fm.kind, Fm.lit, Fm.kids, Fm.hass_all]; rfl
theorem hasA_mono {l l' : List Atm} {x : Atm} (h : ∀ y ∈ l, y ∈ l') (hx : hasA l x = true) : hasA l' x = true := by
 unfold hasA at hx ⊢
 rw [List.any_eq_true] at hx ⊢
 obtain ⟨y, hy, e⟩ := hx
 exact ⟨y, h y hy, e⟩
mutual
theorem Fm.add_sub : ∀ (f : Fm) (l : List Atm), ∀ y ∈ l, y ∈ Fm.add l f
 | .mk kind lit kids, l, y, hy => by
  simp only [Fm.add]
  split
  ·exact List.mem_append_left _ hy
  ·exact Fm.adds_sub kids l y hy
theorem Fm.adds_sub : ∀ (ks : List Fm) (l : List Atm), ∀ y ∈ l, y ∈ Fm.adds l ks
 | [], l, y, hy => by simpa [Fm.adds] using hy
 | k :: ks, l, y, hy => by
  simp only [Fm.adds]
  exact Fm.adds_sub ks _ y (Fm.add_sub k l y hy)
end
mutual
theorem Fm.has_mono : ∀ (f : Fm) {l l' : List Atm}, (∀ y ∈ l, y ∈ l') → Fm.has l f = true → Fm.has l' f = true
 | .mk kind lit kids, l, l', h, hf => by
  simp only [Fm.has] at hf ⊢
  split at hf
  ·rename_i hk; rw [if_pos hk]; exact hasA_mono h hf
  ·rename_i hk; rw [if_neg hk]; exact Fm.hass_mono kids h hf
theorem Fm.hass_mono : ∀ (ks : List Fm) {l l' : List Atm}, (∀ y ∈ l, y ∈ l') → Fm.hass l ks = true → Fm.hass l' ks = true
 | [], l, l', h, hf => by simp [Fm.hass]
 | k :: ks, l, l', h, hf => by
  simp only [Fm.hass, zfp] at hf ⊢
  exact ⟨Fm.has_mono k h hf.1, Fm.hass_mono ks h hf.2⟩
end
mutual
theorem Fm.add_has : ∀ (f : Fm) (d : Nat) (l : List Atm), Fm.shape d f = true → Fm.has (Fm.add l f) f = true
 | .mk kind lit kids, d, l, h => by
  simp only [Fm.shape] at h
  split at h
  ·simp at h
  rename_i h0
  simp only [not_or, Decidable.not_not] at h0
  simp only [Fm.has, Fm.add]
  by_cases hk : kind = 1
  ·subst hk
   have hn : kids.length = 0 := by have := h0.2; simp [Fm.nk] at this; omega
   obtain rfl := List.eq_nil_of_length_eq_zero hn
   cases hh : hasA l lit.atom
   ·simp only [hh, true_and, if_true]
    unfold hasA
    rw [List.any_eq_true]
    exact ⟨lit.atom, by simp, by rw [zaa]⟩
   ·simp [hh, Fm.adds]
  ·rw [if_neg hk] at h
   rw [if_neg hk, if_neg (fun h => hk h.1)]
   simp only [zfp] at h
   exact Fm.adds_has kids (d - 1) l h.1
theorem Fm.adds_has : ∀ (ks : List Fm) (d : Nat) (l : List Atm), Fm.shapes d ks = true → Fm.hass (Fm.adds l ks) ks = true
 | [], d, l, h => by simp [Fm.hass]
 | k :: ks, d, l, h => by
  simp only [Fm.shapes, zfp] at h
  simp only [Fm.adds, Fm.hass, zfp]
  exact ⟨Fm.has_mono k (fun y hy => Fm.adds_sub ks _ y hy) (Fm.add_has k d l h.1), Fm.adds_has ks d _ h.2⟩
end
theorem Fm.okF_shape {f : Fm} (h : f.okF = true) : Fm.shape 5 f = true := by
 rw [Fm.okF_right] at h
 simp only [Fm.rightF, zfp] at h
 exact h.1.1
theorem Fm.okF_has {f : Fm} (h : f.okF = true) : Fm.has (Fm.add [] f) f = true := Fm.add_has f 5 [] (Fm.okF_shape h)
theorem Fm.shape_parts {f : Fm} {d : Nat} (h : Fm.shape d f = true) : 1 ≤ d ∧ Fm.nk f.kind = (f.kids.length : Int) ∧ (¬ f.kind = 1 → ∀ k ∈ f.kids, Fm.shape (d - 1) k = true) := by
 rw [Fm.shape_eq] at h
 split at h
 ·simp at h
 rename_i h0
 simp only [not_or, Decidable.not_not] at h0
 refine ⟨by omega, h0.2, fun hk k hm => ?_⟩
 rw [if_neg hk, Fm.shapes_all, zfp, List.all_eq_true] at h
 exact h.1 k hm
theorem Fm.has_kids {f : Fm} {l : List Atm} (h : Fm.has l f = true) (hk : ¬ f.kind = 1) : ∀ k ∈ f.kids, Fm.has l k = true := by
 rw [Fm.has_eq, if_neg hk, List.all_eq_true] at h
 exact h
theorem Fm.has_lit {f : Fm} {l : List Atm} (h : Fm.has l f = true) (hk : f.kind = 1) : hasA l f.lit.atom = true := by
 rwa [Fm.has_eq, if_pos hk] at h
end Go.Proofs.YtbfinjiledfpcaaGreat
namespace Go.Proofs.YtbfinjiledfpcaaGreat
open Go Go.RowKit
set_option linter.unusedVariables false
set_option linter.unusedSimpArgs false
mutual
theorem Tm.cd_inj8 : ∀ (t u : Tm), t.cd = u.cd → t = u
 | .mk n ks, .mk m js, h => by
  rw [Tm.cd_eq, Tm.cd_eq] at h
  simp only [Tm.name, Tm.kids, List.cons.injEq, CD.str.injEq, CD.sl.injEq, and_true] at h
  rw [h.1, Tm.cds_inj8 ks js h.2]
theorem Tm.cds_inj8 : ∀ (ks js : List Tm), ks.map Tm.cd = js.map Tm.cd → ks = js
 | [], [], _ => rfl
 | [], _ :: _, h => by simp at h
 | _ :: _, [], h => by simp at h
 | k :: ks, j :: js, h => by
  simp only [List.map_cons, List.cons.injEq] at h
  rw [Tm.cd_inj8 k j h.1, Tm.cds_inj8 ks js h.2]
end
theorem zdJ : ∀ (l m : List Int), l.map zm = m.map zm → l = m
 | [], [], _ => rfl
 | [], _ :: _, h => by simp at h
 | _ :: _, [], h => by simp at h
 | k :: ks, j :: js, h => by
  simp only [List.map_cons, List.cons.injEq, zm, CD.int.injEq, and_true] at h
  rw [h.1, zdJ ks js h.2]
theorem Atm.cd_inj8 (x y : Atm) (h : x.cd = y.cd) : x = y := by
 obtain ⟨k, a, b, n, t, c, s⟩ := x
 obtain ⟨k', a', b', n', t', c', s'⟩ := y
 simp only [Atm.cd, Tm.cd_eq, List.cons_append, List.nil_append, List.cons.injEq, CD.int.injEq, CD.str.injEq, CD.sl.injEq, CD.bool.injEq, and_true] at h
 obtain ⟨h1, h2, h3, h4, h5, h6, h7, h8, h9⟩ := h
 have ea : a = a' := Tm.cd_inj8 a a' (by rw [Tm.cd_eq, Tm.cd_eq, h2, h3])
 have eb : b = b' := Tm.cd_inj8 b b' (by rw [Tm.cd_eq, Tm.cd_eq, h4, h5])
 rw [h1, ea, eb, Tm.cds_inj8 _ _ h6, zdJ _ _ h7, h8, h9]
theorem zdm {l : List Atm} {x : Atm} : hasA l x = true ↔ x ∈ l := by
 unfold hasA
 rw [List.any_eq_true]
 constructor
 ·rintro ⟨y, hy, e⟩
  rw [zaa] at e
  rwa [← Atm.cd_inj8 _ _ e]
 ·intro h; exact ⟨x, h, by rw [zaa]⟩
mutual
theorem Fm.add_least : ∀ (f : Fm) (d : Nat) (l m : List Atm), Fm.shape d f = true → (∀ x ∈ l, x ∈ m) → Fm.has m f = true → ∀ x ∈ Fm.add l f, x ∈ m
 | .mk kind lit kids, d, l, m, hs, hl, hm, x, hx => by
  obtain ⟨_, hn, hk⟩ := Fm.shape_parts hs
  have hn' : Fm.nk kind = (kids.length : Int) := hn
  simp only [Fm.add] at hx
  by_cases h1 : kind = 1
  ·have h2 : hasA m lit.atom = true := Fm.has_lit hm h1
   have h3 : kids = [] := List.eq_nil_of_length_eq_zero (by have := Fm.nk_zero.2 h1; omega)
   split at hx
   ·rcases zfj.1 hx with h | h
    ·exact hl x h
    ·rw [List.mem_singleton.1 h]; exact zdm.1 h2
   ·rw [h3] at hx; simp only [Fm.adds] at hx; exact hl x hx
  ·rw [if_neg (by simp [h1])] at hx
   have ha : ∀ x ∈ kids, Fm.shape (d - 1) x = true := hk h1
   have hb : ∀ x ∈ kids, Fm.has m x = true := Fm.has_kids hm h1
   exact Fm.adds_least kids (d - 1) l m (by rw [Fm.shapes_all, List.all_eq_true]; exact ha) hl (by rw [Fm.hass_all, List.all_eq_true]; exact hb) x hx
theorem Fm.adds_least : ∀ (ks : List Fm) (d : Nat) (l m : List Atm), Fm.shapes d ks = true → (∀ x ∈ l, x ∈ m) → Fm.hass m ks = true → ∀ x ∈ Fm.adds l ks, x ∈ m
 | [], d, l, m, hs, hl, hm, x, hx => by simp only [Fm.adds] at hx; exact hl x hx
 | k :: ks, d, l, m, hs, hl, hm, x, hx => by
  simp only [Fm.shapes, Fm.hass, zfp] at hs hm
  simp only [Fm.adds] at hx
  exact Fm.adds_least ks d _ m hs.2 (fun y hy => Fm.add_least k d l m hs.1 hl hm.1 y hy) hm.2 x hx
end
mutual
theorem Fm.add_once : ∀ (f : Fm) (l : List Atm), l.Nodup → (Fm.add l f).Nodup
 | .mk kind lit kids, l, h => by
  simp only [Fm.add]
  split
  ·rename_i hc
   refine List.nodup_append.2 ⟨h, by simp, fun a ha b hb e => ?_⟩
   rw [List.mem_singleton] at hb
   subst hb; subst e
   have := zdm.2 ha
   rw [hc.2] at this; simp at this
  ·exact Fm.adds_once kids l h
theorem Fm.adds_once : ∀ (ks : List Fm) (l : List Atm), l.Nodup → (Fm.adds l ks).Nodup
 | [], l, h => by simpa [Fm.adds] using h
 | k :: ks, l, h => by simp only [Fm.adds]; exact Fm.adds_once ks _ (Fm.add_once k l h)
end
mutual
theorem ze0 : ∀ (t : Tm) (l : List Tm), l.Nodup → (Tm.addP l t).Nodup
 | .mk n ks, l, h => by
  have h1 := zbo ks l h
  simp only [Tm.addP]
  split
  ·exact h1
  ·rename_i hm
   exact List.nodup_append.2 ⟨h1, by simp, fun a ha b hb e => by rw [List.mem_singleton] at hb; subst hb; subst e; exact hm ha⟩
theorem zbo : ∀ (ts l : List Tm), l.Nodup → (Tm.addPs l ts).Nodup
 | [], l, h => by simpa [Tm.addPs] using h
 | t :: ts, l, h => by simp only [Tm.addPs]; exact zbo ts _ (ze0 t l h)
end
theorem za5 {α : Type} [DecidableEq α] : ∀ {l m : List α}, l.Nodup → (∀ x ∈ l, x ∈ m) → l.length ≤ m.length
 | [], m, _, _ => by simp
 | x :: l, m, hn, hs => by
  have hx := hs x (by simp)
  have h1 := za5 (l := l) (m := m.erase x) (List.nodup_cons.1 hn).2 (fun y hy => by
   have hne : y ≠ x := fun e => (List.nodup_cons.1 hn).1 (e ▸ hy)
   exact (List.mem_erase_of_ne hne).2 (hs y (by simp [hy])))
  rw [List.length_erase_of_mem hx] at h1
  have := List.length_pos_of_mem hx
  simp only [List.length_cons]; omega
mutual
theorem zeh {X : List Tm} : ∀ (t : Tm) (l : List Tm), (∀ x ∈ l, x ∈ X) → Tm.allIn X t → ∀ x ∈ Tm.addP l t, x ∈ X
 | .mk n ks, l, h, ha, x, hx => by
  simp only [Tm.allIn] at ha
  have h1 := za2 ks l h ha.2
  simp only [Tm.addP] at hx
  split at hx
  ·exact h1 x hx
  ·rcases zfj.1 hx with h2 | h2
   ·exact h1 x h2
   ·rw [List.mem_singleton.1 h2]; exact ha.1
theorem za2 {X : List Tm} : ∀ (ts l : List Tm), (∀ x ∈ l, x ∈ X) → Tm.allIns X ts → ∀ x ∈ Tm.addPs l ts, x ∈ X
 | [], l, h, _ => by simpa [Tm.addPs] using h
 | t :: ts, l, h, ha => by
  simp only [Tm.allIns] at ha
  simp only [Tm.addPs]
  exact za2 ts _ (zeh t l h ha.1) ha.2
end
theorem ze1 {ts us : List Tm} (h : ∀ t ∈ ts, t ∈ us) : ∀ x ∈ Tm.addPs [] ts, x ∈ Tm.addPs [] us :=
 za2 ts [] (by simp) ((Tm.allIns_iff _ _).2 (fun t ht => (Tm.allIns_iff _ _).1 (Tm.addPs_all us []) t (h t ht)))
theorem zdK {s : Sg} {l m : List Atm} (h : ∀ x ∈ l, x ∈ m) (hl : l.length ≤ 6) (hm : zax s (zx m) = true) : zax s (zx l) = true := by
 have hsub : ∀ t ∈ zP (zx l), t ∈ zP (zx m) := by
  intro t ht
  unfold zP zx at ht ⊢
  rw [List.mem_flatMap] at ht ⊢
  obtain ⟨y, hy, ht⟩ := ht
  rw [List.mem_map] at hy
  obtain ⟨x, hx, rfl⟩ := hy
  exact ⟨za1 x, List.mem_map.2 ⟨x, h x hx, rfl⟩, ht⟩
 have h1 := ze1 hsub
 have h2 := zbo (zP (zx l)) [] List.nodup_nil
 have h3 := za5 h2 h1
 have h4 := za5 (h2.sublist (List.filter_sublist (p := Tm.isNum s))) (m := (Tm.addPs [] (zP (zx m))).filter (Tm.isNum s)) (fun x hx => by
  rw [List.mem_filter] at hx ⊢
  exact ⟨h1 x hx.1, hx.2⟩)
 simp only [zax, zfp, decide_eq_true_eq, List.all_eq_true] at hm ⊢
 refine ⟨by simpa [zx] using hl, fun x hx => hm.2.1 x ?_, hm.2.2.1, by omega, by omega⟩
 unfold zx at hx ⊢
 rw [List.mem_map] at hx ⊢
 obtain ⟨y, hy, e⟩ := hx
 exact ⟨y, h y hy, e⟩
theorem zbp {s : Sg} {fs : List Fm} (h : za8 s fs = true) : s.okB = true ∧ fs.length ≤ 5 ∧ (∀ f ∈ fs, f.okF = true) ∧ (Fm.adds [] fs).length ≤ 6 ∧ zad fs = true ∧ zax s (zx (Fm.adds [] fs)) = true := by
 simp only [za8, zfp] at h
 have h2 := h.2.1
 have h3 := h.2.2
 rw [zaw h2] at h3
 simp only [zad, zfp, decide_eq_true_eq, List.all_eq_true] at h2
 exact ⟨h.1, h2.1, h2.2.1, h2.2.2, h.2.1, h3⟩
theorem okF_len {f : Fm} (h : f.okF = true) : (Fm.add [] f).length ≤ 6 := by
 simp only [Fm.okF, zfp, decide_eq_true_eq] at h; exact h.2
theorem zdL {fs : List Fm} (h : ∀ f ∈ fs, f.okF = true) : Fm.shapes 5 fs = true := by
 rw [Fm.shapes_all, List.all_eq_true]; exact fun f hf => Fm.okF_shape (h f hf)
theorem has_all {fs : List Fm} (h : ∀ f ∈ fs, f.okF = true) {f : Fm} (hf : f ∈ fs) : Fm.has (Fm.adds [] fs) f = true := by
 have h1 := Fm.adds_has fs 5 [] (zdL h)
 rw [Fm.hass_all, List.all_eq_true] at h1
 exact h1 f hf
theorem add_in {fs : List Fm} (h : ∀ f ∈ fs, f.okF = true) {f : Fm} (hf : f ∈ fs) : ∀ x ∈ Fm.add [] f, x ∈ Fm.adds [] fs :=
 Fm.add_least f 5 [] _ (Fm.okF_shape (h f hf)) (by simp) (has_all h hf)
/-- Each of some forms that are right together is right. -/
theorem fmsIn_mem {s : Sg} {fs : List Fm} (h : za8 s fs = true) {f : Fm} (hf : f ∈ fs) : f.okIn s = true := by
 obtain ⟨h1, h2, h3, h4, h5, h6⟩ := zbp h
 rw [Fm.okIn_yes (h3 f hf)]
 exact zdK (add_in h3 hf) (okF_len (h3 f hf)) h6
/-- Some of some forms that are right together are right together. -/
theorem fmsIn_sub {s : Sg} {fs gs : List Fm} (h : za8 s fs = true) (hl : gs.length ≤ 5) (hs : ∀ g ∈ gs, g ∈ fs) : za8 s gs = true := by
 obtain ⟨h1, h2, h3, h4, h5, h6⟩ := zbp h
 have hg : ∀ g ∈ gs, g.okF = true := fun g hg => h3 g (hs g hg)
 have hin : ∀ x ∈ Fm.adds [] gs, x ∈ Fm.adds [] fs := Fm.adds_least gs 5 [] _ (zdL hg) (by simp) (by
  rw [Fm.hass_all, List.all_eq_true]; exact fun g hm => has_all h3 (hs g hm))
 have hlen : (Fm.adds [] gs).length ≤ 6 := by
  have h7 : ∀ (l m : List Atm), l.Nodup → (∀ x ∈ l, x ∈ m) → l.length ≤ m.length := fun l m hn hm => by
   haveI : DecidableEq Atm := fun a b => if e : eqV a.cd b.cd = true then .isTrue (Atm.cd_inj8 _ _ ((zaa _ _).1 e)) else .isFalse (fun h => e (by rw [h, zaa]))
   exact za5 hn hm
  have := h7 _ _ (Fm.adds_once gs [] List.nodup_nil) hin
  omega
 have hok : zad gs = true := by
  simp only [zad, zfp, decide_eq_true_eq, List.all_eq_true]
  exact ⟨hl, hg, hlen⟩
 rw [zck h1 hok, zaw hok]
 exact zdK hin hlen h6
theorem ze2 {s : Sg} {fs : List Fm} (h : za8 s fs = true) (k : Nat) : za8 s (fs.take k) = true :=
 fmsIn_sub h (by have := (zbp h).2.1; rw [List.length_take]; omega) (fun g hg => List.mem_of_mem_take hg)
end Go.Proofs.YtbfinjiledfpcaaGreat
