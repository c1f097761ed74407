/- For every two codes: of the map that the statement draws, QuadIs of the program answers what the reference answers; a quadrangulation of genus 0 has two vertices more than faces, distances in it change by one along each edge, and Tutte's map of it has genus 0. There are no conditions. -/
import Derived.Test.YtlpbalebodlipaaKFnQuadOwnx8
set_option linter.unusedVariables false
set_option linter.unusedSimpArgs false
namespace Go.Proofs.Ytlpbalebodlipaa.PL
open Go.RowKit Go.Proofs.YtlpbalebodlipaaW.PrintWords Go.Proofs.YtlpbalebodlipaaW.PrintLast Go.Proofs.YtlpbalebodlipaaW.PrintMore
def fx (f : List Int) (n : Nat) (ch : Nat → Bool) : List Int := (List.range n).map fun (d : Nat) => if ch d = true then rd f (d : Int) else (d : Int)
theorem pE (f : List Int) (n : Nat) (ch : Nat → Bool) (d : Nat) (h : d < n) : rd (fx f n ch) (d : Int) = if ch d = true then rd f (d : Int) else (d : Int) := HE _ n d h
theorem qh (f : List Int) (n : Nat) (ch : Nat → Bool) (hf : inR n f) : inR n (fx f n ch) := ⟨by simp [fx], fun i hi => by
  rw [pE f n ch i hi]
  have := hf.2 i hi
  split <;> omega⟩
def qm (f : List Int) (n : Nat) (ch : Nat → Bool) : Prop := ∀ d : Nat, d < n → ch (rd f (d : Int)).toNat = ch d
theorem G0 (f : List Int) (n : Nat) (ch : Nat → Bool) (hf : inR n f) (hfl : ∀ i : Nat, i < n → jw f i) (hi : qm f n ch) : da n (fx f n ch) := fun i j h1 h2 e => by
  rw [pE f n ch i h1, pE f n ch j h2] at e
  have a1 := hf.2 i h1
  have a2 := hf.2 j h2
  have b1 := hi i h1
  have b2 := hi j h2
  have f1 := (hfl i h1).2
  have f2 := (hfl j h2).2
  by_cases c1 : ch i = true <;> by_cases c2 : ch j = true
  · rw [if_pos c1, if_pos c2] at e
    rw [e] at f1
    omega
  · rw [if_pos c1, if_neg c2] at e
    rw [e, Int.toNat_natCast] at b1
    exact absurd (b1.trans c1) c2
  · rw [if_neg c1, if_pos c2] at e
    rw [← e, Int.toNat_natCast] at b2
    exact absurd (b2.trans c2) c1
  · rw [if_neg c1, if_neg c2] at e
    omega
section
variable (t f : List Int) (n : Nat) (ht : inR n t) (hti : da n t) (hf : inR n f) (hfl : ∀ i : Nat, i < n → jw f i)
include ht hti hf hfl
theorem QE (ch ch' : Nat → Bool) (hi : qm f n ch) (hi' : qm f n ch') (a b : Nat) (ha : a < n) (hb : b < n) (e2 : rd f a = b) (ua : ch a = false) (hch : ∀ d : Nat, d < n → ch' d = (ch d || decide (d = a ∨ d = b)))
    (P S P' S' : Nat) (hP : Cl n (Reach [t, fx f n ch] n) P) (hS : Cl n (Reach [cmpL t (fx f n ch) n] n) S) (hP' : Cl n (Reach [t, fx f n ch'] n) P') (hS' : Cl n (Reach [cmpL t (fx f n ch') n] n) S') :
    (Reach [t, fx f n ch] n a b → P' = P) ∧ (¬ Reach [t, fx f n ch] n a b → P' + 1 = P) ∧ (¬ Reach [cmpL t (fx f n ch) n] n a b → S' + 1 = S) ∧ (Reach [cmpL t (fx f n ch) n] n a b → S' = S + 1) := by
  have e3 : rd f b = a := by rw [← e2]; exact (hfl a ha).2
  have hab : a ≠ b := fun e => (hfl a ha).1 (by rw [e2, e])
  have ub : ch b = false := by
    have := hi a ha
    rw [e2, Int.toNat_natCast] at this
    rw [this, ua]
  have fa : rd (fx f n ch) a = a := by rw [pE f n ch a ha, ua]; simp
  have fb : rd (fx f n ch) b = b := by rw [pE f n ch b hb, ub]; simp
  have fa' : rd (fx f n ch') a = b := by rw [pE f n _ a ha, hch a ha]; simp [e2]
  have fb' : rd (fx f n ch') b = a := by rw [pE f n _ b hb, hch b hb]; simp [e3]
  have fo : ∀ d : Nat, d < n → d ≠ a → d ≠ b → rd (fx f n ch') d = rd (fx f n ch) d := by
    intro d hd ka kb
    rw [pE f n _ d hd, pE f n _ d hd, hch d hd]
    simp [ka, kb]
  have rel : ∀ x y, Reach [t, fx f n ch'] n x y ↔ Reach [t, fx f n ch] n x y ∨ (Reach [t, fx f n ch] n x a ∧ Reach [t, fx f n ch] n b y) ∨ (Reach [t, fx f n ch] n x b ∧ Reach [t, fx f n ch] n a y) := by
    have up : ∀ x y, Reach [t, fx f n ch] n x y → Reach [t, fx f n ch'] n x y := by
      intro x y h S hS
      refine h S fun p hp k hk => ?_
      rcases List.mem_cons.1 hp with rfl | hp
      · exact hS p (by simp) k hk
      · rw [List.mem_singleton.1 hp]
        by_cases ka : k = a
        · subst ka; rw [fa, Int.toNat_natCast]
        · by_cases kb : k = b
          · subst kb; rw [fb, Int.toNat_natCast]
          · rw [← fo k hk ka kb]
            exact hS _ (by simp) k hk
    have uab : Reach [t, fx f n ch'] n a b := by
      have := Reach.step (ps := [t, fx f n ch']) (n := n) (p := fx f n ch') (by simp) ha
      rwa [fa', Int.toNat_natCast] at this
    intro x y
    constructor
    · intro h
      refine (h (fun z => Reach [t, fx f n ch] n x z ∨ (Reach [t, fx f n ch] n x a ∧ Reach [t, fx f n ch] n b z) ∨ (Reach [t, fx f n ch] n x b ∧ Reach [t, fx f n ch] n a z)) ?_).1 (.inl (Reach.refl _ _ _))
      intro p hp k hk
      rcases List.mem_cons.1 hp with rfl | hp
      · have s := Reach.step (ps := [p, fx f n ch]) (n := n) (p := p) (by simp) hk
        constructor
        · rintro (z | ⟨z1, z2⟩ | ⟨z1, z2⟩)
          · exact .inl (z.trans s)
          · exact .inr (.inl ⟨z1, z2.trans s⟩)
          · exact .inr (.inr ⟨z1, z2.trans s⟩)
        · rintro (z | ⟨z1, z2⟩ | ⟨z1, z2⟩)
          · exact .inl (z.trans s.symm)
          · exact .inr (.inl ⟨z1, z2.trans s.symm⟩)
          · exact .inr (.inr ⟨z1, z2.trans s.symm⟩)
      · rw [List.mem_singleton.1 hp]
        by_cases ka : k = a
        · subst ka
          rw [fa', Int.toNat_natCast]
          constructor
          · rintro (z | ⟨z1, z2⟩ | ⟨z1, z2⟩)
            · exact .inr (.inl ⟨z, Reach.refl _ _ _⟩)
            · exact .inr (.inl ⟨z1, Reach.refl _ _ _⟩)
            · exact .inl z1
          · rintro (z | ⟨z1, z2⟩ | ⟨z1, z2⟩)
            · exact .inr (.inr ⟨z, Reach.refl _ _ _⟩)
            · exact .inl z1
            · exact .inr (.inr ⟨z1, Reach.refl _ _ _⟩)
        · by_cases kb : k = b
          · subst kb
            rw [fb', Int.toNat_natCast]
            constructor
            · rintro (z | ⟨z1, z2⟩ | ⟨z1, z2⟩)
              · exact .inr (.inr ⟨z, Reach.refl _ _ _⟩)
              · exact .inl z1
              · exact .inr (.inr ⟨z1, Reach.refl _ _ _⟩)
            · rintro (z | ⟨z1, z2⟩ | ⟨z1, z2⟩)
              · exact .inr (.inl ⟨z, Reach.refl _ _ _⟩)
              · exact .inr (.inl ⟨z1, Reach.refl _ _ _⟩)
              · exact .inl z1
          · have s := Reach.step (ps := [t, fx f n ch]) (n := n) (p := fx f n ch) (by simp) hk
            rw [fo k hk ka kb]
            constructor
            · rintro (z | ⟨z1, z2⟩ | ⟨z1, z2⟩)
              · exact .inl (z.trans s)
              · exact .inr (.inl ⟨z1, z2.trans s⟩)
              · exact .inr (.inr ⟨z1, z2.trans s⟩)
            · rintro (z | ⟨z1, z2⟩ | ⟨z1, z2⟩)
              · exact .inl (z.trans s.symm)
              · exact .inr (.inl ⟨z1, z2.trans s.symm⟩)
              · exact .inr (.inr ⟨z1, z2.trans s.symm⟩)
    · rintro (z | ⟨z1, z2⟩ | ⟨z1, z2⟩)
      · exact up _ _ z
      · exact (up _ _ z1).trans (uab.trans (up _ _ z2))
      · exact (up _ _ z1).trans (uab.symm.trans (up _ _ z2))
  have ex : Exch n (cmpL t (fx f n ch) n) (cmpL t (fx f n ch') n) a b := by
    refine ⟨ha, hb, hab, ?_, ?_, fun x hx ka kb => ?_⟩
    · rw [jR t _ n a ha, jR t _ n b hb, fa', fb]
    · rw [jR t _ n a ha, jR t _ n b hb, fb', fa]
    · rw [jR t _ n x hx, jR t _ n x hx, fo x hx ka kb]
  have xc := PO (qk t _ n ht (qh f n ch hf)) (qk t _ n ht (qh f n ch' hf)) (tX t _ n ht hti (qh f n ch hf) (G0 f n ch hf hfl hi)) (tX t _ n ht hti (qh f n ch' hf) (G0 f n ch' hf hfl hi')) ex hS hS'
  refine ⟨fun h => ?_, fun h => ?_, xc.1, xc.2⟩
  · refine Cnt.same hP' hP fun x hx => ?_
    have : ∀ i, Reach [t, fx f n ch'] n i x ↔ Reach [t, fx f n ch] n i x := fun i => by
      rw [rel]
      exact ⟨fun z => z.elim id (fun z => z.elim (fun z => z.1.trans (h.trans z.2)) (fun z => z.1.trans (h.symm.trans z.2))), .inl⟩
    exact ⟨fun z i hi hr => z i hi ((this i).2 hr), fun z i hi hr => z i hi ((this i).1 hr)⟩
  · have := Cl.merge (S := Reach [t, fx f n ch'] n) (fun x => Reach.refl _ _ x) (fun _ _ h => h.symm) (fun _ _ _ h h' => h.trans h') hP a b ha hb h rel
    have u := Cl.uniq hP' this.2
    omega
theorem Rp : ∀ (m : Nat) (ch : Nat → Bool), qm f n ch → Cnt n (fun d => ch d = true) (2 * m) → ∀ P S V, Cl n (Reach [t, fx f n ch] n) P → Cl n (Reach [cmpL t (fx f n ch) n] n) S → Cl n (Reach [t] n) V → V + S ≤ 2 * P + m
  | 0, ch, hi, hc, P, S, V, hP, hS, hV => by
    have none : ∀ d, d < n → ¬ ch d = true := fun d hd h => by
      obtain ⟨L, l1, l2, l3⟩ := hc
      have := (l2 d).2 ⟨hd, h⟩
      rw [List.length_eq_zero_iff.1 l3] at this
      simp at this
    have ef : fx f n ch = stl n := by
      unfold fx stl
      refine List.map_congr_left fun d hd => ?_
      rw [if_neg (none d (List.mem_range.1 hd))]
    have et : cmpL t (fx f n ch) n = t := by
      refine pB _ _ (by rw [(qk t _ n ht (qh f n ch hf)).1, ht.1]) fun i hi => ?_
      rw [(qk t _ n ht (qh f n ch hf)).1] at hi
      rw [jR t _ n i hi, ef, CK n i hi]
    rw [et] at hS
    have e1 := Cl.uniq hS hV
    have e2 : P = V := Cnt.same hP hV fun x hx => by
      have : ∀ i, Reach [t, fx f n ch] n i x ↔ Reach [t] n i x := fun i => by
        constructor
        · intro h S hS
          refine h S fun p hp k hk => ?_
          rcases List.mem_cons.1 hp with rfl | hp
          · exact hS p (by simp) k hk
          · rw [List.mem_singleton.1 hp, ef, CK n k hk, Int.toNat_natCast]
        · exact fun h S hS => h S fun p hp k hk => hS p (by rw [List.mem_singleton.1 hp]; simp) k hk
      exact ⟨fun z i hi hr => z i hi ((this i).2 hr), fun z i hi hr => z i hi ((this i).1 hr)⟩
    omega
  | m + 1, ch, hi, hc, P, S, V, hP, hS, hV => by
    obtain ⟨a, ha, ca⟩ : ∃ a, a < n ∧ ch a = true := by
      obtain ⟨L, l1, l2, l3⟩ := hc
      have : 0 < L.length := by omega
      have := (l2 L[0]).1 (List.getElem_mem this)
      exact ⟨_, this⟩
    have fa := hf.2 a ha
    have fi := hfl a ha
    obtain ⟨b, eb⟩ : ∃ b : Nat, rd f (a : Int) = b := ⟨(rd f (a : Int)).toNat, by omega⟩
    have hb : b < n := by omega
    have hab : a ≠ b := fun e => fi.1 (by rw [eb, e])
    have e3 : rd f (b : Int) = a := by rw [← eb]; exact fi.2
    have cb : ch b = true := by have := hi a ha; rw [eb, Int.toNat_natCast] at this; rw [this, ca]
    let rV : Nat → Bool := fun d => ch d && !decide (d = a ∨ d = b)
    have hi0 : qm f n rV := fun d hd => by
      have fd := hf.2 d hd
      have gd := hfl d hd
      show (ch (rd f (d : Int)).toNat && !decide ((rd f (d : Int)).toNat = a ∨ (rd f (d : Int)).toNat = b)) = (ch d && !decide (d = a ∨ d = b))
      rw [hi d hd]
      have : ((rd f (d : Int)).toNat = a ∨ (rd f (d : Int)).toNat = b) ↔ (d = a ∨ d = b) := by
        have en : (((rd f (d : Int)).toNat : Nat) : Int) = rd f (d : Int) := by omega
        constructor
        · rintro (h | h)
          · rw [h] at en; have g2 := gd.2; rw [← en, eb] at g2; right; omega
          · rw [h] at en; have g2 := gd.2; rw [← en, e3] at g2; left; omega
        · rintro (rfl | rfl)
          · right; rw [eb, Int.toNat_natCast]
          · left; rw [e3, Int.toNat_natCast]
      simp only [this]
    have c0 : Cnt n (fun d => rV d = true) (2 * m) := by
      have h1 := (hc.drop (Q := fun d => ch d = true ∧ d ≠ a) a ha ca fun x _ => Iff.rfl).2
      have h2 := (h1.drop (Q := fun d => (ch d = true ∧ d ≠ a) ∧ d ≠ b) b hb ⟨cb, fun e => hab e.symm⟩ fun x _ => Iff.rfl).2
      rw [show 2 * (m + 1) - 1 - 1 = 2 * m by omega] at h2
      refine h2.congr fun x hx => ?_
      show _ ↔ (ch x && !decide (x = a ∨ x = b)) = true
      simp only [Bool.and_eq_true, Bool.not_eq_true', decide_eq_false_iff_not, not_or, and_assoc]
    obtain ⟨P0, GF, _⟩ := Cl.ex n (Reach [t, fx f n rV] n)
    obtain ⟨S0, hS0, _⟩ := Cl.ex n (Reach [cmpL t (fx f n rV) n] n)
    have ih := Rp m rV hi0 c0 P0 S0 V GF hS0 hV
    obtain ⟨q1, q2, q3, q4⟩ := QE t f n ht hti hf hfl rV ch hi0 hi a b ha hb eb (by show (ch a && !decide (a = a ∨ a = b)) = false; simp) (fun d hd => by
      show ch d = ((ch d && !decide (d = a ∨ d = b)) || decide (d = a ∨ d = b))
      by_cases h : d = a ∨ d = b
      · rw [decide_eq_true h]
        rcases h with rfl | rfl
        · simp [ca]
        · simp [cb]
      · rw [decide_eq_false h]; simp) P0 S0 P S GF hS0 hP hS
    by_cases r : Reach [t, fx f n rV] n a b
    · have := q1 r
      by_cases r2 : Reach [cmpL t (fx f n rV) n] n a b
      · have := q4 r2; omega
      · have := q3 r2; omega
    · have := q2 r
      have r2 : ¬ Reach [cmpL t (fx f n rV) n] n a b := fun h => r (Ro t _ n (qh f n rV hf) a b h)
      have := q3 r2
      omega
theorem Oj : ∀ (m : Nat) (ch : Nat → Bool), qm f n ch → Cnt n (fun d => ch d = false) (2 * m) → ∀ S F, Cl n (Reach [cmpL t (fx f n ch) n] n) S → Cl n (Reach [cmpL t f n] n) F → F ≤ S + m
  | 0, ch, hi, hc, S, F, hS, hF => by
    have all : ∀ d, d < n → ch d = true := fun d hd => by
      cases h : ch d with
      | true => rfl
      | false =>
        obtain ⟨L, l1, l2, l3⟩ := hc
        have := (l2 d).2 ⟨hd, h⟩
        rw [List.length_eq_zero_iff.1 l3] at this
        simp at this
    have ef : fx f n ch = f := pB _ _ (by rw [(qh f n ch hf).1, hf.1]) fun i hi => by
      rw [(qh f n ch hf).1] at hi
      rw [pE f n ch i hi, if_pos (all i hi)]
    rw [ef] at hS
    have := Cl.uniq hS hF
    omega
  | m + 1, ch, hi, hc, S, F, hS, hF => by
    obtain ⟨a, ha, ca⟩ : ∃ a, a < n ∧ ch a = false := by
      obtain ⟨L, l1, l2, l3⟩ := hc
      have : 0 < L.length := by omega
      have := (l2 L[0]).1 (List.getElem_mem this)
      exact ⟨_, this⟩
    have fa := hf.2 a ha
    have fi := hfl a ha
    obtain ⟨b, eb⟩ : ∃ b : Nat, rd f (a : Int) = b := ⟨(rd f (a : Int)).toNat, by omega⟩
    have hb : b < n := by omega
    have hab : a ≠ b := fun e => fi.1 (by rw [eb, e])
    have e3 : rd f (b : Int) = a := by rw [← eb]; exact fi.2
    have cb : ch b = false := by have := hi a ha; rw [eb, Int.toNat_natCast] at this; rw [this, ca]
    let zt : Nat → Bool := fun d => ch d || decide (d = a ∨ d = b)
    have hi1 : qm f n zt := fun d hd => by
      have fd := hf.2 d hd
      have gd := hfl d hd
      show (ch (rd f (d : Int)).toNat || decide ((rd f (d : Int)).toNat = a ∨ (rd f (d : Int)).toNat = b)) = (ch d || decide (d = a ∨ d = b))
      rw [hi d hd]
      have : ((rd f (d : Int)).toNat = a ∨ (rd f (d : Int)).toNat = b) ↔ (d = a ∨ d = b) := by
        have en : (((rd f (d : Int)).toNat : Nat) : Int) = rd f (d : Int) := by omega
        constructor
        · rintro (h | h)
          · rw [h] at en; have g2 := gd.2; rw [← en, eb] at g2; right; omega
          · rw [h] at en; have g2 := gd.2; rw [← en, e3] at g2; left; omega
        · rintro (rfl | rfl)
          · right; rw [eb, Int.toNat_natCast]
          · left; rw [e3, Int.toNat_natCast]
      simp only [this]
    have c0 : Cnt n (fun d => zt d = false) (2 * m) := by
      have h1 := (hc.drop (Q := fun d => ch d = false ∧ d ≠ a) a ha ca fun x _ => Iff.rfl).2
      have h2 := (h1.drop (Q := fun d => (ch d = false ∧ d ≠ a) ∧ d ≠ b) b hb ⟨cb, fun e => hab e.symm⟩ fun x _ => Iff.rfl).2
      rw [show 2 * (m + 1) - 1 - 1 = 2 * m by omega] at h2
      refine h2.congr fun x hx => ?_
      show _ ↔ (ch x || decide (x = a ∨ x = b)) = false
      simp only [Bool.or_eq_false_iff, decide_eq_false_iff_not, not_or, and_assoc]
    obtain ⟨P0, GF, _⟩ := Cl.ex n (Reach [t, fx f n ch] n)
    obtain ⟨P1, hP1, _⟩ := Cl.ex n (Reach [t, fx f n zt] n)
    obtain ⟨S1, hS1, _⟩ := Cl.ex n (Reach [cmpL t (fx f n zt) n] n)
    have ih := Oj m zt hi1 c0 S1 F hS1 hF
    obtain ⟨q1, q2, q3, q4⟩ := QE t f n ht hti hf hfl ch zt hi hi1 a b ha hb eb ca (fun d hd => rfl) P0 S P1 S1 GF hS hP1 hS1
    by_cases r2 : Reach [cmpL t (fx f n ch) n] n a b
    · have := q4 r2; omega
    · have := q3 r2; omega
theorem aad (h1 : 1 ≤ n) (bad : Nat → Bool) (hi : qm f n bad) (hcon : ∀ i j : Nat, i < n → j < n → Reach [t, fx f n (fun d => !bad d)] n i j)
    (heven : ∀ x, x < n → bad x = true → ∃ y, y < n ∧ y ≠ x ∧ bad y = true ∧ Reach [cmpL t f n] n x y) (V F : Nat) (hV : Cl n (Reach [t] n) V) (hF : Cl n (Reach [cmpL t f n] n) F) (hE : 2 * V + 2 * F = 4 + n) : ∀ x, x < n → bad x = false := by
  classical
  intro x0 hx0
  cases hbx : bad x0 with
  | false => rfl
  | true =>
  exfalso
  have hiA : qm f n (fun d => !bad d) := fun d hd => by show (!bad _) = !bad d; rw [hi d hd]
  obtain ⟨B, hB, _⟩ := Cnt.ex (fun d => bad d = true) n
  obtain ⟨A, hA, _⟩ := Cnt.ex (fun d => (!bad d) = true) n
  -- both are even
  have pairs : ∀ (p : Nat → Bool), qm f n p → ∀ k, Cnt n (fun d => p d = true) k → k % 2 = 0 := by
    intro p hp k
    induction k using Nat.strongRecOn generalizing p with
    | ind k ih =>
      intro hk
      by_cases h0 : k = 0
      · subst h0; rfl
      · obtain ⟨a, ha, ca⟩ : ∃ a, a < n ∧ p a = true := by
          obtain ⟨L, l1, l2, l3⟩ := hk
          have : 0 < L.length := by omega
          have := (l2 L[0]).1 (List.getElem_mem this)
          exact ⟨_, this⟩
        have fa := hf.2 a ha
        have fi := hfl a ha
        obtain ⟨b, eb⟩ : ∃ b : Nat, rd f (a : Int) = b := ⟨(rd f (a : Int)).toNat, by omega⟩
        have hb : b < n := by omega
        have hab : a ≠ b := fun e => fi.1 (by rw [eb, e])
        have e3 : rd f (b : Int) = a := by rw [← eb]; exact fi.2
        have cb : p b = true := by have := hp a ha; rw [eb, Int.toNat_natCast] at this; rw [this, ca]
        have h1 := hk.drop (Q := fun d => p d = true ∧ d ≠ a) a ha ca fun x _ => Iff.rfl
        have h2 := h1.2.drop (Q := fun d => (p d = true ∧ d ≠ a) ∧ d ≠ b) b hb ⟨cb, fun e => hab e.symm⟩ fun x _ => Iff.rfl
        have := ih (k - 1 - 1) (by omega) (fun d => p d && !decide (d = a ∨ d = b)) (fun d hd => by
          have fd := hf.2 d hd
          have gd := hfl d hd
          show (p (rd f (d : Int)).toNat && !decide ((rd f (d : Int)).toNat = a ∨ (rd f (d : Int)).toNat = b)) = (p d && !decide (d = a ∨ d = b))
          rw [hp d hd]
          have : ((rd f (d : Int)).toNat = a ∨ (rd f (d : Int)).toNat = b) ↔ (d = a ∨ d = b) := by
            have en : (((rd f (d : Int)).toNat : Nat) : Int) = rd f (d : Int) := by omega
            constructor
            · rintro (h | h)
              · rw [h] at en; have g2 := gd.2; rw [← en, eb] at g2; right; omega
              · rw [h] at en; have g2 := gd.2; rw [← en, e3] at g2; left; omega
            · rintro (rfl | rfl)
              · right; rw [eb, Int.toNat_natCast]
              · left; rw [e3, Int.toNat_natCast]
          simp only [this]) (h2.2.congr fun x hx => by
            show _ ↔ (p x && !decide (x = a ∨ x = b)) = true
            simp only [Bool.and_eq_true, Bool.not_eq_true', decide_eq_false_iff_not, not_or, and_assoc])
        omega
  have eB := pairs bad hi B hB
  have eA := pairs _ hiA A hA
  have tot : A + B = n := by
    obtain ⟨L, l1, l2, l3⟩ := hA
    obtain ⟨M, m1, m2, m3⟩ := hB
    have a1 := nH (L ++ M) (List.range n) (List.nodup_append.2 ⟨l1, m1, fun a ha b hb e => by
      have x1 := ((l2 a).1 ha).2
      have x2 := ((m2 b).1 hb).2
      rw [e, x2] at x1
      cases x1⟩) (fun x hx => by
      rcases List.mem_append.1 hx with h | h
      · exact List.mem_range.2 ((l2 x).1 h).1
      · exact List.mem_range.2 ((m2 x).1 h).1)
    have a2 := nH (List.range n) (L ++ M) List.nodup_range (fun x hx => by
      have hx := List.mem_range.1 hx
      refine List.mem_append.2 ?_
      cases h : bad x with
      | true => exact .inr ((m2 x).2 ⟨hx, h⟩)
      | false => exact .inl ((l2 x).2 ⟨hx, by show (!bad x) = true; rw [h]; rfl⟩))
    rw [List.length_append, List.length_range] at a1 a2
    omega
  have hP : Cl n (Reach [t, fx f n (fun d => !bad d)] n) 1 := ⟨[0], by simp, fun x => by
    rw [List.mem_singleton]
    constructor
    · rintro rfl; exact ⟨by omega, fun i hi => absurd hi (by omega)⟩
    · rintro ⟨h1, h2⟩
      by_cases e : x = 0
      · exact e
      · exact absurd (hcon 0 x (by omega) h1) (h2 0 (by omega)), rfl⟩
  obtain ⟨S, hS, _⟩ := Cl.ex n (Reach [cmpL t (fx f n (fun d => !bad d)) n] n)
  have g1 := Rp t f n ht hti hf hfl (A / 2) _ hiA (by rw [show 2 * (A / 2) = A by omega]; exact hA) 1 S V hP hS hV
  have g2 := Oj t f n ht hti hf hfl (B / 2) _ hiA (by
    rw [show 2 * (B / 2) = B by omega]
    exact hB.congr fun x hx => by cases bad x <;> simp) S F hS hF
  -- the faces that no bad edge meets, and one more
  let R := Reach [cmpL t f n] n
  let R' := Reach [cmpL t (fx f n (fun d => !bad d)) n] n
  have pR := qk t f n ht hf
  have iR := tX t f n ht hti hf (fun i j h1 h2 e => by
    have f1 := (hfl i h1).2
    have f2 := (hfl j h2).2
    rw [e] at f1
    omega)
  have pR' := qk t _ n ht (qh f n (fun d => !bad d) hf)
  have iR' := tX t _ n ht hti (qh f n (fun d => !bad d) hf) (G0 f n _ hf hfl hiA)
  have good : ∀ x, x < n → bad x = false → rd (cmpL t (fx f n (fun d => !bad d)) n) (x : Int) = rd (cmpL t f n) (x : Int) := fun x hx h => by
    rw [jR t _ n x hx, jR t _ n x hx, pE f n _ x hx]
    simp [h]
  have iso : ∀ x, x < n → (∀ z, z < n → R x z → bad z = false) → ∀ z, (R' x z ↔ R x z) := by
    intro x hx hg z
    constructor
    · intro h
      exact (h _ (mP _ n pR' iR' (fun z => R x z) fun k hk hz => by
        rw [good k hk (hg k hk hz)]
        exact hz.trans (Reach.step (by simp) hk))).1 (Reach.refl _ _ _)
    · intro h
      exact ((h _ (mP _ n pR iR (fun z => R' x z ∧ R x z) fun k hk hz => by
        have e := good k hk (hg k hk hz.2)
        have s1 := Reach.step (ps := [cmpL t f n]) (n := n) (p := cmpL t f n) (by simp) hk
        have s2 := Reach.step (ps := [cmpL t (fx f n (fun d => !bad d)) n]) (n := n) (p := cmpL t (fx f n (fun d => !bad d)) n) (by simp) hk
        rw [e] at s2
        exact ⟨hz.1.trans s2, hz.2.trans s1⟩)).1 ⟨Reach.refl _ _ _, Reach.refl _ _ _⟩).1
  obtain ⟨I, hI, _⟩ := Cnt.ex (fun x => lst R x ∧ ∀ z, z < n → R x z → bad z = false) n
  obtain ⟨N, hN, _⟩ := Cnt.ex (fun x => lst R x ∧ ∃ z, z < n ∧ R x z ∧ bad z = true) n
  have c1 : I + 1 ≤ S := by
    obtain ⟨q, q1, q2, q3⟩ := vn R' (fun x => Reach.refl _ _ x) (fun _ _ h => h.symm) (fun _ _ _ h h' => h.trans h') x0
    have hd := Cnt.drop (Q := fun x => lst R' x ∧ x ≠ q) hS q (by omega) q2 fun x _ => Iff.rfl
    have := hI.sub hd.2 fun x hx hh => by
      have ix := iso x hx hh.2
      refine ⟨fun i hi hr => hh.1 i hi ?_, fun e => ?_⟩
      · exact ((ix i).1 hr.symm).symm
      · subst e
        have := hh.2 x0 hx0 ((ix x0).1 q3)
        rw [hbx] at this
        cases this
    omega
  have c2 : F ≤ I + N := by
    obtain ⟨L, l1, l2, l3⟩ := hI
    obtain ⟨M, m1, m2, m3⟩ := hN
    obtain ⟨K, k1, k2, k3⟩ := hF
    have := nH K (L ++ M) k1 fun x hx => by
      obtain ⟨h1, h2⟩ := (k2 x).1 hx
      refine List.mem_append.2 ?_
      by_cases h : ∃ z, z < n ∧ R x z ∧ bad z = true
      · exact .inr ((m2 x).2 ⟨h1, h2, h⟩)
      · refine .inl ((l2 x).2 ⟨h1, h2, fun z hz hr => ?_⟩)
        cases hb : bad z with
        | false => rfl
        | true => exact absurd ⟨z, hz, hr, hb⟩ h
    rw [List.length_append] at this
    omega
  have c3 : 2 * N ≤ B := by
    obtain ⟨M, m1, m2, m3⟩ := hN
    obtain ⟨L, l1, l2, l3⟩ := hB
    have ch : ∀ x, ∃ y z, x ∈ M → (y < n ∧ z < n ∧ y ≠ z ∧ bad y = true ∧ bad z = true ∧ R x y ∧ R x z) := fun x => by
      by_cases hx : x ∈ M
      · obtain ⟨h1, h2, y, y1, y2, y3⟩ := (m2 x).1 hx
        obtain ⟨z, z1, z2, z3, z4⟩ := heven y y1 y3
        exact ⟨y, z, fun _ => ⟨y1, z1, fun e => z2 e.symm, y3, z3, y2, y2.trans z4⟩⟩
      · exact ⟨0, 0, fun h => absurd h hx⟩
    let g1 := fun x => Classical.choose (ch x)
    let g2 := fun x => Classical.choose (Classical.choose_spec (ch x))
    have gs : ∀ x, x ∈ M → (g1 x < n ∧ g2 x < n ∧ g1 x ≠ g2 x ∧ bad (g1 x) = true ∧ bad (g2 x) = true ∧ R x (g1 x) ∧ R x (g2 x)) := fun x => Classical.choose_spec (Classical.choose_spec (ch x))
    have un : ∀ x y, x ∈ M → y ∈ M → R x y → x = y := fun x y hx hy h => zL R (fun _ _ h => h.symm) x y ((m2 x).1 hx).2.1 ((m2 y).1 hy).2.1 h
    have nm : ∀ (g : Nat → Nat), (∀ x, x ∈ M → R x (g x)) → (M.map g).Nodup := by
      intro g hg
      rw [List.Nodup, List.pairwise_map]
      refine List.Pairwise.imp_of_mem ?_ m1
      intro a b ha hb hab e
      have r1 := hg a ha
      have r2 := hg b hb
      rw [e] at r1
      exact hab (un a b ha hb (r1.trans r2.symm))
    have := nH (M.map g1 ++ M.map g2) L (List.nodup_append.2 ⟨nm g1 fun x hx => (gs x hx).2.2.2.2.2.1, nm g2 fun x hx => (gs x hx).2.2.2.2.2.2, fun a ha b hb e => by
      obtain ⟨x, hx, rfl⟩ := List.mem_map.1 ha
      obtain ⟨y, hy, rfl⟩ := List.mem_map.1 hb
      have r1 := (gs x hx).2.2.2.2.2.1
      have r2 := (gs y hy).2.2.2.2.2.2
      rw [e] at r1
      have := un x y hx hy (r1.trans r2.symm)
      subst this
      exact (gs x hx).2.2.1 e⟩) (fun z hz => by
      rcases List.mem_append.1 hz with h | h
      · obtain ⟨x, hx, rfl⟩ := List.mem_map.1 h
        exact (l2 _).2 ⟨(gs x hx).1, (gs x hx).2.2.2.1⟩
      · obtain ⟨x, hx, rfl⟩ := List.mem_map.1 h
        exact (l2 _).2 ⟨(gs x hx).2.1, (gs x hx).2.2.2.2.1⟩)
    rw [List.length_append, List.length_map, List.length_map] at this
    omega
  omega
end
theorem Sk (t f : List Int) (n : Nat) (ht : inR n t) (hf : inR n f) : aZ f t n = cmpL t f n :=
  pB _ _ (by rw [mT, (qk t f n ht hf).1]) fun i hi => by
    rw [mT] at hi
    rw [jV f t n i hi, jR t f n i hi]
theorem Pv (f : List Int) (n : Nat) (hfl : ∀ i : Nat, i < n → jw f i) : da n f := fun i j h1 h2 e => by
  have f1 := (hfl i h1).2
  have f2 := (hfl j h2).2
  rw [e] at f1
  omega
theorem bipart (t f : List Int) (n : Nat) (H : fI t f n) (h4 : ∀ l ∈ (cyS (aZ f t n) n n).2, l.length = 4) (hE : 2 * (cyS t n n).2.length + 2 * (cyS (aZ f t n) n n).2.length = 4 + n)
    (a : Nat) (ha : a < n) (g : List Int) (hg : hJ t f n a g) : ∀ x : Nat, x < n → rd g (x : Int) ≠ rd g (rd f (x : Int)) := by
  obtain ⟨hn, h1, ht, hti, hf, hfl, hcon⟩ := id H
  have hfi := Pv f n hfl
  have pIn := qk t f n ht hf
  have pInj := tX t f n ht hti hf hfi
  rw [Sk t f n ht hf] at h4 hE
  obtain ⟨_, h4p⟩ := H8 _ n pIn pInj h4
  let bad : Nat → Bool := fun d => decide (rd g (d : Int) = rd g (rd f (d : Int)))
  have nat : ∀ d : Nat, d < n → (((rd f (d : Int)).toNat : Nat) : Int) = rd f (d : Int) ∧ (rd f (d : Int)).toNat < n := fun d hd => by
    have := hf.2 d hd
    omega
  have hinv : qm f n bad := fun d hd => by
    show decide _ = decide _
    rw [(nat d hd).1, (hfl d hd).2]
    simp only [eq_comm]
  have r1 : ∀ {ps : List (List Int)} (x y : Nat), t ∈ ps → Reach [t] n x y → Reach ps n x y := fun x y hm h S hS => h S fun p hp k hk => by
    rw [List.mem_singleton.1 hp]
    exact hS t hm k hk
  have toA : ∀ (m x : Nat), x < n → rd g (x : Int) = m → Reach [t, fx f n (fun d => !bad d)] n x a := by
    intro m
    induction m with
    | zero => exact fun x hx e => r1 x a (by simp) (hg.zero x hx (by simpa using e))
    | succ m ih =>
      intro x hx e
      obtain ⟨y, y1, y2, y3⟩ := hg.back x hx (by omega)
      have ey := Iq ht hti g hg.turn y2
      have s := Reach.step (ps := [t, fx f n (fun d => !bad d)]) (n := n) (p := fx f n (fun d => !bad d)) (by simp) y1
      have nb : bad y = false := decide_eq_false (by omega)
      rw [pE f n _ y y1, if_pos (by show (!bad y) = true; rw [nb]; rfl)] at s
      have z := ih (rd f (y : Int)).toNat (nat y y1).2 (by rw [(nat y y1).1]; omega)
      exact (r1 y x (by simp) y2).symm.trans (s.trans z)
  have conn : ∀ i j : Nat, i < n → j < n → Reach [t, fx f n (fun d => !bad d)] n i j := fun i j hi hj => by
    have gi := hg.rng i hi
    have gj := hg.rng j hj
    exact (toA (rd g (i : Int)).toNat i hi (by omega)).trans (toA (rd g (j : Int)).toNat j hj (by omega)).symm
  have even : ∀ x, x < n → bad x = true → ∃ y, y < n ∧ y ≠ x ∧ bad y = true ∧ Reach [cmpL t f n] n x y := by
    intro x hx hb
    have hb : rd g (x : Int) = rd g (rd f (x : Int)) := of_decide_eq_true hb
    -- a point's next one, as a number
    have nx : ∀ z : Nat, z < n → ∃ y : Nat, y < n ∧ rd (cmpL t f n) (z : Int) = y ∧ rd g (y : Int) = rd g (rd f (z : Int)) ∧ Reach [cmpL t f n] n z y := fun z hz => by
      have pz := pIn.2 z hz
      have s := Reach.step (ps := [cmpL t f n]) (n := n) (p := cmpL t f n) (by simp) hz
      refine ⟨(rd (cmpL t f n) (z : Int)).toNat, by omega, by omega, ?_, s⟩
      rw [show (((rd (cmpL t f n) (z : Int)).toNat : Nat) : Int) = rd (cmpL t f n) (z : Int) by omega, jR t f n z hz, ← (nat z hz).1, hg.turn _ (nat z hz).2]
    have one : ∀ z : Nat, z < n → bad z = false → rd g (rd f (z : Int)) = rd g (z : Int) + 1 ∨ rd g (rd f (z : Int)) + 1 = rd g (z : Int) := fun z hz h => by
      have h : ¬ rd g (z : Int) = rd g (rd f (z : Int)) := of_decide_eq_false h
      have a1 := hg.flip z hz
      have a2 := hg.flip _ (nat z hz).2
      rw [(nat z hz).1, (hfl z hz).2] at a2
      omega
    obtain ⟨y1, a1, b1, c1, d1⟩ := nx x hx
    obtain ⟨y2, a2, b2, c2, d2⟩ := nx y1 a1
    obtain ⟨y3, a3, b3, c3, d3⟩ := nx y2 a2
    obtain ⟨q1, q2, q3, q4⟩ := h4p x hx
    rw [b1, b2, b3] at q1 q4
    rw [b1, b2] at q3
    rw [b1] at q2
    have c4 : rd g (x : Int) = rd g (rd f (y3 : Int)) := by
      obtain ⟨y4, a4, b4, c4, d4⟩ := nx y3 a3
      rw [← c4, ← b4, q1]
    by_cases e1 : bad y1 = true
    · exact ⟨y1, a1, by omega, e1, d1⟩
    · by_cases e2 : bad y2 = true
      · exact ⟨y2, a2, by omega, e2, d1.trans d2⟩
      · by_cases e3 : bad y3 = true
        · exact ⟨y3, a3, by omega, e3, d1.trans (d2.trans d3)⟩
        · exfalso
          have o1 := one y1 a1 (by simpa using e1)
          have o2 := one y2 a2 (by simpa using e2)
          have o3 := one y3 a3 (by simpa using e3)
          omega
  intro x hx e
  have := aad t f n ht hti hf hfl h1 bad hinv conn even _ _ (r7 t n ht hti) (r7 _ n pIn pInj) hE x hx
  exact absurd e (of_decide_eq_false this)
theorem YD (t f : List Int) (n : Nat) (H : fI t f n) (h4 : ∀ l ∈ (cyS (aZ f t n) n n).2, l.length = 4) (hE : 2 * (cyS t n n).2.length + 2 * (cyS (aZ f t n) n n).2.length = 4 + n)
    (a : Nat) (ha : a < n) (g : List Int) (hg : hJ t f n a g) (x : Nat) (hx : x < n) : rd g (rd f (x : Int)) = rd g (x : Int) + 1 ∨ rd g (rd f (x : Int)) + 1 = rd g (x : Int) := by
  have h := bipart t f n H h4 hE a ha g hg x hx
  obtain ⟨hn, h1, ht, hti, hf, hfl, hcon⟩ := id H
  have a1 := hg.flip x hx
  have fx := hf.2 x hx
  have a2 := hg.flip (rd f (x : Int)).toNat (by omega)
  rw [show (((rd f (x : Int)).toNat : Nat) : Int) = rd f (x : Int) by omega, (hfl x hx).2] at a2
  omega
theorem aaV (t f : List Int) (ht : t.length ≤ 1048576) (hf : f.length ≤ 1048576) : ∃ r : Bool, Ev (fun k => tH.f k t f) r ∧ Ev (fun k => nF.f k t f) r ∧ (r = true → isMap t f ∧ fI t f t.length ∧ (∀ l ∈ (cyS (aZ f t t.length) t.length t.length).2, l.length = 4) ∧ 2 * (cyS t t.length t.length).2.length + 2 * (cyS (aZ f t t.length) t.length t.length).2.length = 4 + t.length) := by
  obtain ⟨r, r1, r2⟩ := Zr t f ht hf
  refine ⟨r, r1, r2, fun hr => ?_⟩
  subst hr
  obtain ⟨b, b1, b2, b3⟩ := sc t f ht hf
  cases b with
  | false =>
    have : Ev (fun k => nF.f k t f) false := by
      unfold nF.f
      refine Ev.bind (a := false) ?_ ?_
      · unfold iu.f
        refine Ev.bind b2 ?_
        simp only [Bool.false_eq_true, if_false]
        exact Ev.const rfl
      · simp only [Bool.false_eq_true, if_false]
        exact Ev.const rfl
    exact absurd (Ev.uniq r2 this) (by simp)
  | true =>
    have hm := b3.1 rfl
    have H := ZO hm
    obtain ⟨q, q1, q2, q3⟩ := Zs t f hm
    cases q with
    | false =>
      have : Ev (fun k => nF.f k t f) false := by
        unfold nF.f
        refine Ev.bind q2 ?_
        simp only [Bool.false_eq_true, if_false]
        exact Ev.const rfl
      exact absurd (Ev.uniq r2 this) (by simp)
    | true =>
      have h4 := q3.1 rfl
      refine ⟨hm, H, h4, ?_⟩
      obtain ⟨hn, h1, ht', hti, hf', hfl, hcon⟩ := id H
      have l2 := hf'.1
      generalize hnn : t.length = n at *
      have hfi := Pv f n hfl
      have ep := Sk t f n ht' hf'
      have pIn := qk t f n ht' hf'
      have pInj := tX t f n ht' hti hf' hfi
      have arI := qd t n n
      have arJ := qd (aZ f t n) n n
      have G : Ev (fun k => kj.f k t f) (wrap64 (Int.tdiv (wrap64 ((wrap64 ((wrap64 (2 - ((cyS t n n).2.length : Int))) + (wrap64 ((f.length : Int) / 2)))) - ((cyS (aZ f t n) n n).2.length : Int))) 2)) := by
        unfold kj.f
        refine Ev.bind (qY t n (by omega) ht') ?_
        refine Ev.bind (oI n (by omega) f t hf' ht') ?_
        refine Ev.bind (qY (aZ f t n) n (by omega) (lp n f t hf' ht')) ?_
        exact Ev.const rfl
      have hP : Cl n (Reach [t, f] n) 1 := ⟨[0], by simp, fun x => by
        rw [List.mem_singleton]
        constructor
        · rintro rfl; exact ⟨by omega, fun i hi => absurd hi (by omega)⟩
        · rintro ⟨h1, h2⟩
          by_cases e : x = 0
          · exact e
          · exact absurd (hcon 0 x (by omega) h1) (h2 0 (by omega)), rfl⟩
      obtain ⟨K, g, k1, k2⟩ := euler t f n ht' hti hf' hfl 1 _ _ hP (r7 t n ht' hti) (r7 _ n pIn pInj)
      rw [← ep] at k2
      have w1 : wrap64 (2 - ((cyS t n n).2.length : Int)) = 2 - ((cyS t n n).2.length : Int) := w64 (by omega) (by omega)
      have w2 : wrap64 ((f.length : Int) / 2) = (K : Int) := by rw [w64 (by omega) (by omega)]; omega
      have w3 : wrap64 (2 - ((cyS t n n).2.length : Int) + (K : Int)) = 2 - ((cyS t n n).2.length : Int) + (K : Int) := w64 (by omega) (by omega)
      have w4 : wrap64 (2 - ((cyS t n n).2.length : Int) + (K : Int) - ((cyS (aZ f t n) n n).2.length : Int)) = 2 * (g : Int) := by rw [w64 (by omega) (by omega)]; omega
      have w5 : Int.tdiv (2 * (g : Int)) 2 = g := by rw [Int.mul_comm]; exact Int.mul_tdiv_cancel _ (by decide)
      rw [w1, w2, w3, w4, w5, w64 (x := (g : Int)) (by omega) (by omega)] at G
      have : Ev (fun k => nF.f k t f) ((g : Int) == 0) := by
        unfold nF.f
        refine Ev.bind q2 ?_
        simp only [if_true]
        exact Ev.bind G (Ev.const rfl)
      have e := Ev.uniq r2 this
      have : (g : Int) = 0 := eq_of_beq e.symm
      omega
end Go.Proofs.Ytlpbalebodlipaa.PL

set_option linter.unusedVariables false
set_option linter.unusedSimpArgs false
namespace Go.Proofs.Ytlpbalebodlipaa.Pure
open Go.RowKit Go.Proofs.Ytlpbalebodlipaa.PL Go.Proofs.YtlpbalebodlipaaW.PrintWords Go.Proofs.YtlpbalebodlipaaW.PrintLast Go.Proofs.YtlpbalebodlipaaW.PrintMore
theorem Oq (t f : List Int) (n : Nat) (H : fI t f n) (hm : isMap t f) (a : Nat) (ha : a < n) (g : List Int) (hg : hJ t f n a g) (e : Ev (fun k => oJ.f k t f (a : Int)) g) (d : Nat) (hd : d < n) : Ev (fun k => oD.f k t f (a : Int) (d : Int)) (rd g (d : Int)) := by
  have lt := H.2.2.1.1
  unfold oD.f
  refine Ev.bind (CE t f n H hm) ?_
  simp only [if_true, lt, show ¬ (a : Int) < 0 by omega, show ¬ (a : Int) ≥ (n : Int) by omega, show ¬ (d : Int) < 0 by omega, show ¬ (d : Int) ≥ (n : Int) by omega, if_false]
  refine Ev.bind e ?_
  simp only [hg.len, show (0 : Int) ≤ (d : Int) by omega, show (d : Int) < (n : Int) by omega, if_true]
  exact Ev.const rfl
theorem Qz (t f : List Int) (n : Nat) (H : fI t f n) (hm : isMap t f) (a : Nat) (ha : a < n) (g : List Int) (hg : hJ t f n a g) (e : Ev (fun k => oJ.f k t f (a : Int)) g)
    (st : ∀ x : Nat, x < n → rd g (rd f (x : Int)) = rd g (x : Int) + 1 ∨ rd g (rd f (x : Int)) + 1 = rd g (x : Int)) (cs : List Int) (hend : Ev (fun k => cL.l0 k cs true (a : Int) (n : Int) t f) true) :
    ∀ (d i : Nat), n - i = d → i ≤ n → Ev (fun k => cL.l0 k cs true (a : Int) (i : Int) t f) true
  | 0, i, hd, hi => by
    have : i = n := by omega
    rw [this]
    exact hend
  | d + 1, i, hd, hi => by
    obtain ⟨hn, h1, ht, hti, hf, hfl, hcon⟩ := id H
    have hi' : i < n := by omega
    have fi := hf.2 i hi'
    have ih := Qz t f n H hm a ha g hg e st cs hend d (i + 1) (by omega) (by omega)
    have m1 := Oq t f n H hm a ha g hg e i hi'
    have m2 := Oq t f n H hm a ha g hg e (rd f (i : Int)).toNat (by omega)
    rw [show (((rd f (i : Int)).toNat : Nat) : Int) = rd f (i : Int) by omega] at m2
    have gi := hg.rng i hi'
    have s := st i hi'
    refine Ev.s ?_
    simp only [cL.l0, ht.1, hf.1, show (i : Int) < (n : Int) by omega, show (0 : Int) ≤ (i : Int) by omega, if_true]
    refine Ev.bind m1 ?_
    refine Ev.bind m2 ?_
    rw [eM (i := i) (by omega)]
    rcases s with s | s
    · have w : wrap64 (rd g (i : Int) - rd g (rd f (i : Int))) = -1 := by rw [w64 (by omega) (by omega)]; omega
      simp only [w, show ¬ ((-1 : Int) = 1) by decide, if_false, if_true]
      exact ih
    · have w : wrap64 (rd g (i : Int) - rd g (rd f (i : Int))) = 1 := by rw [w64 (by omega) (by omega)]; omega
      simp only [w, if_true]
      exact ih
theorem FnQuad : cL.Pure := by
  intro c m _ _ hc _ _ _
  have yes : Ev (fun k => cL.j0 k c m true) true := Ev.s (by simp only [cL.j0, if_true]; exact Ev.const rfl)
  refine Ev.rounds (r := true) ?_
  unfold cL.f
  by_cases hs : (c.length : Int) > 1048576
  · simp only [hs, if_true]
    exact yes
  simp only [hs, if_false]
  by_cases hs2 : (m.length : Int) > 1048576
  · simp only [hs2, decide_true]
    exact yes
  simp only [hs2, decide_false]
  obtain ⟨c', ho, hb'⟩ := ZM c hc
  obtain ⟨t, f, p1, e1, l1, l2, uh, uF⟩ := Zi c' hb'
  have hd : Ev (fun k => vK.f k c) (t, f) := by
    unfold vK.f
    simp only [ho, Option.bind_some]
    exact Ev.bind e1 (Ev.const rfl)
  obtain ⟨r, r1, r2, r3⟩ := aaV t f (by omega) (by omega)
  refine Ev.s ?_
  simp only [cL.j0, Bool.false_eq_true, if_false]
  refine Ev.bind hd ?_
  refine Ev.bind r2 ?_
  refine Ev.bind r1 ?_
  simp only [bne_self_eq_false, Bool.false_eq_true, if_false]
  refine Ev.s ?_
  cases r with
  | false =>
    simp only [cL.j1, Bool.not_false, if_true, beq_self_eq_true]
    exact Ev.const rfl
  | true =>
    obtain ⟨hm, H, h4, hE⟩ := r3 rfl
    generalize hn : t.length = n at *
    obtain ⟨arK, h1, ht, hti, hf, hfl, hcon⟩ := id H
    have lf := hf.1
    have fc := YO t f n H h4
    simp only [cL.j1, Bool.not_true, Bool.false_eq_true, if_false]
    refine Ev.bind (YF t f n H hm) ?_
    simp only [hn, show ¬ (n : Int) = 0 by omega, if_false]
    obtain ⟨a, ea⟩ : ∃ a : Nat, (m.length : Int) % (n : Int) = (a : Int) := ⟨m.length % n, by omega⟩
    have ha : a < n := by
      have := Int.emod_lt_of_pos (m.length : Int) (show (0 : Int) < (n : Int) by omega)
      omega
    rw [ea]
    obtain ⟨g, hg, e2, e3⟩ := ZX t f n H a ha
    have st := fun x hx => YD t f n H h4 hE a ha g hg x hx
    have hpar : ∀ x : Nat, x < n → ¬ Int.tmod (rd g (x : Int)) 2 = Int.tmod (rd g (rd f (x : Int))) 2 := fun x hx => by
      have gx := hg.rng x hx
      have fx := hf.2 x hx
      have gy := hg.rng (rd f (x : Int)).toNat (by omega)
      rw [show (((rd f (x : Int)).toNat : Nat) : Int) = rd f (x : Int) by omega] at gy
      rw [Int.tmod_eq_emod_of_nonneg gx.1, Int.tmod_eq_emod_of_nonneg gy.1]
      have := st x hx
      omega
    refine Qz t f n H hm a ha g hg e3 st _ ?_ n 0 (by omega) (by omega)
    obtain ⟨l', q1, q2, e4⟩ := Zn t f n H hm h4 a ha g hg e3 hpar
    obtain ⟨N, hN, K, hmT, told, same, cnt, c1, c2, lF, hN6⟩ := Y7 t f n H hm h4 a g hg hpar l' q2 _ _ rfl rfl
    have g1 := XW _ _ N K hmT
    generalize tmA g t l' n = T at *
    generalize tmB g t (aZ f t n) (eN t n n) l' n = F at *
    have z := ZG ((cyS T N N).2.length : Int) ((F.length : Int) / 2) ((cyS (aZ F T N) N N).2.length : Int) (by omega) (by omega) (by omega) (by omega)
    rw [z] at g1
    refine Ev.s ?_
    have L3 : ∀ x y z : Int, ([x, y, z] : List Int).length = 3 := fun _ _ _ => rfl
    have R0 : ∀ x y z : Int, rd [x, y, z] 0 = x := fun _ _ _ => rfl
    have R2 : ∀ x y z : Int, rd [x, y, z] 2 = z := fun _ _ _ => rfl
    have w : ((cyS t n n).2.length : Int) = wrap64 (((cyS (aZ f t n) n n).2.length : Int) + 2) := by rw [w64 (by omega) (by omega)]; omega
    simp only [cL.l0, hn, show ¬ (n : Int) < (n : Int) by omega, if_false]
    refine Ev.bind e4 ?_
    simp only [if_true, L3, R0, R2, show (0 : Int) < ((3 : Nat) : Int) by decide, show (2 : Int) < ((3 : Nat) : Int) by decide, ← w]
    refine Ev.bind g1 ?_
    simp only [beq_self_eq_true]
    exact Ev.const rfl
end Go.Proofs.Ytlpbalebodlipaa.Pure

namespace Go.Proofs.Ytlpbalebodlipaa.fnQuad
open Go.ChangeShapes Go.WideShapes Go.ChangeAt Go.RowKit
open Go.ChangeMaps (open_string shut_string)
set_option linter.unusedVariables false
theorem own : ownKnob Try.prog.godebug = none := by kernel_rfl
theorem laidOut : laidOutB Try.prog = true := by kernel_rfl
def Oc (k : IntKind) (w : World) (a : Option Addr) (len cap : Nat) (zs : List Int) : Prop :=
 (a = none ∧ len = 0 ∧ cap = 0 ∧ zs = []) ∨
 ∃ x, a = some x ∧ len ≤ cap ∧ cap ≤ maxLen ∧ zs.length = cap ∧ (∀ i, i < zs.length → w.cell? (x.add i) = some (.int k (zs.getD i 0))) ∧ ∀ n ∈ zs, (Lit.int k n).wf = true
set_option maxRecDepth 100000 in
theorem lifted (os : Os) (started : os.Started) (H : Type) (enc : TypeId × Value → H) :
  ReturnsInHanded {} Try.checked os 10 .any (Rows.fnQuadSpec.pre6 enc Try.prog Try.f10 Rows.fnQuadRow.domain false) (Rows.fnQuadSpec.post enc Try.prog Try.f10 false true false false) := by
 refine returnsInHanded_of_change_sized (C := Try.checked) own started (by kernel_rfl) Try.func10
  (ChangeSpec.witness6 (enc := enc) (C := Try.checked) false ⟨#[], #[.slice none 0 0, .slice none 0 0], []⟩ 8 (by kernel_rfl) (by kernel_rfl) (by kernel_rfl) (by kernel_rfl)) ?_
 intro W base args ds gs before hval0 hW hcnd hsz0 _
 have hsz : (DataW.weightsEach Try.prog (Try.f10.params.toList ++ Rows.fnQuadSpec.plain.varTypes Try.prog) (ds ++ gs)).all (· ≤ reachBytes) = true := hsz0
 have hval : ∀ (j : Nat) t v, Try.f10.params[j]? = some t → args[j]? = some v → Value.okWide Try.prog W .any base t v := hval0
 have hW' := hW
 obtain ⟨p, q, XR, hV, rfl, hfz, hnd⟩ := hW
 have hA : DataW.TrodAll enc Try.prog W 0 (fun _ => true) true Try.f10.params.toList args.toList ds p := XR
 rw [Try.params10] at hA hval hsz
 obtain ⟨v0, vs0, d0, ds0, p0, q0, hargs, rfl, rfl, h0, r0⟩ := trodAll_cons hA
 obtain ⟨v1, vs1, d1, ds1, p1, q1, rfl, rfl, rfl, h1, r1⟩ := trodAll_cons r0
 obtain ⟨rfl, rfl, rfl⟩ := trodAll_nil r1
 obtain rfl : args = #[v0, v1] := by cases args; simp_all
 obtain ⟨rfl, rfl⟩ := trodVars_none hV
 obtain ⟨a0, vk, cap0, rfl⟩ := okWide_slice Try.underlying22 (hval 0 22 v0 rfl rfl)
 have k0 := h0
 have lt0 : ∀ x ∈ p0, x.block < W.heap.size := by obtain ⟨m, hm⟩ := k0; exact DataW.trod_lt m _ _ _ hm
 obtain ⟨z0, w0⟩ : ∃ zs, Oc .u8 W a0 vk cap0 zs := by
  obtain ⟨fuel, hf⟩ := h0
  rcases open_ints Try.underlying22 Try.underlying5 (by kernel_rfl) hf with ⟨hcs, _⟩ | ⟨x, l, c, zs, hcs, _, hl, hm, hz, _, hcell, hwz⟩
  ·
   simp [Value.cells] at hcs
   obtain ⟨rfl, rfl, rfl⟩ := hcs
   exact ⟨[], .inl ⟨rfl, rfl, rfl, rfl⟩⟩
  ·
   simp [Value.cells] at hcs
   obtain ⟨rfl, rfl, rfl⟩ := hcs
   exact ⟨zs, .inr ⟨_, rfl, hl, hm, by simpa using hz, hcell, hwz⟩⟩
 have y0 : vk * 1 ≤ 140737488351232 := Go.Proofs.YtlpbalebodlipaaW.PrintWords.RV hsz (j := 0) (t := 22) rfl rfl Try.underlying22 Try.underlying5 (by kernel_rfl) (by kernel_rfl) h0
 obtain ⟨a1, vl, vm, rfl⟩ := okWide_slice Try.underlying22 (hval 1 22 v1 rfl rfl)
 have k1 := h1
 have lt1 : ∀ x ∈ p1, x.block < W.heap.size := by obtain ⟨m, hm⟩ := k1; exact DataW.trod_lt m _ _ _ hm
 obtain ⟨z1, w1⟩ : ∃ zs, Oc .u8 W a1 vl vm zs := by
  obtain ⟨fuel, hf⟩ := h1
  rcases open_ints Try.underlying22 Try.underlying5 (by kernel_rfl) hf with ⟨hcs, _⟩ | ⟨x, l, c, zs, hcs, _, hl, hm, hz, _, hcell, hwz⟩
  ·
   simp [Value.cells] at hcs
   obtain ⟨rfl, rfl, rfl⟩ := hcs
   exact ⟨[], .inl ⟨rfl, rfl, rfl, rfl⟩⟩
  ·
   simp [Value.cells] at hcs
   obtain ⟨rfl, rfl, rfl⟩ := hcs
   exact ⟨zs, .inr ⟨_, rfl, hl, hm, by simpa using hz, hcell, hwz⟩⟩
 have y1 : vl * 1 ≤ 140737488351232 := Go.Proofs.YtlpbalebodlipaaW.PrintWords.RV hsz (j := 1) (t := 22) rfl rfl Try.underlying22 Try.underlying5 (by kernel_rfl) (by kernel_rfl) h1
 clear XR hval0 hsz0 hsz
 refine (PL.cL.walk Pure.FnQuad a0 vk cap0 z0 a1 vl vm z1 W w0 y0 w1 y1).mono fun e W' ⟨he, bel⟩ => ?_
 subst he
 exact ⟨_, rfl, _, _, _, [], _, [], hW', trodAll_mk1 (shut_bool Try.underlying4 _), (trodAll_cons_mk (Below.trod laidOut (by kernel_rfl) (of_decide_eq_true (by kernel_rfl)) k0 bel lt0) (trodAll_cons_mk (Below.trod laidOut (by kernel_rfl) (of_decide_eq_true (by kernel_rfl)) k1 bel lt1) trodAll_mk0)), rfl, bel.frame _, fun h => by cases h⟩
theorem over : Rows.fnQuadRow.holds Try.pinned (OpenSpec.ofChange Rows.fnQuadSpec) :=
 OpenClaim.holds_of_wide 10 Try.f10 rfl rfl rfl rfl rfl rfl rfl ⟨rfl, rfl, rfl, rfl, rfl⟩ rfl rfl rfl rfl rfl (by kernel_rfl) Try.func10 (by kernel_rfl)
  (of_decide_eq_true (by kernel_rfl)) (by unfold Func.isWrapper; first | (rw [if_pos (by decide +kernel)]; kernel_rfl) | (rw [if_neg (by decide +kernel)]; exact ⟨rfl, rfl⟩))
  (fun os started H enc _ => lifted os started H enc)
theorem proved : Rows.FnQuadSaid := over
#print axioms proved
end Go.Proofs.Ytlpbalebodlipaa.fnQuad
namespace Go.Proofs.Ytlpbalebodlipaa
theorem fnQuad_holds : Rows.FnQuadSaid := fnQuad.proved
end Go.Proofs.Ytlpbalebodlipaa
