/- What WordValid of the program and of the reference answer: both hold for just the same texts. There are no conditions beside the texts' length. -/
import Derived.Test.YtlfalkbldjjomaaLibEv
import Derived.Test.YtlfalkbldjjomaaPAx1
set_option linter.unusedVariables false
set_option linter.unusedSimpArgs false
namespace Go.Proofs.Ytlfalkbldjjomaa.PA
open Go.RowKit Go.Proofs.YtlfalkbldjjomaaW.PrintWords Go.Proofs.YtlfalkbldjjomaaW.PrintLast Go.Proofs.YtlfalkbldjjomaaW.PrintMore
def ltr (c : Int) : Int := if 97 ≤ c ∧ c < 102 then c - 97 else if 65 ≤ c ∧ c < 70 then c - 65 else -1
theorem ltr_range (c : Int) : -1 ≤ ltr c ∧ ltr c < 5 := by unfold ltr; split <;> (try split) <;> omega
theorem letterOf_nat : ∀ n : Fin 256, impl_letterOf.f (n.val : Int) = some (ltr n.val) := by decide +kernel
theorem letterOf_bt (s : ByteArray) (i : Int) : impl_letterOf.f (bt s i) = some (ltr (bt s i)) := by
  have h := bt_range s i
  have := letterOf_nat ⟨(bt s i).toNat, by omega⟩
  simpa [show ((bt s i).toNat : Int) = bt s i by omega] using this
theorem l8Letter_nat : ∀ n : Fin 256, spec_l8Letter.f 1 (n.val : Int) = some (ltr n.val) := by decide +kernel
theorem l8Letter_bt (s : ByteArray) (i : Int) : Ev (fun k => spec_l8Letter.f k (bt s i)) (ltr (bt s i)) := by
  have h := bt_range s i
  have := l8Letter_nat ⟨(bt s i).toNat, by omega⟩
  exact Ev.of (spec_l8Letter.mono _) (k := 1) (by simpa [show ((bt s i).toNat : Int) = bt s i by omega] using this)
/-- How many of the last d letters are x. -/
def cnl (s : ByteArray) (x : Int) : Nat → Int
  | 0 => 0
  | d + 1 => (if ltr (bt s ((s.size : Int) - (d + 1 : Nat))) = x then 1 else 0) + cnl s x d
theorem cnl_range (s : ByteArray) (x : Int) : ∀ d, 0 ≤ cnl s x d ∧ cnl s x d ≤ d
  | 0 => by simp [cnl]
  | d + 1 => by have := cnl_range s x d; simp only [cnl]; split <;> omega
def wok (s : ByteArray) (p : Int) : Prop := 0 ≤ ltr (bt s p) ∧ cnl s (ltr (bt s p)) s.size = 2
theorem spec_count (s : ByteArray) (hs : s.size ≤ 1048576) (i : Int) (hi : 0 ≤ i) (hi' : i < s.size) (r : Bool) (C : Int) : ∀ (d : Nat) (j c : Int), 0 ≤ j → (s.size : Int) - j = d → 0 ≤ c → c ≤ j → c + cnl s (ltr (bt s i)) d = C →
    Ev (fun k => if ltr (bt s i) < 0 then (some false) else (if C = 2 then (spec_WordValid.l0 k s (wrap64 (i + 1))) else (some false))) r → Ev (fun k => spec_WordValid.l1 k s i c j) r
  | 0, j, c, hj, hd, hc, hcj, hC, h => by
    refine Ev.s ?_
    simp only [spec_WordValid.l1, show ¬ j < (s.size : Int) by omega, if_false, hi, hi', if_true]
    refine Ev.bind (l8Letter_bt s i) ?_
    simp only [cnl, Int.add_zero] at hC
    rw [hC]
    exact h
  | d + 1, j, c, hj, hd, hc, hcj, hC, h => by
    refine Ev.s ?_
    simp only [spec_WordValid.l1, show j < (s.size : Int) by omega, hj, hi, hi', if_true]
    refine Ev.bind (l8Letter_bt s j) ?_
    refine Ev.bind (l8Letter_bt s i) ?_
    have hj1 : (s.size : Int) - ((d + 1 : Nat) : Int) = j := by omega
    have hcn := cnl_range s (ltr (bt s i)) d
    rw [w64 (x := j + 1) (by omega) (by omega), w64 (x := c + 1) (by omega) (by omega)]
    simp only [cnl, hj1] at hC
    by_cases e : ltr (bt s j) = ltr (bt s i)
    · simp only [e, if_true] at hC ⊢
      exact spec_count s hs i hi hi' r C d (j + 1) (c + 1) (by omega) (by omega) (by omega) (by omega) (by omega) h
    · simp only [e, if_false] at hC ⊢
      exact spec_count s hs i hi hi' r C d (j + 1) c (by omega) (by omega) (by omega) (by omega) (by omega) h
theorem spec_yes (s : ByteArray) (hs : s.size ≤ 1048576) (h : ∀ p : Int, 0 ≤ p → p < s.size → wok s p) : ∀ (d : Nat) (i : Int), 0 ≤ i → (s.size : Int) - i = d → Ev (fun k => spec_WordValid.l0 k s i) (decide ((s.size : Int) > 0))
  | 0, i, hi, hd => by
    refine Ev.s ?_
    simp only [spec_WordValid.l0, show ¬ i < (s.size : Int) by omega, if_false]
    exact Ev.const rfl
  | d + 1, i, hi, hd => by
    refine Ev.s ?_
    simp only [spec_WordValid.l0, show i < (s.size : Int) by omega, if_true]
    obtain ⟨o1, o2⟩ := h i hi (by omega)
    refine spec_count s hs i hi (by omega) _ 2 s.size 0 0 (by omega) (by omega) (by omega) (by omega) (by rw [o2]; rfl) ?_
    simp only [show ¬ ltr (bt s i) < 0 by omega, if_false, if_true]
    rw [w64 (by omega) (by omega)]
    exact spec_yes s hs h d (i + 1) (by omega) (by omega)
theorem spec_no (s : ByteArray) (hs : s.size ≤ 1048576) (q : Int) (hq : q < s.size) (h : ¬ wok s q) : ∀ (d : Nat) (i : Int), 0 ≤ i → i ≤ q → (s.size : Int) - i = d → Ev (fun k => spec_WordValid.l0 k s i) false
  | 0, i, hi, hiq, hd => by omega
  | d + 1, i, hi, hiq, hd => by
    refine Ev.s ?_
    simp only [spec_WordValid.l0, show i < (s.size : Int) by omega, if_true]
    refine spec_count s hs i hi (by omega) _ (cnl s (ltr (bt s i)) s.size) s.size 0 0 (by omega) (by omega) (by omega) (by omega) (by omega) ?_
    by_cases o1 : ltr (bt s i) < 0
    · simp only [o1, if_true]
      exact Ev.const rfl
    · by_cases o2 : cnl s (ltr (bt s i)) s.size = 2
      · simp only [o1, o2, if_false, if_true]
        rw [w64 (by omega) (by omega)]
        have hne : i ≠ q := by rintro rfl; exact h ⟨by omega, o2⟩
        exact spec_no s hs q hq h d (i + 1) (by omega) (by omega) (by omega)
      · simp only [o1, o2, if_false]
        exact Ev.const rfl
theorem impl_run (s : ByteArray) (hs : s.size ≤ 10) (hl : ∀ p : Int, 0 ≤ p → p < s.size → 0 ≤ ltr (bt s p)) (r : Bool) : ∀ (d : Nat) (i a b c e f : Int), 0 ≤ i → (s.size : Int) - i = d → 0 ≤ a → a ≤ i → 0 ≤ b → b ≤ i → 0 ≤ c → c ≤ i → 0 ≤ e → e ≤ i → 0 ≤ f → f ≤ i →
    impl_WordValid.l1 [a + cnl s 0 d, b + cnl s 1 d, c + cnl s 2 d, e + cnl s 3 d, f + cnl s 4 d] 5 = some r → Ev (fun k => impl_WordValid.l0 k s [a, b, c, e, f] i) r
  | 0, i, a, b, c, e, f, hi, hd, _, _, _, _, _, _, _, _, _, _, h => by
    refine Ev.s ?_
    simp only [impl_WordValid.l0, show ¬ i < (s.size : Int) by omega, if_false]
    simp only [cnl, Int.add_zero] at h
    exact Ev.const h
  | d + 1, i, a, b, c, e, f, hi, hd, a1, a2, b1, b2, c1, c2, e1, e2, f1, f2, h => by
    refine Ev.s ?_
    simp only [impl_WordValid.l0, show i < (s.size : Int) by omega, hi, if_true, letterOf_bt, Option.bind_some]
    have hj1 : (s.size : Int) - ((d + 1 : Nat) : Int) = i := by omega
    have hr := ltr_range (bt s i)
    have h0 := hl i hi (by omega)
    simp only [cnl, hj1] at h
    generalize ltr (bt s i) = t at h hr h0
    simp only [show ¬ t < 0 by omega, hr.2, if_false, if_true]
    rw [w64 (x := i + 1) (by omega) (by omega)]
    have hc : t = 0 ∨ t = 1 ∨ t = 2 ∨ t = 3 ∨ t = 4 := by omega
    rcases hc with rfl | rfl | rfl | rfl | rfl
    · have e1' : ([a, b, c, e, f].set (Int.toNat 0) (wrap64 (rd [a, b, c, e, f] 0 + 1))) = [a + 1, b, c, e, f] := by rw [show rd [a, b, c, e, f] 0 = a from rfl, w64 (by omega) (by omega)]; rfl
      rw [e1']
      exact impl_run s hs hl r d (i + 1) _ _ _ _ _ (by omega) (by omega) (by omega) (by omega) (by omega) (by omega) (by omega) (by omega) (by omega) (by omega) (by omega) (by omega) (by simpa [Int.add_assoc] using h)
    · have e1' : ([a, b, c, e, f].set (Int.toNat 1) (wrap64 (rd [a, b, c, e, f] 1 + 1))) = [a, b + 1, c, e, f] := by rw [show rd [a, b, c, e, f] 1 = b from rfl, w64 (by omega) (by omega)]; rfl
      rw [e1']
      exact impl_run s hs hl r d (i + 1) _ _ _ _ _ (by omega) (by omega) (by omega) (by omega) (by omega) (by omega) (by omega) (by omega) (by omega) (by omega) (by omega) (by omega) (by simpa [Int.add_assoc] using h)
    · have e1' : ([a, b, c, e, f].set (Int.toNat 2) (wrap64 (rd [a, b, c, e, f] 2 + 1))) = [a, b, c + 1, e, f] := by rw [show rd [a, b, c, e, f] 2 = c from rfl, w64 (by omega) (by omega)]; rfl
      rw [e1']
      exact impl_run s hs hl r d (i + 1) _ _ _ _ _ (by omega) (by omega) (by omega) (by omega) (by omega) (by omega) (by omega) (by omega) (by omega) (by omega) (by omega) (by omega) (by simpa [Int.add_assoc] using h)
    · have e1' : ([a, b, c, e, f].set (Int.toNat 3) (wrap64 (rd [a, b, c, e, f] 3 + 1))) = [a, b, c, e + 1, f] := by rw [show rd [a, b, c, e, f] 3 = e from rfl, w64 (by omega) (by omega)]; rfl
      rw [e1']
      exact impl_run s hs hl r d (i + 1) _ _ _ _ _ (by omega) (by omega) (by omega) (by omega) (by omega) (by omega) (by omega) (by omega) (by omega) (by omega) (by omega) (by omega) (by simpa [Int.add_assoc] using h)
    · have e1' : ([a, b, c, e, f].set (Int.toNat 4) (wrap64 (rd [a, b, c, e, f] 4 + 1))) = [a, b, c, e, f + 1] := by rw [show rd [a, b, c, e, f] 4 = f from rfl, w64 (by omega) (by omega)]; rfl
      rw [e1']
      exact impl_run s hs hl r d (i + 1) _ _ _ _ _ (by omega) (by omega) (by omega) (by omega) (by omega) (by omega) (by omega) (by omega) (by omega) (by omega) (by omega) (by omega) (by simpa [Int.add_assoc] using h)
theorem impl_bad (s : ByteArray) (hs : s.size ≤ 10) (q : Int) (hq : q < s.size) (hb : ltr (bt s q) < 0) : ∀ (d : Nat) (i : Int) (m : List Int), 0 ≤ i → i ≤ q → (s.size : Int) - i = d → Ev (fun k => impl_WordValid.l0 k s m i) false
  | 0, i, m, hi, hiq, hd => by omega
  | d + 1, i, m, hi, hiq, hd => by
    refine Ev.s ?_
    simp only [impl_WordValid.l0, show i < (s.size : Int) by omega, hi, if_true, letterOf_bt, Option.bind_some]
    have hr := ltr_range (bt s i)
    by_cases h0 : ltr (bt s i) < 0
    · simp only [h0, if_true]
      exact Ev.const rfl
    · simp only [h0, hr.2, if_false, if_true]
      rw [w64 (x := i + 1) (by omega) (by omega)]
      have hne : i ≠ q := by rintro rfl; exact h0 hb
      exact impl_bad s hs q hq hb d (i + 1) _ (by omega) (by omega) (by omega)
theorem impl_l1_five (a b c e f : Int) : impl_WordValid.l1 [a, b, c, e, f] 5 = some (decide ((a = 0 ∨ a = 2) ∧ (b = 0 ∨ b = 2) ∧ (c = 0 ∨ c = 2) ∧ (e = 0 ∨ e = 2) ∧ (f = 0 ∨ f = 2))) := by
  have r0 : rd [a, b, c, e, f] (4 - ((4 : Nat) : Int)) = a := rfl
  have r1 : rd [a, b, c, e, f] (4 - ((3 : Nat) : Int)) = b := rfl
  have r2 : rd [a, b, c, e, f] (4 - ((2 : Nat) : Int)) = c := rfl
  have r3 : rd [a, b, c, e, f] (4 - ((1 : Nat) : Int)) = e := rfl
  have r4 : rd [a, b, c, e, f] (4 - ((0 : Nat) : Int)) = f := rfl
  simp only [impl_WordValid.l1, r0, r1, r2, r3, r4]
  by_cases a0 : a = 0 <;> by_cases a2 : a = 2 <;> by_cases b0 : b = 0 <;> by_cases b2 : b = 2 <;> by_cases c0 : c = 0 <;> by_cases c2 : c = 2 <;> by_cases e0 : e = 0 <;> by_cases e2 : e = 2 <;> by_cases f0 : f = 0 <;> by_cases f2 : f = 2 <;> simp [*]
theorem cnl_sum (s : ByteArray) (hl : ∀ p : Int, 0 ≤ p → p < s.size → 0 ≤ ltr (bt s p)) : ∀ d : Nat, d ≤ s.size → cnl s 0 d + cnl s 1 d + cnl s 2 d + cnl s 3 d + cnl s 4 d = d
  | 0, _ => by simp [cnl]
  | d + 1, h => by
    have ih := cnl_sum s hl d (by omega)
    have h0 := hl ((s.size : Int) - ((d + 1 : Nat) : Int)) (by omega) (by omega)
    have hr := ltr_range (bt s ((s.size : Int) - ((d + 1 : Nat) : Int)))
    simp only [cnl]
    generalize ltr (bt s ((s.size : Int) - ((d + 1 : Nat) : Int))) = t at *
    have hc : t = 0 ∨ t = 1 ∨ t = 2 ∨ t = 3 ∨ t = 4 := by omega
    rcases hc with rfl | rfl | rfl | rfl | rfl <;> simp <;> omega
theorem cnl_pos (s : ByteArray) (q : Int) (hq0 : 0 ≤ q) : ∀ d : Nat, (s.size : Int) - d ≤ q → q < s.size → 1 ≤ cnl s (ltr (bt s q)) d
  | 0, h, h' => by omega
  | d + 1, h, h' => by
    have hr := cnl_range s (ltr (bt s q)) d
    simp only [cnl]
    by_cases e : (s.size : Int) - ((d + 1 : Nat) : Int) = q
    · rw [e]; simp; omega
    · have := cnl_pos s q hq0 d (by omega) h'
      split <;> omega
theorem cnl_none (s : ByteArray) (x : Int) : ∀ d : Nat, d ≤ s.size → (∀ q : Int, 0 ≤ q → q < s.size → ltr (bt s q) ≠ x) → cnl s x d = 0
  | 0, _, _ => rfl
  | d + 1, h, hx => by
    have ih := cnl_none s x d (by omega) hx
    simp only [cnl, hx ((s.size : Int) - ((d + 1 : Nat) : Int)) (by omega) (by omega), if_false, ih]
    rfl
theorem wordValid_both (s : ByteArray) (hs : s.size ≤ 1048576) : ∃ b : Bool, Ev (fun k => spec_WordValid.f k s) b ∧ Ev (fun k => impl_WordValid.f k s) b ∧ (b = true → s.size ≤ 10 ∧ 2 ≤ s.size ∧ ∀ p : Int, 0 ≤ p → p < s.size → 0 ≤ ltr (bt s p)) := by
  unfold spec_WordValid.f impl_WordValid.f
  by_cases hq : ∃ q : Int, 0 ≤ q ∧ q < s.size ∧ ¬ wok s q
  · obtain ⟨q, q0, q1, qn⟩ := hq
    refine ⟨false, spec_no s hs q q1 qn s.size 0 (by omega) (by omega) (by omega), ?_, fun h => by cases h⟩
    by_cases h2 : (s.size : Int) < 2
    · simp only [h2, if_true]; exact Ev.const rfl
    · by_cases h10 : (s.size : Int) > 10
      · simp only [h2, h10, if_false, if_true]; exact Ev.const rfl
      · simp only [h2, h10, if_false]
        by_cases hl : ∃ p : Int, 0 ≤ p ∧ p < s.size ∧ ltr (bt s p) < 0
        · obtain ⟨p, p0, p1, pn⟩ := hl
          exact impl_bad s (by omega) p p1 pn s.size 0 _ (by omega) (by omega) (by omega)
        · have hl' : ∀ p : Int, 0 ≤ p → p < s.size → 0 ≤ ltr (bt s p) := fun p p0 p1 => by
            by_cases hn : ltr (bt s p) < 0
            · exact absurd ⟨p, p0, p1, hn⟩ hl
            · omega
          refine impl_run s (by omega) hl' false s.size 0 0 0 0 0 0 (by omega) (by omega) (by omega) (by omega) (by omega) (by omega) (by omega) (by omega) (by omega) (by omega) (by omega) (by omega) ?_
          rw [impl_l1_five]
          have hp := cnl_pos s q q0 s.size (by omega) q1
          have hn2 : cnl s (ltr (bt s q)) s.size ≠ 2 := fun e => qn ⟨hl' q q0 q1, e⟩
          have hr := ltr_range (bt s q)
          have h0 := hl' q q0 q1
          generalize ltr (bt s q) = t at *
          have hc : t = 0 ∨ t = 1 ∨ t = 2 ∨ t = 3 ∨ t = 4 := by omega
          congr 1
          rw [decide_eq_false_iff_not]
          rcases hc with rfl | rfl | rfl | rfl | rfl <;> omega
  · have hw : ∀ p : Int, 0 ≤ p → p < s.size → wok s p := fun p p0 p1 => Classical.byContradiction fun hn => hq ⟨p, p0, p1, hn⟩
    have hl' : ∀ p : Int, 0 ≤ p → p < s.size → 0 ≤ ltr (bt s p) := fun p p0 p1 => (hw p p0 p1).1
    have h02 : ∀ x : Int, cnl s x s.size = 0 ∨ cnl s x s.size = 2 := fun x => by
      by_cases hx : ∃ q : Int, 0 ≤ q ∧ q < s.size ∧ ltr (bt s q) = x
      · obtain ⟨q, q0, q1, rfl⟩ := hx
        exact .inr (hw q q0 q1).2
      · exact .inl (cnl_none s x s.size (Nat.le_refl _) fun q q0 q1 e => hx ⟨q, q0, q1, e⟩)
    have hsum := cnl_sum s hl' s.size (Nat.le_refl _)
    have g0 := h02 0; have g1 := h02 1; have g2 := h02 2; have g3 := h02 3; have g4 := h02 4
    refine ⟨decide ((s.size : Int) > 0), spec_yes s hs hw s.size 0 (by omega) (by omega), ?_, fun h => ?_⟩
    · by_cases h2 : (s.size : Int) < 2
      · simp only [h2, if_true]; exact Ev.const (by congr 1; symm; rw [decide_eq_false_iff_not]; omega)
      · simp only [h2, show ¬ (s.size : Int) > 10 by omega, if_false]
        refine impl_run s (by omega) hl' _ s.size 0 0 0 0 0 0 (by omega) (by omega) (by omega) (by omega) (by omega) (by omega) (by omega) (by omega) (by omega) (by omega) (by omega) (by omega) ?_
        rw [impl_l1_five]
        congr 1
        rw [decide_eq_true (show (s.size : Int) > 0 by omega), decide_eq_true]
        omega
    · have := of_decide_eq_true h
      exact ⟨by omega, by omega, hl'⟩
end Go.Proofs.Ytlfalkbldjjomaa.PA
