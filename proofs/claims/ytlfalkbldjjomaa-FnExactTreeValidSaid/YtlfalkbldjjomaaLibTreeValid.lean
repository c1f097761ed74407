/- TreeValid of the program and of the reference answer the same, and what a valid tree is. There are no conditions beside sizes. -/
import Derived.Test.YtlfalkbldjjomaaLibTree
import Derived.Test.YtlfalkbldjjomaaPAx2
set_option linter.unusedVariables false
set_option linter.unusedSimpArgs false
namespace Go.Proofs.Ytlfalkbldjjomaa.PA
open Go.RowKit Go.Proofs.YtlfalkbldjjomaaW.PrintWords Go.Proofs.YtlfalkbldjjomaaW.PrintLast Go.Proofs.YtlfalkbldjjomaaW.PrintMore
/-- The walk of the last d letters from a height on: the height at its end and how many '(' there are, or none. -/
def walkT (s : ByteArray) : Nat → Int → Option (Int × Int)
  | 0, g => some (g, 0)
  | d + 1, g => if bt s ((s.size : Int) - (d + 1 : Nat)) = 40 then (walkT s d (g + 1)).map (fun p => (p.1, p.2 + 1)) else if bt s ((s.size : Int) - (d + 1 : Nat)) = 41 then (if g - 1 < 0 then none else walkT s d (g - 1)) else none
theorem walkT_range (s : ByteArray) : ∀ (d : Nat) (g : Int) (p : Int × Int), 0 ≤ g → walkT s d g = some p → 0 ≤ p.1 ∧ 0 ≤ p.2 ∧ p.2 ≤ d ∧ p.1 = g + 2 * p.2 - d
  | 0, g, p, hg, h => by simp only [walkT, Option.some.injEq] at h; subst h; simp; omega
  | d + 1, g, p, hg, h => by
    simp only [walkT] at h
    split at h
    · cases e : walkT s d (g + 1) with
      | none => rw [e] at h; cases h
      | some q =>
        rw [e] at h
        obtain rfl := Option.some.inj h
        have := walkT_range s d (g + 1) q (by omega) e
        simp only
        omega
    · split at h
      · split at h
        · cases h
        · have := walkT_range s d (g - 1) p (by omega) h
          omega
      · cases h
def stepsOk (l : List Int) : Prop := ∀ x ∈ l, -1 ≤ x ∧ x ≤ 1
theorem spec_steps (x3 x4 : Int) (s : ByteArray) (l : List Int) (hl : l.length ≤ 1048576) : ∀ (d i : Nat), l.length - i = d → i ≤ l.length →
    ((∀ j, i ≤ j → j < l.length → -1 ≤ rd l j ∧ rd l j ≤ 1) → Ev (fun k => spec_TreeValid.l1 k x3 x4 i s l) (decide (x3 = 0 ∧ (1 ≤ x4 ∧ x4 ≤ 3) ∧ (l.length : Int) = x4))) ∧
    (¬ (∀ j, i ≤ j → j < l.length → -1 ≤ rd l j ∧ rd l j ≤ 1) → Ev (fun k => spec_TreeValid.l1 k x3 x4 i s l) false)
  | 0, i, hd, hi => by
    refine ⟨fun _ => Ev.s ?_, fun h => absurd (fun j h1 h2 => by omega) h⟩
    simp only [spec_TreeValid.l1, show ¬ (i : Int) < (l.length : Int) by omega, if_false]
    refine Ev.const ?_
    unfold spec_l6In.f
    by_cases h1 : x3 = 0
    · by_cases h2 : x4 ≥ 1
      · by_cases h3 : x4 ≤ 3
        · by_cases h4 : (l.length : Int) = x4 <;> simp [h1, h2, h3, h4] <;> (try omega)
        · simp [h1, h2, h3]
      · simp [h1, h2] <;> (first | done | omega)
    · simp [h1]
  | d + 1, i, hd, hi => by
    have ih := spec_steps x3 x4 s l hl d (i + 1) (by omega) (by omega)
    have hw : wrap64 ((i : Int) + 1) = ((i + 1 : Nat) : Int) := by rw [w64 (by omega) (by omega)]; omega
    by_cases hb : -1 ≤ rd l i ∧ rd l i ≤ 1
    · have hin : spec_l6In.f (rd l i) (-1) 1 = some true := by unfold spec_l6In.f; rw [if_pos hb.1, decide_eq_true hb.2]
      refine ⟨fun h => Ev.s ?_, fun h => Ev.s ?_⟩
      · simp only [spec_TreeValid.l1, show (i : Int) < (l.length : Int) by omega, show (0 : Int) ≤ i by omega, if_true, hin, Option.bind_some, hw]
        exact ih.1 fun j h1 h2 => h j (by omega) h2
      · simp only [spec_TreeValid.l1, show (i : Int) < (l.length : Int) by omega, show (0 : Int) ≤ i by omega, if_true, hin, Option.bind_some, hw]
        refine ih.2 fun h' => h fun j h1 h2 => ?_
        by_cases e : j = i
        · rw [e]; exact hb
        · exact h' j (by omega) h2
    · have hin : spec_l6In.f (rd l i) (-1) 1 = some false := by
        unfold spec_l6In.f
        by_cases h1 : rd l i ≥ -1
        · rw [if_pos h1, decide_eq_false (by omega)]
        · rw [if_neg h1]
      refine ⟨fun h => absurd (h i (Nat.le_refl _) (by omega)) hb, fun h => Ev.s ?_⟩
      simp only [spec_TreeValid.l1, show (i : Int) < (l.length : Int) by omega, show (0 : Int) ≤ i by omega, if_true, hin, Option.bind_some]
      exact Ev.const rfl
theorem spec_walk (s : ByteArray) (hs : s.size ≤ 1048576) (l : List Int) : ∀ (d : Nat) (i g c : Int), 0 ≤ i → (s.size : Int) - i = d → 0 ≤ g → g ≤ i → 0 ≤ c → c ≤ i →
    (∀ p, walkT s d g = some p → ∀ r, Ev (fun k => spec_TreeValid.l1 k p.1 (c + p.2) 0 s l) r → Ev (fun k => spec_TreeValid.l0 k g c i s l) r) ∧ (walkT s d g = none → Ev (fun k => spec_TreeValid.l0 k g c i s l) false)
  | 0, i, g, c, hi, hd, hg, hgi, hc, hci => by
    refine ⟨fun p hp r h => Ev.s ?_, fun h => by simp [walkT] at h⟩
    simp only [spec_TreeValid.l0, show ¬ i < (s.size : Int) by omega, if_false]
    simp only [walkT, Option.some.injEq] at hp
    subst hp
    simpa using h
  | d + 1, i, g, c, hi, hd, hg, hgi, hc, hci => by
    have hj : (s.size : Int) - ((d + 1 : Nat) : Int) = i := by omega
    have w1 : wrap64 (g + 1) = g + 1 := w64 (by omega) (by omega)
    have w2 : wrap64 (g - 1) = g - 1 := w64 (by omega) (by omega)
    have w3 : wrap64 (c + 1) = c + 1 := w64 (by omega) (by omega)
    have w4 : wrap64 (i + 1) = i + 1 := w64 (by omega) (by omega)
    simp only [walkT, hj]
    by_cases b0 : bt s i = 40
    · simp only [b0, if_true]
      have ih := spec_walk s hs l d (i + 1) (g + 1) (c + 1) (by omega) (by omega) (by omega) (by omega) (by omega) (by omega)
      refine ⟨fun p hp r h => Ev.s ?_, fun h => Ev.s ?_⟩
      · simp only [spec_TreeValid.l0, show i < (s.size : Int) by omega, hi, b0, if_true, w1, w3, w4, show ¬ g + 1 < 0 by omega, if_false]
        cases e : walkT s d (g + 1) with
        | none => rw [e] at hp; cases hp
        | some q =>
          rw [e] at hp
          obtain rfl := Option.some.inj hp
          refine ih.1 q e r ?_
          have : c + 1 + q.2 = c + (q.2 + 1) := by omega
          rw [this]
          exact h
      · simp only [spec_TreeValid.l0, show i < (s.size : Int) by omega, hi, b0, if_true, w1, w3, w4, show ¬ g + 1 < 0 by omega, if_false]
        exact ih.2 (by simpa using h)
    · by_cases b1 : bt s i = 41
      · simp only [b1, if_true, show ¬ ((41 : Int) = 40) by decide, if_false]
        by_cases hz : g - 1 < 0
        · refine ⟨fun p hp => by simp [hz] at hp, fun _ => Ev.s ?_⟩
          simp only [spec_TreeValid.l0, show i < (s.size : Int) by omega, hi, b1, if_true, w2, hz, show ¬ ((41 : Int) = 40) by decide, if_false]
          exact Ev.const rfl
        · have ih := spec_walk s hs l d (i + 1) (g - 1) c (by omega) (by omega) (by omega) (by omega) (by omega) (by omega)
          simp only [hz, if_false]
          refine ⟨fun p hp r h => Ev.s ?_, fun h => Ev.s ?_⟩
          · simp only [spec_TreeValid.l0, show i < (s.size : Int) by omega, hi, b1, if_true, w2, w4, hz, show ¬ ((41 : Int) = 40) by decide, if_false]
            exact ih.1 p hp r h
          · simp only [spec_TreeValid.l0, show i < (s.size : Int) by omega, hi, b1, if_true, w2, w4, hz, show ¬ ((41 : Int) = 40) by decide, if_false]
            exact ih.2 h
      · simp only [b0, b1, if_false]
        refine ⟨fun p hp => by simp at hp, fun _ => Ev.s ?_⟩
        simp only [spec_TreeValid.l0, show i < (s.size : Int) by omega, hi, b0, b1, if_true, if_false]
        exact Ev.const rfl
theorem impl_walk (s : ByteArray) (hs : s.size ≤ 1048576) : ∀ (d i : Nat) (g : Int), (s.size : Int) - i = d → 0 ≤ g → g ≤ i →
    (∀ p, walkT s d g = some p → Ev (fun k => impl_TreeValid.l1 k s i g) (p.1 == 0)) ∧ (walkT s d g = none → Ev (fun k => impl_TreeValid.l1 k s i g) false)
  | 0, i, g, hd, hg, hgi => by
    refine ⟨fun p hp => Ev.s ?_, fun h => by simp [walkT] at h⟩
    simp only [impl_TreeValid.l1, show ¬ i < s.size by omega, if_false]
    simp only [walkT, Option.some.injEq] at hp
    subst hp
    exact Ev.const rfl
  | d + 1, i, g, hd, hg, hgi => by
    have hj : (s.size : Int) - ((d + 1 : Nat) : Int) = (i : Int) := by omega
    have w1 : wrap64 (g + 1) = g + 1 := w64 (by omega) (by omega)
    have w2 : wrap64 (g - 1) = g - 1 := w64 (by omega) (by omega)
    simp only [walkT, hj]
    by_cases b0 : bt s i = 40
    · simp only [b0, if_true]
      have ih := impl_walk s hs d (i + 1) (g + 1) (by omega) (by omega) (by omega)
      refine ⟨fun p hp => Ev.s ?_, fun h => Ev.s ?_⟩
      · simp only [impl_TreeValid.l1, show i < s.size by omega, b0, if_true, w1, show ¬ g + 1 < 0 by omega, if_false]
        cases e : walkT s d (g + 1) with
        | none => rw [e] at hp; cases hp
        | some q =>
          rw [e] at hp
          obtain rfl := Option.some.inj hp
          exact ih.1 q e
      · simp only [impl_TreeValid.l1, show i < s.size by omega, b0, if_true, w1, show ¬ g + 1 < 0 by omega, if_false]
        exact ih.2 (by simpa using h)
    · by_cases b1 : bt s i = 41
      · simp only [b1, if_true, show ¬ ((41 : Int) = 40) by decide, if_false]
        by_cases hz : g - 1 < 0
        · refine ⟨fun p hp => by simp [hz] at hp, fun _ => Ev.s ?_⟩
          simp only [impl_TreeValid.l1, show i < s.size by omega, b1, if_true, w2, hz, show ¬ ((41 : Int) = 40) by decide, if_false]
          exact Ev.const rfl
        · have ih := impl_walk s hs d (i + 1) (g - 1) (by omega) (by omega) (by omega)
          simp only [hz, if_false]
          refine ⟨fun p hp => Ev.s ?_, fun h => Ev.s ?_⟩
          · simp only [impl_TreeValid.l1, show i < s.size by omega, b1, if_true, w2, hz, show ¬ ((41 : Int) = 40) by decide, if_false]
            exact ih.1 p hp
          · simp only [impl_TreeValid.l1, show i < s.size by omega, b1, if_true, w2, hz, show ¬ ((41 : Int) = 40) by decide, if_false]
            exact ih.2 h
      · simp only [b0, b1, if_false]
        refine ⟨fun p hp => by simp at hp, fun _ => Ev.s ?_⟩
        simp only [impl_TreeValid.l1, show i < s.size by omega, b0, b1, if_true, if_false]
        exact Ev.const rfl
theorem impl_steps (s : ByteArray) (l : List Int) (hl : l.length ≤ 3) : ∀ (d i : Nat), l.length - i = d → i ≤ l.length →
    ((∀ j, i ≤ j → j < l.length → -1 ≤ rd l j ∧ rd l j ≤ 1) → ∀ r, Ev (fun k => impl_TreeValid.l1 k s 0 0) r → Ev (fun k => impl_TreeValid.l0 k s l i) r) ∧
    (¬ (∀ j, i ≤ j → j < l.length → -1 ≤ rd l j ∧ rd l j ≤ 1) → Ev (fun k => impl_TreeValid.l0 k s l i) false)
  | 0, i, hd, hi => by
    refine ⟨fun _ r h => Ev.s ?_, fun h => absurd (fun j h1 h2 => by omega) h⟩
    simp only [impl_TreeValid.l0, show ¬ (i : Int) < (l.length : Int) by omega, if_false]
    exact h
  | d + 1, i, hd, hi => by
    have ih := impl_steps s l hl d (i + 1) (by omega) (by omega)
    have hw : wrap64 ((i : Int) + 1) = ((i + 1 : Nat) : Int) := by rw [w64 (by omega) (by omega)]; omega
    by_cases hb1 : rd l i < -1
    · refine ⟨fun h => absurd (h i (Nat.le_refl _) (by omega)) (by omega), fun h => Ev.s ?_⟩
      simp only [impl_TreeValid.l0, show (i : Int) < (l.length : Int) by omega, show (0 : Int) ≤ i by omega, hb1, if_true]
      exact Ev.const rfl
    · by_cases hb2 : rd l i > 1
      · refine ⟨fun h => absurd (h i (Nat.le_refl _) (by omega)) (by omega), fun h => Ev.s ?_⟩
        simp only [impl_TreeValid.l0, show (i : Int) < (l.length : Int) by omega, show (0 : Int) ≤ i by omega, hb1, hb2, if_true, if_false]
        exact Ev.const rfl
      · refine ⟨fun h r hr => Ev.s ?_, fun h => Ev.s ?_⟩
        · simp only [impl_TreeValid.l0, show (i : Int) < (l.length : Int) by omega, show (0 : Int) ≤ i by omega, hb1, hb2, if_true, if_false, hw]
          exact ih.1 (fun j h1 h2 => h j (by omega) h2) r hr
        · simp only [impl_TreeValid.l0, show (i : Int) < (l.length : Int) by omega, show (0 : Int) ≤ i by omega, hb1, hb2, if_true, if_false, hw]
          refine ih.2 fun h' => h fun j h1 h2 => ?_
          by_cases e : j = i
          · rw [e]; omega
          · exact h' j (by omega) h2
/-- What a valid tree is. -/
def treeOk (s : ByteArray) (l : List Int) : Prop := 1 ≤ l.length ∧ l.length ≤ 3 ∧ s.size = 2 * l.length ∧ (∀ j : Nat, j < l.length → -1 ≤ rd l j ∧ rd l j ≤ 1) ∧ ∃ c, walkT s s.size 0 = some (0, c)
theorem treeValid_both (s : ByteArray) (hs : s.size ≤ 1048576) (l : List Int) (hl : l.length ≤ 1048576) :
    ∃ b : Bool, Ev (fun k => spec_TreeValid.f k s l) b ∧ Ev (fun k => impl_TreeValid.f k s l) b ∧ (b = true → treeOk s l) := by
  have hsp := spec_walk s hs l s.size 0 0 0 (by omega) (by omega) (by omega) (by omega) (by omega) (by omega)
  have hst := fun x3 x4 => spec_steps x3 x4 s l hl l.length 0 (by omega) (by omega)
  simp only [spec_TreeValid.f, impl_TreeValid.f]
  cases hw : walkT s s.size 0 with
  | none =>
    refine ⟨false, hsp.2 hw, ?_, fun h => by cases h⟩
    by_cases h1 : (l.length : Int) < 1
    · simp only [h1, if_true]; exact Ev.const rfl
    · by_cases h3 : (l.length : Int) > 3
      · simp only [h1, h3, if_true, if_false]; exact Ev.const rfl
      · by_cases h2 : (s.size : Int) = wrap64 (2 * (l.length : Int))
        · simp only [h1, h3, if_false]
          simp only [if_pos h2]
          by_cases hb : ∀ j : Nat, 0 ≤ j → j < l.length → -1 ≤ rd l j ∧ rd l j ≤ 1
          · exact (impl_steps s l (by omega) l.length 0 (by omega) (by omega)).1 hb _ ((impl_walk s hs s.size 0 0 (by omega) (by omega) (by omega)).2 hw)
          · exact (impl_steps s l (by omega) l.length 0 (by omega) (by omega)).2 hb
        · simp only [h1, h3, h2, if_false]
          exact Ev.const rfl
  | some p =>
    have hr := walkT_range s s.size 0 p (by omega) hw
    have hc0 : (0 : Int) + p.2 = p.2 := by omega
    by_cases hb : ∀ j : Nat, 0 ≤ j → j < l.length → -1 ≤ rd l j ∧ rd l j ≤ 1
    · refine ⟨decide (p.1 = 0 ∧ (1 ≤ p.2 ∧ p.2 ≤ 3) ∧ (l.length : Int) = p.2), hsp.1 p hw _ ?_, ?_, fun h => ?_⟩
      · rw [hc0]; exact (hst p.1 p.2).1 hb
      · by_cases h1 : (l.length : Int) < 1
        · simp only [h1, if_true]
          exact Ev.const (by congr 1; symm; rw [decide_eq_false_iff_not]; omega)
        · by_cases h3 : (l.length : Int) > 3
          · simp only [h1, h3, if_true, if_false]
            exact Ev.const (by congr 1; symm; rw [decide_eq_false_iff_not]; omega)
          · have h2w : wrap64 (2 * (l.length : Int)) = 2 * (l.length : Int) := w64 (by omega) (by omega)
            by_cases h2 : (s.size : Int) = 2 * (l.length : Int)
            · simp only [h1, h3, if_false, h2w]
              simp only [if_pos h2]
              have hi := (impl_steps s l (by omega) l.length 0 (by omega) (by omega)).1 hb _ ((impl_walk s hs s.size 0 0 (by omega) (by omega) (by omega)).1 p hw)
              have e : (p.1 == 0) = decide (p.1 = 0 ∧ (1 ≤ p.2 ∧ p.2 ≤ 3) ∧ (l.length : Int) = p.2) := by
                rw [Bool.eq_iff_iff]
                simp only [beq_iff_eq, decide_eq_true_eq]
                omega
              rw [e] at hi
              exact hi
            · simp only [h1, h3, h2, if_false, h2w]
              exact Ev.const (by congr 1; symm; rw [decide_eq_false_iff_not]; omega)
      · have := of_decide_eq_true h
        refine ⟨by omega, by omega, by omega, fun j hj => hb j (by omega) hj, p.2, ?_⟩
        rw [hw]
        congr 1
        exact Prod.ext this.1 rfl
    · refine ⟨false, hsp.1 p hw _ ?_, ?_, fun h => by cases h⟩
      · exact (hst p.1 _).2 hb
      · by_cases h1 : (l.length : Int) < 1
        · simp only [h1, if_true]; exact Ev.const rfl
        · by_cases h3 : (l.length : Int) > 3
          · simp only [h1, h3, if_true, if_false]; exact Ev.const rfl
          · by_cases h2 : (s.size : Int) = wrap64 (2 * (l.length : Int))
            · simp only [h1, h3, if_false]
              simp only [if_pos h2]
              exact (impl_steps s l (by omega) l.length 0 (by omega) (by omega)).2 hb
            · simp only [h1, h3, h2, if_false]
              exact Ev.const rfl
end Go.Proofs.Ytlfalkbldjjomaa.PA
