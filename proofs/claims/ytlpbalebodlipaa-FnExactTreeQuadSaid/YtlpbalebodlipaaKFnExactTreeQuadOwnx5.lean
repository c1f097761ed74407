/- For every tree, TreeQuad of the program answers what TreeQuad of the reference answers, leaves the tree as it was, and hands back memory of its own. There are no conditions. -/
import Derived.Test.YtlpbalebodlipaaKFnExactTreeQuadOwnx4
set_option linter.unusedVariables false
set_option linter.unusedSimpArgs false
namespace Go.Proofs.Ytlpbalebodlipaa.PG
open Go.RowKit Go.Proofs.YtlpbalebodlipaaW.PrintWords Go.Proofs.YtlpbalebodlipaaW.PrintLast Go.Proofs.YtlpbalebodlipaaW.PrintMore
def walkT (s : ByteArray) : Nat → Int → Option (Int × Int)
  | 0, g => some (g, 0)
  | d + 1, g => if bt s ((s.size : Int) - (d + 1 : Nat)) = 40 then (walkT s d (g + 1)).map (fun p => (p.1, p.2 + 1)) else if bt s ((s.size : Int) - (d + 1 : Nat)) = 41 then (if g - 1 < 0 then none else walkT s d (g - 1)) else none
theorem walkT_range (s : ByteArray) : ∀ (d : Nat) (g : Int) (p : Int × Int), 0 ≤ g → walkT s d g = some p → 0 ≤ p.1 ∧ 0 ≤ p.2 ∧ p.2 ≤ d ∧ p.1 = g + 2 * p.2 - d
  | 0, g, p, hg, h => by simp only [walkT, Option.some.injEq] at h; subst h; simp; omega
  | d + 1, g, p, hg, h => by
    simp only [walkT] at h
    split at h
    · cases e : walkT s d (g + 1) with
      | none => rw [e] at h; cases h
      | some q =>
        rw [e] at h
        obtain rfl := Option.some.inj h
        have := walkT_range s d (g + 1) q (by omega) e
        simp only
        omega
    · split at h
      · split at h
        · cases h
        · have := walkT_range s d (g - 1) p (by omega) h
          omega
      · cases h
theorem spec_steps (x3 x4 : Int) (s : ByteArray) (l : List Int) (hl : l.length ≤ 1048576) : ∀ (d i : Nat), l.length - i = d → i ≤ l.length →
    ((∀ j, i ≤ j → j < l.length → -1 ≤ rd l j ∧ rd l j ≤ 1) → Ev (fun k => spec_TreeValid.l1 k x3 x4 i s l) (decide (x3 = 0 ∧ (1 ≤ x4 ∧ x4 ≤ 3) ∧ (l.length : Int) = x4))) ∧
    (¬ (∀ j, i ≤ j → j < l.length → -1 ≤ rd l j ∧ rd l j ≤ 1) → Ev (fun k => spec_TreeValid.l1 k x3 x4 i s l) false)
  | 0, i, hd, hi => by
    refine ⟨fun _ => Ev.s ?_, fun h => absurd (fun j h1 h2 => by omega) h⟩
    simp only [spec_TreeValid.l1, show ¬ (i : Int) < (l.length : Int) by omega, if_false]
    refine Ev.const ?_
    unfold spec_l6In.f
    by_cases h1 : x3 = 0
    · by_cases h2 : x4 ≥ 1
      · by_cases h3 : x4 ≤ 3
        · by_cases h4 : (l.length : Int) = x4 <;> simp [h1, h2, h3, h4] <;> (try omega)
        · simp [h1, h2, h3]
      · simp [h1, h2] <;> (first | done | omega)
    · simp [h1]
  | d + 1, i, hd, hi => by
    have ih := spec_steps x3 x4 s l hl d (i + 1) (by omega) (by omega)
    have hw : wrap64 ((i : Int) + 1) = ((i + 1 : Nat) : Int) := by rw [w64 (by omega) (by omega)]; omega
    by_cases hb : -1 ≤ rd l i ∧ rd l i ≤ 1
    · have hin : spec_l6In.f (rd l i) (-1) 1 = some true := by unfold spec_l6In.f; rw [if_pos hb.1, decide_eq_true hb.2]
      refine ⟨fun h => Ev.s ?_, fun h => Ev.s ?_⟩
      · simp only [spec_TreeValid.l1, show (i : Int) < (l.length : Int) by omega, show (0 : Int) ≤ i by omega, if_true, hin, Option.bind_some, hw]
        exact ih.1 fun j h1 h2 => h j (by omega) h2
      · simp only [spec_TreeValid.l1, show (i : Int) < (l.length : Int) by omega, show (0 : Int) ≤ i by omega, if_true, hin, Option.bind_some, hw]
        refine ih.2 fun h' => h fun j h1 h2 => ?_
        by_cases e : j = i
        · rw [e]; exact hb
        · exact h' j (by omega) h2
    · have hin : spec_l6In.f (rd l i) (-1) 1 = some false := by
        unfold spec_l6In.f
        by_cases h1 : rd l i ≥ -1
        · rw [if_pos h1, decide_eq_false (by omega)]
        · rw [if_neg h1]
      refine ⟨fun h => absurd (h i (Nat.le_refl _) (by omega)) hb, fun h => Ev.s ?_⟩
      simp only [spec_TreeValid.l1, show (i : Int) < (l.length : Int) by omega, show (0 : Int) ≤ i by omega, if_true, hin, Option.bind_some]
      exact Ev.const rfl
theorem spec_walk (s : ByteArray) (hs : s.size ≤ 1048576) (l : List Int) : ∀ (d : Nat) (i g c : Int), 0 ≤ i → (s.size : Int) - i = d → 0 ≤ g → g ≤ i → 0 ≤ c → c ≤ i →
    (∀ p, walkT s d g = some p → ∀ r, Ev (fun k => spec_TreeValid.l1 k p.1 (c + p.2) 0 s l) r → Ev (fun k => spec_TreeValid.l0 k g c i s l) r) ∧ (walkT s d g = none → Ev (fun k => spec_TreeValid.l0 k g c i s l) false)
  | 0, i, g, c, hi, hd, hg, hgi, hc, hci => by
    refine ⟨fun p hp r h => Ev.s ?_, fun h => by simp [walkT] at h⟩
    simp only [spec_TreeValid.l0, show ¬ i < (s.size : Int) by omega, if_false]
    simp only [walkT, Option.some.injEq] at hp
    subst hp
    simpa using h
  | d + 1, i, g, c, hi, hd, hg, hgi, hc, hci => by
    have hj : (s.size : Int) - ((d + 1 : Nat) : Int) = i := by omega
    have w1 : wrap64 (g + 1) = g + 1 := w64 (by omega) (by omega)
    have w2 : wrap64 (g - 1) = g - 1 := w64 (by omega) (by omega)
    have w3 : wrap64 (c + 1) = c + 1 := w64 (by omega) (by omega)
    have w4 : wrap64 (i + 1) = i + 1 := w64 (by omega) (by omega)
    simp only [walkT, hj]
    by_cases b0 : bt s i = 40
    · simp only [b0, if_true]
      have ih := spec_walk s hs l d (i + 1) (g + 1) (c + 1) (by omega) (by omega) (by omega) (by omega) (by omega) (by omega)
      refine ⟨fun p hp r h => Ev.s ?_, fun h => Ev.s ?_⟩
      · simp only [spec_TreeValid.l0, show i < (s.size : Int) by omega, hi, b0, if_true, w1, w3, w4, show ¬ g + 1 < 0 by omega, if_false]
        cases e : walkT s d (g + 1) with
        | none => rw [e] at hp; cases hp
        | some q =>
          rw [e] at hp
          obtain rfl := Option.some.inj hp
          refine ih.1 q e r ?_
          have : c + 1 + q.2 = c + (q.2 + 1) := by omega
          rw [this]
          exact h
      · simp only [spec_TreeValid.l0, show i < (s.size : Int) by omega, hi, b0, if_true, w1, w3, w4, show ¬ g + 1 < 0 by omega, if_false]
        exact ih.2 (by simpa using h)
    · by_cases b1 : bt s i = 41
      · simp only [b1, if_true, show ¬ ((41 : Int) = 40) by decide, if_false]
        by_cases hz : g - 1 < 0
        · refine ⟨fun p hp => by simp [hz] at hp, fun _ => Ev.s ?_⟩
          simp only [spec_TreeValid.l0, show i < (s.size : Int) by omega, hi, b1, if_true, w2, hz, show ¬ ((41 : Int) = 40) by decide, if_false]
          exact Ev.const rfl
        · have ih := spec_walk s hs l d (i + 1) (g - 1) c (by omega) (by omega) (by omega) (by omega) (by omega) (by omega)
          simp only [hz, if_false]
          refine ⟨fun p hp r h => Ev.s ?_, fun h => Ev.s ?_⟩
          · simp only [spec_TreeValid.l0, show i < (s.size : Int) by omega, hi, b1, if_true, w2, w4, hz, show ¬ ((41 : Int) = 40) by decide, if_false]
            exact ih.1 p hp r h
          · simp only [spec_TreeValid.l0, show i < (s.size : Int) by omega, hi, b1, if_true, w2, w4, hz, show ¬ ((41 : Int) = 40) by decide, if_false]
            exact ih.2 h
      · simp only [b0, b1, if_false]
        refine ⟨fun p hp => by simp at hp, fun _ => Ev.s ?_⟩
        simp only [spec_TreeValid.l0, show i < (s.size : Int) by omega, hi, b0, b1, if_true, if_false]
        exact Ev.const rfl
theorem impl_walk (s : ByteArray) (hs : s.size ≤ 1048576) : ∀ (d i : Nat) (g : Int), (s.size : Int) - i = d → 0 ≤ g → g ≤ i →
    (∀ p, walkT s d g = some p → Ev (fun k => impl_TreeValid.l1 k s i g) (p.1 == 0)) ∧ (walkT s d g = none → Ev (fun k => impl_TreeValid.l1 k s i g) false)
  | 0, i, g, hd, hg, hgi => by
    refine ⟨fun p hp => Ev.s ?_, fun h => by simp [walkT] at h⟩
    simp only [impl_TreeValid.l1, show ¬ i < s.size by omega, if_false]
    simp only [walkT, Option.some.injEq] at hp
    subst hp
    exact Ev.const rfl
  | d + 1, i, g, hd, hg, hgi => by
    have hj : (s.size : Int) - ((d + 1 : Nat) : Int) = (i : Int) := by omega
    have w1 : wrap64 (g + 1) = g + 1 := w64 (by omega) (by omega)
    have w2 : wrap64 (g - 1) = g - 1 := w64 (by omega) (by omega)
    simp only [walkT, hj]
    by_cases b0 : bt s i = 40
    · simp only [b0, if_true]
      have ih := impl_walk s hs d (i + 1) (g + 1) (by omega) (by omega) (by omega)
      refine ⟨fun p hp => Ev.s ?_, fun h => Ev.s ?_⟩
      · simp only [impl_TreeValid.l1, show i < s.size by omega, b0, if_true, w1, show ¬ g + 1 < 0 by omega, if_false]
        cases e : walkT s d (g + 1) with
        | none => rw [e] at hp; cases hp
        | some q =>
          rw [e] at hp
          obtain rfl := Option.some.inj hp
          exact ih.1 q e
      · simp only [impl_TreeValid.l1, show i < s.size by omega, b0, if_true, w1, show ¬ g + 1 < 0 by omega, if_false]
        exact ih.2 (by simpa using h)
    · by_cases b1 : bt s i = 41
      · simp only [b1, if_true, show ¬ ((41 : Int) = 40) by decide, if_false]
        by_cases hz : g - 1 < 0
        · refine ⟨fun p hp => by simp [hz] at hp, fun _ => Ev.s ?_⟩
          simp only [impl_TreeValid.l1, show i < s.size by omega, b1, if_true, w2, hz, show ¬ ((41 : Int) = 40) by decide, if_false]
          exact Ev.const rfl
        · have ih := impl_walk s hs d (i + 1) (g - 1) (by omega) (by omega) (by omega)
          simp only [hz, if_false]
          refine ⟨fun p hp => Ev.s ?_, fun h => Ev.s ?_⟩
          · simp only [impl_TreeValid.l1, show i < s.size by omega, b1, if_true, w2, hz, show ¬ ((41 : Int) = 40) by decide, if_false]
            exact ih.1 p hp
          · simp only [impl_TreeValid.l1, show i < s.size by omega, b1, if_true, w2, hz, show ¬ ((41 : Int) = 40) by decide, if_false]
            exact ih.2 h
      · simp only [b0, b1, if_false]
        refine ⟨fun p hp => by simp at hp, fun _ => Ev.s ?_⟩
        simp only [impl_TreeValid.l1, show i < s.size by omega, b0, b1, if_true, if_false]
        exact Ev.const rfl
theorem impl_steps (s : ByteArray) (l : List Int) (hl : l.length ≤ 3) : ∀ (d i : Nat), l.length - i = d → i ≤ l.length →
    ((∀ j, i ≤ j → j < l.length → -1 ≤ rd l j ∧ rd l j ≤ 1) → ∀ r, Ev (fun k => impl_TreeValid.l1 k s 0 0) r → Ev (fun k => impl_TreeValid.l0 k s l i) r) ∧
    (¬ (∀ j, i ≤ j → j < l.length → -1 ≤ rd l j ∧ rd l j ≤ 1) → Ev (fun k => impl_TreeValid.l0 k s l i) false)
  | 0, i, hd, hi => by
    refine ⟨fun _ r h => Ev.s ?_, fun h => absurd (fun j h1 h2 => by omega) h⟩
    simp only [impl_TreeValid.l0, show ¬ (i : Int) < (l.length : Int) by omega, if_false]
    exact h
  | d + 1, i, hd, hi => by
    have ih := impl_steps s l hl d (i + 1) (by omega) (by omega)
    have hw : wrap64 ((i : Int) + 1) = ((i + 1 : Nat) : Int) := by rw [w64 (by omega) (by omega)]; omega
    by_cases hb1 : rd l i < -1
    · refine ⟨fun h => absurd (h i (Nat.le_refl _) (by omega)) (by omega), fun h => Ev.s ?_⟩
      simp only [impl_TreeValid.l0, show (i : Int) < (l.length : Int) by omega, show (0 : Int) ≤ i by omega, hb1, if_true]
      exact Ev.const rfl
    · by_cases hb2 : rd l i > 1
      · refine ⟨fun h => absurd (h i (Nat.le_refl _) (by omega)) (by omega), fun h => Ev.s ?_⟩
        simp only [impl_TreeValid.l0, show (i : Int) < (l.length : Int) by omega, show (0 : Int) ≤ i by omega, hb1, hb2, if_true, if_false]
        exact Ev.const rfl
      · refine ⟨fun h r hr => Ev.s ?_, fun h => Ev.s ?_⟩
        · simp only [impl_TreeValid.l0, show (i : Int) < (l.length : Int) by omega, show (0 : Int) ≤ i by omega, hb1, hb2, if_true, if_false, hw]
          exact ih.1 (fun j h1 h2 => h j (by omega) h2) r hr
        · simp only [impl_TreeValid.l0, show (i : Int) < (l.length : Int) by omega, show (0 : Int) ≤ i by omega, hb1, hb2, if_true, if_false, hw]
          refine ih.2 fun h' => h fun j h1 h2 => ?_
          by_cases e : j = i
          · rw [e]; omega
          · exact h' j (by omega) h2
def treeOk (s : ByteArray) (l : List Int) : Prop := 1 ≤ l.length ∧ l.length ≤ 3 ∧ s.size = 2 * l.length ∧ (∀ j : Nat, j < l.length → -1 ≤ rd l j ∧ rd l j ≤ 1) ∧ ∃ c, walkT s s.size 0 = some (0, c)
theorem treeValid_both (s : ByteArray) (hs : s.size ≤ 1048576) (l : List Int) (hl : l.length ≤ 1048576) :
    ∃ b : Bool, Ev (fun k => spec_TreeValid.f k s l) b ∧ Ev (fun k => impl_TreeValid.f k s l) b ∧ (b = true → treeOk s l) := by
  have hsp := spec_walk s hs l s.size 0 0 0 (by omega) (by omega) (by omega) (by omega) (by omega) (by omega)
  have hst := fun x3 x4 => spec_steps x3 x4 s l hl l.length 0 (by omega) (by omega)
  simp only [spec_TreeValid.f, impl_TreeValid.f]
  cases hw : walkT s s.size 0 with
  | none =>
    refine ⟨false, hsp.2 hw, ?_, fun h => by cases h⟩
    by_cases h1 : (l.length : Int) < 1
    · simp only [h1, if_true]; exact Ev.const rfl
    · by_cases h3 : (l.length : Int) > 3
      · simp only [h1, h3, if_true, if_false]; exact Ev.const rfl
      · by_cases h2 : (s.size : Int) = wrap64 (2 * (l.length : Int))
        · simp only [h1, h3, if_false]
          simp only [if_pos h2]
          by_cases hb : ∀ j : Nat, 0 ≤ j → j < l.length → -1 ≤ rd l j ∧ rd l j ≤ 1
          · exact (impl_steps s l (by omega) l.length 0 (by omega) (by omega)).1 hb _ ((impl_walk s hs s.size 0 0 (by omega) (by omega) (by omega)).2 hw)
          · exact (impl_steps s l (by omega) l.length 0 (by omega) (by omega)).2 hb
        · simp only [h1, h3, h2, if_false]
          exact Ev.const rfl
  | some p =>
    have hr := walkT_range s s.size 0 p (by omega) hw
    have hc0 : (0 : Int) + p.2 = p.2 := by omega
    by_cases hb : ∀ j : Nat, 0 ≤ j → j < l.length → -1 ≤ rd l j ∧ rd l j ≤ 1
    · refine ⟨decide (p.1 = 0 ∧ (1 ≤ p.2 ∧ p.2 ≤ 3) ∧ (l.length : Int) = p.2), hsp.1 p hw _ ?_, ?_, fun h => ?_⟩
      · rw [hc0]; exact (hst p.1 p.2).1 hb
      · by_cases h1 : (l.length : Int) < 1
        · simp only [h1, if_true]
          exact Ev.const (by congr 1; symm; rw [decide_eq_false_iff_not]; omega)
        · by_cases h3 : (l.length : Int) > 3
          · simp only [h1, h3, if_true, if_false]
            exact Ev.const (by congr 1; symm; rw [decide_eq_false_iff_not]; omega)
          · have h2w : wrap64 (2 * (l.length : Int)) = 2 * (l.length : Int) := w64 (by omega) (by omega)
            by_cases h2 : (s.size : Int) = 2 * (l.length : Int)
            · simp only [h1, h3, if_false, h2w]
              simp only [if_pos h2]
              have hi := (impl_steps s l (by omega) l.length 0 (by omega) (by omega)).1 hb _ ((impl_walk s hs s.size 0 0 (by omega) (by omega) (by omega)).1 p hw)
              have e : (p.1 == 0) = decide (p.1 = 0 ∧ (1 ≤ p.2 ∧ p.2 ≤ 3) ∧ (l.length : Int) = p.2) := by
                rw [Bool.eq_iff_iff]
                simp only [beq_iff_eq, decide_eq_true_eq]
                omega
              rw [e] at hi
              exact hi
            · simp only [h1, h3, h2, if_false, h2w]
              exact Ev.const (by congr 1; symm; rw [decide_eq_false_iff_not]; omega)
      · have := of_decide_eq_true h
        refine ⟨by omega, by omega, by omega, fun j hj => hb j (by omega) hj, p.2, ?_⟩
        rw [hw]
        congr 1
        exact Prod.ext this.1 rfl
    · refine ⟨false, hsp.1 p hw _ ?_, ?_, fun h => by cases h⟩
      · exact (hst p.1 _).2 hb
      · by_cases h1 : (l.length : Int) < 1
        · simp only [h1, if_true]; exact Ev.const rfl
        · by_cases h3 : (l.length : Int) > 3
          · simp only [h1, h3, if_true, if_false]; exact Ev.const rfl
          · by_cases h2 : (s.size : Int) = wrap64 (2 * (l.length : Int))
            · simp only [h1, h3, if_false]
              simp only [if_pos h2]
              exact (impl_steps s l (by omega) l.length 0 (by omega) (by omega)).2 hb
            · simp only [h1, h3, h2, if_false]
              exact Ev.const rfl
def stepsAll : Nat → List (List Int)
  | 0 => [[]]
  | n + 1 => [-1, 0, 1].flatMap fun a => (stepsAll n).map fun l => a :: l
def wordsAll : Nat → List ByteArray
  | 1 => [⟨#[40, 41]⟩]
  | 2 => [⟨#[40, 40, 41, 41]⟩, ⟨#[40, 41, 40, 41]⟩]
  | 3 => [⟨#[40, 40, 40, 41, 41, 41]⟩, ⟨#[40, 40, 41, 40, 41, 41]⟩, ⟨#[40, 40, 41, 41, 40, 41]⟩, ⟨#[40, 41, 40, 40, 41, 41]⟩, ⟨#[40, 41, 40, 41, 40, 41]⟩]
  | _ => []
def chkN (P : ByteArray → List Int → Bool) (n : Nat) : Bool := (wordsAll n).all fun s => (stepsAll n).all fun l => P s l
theorem stepsAll_mem : ∀ (l : List Int), (∀ x ∈ l, -1 ≤ x ∧ x ≤ 1) → l ∈ stepsAll l.length
  | [], _ => by simp [stepsAll]
  | a :: l, h => by
    have ih := stepsAll_mem l fun x hx => h x (by simp [hx])
    have ha := h a (by simp)
    simp only [List.length_cons, stepsAll, List.mem_flatMap, List.mem_map]
    exact ⟨a, by simp; omega, l, ih, rfl⟩
theorem walkT_bytes (s : ByteArray) : ∀ (d : Nat) (g : Int) (p : Int × Int), walkT s d g = some p → ∀ q : Int, (s.size : Int) - d ≤ q → q < s.size → bt s q = 40 ∨ bt s q = 41
  | 0, g, p, h, q, h1, h2 => by omega
  | d + 1, g, p, h, q, h1, h2 => by
    simp only [walkT] at h
    by_cases e : q = (s.size : Int) - ((d + 1 : Nat) : Int)
    · rw [e]
      by_cases b0 : bt s ((s.size : Int) - ((d + 1 : Nat) : Int)) = 40
      · exact .inl b0
      · by_cases b1 : bt s ((s.size : Int) - ((d + 1 : Nat) : Int)) = 41
        · exact .inr b1
        · rw [if_neg b0, if_neg b1] at h
          cases h
    · split at h
      · cases e2 : walkT s d (g + 1) with
        | none => rw [e2] at h; cases h
        | some q' => exact walkT_bytes s d (g + 1) q' e2 q (by omega) h2
      · split at h
        · split at h
          · cases h
          · exact walkT_bytes s d (g - 1) p h q (by omega) h2
        · cases h
theorem byte_of (b : UInt8) (h : ((b.toNat : Int) = 40) ∨ ((b.toNat : Int) = 41)) : b = 40 ∨ b = 41 := by
  rcases h with h | h
  · left; apply UInt8.toNat_inj.1; simpa using (by omega : b.toNat = 40)
  · right; apply UInt8.toNat_inj.1; simpa using (by omega : b.toNat = 41)
theorem bytes_of (s : ByteArray) (n : Nat) (hn : s.size = n) : ∃ l : List UInt8, l.length = n ∧ s = ⟨l.toArray⟩ := by
  refine ⟨s.data.toList, ?_, ?_⟩
  · rw [Array.length_toList]; exact hn
  · apply ByteArray.ext; simp
theorem bt_nth (l : List UInt8) (i : Nat) (h : i < l.length) : bt ⟨l.toArray⟩ (i : Int) = (l[i].toNat : Int) := by
  have := (bt_at ⟨l.toArray⟩ (i : Int) (by simpa [ByteArray.size] using h)).symm
  rw [this]
  rfl
theorem words_mem (s : ByteArray) (n : Nat) (h1 : 1 ≤ n) (h3 : n ≤ 3) (hs : s.size = 2 * n) (c : Int) (hw : walkT s s.size 0 = some (0, c)) : s ∈ wordsAll n := by
  have hb := walkT_bytes s s.size 0 (0, c) hw
  have hw' : (walkT s s.size 0).map (fun p => p.1) = some 0 := by rw [hw]; rfl
  clear hw
  obtain ⟨l, hl, rfl⟩ := bytes_of s (2 * n) hs
  have hbl : ∀ i (h : i < l.length), l[i] = 40 ∨ l[i] = 41 := fun i h => byte_of _ (by
    have := hb (i : Int) (by omega) (by rw [hs]; omega)
    rwa [bt_nth l i h] at this)
  clear hb
  have hc : n = 1 ∨ n = 2 ∨ n = 3 := by omega
  rcases hc with rfl | rfl | rfl
  · obtain ⟨a, b, rfl⟩ : ∃ a b, l = [a, b] := by
      match l, hl with
      | [a, b], _ => exact ⟨a, b, rfl⟩
    · skip
      have h0 : a = 40 ∨ a = 41 := hbl 0 (show 0 < 2 by decide); have h1' : b = 40 ∨ b = 41 := hbl 1 (show 1 < 2 by decide)
      rcases h0 with rfl | rfl <;> rcases h1' with rfl | rfl <;> first | (exact absurd hw' (by decide +kernel)) | (simp [wordsAll]; done)
  · obtain ⟨a, b, c, d, rfl⟩ : ∃ a b c d, l = [a, b, c, d] := by
      match l, hl with
      | [a, b, c, d], _ => exact ⟨a, b, c, d, rfl⟩
    · skip
      have g0 : a = 40 ∨ a = 41 := hbl 0 (show 0 < 4 by decide); have g1 : b = 40 ∨ b = 41 := hbl 1 (show 1 < 4 by decide); have g2 : c = 40 ∨ c = 41 := hbl 2 (show 2 < 4 by decide); have g3 : d = 40 ∨ d = 41 := hbl 3 (show 3 < 4 by decide)
      rcases g0 with rfl | rfl <;> rcases g1 with rfl | rfl <;> rcases g2 with rfl | rfl <;> rcases g3 with rfl | rfl <;> first | (exact absurd hw' (by decide +kernel)) | (simp [wordsAll]; done)
  · obtain ⟨a, b, c, d, e, f, rfl⟩ : ∃ a b c d e f, l = [a, b, c, d, e, f] := by
      match l, hl with
      | [a, b, c, d, e, f], _ => exact ⟨a, b, c, d, e, f, rfl⟩
    · skip
      have g0 : a = 40 ∨ a = 41 := hbl 0 (show 0 < 6 by decide); have g1 : b = 40 ∨ b = 41 := hbl 1 (show 1 < 6 by decide); have g2 : c = 40 ∨ c = 41 := hbl 2 (show 2 < 6 by decide); have g3 : d = 40 ∨ d = 41 := hbl 3 (show 3 < 6 by decide); have g4 : e = 40 ∨ e = 41 := hbl 4 (show 4 < 6 by decide); have g5 : f = 40 ∨ f = 41 := hbl 5 (show 5 < 6 by decide)
      rcases g0 with rfl | rfl <;> rcases g1 with rfl | rfl <;> rcases g2 with rfl | rfl <;> rcases g3 with rfl | rfl <;> rcases g4 with rfl | rfl <;> rcases g5 with rfl | rfl <;> first | (exact absurd hw' (by decide +kernel)) | (simp [wordsAll]; done)
theorem chk_all (P : ByteArray → List Int → Bool) (h1 : chkN P 1 = true) (h2 : chkN P 2 = true) (h3 : chkN P 3 = true) (s : ByteArray) (l : List Int) (h : treeOk s l) : P s l = true := by
  obtain ⟨a1, a3, hs, hst, c, hw⟩ := h
  have hm := words_mem s l.length a1 a3 hs c hw
  have hl : ∀ x ∈ l, -1 ≤ x ∧ x ≤ 1 := by
    intro x hx
    obtain ⟨i, hi, rfl⟩ := List.mem_iff_getElem.1 hx
    have := hst i hi
    rwa [rd_lt l i hi] at this
  have hsm := stepsAll_mem l hl
  have hn : chkN P l.length = true := by
    have hc : l.length = 1 ∨ l.length = 2 ∨ l.length = 3 := by omega
    rcases hc with e | e | e <;> rw [e] <;> assumption
  unfold chkN at hn
  rw [List.all_eq_true] at hn
  have := hn s hm
  rw [List.all_eq_true] at this
  exact this l hsm
def marks (n : Nat) (m : Int) : List Int := (List.range n).map fun (i : Nat) => m + (i : Int)
theorem marks_length (n : Nat) (m : Int) : (marks n m).length = n := by simp [marks]
theorem marks_rd (n : Nat) (m : Int) (i : Nat) (h : i < n) : rd (marks n m) i = m + i := by
  rw [rd_lt _ _ (by rw [marks_length]; exact h)]
  simp [marks]
theorem mark_run (m : Int) (hm : 0 ≤ m) (hm' : m ≤ 4611686018427387904) : ∀ (d : Nat) (l : List Int) (i : Nat), l.length ≤ 4194304 → l.length - i = d → i ≤ l.length → l.take i = (marks l.length m).take i → Ev (fun k => laws_markIntS.l0 k l (m + i) i) (m + l.length, marks l.length m)
  | 0, l, i, hl, hd, hi, ht => by
    refine Ev.s ?_
    simp only [laws_markIntS.l0, show ¬ (i : Int) < (l.length : Int) by omega, if_false]
    have hi' : i = l.length := by omega
    subst hi'
    rw [List.take_length] at ht
    have e : (marks l.length m).take l.length = marks l.length m := by
      rw [List.take_of_length_le]; rw [marks_length]; exact Nat.le_refl _
    rw [e] at ht
    refine Ev.const ?_
    rw [← ht]
  | d + 1, l, i, hl, hd, hi, ht => by
    have hlt : i < l.length := by omega
    refine Ev.s ?_
    simp only [laws_markIntS.l0, show (i : Int) < (l.length : Int) by omega, show (0 : Int) ≤ i by omega, if_true]
    rw [w64 (x := (i : Int) + 1) (by omega) (by omega), w64 (x := m + (i : Int) + 1) (by omega) (by omega), show ((i : Int) + 1) = ((i + 1 : Nat) : Int) by omega, show m + (i : Int) + 1 = m + ((i + 1 : Nat) : Int) by omega]
    have hL : (l.set i (m + (i : Int))).length = l.length := by simp
    have ih := mark_run m hm hm' d (l.set i (m + (i : Int))) (i + 1) (by omega) (by omega) (by omega) ?_
    · rw [hL] at ih
      rw [Int.toNat_natCast]
      exact ih
    · rw [hL]
      have h2 : i < (marks l.length m).length := by rw [marks_length]; exact hlt
      rw [List.take_succ_eq_append_getElem (by simpa using hlt), List.take_succ_eq_append_getElem h2, List.take_set_of_le (Nat.le_refl _), ht]
      simp [marks]
theorem mark_ev (l : List Int) (m : Int) (hm : 0 ≤ m) (hm' : m ≤ 4611686018427387904) (hl : l.length ≤ 4194304) : Ev (fun k => laws_markIntS.f k l m) (m + l.length, marks l.length m) := by
  have := mark_run m hm hm' l.length l 0 hl (by omega) (by omega) (by simp)
  unfold laws_markIntS.f
  simpa using this
theorem held_run (n : Nat) (m : Int) (hn : n ≤ 4194304) (hm : 0 ≤ m) (hm' : m ≤ 4611686018427387904) : ∀ (d i : Nat), n - i = d → i ≤ n → Ev (fun k => laws_heldIntS.l0 k (marks n m) (m + i) i) (m + n)
  | 0, i, hd, hi => by
    refine Ev.s ?_
    simp only [laws_heldIntS.l0, marks_length, show ¬ (i : Int) < (n : Int) by omega, if_false]
    have : i = n := by omega
    subst this
    exact Ev.const rfl
  | d + 1, i, hd, hi => by
    refine Ev.s ?_
    simp only [laws_heldIntS.l0, marks_length, show (i : Int) < (n : Int) by omega, show (0 : Int) ≤ i by omega, if_true, marks_rd n m i (by omega)]
    rw [w64 (x := (i : Int) + 1) (by omega) (by omega), w64 (x := m + (i : Int) + 1) (by omega) (by omega), show ((i : Int) + 1) = ((i + 1 : Nat) : Int) by omega, show m + (i : Int) + 1 = m + ((i + 1 : Nat) : Int) by omega]
    exact held_run n m hn hm hm' d (i + 1) (by omega) (by omega)
theorem held_ev (n : Nat) (m : Int) (hn : n ≤ 4194304) (hm : 0 ≤ m) (hm' : m ≤ 4611686018427387904) : Ev (fun k => laws_heldIntS.f k (marks n m) m) (m + n) := by
  have := held_run n m hn hm hm' n 0 (by omega) (by omega)
  unfold laws_heldIntS.f
  simpa using this
theorem eqMap_same (t f : List Int) (ht : t.length ≤ 1048576) (hf : f.length ≤ 1048576) : Ev (fun k => laws_eqMap.f k t f t f) true := by
  unfold laws_eqMap.f
  refine Ev.bind (eqIntS_same t ht) ?_
  simp only [if_true]
  exact Ev.bind (eqIntS_same f hf) (Ev.const rfl)
theorem markMap_ev (t f : List Int) (ht : t.length ≤ 1048576) (hf : f.length ≤ 1048576) : Ev (fun k => laws_markMap.f k t f 1) (1 + (t.length : Int) + (f.length : Int), marks t.length 1, marks f.length (1 + (t.length : Int))) := by
  unfold laws_markMap.f
  refine Ev.bind (mark_ev t 1 (by omega) (by omega) (by omega)) ?_
  exact Ev.bind (mark_ev f (1 + (t.length : Int)) (by omega) (by omega) (by omega)) (Ev.const rfl)
theorem heldMap_ev (n m : Nat) (hn : n ≤ 1048576) (hm : m ≤ 1048576) : Ev (fun k => laws_heldMap.f k (marks n 1) (marks m (1 + (n : Int))) 1) (1 + (n : Int) + (m : Int)) := by
  unfold laws_heldMap.f
  refine Ev.bind (held_ev n 1 (by omega) (by omega) (by omega)) ?_
  simp only [show ¬ 1 + (n : Int) < 0 by omega, if_false]
  refine Ev.bind (held_ev m (1 + (n : Int)) (by omega) (by omega) (by omega)) ?_
  simp only [show ¬ 1 + (n : Int) + (m : Int) < 0 by omega, if_false]
  exact Ev.const rfl
theorem toTree_ev (s : ByteArray) (l : List Int) (hl : l.length ≤ 1048576) : Ev (fun k => laws_toTree.f k s l) (s, l) := by
  unfold laws_toTree.f
  exact Ev.bind (toIntS_ev l hl) (Ev.const rfl)
theorem eqTree_same (s : ByteArray) (l : List Int) (hl : l.length ≤ 1048576) : Ev (fun k => laws_eqTree.f k s l s l) true := by
  unfold laws_eqTree.f
  simp only [if_true]
  exact Ev.bind (eqIntS_same l hl) (Ev.const rfl)
theorem markTree_ev (s : ByteArray) (l : List Int) (hl : l.length ≤ 1048576) : Ev (fun k => laws_markTree.f k s l 1) (1 + (l.length : Int), marks l.length 1) := by
  unfold laws_markTree.f
  exact Ev.bind (mark_ev l 1 (by omega) (by omega) (by omega)) (Ev.const rfl)
theorem szTree_cases (s : ByteArray) (l : List Int) (hs : s.size ≤ maxLen) (hl : l.length ≤ maxLen) : ∃ t, laws_szTree.f s l 1048576 = some t ∧ (t < 0 ∨ s.size ≤ 1048576 ∧ l.length ≤ 1048576 ∧ ¬ t < 0) := by
  unfold maxLen at hs hl
  have h1 : wrap64 (1048576 - (s.size : Int)) = 1048576 - (s.size : Int) := w64 (by omega) (by omega)
  by_cases c1 : (1048576 - (s.size : Int)) < 0
  · refine ⟨-1, ?_, .inl (by decide)⟩
    unfold laws_szTree.f
    simp [h1, c1]
  · have h2 : wrap64 (1048576 - (s.size : Int) - (l.length : Int)) = 1048576 - (s.size : Int) - (l.length : Int) := w64 (by omega) (by omega)
    by_cases c2 : (1048576 - (s.size : Int) - (l.length : Int)) < 0
    · refine ⟨-1, ?_, .inl (by decide)⟩
      unfold laws_szTree.f laws_szIntS.f
      simp [h1, c1, h2, c2]
    · refine ⟨1048576 - (s.size : Int) - (l.length : Int), ?_, .inr ⟨by omega, by omega, c2⟩⟩
      unfold laws_szTree.f laws_szIntS.f
      simp [h1, c1, h2, c2]
end Go.Proofs.Ytlpbalebodlipaa.PG

set_option linter.unusedVariables false
set_option linter.unusedSimpArgs false
namespace Go.Proofs.Ytlpbalebodlipaa.Pure
open Go.RowKit Go.Proofs.Ytlpbalebodlipaa.PG Go.Proofs.YtlpbalebodlipaaW.PrintWords Go.Proofs.YtlpbalebodlipaaW.PrintLast Go.Proofs.YtlpbalebodlipaaW.PrintMore
def chkTQ (s : ByteArray) (l : List Int) : Bool := match spec_TreeQuad.f 300 s l with
  | some (t, f, p, b) => decide (impl_TreeQuad.f 300 s l = some (t, f, p, b)) && decide (t.length ≤ 12) && decide (f.length ≤ 12)
  | none => false
theorem chkTQ_all (s : ByteArray) (l : List Int) (h : treeOk s l) : chkTQ s l = true := chk_all chkTQ (by decide +kernel) (by decide +kernel) (by decide +kernel) s l h
theorem bothTreeQuad (s : ByteArray) (hs : s.size ≤ 1048576) (l : List Int) (hl : l.length ≤ 1048576) : ∃ (t f : List Int) (p : Int) (b : Bool), Ev (fun k => spec_TreeQuad.f k s l) (t, f, p, b) ∧ Ev (fun k => impl_TreeQuad.f k s l) (t, f, p, b) ∧ t.length ≤ 1048576 ∧ f.length ≤ 1048576 := by
  obtain ⟨b, b1, b2, b3⟩ := treeValid_both s hs l hl
  cases b with
  | false =>
    refine ⟨[], [], 0, false, ?_, ?_, by simp, by simp⟩
    · unfold spec_TreeQuad.f
      exact Ev.bind b1 (Ev.const rfl)
    · unfold impl_TreeQuad.f
      exact Ev.bind b2 (Ev.const rfl)
  | true =>
    have hck := chkTQ_all s l (b3 rfl)
    unfold chkTQ at hck
    split at hck
    · rename_i t f p b e
      simp only [Bool.and_eq_true, decide_eq_true_eq] at hck
      exact ⟨t, f, p, b, Ev.of (fun k => spec_TreeQuad.mono _ _ k) e, Ev.of (fun k => impl_TreeQuad.mono _ _ k) hck.1.1, by omega, by omega⟩
    · cases hck
theorem FnExactTreeQuad : laws_FnExactTreeQuad.Pure := by
  intro s l hs hl _
  obtain ⟨t, ht, h0 | ⟨hs', hl', h0⟩⟩ := szTree_cases s l hs hl
  · refine ⟨0, ?_⟩
    unfold laws_FnExactTreeQuad.f
    rw [ht, Option.bind_some, if_pos h0]
  · refine Ev.rounds (r := true) ?_
    unfold laws_FnExactTreeQuad.f
    simp only [ht, Option.bind_some, h0, if_false]
    obtain ⟨r, f, p, b, e1, e2, hr, hf⟩ := bothTreeQuad s hs' l hl'
    have hb : (b != b) = false := by simp
    refine Ev.bind (toTree_ev s l hl') ?_
    refine Ev.bind e1 ?_
    refine Ev.bind (toTree_ev s l hl') ?_
    refine Ev.bind e2 ?_
    refine Ev.bind (eqMap_same r f hr hf) ?_
    simp only [if_true, hb]
    refine Ev.s ?_
    simp only [laws_FnExactTreeQuad.j0, Bool.false_eq_true, if_false]
    refine Ev.bind (toTree_ev s l hl') ?_
    refine Ev.bind (eqTree_same s l hl') ?_
    simp only [if_true]
    refine Ev.bind (markTree_ev s l hl') ?_
    simp only [show ¬ 1 + (l.length : Int) < 0 by omega, if_false]
    refine Ev.bind (eqMap_same r f hr hf) ?_
    simp only [if_true, hb]
    refine Ev.s ?_
    simp only [laws_FnExactTreeQuad.j1, Bool.false_eq_true, if_false]
    refine Ev.bind (markMap_ev r f hr hf) ?_
    refine Ev.bind (heldMap_ev r.length f.length hr hf) ?_
    simp only [show ¬ 1 + (r.length : Int) + (f.length : Int) < 0 by omega, if_false, if_true]
    refine Ev.bind (toTree_ev s l hl') ?_
    refine Ev.bind e2 ?_
    refine Ev.bind (eqMap_same r f hr hf) ?_
    simp only [if_true, hb]
    refine Ev.s ?_
    simp only [laws_FnExactTreeQuad.j2, Bool.false_eq_true, if_false]
    refine Ev.bind (heldMap_ev r.length f.length hr hf) ?_
    simp only [show ¬ 1 + (r.length : Int) + (f.length : Int) < 0 by omega, if_false, if_true]
    exact Ev.const rfl
end Go.Proofs.Ytlpbalebodlipaa.Pure

namespace Go.Proofs.Ytlpbalebodlipaa.fnExactTreeQuad
open Go.ChangeShapes Go.WideShapes Go.ChangeAt Go.RowKit Go.Joins Go.Proofs.YtlpbalebodlipaaW.PrintWords Go.Proofs.YtlpbalebodlipaaW.PrintLast
open Go.ChangeMaps (open_string shut_string)
set_option linter.unusedVariables false
theorem own : ownKnob Try.prog.godebug = none := by kernel_rfl
theorem laidOut : laidOutB Try.prog = true := by kernel_rfl
def IsRow (k : IntKind) (w : World) (a : Option Addr) (len cap : Nat) (zs : List Int) : Prop :=
  (a = none ∧ len = 0 ∧ cap = 0 ∧ zs = []) ∨
  ∃ x, a = some x ∧ len ≤ cap ∧ cap ≤ maxLen ∧ zs.length = cap ∧ (∀ i, i < zs.length → w.cell? (x.add i) = some (.int k (zs.getD i 0))) ∧ ∀ n ∈ zs, (Lit.int k n).wf = true
theorem cells35 : Try.prog.cellsOf 35 = 2 := by kernel_rfl
set_option maxRecDepth 100000 in
theorem lifted (os : Os) (started : os.Started) (H : Type) (enc : TypeId × Value → H) :
    ReturnsInHanded {} Try.checked os 4 .any (Rows.fnExactTreeQuadSpec.pre6 enc Try.prog Try.f4 Rows.fnExactTreeQuadRow.domain false) (Rows.fnExactTreeQuadSpec.post enc Try.prog Try.f4 false true false false) := by
  refine returnsInHanded_of_change_sized (C := Try.checked) own started (by kernel_rfl) Try.func4
    (ChangeSpec.witness6 (enc := enc) (C := Try.checked) false ⟨#[], #[.agg #[.string ByteArray.empty, .slice none 0 0]], []⟩ 8 (by kernel_rfl) (by kernel_rfl) (by kernel_rfl) (by kernel_rfl)) ?_
  intro W base args ds gs before hval0 hW hcnd hsz0 _
  have hval : ∀ (j : Nat) t v, Try.f4.params[j]? = some t → args[j]? = some v → Value.okWide Try.prog W .any base t v := hval0
  have hW' := hW
  obtain ⟨p, q, hA0, hV, rfl, hfz, hnd⟩ := hW
  have hA : DataW.TrodAll enc Try.prog W 0 (fun _ => true) true Try.f4.params.toList args.toList ds p := hA0
  rw [Try.params4] at hA hval
  obtain ⟨v0, vs0, d0, ds0, p0, q0, hargs, rfl, rfl, h0, r0⟩ := trodAll_cons hA
  obtain ⟨rfl, rfl, rfl⟩ := trodAll_nil r0
  obtain rfl : args = #[v0] := by cases args; simp_all
  obtain ⟨rfl, rfl⟩ := trodVars_none hV
  have k0 := h0
  have lt0 : ∀ x ∈ p0, x.block < W.heap.size := by obtain ⟨m, hm⟩ := k0; exact DataW.trod_lt m _ _ _ hm
  obtain ⟨c0_0, c0_1, y0_0, y0_1, m0, e0, _, _, hy0_0, hy0_1⟩ := open_agg2 Try.underlying35 (by kernel_rfl) cells35 (hval 0 35 v0 rfl rfl) h0
  subst e0
  obtain ⟨a0_0, ea0_0, _, w0_0⟩ := DataW.trod_string Try.underlying9 hy0_0
  obtain rfl : c0_0 = .string a0_0 := by simpa using ea0_0
  obtain ⟨a0_1, len0_1, cap0_1, z0_1, ec0_1, w0_1⟩ : ∃ a len cap zs, c0_1 = .slice a len cap ∧ IsRow .i64 W a len cap zs := by
    rcases open_ints Try.underlying23 Try.underlying3 (by kernel_rfl) hy0_1 with ⟨hcs, _⟩ | ⟨x, l, c, zs, hcs, _, hl, hm, hz, _, hcell, hwz⟩
    · simp at hcs; exact ⟨none, 0, 0, [], hcs, .inl ⟨rfl, rfl, rfl, rfl⟩⟩
    · simp at hcs; exact ⟨_, _, _, zs, hcs, .inr ⟨_, rfl, hl, hm, by simpa using hz, hcell, hwz⟩⟩
  subst ec0_1
  obtain ⟨l0_1, el0_1, hr0_1, hm0_1, hw0_1, hc0_1⟩ := ReadsInt.ofRowC w0_1
  subst el0_1
  clear hA0 hval0 hsz0
  obtain ⟨k, h⟩ := Pure.FnExactTreeQuad a0_0 l0_1 w0_0 hm0_1 hw0_1
  refine (PG.laws_FnExactTreeQuad.calls k a0_0 _ _ l0_1 true W (Kd.C_of_reads (d := (0 : Int)) (h1 := fun _ => rfl) hr0_1) hc0_1 h).mono fun e W' ⟨he, bel0⟩ => ?_
  have bel : Below W.heap.size W W' := bel0
  subst he
  exact ⟨_, rfl, _, _, _, [], _, [], hW', trodAll_mk1 (shut_bool Try.underlying4 _), (trodAll_cons_mk (Below.trod laidOut (by kernel_rfl) (of_decide_eq_true (by kernel_rfl)) k0 bel lt0) trodAll_mk0), rfl, bel.frame _, fun h => by cases h⟩
theorem over : Rows.fnExactTreeQuadRow.holds Try.pinned (OpenSpec.ofChange Rows.fnExactTreeQuadSpec) :=
  OpenClaim.holds_of_wide 4 Try.f4 rfl rfl rfl rfl rfl rfl rfl ⟨rfl, rfl, rfl, rfl, rfl⟩ rfl rfl rfl rfl rfl (by kernel_rfl) Try.func4 (by kernel_rfl)
    (of_decide_eq_true (by kernel_rfl)) (by unfold Func.isWrapper; first | (rw [if_pos (by decide +kernel)]; kernel_rfl) | (rw [if_neg (by decide +kernel)]; exact ⟨rfl, rfl⟩))
    (fun os started H enc _ => lifted os started H enc)
theorem proved : Rows.FnExactTreeQuadSaid := over
#print axioms proved
end Go.Proofs.Ytlpbalebodlipaa.fnExactTreeQuad
namespace Go.Proofs.Ytlpbalebodlipaa
theorem fnExactTreeQuad_holds : Rows.FnExactTreeQuadSaid := fnExactTreeQuad.proved
end Go.Proofs.Ytlpbalebodlipaa
