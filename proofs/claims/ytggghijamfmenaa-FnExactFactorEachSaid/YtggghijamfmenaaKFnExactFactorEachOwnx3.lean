/- FactorEach of the program and of the reference tell the same number, for all lists of lists of whole numbers. There are no conditions beside the given row's own. -/
import Derived.Test.YtggghijamfmenaaKFnExactFactorEachOwnx2
set_option linter.unusedVariables false
set_option linter.unusedSimpArgs false
namespace Go.Proofs.Ytggghijamfmenaa.PL
open Go.RowKit Go.Proofs.YtggghijamfmenaaW.PrintWords Go.Proofs.YtggghijamfmenaaW.PrintLast Go.Proofs.YtggghijamfmenaaW.PrintMore
def okP : Int → List Int → Bool
  | _, [] => true
  | prev, x :: xs => decide (1 ≤ x) && decide (x ≤ 6) && decide (x ≤ prev) && okP x xs
def totP : List Int → Int
  | [] => 0
  | x :: xs => x + totP xs
theorem okP_tot : ∀ (p : List Int) (prev : Int), okP prev p = true → (p.length : Int) ≤ totP p
  | [], _, _ => Int.le_refl _
  | x :: xs, prev, h => by
    simp only [okP, Bool.and_eq_true, decide_eq_true_eq] at h
    have := okP_tot xs x h.2
    simp only [totP, List.length_cons]
    omega
theorem okP_at : ∀ (p : List Int) (prev : Int), okP prev p = true → ∀ x ∈ p, 1 ≤ x ∧ x ≤ 6
  | [], _, _, x, hx => by simp at hx
  | y :: ys, prev, h, x, hx => by
    simp only [okP, Bool.and_eq_true, decide_eq_true_eq] at h
    rcases List.mem_cons.1 hx with rfl | hx
    · omega
    · exact okP_at ys y h.2 x hx
def vP (p : List Int) : Bool := okP 6 p && (decide (1 ≤ totP p) && decide (totP p ≤ 6))
theorem drop_rd (p : List Int) (i : Nat) (h : i < p.length) : p.drop i = rd p (i : Int) :: p.drop (i + 1) := by rw [List.drop_eq_getElem_cons h, rd_lt p i h]
theorem l6In_ev (a b c : Int) : spec_l6In.f a b c = some (decide (b ≤ a ∧ a ≤ c)) := by
  unfold spec_l6In.f
  by_cases h : b ≤ a
  · simp [show a ≥ b from h, h]
  · simp [show ¬ a ≥ b from h, h]
theorem implPV_run (p : List Int) (hl : p.length ≤ 1048576) : ∀ (d i : Nat) (s prev : Int), p.length - i = d → i ≤ p.length → 0 ≤ s → s ≤ 6 * i → (i = 0 → prev = 6) → (0 < i → prev = rd p ((i : Int) - 1)) →
    Ev (fun k => impl_PartsValid.l0 k p s p p.length i) (okP prev (p.drop i) && (decide (1 ≤ s + totP (p.drop i)) && decide (s + totP (p.drop i) ≤ 6)))
  | 0, i, s, prev, hd, hi, h0, h1, e0, e1 => by
    refine Ev.s ?_
    have e : i = p.length := by omega
    rw [e, List.drop_length]
    simp only [impl_PartsValid.l0, show ¬ (p.length : Int) < (p.length : Int) by omega, if_false, okP, totP, Int.add_zero, Bool.true_and]
    by_cases h : s ≥ 1
    · simp only [h, if_true, show (1 : Int) ≤ s from h, decide_true, Bool.true_and]; exact Ev.const rfl
    · simp only [h, if_false, show ¬ (1 : Int) ≤ s from h, decide_false, Bool.false_and]; exact Ev.const rfl
  | d + 1, i, s, prev, hd, hi, h0, h1, e0, e1 => by
    have hlt : i < p.length := by omega
    rw [drop_rd p i hlt]
    refine Ev.s ?_
    simp only [impl_PartsValid.l0, show (i : Int) < (p.length : Int) by omega, show (0 : Int) ≤ i by omega, if_true, okP, totP]
    by_cases a : rd p (i : Int) < 1
    · simp only [a, if_true, show ¬ (1 : Int) ≤ rd p (i : Int) by omega, decide_false, Bool.false_and]; exact Ev.const rfl
    by_cases b : rd p (i : Int) > 6
    · simp only [a, b, if_true, if_false, show ¬ rd p (i : Int) ≤ 6 by omega, decide_false, Bool.false_and, Bool.and_false]; exact Ev.const rfl
    have hs : wrap64 (s + rd p (i : Int)) = s + rd p (i : Int) := w64 (by omega) (by omega)
    have ih := implPV_run p hl d (i + 1) (s + rd p (i : Int)) (rd p (i : Int)) (by omega) (by omega) (by omega) (by omega) (fun h => by omega) (fun _ => by rw [show (((i + 1 : Nat) : Int) - 1) = (i : Int) by omega])
    rw [Int.add_assoc] at ih
    simp only [a, b, if_false, hs, show (1 : Int) ≤ rd p (i : Int) by omega, show rd p (i : Int) ≤ 6 by omega, decide_true, Bool.true_and]
    rcases i with _ | i
    · have := e0 rfl
      subst this
      simp only [show rd p ((0 : Nat) : Int) ≤ 6 by omega, decide_true, Bool.true_and, show ¬ (((0 : Nat) : Int) > 0) by omega, if_false]
      rw [w64n (by omega)]
      exact ih
    · have e2 := e1 (by omega)
      have hw : wrap64 (((i + 1 : Nat) : Int) - 1) = (((i + 1 : Nat) : Int) - 1) := w64 (by omega) (by omega)
      simp only [show (((i + 1 : Nat) : Int) > 0) by omega, hw, show (0 : Int) ≤ ((i + 1 : Nat) : Int) - 1 by omega, show ((i + 1 : Nat) : Int) - 1 < (p.length : Int) by omega, if_true, ← e2]
      by_cases c : rd p ((i + 1 : Nat) : Int) > prev
      · simp only [c, if_true, show ¬ rd p ((i + 1 : Nat) : Int) ≤ prev by omega, decide_false, Bool.false_and]; exact Ev.const rfl
      · simp only [c, if_false, show rd p ((i + 1 : Nat) : Int) ≤ prev by omega, decide_true, Bool.true_and]
        rw [w64n (by omega)]
        exact ih
theorem implPV_ev (p : List Int) (hl : p.length ≤ 1048576) : Ev (fun k => impl_PartsValid.f k p) (vP p) := by
  unfold impl_PartsValid.f vP
  have h := implPV_run p hl p.length 0 0 6 (by omega) (by omega) (by omega) (by omega) (fun _ => rfl) (fun h => by omega)
  simpa using h
theorem specPV_run (p : List Int) (hl : p.length ≤ 1048576) : ∀ (d i : Nat) (s prev : Int), p.length - i = d → i ≤ p.length → 0 ≤ s → s ≤ 6 → (i = 0 → prev = 6) → (0 < i → prev = rd p ((i : Int) - 1)) →
    Ev (fun k => spec_PartsValid.l0 k p s i) (okP prev (p.drop i) && (decide (1 ≤ s + totP (p.drop i)) && decide (s + totP (p.drop i) ≤ 6)))
  | 0, i, s, prev, hd, hi, h0, h1, e0, e1 => by
    refine Ev.s ?_
    have e : i = p.length := by omega
    rw [e, List.drop_length]
    simp only [spec_PartsValid.l0, show ¬ (p.length : Int) < (p.length : Int) by omega, if_false, okP, totP, Int.add_zero, Bool.true_and, show s ≤ 6 from h1, decide_true, Bool.and_true]
    exact Ev.const (by congr 1)
  | d + 1, i, s, prev, hd, hi, h0, h1, e0, e1 => by
    have hlt : i < p.length := by omega
    rw [drop_rd p i hlt]
    refine Ev.s ?_
    simp only [spec_PartsValid.l0, show (i : Int) < (p.length : Int) by omega, show (0 : Int) ≤ i by omega, if_true, okP, totP, l6In_ev, Option.bind_some]
    by_cases a : 1 ≤ rd p (i : Int) ∧ rd p (i : Int) ≤ 6
    · have hs : wrap64 (s + rd p (i : Int)) = s + rd p (i : Int) := w64 (by omega) (by omega)
      have fin : ∀ (c : Bool), Ev (fun k => spec_PartsValid.j1 k p s i (!c)) (c && okP (rd p (i : Int)) (p.drop (i + 1)) && (decide (1 ≤ s + (rd p (i : Int) + totP (p.drop (i + 1)))) && decide (s + (rd p (i : Int) + totP (p.drop (i + 1))) ≤ 6))) := by
        intro c
        refine Ev.s ?_
        cases c with
        | false =>
          simp only [spec_PartsValid.j1, Bool.not_false, if_true, Bool.false_and]
          exact Ev.const rfl
        | true =>
          simp only [spec_PartsValid.j1, Bool.not_true, Bool.false_eq_true, if_false, show (0 : Int) ≤ (i : Int) by omega, show (i : Int) < (p.length : Int) by omega, if_true, hs, Bool.true_and]
          by_cases b : s + rd p (i : Int) > 6
          · simp only [b, if_true]
            refine Ev.const (congrArg some ?_)
            symm
            by_cases o : okP (rd p (i : Int)) (p.drop (i + 1)) = true
            · have := okP_tot _ _ o
              simp only [show ¬ s + (rd p (i : Int) + totP (p.drop (i + 1))) ≤ 6 by omega, decide_false, Bool.and_false]
            · rw [Bool.not_eq_true] at o
              rw [o, Bool.false_and]
          · simp only [b, if_false]
            rw [w64n (by omega), ← Int.add_assoc]
            exact specPV_run p hl d (i + 1) (s + rd p (i : Int)) (rd p (i : Int)) (by omega) (by omega) (by omega) (by omega) (fun h => by omega) (fun _ => by rw [show (((i + 1 : Nat) : Int) - 1) = (i : Int) by omega])
      simp only [a, and_self, decide_true, if_true, a.1, a.2, Bool.true_and]
      rcases i with _ | i
      · have := e0 rfl
        subst this
        simp only [show rd p ((0 : Nat) : Int) ≤ 6 from a.2, decide_true, show ¬ (((0 : Nat) : Int) > 0) by omega, if_false]
        exact fin true
      · have e2 := e1 (by omega)
        have hw : wrap64 (((i + 1 : Nat) : Int) - 1) = (((i + 1 : Nat) : Int) - 1) := w64 (by omega) (by omega)
        simp only [show (((i + 1 : Nat) : Int) > 0) by omega, hw, show (0 : Int) ≤ ((i + 1 : Nat) : Int) - 1 by omega, show ((i + 1 : Nat) : Int) - 1 < (p.length : Int) by omega, if_true, ← e2]
        have f := fin (decide (rd p ((i + 1 : Nat) : Int) ≤ prev))
        rw [show (!decide (rd p ((i + 1 : Nat) : Int) ≤ prev)) = decide (rd p ((i + 1 : Nat) : Int) > prev) by
          by_cases c : rd p ((i + 1 : Nat) : Int) ≤ prev
          · rw [decide_eq_true c, decide_eq_false (show ¬ rd p ((i + 1 : Nat) : Int) > prev by omega)]; rfl
          · rw [decide_eq_false c, decide_eq_true (show rd p ((i + 1 : Nat) : Int) > prev by omega)]; rfl] at f
        exact f
    · simp only [a, decide_false, Bool.false_eq_true, if_false]
      have hF : (decide (1 ≤ rd p (i : Int)) && decide (rd p (i : Int) ≤ 6)) = false := by
        by_cases b : 1 ≤ rd p (i : Int)
        · simp [b, show ¬ rd p (i : Int) ≤ 6 from fun h => a ⟨b, h⟩]
        · simp [b]
      rw [hF]
      refine Ev.s ?_
      simp only [spec_PartsValid.j1, if_true, Bool.false_and]
      exact Ev.const rfl
theorem specPV_ev (p : List Int) (hl : p.length ≤ 1048576) : Ev (fun k => spec_PartsValid.f k p) (vP p) := by
  unfold spec_PartsValid.f vP
  have h := specPV_run p hl p.length 0 0 6 (by omega) (by omega) (by omega) (by omega) (fun _ => rfl) (fun h => by omega)
  simpa using h
theorem vP_len (p : List Int) (h : vP p = true) : p.length ≤ 6 ∧ 1 ≤ totP p ∧ totP p ≤ 6 ∧ ∀ x ∈ p, 1 ≤ x ∧ x ≤ 6 := by
  simp only [vP, Bool.and_eq_true, decide_eq_true_eq] at h
  have := okP_tot _ _ h.1
  exact ⟨by omega, h.2.1, h.2.2, okP_at _ _ h.1⟩
theorem implSum_run (p : List Int) (hl : p.length ≤ 6) (h6 : ∀ x ∈ p, 1 ≤ x ∧ x ≤ 6) : ∀ (d i : Nat) (s : Int), p.length - i = d → i ≤ p.length → 0 ≤ s → s ≤ 6 * i → Ev (fun k => impl_sumOf.l0 k s p p.length i) (s + totP (p.drop i))
  | 0, i, s, hd, hi, h0, h1 => by
    refine Ev.s ?_
    have e : i = p.length := by omega
    rw [e, List.drop_length]
    simp only [impl_sumOf.l0, show ¬ (p.length : Int) < (p.length : Int) by omega, if_false, totP, Int.add_zero]
    exact Ev.const rfl
  | d + 1, i, s, hd, hi, h0, h1 => by
    have hlt : i < p.length := by omega
    have hx := h6 _ (List.getElem_mem hlt)
    rw [← rd_lt p i hlt] at hx
    rw [drop_rd p i hlt]
    refine Ev.s ?_
    simp only [impl_sumOf.l0, show (i : Int) < (p.length : Int) by omega, show (0 : Int) ≤ i by omega, if_true, totP]
    rw [w64n (by omega), w64 (x := s + rd p (i : Int)) (by omega) (by omega), ← Int.add_assoc]
    exact implSum_run p hl h6 d (i + 1) _ (by omega) (by omega) (by omega) (by omega)
theorem implSum_ev (p : List Int) (h : vP p = true) : Ev (fun k => impl_sumOf.f k p) (totP p) := by
  have h2 := vP_len p h
  unfold impl_sumOf.f
  have h := implSum_run p h2.1 h2.2.2.2 p.length 0 0 (by omega) (by omega) (by omega) (by omega)
  simpa using h
theorem specSum_run (p : List Int) (hl : p.length ≤ 6) (h6 : ∀ x ∈ p, 0 ≤ x ∧ x ≤ 6) : ∀ (d i : Nat) (s : Int), p.length - i = d → i ≤ p.length → 0 ≤ s → s ≤ 6 * i → Ev (fun k => spec_l5Sum.l0 k p s i) (s + totP (p.drop i))
  | 0, i, s, hd, hi, h0, h1 => by
    refine Ev.s ?_
    have e : i = p.length := by omega
    rw [e, List.drop_length]
    simp only [spec_l5Sum.l0, show ¬ (p.length : Int) < (p.length : Int) by omega, if_false, totP, Int.add_zero]
    exact Ev.const rfl
  | d + 1, i, s, hd, hi, h0, h1 => by
    have hlt : i < p.length := by omega
    have hx := h6 _ (List.getElem_mem hlt)
    rw [← rd_lt p i hlt] at hx
    rw [drop_rd p i hlt]
    refine Ev.s ?_
    simp only [spec_l5Sum.l0, show (i : Int) < (p.length : Int) by omega, show (0 : Int) ≤ i by omega, if_true, totP]
    rw [w64n (by omega), w64 (x := s + rd p (i : Int)) (by omega) (by omega), ← Int.add_assoc]
    exact specSum_run p hl h6 d (i + 1) _ (by omega) (by omega) (by omega) (by omega)
theorem specSum_of (p : List Int) (hl : p.length ≤ 6) (h6 : ∀ x ∈ p, 0 ≤ x ∧ x ≤ 6) : Ev (fun k => spec_l5Sum.f k p) (totP p) := by
  unfold spec_l5Sum.f
  have h := specSum_run p hl h6 p.length 0 0 (by omega) (by omega) (by omega) (by omega)
  simpa using h
theorem specSum_ev (p : List Int) (h : vP p = true) : Ev (fun k => spec_l5Sum.f k p) (totP p) := by
  have h2 := vP_len p h
  exact specSum_of p h2.1 (fun x hx => by have := h2.2.2.2 x hx; omega)
def okT (l : List (List Int)) (j : Nat) : Prop := vP (rd_L1 l (j : Int)) = true ∧ totP (rd_L1 l (j : Int)) = totP (rd_L1 l 0)
def goodT (l : List (List Int)) : Prop := 1 ≤ l.length ∧ l.length ≤ 6 ∧ ∀ j : Nat, j < l.length → okT l j
theorem implTypes_run (l : List (List Int)) (hl : l.length ≤ 1048576) (h2 : ∀ j : Nat, j < l.length → (rd_L1 l (j : Int)).length ≤ 1048576) (h0 : 0 < l.length) : ∀ (d i : Nat), l.length - i = d → i ≤ l.length → (∀ j : Nat, j < i → okT l j) → ∃ r, Ev (fun k => impl_typesSum.l0 k l l l.length i) r ∧ (((∀ j : Nat, j < l.length → okT l j) ∧ r = totP (rd_L1 l 0)) ∨ (¬ (∀ j : Nat, j < l.length → okT l j) ∧ r = -1))
  | 0, i, hd, hi, ho => by
    have e : i = l.length := by omega
    subst e
    refine ⟨_, Ev.s ?_, Or.inl ⟨ho, rfl⟩⟩
    simp only [impl_typesSum.l0, show ¬ (l.length : Int) < (l.length : Int) by omega, if_false, show (0 : Int) < (l.length : Int) by omega, if_true]
    exact Ev.bind (implSum_ev _ (ho 0 h0).1) (Ev.const rfl)
  | d + 1, i, hd, hi, ho => by
    have hlt : i < l.length := by omega
    have hv := implPV_ev _ (h2 i hlt)
    by_cases a : vP (rd_L1 l (i : Int)) = true
    · rw [a] at hv
      have hs := implSum_ev _ a
      have a0 : vP (rd_L1 l 0) = true := by
        by_cases e : i = 0
        · subst e; exact a
        · exact (ho 0 (by omega)).1
      have hs0 := implSum_ev _ a0
      by_cases b : totP (rd_L1 l (i : Int)) = totP (rd_L1 l 0)
      · obtain ⟨r, e, h⟩ := implTypes_run l hl h2 h0 d (i + 1) (by omega) (by omega) (fun j hj => by
          by_cases e : j = i
          · subst e; exact ⟨a, b⟩
          · exact ho j (by omega))
        refine ⟨r, Ev.s ?_, h⟩
        simp only [impl_typesSum.l0, show (i : Int) < (l.length : Int) by omega, show (0 : Int) ≤ i by omega, show (0 : Int) < (l.length : Int) by omega, if_true]
        refine Ev.bind hv ?_
        simp only [if_true]
        refine Ev.bind hs (Ev.bind hs0 ?_)
        simp only [b, if_true]
        rw [w64n (by omega)]
        exact e
      · refine ⟨-1, Ev.s ?_, Or.inr ⟨fun h => b (h i hlt).2, rfl⟩⟩
        simp only [impl_typesSum.l0, show (i : Int) < (l.length : Int) by omega, show (0 : Int) ≤ i by omega, show (0 : Int) < (l.length : Int) by omega, if_true]
        refine Ev.bind hv ?_
        simp only [if_true]
        refine Ev.bind hs (Ev.bind hs0 ?_)
        simp only [b, if_false]
        exact Ev.const rfl
    · refine ⟨-1, Ev.s ?_, Or.inr ⟨fun h => a (h i hlt).1, rfl⟩⟩
      rw [Bool.not_eq_true] at a
      rw [a] at hv
      simp only [impl_typesSum.l0, show (i : Int) < (l.length : Int) by omega, show (0 : Int) ≤ i by omega, if_true]
      refine Ev.bind hv ?_
      simp only [Bool.false_eq_true, if_false]
      exact Ev.const rfl
theorem implTypes_ev (l : List (List Int)) (hl : l.length ≤ 1048576) (h2 : ∀ j : Nat, j < l.length → (rd_L1 l (j : Int)).length ≤ 1048576) : ∃ r, Ev (fun k => impl_typesSum.f k l) r ∧ ((goodT l ∧ r = totP (rd_L1 l 0)) ∨ (¬ goodT l ∧ r = -1)) := by
  unfold impl_typesSum.f
  by_cases a : (l.length : Int) < 1
  · refine ⟨-1, ?_, Or.inr ⟨fun h => by have := h.1; omega, rfl⟩⟩
    simp only [a, if_true]
    refine Ev.s ?_
    simp only [impl_typesSum.j0, if_true]
    exact Ev.const rfl
  · by_cases b : (l.length : Int) > 6
    · refine ⟨-1, ?_, Or.inr ⟨fun h => by have := h.2.1; omega, rfl⟩⟩
      simp only [a, b, if_false, decide_true]
      refine Ev.s ?_
      simp only [impl_typesSum.j0, if_true]
      exact Ev.const rfl
    · obtain ⟨r, e, h⟩ := implTypes_run l hl h2 (by omega) l.length 0 (by omega) (by omega) (fun j hj => by omega)
      refine ⟨r, ?_, h.imp (fun h => ⟨⟨by omega, by omega, h.1⟩, h.2⟩) (fun h => ⟨fun g => h.1 g.2.2, h.2⟩)⟩
      simp only [a, b, if_false, decide_false]
      refine Ev.s ?_
      simp only [impl_typesSum.j0, Bool.false_eq_true, if_false]
      exact e
theorem specTypes_run (l : List (List Int)) (hl : l.length ≤ 1048576) (h2 : ∀ j : Nat, j < l.length → (rd_L1 l (j : Int)).length ≤ 1048576) : ∀ (d i : Nat), l.length - i = d → i ≤ l.length → (∀ j : Nat, j < i → okT l j) → ∃ r, Ev (fun k => spec_l5Types.l0 k l i) r ∧ (r = true ↔ goodT l)
  | 0, i, hd, hi, ho => by
    have e : i = l.length := by omega
    subst e
    refine ⟨_, Ev.s ?_, (?_ : decide (1 ≤ (l.length : Int) ∧ (l.length : Int) ≤ 6) = true ↔ _)⟩
    · simp only [spec_l5Types.l0, show ¬ (l.length : Int) < (l.length : Int) by omega, if_false, l6In_ev, Option.bind_some]
      exact Ev.const rfl
    · rw [decide_eq_true_eq]
      exact ⟨fun h => ⟨by omega, by omega, ho⟩, fun h => ⟨by have := h.1; omega, by have := h.2.1; omega⟩⟩
  | d + 1, i, hd, hi, ho => by
    have hlt : i < l.length := by omega
    have hv := specPV_ev _ (h2 i hlt)
    by_cases a : vP (rd_L1 l (i : Int)) = true
    · rw [a] at hv
      have hs := specSum_ev _ a
      have a0 : vP (rd_L1 l 0) = true := by
        by_cases e : i = 0
        · subst e; exact a
        · exact (ho 0 (by omega)).1
      have hs0 := specSum_ev _ a0
      by_cases b : totP (rd_L1 l (i : Int)) = totP (rd_L1 l 0)
      · obtain ⟨r, e, h⟩ := specTypes_run l hl h2 d (i + 1) (by omega) (by omega) (fun j hj => by
          by_cases e : j = i
          · subst e; exact ⟨a, b⟩
          · exact ho j (by omega))
        refine ⟨r, Ev.s ?_, h⟩
        simp only [spec_l5Types.l0, show (i : Int) < (l.length : Int) by omega, show (0 : Int) ≤ i by omega, show (0 : Int) < (l.length : Int) by omega, if_true]
        refine Ev.bind hv ?_
        simp only [if_true]
        refine Ev.bind hs (Ev.bind hs0 ?_)
        simp only [b, if_true]
        rw [w64n (by omega)]
        exact e
      · refine ⟨false, Ev.s ?_, ⟨fun h => (by cases h), fun h => absurd (h.2.2 i hlt).2 b⟩⟩
        simp only [spec_l5Types.l0, show (i : Int) < (l.length : Int) by omega, show (0 : Int) ≤ i by omega, show (0 : Int) < (l.length : Int) by omega, if_true]
        refine Ev.bind hv ?_
        simp only [if_true]
        refine Ev.bind hs (Ev.bind hs0 ?_)
        simp only [b, if_false]
        exact Ev.const rfl
    · refine ⟨false, Ev.s ?_, ⟨fun h => (by cases h), fun h => absurd (h.2.2 i hlt).1 a⟩⟩
      rw [Bool.not_eq_true] at a
      rw [a] at hv
      simp only [spec_l5Types.l0, show (i : Int) < (l.length : Int) by omega, show (0 : Int) ≤ i by omega, if_true]
      refine Ev.bind hv ?_
      simp only [Bool.false_eq_true, if_false]
      exact Ev.const rfl
def smallT (l : List (List Int)) : Prop := goodT l ∧ l.length ≤ 3 ∧ totP (rd_L1 l 0) ≤ 4
theorem specSmall_ev (l : List (List Int)) (hl : l.length ≤ 1048576) (h2 : ∀ j : Nat, j < l.length → (rd_L1 l (j : Int)).length ≤ 1048576) : ∃ r, Ev (fun k => spec_l5Small.f k l) r ∧ (r = true ↔ smallT l) := by
  obtain ⟨b, e, h⟩ := specTypes_run l hl h2 l.length 0 (by omega) (by omega) (fun j hj => by omega)
  unfold spec_l5Small.f
  cases b with
  | false =>
    refine ⟨false, Ev.bind e ?_, ⟨fun h => (by cases h), fun g => absurd (h.2 g.1) (by decide)⟩⟩
    simp only [Bool.false_eq_true, if_false]
    exact Ev.const rfl
  | true =>
    have g := h.1 rfl
    by_cases c : (l.length : Int) ≤ 3
    · refine ⟨decide (totP (rd_L1 l 0) ≤ 4), Ev.bind e ?_, ?_⟩
      · simp only [if_true, c, show (0 : Int) < (l.length : Int) by have := g.1; omega]
        exact Ev.bind (specSum_ev _ (g.2.2 0 (by have := g.1; omega)).1) (Ev.const rfl)
      · rw [decide_eq_true_eq]
        exact ⟨fun h => ⟨g, by omega, h⟩, fun h => h.2.2⟩
    · refine ⟨false, Ev.bind e ?_, ⟨fun h => (by cases h), fun g => absurd g.2.1 (by omega)⟩⟩
      simp only [if_true, c, if_false]
      exact Ev.const rfl
def cw (p : List Int) : Nat → List Bool → List Int → Int → List Bool × List Int
  | 0, s, c, a => (s, c)
  | f + 1, s, c, a => if rdOf false s a = true then (s, c) else cw p f (s.set a.toNat true) (c ++ [a]) (rd p a)
def fresh (s : List Bool) : Nat := s.countP (fun b => !b)
def cyS (p : List Int) (n : Nat) : Nat → List Bool × List (List Int)
  | 0 => (List.replicate n false, [])
  | i + 1 =>
    let q := cw p (n + 1) (cyS p n i).1 [] i
    (q.1, if q.2 = [] then (cyS p n i).2 else (cyS p n i).2 ++ [q.2])
theorem fresh_set : ∀ (s : List Bool) (i : Nat), i < s.length → s.getD i false = false → fresh (s.set i true) + 1 = fresh s
  | b :: s, 0, _, h => by
    simp only [List.getD_cons_zero] at h
    subst h
    simp [fresh]
  | b :: s, i + 1, hi, h => by
    simp only [List.getD_cons_succ] at h
    have ih := fresh_set s i (by simpa using hi) h
    simp only [fresh, List.set_cons_succ, List.countP_cons] at ih ⊢
    omega
theorem rdOf_nat (s : List Bool) (a : Int) (h0 : 0 ≤ a) : rdOf false s a = s.getD a.toNat false := by
  unfold rdOf
  rfl
theorem cw_len (p : List Int) : ∀ (f : Nat) (s : List Bool) (c : List Int) (a : Int), (cw p f s c a).1.length = s.length
  | 0, s, c, a => rfl
  | f + 1, s, c, a => by
    simp only [cw]
    split
    · rfl
    · rw [cw_len p f]; simp
theorem spec_cw (p : List Int) (n : Nat) (hn : n ≤ 1048576) (hp : inR n p) (L : List (List Int)) (hL : L.length ≤ 1048576) (i : Int) (r : List (List Int)) : ∀ (f : Nat) (s : List Bool) (c : List Int) (a : Int), s.length = n → 0 ≤ a → a < n → fresh s < f → c.length + fresh s ≤ 1048577 →
    Ev (fun k => spec_l1Cycles.l0 k p (L ++ [(cw p f s c a).2]) (cw p f s c a).1 (wrap64 (i + 1))) r → Ev (fun k => spec_l1Cycles.l1 k p L s i c a) r
  | 0, s, c, a, hs, h0, h1, hf, hc, h => absurd hf (Nat.not_lt_zero _)
  | f + 1, s, c, a, hs, h0, h1, hf, hc, h => by
    refine Ev.s ?_
    simp only [cw] at h
    have hL' : L.length < 5864062014805 := by omega
    have hc' : c.length < 17592186044416 := by omega
    simp only [spec_l1Cycles.l1, h0, hs, h1, hp.1, hL', hc', if_true]
    by_cases e : rdOf false s a = true
    · simp only [e, if_true] at h ⊢
      exact h
    · simp only [e, if_false] at h ⊢
      have h3 : s.getD a.toNat false = false := by rw [← rdOf_nat s a h0]; simpa using e
      have h4 := fresh_set s a.toNat (by omega) h3
      have h5 := hp.2 a.toNat (by omega)
      rw [show ((a.toNat : Nat) : Int) = a by omega] at h5
      exact spec_cw p n hn hp L hL i r f _ _ _ (by simpa using hs) h5.1 h5.2 (by omega) (by simp only [List.length_append, List.length_cons, List.length_nil]; omega) h
theorem impl_cw (p : List Int) (n : Nat) (hn : n ≤ 1048576) (hp : inR n p) (L : List (List Int)) (hL : L.length ≤ 1048576) (m i : Int) (r : List (List Int)) : ∀ (f : Nat) (s : List Bool) (c : List Int) (a : Int), s.length = n → 0 ≤ a → a < n → fresh s < f → c.length + fresh s ≤ 1048577 →
    Ev (fun k => impl_cyclesOf.l0 k p (if (cw p f s c a).2 = [] then L else L ++ [(cw p f s c a).2]) (cw p f s c a).1 m (wrap64 (i + 1))) r → Ev (fun k => impl_cyclesOf.l1 k p L s c a m i) r
  | 0, s, c, a, hs, h0, h1, hf, hc, h => absurd hf (Nat.not_lt_zero _)
  | f + 1, s, c, a, hs, h0, h1, hf, hc, h => by
    refine Ev.s ?_
    simp only [cw] at h
    have hL' : L.length < 5864062014805 := by omega
    have hc' : c.length < 17592186044416 := by omega
    simp only [impl_cyclesOf.l1, h0, hs, h1, hp.1, hL', hc', if_true]
    by_cases e : rdOf false s a = true
    · simp only [e, if_true] at h ⊢
      cases c with
      | nil => simpa using h
      | cons b c => simpa using h
    · simp only [e, if_false] at h ⊢
      have h3 : s.getD a.toNat false = false := by rw [← rdOf_nat s a h0]; simpa using e
      have h4 := fresh_set s a.toNat (by omega) h3
      have h5 := hp.2 a.toNat (by omega)
      rw [show ((a.toNat : Nat) : Int) = a by omega] at h5
      exact impl_cw p n hn hp L hL m i r f _ _ _ (by simpa using hs) h5.1 h5.2 (by omega) (by simp only [List.length_append, List.length_cons, List.length_nil]; omega) h
theorem fresh_le (s : List Bool) : fresh s ≤ s.length := List.countP_le_length
theorem cyS_len (p : List Int) (n : Nat) : ∀ i, (cyS p n i).1.length = n
  | 0 => by simp [cyS]
  | i + 1 => by simp only [cyS]; rw [cw_len, cyS_len p n i]
theorem cyS_many (p : List Int) (n : Nat) : ∀ i, (cyS p n i).2.length ≤ i
  | 0 => by simp [cyS]
  | i + 1 => by
    have ih := cyS_many p n i
    simp only [cyS]
    split
    · omega
    · simp only [List.length_append, List.length_cons, List.length_nil]; omega
theorem cw_seen (p : List Int) (f : Nat) (s : List Bool) (c : List Int) (a : Int) (h : rdOf false s a = true) : cw p f s c a = (s, c) := by
  cases f with
  | zero => rfl
  | succ f => simp only [cw, h, if_true]
theorem cw_more (p : List Int) : ∀ (f : Nat) (s : List Bool) (c : List Int) (a : Int), c.length ≤ (cw p f s c a).2.length
  | 0, s, c, a => Nat.le_refl _
  | f + 1, s, c, a => by
    simp only [cw]
    split
    · exact Nat.le_refl _
    · have := cw_more p f (s.set a.toNat true) (c ++ [a]) (rd p a)
      simp only [List.length_append, List.length_cons, List.length_nil] at this
      omega
theorem cw_new (p : List Int) (f : Nat) (s : List Bool) (a : Int) (h : ¬ rdOf false s a = true) : (cw p (f + 1) s [] a).2 ≠ [] := by
  simp only [cw, h, Bool.false_eq_true, if_false]
  intro e
  have := cw_more p f (s.set a.toNat true) ([] ++ [a]) (rd p a)
  rw [e] at this
  simp at this
theorem specCyc_run (p : List Int) (n : Nat) (hn : n ≤ 1048575) (hp : inR n p) : ∀ (d i : Nat), n - i = d → i ≤ n → Ev (fun k => spec_l1Cycles.l0 k p (cyS p n i).2 (cyS p n i).1 i) (cyS p n n).2
  | 0, i, hd, hi => by
    have : i = n := by omega
    subst this
    refine Ev.s ?_
    simp only [spec_l1Cycles.l0, hp.1, show ¬ (i : Int) < (i : Int) by omega, if_false]
    exact Ev.const rfl
  | d + 1, i, hd, hi => by
    have ih := specCyc_run p n hn hp d (i + 1) (by omega) (by omega)
    have hl := cyS_len p n i
    have hm := cyS_many p n i
    have hf := fresh_le (cyS p n i).1
    have h1 : (i : Int) < (n : Int) := by omega
    have h0 : (0 : Int) ≤ (i : Int) := by omega
    refine Ev.s ?_
    simp only [spec_l1Cycles.l0, hp.1, hl, h1, h0, if_true]
    by_cases e : rdOf false (cyS p n i).1 (i : Int) = true
    · simp only [e, if_true]
      rw [w64n (by omega)]
      simp only [cyS, cw_seen p (n + 1) (cyS p n i).1 [] i e, if_true] at ih
      exact ih
    · simp only [e, if_false]
      refine spec_cw p n (by omega) hp _ (by omega) i _ (n + 1) _ _ _ hl h0 h1 (by omega) (by simp only [List.length_nil]; omega) ?_
      rw [w64n (by omega)]
      simp only [cyS, cw_new p n (cyS p n i).1 i e, if_false] at ih
      exact ih
theorem implCyc_run (p : List Int) (n : Nat) (hn : n ≤ 1048575) (hp : inR n p) : ∀ (d i : Nat), n - i = d → i ≤ n → Ev (fun k => impl_cyclesOf.l0 k p (cyS p n i).2 (cyS p n i).1 n i) (cyS p n n).2
  | 0, i, hd, hi => by
    have : i = n := by omega
    subst this
    refine Ev.s ?_
    simp only [impl_cyclesOf.l0, show ¬ (i : Int) < (i : Int) by omega, if_false]
    exact Ev.const rfl
  | d + 1, i, hd, hi => by
    have ih := implCyc_run p n hn hp d (i + 1) (by omega) (by omega)
    have hl := cyS_len p n i
    have hm := cyS_many p n i
    have hf := fresh_le (cyS p n i).1
    have h1 : (i : Int) < (n : Int) := by omega
    have h0 : (0 : Int) ≤ (i : Int) := by omega
    refine Ev.s ?_
    simp only [impl_cyclesOf.l0, h1, if_true]
    refine impl_cw p n (by omega) hp _ (by omega) n i _ (n + 1) _ _ _ hl h0 h1 (by omega) (by simp only [List.length_nil]; omega) ?_
    rw [w64n (by omega)]
    simp only [cyS] at ih
    exact ih
theorem specCyc_ev (p : List Int) (n : Nat) (hn : n ≤ 1048575) (hp : inR n p) : Ev (fun k => spec_l1Cycles.f k p) (cyS p n n).2 := by
  unfold spec_l1Cycles.f
  have h1 : n ≤ 281474976710656 := by omega
  have h2 : (0 : Int) ≤ (n : Int) := by omega
  simp only [hp.1, Int.toNat_natCast, h1, h2, if_true]
  exact specCyc_run p n hn hp n 0 (by omega) (by omega)
theorem implCyc_ev (p : List Int) (n : Nat) (hn : n ≤ 1048575) (hp : inR n p) : Ev (fun k => impl_cyclesOf.f k p) (cyS p n n).2 := by
  unfold impl_cyclesOf.f
  have h1 : n ≤ 281474976710656 := by omega
  have h2 : (0 : Int) ≤ (n : Int) := by omega
  simp only [hp.1, Int.toNat_natCast, h1, h2, if_true]
  exact implCyc_run p n hn hp n 0 (by omega) (by omega)
theorem take_set_one (l : List Int) (i : Nat) (v : Int) (h : i < l.length) : (l.set i v).take (i + 1) = l.take i ++ [v] := by
  rw [List.take_succ_eq_append_getElem (by simpa using h), List.take_set_of_le (Nat.le_refl _), List.getElem_set_self]
def mulL (a b : List Int) : Nat → List Int
  | 0 => []
  | i + 1 => mulL a b i ++ [rd b (rd a i)]
theorem mulL_length (a b : List Int) : ∀ n, (mulL a b n).length = n
  | 0 => rfl
  | n + 1 => by simp [mulL, mulL_length a b n]
theorem mulL_rd (a b : List Int) : ∀ (n i : Nat), i < n → rd (mulL a b n) i = rd b (rd a i)
  | n + 1, i, h => by
    simp only [mulL]
    by_cases e : i < n
    · rw [rd_app_lt _ _ _ (by rw [mulL_length]; exact e), mulL_rd a b n i e]
    · have : i = n := by omega
      subst this
      have h2 : i < (mulL a b i ++ [rd b (rd a (i : Int))]).length := by simp [mulL_length]
      rw [rd_lt _ i h2, List.getElem_append_right (by rw [mulL_length]; exact Nat.le_refl _)]
      simp [mulL_length]
theorem mulL_inR (n : Nat) (a b : List Int) (ha : inR n a) (hb : inR n b) : inR n (mulL a b n) := by
  refine ⟨mulL_length a b n, fun i hi => ?_⟩
  rw [mulL_rd a b n i hi]
  have h1 := ha.2 i hi
  have h2 := hb.2 (rd a i).toNat (by omega)
  rwa [show ((rd a i).toNat : Int) = rd a i by omega] at h2
theorem specMul_run (n : Nat) (hn : n ≤ 1048576) (a b : List Int) (ha : inR n a) (hb : inR n b) : ∀ (d i : Nat), n - i = d → i ≤ n → Ev (fun k => spec_l1Mul.l0 k a b (mulL a b i) i) (mulL a b n)
  | 0, i, hd, hi => by
    have : i = n := by omega
    subst this
    refine Ev.s ?_
    simp only [spec_l1Mul.l0, ha.1, show ¬ (i : Int) < (i : Int) by omega, if_false]
    exact Ev.const rfl
  | d + 1, i, hd, hi => by
    have h1 := ha.2 i (by omega)
    have hb1 := hb.1
    refine Ev.s ?_
    simp only [spec_l1Mul.l0, ha.1, hb1, mulL_length, show (i : Int) < (n : Int) by omega, show (0 : Int) ≤ (i : Int) by omega, h1.1, h1.2, show i < 17592186044416 by omega, if_true]
    rw [w64n (by omega)]
    exact specMul_run n hn a b ha hb d (i + 1) (by omega) (by omega)
theorem specMul_ev (n : Nat) (hn : n ≤ 1048576) (a b : List Int) (ha : inR n a) (hb : inR n b) : Ev (fun k => spec_l1Mul.f k a b) (mulL a b n) := by
  unfold spec_l1Mul.f
  exact specMul_run n hn a b ha hb n 0 (by omega) (by omega)
theorem implMul_run (n : Nat) (hn : n ≤ 1048576) (a b : List Int) (ha : inR n a) (hb : inR n b) : ∀ (d i : Nat) (l : List Int), n - i = d → i ≤ n → l.length = n → l.take i = mulL a b i → Ev (fun k => impl_mul.l0 k b l a n i) (mulL a b n)
  | 0, i, l, hd, hi, hl, ht => by
    have : i = n := by omega
    subst this
    refine Ev.s ?_
    simp only [impl_mul.l0, show ¬ (i : Int) < (i : Int) by omega, if_false]
    rw [List.take_of_length_le (by omega)] at ht
    exact Ev.const (by rw [ht])
  | d + 1, i, l, hd, hi, hl, ht => by
    have h1 := ha.2 i (by omega)
    have hb1 := hb.1
    refine Ev.s ?_
    simp only [impl_mul.l0, ha.1, hb1, hl, show (i : Int) < (n : Int) by omega, show (0 : Int) ≤ (i : Int) by omega, h1.1, h1.2, if_true, Int.toNat_natCast]
    rw [w64n (by omega)]
    refine implMul_run n hn a b ha hb d (i + 1) _ (by omega) (by omega) (by simpa using hl) ?_
    rw [take_set_one _ _ _ (by omega), ht]
    rfl
theorem implMul_ev (n : Nat) (hn : n ≤ 1048576) (a b : List Int) (ha : inR n a) (hb : inR n b) : Ev (fun k => impl_mul.f k a b) (mulL a b n) := by
  unfold impl_mul.f
  have h1 : n ≤ 35184372088832 := by omega
  have h2 : (0 : Int) ≤ (n : Int) := by omega
  simp only [ha.1, Int.toNat_natCast, h1, h2, if_true]
  exact implMul_run n hn a b ha hb n 0 _ (by omega) (by omega) (by simp) (by simp [mulL])
theorem cw_bound (p : List Int) (n : Nat) (hp : inR n p) : ∀ (f : Nat) (s : List Bool) (c : List Int) (a : Int), s.length = n → 0 ≤ a → a < n → (cw p f s c a).2.length + fresh (cw p f s c a).1 ≤ c.length + fresh s
  | 0, s, c, a, hs, h0, h1 => Nat.le_refl _
  | f + 1, s, c, a, hs, h0, h1 => by
    simp only [cw]
    by_cases e : rdOf false s a = true
    · simp only [e, if_true]
      exact Nat.le_refl _
    · simp only [e, Bool.false_eq_true, if_false]
      have h3 : s.getD a.toNat false = false := by rw [← rdOf_nat s a h0]; simpa using e
      have h4 := fresh_set s a.toNat (by omega) h3
      have h5 := hp.2 a.toNat (by omega)
      rw [show ((a.toNat : Nat) : Int) = a by omega] at h5
      have ih := cw_bound p n hp f (s.set a.toNat true) (c ++ [a]) (rd p a) (by simpa using hs) h5.1 h5.2
      rw [List.length_append, List.length_singleton] at ih
      omega
theorem cyS_bound (p : List Int) (n : Nat) (hp : inR n p) : ∀ i, i ≤ n → ∀ l ∈ (cyS p n i).2, 1 ≤ l.length ∧ l.length ≤ n
  | 0, _, l, hl => by simp [cyS] at hl
  | i + 1, hi, l, hl => by
    have ih := cyS_bound p n hp i (by omega) l
    simp only [cyS] at hl
    have hb := cw_bound p n hp (n + 1) (cyS p n i).1 [] i (cyS_len p n i) (by omega) (by omega)
    have hf := fresh_le (cyS p n i).1
    rw [cyS_len] at hf
    rw [List.length_nil, Nat.zero_add] at hb
    by_cases e : (cw p (n + 1) (cyS p n i).1 [] (i : Int)).2 = []
    · rw [if_pos e] at hl
      exact ih hl
    · rw [if_neg e, List.mem_append] at hl
      rcases hl with hl | hl
      · exact ih hl
      · rw [List.mem_singleton.1 hl]
        have : 0 < (cw p (n + 1) (cyS p n i).1 [] (i : Int)).2.length := List.length_pos_iff.2 e
        omega
theorem cyS_pos (p : List Int) (n : Nat) (h1 : 1 ≤ n) : 0 < (cyS p n n).2.length := by
  have hm : ∀ i, 1 ≤ i → 0 < (cyS p n i).2.length := by
    intro i
    induction i with
    | zero => intro h; omega
    | succ i ih =>
      intro _
      simp only [cyS]
      by_cases hi : 1 ≤ i
      · have := ih hi
        split
        · exact this
        · rw [List.length_append]; omega
      · have : i = 0 := by omega
        subst this
        rw [if_neg (cw_new p n _ _ (by show ¬ (List.replicate n false).getD 0 false = true; rw [List.getD_eq_getElem?_getD, List.getElem?_replicate]; split <;> simp))]
        rw [List.length_append, List.length_singleton]
        omega
  exact hm n h1
def lensL (C : List (List Int)) : List Int := C.map fun l => (l.length : Int)
theorem lens_take (C : List (List Int)) (i : Nat) (h : i < C.length) : lensL (C.take (i + 1)) = lensL (C.take i) ++ [((rd_L1 C (i : Int)).length : Int)] := by
  unfold lensL rd_L1
  rw [List.take_succ_eq_append_getElem h, List.map_append, Int.toNat_natCast, List.getD_eq_getElem?_getD, List.getElem?_eq_getElem h]
  rfl
def tlL (C : List (List Int)) : Nat → List Int
  | 0 => []
  | d + 1 => List.replicate (C.countP fun l => decide (l.length = d + 1)) ((d + 1 : Nat) : Int) ++ tlL C d
theorem tlL_len (C : List (List Int)) : ∀ d, (tlL C d).length ≤ d * C.length
  | 0 => by simp [tlL]
  | d + 1 => by
    have ih := tlL_len C d
    have := List.countP_le_length (p := fun l : List Int => decide (l.length = d + 1)) (l := C)
    simp only [tlL, List.length_append, List.length_replicate]
    rw [Nat.succ_mul]
    omega
theorem type_inner (C : List (List Int)) (hC : C.length ≤ 12) (n : Nat) (v : Nat) (hv : v ≤ 12) (r : List Int) : ∀ (d i : Nat) (acc : List Int), C.length - i = d → i ≤ C.length → acc.length + d ≤ 1000 →
    Ev (fun k => spec_l1Type.l0 k (acc ++ List.replicate ((C.drop i).countP fun l => decide (l.length = v)) (v : Int)) C (wrap64 ((v : Int) - 1))) r → Ev (fun k => spec_l1Type.l1 k acc C v i) r
  | 0, i, acc, hd, hi, ha, h => by
    refine Ev.s ?_
    rw [List.drop_eq_nil_of_le (by omega)] at h
    simp only [List.countP_nil, List.replicate_zero, List.append_nil] at h
    simp only [spec_l1Type.l1, show ¬ (i : Int) < (C.length : Int) by omega, if_false]
    exact h
  | d + 1, i, acc, hd, hi, ha, h => by
    have hlt : i < C.length := by omega
    have hrd : rd_L1 C (i : Int) = C[i] := by unfold rd_L1; rw [Int.toNat_natCast, List.getD_eq_getElem?_getD, List.getElem?_eq_getElem hlt]; rfl
    rw [List.drop_eq_getElem_cons hlt, List.countP_cons] at h
    refine Ev.s ?_
    simp only [spec_l1Type.l1, show (i : Int) < (C.length : Int) by omega, show (0 : Int) ≤ (i : Int) by omega, hrd, if_true, w64n (show i < 4611686018427387904 by omega)]
    by_cases e : C[i].length = v
    · simp only [e, decide_true, if_true, show acc.length < 17592186044416 by omega] at h ⊢
      refine type_inner C hC n v hv r d (i + 1) (acc ++ [(v : Int)]) (by omega) (by omega) (by rw [List.length_append, List.length_singleton]; omega) ?_
      rw [List.append_assoc, List.singleton_append, ← List.replicate_succ]
      exact h
    · simp only [e, decide_false, Bool.false_eq_true, if_false, Nat.add_zero] at h
      simp only [show ¬ ((C[i].length : Nat) : Int) = (v : Int) by omega, if_false]
      exact type_inner C hC n v hv r d (i + 1) acc (by omega) (by omega) (by omega) h
theorem type_outer (C : List (List Int)) (hC : C.length ≤ 12) : ∀ (d : Nat) (acc : List Int), d ≤ 12 → acc.length + 12 * d ≤ 500 → Ev (fun k => spec_l1Type.l0 k acc C (d : Int)) (acc ++ tlL C d)
  | 0, acc, hd, ha => by
    refine Ev.s ?_
    simp only [spec_l1Type.l0, tlL, List.append_nil, show ¬ ((0 : Nat) : Int) > 0 by omega, if_false]
    exact Ev.const rfl
  | d + 1, acc, hd, ha => by
    have hc := List.countP_le_length (p := fun l : List Int => decide (l.length = d + 1)) (l := C)
    have ih := type_outer C hC d (acc ++ List.replicate (C.countP fun l => decide (l.length = d + 1)) ((d + 1 : Nat) : Int)) (by omega) (by rw [List.length_append, List.length_replicate]; omega)
    refine Ev.s ?_
    simp only [spec_l1Type.l0, show ((d + 1 : Nat) : Int) > 0 by omega, if_true]
    refine type_inner C hC 0 (d + 1) hd _ C.length 0 acc (by omega) (by omega) (by omega) ?_
    rw [List.drop_zero, w64 (x := ((d + 1 : Nat) : Int) - 1) (by omega) (by omega), show ((d + 1 : Nat) : Int) - 1 = (d : Int) by omega]
    rw [List.append_assoc] at ih
    exact ih
theorem rd_setN (l : List Int) (i j : Nat) (v : Int) (h : i < l.length) : rd (l.set i v) (j : Int) = if j = i then v else rd l (j : Int) := by
  by_cases e : j = i
  · subst e
    rw [if_pos rfl, rd_set_self l j v h]
  · rw [if_neg e, rd_set_ne l i j v (fun z => e z.symm)]
theorem rev_exact_run (l : List Int) (hl : l.length ≤ 1048576) : ∀ (d i : Nat) (m : List Int), l.length - 2 * i ≤ d → 2 * i ≤ l.length + 1 → m.length = l.length →
    (∀ z : Nat, z < l.length → rd m (z : Int) = if z < i ∨ l.length < z + i + 1 then rd l ((l.length - 1 - z : Nat) : Int) else rd l (z : Int)) → Ev (fun k => slices_Reverse_int_int.l0 k m (i : Int) ((l.length : Int) - 1 - (i : Int))) l.reverse
  | d, i, m, hd, hi, hm, hr => by
    by_cases hij : (i : Int) < (l.length : Int) - 1 - (i : Int)
    · obtain ⟨d, rfl⟩ : ∃ e, d = e + 1 := ⟨d - 1, by omega⟩
      have hjn : ((l.length : Int) - 1 - (i : Int)).toNat = l.length - 1 - i := by omega
      have hji : ((l.length : Int) - 1 - (i : Int)) = ((l.length - 1 - i : Nat) : Int) := by omega
      have ih := rev_exact_run l hl d (i + 1) ((m.set (i : Int).toNat (rd m ((l.length : Int) - 1 - (i : Int)))).set ((l.length : Int) - 1 - (i : Int)).toNat (rd m (i : Int))) (by omega) (by omega) (by simpa using hm) (by
        intro z hz
        rw [hjn, Int.toNat_natCast, rd_setN _ _ _ _ (by simp only [List.length_set]; omega), rd_setN _ _ _ _ (by omega), hji, hr (l.length - 1 - i) (by omega), hr i (by omega), hr z hz]
        by_cases e1 : z = l.length - 1 - i
        · subst e1
          rw [if_pos rfl, if_neg (by omega), if_pos (by omega)]
          congr 1
          omega
        · rw [if_neg e1]
          by_cases e2 : z = i
          · subst e2
            rw [if_pos rfl, if_neg (by omega), if_pos (by omega)]
          · rw [if_neg e2]
            by_cases e3 : z < i ∨ l.length < z + i + 1
            · rw [if_pos e3, if_pos (by omega)]
            · rw [if_neg e3, if_neg (by omega)])
      refine Ev.s ?_
      simp only [slices_Reverse_int_int.l0, hij, show (0 : Int) ≤ (l.length : Int) - 1 - (i : Int) by omega, show (l.length : Int) - 1 - (i : Int) < (m.length : Int) by omega, show (0 : Int) ≤ (i : Int) by omega, show (i : Int) < (m.length : Int) by omega, if_true]
      rw [w64 (x := (i : Int) + 1) (by omega) (by omega), w64 (x := (l.length : Int) - 1 - (i : Int) - 1) (by omega) (by omega), show (i : Int) + 1 = ((i + 1 : Nat) : Int) by omega, show (l.length : Int) - 1 - (i : Int) - 1 = (l.length : Int) - 1 - ((i + 1 : Nat) : Int) by omega]
      exact ih
    · have e : m = l.reverse := by
        refine list_ext _ _ (by rw [List.length_reverse, hm]) fun z hz => ?_
        rw [hm] at hz
        have hrev : rd l.reverse (z : Int) = rd l ((l.length - 1 - z : Nat) : Int) := by
          rw [rd_lt _ z (by simpa using hz), rd_lt l (l.length - 1 - z) (by omega), List.getElem_reverse]
        rw [hrev, hr z hz]
        by_cases e3 : z < i ∨ l.length < z + i + 1
        · rw [if_pos e3]
        · rw [if_neg e3]
          congr 1
          omega
      refine Ev.s ?_
      simp only [slices_Reverse_int_int.l0, hij, if_false]
      rw [e]
      exact Ev.const rfl
theorem rev_exact (l : List Int) (hl : l.length ≤ 1048576) : Ev (fun k => slices_Reverse_int_int.f k l) l.reverse := by
  unfold slices_Reverse_int_int.f
  rw [w64 (by omega) (by omega)]
  have := rev_exact_run l hl l.length 0 l (by omega) (by omega) rfl (fun z hz => by rw [if_neg (by omega)])
  simpa using this
theorem desc_uniq : ∀ (a b : List Int), a.Pairwise (fun x y => y ≤ x) → b.Pairwise (fun x y => y ≤ x) → a.Perm b → a = b
  | [], b, _, _, h => (List.nil_perm.1 h).symm
  | x :: a, b, ha, hb, h => by
    match b, hb, h with
    | [], _, h => exact absurd h.length_eq (by simp)
    | y :: b, hb, h =>
      rw [List.pairwise_cons] at ha hb
      have hx : x ∈ y :: b := h.mem_iff.1 (by simp)
      have hy : y ∈ x :: a := h.mem_iff.2 (by simp)
      have hxy : x = y := by
        rcases List.mem_cons.1 hx with e | hx
        · exact e
        · rcases List.mem_cons.1 hy with e | hy
          · exact e.symm
          · have h1 := hb.1 x hx
            have h2 := ha.1 y hy
            omega
      subst hxy
      rw [desc_uniq a b ha.2 hb.2 (List.Perm.cons_inv h)]
theorem tlL_desc (C : List (List Int)) : ∀ d, (tlL C d).Pairwise (fun x y => y ≤ x) ∧ ∀ x ∈ tlL C d, x ≤ (d : Int)
  | 0 => by simp [tlL]
  | d + 1 => by
    obtain ⟨ih1, ih2⟩ := tlL_desc C d
    constructor
    · simp only [tlL]
      rw [List.pairwise_append]
      refine ⟨List.pairwise_replicate.2 (.inr (Int.le_refl _)), ih1, fun x hx y hy => ?_⟩
      have := ih2 y hy
      rw [(List.mem_replicate.1 hx).2]
      omega
    · intro x hx
      simp only [tlL, List.mem_append] at hx
      rcases hx with hx | hx
      · rw [(List.mem_replicate.1 hx).2]; omega
      · have := ih2 x hx; omega
theorem tlL_count (C : List (List Int)) (x : Int) : ∀ d, (tlL C d).count x = C.countP fun l => decide (1 ≤ l.length ∧ l.length ≤ d ∧ (l.length : Int) = x)
  | 0 => by
    simp only [tlL, List.count_nil]
    exact (List.countP_eq_zero.2 fun l _ => by simp only [decide_eq_true_eq]; omega).symm
  | d + 1 => by
    have ih := tlL_count C x d
    simp only [tlL, List.count_append, List.count_replicate, ih]
    by_cases e : x = ((d + 1 : Nat) : Int)
    · subst e
      rw [if_pos (by simp), (List.countP_eq_zero (p := fun l : List Int => decide (1 ≤ l.length ∧ l.length ≤ d ∧ (l.length : Int) = ((d + 1 : Nat) : Int)))).2 (fun l _ => by simp only [decide_eq_true_eq]; omega), Nat.add_zero]
      refine List.countP_congr fun l _ => ?_
      simp only [decide_eq_true_eq]
      omega
    · rw [if_neg (by simp only [beq_iff_eq]; omega), Nat.zero_add]
      refine List.countP_congr fun l _ => ?_
      simp only [decide_eq_true_eq]
      omega
theorem tlL_perm (C : List (List Int)) (d : Nat) (h : ∀ l ∈ C, 1 ≤ l.length ∧ l.length ≤ d) : (tlL C d).Perm (lensL C) := by
  rw [List.perm_iff_count]
  intro x
  rw [tlL_count]
  unfold lensL List.count
  rw [List.countP_map]
  refine List.countP_congr fun l hl => ?_
  have := h l hl
  simp only [decide_eq_true_eq, Function.comp_apply, beq_iff_eq]
  omega
theorem typeOf_ev (p : List Int) (n : Nat) (hn : n ≤ 12) (h1 : 1 ≤ n) (hp : inR n p) : Ev (fun k => impl_typeOf.f k p) (tlL (cyS p n n).2 n) := by
  have hCb := cyS_bound p n hp n (Nat.le_refl _)
  have hCm := cyS_many p n n
  have hCp := cyS_pos p n h1
  have hll : (lensL (cyS p n n).2).length = (cyS p n n).2.length := by simp [lensL]
  have hs : ((lensL (cyS p n n).2).mergeSort fun x y => decide (x ≤ y)).length = (cyS p n n).2.length := by rw [List.length_mergeSort, hll]
  have hrev : ((lensL (cyS p n n).2).mergeSort fun x y => decide (x ≤ y)).reverse = tlL (cyS p n n).2 n := by
    refine desc_uniq _ _ ?_ (tlL_desc _ n).1 ?_
    · rw [List.pairwise_reverse]
      have := List.pairwise_mergeSort (le := fun x y : Int => decide (x ≤ y)) (fun a b c h1 h2 => by simp only [decide_eq_true_eq] at *; omega) (fun a b => by simp only [Bool.or_eq_true, decide_eq_true_eq]; omega) (lensL (cyS p n n).2)
      exact this.imp fun h => by simpa using h
    · exact (List.reverse_perm _).trans ((List.mergeSort_perm _ _).trans (tlL_perm _ n hCb).symm)
  have r1 := rev_exact ((lensL (cyS p n n).2).mergeSort fun x y => decide (x ≤ y)) (by omega)
  rw [hrev] at r1
  have hsort : slices_Sort_int_int.f (lensL (cyS p n n).2) = some ((lensL (cyS p n n).2).mergeSort fun x y => decide (x ≤ y)) := by
    unfold slices_Sort_int_int.f
    rw [if_pos ⟨by omega, by omega⟩]
  have run : ∀ (d i : Nat), (cyS p n n).2.length - i = d → i ≤ (cyS p n n).2.length → Ev (fun k => impl_typeOf.l0 k (lensL ((cyS p n n).2.take i)) (cyS p n n).2 (cyS p n n).2.length i) (tlL (cyS p n n).2 n) := by
    intro d
    induction d with
    | zero =>
      intro i hd hi
      have e : i = (cyS p n n).2.length := by omega
      rw [e, List.take_length]
      refine Ev.s ?_
      simp only [impl_typeOf.l0, show ¬ ((cyS p n n).2.length : Int) < ((cyS p n n).2.length : Int) by omega, if_false, hsort, Option.bind_some]
      exact Ev.bind r1 (Ev.const rfl)
    | succ d ih =>
      intro i hd hi
      have h := ih (i + 1) (by omega) (by omega)
      rw [lens_take _ i (by omega)] at h
      have hlt : (lensL ((cyS p n n).2.take i)).length < 17592186044416 := by simp only [lensL, List.length_map, List.length_take]; omega
      refine Ev.s ?_
      simp only [impl_typeOf.l0, show (i : Int) < ((cyS p n n).2.length : Int) by omega, show (0 : Int) ≤ (i : Int) by omega, hlt, if_true, w64n (show i < 4611686018427387904 by omega)]
      exact h
  unfold impl_typeOf.f
  refine Ev.bind (implCyc_ev p n (by omega) hp) ?_
  exact run _ 0 rfl (by omega)
theorem l1Type_ev (p : List Int) (n : Nat) (hn : n ≤ 12) (hp : inR n p) : Ev (fun k => spec_l1Type.f k p) (tlL (cyS p n n).2 n) := by
  have hCm := cyS_many p n n
  unfold spec_l1Type.f
  refine Ev.bind (specCyc_ev p n (by omega) hp) ?_
  rw [hp.1]
  exact type_outer (cyS p n n).2 (by omega) n [] (by omega) (by simp only [List.length_nil]; omega)
theorem index_run (c : List Int) (hc : c.length ≤ 1048576) (x : Int) : ∀ (d i : Nat), c.length - i = d → i ≤ c.length → ∃ v : Int, Ev (fun k => slices_Index_int_int.l0 k c x c.length i) v ∧ (v ≥ 0 ↔ x ∈ c.drop i)
  | 0, i, hd, hi => by
    refine ⟨-1, Ev.s ?_, ?_⟩
    · simp only [slices_Index_int_int.l0, show ¬ (i : Int) < (c.length : Int) by omega, if_false]
      exact Ev.const rfl
    · rw [List.drop_eq_nil_of_le (by omega)]
      simp
  | d + 1, i, hd, hi => by
    have hlt : i < c.length := by omega
    have e := rd_lt c i hlt
    by_cases h : x = rd c i
    · refine ⟨i, Ev.s ?_, ?_⟩
      · simp only [slices_Index_int_int.l0, show (i : Int) < (c.length : Int) by omega, show (0 : Int) ≤ (i : Int) by omega, if_true]
        rw [← h]
        simp only [if_true]
        exact Ev.const rfl
      · rw [List.drop_eq_getElem_cons hlt, ← e, ← h]
        exact ⟨fun _ => List.mem_cons_self, fun _ => by omega⟩
    · obtain ⟨v, v1, v2⟩ := index_run c hc x d (i + 1) (by omega) (by omega)
      refine ⟨v, Ev.s ?_, ?_⟩
      · simp only [slices_Index_int_int.l0, show (i : Int) < (c.length : Int) by omega, show (0 : Int) ≤ (i : Int) by omega, if_true, h, if_false, w64n (show i < 4611686018427387904 by omega)]
        exact v1
      · rw [v2, List.drop_eq_getElem_cons hlt, List.mem_cons]
        exact ⟨.inr, fun z => z.elim (fun y => absurd (by rw [e, y]) h) id⟩
theorem contains_ev (c : List Int) (hc : c.length ≤ 1048576) (x : Int) : Ev (fun k => slices_Contains_int_int.f k c x) (decide (x ∈ c)) := by
  obtain ⟨v, v1, v2⟩ := index_run c hc x c.length 0 (by omega) (by omega)
  unfold slices_Contains_int_int.f slices_Index_int_int.f
  refine Ev.bind v1 (Ev.const ?_)
  rw [List.drop_zero] at v2
  congr 1
  rw [Bool.eq_iff_iff, decide_eq_true_eq, decide_eq_true_eq]
  exact v2
theorem fwrap_mod (x : Int) : ∃ k : Int, wrap64 x = x + k * 18446744073709551616 := by
  unfold wrap64
  refine ⟨-((x + 9223372036854775808) / 18446744073709551616), ?_⟩
  omega
theorem fwrap_add_mul (x k : Int) : wrap64 (x + k * 18446744073709551616) = wrap64 x := by
  unfold wrap64
  omega
theorem wrap_addl (a b : Int) : wrap64 (wrap64 a + b) = wrap64 (a + b) := by
  obtain ⟨k1, e1⟩ := fwrap_mod a
  rw [e1, show a + k1 * 18446744073709551616 + b = (a + b) + k1 * 18446744073709551616 by omega, fwrap_add_mul]
theorem wrap_addr (a b : Int) : wrap64 (a + wrap64 b) = wrap64 (a + b) := by
  rw [Int.add_comm, wrap_addl, Int.add_comm]
theorem equal_run (a b : List Int) (ha : a.length ≤ 1048576) (hb : b.length = a.length) : ∀ (d i : Nat), a.length - i = d → i ≤ a.length → Ev (fun k => slices_Equal_int_int.l0 k a b a.length i) (decide (a.drop i = b.drop i))
  | 0, i, hd, hi => by
    have e : i = a.length := by omega
    subst e
    refine Ev.s ?_
    rw [List.drop_length, ← hb, List.drop_length]
    simp only [slices_Equal_int_int.l0, show ¬ (b.length : Int) < (b.length : Int) by omega, if_false, decide_true]
    exact Ev.const rfl
  | d + 1, i, hd, hi => by
    have h1 : i < a.length := by omega
    have h2 : i < b.length := by omega
    refine Ev.s ?_
    rw [drop_rd a i h1, drop_rd b i h2]
    simp only [slices_Equal_int_int.l0, show (i : Int) < (a.length : Int) by omega, show (i : Int) < (b.length : Int) by omega, show (0 : Int) ≤ (i : Int) by omega, if_true]
    by_cases e : rd a (i : Int) = rd b (i : Int)
    · simp only [e, if_true, List.cons.injEq, true_and, w64n (show i < 4611686018427387904 by omega)]
      exact equal_run a b ha hb d (i + 1) (by omega) (by omega)
    · simp only [e, if_false, List.cons.injEq, false_and, decide_false]
      exact Ev.const rfl
theorem equal_ev (a b : List Int) (ha : a.length ≤ 1048576) : Ev (fun k => slices_Equal_int_int.f k a b) (decide (a = b)) := by
  unfold slices_Equal_int_int.f
  by_cases h : (a.length : Int) = (b.length : Int)
  · simp only [h, if_true]
    have := equal_run a b ha (by omega) a.length 0 (by omega) (by omega)
    rw [List.drop_zero, List.drop_zero, show (a.length : Int) = (b.length : Int) from h] at this
    exact this
  · simp only [h, if_false]
    rw [decide_eq_false (fun e => h (by rw [e]))]
    exact Ev.const rfl
def Runs {σ : Type} (step : Nat → σ → List Int → Option σ) : σ → List (List Int) → σ → Prop
  | s, [], s' => s = s'
  | s, p :: L, s' => ∃ s1, Ev (fun k => step k s p) s1 ∧ Runs step s1 L s'
theorem Runs.split {σ : Type} {step : Nat → σ → List Int → Option σ} : ∀ (L1 L2 : List (List Int)) (s s' : σ), Runs step s (L1 ++ L2) s' → ∃ s1, Runs step s L1 s1 ∧ Runs step s1 L2 s'
  | [], L2, s, s', h => ⟨s, rfl, h⟩
  | p :: L1, L2, s, s', h => by
    obtain ⟨s1, e, h⟩ := h
    obtain ⟨s2, h1, h2⟩ := Runs.split L1 L2 s1 s' h
    exact ⟨s2, ⟨s1, e, h1⟩, h2⟩
def pl (n : Nat) : Nat → List Int → List (List Int)
  | 0, p => [p]
  | m + 1, p => (List.range' 0 n).flatMap fun (i : Nat) => if (i : Int) ∈ p then [] else pl n m (p ++ [(i : Int)])
theorem perm_ev {σ : Type} (step : Nat → σ → List Int → Option σ) (n : Nat) (hn : n ≤ 12) : ∀ (m : Nat) (p : List Int) (s s' : σ), p.length + m = n → Runs step s (pl n m p) s' → Ev (fun k => permG step k n s p) s'
  | 0, p, s, s', hl, h => by
    obtain ⟨s1, e, h⟩ := h
    have h : s1 = s' := h
    subst h
    refine Ev.s ?_
    simp only [permG, show (p.length : Int) = (n : Int) by omega, if_true]
    exact e
  | m + 1, p, s, s', hl, h => by
    have ih := perm_ev step n hn m
    have loop : ∀ (d i : Nat) (s : σ), n - i = d → i ≤ n → Runs step s ((List.range' i d).flatMap fun (i : Nat) => if (i : Int) ∈ p then [] else pl n m (p ++ [(i : Int)])) s' → Ev (fun k => permL step k n s p i) s' := by
      intro d
      induction d with
      | zero =>
        intro i s hd hi h
        have h : s = s' := h
        subst h
        refine Ev.s ?_
        simp only [permL, show ¬ (i : Int) < (n : Int) by omega, if_false]
        exact Ev.const rfl
      | succ d ihd =>
        intro i s hd hi h
        rw [List.range'_succ, List.flatMap_cons] at h
        obtain ⟨s1, r1, r2⟩ := Runs.split _ _ _ _ h
        have hc := contains_ev p (by omega) (i : Int)
        have go := ihd (i + 1) s1 (by omega) (by omega) r2
        refine Ev.s ?_
        simp only [permL, show (i : Int) < (n : Int) by omega, if_true]
        refine Ev.bind hc ?_
        by_cases b : (i : Int) ∈ p
        · rw [if_pos b] at r1
          have r1 : s = s1 := r1
          subst r1
          simp only [b, decide_true, if_true, w64n (show i < 4611686018427387904 by omega)]
          exact go
        · rw [if_neg b] at r1
          have e1 := ih (p ++ [(i : Int)]) s s1 (by simp only [List.length_append, List.length_cons, List.length_nil]; omega) r1
          simp only [b, decide_false, Bool.false_eq_true, if_false, slices_Clone_int_int.f, show p.length < 17592186044416 by omega, if_true, Option.bind_some, List.length_cons, List.length_nil, show p.length + (0 + 1) < 17592186044416 by omega]
          refine Ev.bind e1 ?_
          simp only [w64n (show i < 4611686018427387904 by omega)]
          exact go
    refine Ev.s ?_
    simp only [permG, show ¬ (p.length : Int) = (n : Int) by omega, if_false]
    exact loop n 0 s (by omega) (by omega) h
theorem pl_inR (n : Nat) : ∀ (m : Nat) (p : List Int), p.length + m = n → (∀ x ∈ p, 0 ≤ x ∧ x < n) → ∀ q ∈ pl n m p, q.length = n ∧ ∀ x ∈ q, 0 ≤ x ∧ x < n
  | 0, p, hl, hp, q, hq => by
    have : q = p := by simpa [pl] using hq
    subst this
    exact ⟨by omega, hp⟩
  | m + 1, p, hl, hp, q, hq => by
    simp only [pl, List.mem_flatMap, List.mem_range'_1] at hq
    obtain ⟨i, hi, hq⟩ := hq
    split at hq
    · simp at hq
    · refine pl_inR n m (p ++ [(i : Int)]) (by simp only [List.length_append, List.length_cons, List.length_nil]; omega) (fun x hx => ?_) q hq
      rcases List.mem_append.1 hx with hx | hx
      · exact hp x hx
      · have : x = i := by simpa using hx
        omega
def PL (n : Nat) : List (List Int) := pl n n []
theorem PL_inR (n : Nat) (q : List Int) (hq : q ∈ PL n) : inR n q := by
  obtain ⟨h1, h2⟩ := pl_inR n n [] (by simp) (by simp) q hq
  refine ⟨h1, fun i hi => ?_⟩
  rw [rd_lt q i (by omega)]
  exact h2 _ (List.getElem_mem _)
def TY (n : Nat) (p : List Int) : List Int := tlL (cyS p n n).2 n
def FL (n : Nat) (L : List (List Int)) (t : List Int) : List (List Int) := L.filter fun p => decide (TY n p = t)
theorem TY_len (n : Nat) (hn : n ≤ 12) (p : List Int) : (TY n p).length ≤ 1048576 := by
  have h1 := tlL_len (cyS p n n).2 n
  have h2 := cyS_many p n n
  have h3 : n * (cyS p n n).2.length ≤ 12 * 12 := Nat.mul_le_mul hn (by omega)
  unfold TY
  omega
theorem FL_app (n : Nat) (L : List (List Int)) (p t : List Int) : FL n (L ++ [p]) t = if TY n p = t then FL n L t ++ [p] else FL n L t := by
  unfold FL
  rw [List.filter_append]
  by_cases h : TY n p = t <;> simp [h]
theorem FL_len (n : Nat) (L : List (List Int)) (t : List Int) : (FL n L t).length ≤ L.length := List.length_filter_le _ _
def csAt (n : Nat) (ts : List (List Int)) (L : List (List Int)) (p : List Int) (i : Nat) : List (List (List Int)) := (ts.take i).map (FL n (L ++ [p])) ++ (ts.drop i).map (FL n L)
theorem csAt_get (n : Nat) (ts : List (List Int)) (L : List (List Int)) (p : List Int) (i : Nat) (h : i < ts.length) : (csAt n ts L p i).getD i [] = FL n L ts[i] := by
  have h1 : ((ts.take i).map (FL n (L ++ [p]))).length = i := by rw [List.length_map, List.length_take]; omega
  unfold csAt
  rw [List.getD_eq_getElem?_getD, List.getElem?_append_right (by omega), h1, Nat.sub_self, List.drop_eq_getElem_cons h, List.map_cons, List.getElem?_cons_zero]
  rfl
theorem csAt_succ (n : Nat) (ts : List (List Int)) (L : List (List Int)) (p : List Int) (i : Nat) (h : i < ts.length) : (csAt n ts L p i).set i (FL n (L ++ [p]) ts[i]) = csAt n ts L p (i + 1) := by
  have h1 : ((ts.take i).map (FL n (L ++ [p]))).length = i := by rw [List.length_map, List.length_take]; omega
  unfold csAt
  rw [List.set_append_right _ _ (by omega), h1, Nat.sub_self, List.drop_eq_getElem_cons h, List.map_cons, List.set_cons_zero, List.take_succ_eq_append_getElem h, List.map_append, List.append_assoc]
  rfl
theorem csAt_same (n : Nat) (ts : List (List Int)) (L : List (List Int)) (p : List Int) (i : Nat) (h : i < ts.length) (e : FL n (L ++ [p]) ts[i] = FL n L ts[i]) : csAt n ts L p i = csAt n ts L p (i + 1) := by
  unfold csAt
  rw [List.drop_eq_getElem_cons h, List.map_cons, List.take_succ_eq_append_getElem h, List.map_append, List.append_assoc, List.map_cons, List.map_nil, e]
  rfl
theorem rdS_nth (ps : List (List Int)) (q : Nat) (h : q < ps.length) : rdS ps (q : Int) = ps[q] := rdL_nth ps q h
theorem fac1_run (n : Nat) (h1 : 1 ≤ n) (hn : n ≤ 12) (ts : List (List Int)) (hts : ts.length ≤ 1048576) (L : List (List Int)) (hL : L.length ≤ 1048576) (p : List Int) (hp : inR n p) : ∀ (d i : Nat), ts.length - i = d → i ≤ ts.length → Ev (fun k => fac1L k ts p (csAt n ts L p i) i) (ts.map (FL n (L ++ [p])))
  | 0, i, hd, hi => by
    have e : i = ts.length := by omega
    subst e
    refine Ev.s ?_
    simp only [fac1L, show ¬ (ts.length : Int) < (ts.length : Int) by omega, if_false]
    refine Ev.const (congrArg some ?_)
    simp [csAt]
  | d + 1, i, hd, hi => by
    have hlt : i < ts.length := by omega
    have ih := fac1_run n h1 hn ts hts L hL p hp d (i + 1) (by omega) (by omega)
    refine Ev.s ?_
    simp only [fac1L, show (i : Int) < (ts.length : Int) by omega, show (0 : Int) ≤ (i : Int) by omega, if_true]
    refine Ev.bind (typeOf_ev p n hn h1 hp) (Ev.bind (equal_ev (TY n p) (rdS ts (i : Int)) (TY_len n hn p)) ?_)
    rw [rdS_nth ts i hlt]
    simp only [w64n (show i < 4611686018427387904 by omega), Int.toNat_natCast, csAt_get n ts L p i hlt]
    have e := FL_app n L p ts[i]
    by_cases c : TY n p = ts[i]
    · rw [if_pos c] at e
      have hp1 := hp.1
      have hf := FL_len n L ts[i]
      simp only [c, decide_true, if_true, slices_Clone_int_int.f, show p.length < 17592186044416 by omega, Option.bind_some, show (FL n L ts[i]).length < 5864062014805 by omega]
      rw [← e, csAt_succ n ts L p i hlt]
      exact ih
    · rw [if_neg c] at e
      simp only [c, decide_false, Bool.false_eq_true, if_false]
      rw [csAt_same n ts L p i hlt e]
      exact ih
theorem fac1_ev (n : Nat) (h1 : 1 ≤ n) (hn : n ≤ 12) (ts : List (List Int)) (hts : ts.length ≤ 1048576) (L : List (List Int)) (hL : L.length ≤ 1048576) (p : List Int) (hp : inR n p) : Ev (fun k => fac1L k ts p (ts.map (FL n L)) 0) (ts.map (FL n (L ++ [p]))) := by
  have h := fac1_run n h1 hn ts hts L hL p hp ts.length 0 (by omega) (by omega)
  have e : csAt n ts L p 0 = ts.map (FL n L) := by simp [csAt]
  rw [e] at h
  exact h
theorem fac1_runs (n : Nat) (h1 : 1 ≤ n) (hn : n ≤ 12) (ts : List (List Int)) (hts : ts.length ≤ 1048576) : ∀ (L2 L : List (List Int)), L.length + L2.length ≤ 1048576 → (∀ p ∈ L2, inR n p) → Runs (fun k cs p => fac1L k ts p cs 0) (ts.map (FL n L)) L2 (ts.map (FL n (L ++ L2)))
  | [], L, _, _ => by rw [List.append_nil]; exact rfl
  | p :: L2, L, hl, hp => by
    simp only [List.length_cons] at hl
    refine ⟨_, fac1_ev n h1 hn ts hts L (by omega) p (hp p (by simp)), ?_⟩
    have h := fac1_runs n h1 hn ts hts L2 (L ++ [p]) (by simp only [List.length_append, List.length_cons, List.length_nil]; omega) (fun q hq => hp q (by simp [hq]))
    rwa [List.append_assoc, List.singleton_append] at h
theorem classes_ev (n : Nat) (h1 : 1 ≤ n) (hn : n ≤ 12) (hL : (PL n).length ≤ 1048576) (ts : List (List Int)) (hts : ts.length ≤ 1048576) : Ev (fun k => permG (fun k cs p => fac1L k ts p cs 0) k n (List.replicate ts.length []) []) (ts.map (FL n (PL n))) := by
  refine perm_ev _ n hn n [] _ _ (by simp) ?_
  have h := fac1_runs n h1 hn ts hts (PL n) [] (by simpa using hL) (fun p hp => PL_inR n p hp)
  have e : ts.map (FL n []) = List.replicate ts.length [] := by
    rw [List.map_eq_replicate_iff.2]
    intro t _
    rfl
  rw [e] at h
  exact h
def cntF (n : Nat) (leaf : List (List Int) → Nat) : List (List (List Int)) → List (List Int) → List Int → Nat
  | [], l, pr => if pr = stl n then leaf l else 0
  | C :: Cs, l, pr => (C.map fun p => cntF n leaf Cs (l ++ [p]) (mulL pr p n)).sum
theorem fac2_ev (n : Nat) (h1 : 1 ≤ n) (hn : n ≤ 12) (leaf : List (List Int) → Nat) (step : Nat → Int → List (List Int) → Option Int) (ts : List (List Int)) (hts : ts.length ≤ 1048576) (cs : List (List (List Int))) (hcs : cs.length = ts.length) (hC : ∀ C ∈ cs, C.length ≤ 1048576 ∧ ∀ q ∈ C, inR n q)
    (hs : ∀ (l : List (List Int)) (m : Int), l.length = ts.length → (∀ q ∈ l, inR n q) → Ev (fun k => step k (wrap64 m) l) (wrap64 (m + leaf l))) :
    ∀ (Cs : List (List (List Int))) (l : List (List Int)) (pr : List Int) (m : Int), cs.drop l.length = Cs → l.length + Cs.length = cs.length → (∀ q ∈ l, inR n q) → inR n pr → Ev (fun k => facG step ts n cs k (wrap64 m) l pr) (wrap64 (m + (cntF n leaf Cs l pr : Int)))
  | [], l, pr, m, hd, hl, hq, hp => by
    simp only [List.length_nil, Nat.add_zero] at hl
    refine Ev.s ?_
    simp only [facG, show (l.length : Int) = (ts.length : Int) by omega, if_true]
    refine Ev.bind (still_ev n (by omega)) (Ev.bind (equal_ev pr (stl n) (by rw [hp.1]; omega)) ?_)
    by_cases e : pr = stl n
    · simp only [e, decide_true, if_true, cntF]
      exact hs l m (by omega) hq
    · simp only [e, decide_false, Bool.false_eq_true, if_false, cntF]
      exact Ev.const (congrArg some (by rw [Int.natCast_zero, Int.add_zero]))
  | C :: Cs, l, pr, m, hd, hl, hq, hp => by
    simp only [List.length_cons] at hl
    have hlt : l.length < cs.length := by omega
    have hg : cs.getD l.length [] = C := by
      have := List.drop_eq_getElem_cons hlt
      rw [hd] at this
      injection this with e1 e2
      rw [List.getD_eq_getElem?_getD, List.getElem?_eq_getElem hlt, ← e1]
      rfl
    have hd2 : cs.drop (l.length + 1) = Cs := by
      have := List.drop_eq_getElem_cons hlt
      rw [hd] at this
      injection this with e1 e2
      exact e2.symm
    have hC1 := hC C (by rw [← hg, List.getD_eq_getElem?_getD, List.getElem?_eq_getElem hlt]; exact List.getElem_mem hlt)
    have ih := fac2_ev n h1 hn leaf step ts hts cs hcs hC hs Cs
    have loop : ∀ (d i : Nat) (m : Int), C.length - i = d → i ≤ C.length → Ev (fun k => facL step ts n cs k (wrap64 m) l pr C i) (wrap64 (m + (((C.drop i).map fun p => cntF n leaf Cs (l ++ [p]) (mulL pr p n)).sum : Nat))) := by
      intro d
      induction d with
      | zero =>
        intro i m hd hi
        have e : i = C.length := by omega
        subst e
        refine Ev.s ?_
        simp only [facL, show ¬ (C.length : Int) < (C.length : Int) by omega, if_false, List.drop_length, List.map_nil, List.sum_nil, Int.natCast_zero, Int.add_zero]
        exact Ev.const rfl
      | succ d ihd =>
        intro i m hd hi
        have hi2 : i < C.length := by omega
        have hqi := hC1.2 _ (List.getElem_mem hi2)
        refine Ev.s ?_
        simp only [facL, show (i : Int) < (C.length : Int) by omega, show (0 : Int) ≤ (i : Int) by omega, show l.length < 5864062014805 by omega, if_true]
        rw [rdS_nth C i hi2, List.drop_eq_getElem_cons hi2, List.map_cons, List.sum_cons]
        refine Ev.bind (implMul_ev n (by omega) pr C[i] hp hqi) ?_
        have a := ih (l ++ [C[i]]) (mulL pr C[i] n) m (by rw [List.length_append, List.length_cons, List.length_nil]; exact hd2) (by rw [List.length_append, List.length_cons, List.length_nil]; omega) (fun q hq2 => by
          rcases List.mem_append.1 hq2 with h | h
          · exact hq q h
          · have : q = C[i] := by simpa using h
            rw [this]; exact hqi) (mulL_inR n pr C[i] hp hqi)
        refine Ev.bind a ?_
        simp only [w64n (show i < 4611686018427387904 by omega)]
        have b := ihd (i + 1) (m + (cntF n leaf Cs (l ++ [C[i]]) (mulL pr C[i] n) : Int)) (by omega) (by omega)
        have e3 : ∀ x y : Nat, m + ((x + y : Nat) : Int) = m + (x : Int) + (y : Int) := fun x y => by omega
        rw [e3]
        exact b
    refine Ev.s ?_
    simp only [facG, show ¬ (l.length : Int) = (ts.length : Int) by omega, show (l.length : Int) < (cs.length : Int) by omega, if_false, if_true, hg]
    have h := loop C.length 0 m (by omega) (by omega)
    rw [List.drop_zero] at h
    exact h
def cntT (n : Nat) (leaf : List (List Int) → Nat) (ts : List (List Int)) : Nat := cntF n leaf (ts.map (FL n (PL n))) [] (stl n)
theorem stl_inR (n : Nat) : inR n (stl n) := ⟨stl_length n, fun i hi => by rw [stl_rd n i hi]; omega⟩
theorem facs_ev (n : Nat) (h1 : 1 ≤ n) (hn : n ≤ 12) (hL : (PL n).length ≤ 1048576) (leaf : List (List Int) → Nat) (step : Nat → Int → List (List Int) → Option Int) (ts : List (List Int)) (hts : ts.length ≤ 1048576)
    (hs : ∀ (l : List (List Int)) (m : Int), l.length = ts.length → (∀ q ∈ l, inR n q) → Ev (fun k => step k (wrap64 m) l) (wrap64 (m + leaf l))) : Ev (fun k => facsG step k ts n 0) (wrap64 (cntT n leaf ts)) := by
  unfold facsG
  simp only [show ts.length ≤ 11728124029610 by omega, if_true]
  refine Ev.bind (classes_ev n h1 hn hL ts hts) (Ev.bind (still_ev n (by omega)) ?_)
  have h := fac2_ev n h1 hn leaf step ts hts (ts.map (FL n (PL n))) (by rw [List.length_map]) (fun C hC => by
    obtain ⟨t, _, rfl⟩ := List.mem_map.1 hC
    have := FL_len n (PL n) t
    exact ⟨by omega, fun q hq => PL_inR n q (List.mem_filter.1 hq).1⟩) hs (ts.map (FL n (PL n))) [] (stl n) 0 (by rw [List.length_nil, List.drop_zero]) (by rw [List.length_nil]; omega) (by simp) (stl_inR n)
  rw [w64 (x := 0) (by omega) (by omega), Int.zero_add] at h
  exact h
def chainB : List (List Int) → Bool
  | [] => true
  | p :: L => decide (spec_l3Next.f 20 p = some (L.headD [])) && chainB L
set_option maxRecDepth 100000 in
theorem chain_all (n : Nat) (h1 : 1 ≤ n) (h4 : n ≤ 4) : chainB (PL n) = true ∧ (PL n).headD [] = stl n ∧ (PL n).length ≤ 24 := by
  have h : ∀ m : Fin 5, 1 ≤ m.val → (chainB (PL m.val) && decide ((PL m.val).headD [] = stl m.val) && decide ((PL m.val).length ≤ 24)) = true := by decide +kernel
  have := h ⟨n, by omega⟩ h1
  simp only [Bool.and_eq_true, decide_eq_true_eq] at this
  exact ⟨this.1.1, this.1.2, this.2⟩
theorem order_run (a b : List Int) (ha : a.length ≤ 1048576) (hb : b.length = a.length) : ∀ (d i : Nat), a.length - i = d → i ≤ a.length → ∃ r, Ev (fun k => spec_l2Order.l0 k a b i) r ∧ (r = 0 ↔ a.drop i = b.drop i)
  | 0, i, hd, hi => by
    have e : i = a.length := by omega
    subst e
    refine ⟨0, Ev.s ?_, by rw [List.drop_length, ← hb, List.drop_length]; simp⟩
    simp only [spec_l2Order.l0, show ¬ (a.length : Int) < (a.length : Int) by omega, if_false]
    exact Ev.const rfl
  | d + 1, i, hd, hi => by
    have h1 : i < a.length := by omega
    have h2 : i < b.length := by omega
    rw [drop_rd a i h1, drop_rd b i h2]
    by_cases l : rd a (i : Int) < rd b (i : Int)
    · refine ⟨-1, Ev.s ?_, ⟨fun h => by omega, fun h => by injection h with e _; omega⟩⟩
      simp only [spec_l2Order.l0, show (i : Int) < (a.length : Int) by omega, show (i : Int) < (b.length : Int) by omega, show (0 : Int) ≤ (i : Int) by omega, if_true, l]
      exact Ev.const rfl
    · by_cases g : rd a (i : Int) > rd b (i : Int)
      · refine ⟨1, Ev.s ?_, ⟨fun h => by omega, fun h => by injection h with e _; omega⟩⟩
        simp only [spec_l2Order.l0, show (i : Int) < (a.length : Int) by omega, show (i : Int) < (b.length : Int) by omega, show (0 : Int) ≤ (i : Int) by omega, if_true, l, g, if_false]
        exact Ev.const rfl
      · obtain ⟨r, e, h⟩ := order_run a b ha hb d (i + 1) (by omega) (by omega)
        refine ⟨r, Ev.s ?_, h.trans ⟨fun e => by rw [e, show rd a (i : Int) = rd b (i : Int) by omega], fun e => by injection e⟩⟩
        simp only [spec_l2Order.l0, show (i : Int) < (a.length : Int) by omega, show (i : Int) < (b.length : Int) by omega, show (0 : Int) ≤ (i : Int) by omega, if_true, l, g, if_false, w64n (show i < 4611686018427387904 by omega)]
        exact e
theorem order_ev (a b : List Int) (ha : a.length ≤ 1048576) (hb : b.length = a.length) : ∃ r, Ev (fun k => spec_l2Order.f k a b) r ∧ (r = 0 ↔ a = b) := by
  unfold spec_l2Order.f
  have := order_run a b ha hb a.length 0 (by omega) (by omega)
  rwa [List.drop_zero, List.drop_zero] at this
theorem class_run (n : Nat) (h1 : 1 ≤ n) (hn : n ≤ 12) (t : List Int) : ∀ (L acc : List (List Int)), chainB L = true → (∀ p ∈ L, inR n p) → acc.length + L.length ≤ 1048576 → Ev (fun k => spec_l5Class.l0 k t acc (L.headD [])) (acc ++ FL n L t)
  | [], acc, hc, hp, hl => by
    refine Ev.s ?_
    simp only [spec_l5Class.l0, List.headD_nil, List.length_nil, show ¬ (((0 : Nat) : Int) > 0) by omega, if_false]
    exact Ev.const (congrArg some (by simp [FL]))
  | p :: L, acc, hc, hp, hl => by
    simp only [chainB, Bool.and_eq_true, decide_eq_true_eq] at hc
    simp only [List.length_cons] at hl
    have hpn := hp p (by simp)
    have hp1 := hpn.1
    have hnx : Ev (fun k => spec_l3Next.f k p) (L.headD []) := Ev.of (fun k => spec_l3Next.mono p k) hc.1
    have hty := l1Type_ev p n hn hpn
    have ih := fun acc h => class_run n h1 hn t L acc hc.2 (fun q hq => hp q (by simp [hq])) h
    refine Ev.s ?_
    simp only [spec_l5Class.l0, List.headD_cons, show ((p.length : Nat) : Int) > 0 by omega, if_true]
    refine Ev.bind hty ?_
    have hF : FL n (p :: L) t = (if TY n p = t then [p] else []) ++ FL n L t := by
      unfold FL
      rw [List.filter_cons]
      by_cases h : TY n p = t <;> simp [h]
    rw [hF]
    by_cases e : ((tlL (cyS p n n).2 n).length : Int) = (t.length : Int)
    · simp only [e, if_true]
      refine Ev.bind hty ?_
      obtain ⟨r, er, hr⟩ := order_ev (TY n p) t (TY_len n hn p) (by unfold TY; omega)
      refine Ev.bind er ?_
      by_cases z : r = 0
      · have hz := hr.1 z
        simp only [z, if_true, show acc.length < 5864062014805 by omega]
        refine Ev.bind hnx ?_
        have h := ih (acc ++ [p]) (by simp only [List.length_append, List.length_cons, List.length_nil]; omega)
        rw [List.append_assoc] at h
        rw [if_pos hz]
        exact h
      · have hz : ¬ TY n p = t := fun h => z (hr.2 h)
        simp only [z, if_false]
        refine Ev.bind hnx ?_
        rw [if_neg hz, List.nil_append]
        exact ih acc (by omega)
    · have hz : ¬ TY n p = t := fun h => e (by rw [← h]; rfl)
      simp only [e, if_false]
      refine Ev.bind hnx ?_
      rw [if_neg hz, List.nil_append]
      exact ih acc (by omega)
theorem class_ev (n : Nat) (h1 : 1 ≤ n) (h4 : n ≤ 4) (t : List Int) (ht : vP t = true) (hs : totP t = n) : Ev (fun k => spec_l5Class.f k t) (FL n (PL n) t) := by
  obtain ⟨c1, c2, c3⟩ := chain_all n h1 h4
  have hs1 := specSum_ev t ht
  rw [hs] at hs1
  unfold spec_l5Class.f
  refine Ev.bind hs1 (Ev.bind (same_ev n (by omega)) ?_)
  have h := class_run n h1 (by omega) t (PL n) [] c1 (fun p hp => PL_inR n p hp) (by simp only [List.length_nil]; omega)
  rw [c2, List.nil_append] at h
  exact h
theorem moves_run (n : Nat) (hn : n ≤ 1048576) (p : List Int) (hp : p.length = n) : ∀ (d i : Nat), n - i = d → i ≤ n → (∀ j : Nat, j < i → rd p j = j) → Ev (fun k => spec_l1Moves.l0 k p i) (decide (p ≠ stl n))
  | 0, i, hd, hi, hj => by
    have e : i = n := by omega
    subst e
    have e2 : p = stl i := list_ext p (stl i) (by rw [stl_length]; exact hp) fun j hj2 => by rw [hj j (by omega), stl_rd i j (by omega)]
    refine Ev.s ?_
    simp only [spec_l1Moves.l0, hp, show ¬ (i : Int) < (i : Int) by omega, if_false]
    exact Ev.const (congrArg some (by subst e2; simp))
  | d + 1, i, hd, hi, hj => by
    refine Ev.s ?_
    simp only [spec_l1Moves.l0, hp, show (i : Int) < (n : Int) by omega, show (0 : Int) ≤ (i : Int) by omega, if_true]
    by_cases e : rd p (i : Int) = i
    · simp only [e, if_true, w64n (show i < 4611686018427387904 by omega)]
      exact moves_run n hn p hp d (i + 1) (by omega) (by omega) (fun j hj2 => by
        by_cases e2 : j = i
        · subst e2; exact e
        · exact hj j (by omega))
    · simp only [e, if_false]
      exact Ev.const (congrArg some (Eq.symm (decide_eq_true (fun h => e (by rw [h, stl_rd n i (by omega)])))))
theorem moves_ev (n : Nat) (hn : n ≤ 1048576) (p : List Int) (hp : p.length = n) : Ev (fun k => spec_l1Moves.f k p) (decide (p ≠ stl n)) := moves_run n hn p hp n 0 (by omega) (by omega) (fun j hj => by omega)
theorem Reach.more {ps : List (List Int)} {n i j : Nat} (p : List Int) (h : Reach ps n i j) : Reach (ps ++ [p]) n i j := fun S c => h S (fun q hq => c q (by simp [hq]))
theorem join_run (ps : List (List Int)) (n : Nat) (hn : n ≤ 12) (o p : List Int) (ho : orbI ps n o) (hp : inR n p) (hm : p ∈ ps) : ∀ (e : Nat), (∀ (r : Nat) (out : List Int), n - r = e → r ≤ n → orbI ps n out → ∃ z, Ev (fun k => spec_l5Join.l0 k o p out r) z ∧ orbI ps n z) := by
  intro e
  induction e with
  | zero =>
    intro r out hr hr2 h
    refine ⟨out, Ev.s ?_, h⟩
    simp only [spec_l5Join.l0, hp.1, show ¬ (r : Int) < (n : Int) by omega, if_false]
    exact Ev.const rfl
  | succ e ihe =>
    intro r out hr hr2 h
    have loop : ∀ (d i : Nat) (out : List Int), n - i = d → i ≤ n → orbI ps n out → ∃ z, Ev (fun k => spec_l5Join.l1 k o p out r i) z ∧ orbI ps n z := by
      intro d
      induction d with
      | zero =>
        intro i out hd hi h
        obtain ⟨z, ez, hz⟩ := ihe (r + 1) out (by omega) (by omega) h
        refine ⟨z, Ev.s ?_, hz⟩
        simp only [spec_l5Join.l1, hp.1, show ¬ (i : Int) < (n : Int) by omega, if_false, w64n (show r < 4611686018427387904 by omega)]
        exact ez
      | succ d ihd =>
        intro i out hd hi h
        have hi2 : i < n := by omega
        obtain ⟨p0, p1⟩ := hp.2 i hi2
        obtain ⟨o0, o1, o2⟩ := ho.2 i hi2
        obtain ⟨a0, a1, a2⟩ := h.2 i hi2
        obtain ⟨b0, b1, b2⟩ := h.2 (rd p i).toNat (by omega)
        obtain ⟨c0, c1, c2⟩ := h.2 (rd o i).toNat (by omega)
        have ep : (((rd p i).toNat : Nat) : Int) = rd p i := by omega
        have eo : (((rd o i).toNat : Nat) : Int) = rd o i := by omega
        rw [ep] at b0 b1 b2
        rw [eo] at c0 c1 c2
        obtain ⟨X, hX⟩ : ∃ X, X = mn (rd out i) (mn (rd out (rd p i)) (rd out (rd o i))) := ⟨_, rfl⟩
        have m1 := mn_le (rd out i) (mn (rd out (rd p i)) (rd out (rd o i)))
        have m2 := mn_le (rd out (rd p i)) (rd out (rd o i))
        rw [← hX] at m1
        have X0 : 0 ≤ X := by omega
        have ri : Reach ps n (rd p i).toNat i := (Reach.step hm hi2).symm
        have rX : Reach ps n X.toNat i := by
          rcases m1.2.2 with e | e
          · rw [e]; exact a2
          · rcases m2.2.2 with e2 | e2
            · rw [e, e2]; exact b2.trans ri
            · rw [e, e2]; exact c2.trans o2
        have s1 := orbI_put h hi2 X0 (by omega) rX
        have s2 := orbI_put s1 (i := (rd p i).toNat) (by omega) X0 (by omega) (rX.trans ri.symm)
        have s3 := orbI_put s2 (i := (rd o i).toNat) (by omega) X0 (by omega) (rX.trans o2.symm)
        obtain ⟨z, ez, hz⟩ := ihd (i + 1) _ (by omega) (by omega) s3
        refine ⟨z, Ev.s ?_, hz⟩
        simp only [spec_l5Join.l1, hp.1, ho.1, h.1, show (i : Int) < (n : Int) by omega, show (0 : Int) ≤ (i : Int) by omega, p0, p1, o0, show rd o (i : Int) < (n : Int) by omega, if_true, ← hX, w64n (show i < 4611686018427387904 by omega), Int.toNat_natCast]
        exact ez
    obtain ⟨z, ez, hz⟩ := loop n 0 out (by omega) (by omega) h
    refine ⟨z, Ev.s ?_, hz⟩
    simp only [spec_l5Join.l0, hp.1, show (r : Int) < (n : Int) by omega, if_true]
    exact ez
theorem orbI_more {ps : List (List Int)} {n : Nat} {o : List Int} (p : List Int) (h : orbI ps n o) : orbI (ps ++ [p]) n o := ⟨h.1, fun i hi => ⟨(h.2 i hi).1, (h.2 i hi).2.1, (h.2 i hi).2.2.more p⟩⟩
theorem join_ev (ps : List (List Int)) (n : Nat) (hn : n ≤ 12) (o p : List Int) (ho : orbI ps n o) (hp : inR n p) : ∃ z, Ev (fun k => spec_l5Join.f k o p) z ∧ orbI (ps ++ [p]) n z := by
  have h := orbI_more p ho
  obtain ⟨z, ez, hz⟩ := join_run (ps ++ [p]) n hn o p h hp (by simp) n 0 o (by omega) (by omega) h
  refine ⟨z, ?_, hz⟩
  unfold spec_l5Join.f spec_l2Copy.f
  have hl : o.length < 17592186044416 := by rw [ho.1]; omega
  simp only [Option.bind_some, List.length_nil, Nat.zero_add, hl, if_true, List.nil_append]
  exact ez
theorem count_ev (n : Nat) (h1 : 1 ≤ n) (h4 : n ≤ 4) (ts : List (List Int)) (hts : ts.length ≤ 6) (hT : ∀ t ∈ ts, vP t = true ∧ totP t = n) (whole : Bool) (leaf : List (List Int) → Nat) (Rel : List (List Int) → List Int → Prop)
    (hle : ∀ l, leaf l ≤ 1) (hR : ∀ l orb q, Rel l orb → (∀ x ∈ l, x ∈ PL n) → q ∈ PL n → ∃ z, Ev (fun k => spec_l5Join.f k orb q) z ∧ Rel (l ++ [q]) z)
    (hF : ∀ l orb, Rel l orb → l.length = ts.length → (∀ x ∈ l, x ∈ PL n) → Ev (fun k => if whole = true then ((spec_l5Sum.f k orb).bind fun t => (if t > 0 then (some (0 : Int)) else (some 1))) else (some 1)) (leaf l : Int)) :
    ∀ (Ts : List (List Int)) (l : List (List Int)) (pr orb : List Int), ts.drop l.length = Ts → l.length + Ts.length = ts.length → (∀ q ∈ l, q ∈ PL n) → inR n pr → Rel l orb → Ev (fun k => spec_l5Count.f k ts l.length pr orb whole) (wrap64 (cntF n leaf (Ts.map (FL n (PL n))) l pr))
  | [], l, pr, orb, hd, hl, hq, hp, hr => by
    simp only [List.length_nil, Nat.add_zero] at hl
    refine Ev.s ?_
    simp only [spec_l5Count.f, show ((l.length : Nat) : Int) = (ts.length : Int) by omega, if_true]
    refine Ev.bind (moves_ev n (by omega) pr hp.1) ?_
    by_cases e : pr = stl n
    · have := hle l
      simp only [e, ne_eq, not_true_eq_false, decide_false, Bool.false_eq_true, if_false, List.map_nil, cntF, if_true]
      rw [w64 (x := ((leaf l : Nat) : Int)) (by omega) (by omega)]
      exact hF l orb hr (by omega) hq
    · simp only [e, ne_eq, not_false_eq_true, decide_true, if_true, List.map_nil, cntF, if_false]
      exact Ev.const (congrArg some (w64 (by omega) (by omega)).symm)
  | t :: Ts, l, pr, orb, hd, hl, hq, hp, hr => by
    simp only [List.length_cons] at hl
    have hlt : l.length < ts.length := by omega
    have hg := List.drop_eq_getElem_cons hlt
    rw [hd] at hg
    injection hg with g1 g2
    have hrd : rd_L1 ts ((l.length : Nat) : Int) = t := by rw [rdL_nth ts l.length hlt, ← g1]
    have hTt := hT t (by rw [g1]; exact List.getElem_mem hlt)
    have ih := count_ev n h1 h4 ts hts hT whole leaf Rel hle hR hF Ts
    obtain ⟨_, _, c3⟩ := chain_all n h1 h4
    obtain ⟨C, hC⟩ : ∃ C, C = FL n (PL n) t := ⟨_, rfl⟩
    have hC3 : C.length ≤ 24 := by rw [hC]; exact Nat.le_trans (FL_len n (PL n) t) c3
    have hCm : ∀ q ∈ C, q ∈ PL n := fun q hq => by rw [hC] at hq; exact (List.mem_filter.1 hq).1
    have loop : ∀ (d i : Nat) (m : Int), C.length - i = d → i ≤ C.length → Ev (fun k => spec_l5Count.l0 k ts l.length pr orb whole (wrap64 m) C i) (wrap64 (m + (((C.drop i).map fun p => cntF n leaf (Ts.map (FL n (PL n))) (l ++ [p]) (mulL pr p n)).sum : Nat))) := by
      intro d
      induction d with
      | zero =>
        intro i m hd hi
        have e : i = C.length := by omega
        subst e
        refine Ev.s ?_
        simp only [spec_l5Count.l0, show ¬ (C.length : Int) < (C.length : Int) by omega, if_false, List.drop_length, List.map_nil, List.sum_nil, Int.natCast_zero, Int.add_zero]
        exact Ev.const rfl
      | succ d ihd =>
        intro i m hd hi
        have hi2 : i < C.length := by omega
        have hqi := hCm _ (List.getElem_mem hi2)
        have hqr := PL_inR n _ hqi
        obtain ⟨z, ez, hz⟩ := hR l orb C[i] hr hq hqi
        have a := ih (l ++ [C[i]]) (mulL pr C[i] n) z (by rw [List.length_append, List.length_cons, List.length_nil]; exact g2.symm) (by rw [List.length_append, List.length_cons, List.length_nil]; omega) (fun q hq2 => by
          rcases List.mem_append.1 hq2 with h | h
          · exact hq q h
          · have : q = C[i] := by simpa using h
            rw [this]; exact hqi) (mulL_inR n pr C[i] hp hqr) hz
        have el : ((l ++ [C[i]]).length : Int) = ((l.length + 1 : Nat) : Int) := by rw [List.length_append, List.length_cons, List.length_nil]
        rw [el] at a
        have b := ihd (i + 1) (m + (cntF n leaf (Ts.map (FL n (PL n))) (l ++ [C[i]]) (mulL pr C[i] n) : Int)) (by omega) (by omega)
        refine Ev.s ?_
        simp only [spec_l5Count.l0, show (i : Int) < (C.length : Int) by omega, show (0 : Int) ≤ (i : Int) by omega, if_true]
        rw [rdL_nth C i hi2, List.drop_eq_getElem_cons hi2, List.map_cons, List.sum_cons]
        refine Ev.bind (specMul_ev n (by omega) pr C[i] hp hqr) (Ev.bind ez ?_)
        simp only [w64n (show l.length < 4611686018427387904 by omega), w64n (show i < 4611686018427387904 by omega)]
        refine Ev.bind a ?_
        rw [wrap_addl, wrap_addr]
        have e3 : ∀ x y : Nat, m + ((x + y : Nat) : Int) = m + (x : Int) + (y : Int) := fun x y => by omega
        rw [e3]
        exact b
    refine Ev.s ?_
    simp only [spec_l5Count.f, show ¬ ((l.length : Nat) : Int) = (ts.length : Int) by omega, show ((l.length : Nat) : Int) < (ts.length : Int) by omega, show (0 : Int) ≤ ((l.length : Nat) : Int) by omega, if_false, if_true, hrd]
    refine Ev.bind (class_ev n h1 h4 t hTt.1 hTt.2) ?_
    have h := loop C.length 0 0 (by omega) (by omega)
    rw [List.drop_zero, Int.zero_add, w64 (x := 0) (by omega) (by omega)] at h
    simp only [List.map_cons, cntF]
    rw [hC] at h
    exact h
theorem goodT_mem {l : List (List Int)} {n : Nat} (h : goodT l) (e : totP (rd_L1 l 0) = n) : ∀ t ∈ l, vP t = true ∧ totP t = n := by
  intro t ht
  obtain ⟨i, hi, rfl⟩ := List.mem_iff_getElem.1 ht
  have := h.2.2 i hi
  unfold okT at this
  rw [rdL_nth l i hi] at this
  exact ⟨this.1, this.2.trans e⟩
theorem each_leaf (n : Nat) (h1 : 1 ≤ n) (h4 : n ≤ 4) (ts : List (List Int)) (hts : ts.length ≤ 6) (hT : ∀ t ∈ ts, vP t = true ∧ totP t = n) : Ev (fun k => spec_l5Count.f k ts 0 (stl n) (stl n) false) (wrap64 (cntT n (fun _ => 1) ts)) := by
  have h := count_ev n h1 h4 ts hts hT false (fun _ => 1) (fun l o => orbI l n o) (fun _ => Nat.le_refl _) (fun l orb q hr _ hq => join_ev l n (by omega) orb q hr (PL_inR n q hq)) (fun l orb _ _ _ => by
    simp only [Bool.false_eq_true, if_false]
    exact Ev.const rfl) ts [] (stl n) (stl n) (by rw [List.length_nil, List.drop_zero]) (by rw [List.length_nil]; omega) (by simp) (stl_inR n) (stl_orbI [] n)
  exact h
theorem factorEach_both (l : List (List Int)) (hl : l.length ≤ 1048576) (h2 : ∀ j : Nat, j < l.length → (rd_L1 l (j : Int)).length ≤ 1048576) : ∃ r, Ev (fun k => impl_FactorEach.f k l) r ∧ Ev (fun k => spec_FactorEach.f k l) r := by
  obtain ⟨r, er, hr⟩ := implTypes_ev l hl h2
  obtain ⟨b, eb, hb⟩ := specSmall_ev l hl h2
  by_cases s : smallT l
  · obtain ⟨g, hl3, ht4⟩ := s
    have hbt := hb.2 ⟨g, hl3, ht4⟩
    subst hbt
    have hre : r = totP (rd_L1 l 0) := hr.elim (fun h => h.2) (fun h => absurd g h.1)
    have hv : vP (rd_L1 l 0) = true := (g.2.2 0 (by have := g.1; omega)).1
    have hv2 := vP_len _ hv
    obtain ⟨n, hn⟩ : ∃ n : Nat, totP (rd_L1 l 0) = n := ⟨(totP (rd_L1 l 0)).toNat, by have := hv2.2.1; omega⟩
    have hv3 : 1 ≤ totP (rd_L1 l 0) := hv2.2.1
    have n1 : 1 ≤ n := by omega
    have n4 : n ≤ 4 := by omega
    have hT := goodT_mem g hn
    refine ⟨wrap64 (cntT n (fun _ => 1) l), ?_, ?_⟩
    · unfold impl_FactorEach.f
      refine Ev.bind er ?_
      rw [hre, hn]
      simp only [show ¬ (n : Int) < 0 by omega, show ¬ (n : Int) > 4 by omega, show ¬ (l.length : Int) > 3 by omega, if_false]
      obtain ⟨_, _, c3⟩ := chain_all n n1 n4
      exact facs_ev n n1 (by omega) (by omega) (fun _ => 1) _ l hl (fun l m _ _ => Ev.const (congrArg some (by rw [wrap_addl]; rfl)))
    · unfold spec_FactorEach.f
      refine Ev.bind eb ?_
      have hsum := specSum_ev _ hv
      rw [hn] at hsum
      simp only [if_true, show (0 : Int) < (l.length : Int) by have := g.1; omega]
      exact Ev.bind hsum (Ev.bind (same_ev n (by omega)) (Ev.bind (each_leaf n n1 n4 l (by omega) hT) (Ev.const rfl)))
  · have hbf : b = false := by
      cases b with
      | false => rfl
      | true => exact absurd (hb.1 rfl) s
    subst hbf
    refine ⟨-1, ?_, ?_⟩
    · unfold impl_FactorEach.f
      refine Ev.bind er ?_
      rcases hr with ⟨g, e⟩ | ⟨_, e⟩
      · have hv : vP (rd_L1 l 0) = true := (g.2.2 0 (by have := g.1; omega)).1
        have hv2 := vP_len _ hv
        have hv3 : 1 ≤ totP (rd_L1 l 0) := hv2.2.1
        rw [e]
        by_cases c : totP (rd_L1 l 0) > 4
        · simp only [show ¬ totP (rd_L1 l 0) < 0 by omega, c, if_false, if_true]
          exact Ev.const rfl
        · have : (l.length : Int) > 3 := by
            by_cases c3 : (l.length : Int) > 3
            · exact c3
            · exact absurd ⟨g, by omega, by omega⟩ s
          simp only [show ¬ totP (rd_L1 l 0) < 0 by omega, c, this, if_false, if_true]
          exact Ev.const rfl
      · rw [e]
        simp only [show (-1 : Int) < 0 by omega, if_true]
        exact Ev.const rfl
    · unfold spec_FactorEach.f
      refine Ev.bind eb ?_
      simp only [Bool.false_eq_true, if_false]
      exact Ev.const rfl
end Go.Proofs.Ytggghijamfmenaa.PL

set_option linter.unusedVariables false
set_option linter.unusedSimpArgs false
namespace Go.Proofs.Ytggghijamfmenaa.Pure
open Go.RowKit Go.Proofs.Ytggghijamfmenaa.PL Go.Proofs.YtggghijamfmenaaW.PrintWords Go.Proofs.YtggghijamfmenaaW.PrintLast
theorem FnExactFactorEach : laws_FnExactFactorEach.Pure := by
  intro l h1 h2
  obtain ⟨r, er, hr⟩ := szSS_ev l h1 h2
  refine Ev.rounds (?_ : Ev (fun k => laws_FnExactFactorEach.f k l) true)
  unfold laws_FnExactFactorEach.f
  refine Ev.bind er ?_
  by_cases c : r < 0
  · simp only [c, if_true]
    exact Ev.const rfl
  · obtain ⟨hl, hs⟩ := hr.resolve_left c
    obtain ⟨v, v1, v2⟩ := factorEach_both l hl hs
    have t := toIntSS_ev l hl hs
    simp only [c, if_false]
    refine Ev.bind t (Ev.bind v2 (Ev.bind t (Ev.bind v1 ?_)))
    simp only [if_true]
    refine Ev.bind t (Ev.bind (eqIntSS_same l hl hs) ?_)
    simp only [if_true]
    exact Ev.const rfl
end Go.Proofs.Ytggghijamfmenaa.Pure

namespace Go.Proofs.Ytggghijamfmenaa.fnExactFactorEach
open Go.ChangeShapes Go.WideShapes Go.ChangeAt Go.RowKit Go.Joins Go.Proofs.YtggghijamfmenaaW.PrintWords Go.Proofs.YtggghijamfmenaaW.PrintLast
open Go.ChangeMaps (open_string shut_string)
set_option linter.unusedVariables false
theorem open_rowsS {H : Type} {enc : TypeId × Value → H} {P : Program} {w : World} {base : Nat} {spare : Nat → Bool} {held : Bool} {t e ei : TypeId} {el : Nat} {k : IntKind} {fuel : Nat} {cs : List Value} {x : DataW H × List MemPlace} (ht : P.underlying t = some (.slice e)) (he : P.underlying e = some (.slice ei)) (hei : P.underlying ei = some (.int k)) (hce : P.cellsOf e = 1) (hci : P.cellsOf ei = 1)
    (h : DataW.trod enc P w base spare held fuel t cs = some x) : ∃ (A : Option Addr) (l : List (List Int)) (c : Nat), cs = [.slice A l.length c] ∧ l.length ≤ c ∧ Kd.C (Kd.slice el (Kd.int k)) w A l.length l ∧ l.length ≤ maxLen ∧ ∀ y ∈ l, y.length ≤ maxLen := by
  rcases DataW.trod_slice ht h with ⟨rfl, _⟩ | ⟨a, len, cap, elems, rest, n, _, rfl, _, hb, hl, hm, hlen, hel, _, _⟩
  · exact ⟨none, [], 0, rfl, Nat.le_refl _, Kd.C_nil _ _, by simp [maxLen], fun y hy => by simp at hy⟩
  · have each : ∀ i, ∃ z : List Int, i < len → (∃ A1 c1, w.cell? (a.add i) = some (.slice A1 z.length c1) ∧ z.length ≤ c1 ∧ Kd.C (Kd.int k) w A1 z.length z ∧ z.length ≤ maxLen) := by
      intro i
      by_cases hi : i < len
      · obtain ⟨y, hy⟩ : ∃ y, elems[i]? = some y := ⟨_, List.getElem?_eq_getElem (by omega)⟩
        have h1 := hel i hi
        rw [hy, hce, Nat.mul_one, Option.bind_eq_some_iff] at h1
        obtain ⟨cs', hcs, hy'⟩ := h1
        rcases Go.ChangeShapes.open_ints he hei hci hy' with ⟨rfl, _⟩ | ⟨a2, len2, cap2, zs, rfl, _, hl2, hm2, hz2, _, hcell, _⟩
        · exact ⟨[], fun _ => ⟨none, 0, cell_of_cells?_one hcs, Nat.le_refl _, Kd.C_nil _ _, by simp [maxLen]⟩⟩
        · have hz3 : len2 ≤ zs.length := by rw [hz2]; split <;> omega
          have ht3 : (zs.take len2).length = len2 := by rw [List.length_take]; omega
          refine ⟨zs.take len2, fun _ => ⟨some a2, cap2, by rw [ht3]; exact cell_of_cells?_one hcs, by omega, ?_, by omega⟩⟩
          refine Kd.C_of_reads (d := (0 : Int)) (h1 := fun _ => rfl) ⟨rfl, by rw [ht3]; unfold maxLen at hm2; omega, fun _ => ⟨a2, rfl, fun j hj => ?_⟩⟩
          rw [hcell j (by omega)]
          congr 2
          rw [List.getD_eq_getElem?_getD, List.getD_eq_getElem?_getD, List.getElem?_take_of_lt (by omega)]
      · exact ⟨[], fun h2 => absurd h2 hi⟩
    have ⟨f, hf⟩ := Classical.axiomOfChoice each
    have hle : ((List.range len).map f).length = len := by simp
    refine ⟨some a, (List.range len).map f, cap, by rw [hle], by omega, ⟨rfl, by rw [hle]; unfold maxLen at hm; omega, fun _ => ⟨a, rfl, fun j p hj => ?_⟩⟩, by omega, fun y hy => ?_⟩
    · obtain ⟨hj2, hp⟩ := List.getElem?_eq_some_iff.1 hj
      have hj3 : j < len := by omega
      simp only [List.getElem_map, List.getElem_range] at hp
      subst hp
      obtain ⟨A1, c1, h1, h2, h3, h4⟩ := hf j hj3
      refine ⟨[.slice A1 (f j).length c1], rfl, ⟨A1, c1, rfl, h2, h3⟩, fun i u hu => ?_⟩
      rcases i with _ | i
      · simp at hu
        subst hu
        simpa [Kd.slice] using h1
      · simp at hu
    · obtain ⟨j, hj, rfl⟩ := List.mem_map.1 hy
      obtain ⟨A1, c1, h1, h2, h3, h4⟩ := hf j (List.mem_range.1 hj)
      exact h4
theorem own : ownKnob Try.prog.godebug = none := by kernel_rfl
theorem laidOut : laidOutB Try.prog = true := by kernel_rfl
def IsRow (k : IntKind) (w : World) (a : Option Addr) (len cap : Nat) (zs : List Int) : Prop :=
  (a = none ∧ len = 0 ∧ cap = 0 ∧ zs = []) ∨
  ∃ x, a = some x ∧ len ≤ cap ∧ cap ≤ maxLen ∧ zs.length = cap ∧ (∀ i, i < zs.length → w.cell? (x.add i) = some (.int k (zs.getD i 0))) ∧ ∀ n ∈ zs, (Lit.int k n).wf = true
set_option maxRecDepth 100000 in
theorem lifted (os : Os) (started : os.Started) (H : Type) (enc : TypeId × Value → H) :
    ReturnsInHanded {} Try.checked os 7 .any (Rows.fnExactFactorEachSpec.pre6 enc Try.prog Try.f7 Rows.fnExactFactorEachRow.domain false) (Rows.fnExactFactorEachSpec.post enc Try.prog Try.f7 false true false false) := by
  refine returnsInHanded_of_change_sized (C := Try.checked) own started (by kernel_rfl) Try.func7
    (ChangeSpec.witness6 (enc := enc) (C := Try.checked) false ⟨#[], #[.slice none 0 0], []⟩ 8 (by kernel_rfl) (by kernel_rfl) (by kernel_rfl) (by kernel_rfl)) ?_
  intro W base args ds gs before hval0 hW hcnd hsz0 _
  have hval : ∀ (j : Nat) t v, Try.f7.params[j]? = some t → args[j]? = some v → Value.okWide Try.prog W .any base t v := hval0
  have hW' := hW
  obtain ⟨p, q, hA0, hV, rfl, hfz, hnd⟩ := hW
  have hA : DataW.TrodAll enc Try.prog W 0 (fun _ => true) true Try.f7.params.toList args.toList ds p := hA0
  rw [Try.params7] at hA hval
  obtain ⟨v0, vs0, d0, ds0, p0, q0, hargs, rfl, rfl, h0, r0⟩ := trodAll_cons hA
  obtain ⟨rfl, rfl, rfl⟩ := trodAll_nil r0
  obtain rfl : args = #[v0] := by cases args; simp_all
  obtain ⟨rfl, rfl⟩ := trodVars_none hV
  obtain ⟨a0, len0, cap0, rfl⟩ := okWide_slice Try.underlying45 (hval 0 45 v0 rfl rfl)
  have k0 := h0
  have lt0 : ∀ x ∈ p0, x.block < W.heap.size := by obtain ⟨m, hm⟩ := k0; exact DataW.trod_lt m _ _ _ hm
  obtain ⟨l0, el0, hc0, hr0, hm0, hw0⟩ : ∃ l : List (List Int), len0 = l.length ∧ l.length ≤ cap0 ∧ Kd.C (Kd.slice 3 (Kd.int .i64)) W a0 l.length l ∧ l.length ≤ maxLen ∧ ∀ y ∈ l, y.length ≤ maxLen := by
    obtain ⟨fuel, hf⟩ := h0
    obtain ⟨A, l, c, hcs, h1, h2, h3, h4⟩ := open_rowsS Try.underlying45 Try.underlying23 Try.underlying3 (by kernel_rfl) (by kernel_rfl) hf
    simp [Value.cells] at hcs
    obtain ⟨rfl, rfl, rfl⟩ := hcs
    exact ⟨l, rfl, h1, h2, h3, h4⟩
  subst el0
  clear hA0 hval0 hsz0
  obtain ⟨k, h⟩ := Pure.FnExactFactorEach l0 hm0 hw0
  refine (PL.laws_FnExactFactorEach.calls k _ _ l0 true W hr0 hc0 h).mono fun e W' ⟨he, bel0⟩ => ?_
  have bel : Below W.heap.size W W' := bel0
  subst he
  exact ⟨_, rfl, _, _, _, [], _, [], hW', trodAll_mk1 (shut_bool Try.underlying4 _), (trodAll_cons_mk (Below.trod laidOut (by kernel_rfl) (of_decide_eq_true (by kernel_rfl)) k0 bel lt0) trodAll_mk0), rfl, bel.frame _, fun h => by cases h⟩
theorem over : Rows.fnExactFactorEachRow.holds Try.pinned (OpenSpec.ofChange Rows.fnExactFactorEachSpec) :=
  OpenClaim.holds_of_wide 7 Try.f7 rfl rfl rfl rfl rfl rfl rfl ⟨rfl, rfl, rfl, rfl, rfl⟩ rfl rfl rfl rfl rfl (by kernel_rfl) Try.func7 (by kernel_rfl)
    (of_decide_eq_true (by kernel_rfl)) (by unfold Func.isWrapper; first | (rw [if_pos (by decide +kernel)]; kernel_rfl) | (rw [if_neg (by decide +kernel)]; exact ⟨rfl, rfl⟩))
    (fun os started H enc _ => lifted os started H enc)
theorem proved : Rows.FnExactFactorEachSaid := over
#print axioms proved
end Go.Proofs.Ytggghijamfmenaa.fnExactFactorEach
namespace Go.Proofs.Ytggghijamfmenaa
theorem fnExactFactorEach_holds : Rows.FnExactFactorEachSaid := fnExactFactorEach.proved
end Go.Proofs.Ytggghijamfmenaa
