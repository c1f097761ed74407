/- For every map and number, EdgeContract of the program answers what EdgeContract of the reference answers, leaves the map as it was, and hands back memory of its own. There are no conditions. -/
import Derived.Test.YtggghijamfmenaaKFnExactEdgeContractOwnx5
set_option linter.unusedVariables false
set_option linter.unusedSimpArgs false
namespace Go.Proofs.Ytggghijamfmenaa.PC
open Go.RowKit Go.Proofs.YtggghijamfmenaaW.PrintWords Go.Proofs.YtggghijamfmenaaW.PrintLast Go.Proofs.YtggghijamfmenaaW.PrintMore
def cw (p : List Int) : Nat → List Bool → List Int → Int → List Bool × List Int
  | 0, s, c, a => (s, c)
  | f + 1, s, c, a => if rdOf false s a = true then (s, c) else cw p f (s.set a.toNat true) (c ++ [a]) (rd p a)
def fresh (s : List Bool) : Nat := s.countP (fun b => !b)
def cyS (p : List Int) (n : Nat) : Nat → List Bool × List (List Int)
  | 0 => (List.replicate n false, [])
  | i + 1 =>
    let q := cw p (n + 1) (cyS p n i).1 [] i
    (q.1, if q.2 = [] then (cyS p n i).2 else (cyS p n i).2 ++ [q.2])
theorem fresh_set : ∀ (s : List Bool) (i : Nat), i < s.length → s.getD i false = false → fresh (s.set i true) + 1 = fresh s
  | b :: s, 0, _, h => by
    simp only [List.getD_cons_zero] at h
    subst h
    simp [fresh]
  | b :: s, i + 1, hi, h => by
    simp only [List.getD_cons_succ] at h
    have ih := fresh_set s i (by simpa using hi) h
    simp only [fresh, List.set_cons_succ, List.countP_cons] at ih ⊢
    omega
theorem rdOf_nat (s : List Bool) (a : Int) (h0 : 0 ≤ a) : rdOf false s a = s.getD a.toNat false := by
  unfold rdOf
  rfl
theorem cw_len (p : List Int) : ∀ (f : Nat) (s : List Bool) (c : List Int) (a : Int), (cw p f s c a).1.length = s.length
  | 0, s, c, a => rfl
  | f + 1, s, c, a => by
    simp only [cw]
    split
    · rfl
    · rw [cw_len p f]; simp
theorem spec_cw (p : List Int) (n : Nat) (hn : n ≤ 1048576) (hp : inR n p) (L : List (List Int)) (hL : L.length ≤ 1048576) (i : Int) (r : List (List Int)) : ∀ (f : Nat) (s : List Bool) (c : List Int) (a : Int), s.length = n → 0 ≤ a → a < n → fresh s < f → c.length + fresh s ≤ 1048577 →
    Ev (fun k => spec_l1Cycles.l0 k p (L ++ [(cw p f s c a).2]) (cw p f s c a).1 (wrap64 (i + 1))) r → Ev (fun k => spec_l1Cycles.l1 k p L s i c a) r
  | 0, s, c, a, hs, h0, h1, hf, hc, h => absurd hf (Nat.not_lt_zero _)
  | f + 1, s, c, a, hs, h0, h1, hf, hc, h => by
    refine Ev.s ?_
    simp only [cw] at h
    have hL' : L.length < 5864062014805 := by omega
    have hc' : c.length < 17592186044416 := by omega
    simp only [spec_l1Cycles.l1, h0, hs, h1, hp.1, hL', hc', if_true]
    by_cases e : rdOf false s a = true
    · simp only [e, if_true] at h ⊢
      exact h
    · simp only [e, if_false] at h ⊢
      have h3 : s.getD a.toNat false = false := by rw [← rdOf_nat s a h0]; simpa using e
      have h4 := fresh_set s a.toNat (by omega) h3
      have h5 := hp.2 a.toNat (by omega)
      rw [show ((a.toNat : Nat) : Int) = a by omega] at h5
      exact spec_cw p n hn hp L hL i r f _ _ _ (by simpa using hs) h5.1 h5.2 (by omega) (by simp only [List.length_append, List.length_cons, List.length_nil]; omega) h
theorem impl_cw (p : List Int) (n : Nat) (hn : n ≤ 1048576) (hp : inR n p) (L : List (List Int)) (hL : L.length ≤ 1048576) (m i : Int) (r : List (List Int)) : ∀ (f : Nat) (s : List Bool) (c : List Int) (a : Int), s.length = n → 0 ≤ a → a < n → fresh s < f → c.length + fresh s ≤ 1048577 →
    Ev (fun k => impl_cyclesOf.l0 k p (if (cw p f s c a).2 = [] then L else L ++ [(cw p f s c a).2]) (cw p f s c a).1 m (wrap64 (i + 1))) r → Ev (fun k => impl_cyclesOf.l1 k p L s c a m i) r
  | 0, s, c, a, hs, h0, h1, hf, hc, h => absurd hf (Nat.not_lt_zero _)
  | f + 1, s, c, a, hs, h0, h1, hf, hc, h => by
    refine Ev.s ?_
    simp only [cw] at h
    have hL' : L.length < 5864062014805 := by omega
    have hc' : c.length < 17592186044416 := by omega
    simp only [impl_cyclesOf.l1, h0, hs, h1, hp.1, hL', hc', if_true]
    by_cases e : rdOf false s a = true
    · simp only [e, if_true] at h ⊢
      cases c with
      | nil => simpa using h
      | cons b c => simpa using h
    · simp only [e, if_false] at h ⊢
      have h3 : s.getD a.toNat false = false := by rw [← rdOf_nat s a h0]; simpa using e
      have h4 := fresh_set s a.toNat (by omega) h3
      have h5 := hp.2 a.toNat (by omega)
      rw [show ((a.toNat : Nat) : Int) = a by omega] at h5
      exact impl_cw p n hn hp L hL m i r f _ _ _ (by simpa using hs) h5.1 h5.2 (by omega) (by simp only [List.length_append, List.length_cons, List.length_nil]; omega) h
theorem fresh_le (s : List Bool) : fresh s ≤ s.length := List.countP_le_length
theorem cyS_len (p : List Int) (n : Nat) : ∀ i, (cyS p n i).1.length = n
  | 0 => by simp [cyS]
  | i + 1 => by simp only [cyS]; rw [cw_len, cyS_len p n i]
theorem cyS_many (p : List Int) (n : Nat) : ∀ i, (cyS p n i).2.length ≤ i
  | 0 => by simp [cyS]
  | i + 1 => by
    have ih := cyS_many p n i
    simp only [cyS]
    split
    · omega
    · simp only [List.length_append, List.length_cons, List.length_nil]; omega
theorem cw_seen (p : List Int) (f : Nat) (s : List Bool) (c : List Int) (a : Int) (h : rdOf false s a = true) : cw p f s c a = (s, c) := by
  cases f with
  | zero => rfl
  | succ f => simp only [cw, h, if_true]
theorem cw_more (p : List Int) : ∀ (f : Nat) (s : List Bool) (c : List Int) (a : Int), c.length ≤ (cw p f s c a).2.length
  | 0, s, c, a => Nat.le_refl _
  | f + 1, s, c, a => by
    simp only [cw]
    split
    · exact Nat.le_refl _
    · have := cw_more p f (s.set a.toNat true) (c ++ [a]) (rd p a)
      simp only [List.length_append, List.length_cons, List.length_nil] at this
      omega
theorem cw_new (p : List Int) (f : Nat) (s : List Bool) (a : Int) (h : ¬ rdOf false s a = true) : (cw p (f + 1) s [] a).2 ≠ [] := by
  simp only [cw, h, Bool.false_eq_true, if_false]
  intro e
  have := cw_more p f (s.set a.toNat true) ([] ++ [a]) (rd p a)
  rw [e] at this
  simp at this
theorem specCyc_run (p : List Int) (n : Nat) (hn : n ≤ 1048575) (hp : inR n p) : ∀ (d i : Nat), n - i = d → i ≤ n → Ev (fun k => spec_l1Cycles.l0 k p (cyS p n i).2 (cyS p n i).1 i) (cyS p n n).2
  | 0, i, hd, hi => by
    have : i = n := by omega
    subst this
    refine Ev.s ?_
    simp only [spec_l1Cycles.l0, hp.1, show ¬ (i : Int) < (i : Int) by omega, if_false]
    exact Ev.const rfl
  | d + 1, i, hd, hi => by
    have ih := specCyc_run p n hn hp d (i + 1) (by omega) (by omega)
    have hl := cyS_len p n i
    have hm := cyS_many p n i
    have hf := fresh_le (cyS p n i).1
    have h1 : (i : Int) < (n : Int) := by omega
    have h0 : (0 : Int) ≤ (i : Int) := by omega
    refine Ev.s ?_
    simp only [spec_l1Cycles.l0, hp.1, hl, h1, h0, if_true]
    by_cases e : rdOf false (cyS p n i).1 (i : Int) = true
    · simp only [e, if_true]
      rw [w64n (by omega)]
      simp only [cyS, cw_seen p (n + 1) (cyS p n i).1 [] i e, if_true] at ih
      exact ih
    · simp only [e, if_false]
      refine spec_cw p n (by omega) hp _ (by omega) i _ (n + 1) _ _ _ hl h0 h1 (by omega) (by simp only [List.length_nil]; omega) ?_
      rw [w64n (by omega)]
      simp only [cyS, cw_new p n (cyS p n i).1 i e, if_false] at ih
      exact ih
theorem implCyc_run (p : List Int) (n : Nat) (hn : n ≤ 1048575) (hp : inR n p) : ∀ (d i : Nat), n - i = d → i ≤ n → Ev (fun k => impl_cyclesOf.l0 k p (cyS p n i).2 (cyS p n i).1 n i) (cyS p n n).2
  | 0, i, hd, hi => by
    have : i = n := by omega
    subst this
    refine Ev.s ?_
    simp only [impl_cyclesOf.l0, show ¬ (i : Int) < (i : Int) by omega, if_false]
    exact Ev.const rfl
  | d + 1, i, hd, hi => by
    have ih := implCyc_run p n hn hp d (i + 1) (by omega) (by omega)
    have hl := cyS_len p n i
    have hm := cyS_many p n i
    have hf := fresh_le (cyS p n i).1
    have h1 : (i : Int) < (n : Int) := by omega
    have h0 : (0 : Int) ≤ (i : Int) := by omega
    refine Ev.s ?_
    simp only [impl_cyclesOf.l0, h1, if_true]
    refine impl_cw p n (by omega) hp _ (by omega) n i _ (n + 1) _ _ _ hl h0 h1 (by omega) (by simp only [List.length_nil]; omega) ?_
    rw [w64n (by omega)]
    simp only [cyS] at ih
    exact ih
theorem specCyc_ev (p : List Int) (n : Nat) (hn : n ≤ 1048575) (hp : inR n p) : Ev (fun k => spec_l1Cycles.f k p) (cyS p n n).2 := by
  unfold spec_l1Cycles.f
  have h1 : n ≤ 281474976710656 := by omega
  have h2 : (0 : Int) ≤ (n : Int) := by omega
  simp only [hp.1, Int.toNat_natCast, h1, h2, if_true]
  exact specCyc_run p n hn hp n 0 (by omega) (by omega)
theorem implCyc_ev (p : List Int) (n : Nat) (hn : n ≤ 1048575) (hp : inR n p) : Ev (fun k => impl_cyclesOf.f k p) (cyS p n n).2 := by
  unfold impl_cyclesOf.f
  have h1 : n ≤ 281474976710656 := by omega
  have h2 : (0 : Int) ≤ (n : Int) := by omega
  simp only [hp.1, Int.toNat_natCast, h1, h2, if_true]
  exact implCyc_run p n hn hp n 0 (by omega) (by omega)
def ahead (c : List Int) (i : Nat) : Int := if i = 0 then -1 else rd c ((i - 1 : Nat) : Int)
def ascAt (c : List Int) (m : Int) (i : Nat) : Prop := ahead c i < rd c i ∧ rd c i < m
def isChoice (c : List Int) (m : Int) : Prop := ∀ i : Nat, i < c.length → ascAt c m i
theorem ahead_zero (c : List Int) : ahead c 0 = -1 := by unfold ahead; rw [if_pos rfl]
theorem ahead_succ (c : List Int) (i : Nat) : ahead c (i + 1) = rd c i := by unfold ahead; rw [if_neg (by omega), Nat.add_sub_cancel]
theorem asc_nonneg (c : List Int) (m : Int) : ∀ i : Nat, (∀ j : Nat, j < i → ascAt c m j) → -1 ≤ ahead c i ∧ (ahead c i = -1 ∨ ahead c i < m)
  | 0, _ => by rw [ahead_zero]; omega
  | i + 1, h => by
    have h1 := h i (Nat.lt_succ_self i)
    have h2 := (asc_nonneg c m i fun j hj => h j (by omega)).1
    unfold ascAt at h1
    rw [ahead_succ]
    omega
theorem specChoice_run (t f c : List Int) (m : Int) (hm : (f.length : Int) / 2 = m) (m0 : 0 ≤ m) (m1 : m ≤ 1048576) (hc : c.length ≤ 1048576) : ∀ (d i : Nat), c.length - i = d → i ≤ c.length → (∀ j : Nat, j < i → ascAt c m j) →
    ((∀ q : Nat, i ≤ q → q < c.length → ascAt c m q) → ∀ r, Ev (fun k => spec_MapValid.f k t f) r → Ev (fun k => spec_ChoiceValid.l0 k c (ahead c i) i t f) r) ∧ (¬ (∀ q : Nat, i ≤ q → q < c.length → ascAt c m q) → Ev (fun k => spec_ChoiceValid.l0 k c (ahead c i) i t f) false)
  | 0, i, hd, hi, hp => by
    refine ⟨fun _ r h => Ev.s ?_, fun h => absurd (fun q h1 h2 => by omega) h⟩
    simp only [spec_ChoiceValid.l0, show ¬ (i : Int) < (c.length : Int) by omega, if_false]
    exact Ev.bind h (Ev.const rfl)
  | d + 1, i, hd, hi, hp => by
    have hlt : i < c.length := by omega
    have hd1 : c.length - (i + 1) = d := by omega
    obtain ⟨p1, p2⟩ := asc_nonneg c _ i hp
    have hA : ascAt c m i ↔ (ahead c i + 1 ≤ rd c i ∧ rd c i ≤ m - 1) := by unfold ascAt; omega
    have w1 : -9223372036854775808 ≤ ahead c i + 1 ∧ ahead c i + 1 < 9223372036854775808 := by omega
    have w2 : -9223372036854775808 ≤ m ∧ m < 9223372036854775808 := by omega
    have w3 : -9223372036854775808 ≤ m - 1 ∧ m - 1 < 9223372036854775808 := by omega
    have w4 : i < 4611686018427387904 := by omega
    have g1 : (i : Int) < (c.length : Int) := by omega
    have g2 : (0 : Int) ≤ (i : Int) := by omega
    by_cases h : ascAt c m i
    · have hin := hA.1 h
      have ih := specChoice_run t f c m hm m0 m1 hc d (i + 1) hd1 hlt (fun j hj => by
        by_cases e : j = i
        · rw [e]; exact h
        · exact hp j (by omega))
      rw [ahead_succ] at ih
      refine ⟨fun ha r hr => Ev.s ?_, fun ha => Ev.s ?_⟩
      · simp only [spec_ChoiceValid.l0, g1, g2, if_true, hm, w64r w1, w64r w2, w64r w3, w64n w4, l6In_eq, Option.bind_some, hin, decide_true, and_self]
        exact ih.1 (fun q h1 h2 => ha q (by omega) h2) r hr
      · simp only [spec_ChoiceValid.l0, g1, g2, if_true, hm, w64r w1, w64r w2, w64r w3, w64n w4, l6In_eq, Option.bind_some, hin, decide_true, and_self]
        refine ih.2 fun h' => ha fun q h1 h2 => ?_
        by_cases e : q = i
        · rw [e]; exact h
        · exact h' q (by omega) h2
    · have hin : ¬ (ahead c i + 1 ≤ rd c i ∧ rd c i ≤ m - 1) := fun z => h (hA.2 z)
      refine ⟨fun ha => absurd (ha i (Nat.le_refl _) hlt) h, fun ha => Ev.s ?_⟩
      simp only [spec_ChoiceValid.l0, g1, g2, if_true, hm, w64r w1, w64r w2, w64r w3, w64n w4, l6In_eq, Option.bind_some, hin, decide_false, Bool.false_eq_true, if_false]
      exact Ev.const rfl
theorem implChoice_run (t f c : List Int) (m : Int) (hm : (f.length : Int) / 2 = m) (m0 : 0 ≤ m) (m1 : m ≤ 1048576) (hc : c.length ≤ 1048576) : ∀ (d i : Nat), c.length - i = d → i ≤ c.length → (∀ j : Nat, j < i → ascAt c m j) →
    ((∀ q : Nat, i ≤ q → q < c.length → ascAt c m q) → Ev (fun k => impl_ChoiceValid.l0 k c c c.length i t f) true) ∧ (¬ (∀ q : Nat, i ≤ q → q < c.length → ascAt c m q) → Ev (fun k => impl_ChoiceValid.l0 k c c c.length i t f) false)
  | 0, i, hd, hi, hp => by
    refine ⟨fun _ => Ev.s ?_, fun h => absurd (fun q h1 h2 => by omega) h⟩
    simp only [impl_ChoiceValid.l0, show ¬ (i : Int) < (c.length : Int) by omega, if_false]
    exact Ev.const rfl
  | d + 1, i, hd, hi, hp => by
    have hlt : i < c.length := by omega
    have hd1 : c.length - (i + 1) = d := by omega
    obtain ⟨p1, p2⟩ := asc_nonneg c _ i hp
    have w2 : -9223372036854775808 ≤ m ∧ m < 9223372036854775808 := by omega
    have w4 : i < 4611686018427387904 := by omega
    have g1 : (i : Int) < (c.length : Int) := by omega
    have g2 : (0 : Int) ≤ (i : Int) := by omega
    have hA1 : ascAt c m i → 0 ≤ rd c i ∧ rd c i < m := by unfold ascAt; omega
    by_cases k1 : rd c i < 0
    · refine ⟨fun ha => absurd (hA1 (ha i (Nat.le_refl _) hlt)) (by omega), fun ha => Ev.s ?_⟩
      simp only [impl_ChoiceValid.l0, g1, g2, k1, if_true]
      exact Ev.const rfl
    · by_cases k2 : rd c i ≥ m
      · refine ⟨fun ha => absurd (hA1 (ha i (Nat.le_refl _) hlt)) (by omega), fun ha => Ev.s ?_⟩
        simp only [impl_ChoiceValid.l0, g1, g2, k1, k2, hm, w64r w2, if_true, if_false]
        exact Ev.const rfl
      · have ih := fun h => implChoice_run t f c m hm m0 m1 hc d (i + 1) hd1 hlt (fun j hj => by
          by_cases e : j = i
          · rw [e]; exact h
          · exact hp j (by omega))
        cases i with
        | zero =>
          have h : ascAt c m 0 := by unfold ascAt; rw [ahead_zero]; omega
          have k3 : ¬ (((0 : Nat) : Int) > 0) := by omega
          refine ⟨fun ha => Ev.s ?_, fun ha => Ev.s ?_⟩
          · simp only [impl_ChoiceValid.l0, g1, g2, k1, k2, k3, hm, w64r w2, w64n w4, if_true, if_false]
            exact (ih h).1 fun q h1 h2 => ha q (by omega) h2
          · simp only [impl_ChoiceValid.l0, g1, g2, k1, k2, k3, hm, w64r w2, w64n w4, if_true, if_false]
            refine (ih h).2 fun h' => ha fun q h1 h2 => ?_
            by_cases e : q = 0
            · rw [e]; exact h
            · exact h' q (by omega) h2
        | succ i =>
          have k3 : (((i + 1 : Nat) : Int) > 0) := by omega
          have w5 : -9223372036854775808 ≤ (i : Int) ∧ (i : Int) < 9223372036854775808 := by omega
          have w6 : (((i + 1 : Nat) : Int) - 1) = (i : Int) := by omega
          have g3 : (0 : Int) ≤ (i : Int) := by omega
          have g4 : (i : Int) < (c.length : Int) := by omega
          by_cases k4 : rd c ((i + 1 : Nat) : Int) ≤ rd c (i : Int)
          · refine ⟨fun ha => absurd (ha (i + 1) (Nat.le_refl _) hlt) (by unfold ascAt; rw [ahead_succ]; omega), fun ha => Ev.s ?_⟩
            simp only [impl_ChoiceValid.l0, g1, g2, g3, g4, k1, k2, k3, k4, hm, w64r w2, w64r w5, w6, if_true, if_false]
            exact Ev.const rfl
          · have h : ascAt c m (i + 1) := by unfold ascAt; rw [ahead_succ]; omega
            refine ⟨fun ha => Ev.s ?_, fun ha => Ev.s ?_⟩
            · simp only [impl_ChoiceValid.l0, g1, g2, g3, g4, k1, k2, k3, k4, hm, w64r w2, w64n w4, w64r w5, w6, if_true, if_false]
              exact (ih h).1 fun q h1 h2 => ha q (by omega) h2
            · simp only [impl_ChoiceValid.l0, g1, g2, g3, g4, k1, k2, k3, k4, hm, w64r w2, w64n w4, w64r w5, w6, if_true, if_false]
              refine (ih h).2 fun h' => ha fun q h1 h2 => ?_
              by_cases e : q = i + 1
              · rw [e]; exact h
              · exact h' q (by omega) h2
theorem choiceValid_both (t f c : List Int) (ht : t.length ≤ 1048576) (hf : f.length ≤ 1048576) (hc : c.length ≤ 1048576) : ∃ b : Bool, Ev (fun k => spec_ChoiceValid.f k t f c) b ∧ Ev (fun k => impl_ChoiceValid.f k t f c) b ∧ (b = true ↔ isMap t f ∧ isChoice c ((f.length : Int) / 2)) := by
  obtain ⟨b, b1, b2, b3⟩ := mapValid_both t f ht hf
  have hs := specChoice_run t f c _ rfl (by omega) (by omega) hc c.length 0 (by omega) (by omega) (fun j hj => by omega)
  have hi := implChoice_run t f c _ rfl (by omega) (by omega) hc c.length 0 (by omega) (by omega) (fun j hj => by omega)
  have e1 : ∀ r, Ev (fun k => spec_ChoiceValid.l0 k c (ahead c 0) ((0 : Nat) : Int) t f) r → Ev (fun k => spec_ChoiceValid.f k t f c) r := fun r h => h
  by_cases ha : ∀ q : Nat, 0 ≤ q → q < c.length → ascAt c ((f.length : Int) / 2) q
  · refine ⟨b, e1 _ (hs.1 ha b b1), ?_, ?_⟩
    · unfold impl_ChoiceValid.f
      refine Ev.bind b2 ?_
      cases b with
      | false => simp only [Bool.false_eq_true, if_false]; exact Ev.const rfl
      | true => simp only [if_true]; exact hi.1 ha
    · rw [b3]
      exact ⟨fun h => ⟨h, fun i hi' => ha i (by omega) hi'⟩, fun h => h.1⟩
  · refine ⟨false, e1 _ (hs.2 ha), ?_, ⟨fun h => (by cases h), fun h => absurd (fun q _ hq => h.2 q hq) ha⟩⟩
    unfold impl_ChoiceValid.f
    refine Ev.bind b2 ?_
    cases b with
    | false => simp only [Bool.false_eq_true, if_false]; exact Ev.const rfl
    | true => simp only [if_true]; exact hi.2 ha
theorem has_run (c : List Int) (hc : c.length ≤ 1048576) (x : Int) : ∀ (d i : Nat), c.length - i = d → i ≤ c.length → Ev (fun k => spec_l7Has.l0 k c x i) (decide (x ∈ c.drop i))
  | 0, i, hd, hi => by
    refine Ev.s ?_
    simp only [spec_l7Has.l0, show ¬ (i : Int) < (c.length : Int) by omega, if_false]
    rw [List.drop_eq_nil_of_le (by omega)]
    exact Ev.const (by simp)
  | d + 1, i, hd, hi => by
    have hlt : i < c.length := by omega
    refine Ev.s ?_
    simp only [spec_l7Has.l0, show (i : Int) < (c.length : Int) by omega, show (0 : Int) ≤ (i : Int) by omega, if_true, w64n (show i < 4611686018427387904 by omega)]
    rw [List.drop_eq_getElem_cons hlt]
    have e := rd_lt c i hlt
    by_cases h : rd c i = x
    · simp only [h, if_true]
      exact Ev.const (by rw [decide_eq_true]; rw [← h, e]; exact List.mem_cons_self)
    · simp only [h, if_false]
      have := has_run c hc x d (i + 1) (by omega) (by omega)
      have e2 : decide (x ∈ c[i] :: c.drop (i + 1)) = decide (x ∈ c.drop (i + 1)) := by
        rw [Bool.eq_iff_iff, decide_eq_true_eq, decide_eq_true_eq, List.mem_cons]
        exact ⟨fun z => z.elim (fun y => absurd (by rw [e, y]) h) id, .inr⟩
      rw [e2]
      exact this
theorem has_ev (c : List Int) (hc : c.length ≤ 1048576) (x : Int) : Ev (fun k => spec_l7Has.f k c x) (decide (x ∈ c)) := has_run c hc x c.length 0 (by omega) (by omega)
theorem index_run (c : List Int) (hc : c.length ≤ 1048576) (x : Int) : ∀ (d i : Nat), c.length - i = d → i ≤ c.length → ∃ v : Int, Ev (fun k => slices_Index_int_int.l0 k c x c.length i) v ∧ (v ≥ 0 ↔ x ∈ c.drop i)
  | 0, i, hd, hi => by
    refine ⟨-1, Ev.s ?_, ?_⟩
    · simp only [slices_Index_int_int.l0, show ¬ (i : Int) < (c.length : Int) by omega, if_false]
      exact Ev.const rfl
    · rw [List.drop_eq_nil_of_le (by omega)]
      simp
  | d + 1, i, hd, hi => by
    have hlt : i < c.length := by omega
    have e := rd_lt c i hlt
    by_cases h : x = rd c i
    · refine ⟨i, Ev.s ?_, ?_⟩
      · simp only [slices_Index_int_int.l0, show (i : Int) < (c.length : Int) by omega, show (0 : Int) ≤ (i : Int) by omega, if_true]
        rw [← h]
        simp only [if_true]
        exact Ev.const rfl
      · rw [List.drop_eq_getElem_cons hlt, ← e, ← h]
        exact ⟨fun _ => List.mem_cons_self, fun _ => by omega⟩
    · obtain ⟨v, v1, v2⟩ := index_run c hc x d (i + 1) (by omega) (by omega)
      refine ⟨v, Ev.s ?_, ?_⟩
      · simp only [slices_Index_int_int.l0, show (i : Int) < (c.length : Int) by omega, show (0 : Int) ≤ (i : Int) by omega, if_true, h, if_false, w64n (show i < 4611686018427387904 by omega)]
        exact v1
      · rw [v2, List.drop_eq_getElem_cons hlt, List.mem_cons]
        exact ⟨.inr, fun z => z.elim (fun y => absurd (by rw [e, y]) h) id⟩
theorem contains_ev (c : List Int) (hc : c.length ≤ 1048576) (x : Int) : Ev (fun k => slices_Contains_int_int.f k c x) (decide (x ∈ c)) := by
  obtain ⟨v, v1, v2⟩ := index_run c hc x c.length 0 (by omega) (by omega)
  unfold slices_Contains_int_int.f slices_Index_int_int.f
  refine Ev.bind v1 (Ev.const ?_)
  rw [List.drop_zero] at v2
  congr 1
  rw [Bool.eq_iff_iff, decide_eq_true_eq, decide_eq_true_eq]
  exact v2
def restL (c : List Int) (m : Nat) : List Int := ((List.range m).filter fun (i : Nat) => !decide ((i : Int) ∈ c)).map fun (i : Nat) => (i : Int)
theorem restL_succ (c : List Int) (m : Nat) : restL c (m + 1) = if (m : Int) ∈ c then restL c m else restL c m ++ [(m : Int)] := by
  unfold restL
  rw [List.range_succ, List.filter_append]
  by_cases h : (m : Int) ∈ c <;> simp [h]
theorem restL_len (c : List Int) (m : Nat) : (restL c m).length ≤ m := by
  unfold restL
  rw [List.length_map]
  have := List.length_filter_le (fun (i : Nat) => !decide ((i : Int) ∈ c)) (List.range m)
  rwa [List.length_range] at this
theorem implRest_run (c : List Int) (hc : c.length ≤ 1048576) (m : Nat) (hm : m ≤ 1048576) : ∀ (d i : Nat), m - i = d → i ≤ m → Ev (fun k => impl_ChoiceRest.l0 k c (restL c i) m i) (restL c m, true)
  | 0, i, hd, hi => by
    refine Ev.s ?_
    simp only [impl_ChoiceRest.l0, show ¬ (i : Int) < (m : Int) by omega, if_false]
    have : i = m := by omega
    subst this
    exact Ev.const rfl
  | d + 1, i, hd, hi => by
    have hl := restL_len c i
    have ih := implRest_run c hc m hm d (i + 1) (by omega) (by omega)
    rw [restL_succ] at ih
    refine Ev.s ?_
    simp only [impl_ChoiceRest.l0, show (i : Int) < (m : Int) by omega, if_true, w64n (show i < 4611686018427387904 by omega)]
    refine Ev.bind (contains_ev c hc i) ?_
    by_cases h : (i : Int) ∈ c
    · simp only [h, decide_true, if_true] at ih ⊢
      exact ih
    · simp only [h, decide_false, Bool.false_eq_true, if_false, show (restL c i).length < 17592186044416 by omega, if_true] at ih ⊢
      exact ih
theorem specRest_run (t f c : List Int) (hc : c.length ≤ 1048576) (m : Nat) (hm : m ≤ 1048576) (hfm : (f.length : Int) / 2 = m) (hv : Ev (fun k => spec_ChoiceValid.f k t f c) true) : ∀ (d i : Nat), m - i = d → i ≤ m → Ev (fun k => spec_ChoiceRest.l0 k c (restL c i) i t f) (restL c m, true)
  | 0, i, hd, hi => by
    have : i = m := by omega
    subst this
    refine Ev.s ?_
    simp only [spec_ChoiceRest.l0, hfm, w64r (show -9223372036854775808 ≤ (i : Int) ∧ (i : Int) < 9223372036854775808 by omega), show ¬ (i : Int) < (i : Int) by omega, if_false]
    refine Ev.s ?_
    simp only [spec_ChoiceRest.j1, Bool.false_eq_true, if_false]
    exact Ev.bind hv (Ev.const rfl)
  | d + 1, i, hd, hi => by
    have hl := restL_len c i
    have ih := specRest_run t f c hc m hm hfm hv d (i + 1) (by omega) (by omega)
    rw [restL_succ] at ih
    refine Ev.s ?_
    simp only [spec_ChoiceRest.l0, hfm, w64r (show -9223372036854775808 ≤ (m : Int) ∧ (m : Int) < 9223372036854775808 by omega), show (i : Int) < (m : Int) by omega, if_true]
    refine Ev.bind hv ?_
    refine Ev.s ?_
    simp only [spec_ChoiceRest.j1, if_true, w64n (show i < 4611686018427387904 by omega)]
    refine Ev.bind (has_ev c hc i) ?_
    by_cases h : (i : Int) ∈ c
    · simp only [h, decide_true, if_true] at ih ⊢
      exact ih
    · simp only [h, decide_false, Bool.false_eq_true, if_false, show (restL c i).length < 17592186044416 by omega, if_true] at ih ⊢
      exact ih
theorem choiceRest_both (t f c : List Int) (ht : t.length ≤ 1048576) (hf : f.length ≤ 1048576) (hc : c.length ≤ 1048576) : ∃ (r : List Int) (b : Bool), Ev (fun k => spec_ChoiceRest.f k t f c) (r, b) ∧ Ev (fun k => impl_ChoiceRest.f k t f c) (r, b) ∧ r.length ≤ 1048576 ∧ (b = true → r = restL c (f.length / 2) ∧ isMap t f ∧ isChoice c ((f.length : Int) / 2)) ∧ (isMap t f ∧ isChoice c ((f.length : Int) / 2) → b = true) := by
  obtain ⟨b, b1, b2, b3⟩ := choiceValid_both t f c ht hf hc
  have hfm : (f.length : Int) / 2 = ((f.length / 2 : Nat) : Int) := by omega
  have hm : f.length / 2 ≤ 1048576 := by omega
  have hl := restL_len c (f.length / 2)
  cases b with
  | true =>
    refine ⟨restL c (f.length / 2), true, ?_, ?_, by omega, fun _ => ⟨rfl, b3.1 rfl⟩, fun _ => rfl⟩
    · exact specRest_run t f c hc _ hm hfm b1 _ 0 rfl (by omega)
    · unfold impl_ChoiceRest.f
      refine Ev.bind b2 ?_
      simp only [if_true, hfm, w64r (show -9223372036854775808 ≤ ((f.length / 2 : Nat) : Int) ∧ ((f.length / 2 : Nat) : Int) < 9223372036854775808 by omega)]
      exact implRest_run c hc _ hm _ 0 rfl (by omega)
  | false =>
    refine ⟨[], false, ?_, ?_, by simp, fun h => (by cases h), fun h => b3.2 h⟩
    · unfold spec_ChoiceRest.f
      refine Ev.s ?_
      simp only [spec_ChoiceRest.l0, hfm, w64r (show -9223372036854775808 ≤ ((f.length / 2 : Nat) : Int) ∧ ((f.length / 2 : Nat) : Int) < 9223372036854775808 by omega)]
      have hj : Ev (fun k => spec_ChoiceRest.j1 k c [] 0 false t f) ([], false) := by
        refine Ev.s ?_
        simp only [spec_ChoiceRest.j1, Bool.false_eq_true, if_false]
        exact Ev.bind b1 (Ev.const rfl)
      by_cases h0 : (0 : Int) < ((f.length / 2 : Nat) : Int)
      · simp only [h0, if_true]
        exact Ev.bind b1 hj
      · simp only [h0, if_false]
        exact hj
    · unfold impl_ChoiceRest.f
      refine Ev.bind b2 ?_
      simp only [Bool.false_eq_true, if_false]
      exact Ev.const rfl
def chB (f : List Int) (n : Nat) (c : List Int) (d : Int) : Bool := decide (rd (geL f n n) d ∈ c)
def flC (f : List Int) (n : Nat) (c : List Int) : List Int := (List.range n).map fun (d : Nat) => if chB f n c (d : Int) = true then rd f (d : Int) else (d : Int)
theorem flC_len (f : List Int) (n : Nat) (c : List Int) : (flC f n c).length = n := by simp [flC]
theorem flC_rd (f : List Int) (n : Nat) (c : List Int) (d : Nat) (h : d < n) : rd (flC f n c) (d : Int) = if chB f n c (d : Int) = true then rd f (d : Int) else (d : Int) := by
  rw [rd_lt _ _ (by simp [flC]; exact h)]
  simp [flC]
theorem flC_inR (f : List Int) (n : Nat) (hf : inR n f) (c : List Int) : inR n (flC f n c) := by
  refine ⟨flC_len f n c, fun i hi => ?_⟩
  rw [flC_rd f n c i hi]
  have := hf.2 i hi
  split <;> omega
theorem edL_get (f : List Int) : ∀ (n e : Nat), e < (edL f n).length → ∃ a : Nat, a < n ∧ (a : Int) < rd f a ∧ rd (edL f n) (e : Int) = a ∧ (edL f a).length = e
  | 0, e, h => by simp [edL] at h
  | n + 1, e, h => by
    simp only [edL] at h ⊢
    by_cases hc : (n : Int) < rd f n
    · simp only [hc, if_true, List.length_append, List.length_cons, List.length_nil] at h ⊢
      by_cases he : e < (edL f n).length
      · obtain ⟨a, h1, h2, h3, h4⟩ := edL_get f n e he
        exact ⟨a, by omega, h2, by rw [rd_app_lt _ _ _ he]; exact h3, h4⟩
      · have e1 : (edL f n).length = e := by omega
        refine ⟨n, by omega, hc, ?_, e1⟩
        rw [rd_lt _ _ (by simp; omega), List.getElem_append_right (by omega)]
        simp [e1]
    · simp only [hc, if_false] at h ⊢
      obtain ⟨a, h1, h2, h3, h4⟩ := edL_get f n e h
      exact ⟨a, by omega, h2, h3, h4⟩
theorem edge_at (f : List Int) (n : Nat) (hf : inR n f) (hfl : ∀ i : Nat, i < n → flipAt f i) (e : Nat) (he : e < (edL f n).length) : ∃ a b : Nat, a < n ∧ b < n ∧ a ≠ b ∧ rd (edL f n) (e : Int) = a ∧ rd f a = b ∧ rd f b = a ∧ ∀ d : Nat, d < n → (rd (geL f n n) (d : Int) = e ↔ d = a ∨ d = b) := by
  obtain ⟨a, h1, h2, h3, h4⟩ := edL_get f n e he
  have g1 := hf.2 a h1
  obtain ⟨g2, g3⟩ := hfl a h1
  have hb : (((rd f a).toNat : Nat) : Int) = rd f a := by omega
  refine ⟨a, (rd f a).toNat, h1, by omega, by omega, h3, hb.symm, by rw [hb]; exact g3, fun d hd => ?_⟩
  have l1 := least_lt f n hf hfl d hd
  rw [geL_at f n hf hfl n (Nat.le_refl _) d hd l1.1]
  have d1 := hf.2 d hd
  obtain ⟨d2, d3⟩ := hfl d hd
  constructor
  · intro h
    have i1 := edL_at f (least f d) l1.2 n l1.1
    rw [h, h3] at i1
    have i2 : least f d = a := by omega
    unfold least at i2
    split at i2
    · exact .inl i2
    · right
      have : rd f d = a := by omega
      rw [this] at d3
      omega
  · rintro (rfl | rfl)
    · rw [show least f d = d from if_pos h2, h4]
    · have : least f (rd f a).toNat = a := by
        unfold least
        rw [hb, g3, if_neg (by omega)]
        omega
      rw [this, h4]
theorem take_get (c : List Int) (i : Nat) (h : i < c.length) : c.take (i + 1) = c.take i ++ [rd c i] := by
  rw [List.take_add_one, rd_lt c i h]
  simp [h]
theorem choice_range (c : List Int) (m : Int) (hc : isChoice c m) (i : Nat) (hi : i < c.length) : 0 ≤ rd c i ∧ rd c i < m := by
  have h := hc i hi
  have h2 := asc_nonneg c m i (fun j hj => hc j (by omega))
  unfold ascAt at h
  omega
def itr (t : List Int) : Nat → Int → Int
  | 0, x => x
  | k + 1, x => itr t k (rd t x)
theorem itr_in (t : List Int) (n : Nat) (ht : inR n t) : ∀ (k : Nat) (x : Int), 0 ≤ x ∧ x < n → 0 ≤ itr t k x ∧ itr t k x < n
  | 0, x, h => h
  | k + 1, x, h => by
    have := ht.2 x.toNat (by omega)
    rw [show ((x.toNat : Nat) : Int) = x by omega] at this
    exact itr_in t n ht k _ this
theorem itr_add (t : List Int) : ∀ (a b : Nat) (x : Int), itr t (a + b) x = itr t b (itr t a x)
  | 0, b, x => by rw [Nat.zero_add]; rfl
  | a + 1, b, x => by
    rw [show a + 1 + b = (a + b) + 1 by omega]
    exact itr_add t a b _
def injR (n : Nat) (t : List Int) : Prop := ∀ i j : Nat, i < n → j < n → rd t i = rd t j → i = j
theorem itr_inj (t : List Int) (n : Nat) (ht : inR n t) (hi : injR n t) : ∀ (k : Nat) (x y : Int), 0 ≤ x ∧ x < n → 0 ≤ y ∧ y < n → itr t k x = itr t k y → x = y
  | 0, x, y, _, _, h => h
  | k + 1, x, y, hx, hy, h => by
    have a1 := ht.2 x.toNat (by omega)
    have a2 := ht.2 y.toNat (by omega)
    have ex : ((x.toNat : Nat) : Int) = x := by omega
    have ey : ((y.toNat : Nat) : Int) = y := by omega
    rw [ex] at a1
    rw [ey] at a2
    have h1 := itr_inj t n ht hi k _ _ a1 a2 h
    have := hi x.toNat y.toNat (by omega) (by omega) (by rw [ex, ey]; exact h1)
    omega
theorem itr_back (t : List Int) (n : Nat) (ht : inR n t) (hi : injR n t) (x : Int) (hx : 0 ≤ x ∧ x < n) : ∃ k : Nat, k < n ∧ itr t (k + 1) x = x := by
  by_cases h : ∃ i j : Nat, i < j ∧ j ≤ n ∧ itr t i x = itr t j x
  · obtain ⟨i, j, h1, h2, h3⟩ := h
    refine ⟨j - i - 1, by omega, ?_⟩
    have e : itr t j x = itr t i (itr t (j - i - 1 + 1) x) := by rw [← itr_add, show j - i - 1 + 1 + i = j by omega]
    rw [e] at h3
    exact (itr_inj t n ht hi i _ _ hx (itr_in t n ht _ x hx) h3).symm
  · exfalso
    have h1 := len_le_of_sub ((List.range (n + 1)).map fun i => (itr t i x).toNat) (List.range n) ?_ ?_
    · rw [List.length_map, List.length_range, List.length_range] at h1
      omega
    · rw [List.Nodup, List.pairwise_map]
      refine List.Pairwise.imp_of_mem ?_ (List.pairwise_lt_range (n := n + 1))
      intro a b ha hb hab e
      have ia := itr_in t n ht a x hx
      have ib := itr_in t n ht b x hx
      exact h ⟨a, b, hab, by have := List.mem_range.1 hb; omega, by omega⟩
    · intro y hy
      obtain ⟨a, ha, rfl⟩ := List.mem_map.1 hy
      have ia := itr_in t n ht a x hx
      exact List.mem_range.2 (by omega)
def fc (t : List Int) (ch : Int → Bool) : Nat → Int → Int
  | 0, x => x
  | m + 1, x => if ch x = true then x else fc t ch m (rd t x)
theorem fc_hit (t : List Int) (ch : Int → Bool) : ∀ (m : Nat) (x : Int), (∃ k : Nat, k ≤ m ∧ ch (itr t k x) = true) → ch (fc t ch m x) = true
  | 0, x, ⟨k, hk, h⟩ => by
    have : k = 0 := by omega
    subst this
    exact h
  | m + 1, x, ⟨k, hk, h⟩ => by
    simp only [fc]
    split
    · assumption
    · cases k with
      | zero => exact absurd h (by assumption)
      | succ k => exact fc_hit t ch m _ ⟨k, by omega, h⟩
theorem fc_in (t : List Int) (n : Nat) (ht : inR n t) (ch : Int → Bool) : ∀ (m : Nat) (x : Int), 0 ≤ x ∧ x < n → 0 ≤ fc t ch m x ∧ fc t ch m x < n
  | 0, x, h => h
  | m + 1, x, h => by
    simp only [fc]
    split
    · exact h
    · have := ht.2 x.toNat (by omega)
      rw [show ((x.toNat : Nat) : Int) = x by omega] at this
      exact fc_in t n ht ch m _ this
theorem meets (t : List Int) (n : Nat) (ht : inR n t) (hi : injR n t) (ch : Int → Bool) (x : Int) (hx : 0 ≤ x ∧ x < n) (hc : ch x = true) : ∃ k : Nat, k ≤ n ∧ ch (itr t k (rd t x)) = true := by
  obtain ⟨k, h1, h2⟩ := itr_back t n ht hi x hx
  exact ⟨k, by omega, by rw [show itr t k (rd t x) = itr t (k + 1) x from rfl, h2]; exact hc⟩
def faL (t f : List Int) (n : Nat) (c : List Int) : List Int := (List.range n).map fun (d : Nat) => if chB f n c (d : Int) = true then fc t (chB f n c) n (rd t (rd f (d : Int))) else (d : Int)
theorem faL_rd (t f : List Int) (n : Nat) (c : List Int) (d : Nat) (h : d < n) : rd (faL t f n c) (d : Int) = if chB f n c (d : Int) = true then fc t (chB f n c) n (rd t (rd f (d : Int))) else (d : Int) := by
  rw [rd_lt _ _ (by simp [faL]; exact h)]
  simp [faL]
theorem geL_flip (f : List Int) (n : Nat) (hf : inR n f) (hfl : ∀ i : Nat, i < n → flipAt f i) (d : Nat) (hd : d < n) : rd (geL f n n) (rd f d) = rd (geL f n n) d := by
  have h1 := hf.2 d hd
  obtain ⟨h2, h3⟩ := hfl d hd
  have hb : (((rd f d).toNat : Nat) : Int) = rd f d := by omega
  have l1 := least_lt f n hf hfl d hd
  have l2 := least_lt f n hf hfl (rd f d).toNat (by omega)
  have e1 := geL_at f n hf hfl n (Nat.le_refl _) d hd l1.1
  have e2 := geL_at f n hf hfl n (Nat.le_refl _) (rd f d).toNat (by omega) l2.1
  rw [hb] at e2
  rw [e1, e2]
  have : least f (rd f d).toNat = least f d := by
    unfold least
    rw [hb, h3]
    split <;> split <;> omega
  rw [this]
theorem chB_flip (f : List Int) (n : Nat) (hf : inR n f) (hfl : ∀ i : Nat, i < n → flipAt f i) (c : List Int) (d : Nat) (hd : d < n) : chB f n c (rd f d) = chB f n c d := by
  unfold chB
  rw [geL_flip f n hf hfl d hd]
theorem fa_ch (t f : List Int) (n : Nat) (ht : inR n t) (hi : injR n t) (hf : inR n f) (hfl : ∀ i : Nat, i < n → flipAt f i) (c : List Int) (d : Nat) (hd : d < n) (hc : chB f n c d = true) :
    chB f n c (rd (faL t f n c) d) = true ∧ 0 ≤ rd (faL t f n c) d ∧ rd (faL t f n c) d < n := by
  have h1 := hf.2 d hd
  rw [faL_rd t f n c d hd, if_pos hc]
  have h2 := ht.2 (rd f d).toNat (by omega)
  rw [show (((rd f d).toNat : Nat) : Int) = rd f d by omega] at h2
  exact ⟨fc_hit t _ n _ (meets t n ht hi _ _ h1 (by rw [chB_flip f n hf hfl c d hd]; exact hc)), fc_in t n ht _ n _ h2⟩
theorem getD_set (s : List Bool) (i j : Nat) (b : Bool) (hi : i < s.length) : (s.set i b).getD j false = if i = j then b else s.getD j false := by
  rw [List.getD_eq_getElem?_getD, List.getElem?_set]
  by_cases e : i = j
  · subst e
    simp [hi]
  · simp [e, List.getD_eq_getElem?_getD]
def ribS (F : List Int) (n : Nat) (ch : Int → Bool) : Nat → List Bool × Nat
  | 0 => (List.replicate n false, 0)
  | i + 1 => if ch i = true ∧ (ribS F n ch i).1.getD i false = false then ((cw F (n + 1) (ribS F n ch i).1 [] i).1, (ribS F n ch i).2 + 1) else ribS F n ch i
theorem ribS_len (F : List Int) (n : Nat) (ch : Int → Bool) : ∀ i, (ribS F n ch i).1.length = n
  | 0 => by simp [ribS]
  | i + 1 => by
    simp only [ribS]
    split
    · rw [cw_len, ribS_len F n ch i]
    · exact ribS_len F n ch i
theorem ribS_le (F : List Int) (n : Nat) (ch : Int → Bool) : ∀ i, (ribS F n ch i).2 ≤ i
  | 0 => by simp [ribS]
  | i + 1 => by
    have := ribS_le F n ch i
    simp only [ribS]
    split
    · simp only; omega
    · omega
def chL (f : List Int) (n : Nat) (c : List Int) : List Bool := (List.range n).map fun (d : Nat) => chB f n c (d : Int)
theorem chL_len (f : List Int) (n : Nat) (c : List Int) : (chL f n c).length = n := by simp [chL]
theorem chL_getD (f : List Int) (n : Nat) (c : List Int) (d : Nat) (h : d < n) : (chL f n c).getD d false = chB f n c (d : Int) := by
  rw [List.getD_eq_getElem?_getD, List.getElem?_eq_getElem (by rw [chL_len]; exact h)]
  simp [chL]
theorem chL_rd (f : List Int) (n : Nat) (c : List Int) (x : Int) (h0 : 0 ≤ x) (h : x < n) : rdOf false (chL f n c) x = chB f n c x := by
  rw [rdOf_nat _ x h0, chL_getD f n c x.toNat (by omega), show ((x.toNat : Nat) : Int) = x by omega]
theorem bl_ext (a b : List Bool) (h : a.length = b.length) (hr : ∀ i : Nat, i < a.length → a.getD i false = b.getD i false) : a = b := by
  refine List.ext_getElem h fun i h1 h2 => ?_
  have := hr i h1
  rw [List.getD_eq_getElem?_getD, List.getD_eq_getElem?_getD, List.getElem?_eq_getElem h1, List.getElem?_eq_getElem h2] at this
  simpa using this
theorem chB_take (f : List Int) (n : Nat) (c : List Int) (i : Nat) (hi : i < c.length) (d : Int) : chB f n (c.take (i + 1)) d = (chB f n (c.take i) d || decide (rd (geL f n n) d = rd c i)) := by
  unfold chB
  rw [take_get c i hi, Bool.eq_iff_iff, Bool.or_eq_true, decide_eq_true_eq, decide_eq_true_eq, decide_eq_true_eq, List.mem_append, List.mem_singleton]
theorem step_ch (f : List Int) (n : Nat) (c : List Int) (i : Nat) (hi : i < c.length) (a b : Nat) (ha : a < n) (hb : b < n) (h : ∀ d : Nat, d < n → (rd (geL f n n) (d : Int) = rd c i ↔ d = a ∨ d = b)) :
    ((chL f n (c.take i)).set a true).set b true = chL f n (c.take (i + 1)) := by
  refine bl_ext _ _ (by simp [chL_len]) fun d hd => ?_
  have hd' : d < n := by simpa [chL_len] using hd
  rw [getD_set _ _ _ _ (by rw [List.length_set, chL_len]; exact hb), getD_set _ _ _ _ (by rw [chL_len]; exact ha), chL_getD _ _ _ d hd', chL_getD _ _ _ d hd', chB_take f n c i hi]
  have e := h d hd'
  by_cases e1 : b = d
  · rw [if_pos e1, decide_eq_true (e.2 (.inr e1.symm)), Bool.or_true]
  · by_cases e2 : a = d
    · rw [if_neg e1, if_pos e2, decide_eq_true (e.2 (.inl e2.symm)), Bool.or_true]
    · rw [if_neg e1, if_neg e2, decide_eq_false (fun z => (e.1 z).elim (fun z => e2 z.symm) (fun z => e1 z.symm)), Bool.or_false]
theorem step_fl (f : List Int) (n : Nat) (c : List Int) (i : Nat) (hi : i < c.length) (a b : Nat) (ha : a < n) (hb : b < n) (hab : rd f a = b) (hba : rd f b = a) (h : ∀ d : Nat, d < n → (rd (geL f n n) (d : Int) = rd c i ↔ d = a ∨ d = b)) :
    ((flC f n (c.take i)).set a (b : Int)).set b (a : Int) = flC f n (c.take (i + 1)) := by
  refine list_ext _ _ (by simp [flC_len]) fun d hd => ?_
  have hd' : d < n := by simpa [flC_len] using hd
  have e := h d hd'
  rw [flC_rd f n _ d hd', chB_take f n c i hi]
  by_cases e1 : b = d
  · subst e1
    rw [rd_set_self _ _ _ (by simpa [flC_len] using hb), decide_eq_true (e.2 (.inr rfl)), Bool.or_true, if_pos rfl, hba]
  · rw [rd_set_ne _ _ _ _ e1]
    by_cases e2 : a = d
    · subst e2
      rw [rd_set_self _ _ _ (by simpa [flC_len] using ha), decide_eq_true (e.2 (.inl rfl)), Bool.or_true, if_pos rfl, hab]
    · rw [rd_set_ne _ _ _ _ e2, flC_rd f n _ d hd', decide_eq_false (fun z => (e.1 z).elim (fun z => e2 z.symm) (fun z => e1 z.symm)), Bool.or_false]
theorem flC_zero (f : List Int) (n : Nat) (c : List Int) : flC f n (c.take 0) = stl n := by
  refine list_ext _ _ (by simp [flC_len, stl_length]) fun d hd => ?_
  have hd' : d < n := by rwa [flC_len] at hd
  rw [flC_rd f n _ d hd', stl_rd n d hd']
  simp [chB]
theorem chL_zero (f : List Int) (n : Nat) (c : List Int) : chL f n (c.take 0) = List.replicate n false := by
  refine bl_ext _ _ (by simp [chL_len]) fun d hd => ?_
  have hd' : d < n := by rwa [chL_len] at hd
  rw [chL_getD f n _ d hd']
  simp [chB, List.getD_eq_getElem?_getD, List.getElem?_replicate, hd']
def pc (o : List Int) : Nat → Nat
  | 0 => 0
  | i + 1 => if (i : Int) = rd o i then pc o i + 1 else pc o i
theorem pc_le (o : List Int) : ∀ i, pc o i ≤ i
  | 0 => Nat.le_refl _
  | i + 1 => by
    have := pc_le o i
    simp only [pc]
    split <;> omega
def bc (C : List (List Int)) (ch : Int → Bool) : Nat → Nat
  | 0 => 0
  | i + 1 => if (rd_L1 C i).any ch = true then bc C ch i else bc C ch i + 1
theorem bc_le (C : List (List Int)) (ch : Int → Bool) : ∀ i, bc C ch i ≤ i
  | 0 => Nat.le_refl _
  | i + 1 => by
    have := bc_le C ch i
    simp only [bc]
    split <;> omega
def sidesN (t f : List Int) (n : Nat) (c : List Int) : Nat := bc (cyS t n n).2 (chB f n c) (cyS t n n).2.length + (ribS (faL t f n c) n (chB f n c) n).2
theorem contF_run (l : List Int) (hl : l.length ≤ 1048576) (f : List Int) (n : Nat) (c : List Int) (hr : ∀ x ∈ l, 0 ≤ x ∧ x < n) : ∀ (d i : Nat), l.length - i = d → i ≤ l.length → ∃ v : Int, Ev (fun k => containsF.l0 k l (chL f n c) i) v ∧ (v ≥ 0 ↔ (l.drop i).any (chB f n c) = true)
  | 0, i, hd, hi => by
    refine ⟨-1, Ev.s ?_, ?_⟩
    · simp only [containsF.l0, show ¬ (i : Int) < (l.length : Int) by omega, if_false]
      exact Ev.const rfl
    · rw [List.drop_eq_nil_of_le (by omega)]
      simp
  | d + 1, i, hd, hi => by
    have hlt : i < l.length := by omega
    have e := rd_lt l i hlt
    have h1 := hr _ (List.getElem_mem hlt)
    rw [← e] at h1
    have g1 : (i : Int) < (l.length : Int) := by omega
    have g2 : (0 : Int) ≤ (i : Int) := by omega
    have g3 := chL_len f n c
    obtain ⟨v, v1, v2⟩ := contF_run l hl f n c hr d (i + 1) (by omega) (by omega)
    cases h : chB f n c (rd l i) with
    | true =>
      refine ⟨i, Ev.s ?_, ?_⟩
      · simp only [containsF.l0, g1, g2, h1.1, g3, h1.2, chL_rd f n c _ h1.1 h1.2, h, if_true]
        exact Ev.const rfl
      · rw [List.drop_eq_getElem_cons hlt, ← e, List.any_cons, h, Bool.true_or]
        exact ⟨fun _ => rfl, fun _ => by omega⟩
    | false =>
      refine ⟨v, Ev.s ?_, ?_⟩
      · simp only [containsF.l0, g1, g2, h1.1, g3, h1.2, chL_rd f n c _ h1.1 h1.2, h, if_true, Bool.false_eq_true, if_false, w64n (show i < 4611686018427387904 by omega)]
        exact v1
      · rw [v2, List.drop_eq_getElem_cons hlt, ← e, List.any_cons, h, Bool.false_or]
theorem contF_ev (l : List Int) (hl : l.length ≤ 1048576) (f : List Int) (n : Nat) (c : List Int) (hr : ∀ x ∈ l, 0 ≤ x ∧ x < n) : Ev (fun k => containsF.f k l (chL f n c)) (l.any (chB f n c)) := by
  obtain ⟨v, v1, v2⟩ := contF_run l hl f n c hr l.length 0 (by omega) (by omega)
  unfold containsF.f
  refine Ev.bind v1 (Ev.const ?_)
  rw [List.drop_zero] at v2
  congr 1
  rw [Bool.eq_iff_iff, decide_eq_true_eq]
  exact v2
theorem cw_ok (p : List Int) (n : Nat) (hp : inR n p) : ∀ (f : Nat) (s : List Bool) (c : List Int) (a : Int), s.length = n → 0 ≤ a → a < n → (∀ x ∈ c, 0 ≤ x ∧ x < n) → (∀ x ∈ (cw p f s c a).2, 0 ≤ x ∧ x < n) ∧ (cw p f s c a).2.length ≤ c.length + f
  | 0, s, c, a, hs, h0, h1, hc => ⟨hc, by simp [cw]⟩
  | f + 1, s, c, a, hs, h0, h1, hc => by
    simp only [cw]
    split
    · exact ⟨hc, by simp only; omega⟩
    · have h5 := hp.2 a.toNat (by omega)
      rw [show ((a.toNat : Nat) : Int) = a by omega] at h5
      have ih := cw_ok p n hp f (s.set a.toNat true) (c ++ [a]) (rd p a) (by simpa using hs) h5.1 h5.2 (fun x hx => by
        rw [List.mem_append, List.mem_singleton] at hx
        exact hx.elim (hc x) (fun e => by rw [e]; exact ⟨h0, h1⟩))
      refine ⟨ih.1, ?_⟩
      have := ih.2
      simp only [List.length_append, List.length_cons, List.length_nil] at this
      omega
theorem cyS_ok (p : List Int) (n : Nat) (hp : inR n p) : ∀ i, i ≤ n → ∀ l ∈ (cyS p n i).2, (∀ x ∈ l, 0 ≤ x ∧ x < n) ∧ l.length ≤ n + 1
  | 0, _, l, hl => by simp [cyS] at hl
  | i + 1, hi, l, hl => by
    have ih := cyS_ok p n hp i (by omega)
    have ok := cw_ok p n hp (n + 1) (cyS p n i).1 [] i (cyS_len p n i) (by omega) (by omega) (by simp)
    simp only [cyS] at hl
    split at hl
    · exact ih l hl
    · rw [List.mem_append, List.mem_singleton] at hl
      rcases hl with hl | rfl
      · exact ih l hl
      · exact ⟨ok.1, by simpa using ok.2⟩
theorem rdL_ok (C : List (List Int)) (P : List Int → Prop) (h : ∀ l ∈ C, P l) (i : Nat) (hi : i < C.length) : P (rd_L1 C i) := by
  rw [rdL_nth C i hi]
  exact h _ (List.getElem_mem hi)
def RibOk (t f c : List Int) (n : Nat) : Prop := n ≤ 12 ∧ 1 ≤ n ∧ inR n t ∧ injR n t ∧ inR n f ∧ (∀ i : Nat, i < n → flipAt f i) ∧ isChoice c ((edL f n).length : Int) ∧ c.length ≤ 1048576
theorem ir_l0 (t f c : List Int) (n : Nat) (H : RibOk t f c n) (m : Int) (r : List Int) (h : Ev (fun k => (impl_orbits.f k [t, flC f n c]).bind fun o => impl_ribbon.l1 k c m (flC f n c) 0 o (o.length : Int) 0 t f (chL f n c)) r) : ∀ (d i : Nat), c.length - i = d → i ≤ c.length → Ev (fun k => impl_ribbon.l0 k c m (flC f n (c.take i)) c c.length i t f (chL f n (c.take i))) r
  | 0, i, hd, hi => by
    obtain ⟨hn, h1, ht, hti, hf, hfl, hc, hcl⟩ := id H
    have : i = c.length := by omega
    subst this
    refine Ev.s ?_
    simp only [impl_ribbon.l0, show ¬ (c.length : Int) < (c.length : Int) by omega, if_false, List.take_length]
    exact h
  | d + 1, i, hd, hi => by
    obtain ⟨hn, h1, ht, hti, hf, hfl, hc, hcl⟩ := id H
    have ih := ir_l0 t f c n H m r h d (i + 1) (by omega) (by omega)
    have hr := choice_range c _ hc i (by omega)
    obtain ⟨a, b, ha, hb, hab, e1, e2, e3, e4⟩ := edge_at f n hf hfl (rd c i).toNat (by omega)
    rw [show (((rd c i).toNat : Nat) : Int) = rd c i by omega] at e1 e4
    rw [← step_ch f n c i (by omega) a b ha hb e4, ← step_fl f n c i (by omega) a b ha hb e2 e3 e4] at ih
    have l1 := chL_len f n (c.take i)
    have l2 := flC_len f n (c.take i)
    refine Ev.s ?_
    simp only [impl_ribbon.l0, show (i : Int) < (c.length : Int) by omega, show (0 : Int) ≤ (i : Int) by omega, if_true]
    refine Ev.bind (implEdges_ev n (by omega) t f hf) ?_
    simp only [hr.1, hr.2, e1, e2, hf.1, l1, l2, show (0 : Int) ≤ (a : Int) by omega, show (a : Int) < (n : Int) by omega, show (0 : Int) ≤ (b : Int) by omega, show (b : Int) < (n : Int) by omega, if_true, w64n (show i < 4611686018427387904 by omega), Int.toNat_natCast]
    exact ih
theorem ir_l1 (t f c : List Int) (n : Nat) (H : RibOk t f c n) (m : Int) (g : List Int) (s : List Bool) (o : List Int) (ho : o.length = n) (r : List Int) (h : Ev (fun k => (impl_cyclesOf.f k t).bind fun C => impl_ribbon.l2 k c m g (pc o n) 0 C (C.length : Int) 0 t f s) r) : ∀ (d i : Nat), n - i = d → i ≤ n → Ev (fun k => impl_ribbon.l1 k c m g (pc o i) o n i t f s) r
  | 0, i, hd, hi => by
    obtain ⟨hn, h1, ht, hti, hf, hfl, hc, hcl⟩ := id H
    have : i = n := by omega
    subst this
    refine Ev.s ?_
    simp only [impl_ribbon.l1, show ¬ (i : Int) < (i : Int) by omega, if_false]
    exact h
  | d + 1, i, hd, hi => by
    obtain ⟨hn, h1, ht, hti, hf, hfl, hc, hcl⟩ := id H
    have ih := ir_l1 t f c n H m g s o ho r h d (i + 1) (by omega) (by omega)
    have hp := pc_le o i
    refine Ev.s ?_
    simp only [impl_ribbon.l1, ho, show (i : Int) < (n : Int) by omega, show (0 : Int) ≤ (i : Int) by omega, if_true, w64n (show i < 4611686018427387904 by omega), w64n (show pc o i < 4611686018427387904 by omega)]
    simp only [pc] at ih
    by_cases e : (i : Int) = rd o i
    · simp only [if_pos e] at ih ⊢; exact ih
    · simp only [if_neg e] at ih ⊢; exact ih
theorem ir_l2 (t f c : List Int) (n : Nat) (H : RibOk t f c n) (g : List Int) (P : Int) (C : List (List Int)) (hC : ∀ l ∈ C, (∀ x ∈ l, 0 ≤ x ∧ x < n) ∧ l.length ≤ n + 1) (hCl : C.length ≤ n) (r : List Int) (h : Ev (fun k => impl_ribbon.l3 k c g P (bc C (chB f n c) C.length) (List.replicate n false) n 0 t f (chL f n c)) r) : ∀ (d i : Nat), C.length - i = d → i ≤ C.length → Ev (fun k => impl_ribbon.l2 k c n g P (bc C (chB f n c) i) C C.length i t f (chL f n c)) r
  | 0, i, hd, hi => by
    obtain ⟨hn, h1, ht, hti, hf, hfl, hc, hcl⟩ := id H
    have : i = C.length := by omega
    subst this
    refine Ev.s ?_
    simp only [impl_ribbon.l2, show ¬ (C.length : Int) < (C.length : Int) by omega, if_false, show (0 : Int) ≤ (n : Int) by omega, if_true, Int.toNat_natCast, show n ≤ 281474976710656 by omega]
    exact h
  | d + 1, i, hd, hi => by
    obtain ⟨hn, h1, ht, hti, hf, hfl, hc, hcl⟩ := id H
    have ih := ir_l2 t f c n H g P C hC hCl r h d (i + 1) (by omega) (by omega)
    have hb := bc_le C (chB f n c) i
    have ok := rdL_ok C _ hC i (by omega)
    refine Ev.s ?_
    simp only [impl_ribbon.l2, show (i : Int) < (C.length : Int) by omega, show (0 : Int) ≤ (i : Int) by omega, if_true, w64n (show i < 4611686018427387904 by omega), w64n (show bc C (chB f n c) i < 4611686018427387904 by omega)]
    refine Ev.bind (contF_ev (rd_L1 C i) (by omega) f n c ok.1) ?_
    simp only [bc] at ih
    by_cases e : (rd_L1 C i).any (chB f n c) = true
    · simp only [if_pos e] at ih ⊢; exact ih
    · simp only [if_neg e] at ih ⊢; exact ih
theorem ir_l5 (t f c : List Int) (n : Nat) (H : RibOk t f c n) (g : List Int) (P S : Int) (s : List Bool) (i : Int) (r : List Int) : ∀ (m : Nat) (x : Int), 0 ≤ x ∧ x < n → (∃ k : Nat, k ≤ m ∧ chB f n c (itr t k x) = true) → Ev (fun k => impl_ribbon.l4 k c g P S s (fc t (chB f n c) m x) n i t f (chL f n c)) r → Ev (fun k => impl_ribbon.l5 k c g P S s x n i t f (chL f n c)) r
  | 0, x, hx, ⟨k, hk, hh⟩, h => by
    obtain ⟨hn, h1, ht, hti, hf, hfl, hc, hcl⟩ := id H
    have : k = 0 := by omega
    subst this
    have hh' : chB f n c x = true := hh
    refine Ev.s ?_
    simp only [impl_ribbon.l5, hx.1, chL_len, hx.2, chL_rd f n c x hx.1 hx.2, hh', if_true]
    exact h
  | m + 1, x, hx, ⟨k, hk, hh⟩, h => by
    obtain ⟨hn, h1, ht, hti, hf, hfl, hc, hcl⟩ := id H
    refine Ev.s ?_
    simp only [impl_ribbon.l5, hx.1, chL_len, hx.2, chL_rd f n c x hx.1 hx.2, ht.1, if_true]
    simp only [fc] at h
    have h5 := ht.2 x.toNat (by omega)
    rw [show ((x.toNat : Nat) : Int) = x by omega] at h5
    by_cases e : chB f n c x = true
    · simp only [if_pos e] at h ⊢; exact h
    · simp only [if_neg e] at h ⊢
      cases k with
      | zero => exact absurd hh e
      | succ k => exact ir_l5 t f c n H g P S s i r m _ h5 ⟨k, by omega, hh⟩ h
theorem ir_l4 (t f c : List Int) (n : Nat) (H : RibOk t f c n) (P S : Int) (i : Nat) (r : List Int) : ∀ (m : Nat) (s : List Bool) (l : List Int) (a : Nat), s.length = n → a < n → chB f n c a = true → fresh s < m → Ev (fun k => impl_ribbon.l3 k c (flC f n c) P S (cw (faL t f n c) m s l a).1 n (wrap64 ((i : Int) + 1)) t f (chL f n c)) r → Ev (fun k => impl_ribbon.l4 k c (flC f n c) P S s a n i t f (chL f n c)) r
  | 0, s, l, a, hs, ha, hca, hm, h => absurd hm (Nat.not_lt_zero _)
  | m + 1, s, l, a, hs, ha, hca, hm, h => by
    obtain ⟨hn, h1, ht, hti, hf, hfl, hc, hcl⟩ := id H
    refine Ev.s ?_
    simp only [cw] at h
    have g1 : (a : Int) < (n : Int) := by omega
    have g2 : (0 : Int) ≤ (a : Int) := by omega
    simp only [impl_ribbon.l4, g2, hs, g1, if_true]
    by_cases e : rdOf false s (a : Int) = true
    · simp only [e, if_true] at h ⊢
      exact h
    · simp only [e, if_false] at h ⊢
      have fl := flC_rd f n c a ha
      rw [if_pos hca] at fl
      have fr := hf.2 a ha
      have tr := ht.2 (rd f a).toNat (by omega)
      rw [show (((rd f a).toNat : Nat) : Int) = rd f a by omega] at tr
      have fx := fa_ch t f n ht hti hf hfl c a ha hca
      have h3 : s.getD a false = false := by
        rw [rdOf_nat s a g2, Int.toNat_natCast] at e
        simpa using e
      have h4 := fresh_set s a (by omega) h3
      simp only [flC_len, g1, fl, fr.1, ht.1, fr.2, if_true, Int.toNat_natCast]
      simp only [Int.toNat_natCast] at h
      refine ir_l5 t f c n H (flC f n c) P S _ i r n _ tr (meets t n ht hti _ _ fr (by rw [chB_flip f n hf hfl c a ha]; exact hca)) ?_
      have fe := faL_rd t f n c a ha
      rw [if_pos hca] at fe
      rw [← fe]
      rw [show rd (faL t f n c) a = (((rd (faL t f n c) a).toNat : Nat) : Int) by omega] at h ⊢
      exact ir_l4 t f c n H P S i r m (s.set a true) (l ++ [(a : Int)]) _ (by simpa using hs) (by omega) (by rw [show (((rd (faL t f n c) a).toNat : Nat) : Int) = rd (faL t f n c) a by omega]; exact fx.1) (by omega) h
def fiveN (P S V c : Int) : List Int := [P, S, wrap64 (V - P), wrap64 (c - wrap64 (V - P)), wrap64 (Int.tdiv (wrap64 (wrap64 (wrap64 (wrap64 (2 * P) - V) + c) - S)) 2)]
theorem ir_l3 (t f c : List Int) (n : Nat) (H : RibOk t f c n) (P : Int) (B : Nat) (hB : B ≤ n) : ∀ (d i : Nat), n - i = d → i ≤ n → Ev (fun k => impl_ribbon.l3 k c (flC f n c) P ((B + (ribS (faL t f n c) n (chB f n c) i).2 : Nat) : Int) (ribS (faL t f n c) n (chB f n c) i).1 n i t f (chL f n c)) (fiveN P ((B + (ribS (faL t f n c) n (chB f n c) n).2 : Nat) : Int) ((cyS t n n).2.length : Int) c.length)
  | 0, i, hd, hi => by
    obtain ⟨hn, h1, ht, hti, hf, hfl, hc, hcl⟩ := id H
    have : i = n := by omega
    subst this
    refine Ev.s ?_
    simp only [impl_ribbon.l3, show ¬ (i : Int) < (i : Int) by omega, if_false]
    exact Ev.bind (implCyc_ev t i (by omega) ht) (Ev.const rfl)
  | d + 1, i, hd, hi => by
    obtain ⟨hn, h1, ht, hti, hf, hfl, hc, hcl⟩ := id H
    have ih := ir_l3 t f c n H P B hB d (i + 1) (by omega) (by omega)
    have l1 := ribS_len (faL t f n c) n (chB f n c) i
    have l2 := ribS_le (faL t f n c) n (chB f n c) i
    have fr := fresh_le (ribS (faL t f n c) n (chB f n c) i).1
    have g1 : (i : Int) < (n : Int) := by omega
    have g2 : (0 : Int) ≤ (i : Int) := by omega
    refine Ev.s ?_
    simp only [impl_ribbon.l3, g1, g2, chL_len, if_true, chL_rd f n c _ g2 g1, l1]
    simp only [ribS] at ih
    have wi : wrap64 ((i : Int) + 1) = ((i + 1 : Nat) : Int) := w64n (by omega)
    cases hci : chB f n c (i : Int) with
    | true =>
      simp only [hci, true_and, if_true] at ih ⊢
      refine Ev.s ?_
      cases hs : (ribS (faL t f n c) n (chB f n c) i).1.getD i false with
      | true =>
        rw [hs] at ih
        simp only [Bool.true_eq_false, if_false] at ih
        simp only [impl_ribbon.j4, rdOf_nat _ _ g2, Int.toNat_natCast, hs, if_true, wi]
        exact ih
      | false =>
        rw [hs] at ih
        simp only [if_true] at ih
        simp only [impl_ribbon.j4, rdOf_nat _ _ g2, Int.toNat_natCast, hs, Bool.false_eq_true, if_false, w64n (show B + (ribS (faL t f n c) n (chB f n c) i).2 < 4611686018427387904 by omega)]
        refine ir_l4 t f c n H P _ i _ (n + 1) _ [] i l1 (by omega) hci (by omega) ?_
        rw [wi]
        exact ih
    | false =>
      simp only [hci, Bool.false_eq_true, false_and, if_false] at ih ⊢
      refine Ev.s ?_
      simp only [impl_ribbon.j4, if_true, wi]
      exact ih
def mixL (A B : List Int) (n i : Nat) : List Int := (List.range n).map fun (d : Nat) => if d < i then rd A (d : Int) else rd B (d : Int)
theorem mixL_len (A B : List Int) (n i : Nat) : (mixL A B n i).length = n := by simp [mixL]
theorem mixL_rd (A B : List Int) (n i d : Nat) (h : d < n) : rd (mixL A B n i) (d : Int) = if d < i then rd A (d : Int) else rd B (d : Int) := by
  rw [rd_lt _ _ (by simp [mixL]; exact h)]
  simp [mixL]
theorem mixL_zero (A B : List Int) (n : Nat) (hB : B.length = n) : mixL A B n 0 = B := by
  refine list_ext _ _ (by rw [mixL_len, hB]) fun d hd => ?_
  rw [mixL_len] at hd
  rw [mixL_rd A B n 0 d hd, if_neg (by omega)]
theorem mixL_all (A B : List Int) (n : Nat) (hA : A.length = n) : mixL A B n n = A := by
  refine list_ext _ _ (by rw [mixL_len, hA]) fun d hd => ?_
  rw [mixL_len] at hd
  rw [mixL_rd A B n n d hd, if_pos hd]
theorem mixL_set (A B : List Int) (n i : Nat) (hi : i < n) : (mixL A B n i).set i (rd A i) = mixL A B n (i + 1) := by
  refine list_ext _ _ (by simp [mixL_len]) fun d hd => ?_
  have hd' : d < n := by simpa [mixL_len] using hd
  rw [mixL_rd A B n (i + 1) d hd']
  by_cases e : i = d
  · subst e
    rw [rd_set_self _ _ _ (by rw [mixL_len]; exact hi), if_pos (by omega)]
  · rw [rd_set_ne _ _ _ _ e, mixL_rd A B n i d hd']
    by_cases e2 : d < i
    · rw [if_pos e2, if_pos (by omega)]
    · rw [if_neg e2, if_neg (by omega)]
theorem mixL_skip (A B : List Int) (n i : Nat) (hi : i < n) (h : rd A i = rd B i) : mixL A B n i = mixL A B n (i + 1) := by
  refine list_ext _ _ (by simp [mixL_len]) fun d hd => ?_
  have hd' : d < n := by simpa [mixL_len] using hd
  rw [mixL_rd A B n (i + 1) d hd', mixL_rd A B n i d hd']
  by_cases e2 : d < i
  · rw [if_pos e2, if_pos (by omega)]
  · rw [if_neg e2]
    by_cases e : d < i + 1
    · have : d = i := by omega
      subst this
      rw [if_pos e, h]
    · rw [if_neg e]
theorem sp_l1 (o : List Int) (n : Nat) (hn : n ≤ 12) (ho : o.length = n) : ∀ (d i : Nat), n - i = d → i ≤ n → Ev (fun k => spec_l7Parts.l1 k o (pc o i) i) (pc o n : Int)
  | 0, i, hd, hi => by
    have : i = n := by omega
    subst this
    refine Ev.s ?_
    simp only [spec_l7Parts.l1, ho, show ¬ (i : Int) < (i : Int) by omega, if_false]
    exact Ev.const rfl
  | d + 1, i, hd, hi => by
    have ih := sp_l1 o n hn ho d (i + 1) (by omega) (by omega)
    have hp := pc_le o i
    refine Ev.s ?_
    simp only [spec_l7Parts.l1, ho, show (i : Int) < (n : Int) by omega, show (0 : Int) ≤ (i : Int) by omega, if_true, w64n (show i < 4611686018427387904 by omega), w64n (show pc o i < 4611686018427387904 by omega)]
    simp only [pc] at ih
    by_cases e : (i : Int) = rd o i
    · simp only [if_pos e] at ih
      simp only [if_pos e.symm]
      exact ih
    · simp only [if_neg e] at ih
      have e' : ¬ rd o i = (i : Int) := fun z => e z.symm
      simp only [if_neg e']
      exact ih
theorem sp_l0 (t f c : List Int) (n : Nat) (H : RibOk t f c n) (r : Int) (h : Ev (fun k => (spec_l1Orbits.f k t (flC f n c)).bind fun o => spec_l7Parts.l1 k o 0 0) r) : ∀ (d i : Nat), n - i = d → i ≤ n → Ev (fun k => spec_l7Parts.l0 k c (mixL (flC f n c) (stl n) n i) (geL f n n) i t f) r
  | 0, i, hd, hi => by
    have : i = n := by omega
    subst this
    refine Ev.s ?_
    simp only [spec_l7Parts.l0, mixL_len, show ¬ (i : Int) < (i : Int) by omega, if_false]
    rw [mixL_all _ _ _ (flC_len f i c)]
    exact h
  | d + 1, i, hd, hi => by
    obtain ⟨hn, h1, ht, hti, hf, hfl, hc, hcl⟩ := id H
    have ih := sp_l0 t f c n H r h d (i + 1) (by omega) (by omega)
    have g1 : (i : Int) < (n : Int) := by omega
    have g2 : (0 : Int) ≤ (i : Int) := by omega
    have fl := flC_rd f n c i (by omega)
    refine Ev.s ?_
    simp only [spec_l7Parts.l0, mixL_len, g1, g2, geL_len, if_true]
    refine Ev.bind (has_ev c hcl (rd (geL f n n) i)) ?_
    rw [show decide (rd (geL f n n) (i : Int) ∈ c) = chB f n c i from rfl]
    simp only [hf.1, g1, if_true, w64n (show i < 4611686018427387904 by omega), Int.toNat_natCast]
    by_cases e : chB f n c i = true
    · rw [if_pos e] at fl
      simp only [if_pos e]
      rw [← mixL_set _ _ _ _ (by omega : i < n), fl] at ih
      exact ih
    · rw [if_neg e] at fl
      simp only [if_neg e]
      rw [← mixL_skip _ _ _ _ (by omega : i < n) (by rw [fl, stl_rd n i (by omega)])] at ih
      exact ih
theorem ribbon_parts (t f c : List Int) (n : Nat) (H : RibOk t f c n) : ∃ o, orbOk [t, flC f n c] n o ∧ Ev (fun k => spec_l7Parts.f k t f c) (pc o n : Int) ∧
    Ev (fun k => impl_ribbon.f k t f c) (fiveN (pc o n) (sidesN t f n c) ((cyS t n n).2.length : Int) c.length) := by
  obtain ⟨hn, h1, ht, hti, hf, hfl, hc, hcl⟩ := id H
  obtain ⟨o, o1, o2, o3⟩ := orb_both t (flC f n c) n hn h1 ht (flC_inR f n hf c)
  have hp : Ev (fun k => spec_l7Parts.f k t f c) (pc o n : Int) := by
    unfold spec_l7Parts.f
    rw [hf.1]
    refine Ev.bind (same_ev n (by omega)) ?_
    refine Ev.bind (specEdges_ev n (by omega) t f hf) ?_
    have := sp_l0 t f c n H _ (Ev.bind o2 (sp_l1 o n hn o1.1.1 n 0 (by omega) (by omega))) n 0 (by omega) (by omega)
    rw [mixL_zero _ _ _ (stl_length n)] at this
    exact this
  refine ⟨o, o1, hp, ?_⟩
  · unfold impl_ribbon.f
    rw [ht.1]
    simp only [show (0 : Int) ≤ (n : Int) by omega, Int.toNat_natCast, show n ≤ 281474976710656 by omega, if_true]
    refine Ev.bind (still_ev n (by omega)) ?_
    have hCl := cyS_many t n n
    have hb := bc_le (cyS t n n).2 (chB f n c) (cyS t n n).2.length
    rw [← flC_zero f n c, ← chL_zero f n c]
    refine ir_l0 t f c n H n _ (Ev.bind o3 ?_) c.length 0 (by omega) (by omega)
    rw [o1.1.1]
    refine ir_l1 t f c n H n _ _ o o1.1.1 _ (Ev.bind (implCyc_ev t n (by omega) ht) ?_) n 0 (by omega) (by omega)
    refine ir_l2 t f c n H _ _ _ (cyS_ok t n ht n (Nat.le_refl _)) hCl _ ?_ _ 0 rfl (by omega)
    exact ir_l3 t f c n H (pc o n) _ (by omega) n 0 (by omega) (by omega)
theorem perm_injR (l : List Int) (h : isPerm l) : injR l.length l := by
  intro i j hi hj e
  by_cases h1 : i < j
  · exact absurd e ((h.2.2 j hj).2.2 i h1)
  · by_cases h2 : j < i
    · exact absurd e.symm ((h.2.2 i hi).2.2 j h2)
    · omega
theorem ribOk_of (t f c : List Int) (h : isMap t f) (hc : isChoice c ((f.length : Int) / 2)) (hcl : c.length ≤ 1048576) : RibOk t f c t.length := by
  obtain ⟨pt, pf, e, fl, _⟩ := h
  have hf : inR t.length f := by rw [e]; exact isPerm_inR f pf
  have hfl : ∀ i : Nat, i < t.length → flipAt f i := fun i hi => fl i (by omega)
  refine ⟨pt.2.1, pt.1, isPerm_inR t pt, perm_injR t pt, hf, hfl, ?_, hcl⟩
  have := edL_half f t.length hf hfl
  rw [show (((edL f t.length).length : Nat) : Int) = (f.length : Int) / 2 by omega]
  exact hc
theorem five_len (P S V c : Int) : (fiveN P S V c).length = 5 := rfl
def Cnt (n : Nat) (P : Nat → Prop) (k : Nat) : Prop := ∃ L : List Nat, L.Nodup ∧ (∀ x, x ∈ L ↔ x < n ∧ P x) ∧ L.length = k
theorem Cnt.ex (P : Nat → Prop) : ∀ n, ∃ k, Cnt n P k ∧ k ≤ n
  | 0 => ⟨0, ⟨[], List.nodup_nil, by simp, rfl⟩, Nat.le_refl _⟩
  | n + 1 => by
    obtain ⟨k, ⟨L, h1, h2, h3⟩, hk⟩ := Cnt.ex P n
    by_cases h : P n
    · refine ⟨k + 1, ⟨n :: L, List.nodup_cons.2 ⟨fun z => by have := ((h2 n).1 z).1; omega, h1⟩, fun x => ?_, by simp [h3]⟩, by omega⟩
      rw [List.mem_cons, h2]
      constructor
      · rintro (rfl | ⟨a, b⟩)
        · exact ⟨by omega, h⟩
        · exact ⟨by omega, b⟩
      · rintro ⟨a, b⟩
        by_cases e : x = n
        · exact .inl e
        · exact .inr ⟨by omega, b⟩
    · refine ⟨k, ⟨L, h1, fun x => ?_, h3⟩, by omega⟩
      rw [h2]
      constructor
      · rintro ⟨a, b⟩; exact ⟨by omega, b⟩
      · rintro ⟨a, b⟩
        by_cases e : x = n
        · exact absurd (e ▸ b) h
        · exact ⟨by omega, b⟩
theorem Cnt.le {n : Nat} {P Q : Nat → Prop} {k l : Nat} (hp : Cnt n P k) (hq : Cnt n Q l) (g : Nat → Nat) (hg : ∀ x, x < n → P x → g x < n ∧ Q (g x)) (hi : ∀ x y, x < n → P x → y < n → P y → g x = g y → x = y) : k ≤ l := by
  obtain ⟨L, h1, h2, rfl⟩ := hp
  obtain ⟨M, m1, m2, rfl⟩ := hq
  rw [← List.length_map (f := g)]
  refine len_le_of_sub _ _ ?_ ?_
  · rw [List.Nodup, List.pairwise_map]
    refine List.Pairwise.imp_of_mem ?_ h1
    intro a b ha hb hab e
    exact hab (hi a b ((h2 a).1 ha).1 ((h2 a).1 ha).2 ((h2 b).1 hb).1 ((h2 b).1 hb).2 e)
  · intro y hy
    obtain ⟨a, ha, rfl⟩ := List.mem_map.1 hy
    exact (m2 _).2 (hg a ((h2 a).1 ha).1 ((h2 a).1 ha).2)
theorem Cnt.sub {n : Nat} {P Q : Nat → Prop} {k l : Nat} (hp : Cnt n P k) (hq : Cnt n Q l) (h : ∀ x, x < n → P x → Q x) : k ≤ l :=
  hp.le hq (fun x => x) (fun x hx px => ⟨hx, h x hx px⟩) (fun _ _ _ _ _ _ e => e)
theorem Cnt.congr {n : Nat} {P Q : Nat → Prop} {k : Nat} (hp : Cnt n P k) (h : ∀ x, x < n → (P x ↔ Q x)) : Cnt n Q k := by
  obtain ⟨L, h1, h2, h3⟩ := hp
  exact ⟨L, h1, fun x => by rw [h2]; exact ⟨fun z => ⟨z.1, (h x z.1).1 z.2⟩, fun z => ⟨z.1, (h x z.1).2 z.2⟩⟩, h3⟩
theorem Cnt.drop {n : Nat} {P Q : Nat → Prop} {k : Nat} (hp : Cnt n P k) (z : Nat) (hz : z < n) (pz : P z) (h : ∀ x, x < n → (Q x ↔ P x ∧ x ≠ z)) : 1 ≤ k ∧ Cnt n Q (k - 1) := by
  obtain ⟨L, h1, h2, rfl⟩ := hp
  have hm : z ∈ L := (h2 z).2 ⟨hz, pz⟩
  have := List.length_pos_of_mem hm
  refine ⟨this, L.erase z, h1.erase z, fun x => ?_, List.length_erase_of_mem hm⟩
  rw [h1.mem_erase_iff, h2]
  constructor
  · rintro ⟨a, b, c⟩; exact ⟨b, (h x b).2 ⟨c, a⟩⟩
  · rintro ⟨a, b⟩; have := (h x a).1 b; exact ⟨this.2, a, this.1⟩
def lst (R : Nat → Nat → Prop) (j : Nat) : Prop := ∀ i, i < j → ¬ R i j
def Cl (n : Nat) (R : Nat → Nat → Prop) (k : Nat) : Prop := Cnt n (lst R) k
def Exch (n : Nat) (p q : List Int) (a b : Nat) : Prop := a < n ∧ b < n ∧ a ≠ b ∧ rd q a = rd p b ∧ rd q b = rd p a ∧ ∀ x : Nat, x < n → x ≠ a → x ≠ b → rd q x = rd p x
theorem Exch.symm {n : Nat} {p q : List Int} {a b : Nat} (h : Exch n p q a b) : Exch n q p a b := ⟨h.1, h.2.1, h.2.2.1, h.2.2.2.2.1.symm, h.2.2.2.1.symm, fun x hx h1 h2 => (h.2.2.2.2.2 x hx h1 h2).symm⟩
theorem Cl.ex (n : Nat) (R : Nat → Nat → Prop) : ∃ k, Cl n R k ∧ k ≤ n := Cnt.ex _ n
def vt (C : List (List Int)) (n : Nat) : Nat → List Int
  | 0 => List.replicate n 0
  | q + 1 => (rd_L1 C q).foldl (fun o d => o.set d.toNat (q : Int)) (vt C n q)
theorem fold_len (v : Int) : ∀ (l o : List Int), (l.foldl (fun o d => o.set d.toNat v) o).length = o.length
  | [], o => rfl
  | x :: l, o => by
    rw [List.foldl_cons, fold_len v l]
    simp
theorem vt_len (C : List (List Int)) (n : Nat) : ∀ q, (vt C n q).length = n
  | 0 => by simp [vt]
  | q + 1 => by
    simp only [vt]
    rw [fold_len, vt_len C n q]
theorem sv_l1 (C : List (List Int)) (n q : Nat) (hn : n ≤ 12) (hq : q < C.length) (hl : (∀ x ∈ rd_L1 C q, 0 ≤ x ∧ x < n) ∧ (rd_L1 C q).length ≤ n + 1) (r : List Int) : ∀ (d i : Nat) (o : List Int), (rd_L1 C q).length - i = d → i ≤ (rd_L1 C q).length → o.length = n →
    Ev (fun k => spec_l7Vertices.l0 k (((rd_L1 C q).drop i).foldl (fun o d => o.set d.toNat (q : Int)) o) C (wrap64 ((q : Int) + 1))) r → Ev (fun k => spec_l7Vertices.l1 k o C q i) r
  | 0, i, o, hd, hi, ho, h => by
    have : i = (rd_L1 C q).length := by omega
    rw [List.drop_eq_nil_of_le (by omega)] at h
    refine Ev.s ?_
    simp only [spec_l7Vertices.l1, show (0 : Int) ≤ (q : Int) by omega, show (q : Int) < (C.length : Int) by omega, show ¬ (i : Int) < ((rd_L1 C q).length : Int) by omega, if_true, if_false]
    exact h
  | d + 1, i, o, hd, hi, ho, h => by
    have hlt : i < (rd_L1 C q).length := by omega
    have e := rd_lt _ i hlt
    have hr := hl.1 _ (List.getElem_mem hlt)
    rw [List.drop_eq_getElem_cons hlt, List.foldl_cons, ← e] at h
    rw [← e] at hr
    refine Ev.s ?_
    simp only [spec_l7Vertices.l1, show (0 : Int) ≤ (q : Int) by omega, show (q : Int) < (C.length : Int) by omega, show (i : Int) < ((rd_L1 C q).length : Int) by omega, show (0 : Int) ≤ (i : Int) by omega, hr.1, ho, hr.2, if_true, w64n (show i < 4611686018427387904 by omega)]
    exact sv_l1 C n q hn hq hl r d (i + 1) _ (by omega) (by omega) (by simpa using ho) h
theorem sv_l0 (C : List (List Int)) (n : Nat) (hn : n ≤ 12) (hC : ∀ l ∈ C, (∀ x ∈ l, 0 ≤ x ∧ x < n) ∧ l.length ≤ n + 1) (hCl : C.length ≤ n) : ∀ (d q : Nat), C.length - q = d → q ≤ C.length → Ev (fun k => spec_l7Vertices.l0 k (vt C n q) C q) (vt C n C.length)
  | 0, q, hd, hq => by
    have : q = C.length := by omega
    subst this
    refine Ev.s ?_
    simp only [spec_l7Vertices.l0, show ¬ (C.length : Int) < (C.length : Int) by omega, if_false]
    exact Ev.const rfl
  | d + 1, q, hd, hq => by
    have ih := sv_l0 C n hn hC hCl d (q + 1) (by omega) (by omega)
    have ok := rdL_ok C _ hC q (by omega)
    refine Ev.s ?_
    simp only [spec_l7Vertices.l0, show (q : Int) < (C.length : Int) by omega, if_true]
    refine sv_l1 C n q hn (by omega) ok _ _ 0 _ rfl (by omega) (vt_len C n q) ?_
    rw [List.drop_zero, w64n (by omega)]
    exact ih
theorem iv_l1 (C : List (List Int)) (n q : Nat) (hn : n ≤ 12) (hq : q < C.length) (hl : (∀ x ∈ rd_L1 C q, 0 ≤ x ∧ x < n) ∧ (rd_L1 C q).length ≤ n + 1) (r : List Int) : ∀ (d i : Nat) (o : List Int), (rd_L1 C q).length - i = d → i ≤ (rd_L1 C q).length → o.length = n →
    Ev (fun k => impl_vertexOf.l0 k (((rd_L1 C q).drop i).foldl (fun o d => o.set d.toNat (q : Int)) o) C C.length (wrap64 ((q : Int) + 1))) r → Ev (fun k => impl_vertexOf.l1 k o q C C.length q (rd_L1 C q) (rd_L1 C q).length i) r
  | 0, i, o, hd, hi, ho, h => by
    have : i = (rd_L1 C q).length := by omega
    rw [List.drop_eq_nil_of_le (by omega)] at h
    refine Ev.s ?_
    simp only [impl_vertexOf.l1, show ¬ (i : Int) < ((rd_L1 C q).length : Int) by omega, if_true, if_false]
    exact h
  | d + 1, i, o, hd, hi, ho, h => by
    have hlt : i < (rd_L1 C q).length := by omega
    have e := rd_lt _ i hlt
    have hr := hl.1 _ (List.getElem_mem hlt)
    rw [List.drop_eq_getElem_cons hlt, List.foldl_cons, ← e] at h
    rw [← e] at hr
    refine Ev.s ?_
    simp only [impl_vertexOf.l1, show (i : Int) < ((rd_L1 C q).length : Int) by omega, show (0 : Int) ≤ (i : Int) by omega, hr.1, ho, hr.2, if_true, w64n (show i < 4611686018427387904 by omega)]
    exact iv_l1 C n q hn hq hl r d (i + 1) _ (by omega) (by omega) (by simpa using ho) h
theorem iv_l0 (C : List (List Int)) (n : Nat) (hn : n ≤ 12) (hC : ∀ l ∈ C, (∀ x ∈ l, 0 ≤ x ∧ x < n) ∧ l.length ≤ n + 1) (hCl : C.length ≤ n) : ∀ (d q : Nat), C.length - q = d → q ≤ C.length → Ev (fun k => impl_vertexOf.l0 k (vt C n q) C C.length q) (vt C n C.length)
  | 0, q, hd, hq => by
    have : q = C.length := by omega
    subst this
    refine Ev.s ?_
    simp only [impl_vertexOf.l0, show ¬ (C.length : Int) < (C.length : Int) by omega, if_false]
    exact Ev.const rfl
  | d + 1, q, hd, hq => by
    have ih := iv_l0 C n hn hC hCl d (q + 1) (by omega) (by omega)
    have ok := rdL_ok C _ hC q (by omega)
    refine Ev.s ?_
    simp only [impl_vertexOf.l0, show (q : Int) < (C.length : Int) by omega, show (0 : Int) ≤ (q : Int) by omega, if_true]
    refine iv_l1 C n q hn (by omega) ok _ _ 0 _ rfl (by omega) (vt_len C n q) ?_
    rw [List.drop_zero, w64n (by omega)]
    exact ih
def vtx (t : List Int) (n : Nat) : List Int := vt (cyS t n n).2 n (cyS t n n).2.length
theorem specVert_ev (t : List Int) (n : Nat) (hn : n ≤ 12) (ht : inR n t) : Ev (fun k => spec_l7Vertices.f k t) (vtx t n) := by
  unfold spec_l7Vertices.f
  rw [ht.1]
  simp only [show (0 : Int) ≤ (n : Int) by omega, Int.toNat_natCast, show n ≤ 35184372088832 by omega, if_true]
  refine Ev.bind (specCyc_ev t n (by omega) ht) ?_
  exact sv_l0 _ n hn (cyS_ok t n ht n (Nat.le_refl _)) (cyS_many t n n) _ 0 rfl (by omega)
theorem implVert_ev (t f : List Int) (n : Nat) (hn : n ≤ 12) (ht : inR n t) : Ev (fun k => impl_vertexOf.f k t f) (vtx t n) := by
  unfold impl_vertexOf.f
  rw [ht.1]
  simp only [show (0 : Int) ≤ (n : Int) by omega, Int.toNat_natCast, show n ≤ 35184372088832 by omega, if_true]
  refine Ev.bind (implCyc_ev t n (by omega) ht) ?_
  exact iv_l0 _ n hn (cyS_ok t n ht n (Nat.le_refl _)) (cyS_many t n n) _ 0 rfl (by omega)
theorem dart_run (f : List Int) (n e a : Nat) (hn : n ≤ 12) (ha : a < n) (h1 : rd (geL f n n) (a : Int) = e) (h2 : ∀ d : Nat, d < a → rd (geL f n n) (d : Int) ≠ e) : ∀ (d i : Nat), a - i = d → i ≤ a → Ev (fun k => spec_l7Dart.l0 k e (geL f n n) i) (a : Int)
  | 0, i, hd, hi => by
    have : i = a := by omega
    subst this
    refine Ev.s ?_
    simp only [spec_l7Dart.l0, geL_len, show (i : Int) < (n : Int) by omega, show (0 : Int) ≤ (i : Int) by omega, h1, if_true]
    exact Ev.const rfl
  | d + 1, i, hd, hi => by
    refine Ev.s ?_
    simp only [spec_l7Dart.l0, geL_len, show (i : Int) < (n : Int) by omega, show (0 : Int) ≤ (i : Int) by omega, h2 i (by omega), if_true, if_false, w64n (show i < 4611686018427387904 by omega)]
    exact dart_run f n e a hn ha h1 h2 d (i + 1) (by omega) (by omega)
theorem mem_restL (c : List Int) (m : Nat) (x : Int) : x ∈ restL c m ↔ ∃ j : Nat, j < m ∧ x = (j : Int) ∧ (j : Int) ∉ c := by
  unfold restL
  rw [List.mem_map]
  constructor
  · rintro ⟨j, hj, rfl⟩
    rw [List.mem_filter, List.mem_range] at hj
    exact ⟨j, hj.1, rfl, by simpa using hj.2⟩
  · rintro ⟨j, h1, rfl, h2⟩
    exact ⟨j, by rw [List.mem_filter, List.mem_range]; exact ⟨h1, by simpa using h2⟩, rfl⟩
theorem choice_of (c : List Int) (m : Int) (h1 : ∀ x ∈ c, 0 ≤ x ∧ x < m) (h2 : c.Pairwise (· < ·)) : isChoice c m := by
  intro i hi
  have e := rd_lt c i hi
  have h := h1 _ (List.getElem_mem hi)
  rw [← e] at h
  refine ⟨?_, h.2⟩
  cases i with
  | zero => rw [ahead_zero]; omega
  | succ i =>
    rw [ahead_succ, rd_lt c i (by omega), e]
    exact List.pairwise_iff_getElem.1 h2 i (i + 1) (by omega) hi (by omega)
theorem restL_choice (c : List Int) (m : Nat) : isChoice (restL c m) m := by
  refine choice_of _ _ (fun x hx => ?_) ?_
  · obtain ⟨j, h1, rfl, _⟩ := (mem_restL c m x).1 hx
    omega
  · unfold restL
    rw [List.pairwise_map]
    exact ((List.pairwise_lt_range (n := m)).filter _).imp (fun h => by omega)
theorem pc_cnt (o : List Int) : ∀ n, Cnt n (fun i => (i : Int) = rd o i) (pc o n)
  | 0 => ⟨[], List.nodup_nil, by simp, rfl⟩
  | n + 1 => by
    obtain ⟨L, h1, h2, h3⟩ := pc_cnt o n
    simp only [pc]
    by_cases h : (n : Int) = rd o n
    · rw [if_pos h]
      refine ⟨n :: L, List.nodup_cons.2 ⟨fun z => by have := ((h2 n).1 z).1; omega, h1⟩, fun x => ?_, by simp [h3]⟩
      rw [List.mem_cons, h2]
      constructor
      · rintro (rfl | ⟨a, b⟩)
        · exact ⟨by omega, h⟩
        · exact ⟨by omega, b⟩
      · rintro ⟨a, b⟩
        by_cases e : x = n
        · exact .inl e
        · exact .inr ⟨by omega, b⟩
    · rw [if_neg h]
      refine ⟨L, h1, fun x => ?_, h3⟩
      rw [h2]
      constructor
      · rintro ⟨a, b⟩; exact ⟨by omega, b⟩
      · rintro ⟨a, b⟩
        by_cases e : x = n
        · exact absurd (e ▸ b) h
        · exact ⟨by omega, b⟩
theorem geL_lt (f : List Int) (n : Nat) (hf : inR n f) (hfl : ∀ i : Nat, i < n → flipAt f i) (d : Nat) (hd : d < n) : ∃ j : Nat, j < (edL f n).length ∧ rd (geL f n n) d = (j : Int) := by
  have l := least_lt f n hf hfl d hd
  exact ⟨_, edL_lt f _ l.2 n l.1, geL_at f n hf hfl n (Nat.le_refl _) d hd l.1⟩
theorem one_or_two (t f : List Int) (n : Nat) (h1 : 1 ≤ n) (ht : inR n t) (hf : inR n f) (hfl : ∀ i : Nat, i < n → flipAt f i) (hcon : ∀ i j : Nat, i < n → j < n → Reach [t, f] n i j) (e : Nat) (he : e < (edL f n).length) (o : List Int) (ho : orbOk [t, flC f n (restL [(e : Int)] (edL f n).length)] n o) : pc o n = 1 ∨ pc o n = 2 := by
  obtain ⟨a, b, ha, hb, hab, e1, e2, e3, e4⟩ := edge_at f n hf hfl e he
  have hin : ∀ p ∈ [t, flC f n (restL [(e : Int)] (edL f n).length)], inR n p := by
    intro p hp
    rcases List.mem_cons.1 hp with rfl | hp
    · exact ht
    · rw [List.mem_singleton.1 hp]; exact flC_inR f n hf _
  have hS : ∀ z, z < n → Reach [t, flC f n (restL [(e : Int)] (edL f n).length)] n z a ∨ Reach [t, flC f n (restL [(e : Int)] (edL f n).length)] n z b := by
    intro z hz
    have hc : closedL [t, f] n (fun z => Reach [t, flC f n (restL [(e : Int)] (edL f n).length)] n z a ∨ Reach [t, flC f n (restL [(e : Int)] (edL f n).length)] n z b) := by
      intro p hp k hk
      rcases List.mem_cons.1 hp with rfl | hp
      · have s := Reach.step (ps := [p, flC f n (restL [(e : Int)] (edL f n).length)]) (n := n) (p := p) (by simp) hk
        exact ⟨fun h => h.imp (fun h => s.symm.trans h) (fun h => s.symm.trans h), fun h => h.imp (fun h => s.trans h) (fun h => s.trans h)⟩
      · rw [List.mem_singleton.1 hp]
        by_cases ka : k = a
        · subst ka
          rw [e2]
          exact ⟨fun _ => .inr (Reach.refl _ _ _), fun _ => .inl (Reach.refl _ _ _)⟩
        · by_cases kb : k = b
          · subst kb
            rw [e3]
            exact ⟨fun _ => .inl (Reach.refl _ _ _), fun _ => .inr (Reach.refl _ _ _)⟩
          · have s := Reach.step (ps := [t, flC f n (restL [(e : Int)] (edL f n).length)]) (n := n) (p := flC f n (restL [(e : Int)] (edL f n).length)) (by simp) hk
            obtain ⟨j, j1, j2⟩ := geL_lt f n hf hfl k hk
            have hch : chB f n (restL [(e : Int)] (edL f n).length) k = true := by
              unfold chB
              rw [j2]
              refine decide_eq_true ((mem_restL _ _ _).2 ⟨j, j1, rfl, ?_⟩)
              rw [List.mem_singleton]
              intro z
              rw [z] at j2
              exact ((e4 k hk).1 j2).elim ka kb
            rw [flC_rd f n _ k hk, if_pos hch] at s
            exact ⟨fun h => h.imp (fun h => s.symm.trans h) (fun h => s.symm.trans h), fun h => h.imp (fun h => s.trans h) (fun h => s.trans h)⟩
    exact ((hcon z a hz ha) _ hc).2 (.inl (Reach.refl _ _ _))
  obtain ⟨L, l1, l2, l3⟩ := pc_cnt o n
  have le2 := len_le_of_sub L [(rd o a).toNat, (rd o b).toNat] l1 (fun x hx => by
    have hx' := (l2 x).1 hx
    have h2 : (x : Int) = rd o x := hx'.2
    rcases hS x hx'.1 with h | h
    · have := orbOk_const ho hin h
      rw [this] at h2
      simp only [List.mem_cons, List.not_mem_nil, or_false]
      omega
    · have := orbOk_const ho hin h
      rw [this] at h2
      simp only [List.mem_cons, List.not_mem_nil, or_false]
      omega)
  have h0 := ho.1.2 0 h1
  have m0 : 0 ∈ L := (l2 0).2 ⟨h1, by have := h0.1; have := h0.2.1; omega⟩
  have := List.length_pos_of_mem m0
  simp only [List.length_cons, List.length_nil] at le2
  omega
theorem edgeKind_more (t f : List Int) (ht : t.length ≤ 1048576) (hf : f.length ≤ 1048576) (e : Int) : ∃ r : Int, Ev (fun k => spec_EdgeKind.f k t f e) r ∧ Ev (fun k => impl_EdgeKind.f k t f e) r ∧ (r = -1 ∨ 0 ≤ r ∧ isMap t f ∧ 0 ≤ e ∧ e ≤ (f.length : Int) / 2 - 1) := by
  obtain ⟨b, b1, b2, b3⟩ := mapValid_both t f ht hf
  have wf : wrap64 ((f.length : Int) / 2) = (f.length : Int) / 2 := w64 (by omega) (by omega)
  have wf1 : wrap64 ((f.length : Int) / 2 - 1) = (f.length : Int) / 2 - 1 := w64 (by omega) (by omega)
  unfold spec_EdgeKind.f impl_EdgeKind.f
  cases b with
  | false =>
    refine ⟨-1, ?_, ?_, .inl rfl⟩
    · refine Ev.bind b1 ?_
      simp only [Bool.false_eq_true, if_false]
      refine Ev.s ?_
      simp only [spec_EdgeKind.j0, if_true]
      exact Ev.const rfl
    · refine Ev.bind b2 ?_
      simp only [Bool.false_eq_true, if_false]
      refine Ev.s ?_
      simp only [impl_EdgeKind.j0, if_true]
      exact Ev.const rfl
  | true =>
    have hm := b3.1 rfl
    by_cases he : 0 ≤ e ∧ e ≤ (f.length : Int) / 2 - 1
    · have H0 := ribOk_of t f [] hm (fun i hi => by simp at hi) (by simp)
      obtain ⟨hn, h1, ht', hti, hf', hfl, _, _⟩ := H0
      have hcon := hm.2.2.2.2
      have hh := edL_half f t.length hf' hfl
      have hlen := hf'.1
      obtain ⟨E, rfl⟩ : ∃ E : Nat, e = (E : Int) := ⟨e.toNat, by omega⟩
      obtain ⟨a, a', ha, ha', hab, e1, e2, e3, e4⟩ := edge_at f t.length hf' hfl E (by omega)
      obtain ⟨a2, _, l2, l3, _⟩ := edL_get f t.length E (by omega)
      have haa : a2 = a := by omega
      subst haa
      have hlt : a2 < a' := by omega
      have hch : isChoice [(E : Int)] ((f.length : Int) / 2) := choice_of _ _ (by simp; omega) (by simp)
      obtain ⟨r, rb, r1, r2, r3, r4, r5⟩ := choiceRest_both t f [(E : Int)] ht hf (by simp)
      have hrb : rb = true := r5 ⟨hm, hch⟩
      subst hrb
      have hr := (r4 rfl).1
      have hHalf : f.length / 2 = (edL f t.length).length := by omega
      rw [hHalf] at hr
      subst hr
      have hR := ribOk_of t f (restL [(E : Int)] (edL f t.length).length) hm (by rw [show (f.length : Int) / 2 = (((edL f t.length).length : Nat) : Int) by omega]; exact restL_choice _ _) r3
      obtain ⟨o, o1, o2, o4⟩ := ribbon_parts t f _ t.length hR
      have h12 := one_or_two t f t.length h1 ht' hf' hfl (fun i j hi hj => by have := hcon i j (by omega) (by omega); rwa [hlen] at this) E (by omega) o o1
      have vl := vt_len (cyS t t.length t.length).2 t.length (cyS t t.length t.length).2.length
      have vl' : (vtx t t.length).length = t.length := vl
      by_cases hv : rd (vtx t t.length) (a2 : Int) = rd (vtx t t.length) (a' : Int)
      · refine ⟨2, ?_, ?_, .inr ⟨by decide, hm, he⟩⟩
        · refine Ev.bind b1 ?_
          simp only [if_true, wf, wf1, l6In_eq, Option.bind_some, he, decide_true, and_self, Bool.not_true]
          refine Ev.s ?_
          simp only [spec_EdgeKind.j0, Bool.false_eq_true, if_false]
          refine Ev.bind (Ev.bind (specEdges_ev t.length (by omega) t f hf') (dart_run f t.length E a2 hn ha ((e4 a2 ha).2 (.inl rfl)) (fun d hd z => by rcases (e4 d (by omega)).1 z with h | h <;> omega) _ 0 rfl (by omega))) ?_
          refine Ev.bind (specVert_ev t t.length hn ht') ?_
          simp only [show (0 : Int) ≤ (a2 : Int) by omega, vl', show (a2 : Int) < (t.length : Int) by omega, hlen, e2, show (0 : Int) ≤ (a' : Int) by omega, show (a' : Int) < (t.length : Int) by omega, hv, if_true]
          exact Ev.const rfl
        · refine Ev.bind b2 ?_
          simp only [if_true, show ¬ (E : Int) < 0 by omega, if_false, wf, show ¬ (E : Int) ≥ (f.length : Int) / 2 by omega, decide_false]
          refine Ev.s ?_
          simp only [impl_EdgeKind.j0, Bool.false_eq_true, if_false]
          refine Ev.bind (implEdges_ev t.length (by omega) t f hf') ?_
          simp only [show (0 : Int) ≤ (E : Int) by omega, show (E : Int) < ((edL f t.length).length : Int) by omega, if_true]
          refine Ev.bind (implVert_ev t f t.length hn ht') ?_
          simp only [e1, show (0 : Int) ≤ (a2 : Int) by omega, vl', show (a2 : Int) < (t.length : Int) by omega, hlen, e2, show (0 : Int) ≤ (a' : Int) by omega, show (a' : Int) < (t.length : Int) by omega, hv, if_true]
          exact Ev.const rfl
      · refine ⟨wrap64 ((pc o t.length : Int) - 1), ?_, ?_, .inr ⟨by rcases h12 with h | h <;> rw [h] <;> simp [wrap64], hm, he⟩⟩
        · refine Ev.bind b1 ?_
          simp only [if_true, wf, wf1, l6In_eq, Option.bind_some, he, decide_true, and_self, Bool.not_true]
          refine Ev.s ?_
          simp only [spec_EdgeKind.j0, Bool.false_eq_true, if_false]
          refine Ev.bind (Ev.bind (specEdges_ev t.length (by omega) t f hf') (dart_run f t.length E a2 hn ha ((e4 a2 ha).2 (.inl rfl)) (fun d hd z => by rcases (e4 d (by omega)).1 z with h | h <;> omega) _ 0 rfl (by omega))) ?_
          refine Ev.bind (specVert_ev t t.length hn ht') ?_
          simp only [show (0 : Int) ≤ (a2 : Int) by omega, vl', show (a2 : Int) < (t.length : Int) by omega, hlen, e2, show (0 : Int) ≤ (a' : Int) by omega, show (a' : Int) < (t.length : Int) by omega, hv, if_true, if_false]
          refine Ev.bind r1 ?_
          exact Ev.bind o2 (Ev.const rfl)
        · refine Ev.bind b2 ?_
          simp only [if_true, show ¬ (E : Int) < 0 by omega, if_false, wf, show ¬ (E : Int) ≥ (f.length : Int) / 2 by omega, decide_false]
          refine Ev.s ?_
          simp only [impl_EdgeKind.j0, Bool.false_eq_true, if_false]
          refine Ev.bind (implEdges_ev t.length (by omega) t f hf') ?_
          simp only [show (0 : Int) ≤ (E : Int) by omega, show (E : Int) < ((edL f t.length).length : Int) by omega, if_true]
          refine Ev.bind (implVert_ev t f t.length hn ht') ?_
          simp only [e1, show (0 : Int) ≤ (a2 : Int) by omega, vl', show (a2 : Int) < (t.length : Int) by omega, hlen, e2, show (0 : Int) ≤ (a' : Int) by omega, show (a' : Int) < (t.length : Int) by omega, hv, if_true, if_false]
          refine Ev.bind r2 ?_
          refine Ev.bind o4 ?_
          have e0 : ∀ P S V c : Int, rd (fiveN P S V c) 0 = P := fun _ _ _ _ => rfl
          simp only [five_len, show (0 : Int) < ((5 : Nat) : Int) by omega, if_true, e0]
          rcases h12 with h | h
          · rw [h]
            exact Ev.const (by simp [wrap64])
          · rw [h]
            exact Ev.const (by simp [wrap64])
    · refine ⟨-1, ?_, ?_, .inl rfl⟩
      · refine Ev.bind b1 ?_
        simp only [if_true, wf, wf1, l6In_eq, Option.bind_some, he, decide_false, Bool.not_false]
        refine Ev.s ?_
        simp only [spec_EdgeKind.j0, if_true]
        exact Ev.const rfl
      · refine Ev.bind b2 ?_
        simp only [if_true]
        by_cases e0 : e < 0
        · simp only [e0, if_true]
          refine Ev.s ?_
          simp only [impl_EdgeKind.j0, if_true]
          exact Ev.const rfl
        · simp only [e0, if_false, wf, show e ≥ (f.length : Int) / 2 by omega, decide_true]
          refine Ev.s ?_
          simp only [impl_EdgeKind.j0, if_true]
          exact Ev.const rfl
def nmA (a b : Nat) : Nat → Nat
  | 0 => 0
  | d + 1 => nmA a b d + if d = a ∨ d = b then 0 else 1
theorem nmA_le (a b : Nat) : ∀ d, nmA a b d ≤ d
  | 0 => Nat.le_refl _
  | d + 1 => by
    have := nmA_le a b d
    simp only [nmA]
    split <;> omega
def lvL (a b : Nat) (h : Nat → Int) : Nat → List Int
  | 0 => []
  | i + 1 => if i = a ∨ i = b then lvL a b h i else lvL a b h i ++ [h i]
theorem lvL_len (a b : Nat) (h : Nat → Int) : ∀ i, (lvL a b h i).length = nmA a b i
  | 0 => rfl
  | i + 1 => by
    have ih := lvL_len a b h i
    simp only [lvL, nmA]
    split
    · rw [ih]; rfl
    · rw [List.length_append, ih]; rfl
theorem lvL_congr (a b : Nat) (h h' : Nat → Int) : ∀ i, (∀ d, d < i → d ≠ a → d ≠ b → h d = h' d) → lvL a b h i = lvL a b h' i
  | 0, _ => rfl
  | i + 1, H => by
    have ih := lvL_congr a b h h' i fun d hd => H d (by omega)
    simp only [lvL, ih]
    split
    · rfl
    · rename_i c
      rw [H i (by omega) (fun z => c (.inl z)) (fun z => c (.inr z))]
theorem rd_rangeL (h : Nat → Int) (n d : Nat) (hd : d < n) : rd ((List.range n).map h) (d : Int) = h d := by
  rw [rd_lt _ _ (by simp; exact hd)]; simp
def nmT (a b n : Nat) : List Int := (List.range n).map fun (d : Nat) => (nmA a b d : Int)
theorem nmT_rd (a b n d : Nat) (h : d < n) : rd (nmT a b n) (d : Int) = (nmA a b d : Int) := rd_rangeL _ n d h
theorem nmT_len (a b n : Nat) : (nmT a b n).length = n := by simp [nmT]
def skp (p : List Int) (a b : Nat) (x : Int) : Int := if x = a ∨ x = b then (if rd p x = a ∨ rd p x = b then rd p (rd p x) else rd p x) else x
theorem skp_out (p : List Int) (n : Nat) (hp : inR n p) (hi : injR n p) (a b d : Nat) (ha : a < n) (hb : b < n) (hd : d < n) (hab : a ≠ b) (hda : d ≠ a) (hdb : d ≠ b) :
    (skp p a b (rd p (d : Int)) ≠ a ∧ skp p a b (rd p (d : Int)) ≠ b) ∧ 0 ≤ skp p a b (rd p (d : Int)) ∧ skp p a b (rd p (d : Int)) < n := by
  have rd0 := hp.2 d hd
  have ra := hp.2 a ha
  have rb := hp.2 b hb
  have ia : rd p (d : Int) ≠ rd p (a : Int) := fun z => hda (hi d a hd ha z)
  have ib : rd p (d : Int) ≠ rd p (b : Int) := fun z => hdb (hi d b hd hb z)
  have iab : rd p (a : Int) ≠ rd p (b : Int) := fun z => hab (hi a b ha hb z)
  unfold skp
  by_cases c : rd p (d : Int) = a ∨ rd p (d : Int) = b
  · rw [if_pos c]
    rcases c with c | c
    · rw [c]
      by_cases c2 : rd p (a : Int) = a ∨ rd p (a : Int) = b
      · rw [if_pos c2]
        rcases c2 with c2 | c2
        · exact absurd (c.trans c2.symm) ia
        · rw [c2]
          refine ⟨⟨fun z => ib (c.trans z.symm), fun z => iab (c2.trans z.symm)⟩, rb⟩
      · rw [if_neg c2]
        exact ⟨⟨fun z => c2 (.inl z), fun z => c2 (.inr z)⟩, ra⟩
    · rw [c]
      by_cases c2 : rd p (b : Int) = a ∨ rd p (b : Int) = b
      · rw [if_pos c2]
        rcases c2 with c2 | c2
        · rw [c2]
          refine ⟨⟨fun z => iab (z.trans c2.symm), fun z => ia (c.trans z.symm)⟩, ra⟩
        · exact absurd (c.trans c2.symm) ib
      · rw [if_neg c2]
        exact ⟨⟨fun z => c2 (.inl z), fun z => c2 (.inr z)⟩, rb⟩
  · rw [if_neg c]
    exact ⟨⟨fun z => c (.inl z), fun z => c (.inr z)⟩, rd0⟩
theorem skp_run (F : Nat → Int → Option Int) (p : List Int) (n : Nat) (hp : inR n p) (a b : Nat) (hstop : ∀ x : Int, x ≠ a → x ≠ b → Ev (fun k => F k x) x) (hgo : ∀ x : Int, (x = a ∨ x = b) → ∀ r, Ev (fun k => F k (rd p x)) r → Ev (fun k => F k x) r) (x : Int) (ho : skp p a b x ≠ a ∧ skp p a b x ≠ b) : Ev (fun k => F k x) (skp p a b x) := by
  unfold skp at ho ⊢
  by_cases c : x = a ∨ x = b
  · rw [if_pos c] at ho ⊢
    by_cases c2 : rd p x = a ∨ rd p x = b
    · rw [if_pos c2] at ho ⊢
      exact hgo x c _ (hgo _ c2 _ (hstop _ ho.1 ho.2))
    · rw [if_neg c2] at ho ⊢
      exact hgo x c _ (hstop _ ho.1 ho.2)
  · rw [if_neg c] at ho ⊢
    exact hstop x ho.1 ho.2
theorem past_ev (p : List Int) (n : Nat) (hp : inR n p) (hi : injR n p) (a b d : Nat) (ha : a < n) (hb : b < n) (hd : d < n) (hab : a ≠ b) (hda : d ≠ a) (hdb : d ≠ b) : Ev (fun k => spec_l7Past.f k p d a b) (skp p a b (rd p (d : Int))) := by
  have hl := hp.1
  have h := skp_run (fun k x => spec_l7Past.l0 k p x a b) p n hp a b (fun x h1 h2 => by
      refine Ev.s ?_
      simp only [spec_l7Past.l0, h1, h2, if_false]
      exact Ev.const rfl) (fun x c r hr => by
      refine Ev.s ?_
      rcases c with c | c
      · subst c
        simp only [spec_l7Past.l0, if_true, show (0 : Int) ≤ (a : Int) by omega, show (a : Int) < (p.length : Int) by omega]
        exact hr
      · subst c
        simp only [spec_l7Past.l0, if_true, show ¬ (b : Int) = (a : Int) by omega, if_false, show (0 : Int) ≤ (b : Int) by omega, show (b : Int) < (p.length : Int) by omega]
        exact hr) (rd p (d : Int)) (skp_out p n hp hi a b d ha hb hd hab hda hdb).1
  unfold spec_l7Past.f
  simp only [show (0 : Int) ≤ (d : Int) by omega, show (d : Int) < (p.length : Int) by omega, if_true]
  exact h
def pastL (p : List Int) (a b n : Nat) : List Int := (List.range n).map fun (d : Nat) => if d = a ∨ d = b then rd p (d : Int) else skp p a b (rd p (d : Int))
theorem pastL_rd (p : List Int) (a b n d : Nat) (h : d < n) : rd (pastL p a b n) (d : Int) = if d = a ∨ d = b then rd p (d : Int) else skp p a b (rd p (d : Int)) := rd_rangeL _ n d h
theorem pastL_len (p : List Int) (a b n : Nat) : (pastL p a b n).length = n := by simp [pastL]
def outT (p : List Int) (a b n : Nat) : List Int := lvL a b (fun d => (nmA a b (skp p a b (rd p (d : Int))).toNat : Int)) n
def outF (f : List Int) (a b n : Nat) : List Int := lvL a b (fun d => (nmA a b (rd f (d : Int)).toNat : Int)) n
theorem leave_names (n : Nat) (hn : n ≤ 12) (T F : List Int) (hT : T.length = n) (a b : Nat) (r : List Int × List Int) (h : Ev (fun k => spec_l7Leave.l1 k T F a b (nmT a b n) 0 [] []) r) : ∀ (d i : Nat), n - i = d → i ≤ n → Ev (fun k => spec_l7Leave.l0 k T F a b (mixL (nmT a b n) (List.replicate n 0) n i) (nmA a b i) i) r
  | 0, i, hd, hi => by
    have : i = n := by omega
    subst this
    rw [mixL_all _ _ _ (nmT_len a b i)]
    refine Ev.s ?_
    simp only [spec_l7Leave.l0, hT, show ¬ (i : Int) < (i : Int) by omega, if_false]
    exact h
  | d + 1, i, hd, hi => by
    have ih := leave_names n hn T F hT a b r h d (i + 1) (by omega) (by omega)
    have hl := mixL_len (nmT a b n) (List.replicate n 0) n i
    have hs := mixL_set (nmT a b n) (List.replicate n 0) n i (by omega)
    rw [nmT_rd a b n i (by omega)] at hs
    have hle := nmA_le a b i
    refine Ev.s ?_
    simp only [spec_l7Leave.l0, hT, hl, show (i : Int) < (n : Int) by omega, show (0 : Int) ≤ (i : Int) by omega, if_true, Option.bind_some, Int.toNat_natCast, hs, w64n (show i < 4611686018427387904 by omega)]
    simp only [nmA] at ih
    by_cases c1 : i = a
    · rw [if_pos (.inl c1), Nat.add_zero] at ih
      simp only [show (i : Int) = (a : Int) by omega, if_true]
      rw [show (a : Int) = (i : Int) by omega] at ih ⊢
      exact ih
    · by_cases c2 : i = b
      · rw [if_pos (.inr c2), Nat.add_zero] at ih
        simp only [show ¬ (i : Int) = (a : Int) by omega, show (i : Int) = (b : Int) by omega, if_true, if_false]
        simp only [show ¬ (b : Int) = (a : Int) by omega, if_false]
        rw [show (b : Int) = (i : Int) by omega] at ih ⊢
        exact ih
      · rw [if_neg (fun z => z.elim c1 c2)] at ih
        simp only [show ¬ (i : Int) = (a : Int) by omega, show ¬ (i : Int) = (b : Int) by omega, if_false, w64n (show nmA a b i < 4611686018427387904 by omega)]
        exact ih
theorem leave_run (n : Nat) (hn : n ≤ 12) (T F : List Int) (hT : T.length = n) (hF : inR n F) (a b : Nat) (hTr : ∀ d : Nat, d < n → d ≠ a → d ≠ b → 0 ≤ rd T (d : Int) ∧ rd T (d : Int) < n) : ∀ (d i : Nat), n - i = d → i ≤ n → Ev (fun k => spec_l7Leave.l1 k T F a b (nmT a b n) i (lvL a b (fun d => (nmA a b (rd T (d : Int)).toNat : Int)) i) (lvL a b (fun d => (nmA a b (rd F (d : Int)).toNat : Int)) i)) (lvL a b (fun d => (nmA a b (rd T (d : Int)).toNat : Int)) n, lvL a b (fun d => (nmA a b (rd F (d : Int)).toNat : Int)) n)
  | 0, i, hd, hi => by
    have : i = n := by omega
    subst this
    refine Ev.s ?_
    simp only [spec_l7Leave.l1, hT, show ¬ (i : Int) < (i : Int) by omega, if_false]
    exact Ev.const rfl
  | d + 1, i, hd, hi => by
    have ih := leave_run n hn T F hT hF a b hTr d (i + 1) (by omega) (by omega)
    have hle := nmA_le a b i
    have l1 := lvL_len a b (fun d => (nmA a b (rd T (d : Int)).toNat : Int)) i
    have l2 := lvL_len a b (fun d => (nmA a b (rd F (d : Int)).toNat : Int)) i
    refine Ev.s ?_
    simp only [spec_l7Leave.l1, hT, show (i : Int) < (n : Int) by omega, show (0 : Int) ≤ (i : Int) by omega, if_true, w64n (show i < 4611686018427387904 by omega)]
    simp only [lvL] at ih
    by_cases c1 : i = a
    · rw [if_pos (.inl c1), if_pos (.inl c1)] at ih
      simp only [if_pos (show (i : Int) = (a : Int) by omega)]
      exact ih
    · simp only [show ¬ (i : Int) = (a : Int) by omega, if_false]
      by_cases c2 : i = b
      · rw [if_pos (.inr c2), if_pos (.inr c2)] at ih
        simp only [if_pos (show (i : Int) = (b : Int) by omega)]
        exact ih
      · rw [if_neg (fun z => z.elim c1 c2), if_neg (fun z => z.elim c1 c2)] at ih
        simp only [show ¬ (i : Int) = (b : Int) by omega, if_false]
        have r1 := hTr i (by omega) c1 c2
        have r2 := hF.2 i (by omega)
        have hFl := hF.1
        have e1 := nmT_rd a b n (rd T (i : Int)).toNat (by omega)
        have e2 := nmT_rd a b n (rd F (i : Int)).toNat (by omega)
        rw [show (((rd T (i : Int)).toNat : Nat) : Int) = rd T (i : Int) by omega] at e1
        rw [show (((rd F (i : Int)).toNat : Nat) : Int) = rd F (i : Int) by omega] at e2
        simp only [r1.1, r1.2, r2.1, r2.2, nmT_len, hFl, show (i : Int) < (n : Int) by omega, if_true, e1, e2, show (lvL a b (fun d => (nmA a b (rd T (d : Int)).toNat : Int)) i).length < 17592186044416 by omega, show (lvL a b (fun d => (nmA a b (rd F (d : Int)).toNat : Int)) i).length < 17592186044416 by omega]
        exact ih
theorem specLeave_ev (n : Nat) (h1 : 1 ≤ n) (hn : n ≤ 12) (p f : List Int) (hp : inR n p) (hi : injR n p) (hf : inR n f) (a b : Nat) (ha : a < n) (hb : b < n) (hab : a ≠ b) : Ev (fun k => spec_l7Leave.f k (pastL p a b n) f a b) (outT p a b n, outF f a b n) := by
  have hl := pastL_len p a b n
  have hr := leave_run n hn (pastL p a b n) f hl hf a b (fun d hd h1 h2 => by
    rw [pastL_rd p a b n d hd, if_neg (fun z => z.elim h1 h2)]
    exact (skp_out p n hp hi a b d ha hb hd hab h1 h2).2) n 0 (by omega) (by omega)
  have hc : lvL a b (fun d => (nmA a b (rd (pastL p a b n) (d : Int)).toNat : Int)) n = outT p a b n := lvL_congr a b _ _ n fun d hd h1 h2 => by
    rw [pastL_rd p a b n d hd, if_neg (fun z => z.elim h1 h2)]
  rw [hc] at hr
  have h0 := leave_names n hn (pastL p a b n) f hl a b _ hr n 0 (by omega) (by omega)
  rw [mixL_zero _ _ _ (by simp)] at h0
  unfold spec_l7Leave.f
  simp only [hl, show (0 : Int) ≤ (n : Int) by omega, Int.toNat_natCast, show n ≤ 35184372088832 by omega, if_true]
  exact h0
def swpL (t : List Int) (a b n : Nat) : List Int := (List.range n).map fun (d : Nat) => if d = a then rd t (b : Int) else if d = b then rd t (a : Int) else rd t (d : Int)
theorem swpL_rd (t : List Int) (a b n d : Nat) (h : d < n) : rd (swpL t a b n) (d : Int) = if d = a then rd t (b : Int) else if d = b then rd t (a : Int) else rd t (d : Int) := rd_rangeL _ n d h
theorem swpL_len (t : List Int) (a b n : Nat) : (swpL t a b n).length = n := by simp [swpL]
theorem swpL_inR (t : List Int) (n a b : Nat) (ht : inR n t) (ha : a < n) (hb : b < n) : inR n (swpL t a b n) := ⟨swpL_len t a b n, fun i hi => by
  rw [swpL_rd t a b n i hi]
  have h1 := ht.2 a ha
  have h2 := ht.2 b hb
  have h3 := ht.2 i hi
  split
  · exact h2
  · split
    · exact h1
    · exact h3⟩
theorem swpL_inj (t : List Int) (n a b : Nat) (hti : injR n t) (ha : a < n) (hb : b < n) (hab : a ≠ b) : injR n (swpL t a b n) := fun i j hi hj e => by
  rw [swpL_rd t a b n i hi, swpL_rd t a b n j hj] at e
  by_cases i1 : i = a
  · rw [if_pos i1] at e
    by_cases j1 : j = a
    · omega
    · rw [if_neg j1] at e
      by_cases j2 : j = b
      · rw [if_pos j2] at e
        exact absurd (hti b a hb ha e).symm hab
      · rw [if_neg j2] at e
        exact absurd (hti b j hb hj e).symm j2
  · rw [if_neg i1] at e
    by_cases i2 : i = b
    · rw [if_pos i2] at e
      by_cases j1 : j = a
      · rw [if_pos j1] at e
        exact absurd (hti a b ha hb e) hab
      · rw [if_neg j1] at e
        by_cases j2 : j = b
        · omega
        · rw [if_neg j2] at e
          exact absurd (hti a j ha hj e).symm j1
    · rw [if_neg i2] at e
      by_cases j1 : j = a
      · rw [if_pos j1] at e
        exact absurd (hti i b hi hb e) i2
      · rw [if_neg j1] at e
        by_cases j2 : j = b
        · rw [if_pos j2] at e
          exact absurd (hti i a hi ha e) i1
        · rw [if_neg j2] at e
          exact hti i j hi hj e
theorem onCon_ev (t f : List Int) (n : Nat) (ht : inR n t) (hti : injR n t) (hf : inR n f) (a b : Nat) (ha : a < n) (hb : b < n) (hab : a ≠ b) (fa : rd f (a : Int) = b) (fb : rd f (b : Int) = a) (d : Nat) (hd : d < n) (hda : d ≠ a) (hdb : d ≠ b) : Ev (fun k => econ.f k a b t f (rd t (d : Int))) (skp (swpL t a b n) a b (rd (swpL t a b n) (d : Int))) := by
  have htl := ht.1
  have hfl := hf.1
  have hpa : rd (swpL t a b n) (a : Int) = rd t (b : Int) := by rw [swpL_rd t a b n a ha, if_pos rfl]
  have hpb : rd (swpL t a b n) (b : Int) = rd t (a : Int) := by rw [swpL_rd t a b n b hb, if_neg (fun z => hab z.symm), if_pos rfl]
  have hpd : rd (swpL t a b n) (d : Int) = rd t (d : Int) := by rw [swpL_rd t a b n d hd, if_neg hda, if_neg hdb]
  rw [← hpd]
  exact skp_run (fun k x => econ.l0 a b t f k x) (swpL t a b n) n (swpL_inR t n a b ht ha hb) a b (fun x h1 h2 => by
      refine Ev.s ?_
      simp only [econ.l0, h1, h2, if_false]
      exact Ev.const rfl) (fun x c r hr => by
      refine Ev.s ?_
      rcases c with c | c
      · subst c
        rw [hpa] at hr
        simp only [econ.l0, if_true, show (0 : Int) ≤ (a : Int) by omega, show (a : Int) < (f.length : Int) by omega, fa, show (0 : Int) ≤ (b : Int) by omega, show (b : Int) < (t.length : Int) by omega]
        exact hr
      · subst c
        rw [hpb] at hr
        simp only [econ.l0, if_true, show ¬ (b : Int) = (a : Int) by omega, if_false, show (0 : Int) ≤ (b : Int) by omega, show (b : Int) < (f.length : Int) by omega, fb, show (0 : Int) ≤ (a : Int) by omega, show (a : Int) < (t.length : Int) by omega]
        exact hr) (rd (swpL t a b n) (d : Int)) (skp_out (swpL t a b n) n (swpL_inR t n a b ht ha hb) (swpL_inj t n a b hti ha hb hab) a b d ha hb hd hab hda hdb).1
theorem namesCon (t f lt lf : List Int) (n : Nat) (hn : n ≤ 12) (a b ca cb : Nat) (r : List Int × List Int) (h : Ev (fun k => leftCon.l1 ca cb lt lf k a b (nmT a b n) (t.length : Int) 0 t f [] []) r) : ∀ (d i : Nat), n - i = d → i ≤ n → Ev (fun k => leftCon.l0 ca cb lt lf k a b (mixL (nmT a b n) (List.replicate n 0) n i) (nmA a b i) n i t f) r
  | 0, i, hd, hi => by
    have : i = n := by omega
    subst this
    rw [mixL_all _ _ _ (nmT_len a b i)]
    refine Ev.s ?_
    simp only [leftCon.l0, show ¬ (i : Int) < (i : Int) by omega, if_false]
    exact h
  | d + 1, i, hd, hi => by
    have ih := namesCon t f lt lf n hn a b ca cb r h d (i + 1) (by omega) (by omega)
    have hl := mixL_len (nmT a b n) (List.replicate n 0) n i
    have hs := mixL_set (nmT a b n) (List.replicate n 0) n i (by omega)
    rw [nmT_rd a b n i (by omega)] at hs
    have hle := nmA_le a b i
    refine Ev.s ?_
    simp only [leftCon.l0, hl, show (i : Int) < (n : Int) by omega, show (0 : Int) ≤ (i : Int) by omega, if_true, Option.bind_some, Int.toNat_natCast, hs, w64n (show i < 4611686018427387904 by omega)]
    simp only [nmA] at ih
    by_cases c1 : i = a
    · rw [if_pos (.inl c1), Nat.add_zero] at ih
      simp only [if_pos (show (i : Int) = (a : Int) by omega)]
      exact ih
    · simp only [if_neg (show ¬ (i : Int) = (a : Int) by omega)]
      by_cases c2 : i = b
      · rw [if_pos (.inr c2), Nat.add_zero] at ih
        simp only [if_pos (show (i : Int) = (b : Int) by omega)]
        exact ih
      · rw [if_neg (fun z => z.elim c1 c2)] at ih
        simp only [if_neg (show ¬ (i : Int) = (b : Int) by omega), w64n (show nmA a b i < 4611686018427387904 by omega)]
        exact ih
theorem leftCon_run (t f : List Int) (n : Nat) (hn : n ≤ 12) (ht : inR n t) (hti : injR n t) (hf : inR n f) (a b : Nat) (ha : a < n) (hb : b < n) (hab : a ≠ b) (fa : rd f (a : Int) = b) (fb : rd f (b : Int) = a) : ∀ (d i : Nat), n - i = d → i ≤ n → Ev (fun k => leftCon.l1 a b t f k a b (nmT a b n) n i t f (lvL a b (fun d => (nmA a b (skp (swpL t a b n) a b (rd (swpL t a b n) (d : Int))).toNat : Int)) i) (lvL a b (fun d => (nmA a b (rd f (d : Int)).toNat : Int)) i)) (outT (swpL t a b n) a b n, outF f a b n)
  | 0, i, hd, hi => by
    have : i = n := by omega
    subst this
    refine Ev.s ?_
    simp only [leftCon.l1, show ¬ (i : Int) < (i : Int) by omega, if_false]
    exact Ev.const rfl
  | d + 1, i, hd, hi => by
    have ih := leftCon_run t f n hn ht hti hf a b ha hb hab fa fb d (i + 1) (by omega) (by omega)
    have hle := nmA_le a b i
    have l1 := lvL_len a b (fun d => (nmA a b (skp (swpL t a b n) a b (rd (swpL t a b n) (d : Int))).toNat : Int)) i
    have l2 := lvL_len a b (fun d => (nmA a b (rd f (d : Int)).toNat : Int)) i
    have htl := ht.1
    have hfl := hf.1
    refine Ev.s ?_
    simp only [leftCon.l1, show (i : Int) < (n : Int) by omega, show (0 : Int) ≤ (i : Int) by omega, if_true, w64n (show i < 4611686018427387904 by omega)]
    simp only [lvL] at ih
    by_cases c1 : i = a
    · rw [if_pos (.inl c1), if_pos (.inl c1)] at ih
      simp only [if_pos (show (i : Int) = (a : Int) by omega)]
      exact ih
    · simp only [if_neg (show ¬ (i : Int) = (a : Int) by omega)]
      by_cases c2 : i = b
      · rw [if_pos (.inr c2), if_pos (.inr c2)] at ih
        simp only [if_pos (show (i : Int) = (b : Int) by omega)]
        exact ih
      · rw [if_neg (fun z => z.elim c1 c2), if_neg (fun z => z.elim c1 c2)] at ih
        simp only [if_neg (show ¬ (i : Int) = (b : Int) by omega), show (i : Int) < (t.length : Int) by omega, if_true]
        refine Ev.bind (onCon_ev t f n ht hti hf a b ha hb hab fa fb i (by omega) c1 c2) ?_
        have r1 := (skp_out (swpL t a b n) n (swpL_inR t n a b ht ha hb) (swpL_inj t n a b hti ha hb hab) a b i ha hb (by omega) hab c1 c2).2
        have r2 := hf.2 i (by omega)
        have e1 := nmT_rd a b n (skp (swpL t a b n) a b (rd (swpL t a b n) (i : Int))).toNat (by omega)
        have e2 := nmT_rd a b n (rd f (i : Int)).toNat (by omega)
        rw [show (((skp (swpL t a b n) a b (rd (swpL t a b n) (i : Int))).toNat : Nat) : Int) = skp (swpL t a b n) a b (rd (swpL t a b n) (i : Int)) by omega] at e1
        rw [show (((rd f (i : Int)).toNat : Nat) : Int) = rd f (i : Int) by omega] at e2
        simp only [r1.1, r1.2, r2.1, r2.2, nmT_len, show (i : Int) < (f.length : Int) by omega, if_true, e1, e2, show (lvL a b (fun d => (nmA a b (skp (swpL t a b n) a b (rd (swpL t a b n) (d : Int))).toNat : Int)) i).length < 17592186044416 by omega, show (lvL a b (fun d => (nmA a b (rd f (d : Int)).toNat : Int)) i).length < 17592186044416 by omega]
        exact ih
theorem leftCon_ev (t f : List Int) (n : Nat) (hn : n ≤ 12) (ht : inR n t) (hti : injR n t) (hf : inR n f) (a b : Nat) (ha : a < n) (hb : b < n) (hab : a ≠ b) (fa : rd f (a : Int) = b) (fb : rd f (b : Int) = a) : Ev (fun k => leftCon.f k t f a b a b t f) (outT (swpL t a b n) a b n, outF f a b n) := by
  have htl := ht.1
  have h1 := leftCon_run t f n hn ht hti hf a b ha hb hab fa fb n 0 (by omega) (by omega)
  have h0 := namesCon t f t f n hn a b a b _ (by rw [htl]; exact h1) n 0 (by omega) (by omega)
  rw [mixL_zero _ _ _ (by simp)] at h0
  unfold leftCon.f
  simp only [htl, show (0 : Int) ≤ (n : Int) by omega, Int.toNat_natCast, show n ≤ 35184372088832 by omega, if_true, Option.bind_some, List.length_replicate]
  exact h0
theorem specCon_run (t f : List Int) (n : Nat) (h1 : 1 ≤ n) (hn : n ≤ 12) (ht : inR n t) (hti : injR n t) (hf : inR n f) (a b : Nat) (ha : a < n) (hb : b < n) (hab : a ≠ b) : ∀ (d i : Nat), n - i = d → i ≤ n → Ev (fun k => spec_EdgeContract.l0 k a b (swpL t a b n) (mixL (pastL (swpL t a b n) a b n) (swpL t a b n) n i) i t f) (outT (swpL t a b n) a b n, outF f a b n, true)
  | 0, i, hd, hi => by
    have : i = n := by omega
    subst this
    rw [mixL_all _ _ _ (pastL_len _ a b i)]
    have hl := pastL_len (swpL t a b i) a b i
    refine Ev.s ?_
    simp only [spec_EdgeContract.l0, hl, show ¬ (i : Int) < (i : Int) by omega, if_false]
    exact Ev.bind (specLeave_ev i h1 hn (swpL t a b i) f (swpL_inR t i a b ht ha hb) (swpL_inj t i a b hti ha hb hab) hf a b ha hb hab) (Ev.const rfl)
  | d + 1, i, hd, hi => by
    have ih := specCon_run t f n h1 hn ht hti hf a b ha hb hab d (i + 1) (by omega) (by omega)
    have hl := mixL_len (pastL (swpL t a b n) a b n) (swpL t a b n) n i
    have hs := mixL_set (pastL (swpL t a b n) a b n) (swpL t a b n) n i (by omega)
    have hrd := pastL_rd (swpL t a b n) a b n i (by omega)
    refine Ev.s ?_
    simp only [spec_EdgeContract.l0, hl, show (i : Int) < (n : Int) by omega, if_true, w64n (show i < 4611686018427387904 by omega)]
    by_cases c1 : i = a
    · rw [if_pos (.inl c1)] at hrd
      simp only [if_pos (show (i : Int) = (a : Int) by omega)]
      rw [mixL_skip _ _ n i (by omega) hrd]
      exact ih
    · simp only [if_neg (show ¬ (i : Int) = (a : Int) by omega)]
      by_cases c2 : i = b
      · rw [if_pos (.inr c2)] at hrd
        simp only [if_pos (show (i : Int) = (b : Int) by omega)]
        rw [mixL_skip _ _ n i (by omega) hrd]
        exact ih
      · rw [if_neg (fun z => z.elim c1 c2)] at hrd
        simp only [if_neg (show ¬ (i : Int) = (b : Int) by omega)]
        refine Ev.bind (past_ev (swpL t a b n) n (swpL_inR t n a b ht ha hb) (swpL_inj t n a b hti ha hb hab) a b i ha hb (by omega) hab c1 c2) ?_
        simp only [show (0 : Int) ≤ (i : Int) by omega, if_true, Int.toNat_natCast]
        rw [hrd] at hs
        rw [hs]
        exact ih
theorem set_swp (t : List Int) (n a b : Nat) (ht : t.length = n) (ha : a < n) (hb : b < n) (hab : a ≠ b) : (t.set a (rd t (b : Int))).set b (rd t (a : Int)) = swpL t a b n := by
  refine list_ext _ _ (by simp [swpL, ht]) fun d hd => ?_
  simp only [List.length_set] at hd
  rw [swpL_rd t a b n d (by omega)]
  by_cases c2 : d = b
  · subst c2
    rw [rd_set_self _ d _ (by simp only [List.length_set]; omega), if_neg (fun z => hab z.symm), if_pos rfl]
  · rw [rd_set_ne _ b d _ (fun z => c2 z.symm)]
    by_cases c1 : d = a
    · subst c1
      rw [rd_set_self _ d _ (by omega), if_pos rfl]
    · rw [rd_set_ne _ a d _ (fun z => c1 z.symm), if_neg c1, if_neg c2]
theorem out_len (p f : List Int) (a b n : Nat) (hn : n ≤ 12) : (outT p a b n).length ≤ 12 ∧ (outF f a b n).length ≤ 12 := by
  have := nmA_le a b n
  unfold outT outF
  rw [lvL_len, lvL_len]
  omega
theorem copy_ev (l : List Int) (h : l.length ≤ 1048576) : spec_l2Copy.f l = some l := by
  unfold spec_l2Copy.f
  rw [Option.bind_some, if_pos (by simp; omega), List.nil_append]
theorem con_told (t f : List Int) (hm : isMap t f) (e : Nat) (he : e < (edL f t.length).length) : ∃ a b : Nat, a < t.length ∧ b < t.length ∧ a ≠ b ∧ rd (edL f t.length) (e : Int) = a ∧ rd f a = b ∧ rd f b = a ∧ (∀ d : Nat, d < t.length → (rd (geL f t.length t.length) (d : Int) = e ↔ d = a ∨ d = b)) ∧
    Ev (fun k => spec_EdgeContract.j0 k e false t f) (outT (swpL t a b t.length) a b t.length, outF f a b t.length, true) ∧ Ev (fun k => impl_EdgeContract.j0 k e false t f) (outT (swpL t a b t.length) a b t.length, outF f a b t.length, true) := by
  obtain ⟨hn, h1, ht, hti, hf, hfl, _, _⟩ := ribOk_of t f [] hm (fun i hi => by simp at hi) (by simp)
  have hlen := hf.1
  obtain ⟨a, b, ha, hb, hab, e1, e2, e3, e4⟩ := edge_at f t.length hf hfl e he
  obtain ⟨a2, _, l2, l3, _⟩ := edL_get f t.length e he
  have haa : a2 = a := by omega
  subst haa
  have hlt : a2 < b := by omega
  refine ⟨a2, b, ha, hb, hab, e1, e2, e3, e4, ?_, ?_⟩
  · refine Ev.s ?_
    simp only [spec_EdgeContract.j0, Bool.false_eq_true, if_false]
    refine Ev.bind (Ev.bind (specEdges_ev t.length (by omega) t f hf) (dart_run f t.length e a2 hn ha ((e4 a2 ha).2 (.inl rfl)) (fun d hd z => by rcases (e4 d (by omega)).1 z with h | h <;> omega) _ 0 rfl (by omega))) ?_
    simp only [show (0 : Int) ≤ (a2 : Int) by omega, show (a2 : Int) < (f.length : Int) by omega, if_true, e2]
    simp only [copy_ev t (by omega), Option.bind_some, show (0 : Int) ≤ (b : Int) by omega, show (b : Int) < (t.length : Int) by omega, show (a2 : Int) < (t.length : Int) by omega, if_true, Int.toNat_natCast, set_swp t t.length a2 b rfl ha hb hab, copy_ev (swpL t a2 b t.length) (by rw [swpL_len]; omega)]
    have := specCon_run t f t.length h1 hn ht hti hf a2 b ha hb hab t.length 0 (by omega) (by omega)
    rw [mixL_zero _ _ _ (swpL_len t a2 b t.length)] at this
    exact this
  · refine Ev.s ?_
    simp only [impl_EdgeContract.j0, Bool.false_eq_true, if_false]
    refine Ev.bind (implEdges_ev t.length (by omega) t f hf) ?_
    simp only [show (0 : Int) ≤ (e : Int) by omega, show (e : Int) < ((edL f t.length).length : Int) by omega, e1, show (0 : Int) ≤ (a2 : Int) by omega, show (a2 : Int) < (f.length : Int) by omega, e2, if_true]
    exact Ev.bind (leftCon_ev t f t.length hn ht hti hf a2 b ha hb hab e2 e3) (Ev.const rfl)
theorem con_both (t f : List Int) (e : Int) (ht : t.length ≤ 1048576) (hf : f.length ≤ 1048576) : ∃ r : List Int × List Int × Bool, Ev (fun k => spec_EdgeContract.f k t f e) r ∧ Ev (fun k => impl_EdgeContract.f k t f e) r ∧ r.1.length ≤ 12 ∧ r.2.1.length ≤ 12 := by
  obtain ⟨r, r1, r2, r3⟩ := edgeKind_more t f ht hf e
  have noS : ∀ c : Bool, c = true → Ev (fun k => spec_EdgeContract.j0 k e c t f) ([], [], false) := fun c h => by
    refine Ev.s ?_
    simp only [spec_EdgeContract.j0, h, if_true]
    exact Ev.const rfl
  have noI : ∀ c : Bool, c = true → Ev (fun k => impl_EdgeContract.j0 k e c t f) ([], [], false) := fun c h => by
    refine Ev.s ?_
    simp only [impl_EdgeContract.j0, h, if_true]
    exact Ev.const rfl
  unfold spec_EdgeContract.f impl_EdgeContract.f
  by_cases c0 : r = -1
  · refine ⟨([], [], false), ?_, ?_, by simp, by simp⟩
    · refine Ev.bind r1 ?_
      simp only [c0, show (-1 : Int) < 0 by decide, if_true]
      exact noS true rfl
    · refine Ev.bind r2 ?_
      simp only [c0, if_true]
      exact noI true rfl
  · obtain ⟨z0, hm, he0, he1⟩ := r3.resolve_left c0
    by_cases c1 : r = 2
    · refine ⟨([], [], false), ?_, ?_, by simp, by simp⟩
      · refine Ev.bind r1 ?_
        simp only [show ¬ r < 0 by omega, c1, if_true, if_false, show ¬ (2 : Int) < 0 by decide]
        exact noS true rfl
      · refine Ev.bind r2 ?_
        simp only [c0, c1, if_true, if_false, show ¬ (2 : Int) = -1 by decide]
        exact noI true rfl
    · have hlen : t.length = f.length := hm.2.2.1
      by_cases c2 : t.length = 2
      · refine ⟨([], [], false), ?_, ?_, by simp, by simp⟩
        · refine Ev.bind r1 ?_
          simp only [show ¬ r < 0 by omega, c1, if_false]
          exact noS _ (by rw [c2]; rfl)
        · refine Ev.bind r2 ?_
          simp only [c0, c1, if_false]
          exact noI _ (by rw [← hlen, c2]; rfl)
      · obtain ⟨hn, h1, ht', hti, hf', hfl, _, _⟩ := ribOk_of t f [] hm (fun i hi => by simp at hi) (by simp)
        have hh := edL_half f t.length hf' hfl
        obtain ⟨E, rfl⟩ : ∃ E : Nat, e = (E : Int) := ⟨e.toNat, by omega⟩
        obtain ⟨a, b, _, _, _, _, _, _, _, q1, q2⟩ := con_told t f hm E (by omega)
        obtain ⟨o1, o2⟩ := out_len (swpL t a b t.length) f a b t.length hn
        refine ⟨(outT (swpL t a b t.length) a b t.length, outF f a b t.length, true), ?_, ?_, o1, o2⟩
        · refine Ev.bind r1 ?_
          simp only [show ¬ r < 0 by omega, c1, if_false]
          rw [show (((t.length : Int) == 2)) = false from beq_eq_false_iff_ne.2 (by omega)]
          exact q1
        · refine Ev.bind r2 ?_
          simp only [c0, c1, if_false]
          rw [show (((f.length : Int) == 2)) = false from beq_eq_false_iff_ne.2 (by omega)]
          exact q2
theorem szMap_cases (t f : List Int) (ht : t.length ≤ maxLen) (hf : f.length ≤ maxLen) : ∃ s, laws_szMap.f t f 1048576 = some s ∧ (s < 0 ∨ t.length ≤ 1048576 ∧ f.length ≤ 1048576 ∧ ¬ s < 0) := by
  unfold maxLen at ht hf
  have h1 : wrap64 (1048576 - (t.length : Int)) = 1048576 - (t.length : Int) := w64 (by omega) (by omega)
  by_cases c1 : (1048576 - (t.length : Int)) < 0
  · refine ⟨-1, ?_, .inl (by decide)⟩
    unfold laws_szMap.f laws_szIntS.f
    simp [h1, c1]
  · have h2 : wrap64 (1048576 - (t.length : Int) - (f.length : Int)) = 1048576 - (t.length : Int) - (f.length : Int) := w64 (by omega) (by omega)
    by_cases c2 : (1048576 - (t.length : Int) - (f.length : Int)) < 0
    · refine ⟨-1, ?_, .inl (by decide)⟩
      unfold laws_szMap.f laws_szIntS.f
      simp [h1, c1, h2, c2]
    · refine ⟨1048576 - (t.length : Int) - (f.length : Int), ?_, .inr ⟨by omega, by omega, c2⟩⟩
      unfold laws_szMap.f laws_szIntS.f
      simp [h1, c1, h2, c2]
theorem toMap_ev (t f : List Int) (ht : t.length ≤ 1048576) (hf : f.length ≤ 1048576) : Ev (fun k => laws_toMap.f k t f) (t, f) := by
  unfold laws_toMap.f
  refine Ev.bind (toIntS_ev t ht) ?_
  exact Ev.bind (toIntS_ev f hf) (Ev.const rfl)
def marks (n : Nat) (m : Int) : List Int := (List.range n).map fun (i : Nat) => m + (i : Int)
theorem marks_length (n : Nat) (m : Int) : (marks n m).length = n := by simp [marks]
theorem marks_rd (n : Nat) (m : Int) (i : Nat) (h : i < n) : rd (marks n m) i = m + i := by
  rw [rd_lt _ _ (by rw [marks_length]; exact h)]
  simp [marks]
theorem mark_run (m : Int) (hm : 0 ≤ m) (hm' : m ≤ 4611686018427387904) : ∀ (d : Nat) (l : List Int) (i : Nat), l.length ≤ 4194304 → l.length - i = d → i ≤ l.length → l.take i = (marks l.length m).take i → Ev (fun k => laws_markIntS.l0 k l (m + i) i) (m + l.length, marks l.length m)
  | 0, l, i, hl, hd, hi, ht => by
    refine Ev.s ?_
    simp only [laws_markIntS.l0, show ¬ (i : Int) < (l.length : Int) by omega, if_false]
    have hi' : i = l.length := by omega
    subst hi'
    rw [List.take_length] at ht
    have e : (marks l.length m).take l.length = marks l.length m := by
      rw [List.take_of_length_le]; rw [marks_length]; exact Nat.le_refl _
    rw [e] at ht
    refine Ev.const ?_
    rw [← ht]
  | d + 1, l, i, hl, hd, hi, ht => by
    have hlt : i < l.length := by omega
    refine Ev.s ?_
    simp only [laws_markIntS.l0, show (i : Int) < (l.length : Int) by omega, show (0 : Int) ≤ i by omega, if_true]
    rw [w64 (x := (i : Int) + 1) (by omega) (by omega), w64 (x := m + (i : Int) + 1) (by omega) (by omega), show ((i : Int) + 1) = ((i + 1 : Nat) : Int) by omega, show m + (i : Int) + 1 = m + ((i + 1 : Nat) : Int) by omega]
    have hL : (l.set i (m + (i : Int))).length = l.length := by simp
    have ih := mark_run m hm hm' d (l.set i (m + (i : Int))) (i + 1) (by omega) (by omega) (by omega) ?_
    · rw [hL] at ih
      rw [Int.toNat_natCast]
      exact ih
    · rw [hL]
      have h2 : i < (marks l.length m).length := by rw [marks_length]; exact hlt
      rw [List.take_succ_eq_append_getElem (by simpa using hlt), List.take_succ_eq_append_getElem h2, List.take_set_of_le (Nat.le_refl _), ht]
      simp [marks]
theorem mark_ev (l : List Int) (m : Int) (hm : 0 ≤ m) (hm' : m ≤ 4611686018427387904) (hl : l.length ≤ 4194304) : Ev (fun k => laws_markIntS.f k l m) (m + l.length, marks l.length m) := by
  have := mark_run m hm hm' l.length l 0 hl (by omega) (by omega) (by simp)
  unfold laws_markIntS.f
  simpa using this
theorem held_run (n : Nat) (m : Int) (hn : n ≤ 4194304) (hm : 0 ≤ m) (hm' : m ≤ 4611686018427387904) : ∀ (d i : Nat), n - i = d → i ≤ n → Ev (fun k => laws_heldIntS.l0 k (marks n m) (m + i) i) (m + n)
  | 0, i, hd, hi => by
    refine Ev.s ?_
    simp only [laws_heldIntS.l0, marks_length, show ¬ (i : Int) < (n : Int) by omega, if_false]
    have : i = n := by omega
    subst this
    exact Ev.const rfl
  | d + 1, i, hd, hi => by
    refine Ev.s ?_
    simp only [laws_heldIntS.l0, marks_length, show (i : Int) < (n : Int) by omega, show (0 : Int) ≤ i by omega, if_true, marks_rd n m i (by omega)]
    rw [w64 (x := (i : Int) + 1) (by omega) (by omega), w64 (x := m + (i : Int) + 1) (by omega) (by omega), show ((i : Int) + 1) = ((i + 1 : Nat) : Int) by omega, show m + (i : Int) + 1 = m + ((i + 1 : Nat) : Int) by omega]
    exact held_run n m hn hm hm' d (i + 1) (by omega) (by omega)
theorem held_ev (n : Nat) (m : Int) (hn : n ≤ 4194304) (hm : 0 ≤ m) (hm' : m ≤ 4611686018427387904) : Ev (fun k => laws_heldIntS.f k (marks n m) m) (m + n) := by
  have := held_run n m hn hm hm' n 0 (by omega) (by omega)
  unfold laws_heldIntS.f
  simpa using this
theorem eqMap_same (t f : List Int) (ht : t.length ≤ 1048576) (hf : f.length ≤ 1048576) : Ev (fun k => laws_eqMap.f k t f t f) true := by
  unfold laws_eqMap.f
  refine Ev.bind (eqIntS_same t ht) ?_
  simp only [if_true]
  exact Ev.bind (eqIntS_same f hf) (Ev.const rfl)
theorem markMap_ev (t f : List Int) (ht : t.length ≤ 1048576) (hf : f.length ≤ 1048576) : Ev (fun k => laws_markMap.f k t f 1) (1 + (t.length : Int) + (f.length : Int), marks t.length 1, marks f.length (1 + (t.length : Int))) := by
  unfold laws_markMap.f
  refine Ev.bind (mark_ev t 1 (by omega) (by omega) (by omega)) ?_
  exact Ev.bind (mark_ev f (1 + (t.length : Int)) (by omega) (by omega) (by omega)) (Ev.const rfl)
theorem heldMap_ev (n m : Nat) (hn : n ≤ 1048576) (hm : m ≤ 1048576) : Ev (fun k => laws_heldMap.f k (marks n 1) (marks m (1 + (n : Int))) 1) (1 + (n : Int) + (m : Int)) := by
  unfold laws_heldMap.f
  refine Ev.bind (held_ev n 1 (by omega) (by omega) (by omega)) ?_
  simp only [show ¬ 1 + (n : Int) < 0 by omega, if_false]
  refine Ev.bind (held_ev m (1 + (n : Int)) (by omega) (by omega) (by omega)) ?_
  simp only [show ¬ 1 + (n : Int) + (m : Int) < 0 by omega, if_false]
  exact Ev.const rfl
end Go.Proofs.Ytggghijamfmenaa.PC

set_option linter.unusedVariables false
set_option linter.unusedSimpArgs false
namespace Go.Proofs.Ytggghijamfmenaa.Pure
open Go.RowKit Go.Proofs.Ytggghijamfmenaa.PC Go.Proofs.YtggghijamfmenaaW.PrintWords Go.Proofs.YtggghijamfmenaaW.PrintLast Go.Proofs.YtggghijamfmenaaW.PrintMore
theorem FnExactEdgeContract : laws_FnExactEdgeContract.Pure := by
  intro t f a ht _ hf _ _
  obtain ⟨s, hs, h0 | ⟨ht', hf', h0⟩⟩ := szMap_cases t f ht hf
  · refine ⟨0, ?_⟩
    unfold laws_FnExactEdgeContract.f
    rw [hs, Option.bind_some, if_pos h0]
  · obtain ⟨⟨T, F, b⟩, e1, e2, hT, hF⟩ := con_both t f a ht' hf'
    have hT' : T.length ≤ 1048576 := Nat.le_trans hT (by omega)
    have hF' : F.length ≤ 1048576 := Nat.le_trans hF (by omega)
    have hb : (b != b) = false := by simp
    refine Ev.rounds (r := true) ?_
    unfold laws_FnExactEdgeContract.f
    simp only [hs, Option.bind_some, h0, if_false]
    refine Ev.bind (toMap_ev t f ht' hf') ?_
    refine Ev.bind e1 ?_
    refine Ev.bind (toMap_ev t f ht' hf') ?_
    refine Ev.bind e2 ?_
    refine Ev.bind (eqMap_same T F hT' hF') ?_
    simp only [if_true, hb]
    refine Ev.s ?_
    simp only [laws_FnExactEdgeContract.j0, Bool.false_eq_true, if_false]
    refine Ev.bind (toMap_ev t f ht' hf') ?_
    refine Ev.bind (eqMap_same t f ht' hf') ?_
    simp only [if_true]
    refine Ev.bind (markMap_ev t f ht' hf') ?_
    simp only [show ¬ 1 + (t.length : Int) + (f.length : Int) < 0 by omega, if_false]
    refine Ev.bind (eqMap_same T F hT' hF') ?_
    simp only [if_true, hb]
    refine Ev.s ?_
    simp only [laws_FnExactEdgeContract.j1, Bool.false_eq_true, if_false]
    refine Ev.bind (markMap_ev T F hT' hF') ?_
    refine Ev.bind (heldMap_ev T.length F.length hT' hF') ?_
    simp only [show ¬ 1 + (T.length : Int) + (F.length : Int) < 0 by omega, if_false, if_true]
    refine Ev.bind (toMap_ev t f ht' hf') ?_
    refine Ev.bind e2 ?_
    refine Ev.bind (eqMap_same T F hT' hF') ?_
    simp only [if_true, hb]
    refine Ev.s ?_
    simp only [laws_FnExactEdgeContract.j2, Bool.false_eq_true, if_false]
    refine Ev.bind (heldMap_ev T.length F.length hT' hF') ?_
    simp only [show ¬ 1 + (T.length : Int) + (F.length : Int) < 0 by omega, if_false, if_true]
    exact Ev.const rfl
end Go.Proofs.Ytggghijamfmenaa.Pure

namespace Go.Proofs.Ytggghijamfmenaa.fnExactEdgeContract
open Go.ChangeShapes Go.WideShapes Go.ChangeAt Go.RowKit Go.Joins Go.Proofs.YtggghijamfmenaaW.PrintWords Go.Proofs.YtggghijamfmenaaW.PrintLast
open Go.ChangeMaps (open_string shut_string)
set_option linter.unusedVariables false
theorem own : ownKnob Try.prog.godebug = none := by kernel_rfl
theorem laidOut : laidOutB Try.prog = true := by kernel_rfl
def IsRow (k : IntKind) (w : World) (a : Option Addr) (len cap : Nat) (zs : List Int) : Prop :=
  (a = none ∧ len = 0 ∧ cap = 0 ∧ zs = []) ∨
  ∃ x, a = some x ∧ len ≤ cap ∧ cap ≤ maxLen ∧ zs.length = cap ∧ (∀ i, i < zs.length → w.cell? (x.add i) = some (.int k (zs.getD i 0))) ∧ ∀ n ∈ zs, (Lit.int k n).wf = true
theorem cells36 : Try.prog.cellsOf 36 = 2 := by kernel_rfl
set_option maxRecDepth 100000 in
theorem lifted (os : Os) (started : os.Started) (H : Type) (enc : TypeId × Value → H) :
    ReturnsInHanded {} Try.checked os 4 .any (Rows.fnExactEdgeContractSpec.pre6 enc Try.prog Try.f4 Rows.fnExactEdgeContractRow.domain false) (Rows.fnExactEdgeContractSpec.post enc Try.prog Try.f4 false true false false) := by
  refine returnsInHanded_of_change_sized (C := Try.checked) own started (by kernel_rfl) Try.func4
    (ChangeSpec.witness6 (enc := enc) (C := Try.checked) false ⟨#[], #[.agg #[.slice none 0 0, .slice none 0 0], .int .i64 0], []⟩ 8 (by kernel_rfl) (by kernel_rfl) (by kernel_rfl) (by kernel_rfl)) ?_
  intro W base args ds gs before hval0 hW hcnd hsz0 _
  have hval : ∀ (j : Nat) t v, Try.f4.params[j]? = some t → args[j]? = some v → Value.okWide Try.prog W .any base t v := hval0
  have hW' := hW
  obtain ⟨p, q, hA0, hV, rfl, hfz, hnd⟩ := hW
  have hA : DataW.TrodAll enc Try.prog W 0 (fun _ => true) true Try.f4.params.toList args.toList ds p := hA0
  rw [Try.params4] at hA hval
  obtain ⟨v0, vs0, d0, ds0, p0, q0, hargs, rfl, rfl, h0, r0⟩ := trodAll_cons hA
  obtain ⟨v1, vs1, d1, ds1, p1, q1, rfl, rfl, rfl, h1, r1⟩ := trodAll_cons r0
  obtain ⟨rfl, rfl, rfl⟩ := trodAll_nil r1
  obtain rfl : args = #[v0, v1] := by cases args; simp_all
  obtain ⟨rfl, rfl⟩ := trodVars_none hV
  have k0 := h0
  have lt0 : ∀ x ∈ p0, x.block < W.heap.size := by obtain ⟨m, hm⟩ := k0; exact DataW.trod_lt m _ _ _ hm
  obtain ⟨c0_0, c0_1, y0_0, y0_1, m0, e0, _, _, hy0_0, hy0_1⟩ := open_agg2 Try.underlying36 (by kernel_rfl) cells36 (hval 0 36 v0 rfl rfl) h0
  subst e0
  obtain ⟨a0_0, len0_0, cap0_0, z0_0, ec0_0, w0_0⟩ : ∃ a len cap zs, c0_0 = .slice a len cap ∧ IsRow .i64 W a len cap zs := by
    rcases open_ints Try.underlying23 Try.underlying3 (by kernel_rfl) hy0_0 with ⟨hcs, _⟩ | ⟨x, l, c, zs, hcs, _, hl, hm, hz, _, hcell, hwz⟩
    · simp at hcs; exact ⟨none, 0, 0, [], hcs, .inl ⟨rfl, rfl, rfl, rfl⟩⟩
    · simp at hcs; exact ⟨_, _, _, zs, hcs, .inr ⟨_, rfl, hl, hm, by simpa using hz, hcell, hwz⟩⟩
  subst ec0_0
  obtain ⟨l0_0, el0_0, hr0_0, hm0_0, hw0_0, hc0_0⟩ := ReadsInt.ofRowC w0_0
  subst el0_0
  obtain ⟨a0_1, len0_1, cap0_1, z0_1, ec0_1, w0_1⟩ : ∃ a len cap zs, c0_1 = .slice a len cap ∧ IsRow .i64 W a len cap zs := by
    rcases open_ints Try.underlying23 Try.underlying3 (by kernel_rfl) hy0_1 with ⟨hcs, _⟩ | ⟨x, l, c, zs, hcs, _, hl, hm, hz, _, hcell, hwz⟩
    · simp at hcs; exact ⟨none, 0, 0, [], hcs, .inl ⟨rfl, rfl, rfl, rfl⟩⟩
    · simp at hcs; exact ⟨_, _, _, zs, hcs, .inr ⟨_, rfl, hl, hm, by simpa using hz, hcell, hwz⟩⟩
  subst ec0_1
  obtain ⟨l0_1, el0_1, hr0_1, hm0_1, hw0_1, hc0_1⟩ := ReadsInt.ofRowC w0_1
  subst el0_1
  obtain ⟨a1, rfl, rfl, rfl, w1⟩ := open_int Try.underlying3 (hval 1 3 v1 rfl rfl) h1
  clear hA0 hval0 hsz0
  obtain ⟨k, h⟩ := Pure.FnExactEdgeContract l0_0 l0_1 a1 hm0_0 hw0_0 hm0_1 hw0_1 w1
  refine (PC.laws_FnExactEdgeContract.calls k _ _ l0_0 _ _ l0_1 a1 true W (Kd.C_of_reads (d := (0 : Int)) (h1 := fun _ => rfl) hr0_0) hc0_0 (Kd.C_of_reads (d := (0 : Int)) (h1 := fun _ => rfl) hr0_1) hc0_1 h).mono fun e W' ⟨he, bel0⟩ => ?_
  have bel : Below W.heap.size W W' := bel0
  subst he
  exact ⟨_, rfl, _, _, _, [], _, [], hW', trodAll_mk1 (shut_bool Try.underlying4 _), (trodAll_cons_mk (Below.trod laidOut (by kernel_rfl) (of_decide_eq_true (by kernel_rfl)) k0 bel lt0) (trodAll_cons_mk (shut_int Try.underlying3 w1) trodAll_mk0)), rfl, bel.frame _, fun h => by cases h⟩
theorem over : Rows.fnExactEdgeContractRow.holds Try.pinned (OpenSpec.ofChange Rows.fnExactEdgeContractSpec) :=
  OpenClaim.holds_of_wide 4 Try.f4 rfl rfl rfl rfl rfl rfl rfl ⟨rfl, rfl, rfl, rfl, rfl⟩ rfl rfl rfl rfl rfl (by kernel_rfl) Try.func4 (by kernel_rfl)
    (of_decide_eq_true (by kernel_rfl)) (by unfold Func.isWrapper; first | (rw [if_pos (by decide +kernel)]; kernel_rfl) | (rw [if_neg (by decide +kernel)]; exact ⟨rfl, rfl⟩))
    (fun os started H enc _ => lifted os started H enc)
theorem proved : Rows.FnExactEdgeContractSaid := over
#print axioms proved
end Go.Proofs.Ytggghijamfmenaa.fnExactEdgeContract
namespace Go.Proofs.Ytggghijamfmenaa
theorem fnExactEdgeContract_holds : Rows.FnExactEdgeContractSaid := fnExactEdgeContract.proved
end Go.Proofs.Ytggghijamfmenaa
