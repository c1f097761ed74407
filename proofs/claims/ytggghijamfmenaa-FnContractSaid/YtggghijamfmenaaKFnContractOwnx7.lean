/- For every code: of the map and the edge that the statement draws, EdgeContract of the program answers what the reference answers; one vertex and one edge go, the faces and the genus stay; and where the dual's edge can be deleted, the rest is the dual of what is left. There are no conditions. -/
import Derived.Test.YtggghijamfmenaaKFnContractOwnx6
set_option linter.unusedVariables false
set_option linter.unusedSimpArgs false
namespace Go.Proofs.Ytggghijamfmenaa.PC
open Go.RowKit Go.Proofs.YtggghijamfmenaaW.PrintWords Go.Proofs.YtggghijamfmenaaW.PrintLast Go.Proofs.YtggghijamfmenaaW.PrintMore
def okAt (l : List Int) (i : Nat) : Prop := 0 ≤ rd l i ∧ rd l i < l.length ∧ ∀ k : Nat, k < i → rd l k ≠ rd l i
def isPerm (l : List Int) : Prop := 1 ≤ l.length ∧ l.length ≤ 12 ∧ ∀ i : Nat, i < l.length → okAt l i
theorem l6In_eq (a b c : Int) : spec_l6In.f a b c = some (decide (b ≤ a ∧ a ≤ c)) := by
  unfold spec_l6In.f
  by_cases h1 : a ≥ b
  · by_cases h2 : a ≤ c <;> simp [h1, h2]
  · simp [h1]
theorem specPerm_in (l : List Int) (hl : l.length ≤ 1048576) (i : Nat) (hi : i < l.length) : ∀ (d k : Nat), i - k = d → k ≤ i →
    ((∀ q : Nat, k ≤ q → q < i → rd l q ≠ rd l i) → ∀ r, Ev (fun z => spec_PermValid.l0 z l ((i + 1 : Nat) : Int)) r → Ev (fun z => spec_PermValid.l1 z l i k) r) ∧
    (¬ (∀ q : Nat, k ≤ q → q < i → rd l q ≠ rd l i) → Ev (fun z => spec_PermValid.l1 z l i k) false)
  | 0, k, hd, hk => by
    refine ⟨fun _ r h => Ev.s ?_, fun h => absurd (fun q h1 h2 => by omega) h⟩
    simp only [spec_PermValid.l1, show ¬ (k : Int) < (i : Int) by omega, if_false]
    rw [w64 (x := (i : Int) + 1) (by omega) (by omega), show ((i : Int) + 1) = ((i + 1 : Nat) : Int) by omega]
    exact h
  | d + 1, k, hd, hk => by
    have ih := specPerm_in l hl i hi d (k + 1) (by omega) (by omega)
    have hw : wrap64 ((k : Int) + 1) = ((k + 1 : Nat) : Int) := by rw [w64 (by omega) (by omega)]; omega
    by_cases e : rd l k = rd l i
    · refine ⟨fun h => absurd e (h k (Nat.le_refl _) (by omega)), fun h => Ev.s ?_⟩
      simp only [spec_PermValid.l1, show (k : Int) < (i : Int) by omega, show (0 : Int) ≤ k by omega, show (k : Int) < (l.length : Int) by omega, show (0 : Int) ≤ i by omega, show (i : Int) < (l.length : Int) by omega, e, if_true]
      exact Ev.const rfl
    · refine ⟨fun h r hr => Ev.s ?_, fun h => Ev.s ?_⟩
      · simp only [spec_PermValid.l1, show (k : Int) < (i : Int) by omega, show (0 : Int) ≤ k by omega, show (k : Int) < (l.length : Int) by omega, show (0 : Int) ≤ i by omega, show (i : Int) < (l.length : Int) by omega, e, if_true, if_false, hw]
        exact ih.1 (fun q h1 h2 => h q (by omega) h2) r hr
      · simp only [spec_PermValid.l1, show (k : Int) < (i : Int) by omega, show (0 : Int) ≤ k by omega, show (k : Int) < (l.length : Int) by omega, show (0 : Int) ≤ i by omega, show (i : Int) < (l.length : Int) by omega, e, if_true, if_false, hw]
        refine ih.2 fun h' => h fun q h1 h2 => ?_
        by_cases eq : q = k
        · rw [eq]; exact e
        · exact h' q (by omega) h2
theorem specPerm_run (l : List Int) (hl : l.length ≤ 1048576) : ∀ (d i : Nat), l.length - i = d → i ≤ l.length →
    ((∀ q : Nat, i ≤ q → q < l.length → okAt l q) → Ev (fun z => spec_PermValid.l0 z l i) (decide (1 ≤ (l.length : Int) ∧ (l.length : Int) ≤ 12))) ∧
    (¬ (∀ q : Nat, i ≤ q → q < l.length → okAt l q) → Ev (fun z => spec_PermValid.l0 z l i) false)
  | 0, i, hd, hi => by
    refine ⟨fun _ => Ev.s ?_, fun h => absurd (fun q h1 h2 => by omega) h⟩
    simp only [spec_PermValid.l0, show ¬ (i : Int) < (l.length : Int) by omega, if_false, l6In_eq, Option.bind_some]
    exact Ev.const rfl
  | d + 1, i, hd, hi => by
    have hlt : i < l.length := by omega
    have ih := specPerm_run l hl d (i + 1) (by omega) (by omega)
    have hin := specPerm_in l hl i hlt i 0 (by omega) (by omega)
    have hwl : wrap64 ((l.length : Int) - 1) = (l.length : Int) - 1 := w64 (by omega) (by omega)
    by_cases hr : 0 ≤ rd l i ∧ rd l i ≤ (l.length : Int) - 1
    · by_cases hn : ∀ q : Nat, 0 ≤ q → q < i → rd l q ≠ rd l i
      · refine ⟨fun h => Ev.s ?_, fun h => Ev.s ?_⟩
        · simp only [spec_PermValid.l0, show (i : Int) < (l.length : Int) by omega, show (0 : Int) ≤ i by omega, if_true, l6In_eq, Option.bind_some, hwl, hr, decide_true, and_self]
          exact hin.1 hn _ (ih.1 fun q h1 h2 => h q (by omega) h2)
        · simp only [spec_PermValid.l0, show (i : Int) < (l.length : Int) by omega, show (0 : Int) ≤ i by omega, if_true, l6In_eq, Option.bind_some, hwl, hr, decide_true, and_self]
          refine hin.1 hn _ (ih.2 fun h' => h fun q h1 h2 => ?_)
          by_cases e : q = i
          · rw [e]; exact ⟨hr.1, by omega, fun k hk => hn k (by omega) hk⟩
          · exact h' q (by omega) h2
      · refine ⟨fun h => absurd (fun q _ h2 => (h i (Nat.le_refl _) hlt).2.2 q h2) hn, fun h => Ev.s ?_⟩
        simp only [spec_PermValid.l0, show (i : Int) < (l.length : Int) by omega, show (0 : Int) ≤ i by omega, if_true, l6In_eq, Option.bind_some, hwl, hr, decide_true, and_self]
        exact hin.2 hn
    · refine ⟨fun h => absurd ⟨(h i (Nat.le_refl _) hlt).1, by have := (h i (Nat.le_refl _) hlt).2.1; omega⟩ hr, fun h => Ev.s ?_⟩
      simp only [spec_PermValid.l0, show (i : Int) < (l.length : Int) by omega, show (0 : Int) ≤ i by omega, if_true, l6In_eq, Option.bind_some, hwl, hr, decide_false, Bool.false_eq_true, if_false]
      exact Ev.const rfl
theorem implPerm_run (l : List Int) (hl : l.length ≤ 12) : ∀ (d i : Nat) (s : List Bool), l.length - i = d → i ≤ l.length → s.length = 12 → (∀ v : Nat, v < 12 → (s.getD v false = true ↔ ∃ k : Nat, k < i ∧ rd l k = v)) →
    ((∀ q : Nat, i ≤ q → q < l.length → okAt l q) → Ev (fun z => impl_PermValid.l0 z l s i) true) ∧
    (¬ (∀ q : Nat, i ≤ q → q < l.length → okAt l q) → Ev (fun z => impl_PermValid.l0 z l s i) false)
  | 0, i, s, hd, hi, hs, hv => by
    refine ⟨fun _ => Ev.s ?_, fun h => absurd (fun q h1 h2 => by omega) h⟩
    simp only [impl_PermValid.l0, show ¬ (i : Int) < (l.length : Int) by omega, if_false]
    exact Ev.const rfl
  | d + 1, i, s, hd, hi, hs, hv => by
    have hlt : i < l.length := by omega
    have hd1 : l.length - (i + 1) = d := by omega
    have hw : wrap64 ((i : Int) + 1) = ((i + 1 : Nat) : Int) := by rw [w64 (by omega) (by omega)]; omega
    by_cases h0 : rd l i < 0
    · refine ⟨fun h => absurd (h i (Nat.le_refl _) hlt).1 (by omega), fun h => Ev.s ?_⟩
      simp only [impl_PermValid.l0, show (i : Int) < (l.length : Int) by omega, show (0 : Int) ≤ i by omega, h0, if_true]
      exact Ev.const rfl
    · by_cases h1 : rd l i ≥ (l.length : Int)
      · refine ⟨fun h => absurd (h i (Nat.le_refl _) hlt).2.1 (by omega), fun h => Ev.s ?_⟩
        simp only [impl_PermValid.l0, show (i : Int) < (l.length : Int) by omega, show (0 : Int) ≤ i by omega, h0, h1, if_true, if_false]
        exact Ev.const rfl
      · have hvi := hv (rd l i).toNat (by omega)
        have hcast : (((rd l i).toNat : Nat) : Int) = rd l i := by omega
        rw [hcast] at hvi
        by_cases h2 : s.getD (rd l i).toNat false = true
        · obtain ⟨k, hk, hke⟩ := hvi.1 h2
          refine ⟨fun h => absurd hke ((h i (Nat.le_refl _) hlt).2.2 k hk), fun h => Ev.s ?_⟩
          simp only [impl_PermValid.l0, show (i : Int) < (l.length : Int) by omega, show (0 : Int) ≤ i by omega, h0, h1, h2, if_true, if_false]
          exact Ev.const rfl
        · have hnew : ∀ k : Nat, k < i → rd l k ≠ rd l i := fun k hk e => h2 (hvi.2 ⟨k, hk, e⟩)
          have ih := implPerm_run l hl d (i + 1) (s.set (rd l i).toNat true) hd1 hlt (by simpa using hs) (fun v hv12 => by
            by_cases ev : v = (rd l i).toNat
            · subst ev
              rw [List.getD_eq_getElem?_getD, List.getElem?_set_self (by omega)]
              simp only [Option.getD_some, true_iff]
              exact ⟨i, Nat.lt_succ_self i, hcast.symm⟩
            · rw [List.getD_eq_getElem?_getD, List.getElem?_set_ne (Ne.symm ev), ← List.getD_eq_getElem?_getD, hv v hv12]
              constructor
              · rintro ⟨k, hk, hke⟩; exact ⟨k, by omega, hke⟩
              · rintro ⟨k, hk, hke⟩
                by_cases e : k = i
                · subst e; omega
                · exact ⟨k, by omega, hke⟩)
          refine ⟨fun h => Ev.s ?_, fun h => Ev.s ?_⟩
          · simp only [impl_PermValid.l0, show (i : Int) < (l.length : Int) by omega, show (0 : Int) ≤ i by omega, h0, h1, h2, if_true, if_false, hw]
            exact ih.1 fun q g1 g2 => h q (by omega) g2
          · simp only [impl_PermValid.l0, show (i : Int) < (l.length : Int) by omega, show (0 : Int) ≤ i by omega, h0, h1, h2, if_true, if_false, hw]
            refine ih.2 fun h' => h fun q g1 g2 => ?_
            by_cases e : q = i
            · rw [e]; exact ⟨by omega, by omega, hnew⟩
            · exact h' q (by omega) g2
theorem permValid_both (l : List Int) (hl : l.length ≤ 1048576) : ∃ b : Bool, Ev (fun k => spec_PermValid.f k l) b ∧ Ev (fun k => impl_PermValid.f k l) b ∧ (b = true ↔ isPerm l) := by
  unfold spec_PermValid.f impl_PermValid.f
  have hs := specPerm_run l hl l.length 0 (by omega) (by omega)
  by_cases hall : ∀ q : Nat, 0 ≤ q → q < l.length → okAt l q
  · refine ⟨decide (1 ≤ (l.length : Int) ∧ (l.length : Int) ≤ 12), hs.1 hall, ?_, ?_⟩
    · by_cases h1 : (l.length : Int) < 1
      · simp only [h1, if_true]
        exact Ev.const (by congr 1; symm; rw [decide_eq_false_iff_not]; omega)
      · by_cases h2 : (l.length : Int) > 12
        · simp only [h1, h2, if_true, if_false]
          exact Ev.const (by congr 1; symm; rw [decide_eq_false_iff_not]; omega)
        · simp only [h1, h2, if_false]
          rw [decide_eq_true (by omega)]
          refine (implPerm_run l (by omega) l.length 0 _ (by omega) (by omega) (by simp) fun v hv => ?_).1 hall
          constructor
          · intro h
            rw [List.getD_eq_getElem?_getD, List.getElem?_replicate, if_pos hv] at h
            cases h
          · rintro ⟨k, hk, _⟩; omega
    · rw [decide_eq_true_eq]
      exact ⟨fun h => ⟨by omega, by omega, fun i hi => hall i (by omega) hi⟩, fun h => ⟨by have := h.1; omega, by have := h.2.1; omega⟩⟩
  · refine ⟨false, hs.2 hall, ?_, ?_⟩
    · by_cases h1 : (l.length : Int) < 1
      · simp only [h1, if_true]; exact Ev.const rfl
      · by_cases h2 : (l.length : Int) > 12
        · simp only [h1, h2, if_true, if_false]; exact Ev.const rfl
        · simp only [h1, h2, if_false]
          refine (implPerm_run l (by omega) l.length 0 _ (by omega) (by omega) (by simp) fun v hv => ?_).2 hall
          constructor
          · intro h
            rw [List.getD_eq_getElem?_getD, List.getElem?_replicate, if_pos hv] at h
            cases h
          · rintro ⟨k, hk, _⟩; omega
    · exact ⟨fun h => (by cases h), fun h => absurd (fun q _ hq => h.2.2 q hq) hall⟩
def stl (n : Nat) : List Int := (List.range n).map fun (i : Nat) => (i : Int)
theorem stl_length (n : Nat) : (stl n).length = n := by simp [stl]
theorem stl_rd (n i : Nat) (h : i < n) : rd (stl n) i = i := by
  rw [rd_lt _ _ (by rw [stl_length]; exact h)]
  simp [stl]
theorem stl_succ (n : Nat) : stl (n + 1) = stl n ++ [(n : Int)] := by simp [stl, List.range_succ]
theorem rd_set_self (l : List Int) (i : Nat) (v : Int) (h : i < l.length) : rd (l.set i v) i = v := by
  rw [rd_lt _ _ (by simpa using h)]; simp
theorem rd_set_ne (l : List Int) (i j : Nat) (v : Int) (h : i ≠ j) : rd (l.set i v) j = rd l j := by
  unfold rd
  rw [Int.toNat_natCast, List.getD_eq_getElem?_getD, List.getD_eq_getElem?_getD, List.getElem?_set_ne h]
theorem rd_app_lt (l m : List Int) (i : Nat) (h : i < l.length) : rd (l ++ m) i = rd l i := by
  unfold rd
  rw [Int.toNat_natCast, List.getD_eq_getElem?_getD, List.getD_eq_getElem?_getD, List.getElem?_append_left h]
theorem list_ext (a b : List Int) (h : a.length = b.length) (hr : ∀ i : Nat, i < a.length → rd a i = rd b i) : a = b := by
  refine List.ext_getElem h fun i h1 h2 => ?_
  have := hr i h1
  rwa [rd_lt a i h1, rd_lt b i h2] at this
theorem same_run (n : Nat) (hn : n ≤ 1048576) : ∀ (d i : Nat), n - i = d → i ≤ n → Ev (fun k => spec_l1Same.l0 k n (stl i) i) (stl n)
  | 0, i, hd, hi => by
    refine Ev.s ?_
    simp only [spec_l1Same.l0, show ¬ (i : Int) < (n : Int) by omega, if_false]
    have : i = n := by omega
    subst this
    exact Ev.const rfl
  | d + 1, i, hd, hi => by
    refine Ev.s ?_
    simp only [spec_l1Same.l0, show (i : Int) < (n : Int) by omega, if_true, stl_length, show i < 17592186044416 by omega]
    rw [w64 (x := (i : Int) + 1) (by omega) (by omega), show ((i : Int) + 1) = ((i + 1 : Nat) : Int) by omega, ← stl_succ]
    exact same_run n hn d (i + 1) (by omega) (by omega)
theorem same_ev (n : Nat) (hn : n ≤ 1048576) : Ev (fun k => spec_l1Same.f k n) (stl n) := by
  unfold spec_l1Same.f
  exact same_run n hn n 0 (by omega) (by omega)
theorem still_run (n : Nat) (hn : n ≤ 1048576) : ∀ (d i : Nat) (l : List Int), n - i = d → i ≤ n → l.length = n → l.take i = (stl n).take i → Ev (fun k => impl_still.l0 k l n i) (stl n)
  | 0, i, l, hd, hi, hl, ht => by
    refine Ev.s ?_
    simp only [impl_still.l0, show ¬ (i : Int) < (n : Int) by omega, if_false]
    have : i = n := by omega
    subst this
    have e : (stl i).take i = stl i := by rw [List.take_of_length_le]; rw [stl_length]; exact Nat.le_refl _
    rw [e, List.take_of_length_le (by omega)] at ht
    exact Ev.const (by rw [ht])
  | d + 1, i, l, hd, hi, hl, ht => by
    have hlt : i < l.length := by omega
    refine Ev.s ?_
    simp only [impl_still.l0, show (i : Int) < (n : Int) by omega, show (0 : Int) ≤ i by omega, show (i : Int) < (l.length : Int) by omega, if_true]
    rw [w64 (x := (i : Int) + 1) (by omega) (by omega), show ((i : Int) + 1) = ((i + 1 : Nat) : Int) by omega, Int.toNat_natCast]
    refine still_run n hn d (i + 1) _ (by omega) (by omega) (by simpa using hl) ?_
    have h2 : i < (stl n).length := by rw [stl_length]; omega
    rw [List.take_succ_eq_append_getElem (by simpa using hlt), List.take_succ_eq_append_getElem h2, List.take_set_of_le (Nat.le_refl _), ht]
    simp [stl]
theorem still_ev (n : Nat) (hn : n ≤ 1048576) : Ev (fun k => impl_still.f k n) (stl n) := by
  unfold impl_still.f
  have h1 : n ≤ 35184372088832 := by omega
  have h2 : (0 : Int) ≤ (n : Int) := by omega
  simp only [Int.toNat_natCast, h1, h2, if_true, Option.bind_some, List.length_replicate]
  exact still_run n hn n 0 _ (by omega) (by omega) (by simp) (by simp)
def inR (n : Nat) (p : List Int) : Prop := p.length = n ∧ ∀ i : Nat, i < n → 0 ≤ rd p i ∧ rd p i < n
def closedL (ps : List (List Int)) (n : Nat) (S : Nat → Prop) : Prop := ∀ p ∈ ps, ∀ k, k < n → (S k ↔ S (rd p k).toNat)
def Reach (ps : List (List Int)) (n : Nat) (i j : Nat) : Prop := ∀ S, closedL ps n S → (S i ↔ S j)
theorem Reach.refl (ps : List (List Int)) (n i : Nat) : Reach ps n i i := fun S _ => Iff.rfl
theorem Reach.symm {ps : List (List Int)} {n i j : Nat} (h : Reach ps n i j) : Reach ps n j i := fun S c => (h S c).symm
theorem Reach.trans {ps : List (List Int)} {n i j k : Nat} (h : Reach ps n i j) (h' : Reach ps n j k) : Reach ps n i k := fun S c => (h S c).trans (h' S c)
theorem Reach.step {ps : List (List Int)} {n : Nat} {p : List Int} (hp : p ∈ ps) {k : Nat} (hk : k < n) : Reach ps n k (rd p k).toNat := fun S c => c p hp k hk
def orbI (ps : List (List Int)) (n : Nat) (o : List Int) : Prop := o.length = n ∧ ∀ i : Nat, i < n → 0 ≤ rd o i ∧ rd o i ≤ i ∧ Reach ps n (rd o i).toNat i
def orbOk (ps : List (List Int)) (n : Nat) (o : List Int) : Prop := orbI ps n o ∧ ∀ p ∈ ps, ∀ i : Nat, i < n → rd o (rd p i) = rd o i
theorem stl_orbI (ps : List (List Int)) (n : Nat) : orbI ps n (stl n) := by
  refine ⟨stl_length n, fun i hi => ?_⟩
  rw [stl_rd n i hi]
  exact ⟨by omega, by omega, by rw [Int.toNat_natCast]; exact Reach.refl _ _ _⟩
theorem orbOk_const {ps : List (List Int)} {n : Nat} {o : List Int} (h : orbOk ps n o) (hp : ∀ p ∈ ps, inR n p) {i j : Nat} (hr : Reach ps n i j) : rd o i = rd o j := by
  have := hr (fun k => rd o k = rd o i) (fun p hp' k hk => by
    have h1 := h.2 p hp' k hk
    have h2 := (hp p hp').2 k hk
    have e : (((rd p k).toNat : Nat) : Int) = rd p k := by omega
    show (rd o k = rd o i) ↔ (rd o (((rd p k).toNat : Nat) : Int) = rd o i)
    rw [e, h1])
  exact (this.1 rfl).symm
theorem orbOk_le {ps : List (List Int)} {n : Nat} {o o' : List Int} (h : orbOk ps n o) (h' : orbI ps n o') (hp : ∀ p ∈ ps, inR n p) {i : Nat} (hi : i < n) : rd o i ≤ rd o' i := by
  obtain ⟨g0, g1, g2⟩ := h'.2 i hi
  have e := orbOk_const h hp g2
  have hlt : (rd o' i).toNat < n := by omega
  have := (h.1.2 _ hlt).2.1
  have e2 : (((rd o' i).toNat : Nat) : Int) = rd o' i := by omega
  omega
theorem mn_le (a b : Int) : mn a b ≤ a ∧ mn a b ≤ b ∧ (mn a b = a ∨ mn a b = b) := by unfold mn; split <;> omega
theorem orbI_put {ps : List (List Int)} {n : Nat} {o : List Int} (h : orbI ps n o) {i : Nat} (hi : i < n) {v : Int} (h0 : 0 ≤ v) (h1 : v ≤ i) (hr : Reach ps n v.toNat i) : orbI ps n (o.set i v) := by
  refine ⟨by simpa using h.1, fun j hj => ?_⟩
  by_cases e : i = j
  · subst e
    rw [rd_set_self _ _ _ (by rw [h.1]; exact hi)]
    exact ⟨h0, h1, hr⟩
  · rw [rd_set_ne _ _ _ _ e]
    exact h.2 j hj
def tot : List Int → Int
  | [] => 0
  | x :: xs => x + tot xs
theorem tot_set : ∀ (l : List Int) (i : Nat) (v : Int), i < l.length → tot (l.set i v) + rd l i = tot l + v
  | [], i, v, h => by simp at h
  | x :: xs, 0, v, h => by simp [tot, rd]; omega
  | x :: xs, i + 1, v, h => by
    have ih := tot_set xs i v (by simpa using h)
    have e : rd (x :: xs) ((i + 1 : Nat) : Int) = rd xs i := by unfold rd; rw [Int.toNat_natCast, Int.toNat_natCast]; rfl
    rw [e]
    simp only [List.set_cons_succ, tot]
    omega
theorem tot_nonneg : ∀ (l : List Int), (∀ i : Nat, i < l.length → 0 ≤ rd l i) → 0 ≤ tot l
  | [], _ => by simp [tot]
  | x :: xs, h => by
    have h0 := h 0 (by simp)
    have e0 : rd (x :: xs) ((0 : Nat) : Int) = x := rfl
    rw [e0] at h0
    have := tot_nonneg xs fun i hi => by
      have := h (i + 1) (by simpa using hi)
      have e : rd (x :: xs) ((i + 1 : Nat) : Int) = rd xs i := by unfold rd; rw [Int.toNat_natCast, Int.toNat_natCast]; rfl
      rwa [e] at this
    simp only [tot]
    omega
theorem rdL_nth (ps : List (List Int)) (q : Nat) (h : q < ps.length) : rd_L1 ps (q : Int) = ps[q] := by
  have e : (q : Int).toNat = q := Int.toNat_natCast q
  unfold rd_L1
  rw [e, List.getD_eq_getElem?_getD, List.getElem?_eq_getElem h]
  rfl
theorem implOrb_in (ps : List (List Int)) (n : Nat) (hn : n ≤ 12) (q : Nat) (hq : q < ps.length) (hL : ps.length ≤ 1048576) (P : List Int) (hP : P ∈ ps) (pl : P.length = n) (pr : ∀ i : Nat, i < n → 0 ≤ rd P i ∧ rd P i < n) : ∀ (d i : Nat) (o : List Int) (g : Bool), n - i = d → i ≤ n → orbI ps n o →
    ∃ (o' : List Int) (g' : Bool), orbI ps n o' ∧ (∀ r, Ev (fun k => impl_orbits.l1 k ps o' g' ps ps.length ((q + 1 : Nat) : Int)) r → Ev (fun k => impl_orbits.l2 k ps o g ps ps.length q P n i) r) ∧ tot o' ≤ tot o ∧
      (g' = true → g = true ∨ tot o' < tot o) ∧ (g' = false → g = false ∧ o' = o ∧ ∀ j : Nat, i ≤ j → j < n → rd o (rd P j) = rd o j)
  | 0, i, o, g, hd, hi, ho => by
    refine ⟨o, g, ho, fun r h => Ev.s ?_, by omega, fun h => .inl h, fun h => ⟨h, rfl, fun j h1 h2 => by omega⟩⟩
    simp only [impl_orbits.l2, show ¬ (i : Int) < (n : Int) by omega, if_false]
    rw [w64 (x := (q : Int) + 1) (by omega) (by omega), show ((q : Int) + 1) = ((q + 1 : Nat) : Int) by omega]
    exact h
  | d + 1, i, o, g, hd, hi, ho => by
    have hlt : i < n := by omega
    have hd1 : n - (i + 1) = d := by omega
    have hw : wrap64 ((i : Int) + 1) = ((i + 1 : Nat) : Int) := by rw [w64 (by omega) (by omega)]; omega
    have hr := pr i hlt
    have hst := Reach.step hP hlt
    have hlen := ho.1
    obtain ⟨t, ht⟩ : ∃ t : Nat, rd P i = t := ⟨(rd P i).toNat, by omega⟩
    rw [ht, Int.toNat_natCast] at hst
    have htn : t < n := by omega
    obtain ⟨i0, i1, i2⟩ := ho.2 i hlt
    obtain ⟨t0, t1, t2⟩ := ho.2 t htn
    obtain ⟨hm1, hm2, hm3⟩ := mn_le (rd o i) (rd o t)
    have g1 : (i : Int) < (n : Int) := by omega
    have g2 : (0 : Int) ≤ (i : Int) := by omega
    have g3 : (0 : Int) ≤ (t : Int) := by omega
    have g4 : (t : Int) < (n : Int) := by omega
    obtain ⟨v, hv⟩ : ∃ v, mn (rd o i) (rd o t) = v := ⟨_, rfl⟩
    rw [hv] at hm1 hm2 hm3
    by_cases hc : rd o i = v ∧ rd o t = v
    · obtain ⟨c1, c2⟩ := hc
      obtain ⟨o', g', a1, a2, a3, a4, a5⟩ := implOrb_in ps n hn q hq hL P hP pl pr d (i + 1) o g hd1 hlt ho
      refine ⟨o', g', a1, fun r h => Ev.s ?_, a3, a4, fun h => ?_⟩
      · simp only [impl_orbits.l2, g1, g2, g3, g4, pl, hlen, ht, hv, if_true, hw]
        simp only [c1, c2, if_true]
        exact a2 r h
      · obtain ⟨b1, b2, b3⟩ := a5 h
        refine ⟨b1, b2, fun j h1 h2 => ?_⟩
        by_cases e : j = i
        · rw [e, ht]; omega
        · exact b3 j (by omega) h2
    · have hv0 : 0 ≤ v := by omega
      have hrv : Reach ps n v.toNat i := by
        rcases hm3 with e | e
        · rw [e]; exact i2
        · rw [e]; exact t2.trans hst.symm
      have ho1 := orbI_put ho hlt hv0 (by omega) hrv
      have ho2 := orbI_put ho1 htn hv0 (by omega) (hrv.trans hst)
      have hd2 : tot ((o.set i v).set t v) < tot o := by
        have z1 := tot_set o i v (by omega)
        have z2 := tot_set (o.set i v) t v (by rw [List.length_set]; omega)
        by_cases e : i = t
        · subst e
          rw [rd_set_self _ _ _ (by omega)] at z2
          omega
        · rw [rd_set_ne _ _ _ _ e] at z2
          omega
      obtain ⟨o', g', a1, a2, a3, a4, a5⟩ := implOrb_in ps n hn q hq hL P hP pl pr d (i + 1) ((o.set i v).set t v) true hd1 hlt ho2
      refine ⟨o', g', a1, fun r h => Ev.s ?_, by omega, fun h => .inr (by omega), fun h => ?_⟩
      · have hgo := a2 r h
        by_cases c1 : rd o i = v
        · have c2 : ¬ rd o t = v := fun e => hc ⟨c1, e⟩
          simp only [impl_orbits.l2, g1, g2, g3, g4, pl, hlen, ht, hv, if_true, hw, Int.toNat_natCast]
          simp only [c1, c2, if_true, if_false]
          exact hgo
        · simp only [impl_orbits.l2, g1, g2, g3, g4, pl, hlen, ht, hv, if_true, hw, Int.toNat_natCast]
          simp only [c1, if_false]
          exact hgo
      · have := (a5 h).1
        cases this
theorem implOrb_pass (ps : List (List Int)) (n : Nat) (hn : n ≤ 12) (hL : ps.length ≤ 1048576) (hp : ∀ p ∈ ps, inR n p) : ∀ (d q : Nat) (o : List Int) (g : Bool), ps.length - q = d → q ≤ ps.length → orbI ps n o →
    ∃ (o' : List Int) (g' : Bool), orbI ps n o' ∧ (∀ r, Ev (fun k => impl_orbits.l0 k ps o' g') r → Ev (fun k => impl_orbits.l1 k ps o g ps ps.length q) r) ∧ tot o' ≤ tot o ∧
      (g' = true → g = true ∨ tot o' < tot o) ∧ (g' = false → g = false ∧ o' = o ∧ ∀ z : Nat, q ≤ z → z < ps.length → ∀ j : Nat, j < n → rd o (rd (rd_L1 ps z) j) = rd o j)
  | 0, q, o, g, hd, hi, ho => by
    refine ⟨o, g, ho, fun r h => Ev.s ?_, by omega, fun h => .inl h, fun h => ⟨h, rfl, fun j h1 h2 => by omega⟩⟩
    simp only [impl_orbits.l1, show ¬ (q : Int) < (ps.length : Int) by omega, if_false]
    exact h
  | d + 1, q, o, g, hd, hi, ho => by
    have hlt : q < ps.length := by omega
    have hd1 : ps.length - (q + 1) = d := by omega
    have hP : rd_L1 ps q ∈ ps := by rw [rdL_nth ps q hlt]; exact List.getElem_mem hlt
    obtain ⟨pl, pr⟩ := hp _ hP
    obtain ⟨o1, b1, c1, c2, c3, c4, c5⟩ := implOrb_in ps n hn q hlt hL _ hP pl pr n 0 o g (by omega) (by omega) ho
    obtain ⟨o2, b2, e1, e2, e3, e4, e5⟩ := implOrb_pass ps n hn hL hp d (q + 1) o1 b1 hd1 hlt c1
    refine ⟨o2, b2, e1, fun r h => Ev.s ?_, by omega, fun h => ?_, fun h => ?_⟩
    · simp only [impl_orbits.l1, show (q : Int) < (ps.length : Int) by omega, show (0 : Int) ≤ (q : Int) by omega, if_true, pl]
      exact c2 r (e2 r h)
    · rcases e4 h with z | z
      · rcases c4 z with y | y
        · exact .inl y
        · exact .inr (by omega)
      · exact .inr (by omega)
    · obtain ⟨f1, f2, f3⟩ := e5 h
      obtain ⟨g1, g2, g3⟩ := c5 f1
      refine ⟨g1, f2.trans g2, fun z hz hz' j hj => ?_⟩
      by_cases e : z = q
      · rw [e]; exact g3 j (by omega) hj
      · have := f3 z (by omega) hz' j hj
        rwa [g2] at this
theorem implOrb_loop (ps : List (List Int)) (n : Nat) (hn : n ≤ 12) (hL : ps.length ≤ 1048576) (hp : ∀ p ∈ ps, inR n p) : ∀ (m : Nat) (o : List Int), tot o ≤ m → orbI ps n o → ∃ o', orbOk ps n o' ∧ Ev (fun k => impl_orbits.l0 k ps o true) o' := by
  intro m
  induction m using Nat.strongRecOn with
  | _ m ih =>
    intro o hm ho
    obtain ⟨o1, g1, c1, c2, c3, c4, c5⟩ := implOrb_pass ps n hn hL hp ps.length 0 o false (by omega) (by omega) ho
    cases g1 with
    | false =>
      obtain ⟨_, e2, e3⟩ := c5 rfl
      refine ⟨o, ⟨ho, fun p hp' i hi => ?_⟩, Ev.s ?_⟩
      · obtain ⟨z, hz, rfl⟩ := List.mem_iff_getElem.1 hp'
        have := e3 z (by omega) hz i hi
        rwa [rdL_nth ps z hz] at this
      · simp only [impl_orbits.l0, if_true]
        refine c2 o (Ev.s ?_)
        simp only [impl_orbits.l0, Bool.false_eq_true, if_false]
        exact Ev.const (by rw [e2])
    | true =>
      have hlt : tot o1 < tot o := by
        rcases c4 rfl with z | z
        · cases z
        · exact z
      have h0 := tot_nonneg o1 fun i hi => (c1.2 i (by rw [← c1.1]; exact hi)).1
      obtain ⟨o', h1, h2⟩ := ih (tot o1).toNat (by omega) o1 (by omega) c1
      refine ⟨o', h1, Ev.s ?_⟩
      simp only [impl_orbits.l0, if_true]
      exact c2 o' h2
theorem implOrb_ev (ps : List (List Int)) (n : Nat) (hn : n ≤ 12) (h0 : 0 < ps.length) (hL : ps.length ≤ 1048576) (hp : ∀ p ∈ ps, inR n p) : ∃ o, orbOk ps n o ∧ Ev (fun k => impl_orbits.f k ps) o := by
  obtain ⟨o, h1, h2⟩ := implOrb_loop ps n hn hL hp (tot (stl n)).toNat (stl n) (by have := tot_nonneg (stl n) (fun i hi => by rw [stl_rd n i (by rwa [stl_length] at hi)]; omega); omega) (stl_orbI ps n)
  refine ⟨o, h1, ?_⟩
  unfold impl_orbits.f
  have hz : (rd_L1 ps 0).length = n := by
    have := rdL_nth ps 0 h0
    rw [show ((0 : Nat) : Int) = 0 from rfl] at this
    rw [this]
    exact (hp _ (List.getElem_mem h0)).1
  simp only [show (0 : Int) < (ps.length : Int) by omega, if_true, hz]
  exact Ev.bind (still_ev n (by omega)) h2
def lag (o g : List Int) : Nat → Nat
  | 0 => 0
  | i + 1 => (if rd o i = rd g i then 0 else 1) + lag o g i
theorem lag_le (o g : List Int) : ∀ i, lag o g i ≤ i
  | 0 => Nat.le_refl _
  | i + 1 => by have := lag_le o g i; simp only [lag]; split <;> omega
theorem lag_zero (o g : List Int) : ∀ n, lag o g n = 0 → ∀ i, i < n → rd o i = rd g i
  | 0, _, i, h => by omega
  | n + 1, hz, i, h => by
    simp only [lag] at hz
    by_cases e : i = n
    · subst e
      by_cases c : rd o i = rd g i
      · exact c
      · rw [if_neg c] at hz; omega
    · exact lag_zero o g n (by omega) i (by omega)
theorem lag_mono (o o' g : List Int) (h : ∀ i : Nat, rd o i = rd g i → rd o' i = rd g i) : ∀ n, lag o' g n ≤ lag o g n
  | 0 => Nat.le_refl _
  | n + 1 => by
    have ih := lag_mono o o' g h n
    simp only [lag]
    by_cases c : rd o n = rd g n
    · rw [if_pos c, if_pos (h n c)]; omega
    · rw [if_neg c]; split <;> omega
theorem lag_lt (o o' g : List Int) (h : ∀ i : Nat, rd o i = rd g i → rd o' i = rd g i) (z : Nat) (hz : rd o z ≠ rd g z) (hz' : rd o' z = rd g z) : ∀ n, z < n → lag o' g n < lag o g n
  | 0, hn => by omega
  | n + 1, hn => by
    simp only [lag]
    by_cases e : z = n
    · subst e
      have := lag_mono o o' g h z
      rw [if_neg hz, if_pos hz']; omega
    · have ih := lag_lt o o' g h z hz hz' n (by omega)
      by_cases c : rd o n = rd g n
      · rw [if_pos c, if_pos (h n c)]; omega
      · rw [if_neg c]; split <;> omega
theorem mn_eq (a b : Int) : mn a b = if a ≤ b then a else b := by unfold mn; split <;> split <;> omega
theorem specOrb_sweep (t f : List Int) (n : Nat) (hn : n ≤ 12) (ht : inR n t) (hf : inR n f) (g : List Int) (hg : orbOk [t, f] n g) (round : Int) : ∀ (d i : Nat) (o : List Int), n - i = d → i ≤ n → orbI [t, f] n o →
    ∃ o', orbI [t, f] n o' ∧ (∀ r, Ev (fun k => spec_l1Orbits.l0 k t f o' (wrap64 (round + 1))) r → Ev (fun k => spec_l1Orbits.l1 k t f o round i) r) ∧ (∀ z : Nat, z < n → rd o z = rd g z → rd o' z = rd g z) ∧
      (∀ j : Nat, i ≤ j → j < n → (rd o j = rd g j ∨ rd o (rd t j) = rd g (rd t j) ∨ rd o (rd f j) = rd g (rd f j)) → rd o' j = rd g j ∧ rd o' (rd t j) = rd g (rd t j) ∧ rd o' (rd f j) = rd g (rd f j))
  | 0, i, o, hd, hi, ho => by
    refine ⟨o, ho, fun r h => Ev.s ?_, fun z _ h => h, fun j h1 h2 => by omega⟩
    simp only [spec_l1Orbits.l1, ht.1, show ¬ (i : Int) < (n : Int) by omega, if_false]
    exact h
  | d + 1, i, o, hd, hi, ho => by
    have hlt : i < n := by omega
    have hd1 : n - (i + 1) = d := by omega
    have hw : wrap64 ((i : Int) + 1) = ((i + 1 : Nat) : Int) := by rw [w64 (by omega) (by omega)]; omega
    have hps : ∀ p ∈ [t, f], inR n p := by intro p hp; simp at hp; rcases hp with rfl | rfl <;> assumption
    have hra := ht.2 i hlt
    have hrb := hf.2 i hlt
    have sta := Reach.step (ps := [t, f]) (p := t) (by simp) hlt
    have stb := Reach.step (ps := [t, f]) (p := f) (by simp) hlt
    have ca := hg.2 t (by simp) i hlt
    have cb := hg.2 f (by simp) i hlt
    obtain ⟨a, hta⟩ : ∃ a : Nat, rd t i = a := ⟨(rd t i).toNat, by omega⟩
    obtain ⟨b, hfb⟩ : ∃ b : Nat, rd f i = b := ⟨(rd f i).toNat, by omega⟩
    rw [hta, Int.toNat_natCast] at sta
    rw [hfb, Int.toNat_natCast] at stb
    rw [hta] at ca
    rw [hfb] at cb
    have han : a < n := by omega
    have hbn : b < n := by omega
    have hlen := ho.1
    obtain ⟨i0, i1, i2⟩ := ho.2 i hlt
    obtain ⟨a0, a1, a2⟩ := ho.2 a han
    obtain ⟨b0, b1, b2⟩ := ho.2 b hbn
    have li := orbOk_le hg ho hps hlt
    have la := orbOk_le hg ho hps han
    have lb := orbOk_le hg ho hps hbn
    obtain ⟨v, hv⟩ : ∃ v, mn (rd o i) (mn (rd o a) (rd o b)) = v := ⟨_, rfl⟩
    have hvm : v ≤ rd o i ∧ v ≤ rd o a ∧ v ≤ rd o b ∧ (v = rd o i ∨ v = rd o a ∨ v = rd o b) := by
      rw [← hv, mn_eq, mn_eq]
      split <;> split at * <;> omega
    have hv0 : 0 ≤ v := by omega
    have hrv : Reach [t, f] n v.toNat i := by
      rcases hvm.2.2.2 with e | e | e
      · rw [e]; exact i2
      · rw [e]; exact a2.trans sta.symm
      · rw [e]; exact b2.trans stb.symm
    have ho1 := orbI_put ho hlt hv0 (by omega) hrv
    have ho2 := orbI_put ho1 han hv0 (by omega) (hrv.trans sta)
    have ho3 := orbI_put ho2 hbn hv0 (by omega) (hrv.trans stb)
    obtain ⟨o3, ho3e⟩ : ∃ o3, ((o.set i v).set a v).set b v = o3 := ⟨_, rfl⟩
    rw [ho3e] at ho3
    have rdo3 : ∀ z : Nat, rd o3 z = if z = i ∨ z = a ∨ z = b then v else rd o z := by
      intro z
      rw [← ho3e]
      by_cases z3 : b = z
      · subst z3; rw [rd_set_self _ _ _ (by simp; omega)]; simp
      · rw [rd_set_ne _ _ _ _ z3]
        by_cases z2 : a = z
        · subst z2; rw [rd_set_self _ _ _ (by simp; omega)]; simp
        · rw [rd_set_ne _ _ _ _ z2]
          by_cases z1 : i = z
          · subst z1; rw [rd_set_self _ _ _ (by omega)]; simp
          · rw [rd_set_ne _ _ _ _ z1, if_neg (by omega)]
    have keep3 : ∀ z : Nat, z < n → rd o z = rd g z → rd o3 z = rd g z := by
      intro z hz e
      have l3 := orbOk_le hg ho3 hps hz
      rw [rdo3 z] at l3 ⊢
      by_cases c : z = i ∨ z = a ∨ z = b
      · rw [if_pos c] at l3 ⊢
        have : v ≤ rd o z := by rcases c with rfl | rfl | rfl <;> omega
        omega
      · rw [if_neg c]; exact e
    obtain ⟨o', c1, c2, c3, c4⟩ := specOrb_sweep t f n hn ht hf g hg round d (i + 1) o3 hd1 hlt ho3
    refine ⟨o', c1, fun r h => Ev.s ?_, fun z hz e => c3 z hz (keep3 z hz e), fun j h1 h2 hj => ?_⟩
    · have hgo := c2 r h
      have g1 : (i : Int) < (n : Int) := by omega
      have g2 : (0 : Int) ≤ (i : Int) := by omega
      have g3 : (0 : Int) ≤ (a : Int) := by omega
      have g4 : (a : Int) < (n : Int) := by omega
      have g5 : (0 : Int) ≤ (b : Int) := by omega
      have g6 : (b : Int) < (n : Int) := by omega
      simp only [spec_l1Orbits.l1, ht.1, hf.1, hlen, g1, g2, g3, g4, g5, g6, hta, hfb, hv, if_true, hw, Int.toNat_natCast, ho3e]
      exact hgo
    · by_cases e : j = i
      · subst e
        have l3 := orbOk_le hg ho3 hps hlt
        have e3 : rd o3 j = v := by rw [rdo3 j, if_pos (.inl rfl)]
        have ea3 : rd o3 a = v := by rw [rdo3 a, if_pos (.inr (.inl rfl))]
        have eb3 : rd o3 b = v := by rw [rdo3 b, if_pos (.inr (.inr rfl))]
        rw [hta, hfb] at hj ⊢
        have hvg : v = rd g j := by
          rcases hj with z | z | z <;> omega
        exact ⟨c3 j hlt (by omega), c3 a han (by omega), c3 b hbn (by omega)⟩
      · refine c4 j (by omega) h2 ?_
        have hta' := ht.2 j h2
        have hfb' := hf.2 j h2
        obtain ⟨a', ha'⟩ : ∃ a' : Nat, rd t j = a' := ⟨(rd t j).toNat, by omega⟩
        obtain ⟨b', hb'⟩ : ∃ b' : Nat, rd f j = b' := ⟨(rd f j).toNat, by omega⟩
        rw [ha', hb'] at hj ⊢
        rcases hj with z | z | z
        · exact .inl (keep3 j h2 z)
        · exact .inr (.inl (keep3 a' (by omega) z))
        · exact .inr (.inr (keep3 b' (by omega) z))
theorem specOrb_loop (t f : List Int) (n : Nat) (hn : n ≤ 12) (ht : inR n t) (hf : inR n f) (g : List Int) (hg : orbOk [t, f] n g) : ∀ (d i : Nat) (o : List Int), n - i = d → i ≤ n → orbI [t, f] n o → lag o g n ≤ d → Ev (fun k => spec_l1Orbits.l0 k t f o i) g
  | 0, i, o, hd, hi, ho, hl => by
    refine Ev.s ?_
    simp only [spec_l1Orbits.l0, ht.1, show ¬ (i : Int) < (n : Int) by omega, if_false]
    have : o = g := list_ext o g (ho.1.trans hg.1.1.symm) fun z hz => lag_zero o g n (by omega) z (by rw [← ho.1]; exact hz)
    exact Ev.const (by rw [this])
  | d + 1, i, o, hd, hi, ho, hl => by
    have hlt : i < n := by omega
    have hd1 : n - (i + 1) = d := by omega
    have hw : wrap64 ((i : Int) + 1) = ((i + 1 : Nat) : Int) := by rw [w64 (by omega) (by omega)]; omega
    have hps : ∀ p ∈ [t, f], inR n p := by intro p hp; simp at hp; rcases hp with rfl | rfl <;> assumption
    obtain ⟨o', c1, c2, c3, c4⟩ := specOrb_sweep t f n hn ht hf g hg i n 0 o (by omega) (by omega) ho
    refine Ev.s ?_
    simp only [spec_l1Orbits.l0, ht.1, show (i : Int) < (n : Int) by omega, if_true]
    refine c2 g ?_
    rw [hw]
    refine specOrb_loop t f n hn ht hf g hg d (i + 1) o' hd1 hlt c1 ?_
    have hout : ∀ z : Nat, ¬ z < n → rd o z = rd o' z := by
      intro z hz
      unfold rd
      rw [Int.toNat_natCast, List.getD_eq_getElem?_getD, List.getD_eq_getElem?_getD, List.getElem?_eq_none (by rw [ho.1]; omega), List.getElem?_eq_none (by rw [c1.1]; omega)]
    have keep : ∀ z : Nat, rd o z = rd g z → rd o' z = rd g z := fun z e => by
      by_cases hz : z < n
      · exact c3 z hz e
      · rw [← hout z hz]; exact e
    by_cases hz : lag o g n = 0
    · have := lag_mono o o' g keep n
      omega
    · -- some point has not its label: some step leads from one that has it to one that has it not
      have hex : ∃ z : Nat, z < n ∧ rd o z ≠ rd g z ∧ rd o' z = rd g z := by
        refine Classical.byContradiction fun hno => ?_
        have hsame : ∀ z : Nat, z < n → (rd o z = rd g z ↔ rd o' z = rd g z) := fun z hz => ⟨keep z, fun e => Classical.byContradiction fun hne => hno ⟨z, hz, hne, e⟩⟩
        have hcl : closedL [t, f] n (fun z => rd o z = rd g z) := by
          intro p hp k hk
          have hr := (hps p hp).2 k hk
          obtain ⟨a, ha⟩ : ∃ a : Nat, rd p k = a := ⟨(rd p k).toNat, by omega⟩
          have han : a < n := by omega
          rw [ha, Int.toNat_natCast]
          show rd o k = rd g k ↔ rd o a = rd g a
          have h4 := c4 k (by omega) hk
          simp at hp
          rcases hp with rfl | rfl
          · rw [ha] at h4
            exact ⟨fun e => (hsame a han).2 (h4 (.inl e)).2.1, fun e => (hsame k hk).2 (h4 (.inr (.inl e))).1⟩
          · rw [ha] at h4
            exact ⟨fun e => (hsame a han).2 (h4 (.inl e)).2.2, fun e => (hsame k hk).2 (h4 (.inr (.inr e))).1⟩
        have hall : ∀ z : Nat, z < n → rd o z = rd g z := by
          intro z hz
          obtain ⟨g0, g1, g2⟩ := hg.1.2 z hz
          have hm : (rd g z).toNat < n := by omega
          have e1 : ((rd g z).toNat : Int) = rd g z := by omega
          have hgm : rd g ((rd g z).toNat : Nat) = rd g z := orbOk_const hg hps g2
          have hom : rd o ((rd g z).toNat : Nat) = rd g ((rd g z).toNat : Nat) := by
            have h1 := orbOk_le hg ho hps hm
            have h2 := (ho.2 _ hm).2.1
            omega
          exact (g2 _ hcl).1 hom
        have : lag o g n = 0 := by
          have hz0 : ∀ m, m ≤ n → lag o g m = 0 := by
            intro m
            induction m with
            | zero => intro _; rfl
            | succ m ih => intro hm; simp only [lag]; rw [if_pos (hall m (by omega)), ih (by omega)]
          exact hz0 n (Nat.le_refl _)
        exact hz this
      obtain ⟨z, z1, z2, z3⟩ := hex
      have := lag_lt o o' g keep z z2 z3 n z1
      omega
theorem orb_both (t f : List Int) (n : Nat) (hn : n ≤ 12) (h1 : 1 ≤ n) (ht : inR n t) (hf : inR n f) : ∃ o, orbOk [t, f] n o ∧ Ev (fun k => spec_l1Orbits.f k t f) o ∧ Ev (fun k => impl_orbits.f k [t, f]) o := by
  have hps : ∀ p ∈ [t, f], inR n p := by intro p hp; simp at hp; rcases hp with rfl | rfl <;> assumption
  obtain ⟨o, ho, he⟩ := implOrb_ev [t, f] n hn (by simp) (by simp) hps
  refine ⟨o, ho, ?_, he⟩
  unfold spec_l1Orbits.f
  rw [ht.1]
  refine Ev.bind (same_ev n (by omega)) ?_
  refine specOrb_loop t f n hn ht hf o ho n 0 (stl n) (by omega) (by omega) (stl_orbI _ n) ?_
  exact lag_le _ _ n
theorem isPerm_inR (l : List Int) (h : isPerm l) : inR l.length l := ⟨rfl, fun i hi => ⟨(h.2.2 i hi).1, (h.2.2 i hi).2.1⟩⟩
def flipAt (f : List Int) (i : Nat) : Prop := rd f i ≠ i ∧ rd f (rd f i) = i
def isMap (t f : List Int) : Prop := isPerm t ∧ isPerm f ∧ t.length = f.length ∧ (∀ i : Nat, i < f.length → flipAt f i) ∧ ∀ i j : Nat, i < f.length → j < f.length → Reach [t, f] f.length i j
def maxF : List Int → Int → Int
  | [], m => m
  | x :: xs, m => maxF xs (mx m x)
theorem maxF_zero : ∀ (l : List Int) (m : Int), 0 ≤ m → (∀ x ∈ l, 0 ≤ x) → 0 ≤ maxF l m ∧ (maxF l m = 0 ↔ m = 0 ∧ ∀ x ∈ l, x = 0)
  | [], m, hm, _ => by simp [maxF, hm]
  | x :: xs, m, hm, hx => by
    have hx0 := hx x (by simp)
    have hmx : 0 ≤ mx m x ∧ (mx m x = 0 ↔ m = 0 ∧ x = 0) := by unfold mx; split <;> omega
    obtain ⟨h1, h2⟩ := maxF_zero xs (mx m x) hmx.1 fun y hy => hx y (by simp [hy])
    refine ⟨h1, ?_⟩
    simp only [maxF, h2, hmx.2, List.mem_cons, forall_eq_or_imp, and_assoc]
theorem max_run (l : List Int) (hl : l.length ≤ 1048576) : ∀ (d i : Nat) (m : Int), l.length - i = d → i ≤ l.length → Ev (fun k => slices_Max_int_int.l0 k l m i) (maxF (l.drop i) m)
  | 0, i, m, hd, hi => by
    refine Ev.s ?_
    simp only [slices_Max_int_int.l0, show ¬ (i : Int) < (l.length : Int) by omega, if_false]
    rw [List.drop_eq_nil_of_le (by omega)]
    exact Ev.const rfl
  | d + 1, i, m, hd, hi => by
    have hlt : i < l.length := by omega
    refine Ev.s ?_
    simp only [slices_Max_int_int.l0, show (i : Int) < (l.length : Int) by omega, show (0 : Int) ≤ (i : Int) by omega, if_true]
    rw [w64 (x := (i : Int) + 1) (by omega) (by omega), show ((i : Int) + 1) = ((i + 1 : Nat) : Int) by omega, List.drop_eq_getElem_cons hlt, rd_lt l i hlt]
    exact max_run l hl d (i + 1) _ (by omega) (by omega)
theorem max_ev (l : List Int) (hl : l.length ≤ 1048576) (h1 : 1 ≤ l.length) (h0 : ∀ x ∈ l, 0 ≤ x) : ∃ m, Ev (fun k => slices_Max_int_int.f k l) m ∧ (m = 0 ↔ ∀ x ∈ l, x = 0) := by
  cases l with
  | nil => simp at h1
  | cons x xs =>
    refine ⟨maxF xs x, ?_, ?_⟩
    · unfold slices_Max_int_int.f
      simp only [show ¬ (((x :: xs).length : Nat) : Int) < 1 by omega, show (0 : Int) < (((x :: xs).length : Nat) : Int) by omega, if_true, if_false]
      exact max_run (x :: xs) hl _ 1 x rfl h1
    · rw [(maxF_zero xs x (h0 x (by simp)) fun y hy => h0 y (by simp [hy])).2]
      simp
theorem specFlip_run (t f : List Int) (hf : isPerm f) : ∀ (d i : Nat), f.length - i = d → i ≤ f.length →
    ((∀ q : Nat, i ≤ q → q < f.length → flipAt f q) → ∀ r, Ev (fun k => (spec_l1Orbits.f k t f).bind fun o => spec_MapValid.l1 k o 0) r → Ev (fun k => spec_MapValid.l0 k i t f) r) ∧ (¬ (∀ q : Nat, i ≤ q → q < f.length → flipAt f q) → Ev (fun k => spec_MapValid.l0 k i t f) false)
  | 0, i, hd, hi => by
    refine ⟨fun _ r h => Ev.s ?_, fun h => absurd (fun q h1 h2 => by omega) h⟩
    simp only [spec_MapValid.l0, show ¬ (i : Int) < (f.length : Int) by omega, if_false]
    exact h
  | d + 1, i, hd, hi => by
    have hlt : i < f.length := by omega
    have hl12 := hf.2.1
    have hr := (isPerm_inR f hf).2 i hlt
    have ih := specFlip_run t f hf d (i + 1) (by omega) (by omega)
    have hw : wrap64 ((i : Int) + 1) = ((i + 1 : Nat) : Int) := by rw [w64 (by omega) (by omega)]; omega
    have g1 : (i : Int) < (f.length : Int) := by omega
    have g2 : (0 : Int) ≤ (i : Int) := by omega
    by_cases c1 : rd f i = i
    · refine ⟨fun h => absurd c1 (h i (Nat.le_refl _) hlt).1, fun h => Ev.s ?_⟩
      simp only [spec_MapValid.l0, g1, g2, c1, if_true]
      exact Ev.const rfl
    · by_cases c2 : rd f (rd f i) = i
      · refine ⟨fun h r hr' => Ev.s ?_, fun h => Ev.s ?_⟩
        · simp only [spec_MapValid.l0, g1, g2, c1, c2, hr.1, hr.2, if_true, if_false, hw]
          exact ih.1 (fun q h1 h2 => h q (by omega) h2) r hr'
        · simp only [spec_MapValid.l0, g1, g2, c1, c2, hr.1, hr.2, if_true, if_false, hw]
          refine ih.2 fun h' => h fun q h1 h2 => ?_
          by_cases e : q = i
          · rw [e]; exact ⟨c1, c2⟩
          · exact h' q (by omega) h2
      · refine ⟨fun h => absurd (h i (Nat.le_refl _) hlt).2 c2, fun h => Ev.s ?_⟩
        simp only [spec_MapValid.l0, g1, g2, c1, c2, hr.1, hr.2, if_true, if_false]
        exact Ev.const rfl
theorem implFlip_run (t f : List Int) (hf : isPerm f) : ∀ (d i : Nat), f.length - i = d → i ≤ f.length →
    ((∀ q : Nat, i ≤ q → q < f.length → flipAt f q) → ∀ r, Ev (fun k => (impl_orbits.f k [t, f]).bind fun o => (slices_Max_int_int.f k o).bind fun m => some (m == 0)) r → Ev (fun k => impl_MapValid.l0 k f f.length i t f) r) ∧ (¬ (∀ q : Nat, i ≤ q → q < f.length → flipAt f q) → Ev (fun k => impl_MapValid.l0 k f f.length i t f) false)
  | 0, i, hd, hi => by
    refine ⟨fun _ r h => Ev.s ?_, fun h => absurd (fun q h1 h2 => by omega) h⟩
    simp only [impl_MapValid.l0, show ¬ (i : Int) < (f.length : Int) by omega, if_false]
    exact h
  | d + 1, i, hd, hi => by
    have hlt : i < f.length := by omega
    have hl12 := hf.2.1
    have hr := (isPerm_inR f hf).2 i hlt
    have ih := implFlip_run t f hf d (i + 1) (by omega) (by omega)
    have hw : wrap64 ((i : Int) + 1) = ((i + 1 : Nat) : Int) := by rw [w64 (by omega) (by omega)]; omega
    have g1 : (i : Int) < (f.length : Int) := by omega
    have g2 : (0 : Int) ≤ (i : Int) := by omega
    by_cases c1 : rd f i = i
    · refine ⟨fun h => absurd c1 (h i (Nat.le_refl _) hlt).1, fun h => Ev.s ?_⟩
      simp only [impl_MapValid.l0, g1, g2, c1, if_true]
      exact Ev.const rfl
    · by_cases c2 : rd f (rd f i) = i
      · refine ⟨fun h r hr' => Ev.s ?_, fun h => Ev.s ?_⟩
        · simp only [impl_MapValid.l0, g1, g2, c1, c2, hr.1, hr.2, if_true, if_false, hw]
          exact ih.1 (fun q h1 h2 => h q (by omega) h2) r hr'
        · simp only [impl_MapValid.l0, g1, g2, c1, c2, hr.1, hr.2, if_true, if_false, hw]
          refine ih.2 fun h' => h fun q h1 h2 => ?_
          by_cases e : q = i
          · rw [e]; exact ⟨c1, c2⟩
          · exact h' q (by omega) h2
      · refine ⟨fun h => absurd (h i (Nat.le_refl _) hlt).2 c2, fun h => Ev.s ?_⟩
        simp only [impl_MapValid.l0, g1, g2, c1, c2, hr.1, hr.2, if_true, if_false]
        exact Ev.const rfl
theorem zero_run (o : List Int) (hl : o.length ≤ 1048576) : ∀ (d i : Nat), o.length - i = d → i ≤ o.length →
    ((∀ q : Nat, i ≤ q → q < o.length → rd o q = 0) → Ev (fun k => spec_MapValid.l1 k o i) true) ∧ (¬ (∀ q : Nat, i ≤ q → q < o.length → rd o q = 0) → Ev (fun k => spec_MapValid.l1 k o i) false)
  | 0, i, hd, hi => by
    refine ⟨fun _ => Ev.s ?_, fun h => absurd (fun q h1 h2 => by omega) h⟩
    simp only [spec_MapValid.l1, show ¬ (i : Int) < (o.length : Int) by omega, if_false]
    exact Ev.const rfl
  | d + 1, i, hd, hi => by
    have hlt : i < o.length := by omega
    have ih := zero_run o hl d (i + 1) (by omega) (by omega)
    have hw : wrap64 ((i : Int) + 1) = ((i + 1 : Nat) : Int) := by rw [w64 (by omega) (by omega)]; omega
    have g1 : (i : Int) < (o.length : Int) := by omega
    have g2 : (0 : Int) ≤ (i : Int) := by omega
    by_cases c : rd o i = 0
    · refine ⟨fun h => Ev.s ?_, fun h => Ev.s ?_⟩
      · simp only [spec_MapValid.l1, g1, g2, c, if_true, hw]
        exact ih.1 fun q h1 h2 => h q (by omega) h2
      · simp only [spec_MapValid.l1, g1, g2, c, if_true, hw]
        refine ih.2 fun h' => h fun q h1 h2 => ?_
        by_cases e : q = i
        · rw [e]; exact c
        · exact h' q (by omega) h2
    · refine ⟨fun h => absurd (h i (Nat.le_refl _) hlt) c, fun h => Ev.s ?_⟩
      simp only [spec_MapValid.l1, g1, g2, c, if_true, if_false]
      exact Ev.const rfl
theorem orb_zero (t f : List Int) (n : Nat) (h1 : 1 ≤ n) (ht : inR n t) (hf : inR n f) (o : List Int) (ho : orbOk [t, f] n o) : (∀ q : Nat, q < n → rd o q = 0) ↔ ∀ i j : Nat, i < n → j < n → Reach [t, f] n i j := by
  have hps : ∀ p ∈ [t, f], inR n p := by intro p hp; simp at hp; rcases hp with rfl | rfl <;> assumption
  constructor
  · intro h i j hi hj
    have e1 := (ho.1.2 i hi).2.2
    have e2 := (ho.1.2 j hj).2.2
    rw [h i hi] at e1
    rw [h j hj] at e2
    exact e1.symm.trans e2
  · intro h q hq
    have := orbOk_const ho hps (h q 0 hq (by omega))
    have h0 := ho.1.2 0 (by omega)
    omega
theorem mapValid_both (t f : List Int) (ht : t.length ≤ 1048576) (hf : f.length ≤ 1048576) : ∃ b : Bool, Ev (fun k => spec_MapValid.f k t f) b ∧ Ev (fun k => impl_MapValid.f k t f) b ∧ (b = true ↔ isMap t f) := by
  obtain ⟨bt, t1, t2, t3⟩ := permValid_both t ht
  obtain ⟨bf, f1, f2, f3⟩ := permValid_both f hf
  have hb : ∀ b : Bool, (∃ c : Bool, Ev (fun k => spec_l1Both.f k t f) c ∧ (c = true ↔ isPerm t ∧ isPerm f ∧ t.length = f.length)) := fun _ => by
    unfold spec_l1Both.f
    cases bt with
    | false => exact ⟨false, Ev.bind t1 (Ev.const rfl), ⟨fun h => (by cases h), fun h => absurd (t3.2 h.1) (by decide)⟩⟩
    | true =>
      cases bf with
      | false => exact ⟨false, Ev.bind t1 (by simp only [if_true]; exact Ev.bind f1 (Ev.const rfl)), ⟨fun h => (by cases h), fun h => absurd (f3.2 h.2.1) (by decide)⟩⟩
      | true => exact ⟨((t.length : Int) == (f.length : Int)), Ev.bind t1 (by simp only [if_true]; exact Ev.bind f1 (Ev.const rfl)), ⟨fun h => ⟨t3.1 rfl, f3.1 rfl, by have := beq_iff_eq.1 h; omega⟩, fun h => by rw [beq_iff_eq]; omega⟩⟩
  obtain ⟨c, c1, c2⟩ := hb true
  by_cases hall : isPerm t ∧ isPerm f ∧ t.length = f.length
  · obtain ⟨pt, pf, hlen⟩ := hall
    have hc : c = true := c2.2 ⟨pt, pf, hlen⟩
    subst hc
    have hbt : bt = true := t3.2 pt
    have hbf : bf = true := f3.2 pf
    subst hbt; subst hbf
    have hne : (((t.length : Int)) != (f.length : Int)) = false := by rw [bne_eq_false_iff_eq]; omega
    have hrt : inR f.length t := by have := isPerm_inR t pt; rwa [hlen] at this
    have hrf := isPerm_inR f pf
    obtain ⟨o, o1, o2, o3⟩ := orb_both t f f.length pf.2.1 pf.1 hrt hrf
    have hS : ∀ r, Ev (fun k => spec_MapValid.l0 k 0 t f) r → Ev (fun k => spec_MapValid.f k t f) r := fun r h => by
      unfold spec_MapValid.f
      refine Ev.bind c1 ?_
      simp only [if_true]
      exact h
    have hI : ∀ r, Ev (fun k => impl_MapValid.l0 k f f.length 0 t f) r → Ev (fun k => impl_MapValid.f k t f) r := fun r h => by
      unfold impl_MapValid.f
      refine Ev.bind t2 ?_
      simp only [if_true]
      refine Ev.bind f2 ?_
      simp only [if_true, hne]
      refine Ev.s ?_
      simp only [impl_MapValid.j0, Bool.false_eq_true, if_false]
      exact h
    have sF := specFlip_run t f pf f.length 0 (by omega) (by omega)
    have iF := implFlip_run t f pf f.length 0 (by omega) (by omega)
    by_cases hfl : ∀ q : Nat, 0 ≤ q → q < f.length → flipAt f q
    · have zr := zero_run o (by rw [o1.1.1]; omega) o.length 0 (by omega) (by omega)
      have oz := orb_zero t f f.length pf.1 hrt hrf o o1
      obtain ⟨m, m1, m2⟩ := max_ev o (by rw [o1.1.1]; omega) (by rw [o1.1.1]; exact pf.1) (fun x hx => by
        obtain ⟨i, hi, rfl⟩ := List.mem_iff_getElem.1 hx
        have := (o1.1.2 i (by rw [← o1.1.1]; exact hi)).1
        rwa [rd_lt o i hi] at this)
      have hmz : m = 0 ↔ ∀ q : Nat, 0 ≤ q → q < o.length → rd o q = 0 := by
        rw [m2]
        constructor
        · intro h q _ hq
          rw [rd_lt o q hq]
          exact h _ (List.getElem_mem hq)
        · intro h x hx
          obtain ⟨i, hi, rfl⟩ := List.mem_iff_getElem.1 hx
          have := h i (by omega) hi
          rwa [rd_lt o i hi] at this
      by_cases hz : ∀ q : Nat, 0 ≤ q → q < o.length → rd o q = 0
      · refine ⟨true, hS _ (sF.1 hfl _ (Ev.bind o2 (zr.1 hz))), hI _ (iF.1 hfl _ (Ev.bind o3 (Ev.bind m1 (Ev.const ?_)))), ?_⟩
        · rw [hmz.2 hz]; rfl
        · refine ⟨fun _ => ⟨pt, pf, hlen, fun i hi => hfl i (by omega) hi, oz.1 fun q hq => hz q (by omega) (by rw [o1.1.1]; exact hq)⟩, fun _ => rfl⟩
      · refine ⟨false, hS _ (sF.1 hfl _ (Ev.bind o2 (zr.2 hz))), hI _ (iF.1 hfl _ (Ev.bind o3 (Ev.bind m1 (Ev.const ?_)))), ?_⟩
        · have : ¬ m = 0 := fun e => hz (hmz.1 e)
          simp [this]
        · exact ⟨fun h => (by cases h), fun h => absurd (fun q _ hq => oz.2 h.2.2.2.2 q (by rw [← o1.1.1]; exact hq)) hz⟩
    · exact ⟨false, hS _ (sF.2 hfl), hI _ (iF.2 hfl), ⟨fun h => (by cases h), fun h => absurd (fun q _ hq => h.2.2.2.1 q hq) hfl⟩⟩
  · have hc : c = false := by
      cases c with
      | false => rfl
      | true => exact absurd (c2.1 rfl) hall
    subst hc
    refine ⟨false, ?_, ?_, ⟨fun h => (by cases h), fun h => absurd ⟨h.1, h.2.1, h.2.2.1⟩ hall⟩⟩
    · unfold spec_MapValid.f
      exact Ev.bind c1 (Ev.const rfl)
    · have hj : Ev (fun k => impl_MapValid.j0 k true t f) false := by
        refine Ev.s ?_
        simp only [impl_MapValid.j0, if_true]
        exact Ev.const rfl
      unfold impl_MapValid.f
      refine Ev.bind t2 ?_
      cases bt with
      | false => simp only [Bool.false_eq_true, if_false]; exact hj
      | true =>
        simp only [if_true]
        refine Ev.bind f2 ?_
        cases bf with
        | false => simp only [Bool.false_eq_true, if_false]; exact hj
        | true =>
          have hne : (((t.length : Int)) != (f.length : Int)) = true := by
            rw [bne_iff_ne]
            intro e
            exact hall ⟨t3.1 rfl, f3.1 rfl, by omega⟩
          simp only [if_true, hne]
          exact hj
def edL (f : List Int) : Nat → List Int
  | 0 => []
  | i + 1 => if (i : Int) < rd f i then edL f i ++ [(i : Int)] else edL f i
def geL (f : List Int) (n : Nat) : Nat → List Int
  | 0 => List.replicate n 0
  | i + 1 => if (i : Int) < rd f i then ((geL f n i).set i ((edL f i).length : Int)).set (rd f i).toNat ((edL f i).length : Int) else geL f n i
theorem edL_le (f : List Int) : ∀ i, (edL f i).length ≤ i
  | 0 => Nat.le_refl _
  | i + 1 => by
    have ih := edL_le f i
    simp only [edL]
    split
    · simp only [List.length_append, List.length_cons, List.length_nil]; omega
    · omega
theorem geL_len (f : List Int) (n : Nat) : ∀ i, (geL f n i).length = n
  | 0 => by simp [geL]
  | i + 1 => by
    simp only [geL]
    split
    · simp [geL_len f n i]
    · exact geL_len f n i
theorem implEdges_run (n : Nat) (hn : n ≤ 1048576) (f : List Int) (hf : inR n f) : ∀ (d i : Nat), n - i = d → i ≤ n → Ev (fun k => impl_edgesOf.l0 k (edL f i) f n i) (edL f n)
  | 0, i, hd, hi => by
    have : i = n := by omega
    subst this
    refine Ev.s ?_
    simp only [impl_edgesOf.l0, show ¬ (i : Int) < (i : Int) by omega, if_false]
    exact Ev.const rfl
  | d + 1, i, hd, hi => by
    have ih := implEdges_run n hn f hf d (i + 1) (by omega) (by omega)
    have h1 := edL_le f i
    refine Ev.s ?_
    simp only [impl_edgesOf.l0, hf.1, show (i : Int) < (n : Int) by omega, show (0 : Int) ≤ (i : Int) by omega, show (edL f i).length < 17592186044416 by omega, if_true]
    rw [w64n (by omega)]
    simp only [edL] at ih
    by_cases e : (i : Int) < rd f i
    · simp only [e, if_true] at ih ⊢; exact ih
    · simp only [e, if_false] at ih ⊢; exact ih
theorem implEdges_ev (n : Nat) (hn : n ≤ 1048576) (t f : List Int) (hf : inR n f) : Ev (fun k => impl_edgesOf.f k t f) (edL f n) := by
  unfold impl_edgesOf.f
  rw [hf.1]
  exact implEdges_run n hn f hf n 0 (by omega) (by omega)
theorem specEdges_run (n : Nat) (hn : n ≤ 1048576) (t f : List Int) (hf : inR n f) : ∀ (d i : Nat), n - i = d → i ≤ n → Ev (fun k => spec_l7Edges.l0 k (geL f n i) ((edL f i).length : Int) i t f) (geL f n n)
  | 0, i, hd, hi => by
    have : i = n := by omega
    subst this
    refine Ev.s ?_
    simp only [spec_l7Edges.l0, geL_len, show ¬ (i : Int) < (i : Int) by omega, if_false]
    exact Ev.const rfl
  | d + 1, i, hd, hi => by
    have ih := specEdges_run n hn t f hf d (i + 1) (by omega) (by omega)
    have h1 := edL_le f i
    have h2 := hf.2 i (by omega)
    refine Ev.s ?_
    simp only [spec_l7Edges.l0, geL_len, hf.1, show (i : Int) < (n : Int) by omega, show (0 : Int) ≤ (i : Int) by omega, h2.1, h2.2, if_true, Int.toNat_natCast]
    rw [w64n (by omega), w64n (i := i) (by omega)]
    simp only [edL, geL] at ih
    by_cases e : (i : Int) < rd f i
    · simp only [e, if_true, List.length_append, List.length_cons, List.length_nil] at ih ⊢; exact ih
    · simp only [e, if_false] at ih ⊢; exact ih
theorem specEdges_ev (n : Nat) (hn : n ≤ 1048576) (t f : List Int) (hf : inR n f) : Ev (fun k => spec_l7Edges.f k t f) (geL f n n) := by
  unfold spec_l7Edges.f
  have h1 : n ≤ 35184372088832 := by omega
  have h2 : (0 : Int) ≤ (n : Int) := by omega
  simp only [hf.1, Int.toNat_natCast, h1, h2, if_true]
  exact specEdges_run n hn t f hf n 0 (by omega) (by omega)
def least (f : List Int) (d : Nat) : Nat := if (d : Int) < rd f d then d else (rd f d).toNat
theorem edL_lt (f : List Int) (m : Nat) (hm : (m : Int) < rd f m) : ∀ n, m < n → (edL f m).length < (edL f n).length
  | n + 1, h => by
    simp only [edL]
    by_cases e : m = n
    · subst e
      simp only [hm, if_true, List.length_append, List.length_cons, List.length_nil]; omega
    · have ih := edL_lt f m hm n (by omega)
      split
      · simp only [List.length_append, List.length_cons, List.length_nil]; omega
      · exact ih
theorem edL_at (f : List Int) (m : Nat) (hm : (m : Int) < rd f m) : ∀ n, m < n → rd (edL f n) ((edL f m).length : Int) = m
  | n + 1, h => by
    simp only [edL]
    by_cases e : m = n
    · subst e
      simp only [hm, if_true]
      rw [rd_lt _ _ (by simp), List.getElem_append_right (Nat.le_refl _)]
      simp
    · have ih := edL_at f m hm n (by omega)
      split
      · rw [rd_app_lt _ _ _ (edL_lt f m hm n (by omega))]; exact ih
      · exact ih
theorem least_lt (f : List Int) (n : Nat) (hf : inR n f) (hfl : ∀ i : Nat, i < n → flipAt f i) (d : Nat) (hd : d < n) : least f d < n ∧ (least f d : Int) < rd f (least f d) := by
  have h1 := hf.2 d hd
  obtain ⟨h2, h3⟩ := hfl d hd
  unfold least
  split
  · exact ⟨hd, by assumption⟩
  · refine ⟨by omega, ?_⟩
    rw [show (((rd f d).toNat : Nat) : Int) = rd f d by omega, h3]
    omega
theorem geL_at (f : List Int) (n : Nat) (hf : inR n f) (hfl : ∀ i : Nat, i < n → flipAt f i) : ∀ i, i ≤ n → ∀ d : Nat, d < n → least f d < i → rd (geL f n i) d = ((edL f (least f d)).length : Int)
  | i + 1, hi, d, hd, h => by
    have ih := geL_at f n hf hfl i (by omega) d hd
    have hl := geL_len f n i
    have h1 := hf.2 d hd
    obtain ⟨h2, h3⟩ := hfl d hd
    have g1 := hf.2 i (by omega)
    obtain ⟨g2, g3⟩ := hfl i (by omega)
    have hll := least_lt f n hf hfl d hd
    simp only [geL]
    by_cases e : least f d = i
    · rw [e] at hll
      simp only [hll.2, if_true]
      rw [e]
      by_cases e2 : d = (rd f i).toNat
      · subst e2
        rw [rd_set_self _ _ _ (by simp; omega)]
      · have e3 : d = i := by
          unfold least at e
          split at e
          · exact e
          · exfalso
            apply e2
            rw [show (i : Int) = rd f d by omega, h3]
            omega
        rw [rd_set_ne _ _ _ _ (fun h => e2 h.symm)]
        subst e3
        rw [rd_set_self _ _ _ (by omega)]
    · have ih' := ih (by omega)
      by_cases c : (i : Int) < rd f i
      · simp only [c, if_true]
        have n1 : (rd f i).toNat ≠ d := by
          intro h
          apply e
          have hd' : rd f i = d := by omega
          have : rd f d = i := by rw [← hd', g3]
          unfold least
          rw [if_neg (by omega)]
          omega
        have n2 : i ≠ d := by
          intro h
          apply e
          subst h
          unfold least
          rw [if_pos c]
        rw [rd_set_ne _ _ _ _ n1, rd_set_ne _ _ _ _ n2]
        exact ih'
      · simp only [c, if_false]
        exact ih'
theorem len_le_of_sub : ∀ (a b : List Nat), a.Nodup → (∀ x ∈ a, x ∈ b) → a.length ≤ b.length
  | [], b, _, _ => Nat.zero_le _
  | x :: a, b, hn, h => by
    have hx := h x (by simp)
    obtain ⟨hxa, hna⟩ := List.nodup_cons.1 hn
    have ih := len_le_of_sub a (b.erase x) hna fun y hy => (List.mem_erase_of_ne (by rintro rfl; exact hxa hy)).2 (h y (by simp [hy]))
    rw [List.length_erase_of_mem hx] at ih
    have := List.length_pos_of_mem hx
    simp only [List.length_cons]
    omega
theorem edL_filter (f : List Int) : ∀ n, (edL f n).length = ((List.range n).filter fun (i : Nat) => decide ((i : Int) < rd f i)).length
  | 0 => rfl
  | n + 1 => by
    rw [List.range_succ, List.filter_append, List.length_append, ← edL_filter f n]
    simp only [edL]
    by_cases e : (n : Int) < rd f n <;> simp [e]
theorem edL_half (f : List Int) (n : Nat) (hf : inR n f) (hfl : ∀ i : Nat, i < n → flipAt f i) : 2 * (edL f n).length = n := by
  rw [edL_filter]
  have hA := List.length_eq_countP_add_countP (fun (i : Nat) => decide ((i : Int) < rd f i)) (l := List.range n)
  rw [List.countP_eq_length_filter, List.countP_eq_length_filter, List.length_range] at hA
  have sub : ∀ (P Q : Nat → Bool), (∀ i, i < n → P i = true → Q (rd f i).toNat = true) → ((List.range n).filter P).length ≤ ((List.range n).filter Q).length := by
    intro P Q h
    rw [← List.length_map (f := fun (i : Nat) => (rd f i).toNat)]
    refine len_le_of_sub _ _ ?_ ?_
    · rw [List.Nodup, List.pairwise_map]
      refine List.Pairwise.imp_of_mem ?_ ((List.nodup_range (n := n)).filter P)
      intro a b ha hb hab e
      have ha' := List.mem_range.1 (List.mem_filter.1 ha).1
      have hb' := List.mem_range.1 (List.mem_filter.1 hb).1
      have h1 := hf.2 a ha'
      have h2 := hf.2 b hb'
      have e2 : rd f a = rd f b := by omega
      have h3 := (hfl a ha').2
      rw [e2, (hfl b hb').2] at h3
      omega
    · intro x hx
      obtain ⟨a, ha, rfl⟩ := List.mem_map.1 hx
      obtain ⟨ha1, ha2⟩ := List.mem_filter.1 ha
      have ha' := List.mem_range.1 ha1
      have h1 := hf.2 a ha'
      exact List.mem_filter.2 ⟨List.mem_range.2 (by omega), h a ha' ha2⟩
  have back : ∀ i : Nat, i < n → (((rd f i).toNat : Nat) : Int) = rd f i := fun i hi => by have := hf.2 i hi; omega
  have h1 := sub (fun (i : Nat) => decide ((i : Int) < rd f i)) (fun (i : Nat) => decide ¬ decide ((i : Int) < rd f i) = true) (fun i hi h => by
    have h3 := (hfl i hi).2
    simp only [decide_eq_true_eq] at h
    simp only [back i hi, h3, decide_eq_true_eq]
    omega)
  have h2 := sub (fun (i : Nat) => decide ¬ decide ((i : Int) < rd f i) = true) (fun (i : Nat) => decide ((i : Int) < rd f i)) (fun i hi h => by
    have h3 := hfl i hi
    simp only [decide_eq_true_eq] at h
    simp only [back i hi, h3.2, decide_eq_true_eq]
    have := h3.1
    omega)
  omega
def cw (p : List Int) : Nat → List Bool → List Int → Int → List Bool × List Int
  | 0, s, c, a => (s, c)
  | f + 1, s, c, a => if rdOf false s a = true then (s, c) else cw p f (s.set a.toNat true) (c ++ [a]) (rd p a)
def fresh (s : List Bool) : Nat := s.countP (fun b => !b)
def cyS (p : List Int) (n : Nat) : Nat → List Bool × List (List Int)
  | 0 => (List.replicate n false, [])
  | i + 1 =>
    let q := cw p (n + 1) (cyS p n i).1 [] i
    (q.1, if q.2 = [] then (cyS p n i).2 else (cyS p n i).2 ++ [q.2])
theorem fresh_set : ∀ (s : List Bool) (i : Nat), i < s.length → s.getD i false = false → fresh (s.set i true) + 1 = fresh s
  | b :: s, 0, _, h => by
    simp only [List.getD_cons_zero] at h
    subst h
    simp [fresh]
  | b :: s, i + 1, hi, h => by
    simp only [List.getD_cons_succ] at h
    have ih := fresh_set s i (by simpa using hi) h
    simp only [fresh, List.set_cons_succ, List.countP_cons] at ih ⊢
    omega
theorem rdOf_nat (s : List Bool) (a : Int) (h0 : 0 ≤ a) : rdOf false s a = s.getD a.toNat false := by
  unfold rdOf
  rfl
theorem cw_len (p : List Int) : ∀ (f : Nat) (s : List Bool) (c : List Int) (a : Int), (cw p f s c a).1.length = s.length
  | 0, s, c, a => rfl
  | f + 1, s, c, a => by
    simp only [cw]
    split
    · rfl
    · rw [cw_len p f]; simp
theorem spec_cw (p : List Int) (n : Nat) (hn : n ≤ 1048576) (hp : inR n p) (L : List (List Int)) (hL : L.length ≤ 1048576) (i : Int) (r : List (List Int)) : ∀ (f : Nat) (s : List Bool) (c : List Int) (a : Int), s.length = n → 0 ≤ a → a < n → fresh s < f → c.length + fresh s ≤ 1048577 →
    Ev (fun k => spec_l1Cycles.l0 k p (L ++ [(cw p f s c a).2]) (cw p f s c a).1 (wrap64 (i + 1))) r → Ev (fun k => spec_l1Cycles.l1 k p L s i c a) r
  | 0, s, c, a, hs, h0, h1, hf, hc, h => absurd hf (Nat.not_lt_zero _)
  | f + 1, s, c, a, hs, h0, h1, hf, hc, h => by
    refine Ev.s ?_
    simp only [cw] at h
    have hL' : L.length < 5864062014805 := by omega
    have hc' : c.length < 17592186044416 := by omega
    simp only [spec_l1Cycles.l1, h0, hs, h1, hp.1, hL', hc', if_true]
    by_cases e : rdOf false s a = true
    · simp only [e, if_true] at h ⊢
      exact h
    · simp only [e, if_false] at h ⊢
      have h3 : s.getD a.toNat false = false := by rw [← rdOf_nat s a h0]; simpa using e
      have h4 := fresh_set s a.toNat (by omega) h3
      have h5 := hp.2 a.toNat (by omega)
      rw [show ((a.toNat : Nat) : Int) = a by omega] at h5
      exact spec_cw p n hn hp L hL i r f _ _ _ (by simpa using hs) h5.1 h5.2 (by omega) (by simp only [List.length_append, List.length_cons, List.length_nil]; omega) h
theorem impl_cw (p : List Int) (n : Nat) (hn : n ≤ 1048576) (hp : inR n p) (L : List (List Int)) (hL : L.length ≤ 1048576) (m i : Int) (r : List (List Int)) : ∀ (f : Nat) (s : List Bool) (c : List Int) (a : Int), s.length = n → 0 ≤ a → a < n → fresh s < f → c.length + fresh s ≤ 1048577 →
    Ev (fun k => impl_cyclesOf.l0 k p (if (cw p f s c a).2 = [] then L else L ++ [(cw p f s c a).2]) (cw p f s c a).1 m (wrap64 (i + 1))) r → Ev (fun k => impl_cyclesOf.l1 k p L s c a m i) r
  | 0, s, c, a, hs, h0, h1, hf, hc, h => absurd hf (Nat.not_lt_zero _)
  | f + 1, s, c, a, hs, h0, h1, hf, hc, h => by
    refine Ev.s ?_
    simp only [cw] at h
    have hL' : L.length < 5864062014805 := by omega
    have hc' : c.length < 17592186044416 := by omega
    simp only [impl_cyclesOf.l1, h0, hs, h1, hp.1, hL', hc', if_true]
    by_cases e : rdOf false s a = true
    · simp only [e, if_true] at h ⊢
      cases c with
      | nil => simpa using h
      | cons b c => simpa using h
    · simp only [e, if_false] at h ⊢
      have h3 : s.getD a.toNat false = false := by rw [← rdOf_nat s a h0]; simpa using e
      have h4 := fresh_set s a.toNat (by omega) h3
      have h5 := hp.2 a.toNat (by omega)
      rw [show ((a.toNat : Nat) : Int) = a by omega] at h5
      exact impl_cw p n hn hp L hL m i r f _ _ _ (by simpa using hs) h5.1 h5.2 (by omega) (by simp only [List.length_append, List.length_cons, List.length_nil]; omega) h
theorem fresh_le (s : List Bool) : fresh s ≤ s.length := List.countP_le_length
theorem cyS_len (p : List Int) (n : Nat) : ∀ i, (cyS p n i).1.length = n
  | 0 => by simp [cyS]
  | i + 1 => by simp only [cyS]; rw [cw_len, cyS_len p n i]
theorem cyS_many (p : List Int) (n : Nat) : ∀ i, (cyS p n i).2.length ≤ i
  | 0 => by simp [cyS]
  | i + 1 => by
    have ih := cyS_many p n i
    simp only [cyS]
    split
    · omega
    · simp only [List.length_append, List.length_cons, List.length_nil]; omega
theorem cw_seen (p : List Int) (f : Nat) (s : List Bool) (c : List Int) (a : Int) (h : rdOf false s a = true) : cw p f s c a = (s, c) := by
  cases f with
  | zero => rfl
  | succ f => simp only [cw, h, if_true]
theorem cw_more (p : List Int) : ∀ (f : Nat) (s : List Bool) (c : List Int) (a : Int), c.length ≤ (cw p f s c a).2.length
  | 0, s, c, a => Nat.le_refl _
  | f + 1, s, c, a => by
    simp only [cw]
    split
    · exact Nat.le_refl _
    · have := cw_more p f (s.set a.toNat true) (c ++ [a]) (rd p a)
      simp only [List.length_append, List.length_cons, List.length_nil] at this
      omega
theorem cw_new (p : List Int) (f : Nat) (s : List Bool) (a : Int) (h : ¬ rdOf false s a = true) : (cw p (f + 1) s [] a).2 ≠ [] := by
  simp only [cw, h, Bool.false_eq_true, if_false]
  intro e
  have := cw_more p f (s.set a.toNat true) ([] ++ [a]) (rd p a)
  rw [e] at this
  simp at this
theorem specCyc_run (p : List Int) (n : Nat) (hn : n ≤ 1048575) (hp : inR n p) : ∀ (d i : Nat), n - i = d → i ≤ n → Ev (fun k => spec_l1Cycles.l0 k p (cyS p n i).2 (cyS p n i).1 i) (cyS p n n).2
  | 0, i, hd, hi => by
    have : i = n := by omega
    subst this
    refine Ev.s ?_
    simp only [spec_l1Cycles.l0, hp.1, show ¬ (i : Int) < (i : Int) by omega, if_false]
    exact Ev.const rfl
  | d + 1, i, hd, hi => by
    have ih := specCyc_run p n hn hp d (i + 1) (by omega) (by omega)
    have hl := cyS_len p n i
    have hm := cyS_many p n i
    have hf := fresh_le (cyS p n i).1
    have h1 : (i : Int) < (n : Int) := by omega
    have h0 : (0 : Int) ≤ (i : Int) := by omega
    refine Ev.s ?_
    simp only [spec_l1Cycles.l0, hp.1, hl, h1, h0, if_true]
    by_cases e : rdOf false (cyS p n i).1 (i : Int) = true
    · simp only [e, if_true]
      rw [w64n (by omega)]
      simp only [cyS, cw_seen p (n + 1) (cyS p n i).1 [] i e, if_true] at ih
      exact ih
    · simp only [e, if_false]
      refine spec_cw p n (by omega) hp _ (by omega) i _ (n + 1) _ _ _ hl h0 h1 (by omega) (by simp only [List.length_nil]; omega) ?_
      rw [w64n (by omega)]
      simp only [cyS, cw_new p n (cyS p n i).1 i e, if_false] at ih
      exact ih
theorem implCyc_run (p : List Int) (n : Nat) (hn : n ≤ 1048575) (hp : inR n p) : ∀ (d i : Nat), n - i = d → i ≤ n → Ev (fun k => impl_cyclesOf.l0 k p (cyS p n i).2 (cyS p n i).1 n i) (cyS p n n).2
  | 0, i, hd, hi => by
    have : i = n := by omega
    subst this
    refine Ev.s ?_
    simp only [impl_cyclesOf.l0, show ¬ (i : Int) < (i : Int) by omega, if_false]
    exact Ev.const rfl
  | d + 1, i, hd, hi => by
    have ih := implCyc_run p n hn hp d (i + 1) (by omega) (by omega)
    have hl := cyS_len p n i
    have hm := cyS_many p n i
    have hf := fresh_le (cyS p n i).1
    have h1 : (i : Int) < (n : Int) := by omega
    have h0 : (0 : Int) ≤ (i : Int) := by omega
    refine Ev.s ?_
    simp only [impl_cyclesOf.l0, h1, if_true]
    refine impl_cw p n (by omega) hp _ (by omega) n i _ (n + 1) _ _ _ hl h0 h1 (by omega) (by simp only [List.length_nil]; omega) ?_
    rw [w64n (by omega)]
    simp only [cyS] at ih
    exact ih
theorem specCyc_ev (p : List Int) (n : Nat) (hn : n ≤ 1048575) (hp : inR n p) : Ev (fun k => spec_l1Cycles.f k p) (cyS p n n).2 := by
  unfold spec_l1Cycles.f
  have h1 : n ≤ 281474976710656 := by omega
  have h2 : (0 : Int) ≤ (n : Int) := by omega
  simp only [hp.1, Int.toNat_natCast, h1, h2, if_true]
  exact specCyc_run p n hn hp n 0 (by omega) (by omega)
theorem implCyc_ev (p : List Int) (n : Nat) (hn : n ≤ 1048575) (hp : inR n p) : Ev (fun k => impl_cyclesOf.f k p) (cyS p n n).2 := by
  unfold impl_cyclesOf.f
  have h1 : n ≤ 281474976710656 := by omega
  have h2 : (0 : Int) ≤ (n : Int) := by omega
  simp only [hp.1, Int.toNat_natCast, h1, h2, if_true]
  exact implCyc_run p n hn hp n 0 (by omega) (by omega)
def ahead (c : List Int) (i : Nat) : Int := if i = 0 then -1 else rd c ((i - 1 : Nat) : Int)
def ascAt (c : List Int) (m : Int) (i : Nat) : Prop := ahead c i < rd c i ∧ rd c i < m
def isChoice (c : List Int) (m : Int) : Prop := ∀ i : Nat, i < c.length → ascAt c m i
theorem ahead_zero (c : List Int) : ahead c 0 = -1 := by unfold ahead; rw [if_pos rfl]
theorem ahead_succ (c : List Int) (i : Nat) : ahead c (i + 1) = rd c i := by unfold ahead; rw [if_neg (by omega), Nat.add_sub_cancel]
theorem asc_nonneg (c : List Int) (m : Int) : ∀ i : Nat, (∀ j : Nat, j < i → ascAt c m j) → -1 ≤ ahead c i ∧ (ahead c i = -1 ∨ ahead c i < m)
  | 0, _ => by rw [ahead_zero]; omega
  | i + 1, h => by
    have h1 := h i (Nat.lt_succ_self i)
    have h2 := (asc_nonneg c m i fun j hj => h j (by omega)).1
    unfold ascAt at h1
    rw [ahead_succ]
    omega
theorem specChoice_run (t f c : List Int) (m : Int) (hm : (f.length : Int) / 2 = m) (m0 : 0 ≤ m) (m1 : m ≤ 1048576) (hc : c.length ≤ 1048576) : ∀ (d i : Nat), c.length - i = d → i ≤ c.length → (∀ j : Nat, j < i → ascAt c m j) →
    ((∀ q : Nat, i ≤ q → q < c.length → ascAt c m q) → ∀ r, Ev (fun k => spec_MapValid.f k t f) r → Ev (fun k => spec_ChoiceValid.l0 k c (ahead c i) i t f) r) ∧ (¬ (∀ q : Nat, i ≤ q → q < c.length → ascAt c m q) → Ev (fun k => spec_ChoiceValid.l0 k c (ahead c i) i t f) false)
  | 0, i, hd, hi, hp => by
    refine ⟨fun _ r h => Ev.s ?_, fun h => absurd (fun q h1 h2 => by omega) h⟩
    simp only [spec_ChoiceValid.l0, show ¬ (i : Int) < (c.length : Int) by omega, if_false]
    exact Ev.bind h (Ev.const rfl)
  | d + 1, i, hd, hi, hp => by
    have hlt : i < c.length := by omega
    have hd1 : c.length - (i + 1) = d := by omega
    obtain ⟨p1, p2⟩ := asc_nonneg c _ i hp
    have hA : ascAt c m i ↔ (ahead c i + 1 ≤ rd c i ∧ rd c i ≤ m - 1) := by unfold ascAt; omega
    have w1 : -9223372036854775808 ≤ ahead c i + 1 ∧ ahead c i + 1 < 9223372036854775808 := by omega
    have w2 : -9223372036854775808 ≤ m ∧ m < 9223372036854775808 := by omega
    have w3 : -9223372036854775808 ≤ m - 1 ∧ m - 1 < 9223372036854775808 := by omega
    have w4 : i < 4611686018427387904 := by omega
    have g1 : (i : Int) < (c.length : Int) := by omega
    have g2 : (0 : Int) ≤ (i : Int) := by omega
    by_cases h : ascAt c m i
    · have hin := hA.1 h
      have ih := specChoice_run t f c m hm m0 m1 hc d (i + 1) hd1 hlt (fun j hj => by
        by_cases e : j = i
        · rw [e]; exact h
        · exact hp j (by omega))
      rw [ahead_succ] at ih
      refine ⟨fun ha r hr => Ev.s ?_, fun ha => Ev.s ?_⟩
      · simp only [spec_ChoiceValid.l0, g1, g2, if_true, hm, w64r w1, w64r w2, w64r w3, w64n w4, l6In_eq, Option.bind_some, hin, decide_true, and_self]
        exact ih.1 (fun q h1 h2 => ha q (by omega) h2) r hr
      · simp only [spec_ChoiceValid.l0, g1, g2, if_true, hm, w64r w1, w64r w2, w64r w3, w64n w4, l6In_eq, Option.bind_some, hin, decide_true, and_self]
        refine ih.2 fun h' => ha fun q h1 h2 => ?_
        by_cases e : q = i
        · rw [e]; exact h
        · exact h' q (by omega) h2
    · have hin : ¬ (ahead c i + 1 ≤ rd c i ∧ rd c i ≤ m - 1) := fun z => h (hA.2 z)
      refine ⟨fun ha => absurd (ha i (Nat.le_refl _) hlt) h, fun ha => Ev.s ?_⟩
      simp only [spec_ChoiceValid.l0, g1, g2, if_true, hm, w64r w1, w64r w2, w64r w3, w64n w4, l6In_eq, Option.bind_some, hin, decide_false, Bool.false_eq_true, if_false]
      exact Ev.const rfl
theorem implChoice_run (t f c : List Int) (m : Int) (hm : (f.length : Int) / 2 = m) (m0 : 0 ≤ m) (m1 : m ≤ 1048576) (hc : c.length ≤ 1048576) : ∀ (d i : Nat), c.length - i = d → i ≤ c.length → (∀ j : Nat, j < i → ascAt c m j) →
    ((∀ q : Nat, i ≤ q → q < c.length → ascAt c m q) → Ev (fun k => impl_ChoiceValid.l0 k c c c.length i t f) true) ∧ (¬ (∀ q : Nat, i ≤ q → q < c.length → ascAt c m q) → Ev (fun k => impl_ChoiceValid.l0 k c c c.length i t f) false)
  | 0, i, hd, hi, hp => by
    refine ⟨fun _ => Ev.s ?_, fun h => absurd (fun q h1 h2 => by omega) h⟩
    simp only [impl_ChoiceValid.l0, show ¬ (i : Int) < (c.length : Int) by omega, if_false]
    exact Ev.const rfl
  | d + 1, i, hd, hi, hp => by
    have hlt : i < c.length := by omega
    have hd1 : c.length - (i + 1) = d := by omega
    obtain ⟨p1, p2⟩ := asc_nonneg c _ i hp
    have w2 : -9223372036854775808 ≤ m ∧ m < 9223372036854775808 := by omega
    have w4 : i < 4611686018427387904 := by omega
    have g1 : (i : Int) < (c.length : Int) := by omega
    have g2 : (0 : Int) ≤ (i : Int) := by omega
    have hA1 : ascAt c m i → 0 ≤ rd c i ∧ rd c i < m := by unfold ascAt; omega
    by_cases k1 : rd c i < 0
    · refine ⟨fun ha => absurd (hA1 (ha i (Nat.le_refl _) hlt)) (by omega), fun ha => Ev.s ?_⟩
      simp only [impl_ChoiceValid.l0, g1, g2, k1, if_true]
      exact Ev.const rfl
    · by_cases k2 : rd c i ≥ m
      · refine ⟨fun ha => absurd (hA1 (ha i (Nat.le_refl _) hlt)) (by omega), fun ha => Ev.s ?_⟩
        simp only [impl_ChoiceValid.l0, g1, g2, k1, k2, hm, w64r w2, if_true, if_false]
        exact Ev.const rfl
      · have ih := fun h => implChoice_run t f c m hm m0 m1 hc d (i + 1) hd1 hlt (fun j hj => by
          by_cases e : j = i
          · rw [e]; exact h
          · exact hp j (by omega))
        cases i with
        | zero =>
          have h : ascAt c m 0 := by unfold ascAt; rw [ahead_zero]; omega
          have k3 : ¬ (((0 : Nat) : Int) > 0) := by omega
          refine ⟨fun ha => Ev.s ?_, fun ha => Ev.s ?_⟩
          · simp only [impl_ChoiceValid.l0, g1, g2, k1, k2, k3, hm, w64r w2, w64n w4, if_true, if_false]
            exact (ih h).1 fun q h1 h2 => ha q (by omega) h2
          · simp only [impl_ChoiceValid.l0, g1, g2, k1, k2, k3, hm, w64r w2, w64n w4, if_true, if_false]
            refine (ih h).2 fun h' => ha fun q h1 h2 => ?_
            by_cases e : q = 0
            · rw [e]; exact h
            · exact h' q (by omega) h2
        | succ i =>
          have k3 : (((i + 1 : Nat) : Int) > 0) := by omega
          have w5 : -9223372036854775808 ≤ (i : Int) ∧ (i : Int) < 9223372036854775808 := by omega
          have w6 : (((i + 1 : Nat) : Int) - 1) = (i : Int) := by omega
          have g3 : (0 : Int) ≤ (i : Int) := by omega
          have g4 : (i : Int) < (c.length : Int) := by omega
          by_cases k4 : rd c ((i + 1 : Nat) : Int) ≤ rd c (i : Int)
          · refine ⟨fun ha => absurd (ha (i + 1) (Nat.le_refl _) hlt) (by unfold ascAt; rw [ahead_succ]; omega), fun ha => Ev.s ?_⟩
            simp only [impl_ChoiceValid.l0, g1, g2, g3, g4, k1, k2, k3, k4, hm, w64r w2, w64r w5, w6, if_true, if_false]
            exact Ev.const rfl
          · have h : ascAt c m (i + 1) := by unfold ascAt; rw [ahead_succ]; omega
            refine ⟨fun ha => Ev.s ?_, fun ha => Ev.s ?_⟩
            · simp only [impl_ChoiceValid.l0, g1, g2, g3, g4, k1, k2, k3, k4, hm, w64r w2, w64n w4, w64r w5, w6, if_true, if_false]
              exact (ih h).1 fun q h1 h2 => ha q (by omega) h2
            · simp only [impl_ChoiceValid.l0, g1, g2, g3, g4, k1, k2, k3, k4, hm, w64r w2, w64n w4, w64r w5, w6, if_true, if_false]
              refine (ih h).2 fun h' => ha fun q h1 h2 => ?_
              by_cases e : q = i + 1
              · rw [e]; exact h
              · exact h' q (by omega) h2
theorem choiceValid_both (t f c : List Int) (ht : t.length ≤ 1048576) (hf : f.length ≤ 1048576) (hc : c.length ≤ 1048576) : ∃ b : Bool, Ev (fun k => spec_ChoiceValid.f k t f c) b ∧ Ev (fun k => impl_ChoiceValid.f k t f c) b ∧ (b = true ↔ isMap t f ∧ isChoice c ((f.length : Int) / 2)) := by
  obtain ⟨b, b1, b2, b3⟩ := mapValid_both t f ht hf
  have hs := specChoice_run t f c _ rfl (by omega) (by omega) hc c.length 0 (by omega) (by omega) (fun j hj => by omega)
  have hi := implChoice_run t f c _ rfl (by omega) (by omega) hc c.length 0 (by omega) (by omega) (fun j hj => by omega)
  have e1 : ∀ r, Ev (fun k => spec_ChoiceValid.l0 k c (ahead c 0) ((0 : Nat) : Int) t f) r → Ev (fun k => spec_ChoiceValid.f k t f c) r := fun r h => h
  by_cases ha : ∀ q : Nat, 0 ≤ q → q < c.length → ascAt c ((f.length : Int) / 2) q
  · refine ⟨b, e1 _ (hs.1 ha b b1), ?_, ?_⟩
    · unfold impl_ChoiceValid.f
      refine Ev.bind b2 ?_
      cases b with
      | false => simp only [Bool.false_eq_true, if_false]; exact Ev.const rfl
      | true => simp only [if_true]; exact hi.1 ha
    · rw [b3]
      exact ⟨fun h => ⟨h, fun i hi' => ha i (by omega) hi'⟩, fun h => h.1⟩
  · refine ⟨false, e1 _ (hs.2 ha), ?_, ⟨fun h => (by cases h), fun h => absurd (fun q _ hq => h.2 q hq) ha⟩⟩
    unfold impl_ChoiceValid.f
    refine Ev.bind b2 ?_
    cases b with
    | false => simp only [Bool.false_eq_true, if_false]; exact Ev.const rfl
    | true => simp only [if_true]; exact hi.2 ha
theorem has_run (c : List Int) (hc : c.length ≤ 1048576) (x : Int) : ∀ (d i : Nat), c.length - i = d → i ≤ c.length → Ev (fun k => spec_l7Has.l0 k c x i) (decide (x ∈ c.drop i))
  | 0, i, hd, hi => by
    refine Ev.s ?_
    simp only [spec_l7Has.l0, show ¬ (i : Int) < (c.length : Int) by omega, if_false]
    rw [List.drop_eq_nil_of_le (by omega)]
    exact Ev.const (by simp)
  | d + 1, i, hd, hi => by
    have hlt : i < c.length := by omega
    refine Ev.s ?_
    simp only [spec_l7Has.l0, show (i : Int) < (c.length : Int) by omega, show (0 : Int) ≤ (i : Int) by omega, if_true, w64n (show i < 4611686018427387904 by omega)]
    rw [List.drop_eq_getElem_cons hlt]
    have e := rd_lt c i hlt
    by_cases h : rd c i = x
    · simp only [h, if_true]
      exact Ev.const (by rw [decide_eq_true]; rw [← h, e]; exact List.mem_cons_self)
    · simp only [h, if_false]
      have := has_run c hc x d (i + 1) (by omega) (by omega)
      have e2 : decide (x ∈ c[i] :: c.drop (i + 1)) = decide (x ∈ c.drop (i + 1)) := by
        rw [Bool.eq_iff_iff, decide_eq_true_eq, decide_eq_true_eq, List.mem_cons]
        exact ⟨fun z => z.elim (fun y => absurd (by rw [e, y]) h) id, .inr⟩
      rw [e2]
      exact this
theorem has_ev (c : List Int) (hc : c.length ≤ 1048576) (x : Int) : Ev (fun k => spec_l7Has.f k c x) (decide (x ∈ c)) := has_run c hc x c.length 0 (by omega) (by omega)
theorem index_run (c : List Int) (hc : c.length ≤ 1048576) (x : Int) : ∀ (d i : Nat), c.length - i = d → i ≤ c.length → ∃ v : Int, Ev (fun k => slices_Index_int_int.l0 k c x c.length i) v ∧ (v ≥ 0 ↔ x ∈ c.drop i)
  | 0, i, hd, hi => by
    refine ⟨-1, Ev.s ?_, ?_⟩
    · simp only [slices_Index_int_int.l0, show ¬ (i : Int) < (c.length : Int) by omega, if_false]
      exact Ev.const rfl
    · rw [List.drop_eq_nil_of_le (by omega)]
      simp
  | d + 1, i, hd, hi => by
    have hlt : i < c.length := by omega
    have e := rd_lt c i hlt
    by_cases h : x = rd c i
    · refine ⟨i, Ev.s ?_, ?_⟩
      · simp only [slices_Index_int_int.l0, show (i : Int) < (c.length : Int) by omega, show (0 : Int) ≤ (i : Int) by omega, if_true]
        rw [← h]
        simp only [if_true]
        exact Ev.const rfl
      · rw [List.drop_eq_getElem_cons hlt, ← e, ← h]
        exact ⟨fun _ => List.mem_cons_self, fun _ => by omega⟩
    · obtain ⟨v, v1, v2⟩ := index_run c hc x d (i + 1) (by omega) (by omega)
      refine ⟨v, Ev.s ?_, ?_⟩
      · simp only [slices_Index_int_int.l0, show (i : Int) < (c.length : Int) by omega, show (0 : Int) ≤ (i : Int) by omega, if_true, h, if_false, w64n (show i < 4611686018427387904 by omega)]
        exact v1
      · rw [v2, List.drop_eq_getElem_cons hlt, List.mem_cons]
        exact ⟨.inr, fun z => z.elim (fun y => absurd (by rw [e, y]) h) id⟩
theorem contains_ev (c : List Int) (hc : c.length ≤ 1048576) (x : Int) : Ev (fun k => slices_Contains_int_int.f k c x) (decide (x ∈ c)) := by
  obtain ⟨v, v1, v2⟩ := index_run c hc x c.length 0 (by omega) (by omega)
  unfold slices_Contains_int_int.f slices_Index_int_int.f
  refine Ev.bind v1 (Ev.const ?_)
  rw [List.drop_zero] at v2
  congr 1
  rw [Bool.eq_iff_iff, decide_eq_true_eq, decide_eq_true_eq]
  exact v2
def restL (c : List Int) (m : Nat) : List Int := ((List.range m).filter fun (i : Nat) => !decide ((i : Int) ∈ c)).map fun (i : Nat) => (i : Int)
theorem restL_succ (c : List Int) (m : Nat) : restL c (m + 1) = if (m : Int) ∈ c then restL c m else restL c m ++ [(m : Int)] := by
  unfold restL
  rw [List.range_succ, List.filter_append]
  by_cases h : (m : Int) ∈ c <;> simp [h]
theorem restL_len (c : List Int) (m : Nat) : (restL c m).length ≤ m := by
  unfold restL
  rw [List.length_map]
  have := List.length_filter_le (fun (i : Nat) => !decide ((i : Int) ∈ c)) (List.range m)
  rwa [List.length_range] at this
theorem implRest_run (c : List Int) (hc : c.length ≤ 1048576) (m : Nat) (hm : m ≤ 1048576) : ∀ (d i : Nat), m - i = d → i ≤ m → Ev (fun k => impl_ChoiceRest.l0 k c (restL c i) m i) (restL c m, true)
  | 0, i, hd, hi => by
    refine Ev.s ?_
    simp only [impl_ChoiceRest.l0, show ¬ (i : Int) < (m : Int) by omega, if_false]
    have : i = m := by omega
    subst this
    exact Ev.const rfl
  | d + 1, i, hd, hi => by
    have hl := restL_len c i
    have ih := implRest_run c hc m hm d (i + 1) (by omega) (by omega)
    rw [restL_succ] at ih
    refine Ev.s ?_
    simp only [impl_ChoiceRest.l0, show (i : Int) < (m : Int) by omega, if_true, w64n (show i < 4611686018427387904 by omega)]
    refine Ev.bind (contains_ev c hc i) ?_
    by_cases h : (i : Int) ∈ c
    · simp only [h, decide_true, if_true] at ih ⊢
      exact ih
    · simp only [h, decide_false, Bool.false_eq_true, if_false, show (restL c i).length < 17592186044416 by omega, if_true] at ih ⊢
      exact ih
theorem specRest_run (t f c : List Int) (hc : c.length ≤ 1048576) (m : Nat) (hm : m ≤ 1048576) (hfm : (f.length : Int) / 2 = m) (hv : Ev (fun k => spec_ChoiceValid.f k t f c) true) : ∀ (d i : Nat), m - i = d → i ≤ m → Ev (fun k => spec_ChoiceRest.l0 k c (restL c i) i t f) (restL c m, true)
  | 0, i, hd, hi => by
    have : i = m := by omega
    subst this
    refine Ev.s ?_
    simp only [spec_ChoiceRest.l0, hfm, w64r (show -9223372036854775808 ≤ (i : Int) ∧ (i : Int) < 9223372036854775808 by omega), show ¬ (i : Int) < (i : Int) by omega, if_false]
    refine Ev.s ?_
    simp only [spec_ChoiceRest.j1, Bool.false_eq_true, if_false]
    exact Ev.bind hv (Ev.const rfl)
  | d + 1, i, hd, hi => by
    have hl := restL_len c i
    have ih := specRest_run t f c hc m hm hfm hv d (i + 1) (by omega) (by omega)
    rw [restL_succ] at ih
    refine Ev.s ?_
    simp only [spec_ChoiceRest.l0, hfm, w64r (show -9223372036854775808 ≤ (m : Int) ∧ (m : Int) < 9223372036854775808 by omega), show (i : Int) < (m : Int) by omega, if_true]
    refine Ev.bind hv ?_
    refine Ev.s ?_
    simp only [spec_ChoiceRest.j1, if_true, w64n (show i < 4611686018427387904 by omega)]
    refine Ev.bind (has_ev c hc i) ?_
    by_cases h : (i : Int) ∈ c
    · simp only [h, decide_true, if_true] at ih ⊢
      exact ih
    · simp only [h, decide_false, Bool.false_eq_true, if_false, show (restL c i).length < 17592186044416 by omega, if_true] at ih ⊢
      exact ih
theorem choiceRest_both (t f c : List Int) (ht : t.length ≤ 1048576) (hf : f.length ≤ 1048576) (hc : c.length ≤ 1048576) : ∃ (r : List Int) (b : Bool), Ev (fun k => spec_ChoiceRest.f k t f c) (r, b) ∧ Ev (fun k => impl_ChoiceRest.f k t f c) (r, b) ∧ r.length ≤ 1048576 ∧ (b = true → r = restL c (f.length / 2) ∧ isMap t f ∧ isChoice c ((f.length : Int) / 2)) ∧ (isMap t f ∧ isChoice c ((f.length : Int) / 2) → b = true) := by
  obtain ⟨b, b1, b2, b3⟩ := choiceValid_both t f c ht hf hc
  have hfm : (f.length : Int) / 2 = ((f.length / 2 : Nat) : Int) := by omega
  have hm : f.length / 2 ≤ 1048576 := by omega
  have hl := restL_len c (f.length / 2)
  cases b with
  | true =>
    refine ⟨restL c (f.length / 2), true, ?_, ?_, by omega, fun _ => ⟨rfl, b3.1 rfl⟩, fun _ => rfl⟩
    · exact specRest_run t f c hc _ hm hfm b1 _ 0 rfl (by omega)
    · unfold impl_ChoiceRest.f
      refine Ev.bind b2 ?_
      simp only [if_true, hfm, w64r (show -9223372036854775808 ≤ ((f.length / 2 : Nat) : Int) ∧ ((f.length / 2 : Nat) : Int) < 9223372036854775808 by omega)]
      exact implRest_run c hc _ hm _ 0 rfl (by omega)
  | false =>
    refine ⟨[], false, ?_, ?_, by simp, fun h => (by cases h), fun h => b3.2 h⟩
    · unfold spec_ChoiceRest.f
      refine Ev.s ?_
      simp only [spec_ChoiceRest.l0, hfm, w64r (show -9223372036854775808 ≤ ((f.length / 2 : Nat) : Int) ∧ ((f.length / 2 : Nat) : Int) < 9223372036854775808 by omega)]
      have hj : Ev (fun k => spec_ChoiceRest.j1 k c [] 0 false t f) ([], false) := by
        refine Ev.s ?_
        simp only [spec_ChoiceRest.j1, Bool.false_eq_true, if_false]
        exact Ev.bind b1 (Ev.const rfl)
      by_cases h0 : (0 : Int) < ((f.length / 2 : Nat) : Int)
      · simp only [h0, if_true]
        exact Ev.bind b1 hj
      · simp only [h0, if_false]
        exact hj
    · unfold impl_ChoiceRest.f
      refine Ev.bind b2 ?_
      simp only [Bool.false_eq_true, if_false]
      exact Ev.const rfl
def chB (f : List Int) (n : Nat) (c : List Int) (d : Int) : Bool := decide (rd (geL f n n) d ∈ c)
def flC (f : List Int) (n : Nat) (c : List Int) : List Int := (List.range n).map fun (d : Nat) => if chB f n c (d : Int) = true then rd f (d : Int) else (d : Int)
theorem flC_len (f : List Int) (n : Nat) (c : List Int) : (flC f n c).length = n := by simp [flC]
theorem flC_rd (f : List Int) (n : Nat) (c : List Int) (d : Nat) (h : d < n) : rd (flC f n c) (d : Int) = if chB f n c (d : Int) = true then rd f (d : Int) else (d : Int) := by
  rw [rd_lt _ _ (by simp [flC]; exact h)]
  simp [flC]
theorem flC_inR (f : List Int) (n : Nat) (hf : inR n f) (c : List Int) : inR n (flC f n c) := by
  refine ⟨flC_len f n c, fun i hi => ?_⟩
  rw [flC_rd f n c i hi]
  have := hf.2 i hi
  split <;> omega
theorem edL_get (f : List Int) : ∀ (n e : Nat), e < (edL f n).length → ∃ a : Nat, a < n ∧ (a : Int) < rd f a ∧ rd (edL f n) (e : Int) = a ∧ (edL f a).length = e
  | 0, e, h => by simp [edL] at h
  | n + 1, e, h => by
    simp only [edL] at h ⊢
    by_cases hc : (n : Int) < rd f n
    · simp only [hc, if_true, List.length_append, List.length_cons, List.length_nil] at h ⊢
      by_cases he : e < (edL f n).length
      · obtain ⟨a, h1, h2, h3, h4⟩ := edL_get f n e he
        exact ⟨a, by omega, h2, by rw [rd_app_lt _ _ _ he]; exact h3, h4⟩
      · have e1 : (edL f n).length = e := by omega
        refine ⟨n, by omega, hc, ?_, e1⟩
        rw [rd_lt _ _ (by simp; omega), List.getElem_append_right (by omega)]
        simp [e1]
    · simp only [hc, if_false] at h ⊢
      obtain ⟨a, h1, h2, h3, h4⟩ := edL_get f n e h
      exact ⟨a, by omega, h2, h3, h4⟩
theorem edge_at (f : List Int) (n : Nat) (hf : inR n f) (hfl : ∀ i : Nat, i < n → flipAt f i) (e : Nat) (he : e < (edL f n).length) : ∃ a b : Nat, a < n ∧ b < n ∧ a ≠ b ∧ rd (edL f n) (e : Int) = a ∧ rd f a = b ∧ rd f b = a ∧ ∀ d : Nat, d < n → (rd (geL f n n) (d : Int) = e ↔ d = a ∨ d = b) := by
  obtain ⟨a, h1, h2, h3, h4⟩ := edL_get f n e he
  have g1 := hf.2 a h1
  obtain ⟨g2, g3⟩ := hfl a h1
  have hb : (((rd f a).toNat : Nat) : Int) = rd f a := by omega
  refine ⟨a, (rd f a).toNat, h1, by omega, by omega, h3, hb.symm, by rw [hb]; exact g3, fun d hd => ?_⟩
  have l1 := least_lt f n hf hfl d hd
  rw [geL_at f n hf hfl n (Nat.le_refl _) d hd l1.1]
  have d1 := hf.2 d hd
  obtain ⟨d2, d3⟩ := hfl d hd
  constructor
  · intro h
    have i1 := edL_at f (least f d) l1.2 n l1.1
    rw [h, h3] at i1
    have i2 : least f d = a := by omega
    unfold least at i2
    split at i2
    · exact .inl i2
    · right
      have : rd f d = a := by omega
      rw [this] at d3
      omega
  · rintro (rfl | rfl)
    · rw [show least f d = d from if_pos h2, h4]
    · have : least f (rd f a).toNat = a := by
        unfold least
        rw [hb, g3, if_neg (by omega)]
        omega
      rw [this, h4]
theorem take_get (c : List Int) (i : Nat) (h : i < c.length) : c.take (i + 1) = c.take i ++ [rd c i] := by
  rw [List.take_add_one, rd_lt c i h]
  simp [h]
theorem asc_mono (c : List Int) (m : Int) (hc : isChoice c m) : ∀ (i j : Nat), i < c.length → j < i → rd c j < rd c i
  | i + 1, j, hi, hj => by
    have h := (hc (i + 1) hi).1
    rw [ahead_succ] at h
    by_cases e : j = i
    · rw [e]; exact h
    · have := asc_mono c m hc i j (by omega) (by omega)
      omega
theorem choice_range (c : List Int) (m : Int) (hc : isChoice c m) (i : Nat) (hi : i < c.length) : 0 ≤ rd c i ∧ rd c i < m := by
  have h := hc i hi
  have h2 := asc_nonneg c m i (fun j hj => hc j (by omega))
  unfold ascAt at h
  omega
def itr (t : List Int) : Nat → Int → Int
  | 0, x => x
  | k + 1, x => itr t k (rd t x)
theorem itr_in (t : List Int) (n : Nat) (ht : inR n t) : ∀ (k : Nat) (x : Int), 0 ≤ x ∧ x < n → 0 ≤ itr t k x ∧ itr t k x < n
  | 0, x, h => h
  | k + 1, x, h => by
    have := ht.2 x.toNat (by omega)
    rw [show ((x.toNat : Nat) : Int) = x by omega] at this
    exact itr_in t n ht k _ this
theorem itr_add (t : List Int) : ∀ (a b : Nat) (x : Int), itr t (a + b) x = itr t b (itr t a x)
  | 0, b, x => by rw [Nat.zero_add]; rfl
  | a + 1, b, x => by
    rw [show a + 1 + b = (a + b) + 1 by omega]
    exact itr_add t a b _
def injR (n : Nat) (t : List Int) : Prop := ∀ i j : Nat, i < n → j < n → rd t i = rd t j → i = j
theorem itr_inj (t : List Int) (n : Nat) (ht : inR n t) (hi : injR n t) : ∀ (k : Nat) (x y : Int), 0 ≤ x ∧ x < n → 0 ≤ y ∧ y < n → itr t k x = itr t k y → x = y
  | 0, x, y, _, _, h => h
  | k + 1, x, y, hx, hy, h => by
    have a1 := ht.2 x.toNat (by omega)
    have a2 := ht.2 y.toNat (by omega)
    have ex : ((x.toNat : Nat) : Int) = x := by omega
    have ey : ((y.toNat : Nat) : Int) = y := by omega
    rw [ex] at a1
    rw [ey] at a2
    have h1 := itr_inj t n ht hi k _ _ a1 a2 h
    have := hi x.toNat y.toNat (by omega) (by omega) (by rw [ex, ey]; exact h1)
    omega
theorem itr_back (t : List Int) (n : Nat) (ht : inR n t) (hi : injR n t) (x : Int) (hx : 0 ≤ x ∧ x < n) : ∃ k : Nat, k < n ∧ itr t (k + 1) x = x := by
  by_cases h : ∃ i j : Nat, i < j ∧ j ≤ n ∧ itr t i x = itr t j x
  · obtain ⟨i, j, h1, h2, h3⟩ := h
    refine ⟨j - i - 1, by omega, ?_⟩
    have e : itr t j x = itr t i (itr t (j - i - 1 + 1) x) := by rw [← itr_add, show j - i - 1 + 1 + i = j by omega]
    rw [e] at h3
    exact (itr_inj t n ht hi i _ _ hx (itr_in t n ht _ x hx) h3).symm
  · exfalso
    have h1 := len_le_of_sub ((List.range (n + 1)).map fun i => (itr t i x).toNat) (List.range n) ?_ ?_
    · rw [List.length_map, List.length_range, List.length_range] at h1
      omega
    · rw [List.Nodup, List.pairwise_map]
      refine List.Pairwise.imp_of_mem ?_ (List.pairwise_lt_range (n := n + 1))
      intro a b ha hb hab e
      have ia := itr_in t n ht a x hx
      have ib := itr_in t n ht b x hx
      exact h ⟨a, b, hab, by have := List.mem_range.1 hb; omega, by omega⟩
    · intro y hy
      obtain ⟨a, ha, rfl⟩ := List.mem_map.1 hy
      have ia := itr_in t n ht a x hx
      exact List.mem_range.2 (by omega)
def fc (t : List Int) (ch : Int → Bool) : Nat → Int → Int
  | 0, x => x
  | m + 1, x => if ch x = true then x else fc t ch m (rd t x)
theorem fc_hit (t : List Int) (ch : Int → Bool) : ∀ (m : Nat) (x : Int), (∃ k : Nat, k ≤ m ∧ ch (itr t k x) = true) → ch (fc t ch m x) = true
  | 0, x, ⟨k, hk, h⟩ => by
    have : k = 0 := by omega
    subst this
    exact h
  | m + 1, x, ⟨k, hk, h⟩ => by
    simp only [fc]
    split
    · assumption
    · cases k with
      | zero => exact absurd h (by assumption)
      | succ k => exact fc_hit t ch m _ ⟨k, by omega, h⟩
theorem fc_in (t : List Int) (n : Nat) (ht : inR n t) (ch : Int → Bool) : ∀ (m : Nat) (x : Int), 0 ≤ x ∧ x < n → 0 ≤ fc t ch m x ∧ fc t ch m x < n
  | 0, x, h => h
  | m + 1, x, h => by
    simp only [fc]
    split
    · exact h
    · have := ht.2 x.toNat (by omega)
      rw [show ((x.toNat : Nat) : Int) = x by omega] at this
      exact fc_in t n ht ch m _ this
theorem meets (t : List Int) (n : Nat) (ht : inR n t) (hi : injR n t) (ch : Int → Bool) (x : Int) (hx : 0 ≤ x ∧ x < n) (hc : ch x = true) : ∃ k : Nat, k ≤ n ∧ ch (itr t k (rd t x)) = true := by
  obtain ⟨k, h1, h2⟩ := itr_back t n ht hi x hx
  exact ⟨k, by omega, by rw [show itr t k (rd t x) = itr t (k + 1) x from rfl, h2]; exact hc⟩
def faL (t f : List Int) (n : Nat) (c : List Int) : List Int := (List.range n).map fun (d : Nat) => if chB f n c (d : Int) = true then fc t (chB f n c) n (rd t (rd f (d : Int))) else (d : Int)
theorem faL_rd (t f : List Int) (n : Nat) (c : List Int) (d : Nat) (h : d < n) : rd (faL t f n c) (d : Int) = if chB f n c (d : Int) = true then fc t (chB f n c) n (rd t (rd f (d : Int))) else (d : Int) := by
  rw [rd_lt _ _ (by simp [faL]; exact h)]
  simp [faL]
theorem geL_flip (f : List Int) (n : Nat) (hf : inR n f) (hfl : ∀ i : Nat, i < n → flipAt f i) (d : Nat) (hd : d < n) : rd (geL f n n) (rd f d) = rd (geL f n n) d := by
  have h1 := hf.2 d hd
  obtain ⟨h2, h3⟩ := hfl d hd
  have hb : (((rd f d).toNat : Nat) : Int) = rd f d := by omega
  have l1 := least_lt f n hf hfl d hd
  have l2 := least_lt f n hf hfl (rd f d).toNat (by omega)
  have e1 := geL_at f n hf hfl n (Nat.le_refl _) d hd l1.1
  have e2 := geL_at f n hf hfl n (Nat.le_refl _) (rd f d).toNat (by omega) l2.1
  rw [hb] at e2
  rw [e1, e2]
  have : least f (rd f d).toNat = least f d := by
    unfold least
    rw [hb, h3]
    split <;> split <;> omega
  rw [this]
theorem chB_flip (f : List Int) (n : Nat) (hf : inR n f) (hfl : ∀ i : Nat, i < n → flipAt f i) (c : List Int) (d : Nat) (hd : d < n) : chB f n c (rd f d) = chB f n c d := by
  unfold chB
  rw [geL_flip f n hf hfl d hd]
theorem fa_ch (t f : List Int) (n : Nat) (ht : inR n t) (hi : injR n t) (hf : inR n f) (hfl : ∀ i : Nat, i < n → flipAt f i) (c : List Int) (d : Nat) (hd : d < n) (hc : chB f n c d = true) :
    chB f n c (rd (faL t f n c) d) = true ∧ 0 ≤ rd (faL t f n c) d ∧ rd (faL t f n c) d < n := by
  have h1 := hf.2 d hd
  rw [faL_rd t f n c d hd, if_pos hc]
  have h2 := ht.2 (rd f d).toNat (by omega)
  rw [show (((rd f d).toNat : Nat) : Int) = rd f d by omega] at h2
  exact ⟨fc_hit t _ n _ (meets t n ht hi _ _ h1 (by rw [chB_flip f n hf hfl c d hd]; exact hc)), fc_in t n ht _ n _ h2⟩
theorem getD_set (s : List Bool) (i j : Nat) (b : Bool) (hi : i < s.length) : (s.set i b).getD j false = if i = j then b else s.getD j false := by
  rw [List.getD_eq_getElem?_getD, List.getElem?_set]
  by_cases e : i = j
  · subst e
    simp [hi]
  · simp [e, List.getD_eq_getElem?_getD]
def ribS (F : List Int) (n : Nat) (ch : Int → Bool) : Nat → List Bool × Nat
  | 0 => (List.replicate n false, 0)
  | i + 1 => if ch i = true ∧ (ribS F n ch i).1.getD i false = false then ((cw F (n + 1) (ribS F n ch i).1 [] i).1, (ribS F n ch i).2 + 1) else ribS F n ch i
theorem ribS_len (F : List Int) (n : Nat) (ch : Int → Bool) : ∀ i, (ribS F n ch i).1.length = n
  | 0 => by simp [ribS]
  | i + 1 => by
    simp only [ribS]
    split
    · rw [cw_len, ribS_len F n ch i]
    · exact ribS_len F n ch i
theorem ribS_le (F : List Int) (n : Nat) (ch : Int → Bool) : ∀ i, (ribS F n ch i).2 ≤ i
  | 0 => by simp [ribS]
  | i + 1 => by
    have := ribS_le F n ch i
    simp only [ribS]
    split
    · simp only; omega
    · omega
def chL (f : List Int) (n : Nat) (c : List Int) : List Bool := (List.range n).map fun (d : Nat) => chB f n c (d : Int)
theorem chL_len (f : List Int) (n : Nat) (c : List Int) : (chL f n c).length = n := by simp [chL]
theorem chL_getD (f : List Int) (n : Nat) (c : List Int) (d : Nat) (h : d < n) : (chL f n c).getD d false = chB f n c (d : Int) := by
  rw [List.getD_eq_getElem?_getD, List.getElem?_eq_getElem (by rw [chL_len]; exact h)]
  simp [chL]
theorem chL_rd (f : List Int) (n : Nat) (c : List Int) (x : Int) (h0 : 0 ≤ x) (h : x < n) : rdOf false (chL f n c) x = chB f n c x := by
  rw [rdOf_nat _ x h0, chL_getD f n c x.toNat (by omega), show ((x.toNat : Nat) : Int) = x by omega]
theorem bl_ext (a b : List Bool) (h : a.length = b.length) (hr : ∀ i : Nat, i < a.length → a.getD i false = b.getD i false) : a = b := by
  refine List.ext_getElem h fun i h1 h2 => ?_
  have := hr i h1
  rw [List.getD_eq_getElem?_getD, List.getD_eq_getElem?_getD, List.getElem?_eq_getElem h1, List.getElem?_eq_getElem h2] at this
  simpa using this
theorem chB_take (f : List Int) (n : Nat) (c : List Int) (i : Nat) (hi : i < c.length) (d : Int) : chB f n (c.take (i + 1)) d = (chB f n (c.take i) d || decide (rd (geL f n n) d = rd c i)) := by
  unfold chB
  rw [take_get c i hi, Bool.eq_iff_iff, Bool.or_eq_true, decide_eq_true_eq, decide_eq_true_eq, decide_eq_true_eq, List.mem_append, List.mem_singleton]
theorem step_ch (f : List Int) (n : Nat) (c : List Int) (i : Nat) (hi : i < c.length) (a b : Nat) (ha : a < n) (hb : b < n) (h : ∀ d : Nat, d < n → (rd (geL f n n) (d : Int) = rd c i ↔ d = a ∨ d = b)) :
    ((chL f n (c.take i)).set a true).set b true = chL f n (c.take (i + 1)) := by
  refine bl_ext _ _ (by simp [chL_len]) fun d hd => ?_
  have hd' : d < n := by simpa [chL_len] using hd
  rw [getD_set _ _ _ _ (by rw [List.length_set, chL_len]; exact hb), getD_set _ _ _ _ (by rw [chL_len]; exact ha), chL_getD _ _ _ d hd', chL_getD _ _ _ d hd', chB_take f n c i hi]
  have e := h d hd'
  by_cases e1 : b = d
  · rw [if_pos e1, decide_eq_true (e.2 (.inr e1.symm)), Bool.or_true]
  · by_cases e2 : a = d
    · rw [if_neg e1, if_pos e2, decide_eq_true (e.2 (.inl e2.symm)), Bool.or_true]
    · rw [if_neg e1, if_neg e2, decide_eq_false (fun z => (e.1 z).elim (fun z => e2 z.symm) (fun z => e1 z.symm)), Bool.or_false]
theorem step_fl (f : List Int) (n : Nat) (c : List Int) (i : Nat) (hi : i < c.length) (a b : Nat) (ha : a < n) (hb : b < n) (hab : rd f a = b) (hba : rd f b = a) (h : ∀ d : Nat, d < n → (rd (geL f n n) (d : Int) = rd c i ↔ d = a ∨ d = b)) :
    ((flC f n (c.take i)).set a (b : Int)).set b (a : Int) = flC f n (c.take (i + 1)) := by
  refine list_ext _ _ (by simp [flC_len]) fun d hd => ?_
  have hd' : d < n := by simpa [flC_len] using hd
  have e := h d hd'
  rw [flC_rd f n _ d hd', chB_take f n c i hi]
  by_cases e1 : b = d
  · subst e1
    rw [rd_set_self _ _ _ (by simpa [flC_len] using hb), decide_eq_true (e.2 (.inr rfl)), Bool.or_true, if_pos rfl, hba]
  · rw [rd_set_ne _ _ _ _ e1]
    by_cases e2 : a = d
    · subst e2
      rw [rd_set_self _ _ _ (by simpa [flC_len] using ha), decide_eq_true (e.2 (.inl rfl)), Bool.or_true, if_pos rfl, hab]
    · rw [rd_set_ne _ _ _ _ e2, flC_rd f n _ d hd', decide_eq_false (fun z => (e.1 z).elim (fun z => e2 z.symm) (fun z => e1 z.symm)), Bool.or_false]
theorem flC_zero (f : List Int) (n : Nat) (c : List Int) : flC f n (c.take 0) = stl n := by
  refine list_ext _ _ (by simp [flC_len, stl_length]) fun d hd => ?_
  have hd' : d < n := by rwa [flC_len] at hd
  rw [flC_rd f n _ d hd', stl_rd n d hd']
  simp [chB]
theorem chL_zero (f : List Int) (n : Nat) (c : List Int) : chL f n (c.take 0) = List.replicate n false := by
  refine bl_ext _ _ (by simp [chL_len]) fun d hd => ?_
  have hd' : d < n := by rwa [chL_len] at hd
  rw [chL_getD f n _ d hd']
  simp [chB, List.getD_eq_getElem?_getD, List.getElem?_replicate, hd']
def pc (o : List Int) : Nat → Nat
  | 0 => 0
  | i + 1 => if (i : Int) = rd o i then pc o i + 1 else pc o i
theorem pc_le (o : List Int) : ∀ i, pc o i ≤ i
  | 0 => Nat.le_refl _
  | i + 1 => by
    have := pc_le o i
    simp only [pc]
    split <;> omega
def bc (C : List (List Int)) (ch : Int → Bool) : Nat → Nat
  | 0 => 0
  | i + 1 => if (rd_L1 C i).any ch = true then bc C ch i else bc C ch i + 1
theorem bc_le (C : List (List Int)) (ch : Int → Bool) : ∀ i, bc C ch i ≤ i
  | 0 => Nat.le_refl _
  | i + 1 => by
    have := bc_le C ch i
    simp only [bc]
    split <;> omega
def sidesN (t f : List Int) (n : Nat) (c : List Int) : Nat := bc (cyS t n n).2 (chB f n c) (cyS t n n).2.length + (ribS (faL t f n c) n (chB f n c) n).2
theorem contF_run (l : List Int) (hl : l.length ≤ 1048576) (f : List Int) (n : Nat) (c : List Int) (hr : ∀ x ∈ l, 0 ≤ x ∧ x < n) : ∀ (d i : Nat), l.length - i = d → i ≤ l.length → ∃ v : Int, Ev (fun k => containsF.l0 k l (chL f n c) i) v ∧ (v ≥ 0 ↔ (l.drop i).any (chB f n c) = true)
  | 0, i, hd, hi => by
    refine ⟨-1, Ev.s ?_, ?_⟩
    · simp only [containsF.l0, show ¬ (i : Int) < (l.length : Int) by omega, if_false]
      exact Ev.const rfl
    · rw [List.drop_eq_nil_of_le (by omega)]
      simp
  | d + 1, i, hd, hi => by
    have hlt : i < l.length := by omega
    have e := rd_lt l i hlt
    have h1 := hr _ (List.getElem_mem hlt)
    rw [← e] at h1
    have g1 : (i : Int) < (l.length : Int) := by omega
    have g2 : (0 : Int) ≤ (i : Int) := by omega
    have g3 := chL_len f n c
    obtain ⟨v, v1, v2⟩ := contF_run l hl f n c hr d (i + 1) (by omega) (by omega)
    cases h : chB f n c (rd l i) with
    | true =>
      refine ⟨i, Ev.s ?_, ?_⟩
      · simp only [containsF.l0, g1, g2, h1.1, g3, h1.2, chL_rd f n c _ h1.1 h1.2, h, if_true]
        exact Ev.const rfl
      · rw [List.drop_eq_getElem_cons hlt, ← e, List.any_cons, h, Bool.true_or]
        exact ⟨fun _ => rfl, fun _ => by omega⟩
    | false =>
      refine ⟨v, Ev.s ?_, ?_⟩
      · simp only [containsF.l0, g1, g2, h1.1, g3, h1.2, chL_rd f n c _ h1.1 h1.2, h, if_true, Bool.false_eq_true, if_false, w64n (show i < 4611686018427387904 by omega)]
        exact v1
      · rw [v2, List.drop_eq_getElem_cons hlt, ← e, List.any_cons, h, Bool.false_or]
theorem contF_ev (l : List Int) (hl : l.length ≤ 1048576) (f : List Int) (n : Nat) (c : List Int) (hr : ∀ x ∈ l, 0 ≤ x ∧ x < n) : Ev (fun k => containsF.f k l (chL f n c)) (l.any (chB f n c)) := by
  obtain ⟨v, v1, v2⟩ := contF_run l hl f n c hr l.length 0 (by omega) (by omega)
  unfold containsF.f
  refine Ev.bind v1 (Ev.const ?_)
  rw [List.drop_zero] at v2
  congr 1
  rw [Bool.eq_iff_iff, decide_eq_true_eq]
  exact v2
theorem cw_ok (p : List Int) (n : Nat) (hp : inR n p) : ∀ (f : Nat) (s : List Bool) (c : List Int) (a : Int), s.length = n → 0 ≤ a → a < n → (∀ x ∈ c, 0 ≤ x ∧ x < n) → (∀ x ∈ (cw p f s c a).2, 0 ≤ x ∧ x < n) ∧ (cw p f s c a).2.length ≤ c.length + f
  | 0, s, c, a, hs, h0, h1, hc => ⟨hc, by simp [cw]⟩
  | f + 1, s, c, a, hs, h0, h1, hc => by
    simp only [cw]
    split
    · exact ⟨hc, by simp only; omega⟩
    · have h5 := hp.2 a.toNat (by omega)
      rw [show ((a.toNat : Nat) : Int) = a by omega] at h5
      have ih := cw_ok p n hp f (s.set a.toNat true) (c ++ [a]) (rd p a) (by simpa using hs) h5.1 h5.2 (fun x hx => by
        rw [List.mem_append, List.mem_singleton] at hx
        exact hx.elim (hc x) (fun e => by rw [e]; exact ⟨h0, h1⟩))
      refine ⟨ih.1, ?_⟩
      have := ih.2
      simp only [List.length_append, List.length_cons, List.length_nil] at this
      omega
theorem cyS_ok (p : List Int) (n : Nat) (hp : inR n p) : ∀ i, i ≤ n → ∀ l ∈ (cyS p n i).2, (∀ x ∈ l, 0 ≤ x ∧ x < n) ∧ l.length ≤ n + 1
  | 0, _, l, hl => by simp [cyS] at hl
  | i + 1, hi, l, hl => by
    have ih := cyS_ok p n hp i (by omega)
    have ok := cw_ok p n hp (n + 1) (cyS p n i).1 [] i (cyS_len p n i) (by omega) (by omega) (by simp)
    simp only [cyS] at hl
    split at hl
    · exact ih l hl
    · rw [List.mem_append, List.mem_singleton] at hl
      rcases hl with hl | rfl
      · exact ih l hl
      · exact ⟨ok.1, by simpa using ok.2⟩
theorem rdL_ok (C : List (List Int)) (P : List Int → Prop) (h : ∀ l ∈ C, P l) (i : Nat) (hi : i < C.length) : P (rd_L1 C i) := by
  rw [rdL_nth C i hi]
  exact h _ (List.getElem_mem hi)
def RibOk (t f c : List Int) (n : Nat) : Prop := n ≤ 12 ∧ 1 ≤ n ∧ inR n t ∧ injR n t ∧ inR n f ∧ (∀ i : Nat, i < n → flipAt f i) ∧ isChoice c ((edL f n).length : Int) ∧ c.length ≤ 1048576
theorem ir_l0 (t f c : List Int) (n : Nat) (H : RibOk t f c n) (m : Int) (r : List Int) (h : Ev (fun k => (impl_orbits.f k [t, flC f n c]).bind fun o => impl_ribbon.l1 k c m (flC f n c) 0 o (o.length : Int) 0 t f (chL f n c)) r) : ∀ (d i : Nat), c.length - i = d → i ≤ c.length → Ev (fun k => impl_ribbon.l0 k c m (flC f n (c.take i)) c c.length i t f (chL f n (c.take i))) r
  | 0, i, hd, hi => by
    obtain ⟨hn, h1, ht, hti, hf, hfl, hc, hcl⟩ := id H
    have : i = c.length := by omega
    subst this
    refine Ev.s ?_
    simp only [impl_ribbon.l0, show ¬ (c.length : Int) < (c.length : Int) by omega, if_false, List.take_length]
    exact h
  | d + 1, i, hd, hi => by
    obtain ⟨hn, h1, ht, hti, hf, hfl, hc, hcl⟩ := id H
    have ih := ir_l0 t f c n H m r h d (i + 1) (by omega) (by omega)
    have hr := choice_range c _ hc i (by omega)
    obtain ⟨a, b, ha, hb, hab, e1, e2, e3, e4⟩ := edge_at f n hf hfl (rd c i).toNat (by omega)
    rw [show (((rd c i).toNat : Nat) : Int) = rd c i by omega] at e1 e4
    rw [← step_ch f n c i (by omega) a b ha hb e4, ← step_fl f n c i (by omega) a b ha hb e2 e3 e4] at ih
    have l1 := chL_len f n (c.take i)
    have l2 := flC_len f n (c.take i)
    refine Ev.s ?_
    simp only [impl_ribbon.l0, show (i : Int) < (c.length : Int) by omega, show (0 : Int) ≤ (i : Int) by omega, if_true]
    refine Ev.bind (implEdges_ev n (by omega) t f hf) ?_
    simp only [hr.1, hr.2, e1, e2, hf.1, l1, l2, show (0 : Int) ≤ (a : Int) by omega, show (a : Int) < (n : Int) by omega, show (0 : Int) ≤ (b : Int) by omega, show (b : Int) < (n : Int) by omega, if_true, w64n (show i < 4611686018427387904 by omega), Int.toNat_natCast]
    exact ih
theorem ir_l1 (t f c : List Int) (n : Nat) (H : RibOk t f c n) (m : Int) (g : List Int) (s : List Bool) (o : List Int) (ho : o.length = n) (r : List Int) (h : Ev (fun k => (impl_cyclesOf.f k t).bind fun C => impl_ribbon.l2 k c m g (pc o n) 0 C (C.length : Int) 0 t f s) r) : ∀ (d i : Nat), n - i = d → i ≤ n → Ev (fun k => impl_ribbon.l1 k c m g (pc o i) o n i t f s) r
  | 0, i, hd, hi => by
    obtain ⟨hn, h1, ht, hti, hf, hfl, hc, hcl⟩ := id H
    have : i = n := by omega
    subst this
    refine Ev.s ?_
    simp only [impl_ribbon.l1, show ¬ (i : Int) < (i : Int) by omega, if_false]
    exact h
  | d + 1, i, hd, hi => by
    obtain ⟨hn, h1, ht, hti, hf, hfl, hc, hcl⟩ := id H
    have ih := ir_l1 t f c n H m g s o ho r h d (i + 1) (by omega) (by omega)
    have hp := pc_le o i
    refine Ev.s ?_
    simp only [impl_ribbon.l1, ho, show (i : Int) < (n : Int) by omega, show (0 : Int) ≤ (i : Int) by omega, if_true, w64n (show i < 4611686018427387904 by omega), w64n (show pc o i < 4611686018427387904 by omega)]
    simp only [pc] at ih
    by_cases e : (i : Int) = rd o i
    · simp only [if_pos e] at ih ⊢; exact ih
    · simp only [if_neg e] at ih ⊢; exact ih
theorem ir_l2 (t f c : List Int) (n : Nat) (H : RibOk t f c n) (g : List Int) (P : Int) (C : List (List Int)) (hC : ∀ l ∈ C, (∀ x ∈ l, 0 ≤ x ∧ x < n) ∧ l.length ≤ n + 1) (hCl : C.length ≤ n) (r : List Int) (h : Ev (fun k => impl_ribbon.l3 k c g P (bc C (chB f n c) C.length) (List.replicate n false) n 0 t f (chL f n c)) r) : ∀ (d i : Nat), C.length - i = d → i ≤ C.length → Ev (fun k => impl_ribbon.l2 k c n g P (bc C (chB f n c) i) C C.length i t f (chL f n c)) r
  | 0, i, hd, hi => by
    obtain ⟨hn, h1, ht, hti, hf, hfl, hc, hcl⟩ := id H
    have : i = C.length := by omega
    subst this
    refine Ev.s ?_
    simp only [impl_ribbon.l2, show ¬ (C.length : Int) < (C.length : Int) by omega, if_false, show (0 : Int) ≤ (n : Int) by omega, if_true, Int.toNat_natCast, show n ≤ 281474976710656 by omega]
    exact h
  | d + 1, i, hd, hi => by
    obtain ⟨hn, h1, ht, hti, hf, hfl, hc, hcl⟩ := id H
    have ih := ir_l2 t f c n H g P C hC hCl r h d (i + 1) (by omega) (by omega)
    have hb := bc_le C (chB f n c) i
    have ok := rdL_ok C _ hC i (by omega)
    refine Ev.s ?_
    simp only [impl_ribbon.l2, show (i : Int) < (C.length : Int) by omega, show (0 : Int) ≤ (i : Int) by omega, if_true, w64n (show i < 4611686018427387904 by omega), w64n (show bc C (chB f n c) i < 4611686018427387904 by omega)]
    refine Ev.bind (contF_ev (rd_L1 C i) (by omega) f n c ok.1) ?_
    simp only [bc] at ih
    by_cases e : (rd_L1 C i).any (chB f n c) = true
    · simp only [if_pos e] at ih ⊢; exact ih
    · simp only [if_neg e] at ih ⊢; exact ih
theorem ir_l5 (t f c : List Int) (n : Nat) (H : RibOk t f c n) (g : List Int) (P S : Int) (s : List Bool) (i : Int) (r : List Int) : ∀ (m : Nat) (x : Int), 0 ≤ x ∧ x < n → (∃ k : Nat, k ≤ m ∧ chB f n c (itr t k x) = true) → Ev (fun k => impl_ribbon.l4 k c g P S s (fc t (chB f n c) m x) n i t f (chL f n c)) r → Ev (fun k => impl_ribbon.l5 k c g P S s x n i t f (chL f n c)) r
  | 0, x, hx, ⟨k, hk, hh⟩, h => by
    obtain ⟨hn, h1, ht, hti, hf, hfl, hc, hcl⟩ := id H
    have : k = 0 := by omega
    subst this
    have hh' : chB f n c x = true := hh
    refine Ev.s ?_
    simp only [impl_ribbon.l5, hx.1, chL_len, hx.2, chL_rd f n c x hx.1 hx.2, hh', if_true]
    exact h
  | m + 1, x, hx, ⟨k, hk, hh⟩, h => by
    obtain ⟨hn, h1, ht, hti, hf, hfl, hc, hcl⟩ := id H
    refine Ev.s ?_
    simp only [impl_ribbon.l5, hx.1, chL_len, hx.2, chL_rd f n c x hx.1 hx.2, ht.1, if_true]
    simp only [fc] at h
    have h5 := ht.2 x.toNat (by omega)
    rw [show ((x.toNat : Nat) : Int) = x by omega] at h5
    by_cases e : chB f n c x = true
    · simp only [if_pos e] at h ⊢; exact h
    · simp only [if_neg e] at h ⊢
      cases k with
      | zero => exact absurd hh e
      | succ k => exact ir_l5 t f c n H g P S s i r m _ h5 ⟨k, by omega, hh⟩ h
theorem ir_l4 (t f c : List Int) (n : Nat) (H : RibOk t f c n) (P S : Int) (i : Nat) (r : List Int) : ∀ (m : Nat) (s : List Bool) (l : List Int) (a : Nat), s.length = n → a < n → chB f n c a = true → fresh s < m → Ev (fun k => impl_ribbon.l3 k c (flC f n c) P S (cw (faL t f n c) m s l a).1 n (wrap64 ((i : Int) + 1)) t f (chL f n c)) r → Ev (fun k => impl_ribbon.l4 k c (flC f n c) P S s a n i t f (chL f n c)) r
  | 0, s, l, a, hs, ha, hca, hm, h => absurd hm (Nat.not_lt_zero _)
  | m + 1, s, l, a, hs, ha, hca, hm, h => by
    obtain ⟨hn, h1, ht, hti, hf, hfl, hc, hcl⟩ := id H
    refine Ev.s ?_
    simp only [cw] at h
    have g1 : (a : Int) < (n : Int) := by omega
    have g2 : (0 : Int) ≤ (a : Int) := by omega
    simp only [impl_ribbon.l4, g2, hs, g1, if_true]
    by_cases e : rdOf false s (a : Int) = true
    · simp only [e, if_true] at h ⊢
      exact h
    · simp only [e, if_false] at h ⊢
      have fl := flC_rd f n c a ha
      rw [if_pos hca] at fl
      have fr := hf.2 a ha
      have tr := ht.2 (rd f a).toNat (by omega)
      rw [show (((rd f a).toNat : Nat) : Int) = rd f a by omega] at tr
      have fx := fa_ch t f n ht hti hf hfl c a ha hca
      have h3 : s.getD a false = false := by
        rw [rdOf_nat s a g2, Int.toNat_natCast] at e
        simpa using e
      have h4 := fresh_set s a (by omega) h3
      simp only [flC_len, g1, fl, fr.1, ht.1, fr.2, if_true, Int.toNat_natCast]
      simp only [Int.toNat_natCast] at h
      refine ir_l5 t f c n H (flC f n c) P S _ i r n _ tr (meets t n ht hti _ _ fr (by rw [chB_flip f n hf hfl c a ha]; exact hca)) ?_
      have fe := faL_rd t f n c a ha
      rw [if_pos hca] at fe
      rw [← fe]
      rw [show rd (faL t f n c) a = (((rd (faL t f n c) a).toNat : Nat) : Int) by omega] at h ⊢
      exact ir_l4 t f c n H P S i r m (s.set a true) (l ++ [(a : Int)]) _ (by simpa using hs) (by omega) (by rw [show (((rd (faL t f n c) a).toNat : Nat) : Int) = rd (faL t f n c) a by omega]; exact fx.1) (by omega) h
def fiveN (P S V c : Int) : List Int := [P, S, wrap64 (V - P), wrap64 (c - wrap64 (V - P)), wrap64 (Int.tdiv (wrap64 (wrap64 (wrap64 (wrap64 (2 * P) - V) + c) - S)) 2)]
theorem ir_l3 (t f c : List Int) (n : Nat) (H : RibOk t f c n) (P : Int) (B : Nat) (hB : B ≤ n) : ∀ (d i : Nat), n - i = d → i ≤ n → Ev (fun k => impl_ribbon.l3 k c (flC f n c) P ((B + (ribS (faL t f n c) n (chB f n c) i).2 : Nat) : Int) (ribS (faL t f n c) n (chB f n c) i).1 n i t f (chL f n c)) (fiveN P ((B + (ribS (faL t f n c) n (chB f n c) n).2 : Nat) : Int) ((cyS t n n).2.length : Int) c.length)
  | 0, i, hd, hi => by
    obtain ⟨hn, h1, ht, hti, hf, hfl, hc, hcl⟩ := id H
    have : i = n := by omega
    subst this
    refine Ev.s ?_
    simp only [impl_ribbon.l3, show ¬ (i : Int) < (i : Int) by omega, if_false]
    exact Ev.bind (implCyc_ev t i (by omega) ht) (Ev.const rfl)
  | d + 1, i, hd, hi => by
    obtain ⟨hn, h1, ht, hti, hf, hfl, hc, hcl⟩ := id H
    have ih := ir_l3 t f c n H P B hB d (i + 1) (by omega) (by omega)
    have l1 := ribS_len (faL t f n c) n (chB f n c) i
    have l2 := ribS_le (faL t f n c) n (chB f n c) i
    have fr := fresh_le (ribS (faL t f n c) n (chB f n c) i).1
    have g1 : (i : Int) < (n : Int) := by omega
    have g2 : (0 : Int) ≤ (i : Int) := by omega
    refine Ev.s ?_
    simp only [impl_ribbon.l3, g1, g2, chL_len, if_true, chL_rd f n c _ g2 g1, l1]
    simp only [ribS] at ih
    have wi : wrap64 ((i : Int) + 1) = ((i + 1 : Nat) : Int) := w64n (by omega)
    cases hci : chB f n c (i : Int) with
    | true =>
      simp only [hci, true_and, if_true] at ih ⊢
      refine Ev.s ?_
      cases hs : (ribS (faL t f n c) n (chB f n c) i).1.getD i false with
      | true =>
        rw [hs] at ih
        simp only [Bool.true_eq_false, if_false] at ih
        simp only [impl_ribbon.j4, rdOf_nat _ _ g2, Int.toNat_natCast, hs, if_true, wi]
        exact ih
      | false =>
        rw [hs] at ih
        simp only [if_true] at ih
        simp only [impl_ribbon.j4, rdOf_nat _ _ g2, Int.toNat_natCast, hs, Bool.false_eq_true, if_false, w64n (show B + (ribS (faL t f n c) n (chB f n c) i).2 < 4611686018427387904 by omega)]
        refine ir_l4 t f c n H P _ i _ (n + 1) _ [] i l1 (by omega) hci (by omega) ?_
        rw [wi]
        exact ih
    | false =>
      simp only [hci, Bool.false_eq_true, false_and, if_false] at ih ⊢
      refine Ev.s ?_
      simp only [impl_ribbon.j4, if_true, wi]
      exact ih
def mixL (A B : List Int) (n i : Nat) : List Int := (List.range n).map fun (d : Nat) => if d < i then rd A (d : Int) else rd B (d : Int)
theorem mixL_len (A B : List Int) (n i : Nat) : (mixL A B n i).length = n := by simp [mixL]
theorem mixL_rd (A B : List Int) (n i d : Nat) (h : d < n) : rd (mixL A B n i) (d : Int) = if d < i then rd A (d : Int) else rd B (d : Int) := by
  rw [rd_lt _ _ (by simp [mixL]; exact h)]
  simp [mixL]
theorem mixL_zero (A B : List Int) (n : Nat) (hB : B.length = n) : mixL A B n 0 = B := by
  refine list_ext _ _ (by rw [mixL_len, hB]) fun d hd => ?_
  rw [mixL_len] at hd
  rw [mixL_rd A B n 0 d hd, if_neg (by omega)]
theorem mixL_all (A B : List Int) (n : Nat) (hA : A.length = n) : mixL A B n n = A := by
  refine list_ext _ _ (by rw [mixL_len, hA]) fun d hd => ?_
  rw [mixL_len] at hd
  rw [mixL_rd A B n n d hd, if_pos hd]
theorem mixL_set (A B : List Int) (n i : Nat) (hi : i < n) : (mixL A B n i).set i (rd A i) = mixL A B n (i + 1) := by
  refine list_ext _ _ (by simp [mixL_len]) fun d hd => ?_
  have hd' : d < n := by simpa [mixL_len] using hd
  rw [mixL_rd A B n (i + 1) d hd']
  by_cases e : i = d
  · subst e
    rw [rd_set_self _ _ _ (by rw [mixL_len]; exact hi), if_pos (by omega)]
  · rw [rd_set_ne _ _ _ _ e, mixL_rd A B n i d hd']
    by_cases e2 : d < i
    · rw [if_pos e2, if_pos (by omega)]
    · rw [if_neg e2, if_neg (by omega)]
theorem mixL_skip (A B : List Int) (n i : Nat) (hi : i < n) (h : rd A i = rd B i) : mixL A B n i = mixL A B n (i + 1) := by
  refine list_ext _ _ (by simp [mixL_len]) fun d hd => ?_
  have hd' : d < n := by simpa [mixL_len] using hd
  rw [mixL_rd A B n (i + 1) d hd', mixL_rd A B n i d hd']
  by_cases e2 : d < i
  · rw [if_pos e2, if_pos (by omega)]
  · rw [if_neg e2]
    by_cases e : d < i + 1
    · have : d = i := by omega
      subst this
      rw [if_pos e, h]
    · rw [if_neg e]
theorem sp_l1 (o : List Int) (n : Nat) (hn : n ≤ 12) (ho : o.length = n) : ∀ (d i : Nat), n - i = d → i ≤ n → Ev (fun k => spec_l7Parts.l1 k o (pc o i) i) (pc o n : Int)
  | 0, i, hd, hi => by
    have : i = n := by omega
    subst this
    refine Ev.s ?_
    simp only [spec_l7Parts.l1, ho, show ¬ (i : Int) < (i : Int) by omega, if_false]
    exact Ev.const rfl
  | d + 1, i, hd, hi => by
    have ih := sp_l1 o n hn ho d (i + 1) (by omega) (by omega)
    have hp := pc_le o i
    refine Ev.s ?_
    simp only [spec_l7Parts.l1, ho, show (i : Int) < (n : Int) by omega, show (0 : Int) ≤ (i : Int) by omega, if_true, w64n (show i < 4611686018427387904 by omega), w64n (show pc o i < 4611686018427387904 by omega)]
    simp only [pc] at ih
    by_cases e : (i : Int) = rd o i
    · simp only [if_pos e] at ih
      simp only [if_pos e.symm]
      exact ih
    · simp only [if_neg e] at ih
      have e' : ¬ rd o i = (i : Int) := fun z => e z.symm
      simp only [if_neg e']
      exact ih
theorem sp_l0 (t f c : List Int) (n : Nat) (H : RibOk t f c n) (r : Int) (h : Ev (fun k => (spec_l1Orbits.f k t (flC f n c)).bind fun o => spec_l7Parts.l1 k o 0 0) r) : ∀ (d i : Nat), n - i = d → i ≤ n → Ev (fun k => spec_l7Parts.l0 k c (mixL (flC f n c) (stl n) n i) (geL f n n) i t f) r
  | 0, i, hd, hi => by
    have : i = n := by omega
    subst this
    refine Ev.s ?_
    simp only [spec_l7Parts.l0, mixL_len, show ¬ (i : Int) < (i : Int) by omega, if_false]
    rw [mixL_all _ _ _ (flC_len f i c)]
    exact h
  | d + 1, i, hd, hi => by
    obtain ⟨hn, h1, ht, hti, hf, hfl, hc, hcl⟩ := id H
    have ih := sp_l0 t f c n H r h d (i + 1) (by omega) (by omega)
    have g1 : (i : Int) < (n : Int) := by omega
    have g2 : (0 : Int) ≤ (i : Int) := by omega
    have fl := flC_rd f n c i (by omega)
    refine Ev.s ?_
    simp only [spec_l7Parts.l0, mixL_len, g1, g2, geL_len, if_true]
    refine Ev.bind (has_ev c hcl (rd (geL f n n) i)) ?_
    rw [show decide (rd (geL f n n) (i : Int) ∈ c) = chB f n c i from rfl]
    simp only [hf.1, g1, if_true, w64n (show i < 4611686018427387904 by omega), Int.toNat_natCast]
    by_cases e : chB f n c i = true
    · rw [if_pos e] at fl
      simp only [if_pos e]
      rw [← mixL_set _ _ _ _ (by omega : i < n), fl] at ih
      exact ih
    · rw [if_neg e] at fl
      simp only [if_neg e]
      rw [← mixL_skip _ _ _ _ (by omega : i < n) (by rw [fl, stl_rd n i (by omega)])] at ih
      exact ih
theorem ribbon_parts (t f c : List Int) (n : Nat) (H : RibOk t f c n) : ∃ o, orbOk [t, flC f n c] n o ∧ Ev (fun k => spec_l7Parts.f k t f c) (pc o n : Int) ∧
    Ev (fun k => impl_ribbon.f k t f c) (fiveN (pc o n) (sidesN t f n c) ((cyS t n n).2.length : Int) c.length) := by
  obtain ⟨hn, h1, ht, hti, hf, hfl, hc, hcl⟩ := id H
  obtain ⟨o, o1, o2, o3⟩ := orb_both t (flC f n c) n hn h1 ht (flC_inR f n hf c)
  have hp : Ev (fun k => spec_l7Parts.f k t f c) (pc o n : Int) := by
    unfold spec_l7Parts.f
    rw [hf.1]
    refine Ev.bind (same_ev n (by omega)) ?_
    refine Ev.bind (specEdges_ev n (by omega) t f hf) ?_
    have := sp_l0 t f c n H _ (Ev.bind o2 (sp_l1 o n hn o1.1.1 n 0 (by omega) (by omega))) n 0 (by omega) (by omega)
    rw [mixL_zero _ _ _ (stl_length n)] at this
    exact this
  refine ⟨o, o1, hp, ?_⟩
  · unfold impl_ribbon.f
    rw [ht.1]
    simp only [show (0 : Int) ≤ (n : Int) by omega, Int.toNat_natCast, show n ≤ 281474976710656 by omega, if_true]
    refine Ev.bind (still_ev n (by omega)) ?_
    have hCl := cyS_many t n n
    have hb := bc_le (cyS t n n).2 (chB f n c) (cyS t n n).2.length
    rw [← flC_zero f n c, ← chL_zero f n c]
    refine ir_l0 t f c n H n _ (Ev.bind o3 ?_) c.length 0 (by omega) (by omega)
    rw [o1.1.1]
    refine ir_l1 t f c n H n _ _ o o1.1.1 _ (Ev.bind (implCyc_ev t n (by omega) ht) ?_) n 0 (by omega) (by omega)
    refine ir_l2 t f c n H _ _ _ (cyS_ok t n ht n (Nat.le_refl _)) hCl _ ?_ _ 0 rfl (by omega)
    exact ir_l3 t f c n H (pc o n) _ (by omega) n 0 (by omega) (by omega)
def Cnt (n : Nat) (P : Nat → Prop) (k : Nat) : Prop := ∃ L : List Nat, L.Nodup ∧ (∀ x, x ∈ L ↔ x < n ∧ P x) ∧ L.length = k
theorem Cnt.ex (P : Nat → Prop) : ∀ n, ∃ k, Cnt n P k ∧ k ≤ n
  | 0 => ⟨0, ⟨[], List.nodup_nil, by simp, rfl⟩, Nat.le_refl _⟩
  | n + 1 => by
    obtain ⟨k, ⟨L, h1, h2, h3⟩, hk⟩ := Cnt.ex P n
    by_cases h : P n
    · refine ⟨k + 1, ⟨n :: L, List.nodup_cons.2 ⟨fun z => by have := ((h2 n).1 z).1; omega, h1⟩, fun x => ?_, by simp [h3]⟩, by omega⟩
      rw [List.mem_cons, h2]
      constructor
      · rintro (rfl | ⟨a, b⟩)
        · exact ⟨by omega, h⟩
        · exact ⟨by omega, b⟩
      · rintro ⟨a, b⟩
        by_cases e : x = n
        · exact .inl e
        · exact .inr ⟨by omega, b⟩
    · refine ⟨k, ⟨L, h1, fun x => ?_, h3⟩, by omega⟩
      rw [h2]
      constructor
      · rintro ⟨a, b⟩; exact ⟨by omega, b⟩
      · rintro ⟨a, b⟩
        by_cases e : x = n
        · exact absurd (e ▸ b) h
        · exact ⟨by omega, b⟩
theorem Cnt.le {n : Nat} {P Q : Nat → Prop} {k l : Nat} (hp : Cnt n P k) (hq : Cnt n Q l) (g : Nat → Nat) (hg : ∀ x, x < n → P x → g x < n ∧ Q (g x)) (hi : ∀ x y, x < n → P x → y < n → P y → g x = g y → x = y) : k ≤ l := by
  obtain ⟨L, h1, h2, rfl⟩ := hp
  obtain ⟨M, m1, m2, rfl⟩ := hq
  rw [← List.length_map (f := g)]
  refine len_le_of_sub _ _ ?_ ?_
  · rw [List.Nodup, List.pairwise_map]
    refine List.Pairwise.imp_of_mem ?_ h1
    intro a b ha hb hab e
    exact hab (hi a b ((h2 a).1 ha).1 ((h2 a).1 ha).2 ((h2 b).1 hb).1 ((h2 b).1 hb).2 e)
  · intro y hy
    obtain ⟨a, ha, rfl⟩ := List.mem_map.1 hy
    exact (m2 _).2 (hg a ((h2 a).1 ha).1 ((h2 a).1 ha).2)
theorem Cnt.sub {n : Nat} {P Q : Nat → Prop} {k l : Nat} (hp : Cnt n P k) (hq : Cnt n Q l) (h : ∀ x, x < n → P x → Q x) : k ≤ l :=
  hp.le hq (fun x => x) (fun x hx px => ⟨hx, h x hx px⟩) (fun _ _ _ _ _ _ e => e)
theorem Cnt.same {n : Nat} {P Q : Nat → Prop} {k l : Nat} (hp : Cnt n P k) (hq : Cnt n Q l) (h : ∀ x, x < n → (P x ↔ Q x)) : k = l :=
  Nat.le_antisymm (hp.sub hq fun x hx => (h x hx).1) (hq.sub hp fun x hx => (h x hx).2)
theorem Cnt.congr {n : Nat} {P Q : Nat → Prop} {k : Nat} (hp : Cnt n P k) (h : ∀ x, x < n → (P x ↔ Q x)) : Cnt n Q k := by
  obtain ⟨L, h1, h2, h3⟩ := hp
  exact ⟨L, h1, fun x => by rw [h2]; exact ⟨fun z => ⟨z.1, (h x z.1).1 z.2⟩, fun z => ⟨z.1, (h x z.1).2 z.2⟩⟩, h3⟩
theorem Cnt.reps {n : Nat} {P Q : Nat → Prop} {k l : Nat} (R : Nat → Nat → Prop) (hs : ∀ x y, R x y → R y x) (ht : ∀ x y z, R x y → R y z → R x z) (hp : Cnt n P k) (hq : Cnt n Q l)
    (h : ∀ x, x < n → P x → ∃ y, y < n ∧ Q y ∧ R x y) (hu : ∀ x y, x < n → P x → y < n → P y → R x y → x = y) : k ≤ l := by
  classical
  refine hp.le hq (fun x => if hx : x < n ∧ P x then Classical.choose (h x hx.1 hx.2) else 0) (fun x hx px => ?_) (fun x y hx px hy py e => ?_)
  · rw [dif_pos ⟨hx, px⟩]
    have := Classical.choose_spec (h x hx px)
    exact ⟨this.1, this.2.1⟩
  · rw [dif_pos ⟨hx, px⟩, dif_pos ⟨hy, py⟩] at e
    have h1 := (Classical.choose_spec (h x hx px)).2.2
    have h2 := (Classical.choose_spec (h y hy py)).2.2
    rw [e] at h1
    exact hu x y hx px hy py (ht _ _ _ h1 (hs _ _ h2))
theorem Cnt.drop {n : Nat} {P Q : Nat → Prop} {k : Nat} (hp : Cnt n P k) (z : Nat) (hz : z < n) (pz : P z) (h : ∀ x, x < n → (Q x ↔ P x ∧ x ≠ z)) : 1 ≤ k ∧ Cnt n Q (k - 1) := by
  obtain ⟨L, h1, h2, rfl⟩ := hp
  have hm : z ∈ L := (h2 z).2 ⟨hz, pz⟩
  have := List.length_pos_of_mem hm
  refine ⟨this, L.erase z, h1.erase z, fun x => ?_, List.length_erase_of_mem hm⟩
  rw [h1.mem_erase_iff, h2]
  constructor
  · rintro ⟨a, b, c⟩; exact ⟨b, (h x b).2 ⟨c, a⟩⟩
  · rintro ⟨a, b⟩; have := (h x a).1 b; exact ⟨this.2, a, this.1⟩
def lst (R : Nat → Nat → Prop) (j : Nat) : Prop := ∀ i, i < j → ¬ R i j
def Cl (n : Nat) (R : Nat → Nat → Prop) (k : Nat) : Prop := Cnt n (lst R) k
theorem lst_ex (R : Nat → Nat → Prop) (hr : ∀ x, R x x) (hs : ∀ x y, R x y → R y x) (ht : ∀ x y z, R x y → R y z → R x z) : ∀ x, ∃ y, y ≤ x ∧ lst R y ∧ R y x := by
  intro x
  induction x using Nat.strongRecOn with
  | ind x ih =>
    by_cases h : ∃ i, i < x ∧ R i x
    · obtain ⟨i, hi, hri⟩ := h
      obtain ⟨y, y1, y2, y3⟩ := ih i hi
      exact ⟨y, by omega, y2, ht _ _ _ y3 hri⟩
    · exact ⟨x, Nat.le_refl _, fun i hi hri => h ⟨i, hi, hri⟩, hr x⟩
theorem lst_uniq (R : Nat → Nat → Prop) (hs : ∀ x y, R x y → R y x) (x y : Nat) (hx : lst R x) (hy : lst R y) (h : R x y) : x = y := by
  by_cases h1 : x < y
  · exact absurd h (hy x h1)
  · by_cases h2 : y < x
    · exact absurd (hs _ _ h) (hx y h2)
    · omega
theorem Cl.merge {n : Nat} {R S : Nat → Nat → Prop} {k : Nat} (hr : ∀ x, R x x) (hs : ∀ x y, R x y → R y x) (ht : ∀ x y z, R x y → R y z → R x z) (hk : Cl n R k) (a b : Nat) (ha : a < n) (hb : b < n) (hab : ¬ R a b)
    (hS : ∀ x y, S x y ↔ R x y ∨ (R x a ∧ R b y) ∨ (R x b ∧ R a y)) : 1 ≤ k ∧ Cl n S (k - 1) := by
  obtain ⟨p, p1, p2, p3⟩ := lst_ex R hr hs ht a
  obtain ⟨q, q1, q2, q3⟩ := lst_ex R hr hs ht b
  have hpq : p ≠ q := by rintro rfl; exact hab (ht _ _ _ (hs _ _ p3) q3)
  have key : ∀ (p q a b : Nat), p < q → lst R p → lst R q → R p a → R q b → q < n → ¬ R a b → (∀ x y, S x y ↔ R x y ∨ (R x a ∧ R b y) ∨ (R x b ∧ R a y)) → 1 ≤ k ∧ Cl n S (k - 1) := by
    intro p q a b hlt p2 q2 p3 q3 hq hab hS
    refine Cnt.drop hk q hq q2 fun x hx => ⟨fun h => ⟨fun i hi z => h i hi ((hS _ _).2 (.inl z)), ?_⟩, fun ⟨h1, h2⟩ i hi z => ?_⟩
    · rintro rfl
      exact h p hlt ((hS _ _).2 (.inr (.inl ⟨p3, hs _ _ q3⟩)))
    · rcases (hS _ _).1 z with z | ⟨z1, z2⟩ | ⟨z1, z2⟩
      · exact h1 i hi z
      · exact h2 (lst_uniq R hs x q h1 q2 (ht _ _ _ (hs _ _ z2) (hs _ _ q3)))
      · have e := lst_uniq R hs x p h1 p2 (ht _ _ _ (hs _ _ z2) (hs _ _ p3))
        subst e
        exact q2 i (by omega) (ht _ _ _ z1 (hs _ _ q3))
  rcases Nat.lt_or_gt_of_ne hpq with h | h
  · exact key p q a b h p2 q2 p3 q3 (by omega) hab hS
  · exact key q p b a h q2 p2 q3 p3 (by omega) (fun z => hab (hs _ _ z)) (fun x y => by rw [hS]; exact ⟨fun z => z.elim .inl (fun z => .inr (z.elim .inr .inl)), fun z => z.elim .inl (fun z => .inr (z.elim .inr .inl))⟩)
theorem closed_of_fwd (p : List Int) (n : Nat) (hp : inR n p) (hi : injR n p) (S : Nat → Prop) (h : ∀ k, k < n → S k → S (rd p k).toNat) : closedL [p] n S := by
  intro q hq k hk
  have e : q = p := by simpa using hq
  subst e
  refine ⟨h k hk, fun hs => ?_⟩
  obtain ⟨m, h1, h2⟩ := itr_back q n hp hi k (by omega)
  have g : ∀ (j : Nat) (x : Int), 0 ≤ x ∧ x < n → S x.toNat → S (itr q j x).toNat := by
    intro j
    induction j with
    | zero => intro x _ h; exact h
    | succ j ih =>
      intro x hx hsx
      have := hp.2 x.toNat (by omega)
      have e := h x.toNat (by omega) hsx
      rw [show ((x.toNat : Nat) : Int) = x by omega] at this e
      exact ih _ this e
  have := g m (rd q k) (hp.2 k hk) hs
  rw [show itr q m (rd q k) = itr q (m + 1) k from rfl, h2] at this
  simpa using this
theorem itr_reach (ps : List (List Int)) (p : List Int) (n : Nat) (hp : inR n p) (hm : p ∈ ps) : ∀ (k : Nat) (x : Int), 0 ≤ x ∧ x < n → Reach ps n x.toNat (itr p k x).toNat
  | 0, x, h => Reach.refl _ _ _
  | k + 1, x, h => by
    have h1 := hp.2 x.toNat (by omega)
    have h2 := Reach.step (ps := ps) (n := n) hm (k := x.toNat) (by omega)
    rw [show ((x.toNat : Nat) : Int) = x by omega] at h1 h2
    exact h2.trans (itr_reach ps p n hp hm k _ h1)
theorem reach_itr (p : List Int) (n : Nat) (hp : inR n p) (hi : injR n p) (a b : Nat) (ha : a < n) (h : Reach [p] n a b) : ∃ k : Nat, itr p k (rd p a) = b := by
  have hc := closed_of_fwd p n hp hi (fun x => ∃ k : Nat, itr p k (rd p a) = x) (fun k hk ⟨m, hm⟩ => ⟨m + 1, by
    rw [itr_add p m 1, hm]
    have := hp.2 k hk
    show rd p k = _
    omega⟩)
  obtain ⟨m, h1, h2⟩ := itr_back p n hp hi a (by omega)
  exact (h _ hc).1 ⟨m, h2⟩
theorem first_itr (p : List Int) (x : Int) (b : Int) (k : Nat) (h : itr p k x = b) : ∃ m, m ≤ k ∧ itr p m x = b ∧ ∀ j, j < m → itr p j x ≠ b := by
  induction k using Nat.strongRecOn with
  | ind k ih =>
    by_cases e : ∃ j, j < k ∧ itr p j x = b
    · obtain ⟨j, h1, h2⟩ := e
      obtain ⟨m, m1, m2, m3⟩ := ih j h1 h2
      exact ⟨m, by omega, m2, m3⟩
    · exact ⟨k, Nat.le_refl _, h, fun j hj z => e ⟨j, hj, z⟩⟩
def Exch (n : Nat) (p q : List Int) (a b : Nat) : Prop := a < n ∧ b < n ∧ a ≠ b ∧ rd q a = rd p b ∧ rd q b = rd p a ∧ ∀ x : Nat, x < n → x ≠ a → x ≠ b → rd q x = rd p x
theorem Exch.symm {n : Nat} {p q : List Int} {a b : Nat} (h : Exch n p q a b) : Exch n q p a b := ⟨h.1, h.2.1, h.2.2.1, h.2.2.2.2.1.symm, h.2.2.2.1.symm, fun x hx h1 h2 => (h.2.2.2.2.2 x hx h1 h2).symm⟩
theorem exch_join {n : Nat} {p q : List Int} {a b : Nat} (hp : inR n p) (hq : inR n q) (ip : injR n p) (iq : injR n q) (h : Exch n p q a b) (hab : ¬ Reach [p] n a b) : Reach [q] n a b := by
  obtain ⟨ha, hb, hne, e1, e2, e3⟩ := h
  obtain ⟨k, hk⟩ := reach_itr p n hp ip b b hb (Reach.refl _ _ _)
  obtain ⟨m, m1, m2, m3⟩ := first_itr p (rd p b) b k hk
  have pb := hp.2 b hb
  have run : ∀ j, j ≤ m → Reach [q] n a (itr p j (rd p b)).toNat := by
    intro j
    induction j with
    | zero =>
      intro _
      have := Reach.step (ps := [q]) (n := n) (p := q) (by simp) ha
      rw [e1] at this
      exact this
    | succ j ih =>
      intro hj
      have h1 := ih (by omega)
      have h2 := itr_in p n hp j _ pb
      have h3 := m3 j (by omega)
      have h4 : (itr p j (rd p b)).toNat ≠ a := by
        intro e
        apply hab
        have z := itr_reach [p] p n hp (by simp) (j + 1) (b : Int) (by omega)
        rw [show itr p (j + 1) (b : Int) = itr p j (rd p b) from rfl, e] at z
        exact z.symm
      have s := Reach.step (ps := [q]) (n := n) (p := q) (by simp) (k := (itr p j (rd p b)).toNat) (by omega)
      rw [e3 _ (by omega) h4 (by omega), show (((itr p j (rd p b)).toNat : Nat) : Int) = itr p j (rd p b) by omega] at s
      rw [itr_add p j 1]
      exact h1.trans s
  have := run m (Nat.le_refl _)
  rw [m2] at this
  exact this
theorem exch_split {n : Nat} {p q : List Int} {a b : Nat} (hp : inR n p) (hq : inR n q) (ip : injR n p) (iq : injR n q) (h : Exch n p q a b) (hab : Reach [p] n a b) : ¬ Reach [q] n a b := by
  obtain ⟨ha, hb, hne, e1, e2, e3⟩ := h
  obtain ⟨k, hk⟩ := reach_itr p n hp ip b a hb hab.symm
  obtain ⟨m, m1, m2, m3⟩ := first_itr p (rd p b) a k hk
  have pb := hp.2 b hb
  have nb : ∀ j, j ≤ m → itr p j (rd p b) ≠ b := by
    intro j hj e
    by_cases ej : j = m
    · rw [ej, m2] at e
      omega
    · have : itr p (m - j - 1) (rd p b) = a := by
        have z : itr p m (rd p b) = itr p (m - j - 1) (rd p (itr p j (rd p b))) := by
          rw [show m = j + (1 + (m - j - 1)) by omega, itr_add, itr_add p 1]
          rw [show j + (1 + (m - j - 1)) - j - 1 = m - j - 1 by omega]
          rfl
        rw [e, m2] at z
        exact z.symm
      exact m3 (m - j - 1) (by omega) this
  have hc := closed_of_fwd q n hq iq (fun x => ∃ j, j ≤ m ∧ itr p j (rd p b) = x) (fun x hx ⟨j, hj, hjx⟩ => by
    have qx := hq.2 x hx
    by_cases ex : x = a
    · subst ex
      exact ⟨0, by omega, by rw [e1]; show rd p b = _; omega⟩
    · have hxb : x ≠ b := by
        intro e
        exact nb j hj (by rw [hjx, e])
      have jm : j ≠ m := by
        rintro rfl
        rw [m2] at hjx
        omega
      refine ⟨j + 1, by omega, ?_⟩
      rw [itr_add p j 1, hjx, e3 x hx ex hxb]
      have := hp.2 x hx
      show rd p x = _
      omega)
  intro hr
  obtain ⟨j, hj, hjb⟩ := (hr _ hc).1 ⟨m, Nat.le_refl _, m2⟩
  exact nb j hj hjb
theorem Cl.ex (n : Nat) (R : Nat → Nat → Prop) : ∃ k, Cl n R k ∧ k ≤ n := Cnt.ex _ n
theorem Cl.uniq {n : Nat} {R : Nat → Nat → Prop} {k l : Nat} (h : Cl n R k) (h' : Cl n R l) : k = l := Cnt.same h h' fun _ _ => Iff.rfl
theorem exch_rel {n : Nat} {p q : List Int} {a b : Nat} (hp : inR n p) (hq : inR n q) (ip : injR n p) (iq : injR n q) (h : Exch n p q a b) (hab : ¬ Reach [p] n a b) (x y : Nat) :
    Reach [q] n x y ↔ Reach [p] n x y ∨ (Reach [p] n x a ∧ Reach [p] n b y) ∨ (Reach [p] n x b ∧ Reach [p] n a y) := by
  have hj := exch_join hp hq ip iq h hab
  obtain ⟨ha, hb, hne, e1, e2, e3⟩ := h
  have up : ∀ x y, Reach [p] n x y → Reach [q] n x y := by
    intro x y hr S hS
    refine hr S fun r hr' k hk => ?_
    have : r = p := by simpa using hr'
    subst this
    have sq := hS q (by simp)
    by_cases ka : k = a
    · subst ka
      have z := sq b hb
      rw [e2] at z
      exact (hj S hS).trans z
    · by_cases kb : k = b
      · subst kb
        have z := sq a ha
        rw [e1] at z
        exact (hj S hS).symm.trans z
      · have z := sq k hk
        rw [e3 k hk ka kb] at z
        exact z
  constructor
  · intro hr
    have hc : closedL [q] n (fun z => Reach [p] n x z ∨ (Reach [p] n x a ∧ Reach [p] n b z) ∨ (Reach [p] n x b ∧ Reach [p] n a z)) := by
      refine closed_of_fwd q n hq iq _ fun k hk hz => ?_
      have stp : ∀ z, z < n → Reach [p] n z (rd p z).toNat := fun z hz => Reach.step (by simp) hz
      by_cases ka : k = a
      · subst ka
        rw [e1]
        rcases hz with z | ⟨z1, z2⟩ | ⟨z1, z2⟩
        · exact .inr (.inl ⟨z, stp b hb⟩)
        · exact .inr (.inl ⟨z1, stp b hb⟩)
        · exact .inl (z1.trans (stp b hb))
      · by_cases kb : k = b
        · subst kb
          rw [e2]
          rcases hz with z | ⟨z1, z2⟩ | ⟨z1, z2⟩
          · exact .inr (.inr ⟨z, stp a ha⟩)
          · exact .inl (z1.trans (stp a ha))
          · exact .inr (.inr ⟨z1, stp a ha⟩)
        · rw [e3 k hk ka kb]
          have s := stp k hk
          rcases hz with z | ⟨z1, z2⟩ | ⟨z1, z2⟩
          · exact .inl (z.trans s)
          · exact .inr (.inl ⟨z1, z2.trans s⟩)
          · exact .inr (.inr ⟨z1, z2.trans s⟩)
    exact (hr _ hc).1 (.inl (Reach.refl _ _ _))
  · rintro (z | ⟨z1, z2⟩ | ⟨z1, z2⟩)
    · exact up _ _ z
    · exact (up _ _ z1).trans (hj.trans (up _ _ z2))
    · exact (up _ _ z1).trans (hj.symm.trans (up _ _ z2))
theorem exch_count {n : Nat} {p q : List Int} {a b k l : Nat} (hp : inR n p) (hq : inR n q) (ip : injR n p) (iq : injR n q) (h : Exch n p q a b) (hk : Cl n (Reach [p] n) k) (hl : Cl n (Reach [q] n) l) :
    (¬ Reach [p] n a b → l + 1 = k) ∧ (Reach [p] n a b → l = k + 1) := by
  have sy : ∀ p : List Int, ∀ x y, Reach [p] n x y → Reach [p] n y x := fun p x y h => h.symm
  have tr : ∀ p : List Int, ∀ x y z, Reach [p] n x y → Reach [p] n y z → Reach [p] n x z := fun p x y z h h' => h.trans h'
  constructor
  · intro hab
    have := Cl.merge (S := Reach [q] n) (fun x => Reach.refl _ _ x) (sy p) (tr p) hk a b h.1 h.2.1 hab (exch_rel hp hq ip iq h hab)
    have e := Cl.uniq hl this.2
    omega
  · intro hab
    have hab' := exch_split hp hq ip iq h hab
    have := Cl.merge (S := Reach [p] n) (fun x => Reach.refl _ _ x) (sy q) (tr q) hl a b h.1 h.2.1 hab' (exch_rel hq hp iq ip h.symm hab')
    have e := Cl.uniq hk this.2
    omega
theorem cw_ends (p : List Int) (n : Nat) (hp : inR n p) (a0 : Nat) (ha0 : a0 < n) (s0 : Nat → Prop) : ∀ (m : Nat) (s : List Bool) (c : List Int) (a : Nat), s.length = n → a < n → fresh s < m →
    (∀ x, x < n → s.getD x false = true → s.getD (rd p x).toNat false = true ∨ (rd p x).toNat = a) → Reach [p] n a0 a → (∀ x, x < n → s.getD x false = true → s0 x ∨ Reach [p] n a0 x) → (∀ x, s0 x → s.getD x false = true) → (s.getD a0 false = true ∨ a = a0) → (∀ x ∈ c, 0 ≤ x ∧ x < n ∧ Reach [p] n a0 x.toNat) → (a0 ≠ a → (a0 : Int) ∈ c) → (∀ x, x < n → s.getD x false = true → s0 x ∨ (x : Int) ∈ c) →
    (∀ x, x < n → (cw p m s c a).1.getD x false = true → (cw p m s c a).1.getD (rd p x).toNat false = true) ∧ (∀ x, x < n → (cw p m s c a).1.getD x false = true → s0 x ∨ Reach [p] n a0 x) ∧ (∀ x, s0 x → (cw p m s c a).1.getD x false = true) ∧ (cw p m s c a).1.getD a0 false = true ∧ (∀ x ∈ (cw p m s c a).2, 0 ≤ x ∧ x < n ∧ Reach [p] n a0 x.toNat) ∧ (∀ x, x < n → (cw p m s c a).1.getD x false = true → s0 x ∨ (x : Int) ∈ (cw p m s c a).2)
  | 0, s, c, a, hs, ha, hm, h1, h2, h3, h4, h5, h6, h7, h8 => absurd hm (Nat.not_lt_zero _)
  | m + 1, s, c, a, hs, ha, hm, h1, h2, h3, h4, h5, h6, h7, h8 => by
    simp only [cw]
    rw [rdOf_nat s a (by omega), Int.toNat_natCast]
    by_cases e : s.getD a false = true
    · rw [if_pos e]
      refine ⟨fun x hx hsx => (h1 x hx hsx).elim id (fun z => by rw [z]; exact e), h3, h4, h5.elim id (fun z => by rw [← z]; exact e), h6, h8⟩
    · rw [if_neg e]
      have pr := hp.2 a ha
      have e0 : s.getD a false = false := by simpa using e
      have fr := fresh_set s a (by omega) e0
      have back : (((rd p a).toNat : Nat) : Int) = rd p a := by omega
      have st := Reach.step (ps := [p]) (n := n) (p := p) (by simp) ha
      have ih := cw_ends p n hp a0 ha0 s0 m (s.set a true) (c ++ [(a : Int)]) (rd p a).toNat (by simpa using hs) (by omega) (by omega)
        (fun x hx hsx => by
          rw [getD_set _ _ _ _ (by omega)] at hsx ⊢
          by_cases z : a = x
          · subst z; exact .inr rfl
          · rw [if_neg z] at hsx
            by_cases y : a = (rd p x).toNat
            · rw [if_pos y]; exact .inl rfl
            · rw [if_neg y]
              exact .inl ((h1 x hx hsx).elim id (fun q => absurd q.symm y)))
        (h2.trans st)
        (fun x hx hsx => by
          rw [getD_set _ _ _ _ (by omega)] at hsx
          by_cases z : a = x
          · subst z; exact .inr h2
          · rw [if_neg z] at hsx
            exact h3 x hx hsx)
        (fun x hx => by
          rw [getD_set _ _ _ _ (by omega)]
          split
          · rfl
          · exact h4 x hx)
        (.inl (by
          rw [getD_set _ _ _ _ (by omega)]
          by_cases z : a = a0
          · rw [if_pos z]
          · rw [if_neg z]
            exact h5.elim id (fun q => absurd q z)))
        (fun x hx => by
          rw [List.mem_append, List.mem_singleton] at hx
          rcases hx with hx | rfl
          · exact h6 x hx
          · exact ⟨by omega, by omega, by rw [Int.toNat_natCast]; exact h2⟩)
        (fun _ => by
          rw [List.mem_append, List.mem_singleton]
          by_cases z : a0 = a
          · right; rw [z]
          · exact .inl (h7 z))
        (fun x hx hsx => by
          rw [List.mem_append, List.mem_singleton]
          rw [getD_set _ _ _ _ (by omega)] at hsx
          by_cases z : a = x
          · subst z; exact .inr (.inr rfl)
          · rw [if_neg z] at hsx
            exact (h8 x hx hsx).imp id .inl)
      rw [back] at ih
      exact ih
theorem cyS_seen (p : List Int) (n : Nat) (hp : inR n p) (hi : injR n p) : ∀ i, i ≤ n → ∀ x, x < n → ((cyS p n i).1.getD x false = true ↔ ∃ j, j < i ∧ Reach [p] n j x)
  | 0, _, x, hx => by
    constructor
    · intro h
      simp [cyS, List.getD_eq_getElem?_getD, List.getElem?_replicate, hx] at h
    · rintro ⟨j, hj, _⟩; omega
  | i + 1, hi', x, hx => by
    have ih := cyS_seen p n hp hi i (by omega)
    have l1 := cyS_len p n i
    simp only [cyS]
    by_cases e : (cyS p n i).1.getD i false = true
    · rw [cw_seen p (n + 1) _ _ _ (by rw [rdOf_nat _ _ (by omega), Int.toNat_natCast]; exact e)]
      rw [ih x hx]
      obtain ⟨q, q1, q2⟩ := (ih i (by omega)).1 e
      constructor
      · rintro ⟨j, hj, h⟩; exact ⟨j, by omega, h⟩
      · rintro ⟨j, hj, h⟩
        by_cases z : j = i
        · subst z; exact ⟨q, q1, q2.trans h⟩
        · exact ⟨j, by omega, h⟩
    · obtain ⟨w1, w2, w3, w4, w5, w6⟩ := cw_ends p n hp i (by omega) (fun x => x < n ∧ (cyS p n i).1.getD x false = true) (n + 1) (cyS p n i).1 [] i l1 (by omega) (by have := fresh_le (cyS p n i).1; omega)
        (fun y hy hsy => .inl (by
          have pr := hp.2 y hy
          obtain ⟨j, hj, h⟩ := (ih y hy).1 hsy
          exact (ih _ (by omega)).2 ⟨j, hj, h.trans (Reach.step (by simp) hy)⟩))
        (Reach.refl _ _ _) (fun y hy hsy => .inl ⟨hy, hsy⟩) (fun y hy => hy.2) (.inr rfl) (by simp) (fun z => absurd rfl z) (fun y hy hsy => .inl ⟨hy, hsy⟩)
      constructor
      · intro h
        rcases w2 x hx h with ⟨_, h⟩ | h
        · obtain ⟨j, hj, h⟩ := (ih x hx).1 h
          exact ⟨j, by omega, h⟩
        · exact ⟨i, by omega, h⟩
      · rintro ⟨j, hj, h⟩
        by_cases z : j = i
        · subst z
          have hc := closed_of_fwd p n hp hi (fun y => (cw p (n + 1) (cyS p n j).1 [] j).1.getD y false = true) w1
          exact (h _ hc).1 w4
        · exact w3 x ⟨hx, (ih x hx).2 ⟨j, by omega, h⟩⟩
theorem Cnt.succ_yes {P : Nat → Prop} {i n k : Nat} (h : Cnt n (fun x => x < i ∧ P x) k) (hi : i < n) (hp : P i) : Cnt n (fun x => x < i + 1 ∧ P x) (k + 1) := by
  obtain ⟨L, h1, h2, h3⟩ := h
  refine ⟨i :: L, List.nodup_cons.2 ⟨fun z => by have := ((h2 i).1 z).2.1; omega, h1⟩, fun x => ?_, by simp [h3]⟩
  rw [List.mem_cons, h2]
  constructor
  · rintro (rfl | ⟨a, b, c⟩)
    · exact ⟨hi, by omega, hp⟩
    · exact ⟨a, by omega, c⟩
  · rintro ⟨a, b, c⟩
    by_cases e : x = i
    · exact .inl e
    · exact .inr ⟨a, by omega, c⟩
theorem Cnt.succ_no {P : Nat → Prop} {i n k : Nat} (h : Cnt n (fun x => x < i ∧ P x) k) (hp : ¬ P i) : Cnt n (fun x => x < i + 1 ∧ P x) k := by
  refine h.congr fun x hx => ⟨fun ⟨a, b⟩ => ⟨by omega, b⟩, fun ⟨a, b⟩ => ⟨?_, b⟩⟩
  by_cases e : x = i
  · exact absurd (e ▸ b) hp
  · omega
theorem Cnt.none {P : Nat → Prop} {n : Nat} (h : ∀ x, x < n → ¬ P x) : Cnt n P 0 := ⟨[], List.nodup_nil, fun x => ⟨fun z => by simp at z, fun z => absurd z.2 (h x z.1)⟩, rfl⟩
theorem cyS_cnt (p : List Int) (n : Nat) (hp : inR n p) (hi : injR n p) (ch : Int → Bool) : ∀ i, i ≤ n → Cnt n (fun x => x < i ∧ lst (Reach [p] n) x) (cyS p n i).2.length ∧ Cnt n (fun x => x < i ∧ (lst (Reach [p] n) x ∧ ∀ y, y < n → ch (y : Int) = true → ¬ Reach [p] n x y)) (bc (cyS p n i).2 ch (cyS p n i).2.length)
  | 0, _ => ⟨Cnt.none fun x _ z => by omega, Cnt.none fun x _ z => by omega⟩
  | i + 1, hi' => by
    obtain ⟨ih1, ih2⟩ := cyS_cnt p n hp hi ch i (by omega)
    have seen := cyS_seen p n hp hi i (by omega) i (by omega)
    have l1 := cyS_len p n i
    simp only [cyS]
    by_cases e : (cyS p n i).1.getD i false = true
    · rw [cw_seen p (n + 1) _ _ _ (by rw [rdOf_nat _ _ (by omega), Int.toNat_natCast]; exact e)]
      rw [if_pos rfl]
      obtain ⟨j, hj, h⟩ := seen.1 e
      have nl : ¬ lst (Reach [p] n) i := fun z => z j hj h
      exact ⟨ih1.succ_no nl, ih2.succ_no fun z => nl z.1⟩
    · have e' : ¬ rdOf false (cyS p n i).1 (i : Int) = true := by rw [rdOf_nat _ _ (by omega), Int.toNat_natCast]; exact e
      have hl : lst (Reach [p] n) i := fun j hj h => e (seen.2 ⟨j, hj, h⟩)
      obtain ⟨w1, w2, w3, w4, w5, w6⟩ := cw_ends p n hp i (by omega) (fun x => x < n ∧ (cyS p n i).1.getD x false = true) (n + 1) (cyS p n i).1 [] i l1 (by omega) (by have := fresh_le (cyS p n i).1; omega)
        (fun y hy hsy => .inl (by
          have pr := hp.2 y hy
          obtain ⟨j, hj, h⟩ := (cyS_seen p n hp hi i (by omega) y hy).1 hsy
          exact (cyS_seen p n hp hi i (by omega) _ (by omega)).2 ⟨j, hj, h.trans (Reach.step (by simp) hy)⟩))
        (Reach.refl _ _ _) (fun y hy hsy => .inl ⟨hy, hsy⟩) (fun y hy => hy.2) (.inr rfl) (by simp) (fun z => absurd rfl z) (fun y hy hsy => .inl ⟨hy, hsy⟩)
      have hc := closed_of_fwd p n hp hi (fun y => (cw p (n + 1) (cyS p n i).1 [] i).1.getD y false = true) w1
      rw [if_neg (cw_new p n _ i e')]
      rw [List.length_append, List.length_singleton]
      refine ⟨ih1.succ_yes (by omega) hl, ?_⟩
      have bcp : ∀ (L : List (List Int)) (q : List Int) (j : Nat), j ≤ L.length → bc (L ++ [q]) ch j = bc L ch j := by
        intro L q j
        induction j with
        | zero => intro _; rfl
        | succ j ih =>
          intro hj
          simp only [bc]
          rw [ih (by omega), rdL_nth _ j (by simp; omega), rdL_nth L j (by omega), List.getElem_append_left (by omega)]
      have bcs : ∀ (L : List (List Int)) (q : List Int), bc (L ++ [q]) ch (L.length + 1) = if q.any ch = true then bc L ch L.length else bc L ch L.length + 1 := by
        intro L q
        simp only [bc]
        rw [bcp L q L.length (Nat.le_refl _), rdL_nth _ L.length (by simp), List.getElem_append_right (Nat.le_refl _)]
        simp
      rw [bcs]
      have key : (cw p (n + 1) (cyS p n i).1 [] i).2.any ch = true ↔ ∃ y, y < n ∧ ch (y : Int) = true ∧ Reach [p] n i y := by
        rw [List.any_eq_true]
        constructor
        · rintro ⟨x, hx, hcx⟩
          obtain ⟨a, b, c⟩ := w5 x hx
          exact ⟨x.toNat, by omega, by rw [show ((x.toNat : Nat) : Int) = x by omega]; exact hcx, c⟩
        · rintro ⟨y, hy, hcy, h⟩
          have z := (h _ hc).1 w4
          rcases w6 y hy z with ⟨_, z⟩ | z
          · obtain ⟨j, hj, hr⟩ := (cyS_seen p n hp hi i (by omega) y hy).1 z
            exact absurd (hr.trans h.symm) (hl j hj)
          · exact ⟨y, z, hcy⟩
      by_cases ea : (cw p (n + 1) (cyS p n i).1 [] i).2.any ch = true
      · rw [if_pos ea]
        obtain ⟨y, hy, hcy, h⟩ := key.1 ea
        exact ih2.succ_no fun z => z.2 y hy hcy h
      · rw [if_neg ea]
        exact ih2.succ_yes (by omega) ⟨hl, fun y hy hcy h => ea (key.2 ⟨y, hy, hcy, h⟩)⟩
theorem cyS_cl (p : List Int) (n : Nat) (hp : inR n p) (hi : injR n p) : Cl n (Reach [p] n) (cyS p n n).2.length :=
  (cyS_cnt p n hp hi (fun _ => false) n (Nat.le_refl _)).1.congr fun x hx => ⟨fun z => z.2, fun z => ⟨hx, z⟩⟩
def sgL (t f : List Int) (n : Nat) (c : List Int) : List Int := (List.range n).map fun (d : Nat) => rd t (rd (flC f n c) (d : Int))
theorem sgL_len (t f : List Int) (n : Nat) (c : List Int) : (sgL t f n c).length = n := by simp [sgL]
theorem sgL_rd (t f : List Int) (n : Nat) (c : List Int) (d : Nat) (h : d < n) : rd (sgL t f n c) (d : Int) = rd t (rd (flC f n c) (d : Int)) := by
  rw [rd_lt _ _ (by simp [sgL]; exact h)]
  simp [sgL]
theorem sgL_inR (t f : List Int) (n : Nat) (ht : inR n t) (hf : inR n f) (c : List Int) : inR n (sgL t f n c) := by
  refine ⟨sgL_len t f n c, fun i hi => ?_⟩
  rw [sgL_rd t f n c i hi]
  have h1 := (flC_inR f n hf c).2 i hi
  have h2 := ht.2 (rd (flC f n c) i).toNat (by omega)
  rwa [show (((rd (flC f n c) i).toNat : Nat) : Int) = rd (flC f n c) i by omega] at h2
theorem flC_inj (f : List Int) (n : Nat) (hf : inR n f) (hfl : ∀ i : Nat, i < n → flipAt f i) (c : List Int) : injR n (flC f n c) := by
  have inv : ∀ i : Nat, i < n → rd (flC f n c) (rd (flC f n c) i) = i := by
    intro i hi
    have h1 := hf.2 i hi
    have h3 := chB_flip f n hf hfl c i hi
    rw [flC_rd f n c i hi]
    by_cases e : chB f n c i = true
    · rw [if_pos e]
      have := flC_rd f n c (rd f i).toNat (by omega)
      rw [show (((rd f i).toNat : Nat) : Int) = rd f i by omega, h3, if_pos e] at this
      rw [this, (hfl i hi).2]
    · rw [if_neg e, flC_rd f n c i hi, if_neg e]
  intro i j hi hj e
  have := inv i hi
  rw [e, inv j hj] at this
  omega
theorem sgL_inj (t f : List Int) (n : Nat) (ht : inR n t) (hti : injR n t) (hf : inR n f) (hfl : ∀ i : Nat, i < n → flipAt f i) (c : List Int) : injR n (sgL t f n c) := by
  intro i j hi hj e
  rw [sgL_rd t f n c i hi, sgL_rd t f n c j hj] at e
  have h1 := (flC_inR f n hf c).2 i hi
  have h2 := (flC_inR f n hf c).2 j hj
  have e1 : (((rd (flC f n c) i).toNat : Nat) : Int) = rd (flC f n c) i := by omega
  have e2 : (((rd (flC f n c) j).toNat : Nat) : Int) = rd (flC f n c) j := by omega
  rw [← e1, ← e2] at e
  have := hti _ _ (by omega) (by omega) e
  exact flC_inj f n hf hfl c i j hi hj (by omega)
theorem perm_injR (l : List Int) (h : isPerm l) : injR l.length l := by
  intro i j hi hj e
  by_cases h1 : i < j
  · exact absurd e ((h.2.2 j hj).2.2 i h1)
  · by_cases h2 : j < i
    · exact absurd e.symm ((h.2.2 i hi).2.2 j h2)
    · omega
theorem ribOk_of (t f c : List Int) (h : isMap t f) (hc : isChoice c ((f.length : Int) / 2)) (hcl : c.length ≤ 1048576) : RibOk t f c t.length := by
  obtain ⟨pt, pf, e, fl, _⟩ := h
  have hf : inR t.length f := by rw [e]; exact isPerm_inR f pf
  have hfl : ∀ i : Nat, i < t.length → flipAt f i := fun i hi => fl i (by omega)
  refine ⟨pt.2.1, pt.1, isPerm_inR t pt, perm_injR t pt, hf, hfl, ?_, hcl⟩
  have := edL_half f t.length hf hfl
  rw [show (((edL f t.length).length : Nat) : Int) = (f.length : Int) / 2 by omega]
  exact hc
theorem five_len (P S V c : Int) : (fiveN P S V c).length = 5 := rfl
def vt (C : List (List Int)) (n : Nat) : Nat → List Int
  | 0 => List.replicate n 0
  | q + 1 => (rd_L1 C q).foldl (fun o d => o.set d.toNat (q : Int)) (vt C n q)
theorem fold_len (v : Int) : ∀ (l o : List Int), (l.foldl (fun o d => o.set d.toNat v) o).length = o.length
  | [], o => rfl
  | x :: l, o => by
    rw [List.foldl_cons, fold_len v l]
    simp
theorem vt_len (C : List (List Int)) (n : Nat) : ∀ q, (vt C n q).length = n
  | 0 => by simp [vt]
  | q + 1 => by
    simp only [vt]
    rw [fold_len, vt_len C n q]
theorem sv_l1 (C : List (List Int)) (n q : Nat) (hn : n ≤ 12) (hq : q < C.length) (hl : (∀ x ∈ rd_L1 C q, 0 ≤ x ∧ x < n) ∧ (rd_L1 C q).length ≤ n + 1) (r : List Int) : ∀ (d i : Nat) (o : List Int), (rd_L1 C q).length - i = d → i ≤ (rd_L1 C q).length → o.length = n →
    Ev (fun k => spec_l7Vertices.l0 k (((rd_L1 C q).drop i).foldl (fun o d => o.set d.toNat (q : Int)) o) C (wrap64 ((q : Int) + 1))) r → Ev (fun k => spec_l7Vertices.l1 k o C q i) r
  | 0, i, o, hd, hi, ho, h => by
    have : i = (rd_L1 C q).length := by omega
    rw [List.drop_eq_nil_of_le (by omega)] at h
    refine Ev.s ?_
    simp only [spec_l7Vertices.l1, show (0 : Int) ≤ (q : Int) by omega, show (q : Int) < (C.length : Int) by omega, show ¬ (i : Int) < ((rd_L1 C q).length : Int) by omega, if_true, if_false]
    exact h
  | d + 1, i, o, hd, hi, ho, h => by
    have hlt : i < (rd_L1 C q).length := by omega
    have e := rd_lt _ i hlt
    have hr := hl.1 _ (List.getElem_mem hlt)
    rw [List.drop_eq_getElem_cons hlt, List.foldl_cons, ← e] at h
    rw [← e] at hr
    refine Ev.s ?_
    simp only [spec_l7Vertices.l1, show (0 : Int) ≤ (q : Int) by omega, show (q : Int) < (C.length : Int) by omega, show (i : Int) < ((rd_L1 C q).length : Int) by omega, show (0 : Int) ≤ (i : Int) by omega, hr.1, ho, hr.2, if_true, w64n (show i < 4611686018427387904 by omega)]
    exact sv_l1 C n q hn hq hl r d (i + 1) _ (by omega) (by omega) (by simpa using ho) h
theorem sv_l0 (C : List (List Int)) (n : Nat) (hn : n ≤ 12) (hC : ∀ l ∈ C, (∀ x ∈ l, 0 ≤ x ∧ x < n) ∧ l.length ≤ n + 1) (hCl : C.length ≤ n) : ∀ (d q : Nat), C.length - q = d → q ≤ C.length → Ev (fun k => spec_l7Vertices.l0 k (vt C n q) C q) (vt C n C.length)
  | 0, q, hd, hq => by
    have : q = C.length := by omega
    subst this
    refine Ev.s ?_
    simp only [spec_l7Vertices.l0, show ¬ (C.length : Int) < (C.length : Int) by omega, if_false]
    exact Ev.const rfl
  | d + 1, q, hd, hq => by
    have ih := sv_l0 C n hn hC hCl d (q + 1) (by omega) (by omega)
    have ok := rdL_ok C _ hC q (by omega)
    refine Ev.s ?_
    simp only [spec_l7Vertices.l0, show (q : Int) < (C.length : Int) by omega, if_true]
    refine sv_l1 C n q hn (by omega) ok _ _ 0 _ rfl (by omega) (vt_len C n q) ?_
    rw [List.drop_zero, w64n (by omega)]
    exact ih
theorem iv_l1 (C : List (List Int)) (n q : Nat) (hn : n ≤ 12) (hq : q < C.length) (hl : (∀ x ∈ rd_L1 C q, 0 ≤ x ∧ x < n) ∧ (rd_L1 C q).length ≤ n + 1) (r : List Int) : ∀ (d i : Nat) (o : List Int), (rd_L1 C q).length - i = d → i ≤ (rd_L1 C q).length → o.length = n →
    Ev (fun k => impl_vertexOf.l0 k (((rd_L1 C q).drop i).foldl (fun o d => o.set d.toNat (q : Int)) o) C C.length (wrap64 ((q : Int) + 1))) r → Ev (fun k => impl_vertexOf.l1 k o q C C.length q (rd_L1 C q) (rd_L1 C q).length i) r
  | 0, i, o, hd, hi, ho, h => by
    have : i = (rd_L1 C q).length := by omega
    rw [List.drop_eq_nil_of_le (by omega)] at h
    refine Ev.s ?_
    simp only [impl_vertexOf.l1, show ¬ (i : Int) < ((rd_L1 C q).length : Int) by omega, if_true, if_false]
    exact h
  | d + 1, i, o, hd, hi, ho, h => by
    have hlt : i < (rd_L1 C q).length := by omega
    have e := rd_lt _ i hlt
    have hr := hl.1 _ (List.getElem_mem hlt)
    rw [List.drop_eq_getElem_cons hlt, List.foldl_cons, ← e] at h
    rw [← e] at hr
    refine Ev.s ?_
    simp only [impl_vertexOf.l1, show (i : Int) < ((rd_L1 C q).length : Int) by omega, show (0 : Int) ≤ (i : Int) by omega, hr.1, ho, hr.2, if_true, w64n (show i < 4611686018427387904 by omega)]
    exact iv_l1 C n q hn hq hl r d (i + 1) _ (by omega) (by omega) (by simpa using ho) h
theorem iv_l0 (C : List (List Int)) (n : Nat) (hn : n ≤ 12) (hC : ∀ l ∈ C, (∀ x ∈ l, 0 ≤ x ∧ x < n) ∧ l.length ≤ n + 1) (hCl : C.length ≤ n) : ∀ (d q : Nat), C.length - q = d → q ≤ C.length → Ev (fun k => impl_vertexOf.l0 k (vt C n q) C C.length q) (vt C n C.length)
  | 0, q, hd, hq => by
    have : q = C.length := by omega
    subst this
    refine Ev.s ?_
    simp only [impl_vertexOf.l0, show ¬ (C.length : Int) < (C.length : Int) by omega, if_false]
    exact Ev.const rfl
  | d + 1, q, hd, hq => by
    have ih := iv_l0 C n hn hC hCl d (q + 1) (by omega) (by omega)
    have ok := rdL_ok C _ hC q (by omega)
    refine Ev.s ?_
    simp only [impl_vertexOf.l0, show (q : Int) < (C.length : Int) by omega, show (0 : Int) ≤ (q : Int) by omega, if_true]
    refine iv_l1 C n q hn (by omega) ok _ _ 0 _ rfl (by omega) (vt_len C n q) ?_
    rw [List.drop_zero, w64n (by omega)]
    exact ih
def vtx (t : List Int) (n : Nat) : List Int := vt (cyS t n n).2 n (cyS t n n).2.length
theorem specVert_ev (t : List Int) (n : Nat) (hn : n ≤ 12) (ht : inR n t) : Ev (fun k => spec_l7Vertices.f k t) (vtx t n) := by
  unfold spec_l7Vertices.f
  rw [ht.1]
  simp only [show (0 : Int) ≤ (n : Int) by omega, Int.toNat_natCast, show n ≤ 35184372088832 by omega, if_true]
  refine Ev.bind (specCyc_ev t n (by omega) ht) ?_
  exact sv_l0 _ n hn (cyS_ok t n ht n (Nat.le_refl _)) (cyS_many t n n) _ 0 rfl (by omega)
theorem implVert_ev (t f : List Int) (n : Nat) (hn : n ≤ 12) (ht : inR n t) : Ev (fun k => impl_vertexOf.f k t f) (vtx t n) := by
  unfold impl_vertexOf.f
  rw [ht.1]
  simp only [show (0 : Int) ≤ (n : Int) by omega, Int.toNat_natCast, show n ≤ 35184372088832 by omega, if_true]
  refine Ev.bind (implCyc_ev t n (by omega) ht) ?_
  exact iv_l0 _ n hn (cyS_ok t n ht n (Nat.le_refl _)) (cyS_many t n n) _ 0 rfl (by omega)
theorem dart_run (f : List Int) (n e a : Nat) (hn : n ≤ 12) (ha : a < n) (h1 : rd (geL f n n) (a : Int) = e) (h2 : ∀ d : Nat, d < a → rd (geL f n n) (d : Int) ≠ e) : ∀ (d i : Nat), a - i = d → i ≤ a → Ev (fun k => spec_l7Dart.l0 k e (geL f n n) i) (a : Int)
  | 0, i, hd, hi => by
    have : i = a := by omega
    subst this
    refine Ev.s ?_
    simp only [spec_l7Dart.l0, geL_len, show (i : Int) < (n : Int) by omega, show (0 : Int) ≤ (i : Int) by omega, h1, if_true]
    exact Ev.const rfl
  | d + 1, i, hd, hi => by
    refine Ev.s ?_
    simp only [spec_l7Dart.l0, geL_len, show (i : Int) < (n : Int) by omega, show (0 : Int) ≤ (i : Int) by omega, h2 i (by omega), if_true, if_false, w64n (show i < 4611686018427387904 by omega)]
    exact dart_run f n e a hn ha h1 h2 d (i + 1) (by omega) (by omega)
theorem mem_restL (c : List Int) (m : Nat) (x : Int) : x ∈ restL c m ↔ ∃ j : Nat, j < m ∧ x = (j : Int) ∧ (j : Int) ∉ c := by
  unfold restL
  rw [List.mem_map]
  constructor
  · rintro ⟨j, hj, rfl⟩
    rw [List.mem_filter, List.mem_range] at hj
    exact ⟨j, hj.1, rfl, by simpa using hj.2⟩
  · rintro ⟨j, h1, rfl, h2⟩
    exact ⟨j, by rw [List.mem_filter, List.mem_range]; exact ⟨h1, by simpa using h2⟩, rfl⟩
theorem choice_of (c : List Int) (m : Int) (h1 : ∀ x ∈ c, 0 ≤ x ∧ x < m) (h2 : c.Pairwise (· < ·)) : isChoice c m := by
  intro i hi
  have e := rd_lt c i hi
  have h := h1 _ (List.getElem_mem hi)
  rw [← e] at h
  refine ⟨?_, h.2⟩
  cases i with
  | zero => rw [ahead_zero]; omega
  | succ i =>
    rw [ahead_succ, rd_lt c i (by omega), e]
    exact List.pairwise_iff_getElem.1 h2 i (i + 1) (by omega) hi (by omega)
theorem restL_choice (c : List Int) (m : Nat) : isChoice (restL c m) m := by
  refine choice_of _ _ (fun x hx => ?_) ?_
  · obtain ⟨j, h1, rfl, _⟩ := (mem_restL c m x).1 hx
    omega
  · unfold restL
    rw [List.pairwise_map]
    exact ((List.pairwise_lt_range (n := m)).filter _).imp (fun h => by omega)
theorem pc_cnt (o : List Int) : ∀ n, Cnt n (fun i => (i : Int) = rd o i) (pc o n)
  | 0 => ⟨[], List.nodup_nil, by simp, rfl⟩
  | n + 1 => by
    obtain ⟨L, h1, h2, h3⟩ := pc_cnt o n
    simp only [pc]
    by_cases h : (n : Int) = rd o n
    · rw [if_pos h]
      refine ⟨n :: L, List.nodup_cons.2 ⟨fun z => by have := ((h2 n).1 z).1; omega, h1⟩, fun x => ?_, by simp [h3]⟩
      rw [List.mem_cons, h2]
      constructor
      · rintro (rfl | ⟨a, b⟩)
        · exact ⟨by omega, h⟩
        · exact ⟨by omega, b⟩
      · rintro ⟨a, b⟩
        by_cases e : x = n
        · exact .inl e
        · exact .inr ⟨by omega, b⟩
    · rw [if_neg h]
      refine ⟨L, h1, fun x => ?_, h3⟩
      rw [h2]
      constructor
      · rintro ⟨a, b⟩; exact ⟨by omega, b⟩
      · rintro ⟨a, b⟩
        by_cases e : x = n
        · exact absurd (e ▸ b) h
        · exact ⟨by omega, b⟩
theorem geL_lt (f : List Int) (n : Nat) (hf : inR n f) (hfl : ∀ i : Nat, i < n → flipAt f i) (d : Nat) (hd : d < n) : ∃ j : Nat, j < (edL f n).length ∧ rd (geL f n n) d = (j : Int) := by
  have l := least_lt f n hf hfl d hd
  exact ⟨_, edL_lt f _ l.2 n l.1, geL_at f n hf hfl n (Nat.le_refl _) d hd l.1⟩
theorem one_or_two (t f : List Int) (n : Nat) (h1 : 1 ≤ n) (ht : inR n t) (hf : inR n f) (hfl : ∀ i : Nat, i < n → flipAt f i) (hcon : ∀ i j : Nat, i < n → j < n → Reach [t, f] n i j) (e : Nat) (he : e < (edL f n).length) (o : List Int) (ho : orbOk [t, flC f n (restL [(e : Int)] (edL f n).length)] n o) : pc o n = 1 ∨ pc o n = 2 := by
  obtain ⟨a, b, ha, hb, hab, e1, e2, e3, e4⟩ := edge_at f n hf hfl e he
  have hin : ∀ p ∈ [t, flC f n (restL [(e : Int)] (edL f n).length)], inR n p := by
    intro p hp
    rcases List.mem_cons.1 hp with rfl | hp
    · exact ht
    · rw [List.mem_singleton.1 hp]; exact flC_inR f n hf _
  have hS : ∀ z, z < n → Reach [t, flC f n (restL [(e : Int)] (edL f n).length)] n z a ∨ Reach [t, flC f n (restL [(e : Int)] (edL f n).length)] n z b := by
    intro z hz
    have hc : closedL [t, f] n (fun z => Reach [t, flC f n (restL [(e : Int)] (edL f n).length)] n z a ∨ Reach [t, flC f n (restL [(e : Int)] (edL f n).length)] n z b) := by
      intro p hp k hk
      rcases List.mem_cons.1 hp with rfl | hp
      · have s := Reach.step (ps := [p, flC f n (restL [(e : Int)] (edL f n).length)]) (n := n) (p := p) (by simp) hk
        exact ⟨fun h => h.imp (fun h => s.symm.trans h) (fun h => s.symm.trans h), fun h => h.imp (fun h => s.trans h) (fun h => s.trans h)⟩
      · rw [List.mem_singleton.1 hp]
        by_cases ka : k = a
        · subst ka
          rw [e2]
          exact ⟨fun _ => .inr (Reach.refl _ _ _), fun _ => .inl (Reach.refl _ _ _)⟩
        · by_cases kb : k = b
          · subst kb
            rw [e3]
            exact ⟨fun _ => .inl (Reach.refl _ _ _), fun _ => .inr (Reach.refl _ _ _)⟩
          · have s := Reach.step (ps := [t, flC f n (restL [(e : Int)] (edL f n).length)]) (n := n) (p := flC f n (restL [(e : Int)] (edL f n).length)) (by simp) hk
            obtain ⟨j, j1, j2⟩ := geL_lt f n hf hfl k hk
            have hch : chB f n (restL [(e : Int)] (edL f n).length) k = true := by
              unfold chB
              rw [j2]
              refine decide_eq_true ((mem_restL _ _ _).2 ⟨j, j1, rfl, ?_⟩)
              rw [List.mem_singleton]
              intro z
              rw [z] at j2
              exact ((e4 k hk).1 j2).elim ka kb
            rw [flC_rd f n _ k hk, if_pos hch] at s
            exact ⟨fun h => h.imp (fun h => s.symm.trans h) (fun h => s.symm.trans h), fun h => h.imp (fun h => s.trans h) (fun h => s.trans h)⟩
    exact ((hcon z a hz ha) _ hc).2 (.inl (Reach.refl _ _ _))
  obtain ⟨L, l1, l2, l3⟩ := pc_cnt o n
  have le2 := len_le_of_sub L [(rd o a).toNat, (rd o b).toNat] l1 (fun x hx => by
    have hx' := (l2 x).1 hx
    have h2 : (x : Int) = rd o x := hx'.2
    rcases hS x hx'.1 with h | h
    · have := orbOk_const ho hin h
      rw [this] at h2
      simp only [List.mem_cons, List.not_mem_nil, or_false]
      omega
    · have := orbOk_const ho hin h
      rw [this] at h2
      simp only [List.mem_cons, List.not_mem_nil, or_false]
      omega)
  have h0 := ho.1.2 0 h1
  have m0 : 0 ∈ L := (l2 0).2 ⟨h1, by have := h0.1; have := h0.2.1; omega⟩
  have := List.length_pos_of_mem m0
  simp only [List.length_cons, List.length_nil] at le2
  omega
theorem edgeKind_more (t f : List Int) (ht : t.length ≤ 1048576) (hf : f.length ≤ 1048576) (e : Int) : ∃ r : Int, Ev (fun k => spec_EdgeKind.f k t f e) r ∧ Ev (fun k => impl_EdgeKind.f k t f e) r ∧ (r = -1 ∨ 0 ≤ r ∧ isMap t f ∧ 0 ≤ e ∧ e ≤ (f.length : Int) / 2 - 1) := by
  obtain ⟨b, b1, b2, b3⟩ := mapValid_both t f ht hf
  have wf : wrap64 ((f.length : Int) / 2) = (f.length : Int) / 2 := w64 (by omega) (by omega)
  have wf1 : wrap64 ((f.length : Int) / 2 - 1) = (f.length : Int) / 2 - 1 := w64 (by omega) (by omega)
  unfold spec_EdgeKind.f impl_EdgeKind.f
  cases b with
  | false =>
    refine ⟨-1, ?_, ?_, .inl rfl⟩
    · refine Ev.bind b1 ?_
      simp only [Bool.false_eq_true, if_false]
      refine Ev.s ?_
      simp only [spec_EdgeKind.j0, if_true]
      exact Ev.const rfl
    · refine Ev.bind b2 ?_
      simp only [Bool.false_eq_true, if_false]
      refine Ev.s ?_
      simp only [impl_EdgeKind.j0, if_true]
      exact Ev.const rfl
  | true =>
    have hm := b3.1 rfl
    by_cases he : 0 ≤ e ∧ e ≤ (f.length : Int) / 2 - 1
    · have H0 := ribOk_of t f [] hm (fun i hi => by simp at hi) (by simp)
      obtain ⟨hn, h1, ht', hti, hf', hfl, _, _⟩ := H0
      have hcon := hm.2.2.2.2
      have hh := edL_half f t.length hf' hfl
      have hlen := hf'.1
      obtain ⟨E, rfl⟩ : ∃ E : Nat, e = (E : Int) := ⟨e.toNat, by omega⟩
      obtain ⟨a, a', ha, ha', hab, e1, e2, e3, e4⟩ := edge_at f t.length hf' hfl E (by omega)
      obtain ⟨a2, _, l2, l3, _⟩ := edL_get f t.length E (by omega)
      have haa : a2 = a := by omega
      subst haa
      have hlt : a2 < a' := by omega
      have hch : isChoice [(E : Int)] ((f.length : Int) / 2) := choice_of _ _ (by simp; omega) (by simp)
      obtain ⟨r, rb, r1, r2, r3, r4, r5⟩ := choiceRest_both t f [(E : Int)] ht hf (by simp)
      have hrb : rb = true := r5 ⟨hm, hch⟩
      subst hrb
      have hr := (r4 rfl).1
      have hHalf : f.length / 2 = (edL f t.length).length := by omega
      rw [hHalf] at hr
      subst hr
      have hR := ribOk_of t f (restL [(E : Int)] (edL f t.length).length) hm (by rw [show (f.length : Int) / 2 = (((edL f t.length).length : Nat) : Int) by omega]; exact restL_choice _ _) r3
      obtain ⟨o, o1, o2, o4⟩ := ribbon_parts t f _ t.length hR
      have h12 := one_or_two t f t.length h1 ht' hf' hfl (fun i j hi hj => by have := hcon i j (by omega) (by omega); rwa [hlen] at this) E (by omega) o o1
      have vl := vt_len (cyS t t.length t.length).2 t.length (cyS t t.length t.length).2.length
      have vl' : (vtx t t.length).length = t.length := vl
      by_cases hv : rd (vtx t t.length) (a2 : Int) = rd (vtx t t.length) (a' : Int)
      · refine ⟨2, ?_, ?_, .inr ⟨by decide, hm, he⟩⟩
        · refine Ev.bind b1 ?_
          simp only [if_true, wf, wf1, l6In_eq, Option.bind_some, he, decide_true, and_self, Bool.not_true]
          refine Ev.s ?_
          simp only [spec_EdgeKind.j0, Bool.false_eq_true, if_false]
          refine Ev.bind (Ev.bind (specEdges_ev t.length (by omega) t f hf') (dart_run f t.length E a2 hn ha ((e4 a2 ha).2 (.inl rfl)) (fun d hd z => by rcases (e4 d (by omega)).1 z with h | h <;> omega) _ 0 rfl (by omega))) ?_
          refine Ev.bind (specVert_ev t t.length hn ht') ?_
          simp only [show (0 : Int) ≤ (a2 : Int) by omega, vl', show (a2 : Int) < (t.length : Int) by omega, hlen, e2, show (0 : Int) ≤ (a' : Int) by omega, show (a' : Int) < (t.length : Int) by omega, hv, if_true]
          exact Ev.const rfl
        · refine Ev.bind b2 ?_
          simp only [if_true, show ¬ (E : Int) < 0 by omega, if_false, wf, show ¬ (E : Int) ≥ (f.length : Int) / 2 by omega, decide_false]
          refine Ev.s ?_
          simp only [impl_EdgeKind.j0, Bool.false_eq_true, if_false]
          refine Ev.bind (implEdges_ev t.length (by omega) t f hf') ?_
          simp only [show (0 : Int) ≤ (E : Int) by omega, show (E : Int) < ((edL f t.length).length : Int) by omega, if_true]
          refine Ev.bind (implVert_ev t f t.length hn ht') ?_
          simp only [e1, show (0 : Int) ≤ (a2 : Int) by omega, vl', show (a2 : Int) < (t.length : Int) by omega, hlen, e2, show (0 : Int) ≤ (a' : Int) by omega, show (a' : Int) < (t.length : Int) by omega, hv, if_true]
          exact Ev.const rfl
      · refine ⟨wrap64 ((pc o t.length : Int) - 1), ?_, ?_, .inr ⟨by rcases h12 with h | h <;> rw [h] <;> simp [wrap64], hm, he⟩⟩
        · refine Ev.bind b1 ?_
          simp only [if_true, wf, wf1, l6In_eq, Option.bind_some, he, decide_true, and_self, Bool.not_true]
          refine Ev.s ?_
          simp only [spec_EdgeKind.j0, Bool.false_eq_true, if_false]
          refine Ev.bind (Ev.bind (specEdges_ev t.length (by omega) t f hf') (dart_run f t.length E a2 hn ha ((e4 a2 ha).2 (.inl rfl)) (fun d hd z => by rcases (e4 d (by omega)).1 z with h | h <;> omega) _ 0 rfl (by omega))) ?_
          refine Ev.bind (specVert_ev t t.length hn ht') ?_
          simp only [show (0 : Int) ≤ (a2 : Int) by omega, vl', show (a2 : Int) < (t.length : Int) by omega, hlen, e2, show (0 : Int) ≤ (a' : Int) by omega, show (a' : Int) < (t.length : Int) by omega, hv, if_true, if_false]
          refine Ev.bind r1 ?_
          exact Ev.bind o2 (Ev.const rfl)
        · refine Ev.bind b2 ?_
          simp only [if_true, show ¬ (E : Int) < 0 by omega, if_false, wf, show ¬ (E : Int) ≥ (f.length : Int) / 2 by omega, decide_false]
          refine Ev.s ?_
          simp only [impl_EdgeKind.j0, Bool.false_eq_true, if_false]
          refine Ev.bind (implEdges_ev t.length (by omega) t f hf') ?_
          simp only [show (0 : Int) ≤ (E : Int) by omega, show (E : Int) < ((edL f t.length).length : Int) by omega, if_true]
          refine Ev.bind (implVert_ev t f t.length hn ht') ?_
          simp only [e1, show (0 : Int) ≤ (a2 : Int) by omega, vl', show (a2 : Int) < (t.length : Int) by omega, hlen, e2, show (0 : Int) ≤ (a' : Int) by omega, show (a' : Int) < (t.length : Int) by omega, hv, if_true, if_false]
          refine Ev.bind r2 ?_
          refine Ev.bind o4 ?_
          have e0 : ∀ P S V c : Int, rd (fiveN P S V c) 0 = P := fun _ _ _ _ => rfl
          simp only [five_len, show (0 : Int) < ((5 : Nat) : Int) by omega, if_true, e0]
          rcases h12 with h | h
          · rw [h]
            exact Ev.const (by simp [wrap64])
          · rw [h]
            exact Ev.const (by simp [wrap64])
    · refine ⟨-1, ?_, ?_, .inl rfl⟩
      · refine Ev.bind b1 ?_
        simp only [if_true, wf, wf1, l6In_eq, Option.bind_some, he, decide_false, Bool.not_false]
        refine Ev.s ?_
        simp only [spec_EdgeKind.j0, if_true]
        exact Ev.const rfl
      · refine Ev.bind b2 ?_
        simp only [if_true]
        by_cases e0 : e < 0
        · simp only [e0, if_true]
          refine Ev.s ?_
          simp only [impl_EdgeKind.j0, if_true]
          exact Ev.const rfl
        · simp only [e0, if_false, wf, show e ≥ (f.length : Int) / 2 by omega, decide_true]
          refine Ev.s ?_
          simp only [impl_EdgeKind.j0, if_true]
          exact Ev.const rfl
def MapOk (t f : List Int) (n : Nat) : Prop := n ≤ 12 ∧ 1 ≤ n ∧ inR n t ∧ injR n t ∧ inR n f ∧ (∀ i : Nat, i < n → flipAt f i) ∧ ∀ i j : Nat, i < n → j < n → Reach [t, f] n i j
theorem mapOk_of (t f : List Int) (h : isMap t f) : MapOk t f t.length := by
  obtain ⟨hn, h1, ht, hti, hf, hfl, _, _⟩ := ribOk_of t f [] h (fun i hi => by simp at hi) (by simp)
  exact ⟨hn, h1, ht, hti, hf, hfl, by have := h.2.2.2.2; rwa [← h.2.2.1] at this⟩
theorem MapOk.rib {t f : List Int} {n : Nat} (h : MapOk t f n) {c : List Int} (hc : isChoice c ((edL f n).length : Int)) (hcl : c.length ≤ 1048576) : RibOk t f c n :=
  ⟨h.1, h.2.1, h.2.2.1, h.2.2.2.1, h.2.2.2.2.1, h.2.2.2.2.2.1, hc, hcl⟩
theorem parts_cl (t f c : List Int) (n : Nat) (h1 : 1 ≤ n) (ht : inR n t) (hf : inR n f) (o : List Int) (ho : orbOk [t, flC f n c] n o) : Cl n (Reach [t, flC f n c] n) (pc o n) := by
  have hin : ∀ p ∈ [t, flC f n c], inR n p := by
    intro p hp
    rcases List.mem_cons.1 hp with rfl | hp
    · exact ht
    · rw [List.mem_singleton.1 hp]; exact flC_inR f n hf _
  refine (pc_cnt o n).congr fun x hx => ⟨fun h j hj hr => ?_, fun h => ?_⟩
  · have h1 := orbOk_const ho hin hr
    have h2 := ho.1.2 j (by omega)
    have h : (x : Int) = rd o x := h
    omega
  · have h2 := ho.1.2 x hx
    by_cases e : rd o x = x
    · exact e.symm
    · exact absurd h2.2.2 (h _ (by omega))
theorem sg_flC (t f c : List Int) (n : Nat) (hf : inR n f) (x y : Nat) (h : Reach [sgL t f n c] n x y) : Reach [t, flC f n c] n x y := by
  intro S hS
  refine h S fun p hp k hk => ?_
  rw [List.mem_singleton.1 hp, sgL_rd t f n c k hk]
  have fr := (flC_inR f n hf c).2 k hk
  have h1 := hS (flC f n c) (by simp) k hk
  have h2 := hS t (by simp) (rd (flC f n c) k).toNat (by omega)
  rw [show (((rd (flC f n c) k).toNat : Nat) : Int) = rd (flC f n c) k by omega] at h2
  exact h1.trans h2
theorem add_edge (t f : List Int) (n : Nat) (H : MapOk t f n) (c : List Int) (e : Nat) (he : e < (edL f n).length) (hec : (e : Int) ∉ c) (a b : Nat) (ha : a < n) (hb : b < n) (hab : a ≠ b) (e2 : rd f a = b) (e3 : rd f b = a) (e4 : ∀ d : Nat, d < n → (rd (geL f n n) (d : Int) = e ↔ d = a ∨ d = b))
    (P S P' S' : Nat) (hP : Cl n (Reach [t, flC f n c] n) P) (hS : Cl n (Reach [sgL t f n c] n) S) (hP' : Cl n (Reach [t, flC f n (c ++ [(e : Int)])] n) P') (hS' : Cl n (Reach [sgL t f n (c ++ [(e : Int)])] n) S') :
    (Reach [t, flC f n c] n a b → P' = P) ∧ (¬ Reach [t, flC f n c] n a b → P' + 1 = P) ∧ (¬ Reach [sgL t f n c] n a b → S' + 1 = S) ∧ (Reach [sgL t f n c] n a b → S' = S + 1) := by
  obtain ⟨hn, h1, ht, hti, hf, hfl, hcon⟩ := id H
  have chA : ∀ d : Nat, d < n → chB f n (c ++ [(e : Int)]) (d : Int) = (chB f n c (d : Int) || decide (d = a ∨ d = b)) := by
    intro d hd
    unfold chB
    rw [Bool.eq_iff_iff, Bool.or_eq_true, decide_eq_true_eq, decide_eq_true_eq, decide_eq_true_eq, List.mem_append, List.mem_singleton, e4 d hd]
  have un : ∀ d : Nat, d < n → d = a ∨ d = b → chB f n c (d : Int) = false := by
    intro d hd h
    unfold chB
    rw [(e4 d hd).2 h]
    exact decide_eq_false hec
  have fa : rd (flC f n c) a = a := by rw [flC_rd f n c a ha, un a ha (.inl rfl)]; simp
  have fb : rd (flC f n c) b = b := by rw [flC_rd f n c b hb, un b hb (.inr rfl)]; simp
  have fa' : rd (flC f n (c ++ [(e : Int)])) a = b := by rw [flC_rd f n _ a ha, chA a ha]; simp [e2]
  have fb' : rd (flC f n (c ++ [(e : Int)])) b = a := by rw [flC_rd f n _ b hb, chA b hb]; simp [e3]
  have fo : ∀ d : Nat, d < n → d ≠ a → d ≠ b → rd (flC f n (c ++ [(e : Int)])) d = rd (flC f n c) d := by
    intro d hd ka kb
    rw [flC_rd f n _ d hd, flC_rd f n _ d hd, chA d hd]
    simp [ka, kb]
  have rel : ∀ x y, Reach [t, flC f n (c ++ [(e : Int)])] n x y ↔ Reach [t, flC f n c] n x y ∨ (Reach [t, flC f n c] n x a ∧ Reach [t, flC f n c] n b y) ∨ (Reach [t, flC f n c] n x b ∧ Reach [t, flC f n c] n a y) := by
    have up : ∀ x y, Reach [t, flC f n c] n x y → Reach [t, flC f n (c ++ [(e : Int)])] n x y := by
      intro x y h S hS
      refine h S fun p hp k hk => ?_
      rcases List.mem_cons.1 hp with rfl | hp
      · exact hS p (by simp) k hk
      · rw [List.mem_singleton.1 hp]
        by_cases ka : k = a
        · subst ka; rw [fa, Int.toNat_natCast]
        · by_cases kb : k = b
          · subst kb; rw [fb, Int.toNat_natCast]
          · rw [← fo k hk ka kb]
            exact hS _ (by simp) k hk
    have uab : Reach [t, flC f n (c ++ [(e : Int)])] n a b := by
      have := Reach.step (ps := [t, flC f n (c ++ [(e : Int)])]) (n := n) (p := flC f n (c ++ [(e : Int)])) (by simp) ha
      rwa [fa', Int.toNat_natCast] at this
    intro x y
    constructor
    · intro h
      refine (h (fun z => Reach [t, flC f n c] n x z ∨ (Reach [t, flC f n c] n x a ∧ Reach [t, flC f n c] n b z) ∨ (Reach [t, flC f n c] n x b ∧ Reach [t, flC f n c] n a z)) ?_).1 (.inl (Reach.refl _ _ _))
      intro p hp k hk
      rcases List.mem_cons.1 hp with rfl | hp
      · have s := Reach.step (ps := [p, flC f n c]) (n := n) (p := p) (by simp) hk
        constructor
        · rintro (z | ⟨z1, z2⟩ | ⟨z1, z2⟩)
          · exact .inl (z.trans s)
          · exact .inr (.inl ⟨z1, z2.trans s⟩)
          · exact .inr (.inr ⟨z1, z2.trans s⟩)
        · rintro (z | ⟨z1, z2⟩ | ⟨z1, z2⟩)
          · exact .inl (z.trans s.symm)
          · exact .inr (.inl ⟨z1, z2.trans s.symm⟩)
          · exact .inr (.inr ⟨z1, z2.trans s.symm⟩)
      · rw [List.mem_singleton.1 hp]
        by_cases ka : k = a
        · subst ka
          rw [fa', Int.toNat_natCast]
          constructor
          · rintro (z | ⟨z1, z2⟩ | ⟨z1, z2⟩)
            · exact .inr (.inl ⟨z, Reach.refl _ _ _⟩)
            · exact .inr (.inl ⟨z1, Reach.refl _ _ _⟩)
            · exact .inl z1
          · rintro (z | ⟨z1, z2⟩ | ⟨z1, z2⟩)
            · exact .inr (.inr ⟨z, Reach.refl _ _ _⟩)
            · exact .inl z1
            · exact .inr (.inr ⟨z1, Reach.refl _ _ _⟩)
        · by_cases kb : k = b
          · subst kb
            rw [fb', Int.toNat_natCast]
            constructor
            · rintro (z | ⟨z1, z2⟩ | ⟨z1, z2⟩)
              · exact .inr (.inr ⟨z, Reach.refl _ _ _⟩)
              · exact .inl z1
              · exact .inr (.inr ⟨z1, Reach.refl _ _ _⟩)
            · rintro (z | ⟨z1, z2⟩ | ⟨z1, z2⟩)
              · exact .inr (.inl ⟨z, Reach.refl _ _ _⟩)
              · exact .inr (.inl ⟨z1, Reach.refl _ _ _⟩)
              · exact .inl z1
          · have s := Reach.step (ps := [t, flC f n c]) (n := n) (p := flC f n c) (by simp) hk
            rw [fo k hk ka kb]
            constructor
            · rintro (z | ⟨z1, z2⟩ | ⟨z1, z2⟩)
              · exact .inl (z.trans s)
              · exact .inr (.inl ⟨z1, z2.trans s⟩)
              · exact .inr (.inr ⟨z1, z2.trans s⟩)
            · rintro (z | ⟨z1, z2⟩ | ⟨z1, z2⟩)
              · exact .inl (z.trans s.symm)
              · exact .inr (.inl ⟨z1, z2.trans s.symm⟩)
              · exact .inr (.inr ⟨z1, z2.trans s.symm⟩)
    · rintro (z | ⟨z1, z2⟩ | ⟨z1, z2⟩)
      · exact up _ _ z
      · exact (up _ _ z1).trans (uab.trans (up _ _ z2))
      · exact (up _ _ z1).trans (uab.symm.trans (up _ _ z2))
  have ex : Exch n (sgL t f n c) (sgL t f n (c ++ [(e : Int)])) a b := by
    refine ⟨ha, hb, hab, ?_, ?_, fun x hx ka kb => ?_⟩
    · rw [sgL_rd t f n _ a ha, sgL_rd t f n _ b hb, fa', fb]
    · rw [sgL_rd t f n _ a ha, sgL_rd t f n _ b hb, fb', fa]
    · rw [sgL_rd t f n _ x hx, sgL_rd t f n _ x hx, fo x hx ka kb]
  have xc := exch_count (sgL_inR t f n ht hf c) (sgL_inR t f n ht hf _) (sgL_inj t f n ht hti hf hfl c) (sgL_inj t f n ht hti hf hfl _) ex hS hS'
  refine ⟨fun h => ?_, fun h => ?_, xc.1, xc.2⟩
  · refine Cnt.same hP' hP fun x hx => ?_
    have : ∀ i, Reach [t, flC f n (c ++ [(e : Int)])] n i x ↔ Reach [t, flC f n c] n i x := fun i => by
      rw [rel]
      exact ⟨fun z => z.elim id (fun z => z.elim (fun z => z.1.trans (h.trans z.2)) (fun z => z.1.trans (h.symm.trans z.2))), .inl⟩
    exact ⟨fun z i hi hr => z i hi ((this i).2 hr), fun z i hi hr => z i hi ((this i).1 hr)⟩
  · have := Cl.merge (S := Reach [t, flC f n (c ++ [(e : Int)])] n) (fun x => Reach.refl _ _ x) (fun _ _ h => h.symm) (fun _ _ _ h h' => h.trans h') hP a b ha hb h rel
    have u := Cl.uniq hP' this.2
    omega
def Gen (t f : List Int) (n : Nat) (c : List Int) (K g : Nat) : Prop := ∃ P S V, Cl n (Reach [t, flC f n c] n) P ∧ Cl n (Reach [sgL t f n c] n) S ∧ Cl n (Reach [t] n) V ∧ 2 * P + K = V + S + 2 * g ∧ V ≤ K + P
theorem flC_nil (f : List Int) (n : Nat) : flC f n [] = stl n := by
  have := flC_zero f n []
  simpa using this
theorem gen_nil (t f : List Int) (n : Nat) (H : MapOk t f n) : Gen t f n [] 0 0 := by
  obtain ⟨hn, h1, ht, hti, hf, hfl, hcon⟩ := id H
  obtain ⟨V, hV, _⟩ := Cl.ex n (Reach [t] n)
  have e1 : ∀ x y, Reach [t, flC f n []] n x y ↔ Reach [t] n x y := by
    intro x y
    constructor
    · intro h S hS
      refine h S fun p hp k hk => ?_
      rcases List.mem_cons.1 hp with rfl | hp
      · exact hS p (by simp) k hk
      · rw [List.mem_singleton.1 hp, flC_nil, stl_rd n k hk, Int.toNat_natCast]
    · intro h S hS
      exact h S fun p hp k hk => by rw [List.mem_singleton.1 hp]; exact hS t (by simp) k hk
  have e2 : sgL t f n [] = t := by
    refine list_ext _ _ (by rw [sgL_len, ht.1]) fun d hd => ?_
    rw [sgL_len] at hd
    rw [sgL_rd t f n [] d hd, flC_nil, stl_rd n d hd]
  refine ⟨V, V, V, ?_, by rw [e2]; exact hV, hV, by omega, by omega⟩
  exact Cnt.congr hV fun x hx => ⟨fun z i hi hr => z i hi ((e1 i x).1 hr), fun z i hi hr => z i hi ((e1 i x).2 hr)⟩
theorem gen_step (t f : List Int) (n : Nat) (H : MapOk t f n) (c : List Int) (K g : Nat) (hG : Gen t f n c K g) (e : Nat) (he : e < (edL f n).length) (hec : (e : Int) ∉ c) : ∃ g', g ≤ g' ∧ Gen t f n (c ++ [(e : Int)]) (K + 1) g' := by
  obtain ⟨hn, h1, ht, hti, hf, hfl, hcon⟩ := id H
  obtain ⟨P, S, V, hP, hS, hV, g1, g2⟩ := hG
  obtain ⟨a, b, ha, hb, hab, _, e2, e3, e4⟩ := edge_at f n hf hfl e he
  obtain ⟨P', hP', _⟩ := Cl.ex n (Reach [t, flC f n (c ++ [(e : Int)])] n)
  obtain ⟨S', hS', _⟩ := Cl.ex n (Reach [sgL t f n (c ++ [(e : Int)])] n)
  obtain ⟨x1, x2, x3, x4⟩ := add_edge t f n H c e he hec a b ha hb hab e2 e3 e4 P S P' S' hP hS hP' hS'
  by_cases r : Reach [t, flC f n c] n a b
  · have p1 := x1 r
    by_cases q : Reach [sgL t f n c] n a b
    · have s1 := x4 q
      exact ⟨g, Nat.le_refl _, P', S', V, hP', hS', hV, by omega, by omega⟩
    · have s1 := x3 q
      exact ⟨g + 1, by omega, P', S', V, hP', hS', hV, by omega, by omega⟩
  · have p1 := x2 r
    have s1 := x3 fun q => r (sg_flC t f c n hf a b q)
    exact ⟨g, Nat.le_refl _, P', S', V, hP', hS', hV, by omega, by omega⟩
theorem gen_run (t f : List Int) (n : Nat) (H : MapOk t f n) : ∀ (L c : List Int) (K g : Nat), Gen t f n c K g → L.Nodup → (∀ x ∈ L, 0 ≤ x ∧ x < (edL f n).length ∧ x ∉ c) → ∃ g', g ≤ g' ∧ Gen t f n (c ++ L) (K + L.length) g'
  | [], c, K, g, hG, _, _ => ⟨g, Nat.le_refl _, by simpa using hG⟩
  | x :: L, c, K, g, hG, hN, hL => by
    obtain ⟨n1, n2⟩ := List.nodup_cons.1 hN
    have hx := hL x (by simp)
    have ex : ((x.toNat : Nat) : Int) = x := by omega
    obtain ⟨g1, l1, G1⟩ := gen_step t f n H c K g hG x.toNat (by omega) (by rw [ex]; exact hx.2.2)
    rw [ex] at G1
    obtain ⟨g2, l2, G2⟩ := gen_run t f n H L (c ++ [x]) (K + 1) g1 G1 n2 (fun y hy => by
      have := hL y (by simp [hy])
      refine ⟨this.1, this.2.1, fun z => ?_⟩
      rw [List.mem_append, List.mem_singleton] at z
      exact z.elim this.2.2 (fun z => n1 (z ▸ hy)))
    refine ⟨g2, by omega, ?_⟩
    rw [List.append_assoc, List.singleton_append] at G2
    rw [List.length_cons, show K + (L.length + 1) = K + 1 + L.length by omega]
    exact G2
theorem gen_uniq {t f : List Int} {n : Nat} {c : List Int} {K g P S V : Nat} (hG : Gen t f n c K g) (hP : Cl n (Reach [t, flC f n c] n) P) (hS : Cl n (Reach [sgL t f n c] n) S) (hV : Cl n (Reach [t] n) V) : 2 * P + K = V + S + 2 * g ∧ V ≤ K + P := by
  obtain ⟨P', S', V', p, s, v, h1, h2⟩ := hG
  rw [Cl.uniq hP p, Cl.uniq hS s, Cl.uniq hV v]
  exact ⟨h1, h2⟩
theorem choice_nodup (c : List Int) (m : Int) (hc : isChoice c m) : c.Nodup := by
  rw [List.Nodup, List.pairwise_iff_getElem]
  intro i j hi hj hij e
  have := asc_mono c m hc j i hj hij
  rw [rd_lt c i hi, rd_lt c j hj, e] at this
  omega
theorem choice_mem (c : List Int) (m : Int) (hc : isChoice c m) (x : Int) (hx : x ∈ c) : 0 ≤ x ∧ x < m := by
  obtain ⟨i, hi, rfl⟩ := List.getElem_of_mem hx
  have := choice_range c m hc i hi
  rwa [rd_lt c i hi] at this
def faces (t f : List Int) (n : Nat) : List Int := (List.range n).map fun (d : Nat) => rd t (rd f (d : Int))
theorem faces_len (t f : List Int) (n : Nat) : (faces t f n).length = n := by simp [faces]
theorem faces_rd (t f : List Int) (n d : Nat) (h : d < n) : rd (faces t f n) (d : Int) = rd t (rd f (d : Int)) := by
  rw [rd_lt _ _ (by simp [faces]; exact h)]
  simp [faces]
theorem flC_all (f : List Int) (n : Nat) (hf : inR n f) (hfl : ∀ i : Nat, i < n → flipAt f i) (c : List Int) (hc : ∀ j : Nat, j < (edL f n).length → (j : Int) ∈ c) : flC f n c = f := by
  refine list_ext _ _ (by rw [flC_len, hf.1]) fun d hd => ?_
  rw [flC_len] at hd
  obtain ⟨j, j1, j2⟩ := geL_lt f n hf hfl d hd
  have : chB f n c (d : Int) = true := by
    unfold chB
    rw [j2]
    exact decide_eq_true (hc j j1)
  rw [flC_rd f n c d hd, if_pos this]
theorem sgL_all (t f : List Int) (n : Nat) (c : List Int) (h : flC f n c = f) : sgL t f n c = faces t f n := by
  unfold sgL faces
  rw [h]
theorem rest_count (c : List Int) (m : Nat) (hc : isChoice c m) : (restL c m).length + c.length = m := by
  have h1 := len_le_of_sub ((restL c m).map Int.toNat ++ c.map Int.toNat) (List.range m) ?_ ?_
  · have h2 := len_le_of_sub (List.range m) ((restL c m).map Int.toNat ++ c.map Int.toNat) List.nodup_range ?_
    · simp only [List.length_append, List.length_map, List.length_range] at h1 h2
      omega
    · intro x hx
      rw [List.mem_range] at hx
      rw [List.mem_append, List.mem_map, List.mem_map]
      by_cases e : (x : Int) ∈ c
      · exact .inr ⟨_, e, by omega⟩
      · exact .inl ⟨x, (mem_restL c m _).2 ⟨x, hx, rfl, e⟩, by omega⟩
  · have inj : ∀ L : List Int, L.Nodup → (∀ x ∈ L, 0 ≤ x) → (L.map Int.toNat).Nodup := by
      intro L hL h0
      rw [List.Nodup, List.pairwise_map]
      refine List.Pairwise.imp_of_mem ?_ hL
      intro a b ha hb hab e
      have := h0 a ha
      have := h0 b hb
      omega
    refine List.nodup_append.2 ⟨inj _ (choice_nodup _ _ (restL_choice c m)) (fun x hx => (choice_mem _ _ (restL_choice c m) x hx).1), inj _ (choice_nodup _ _ hc) (fun x hx => (choice_mem _ _ hc x hx).1), ?_⟩
    intro a ha b hb e
    obtain ⟨x, hx, rfl⟩ := List.mem_map.1 ha
    obtain ⟨y, hy, rfl⟩ := List.mem_map.1 hb
    obtain ⟨j, j1, rfl, j2⟩ := (mem_restL c m x).1 hx
    have := (choice_mem _ _ hc y hy).1
    exact j2 (by rw [show (j : Int) = y by omega]; exact hy)
  · intro x hx
    rw [List.mem_append, List.mem_map, List.mem_map] at hx
    rw [List.mem_range]
    rcases hx with ⟨y, hy, rfl⟩ | ⟨y, hy, rfl⟩
    · have := choice_mem _ _ (restL_choice c m) y hy
      omega
    · have := choice_mem _ _ hc y hy
      omega
theorem five_math (t f c : List Int) (n : Nat) (H : MapOk t f n) (hc : isChoice c ((edL f n).length : Int)) (P S V F : Nat) (hP : Cl n (Reach [t, flC f n c] n) P) (hS : Cl n (Reach [sgL t f n c] n) S) (hV : Cl n (Reach [t] n) V) (hF : Cl n (Reach [faces t f n] n) F) :
    ∃ g G : Nat, 2 * P + c.length = V + S + 2 * g ∧ V ≤ c.length + P ∧ g ≤ G ∧ 2 + (edL f n).length = V + F + 2 * G := by
  obtain ⟨hn, h1, ht, hti, hf, hfl, hcon⟩ := id H
  obtain ⟨g, _, G1⟩ := gen_run t f n H c [] 0 0 (gen_nil t f n H) (choice_nodup _ _ hc) (fun x hx => by have := choice_mem _ _ hc x hx; exact ⟨this.1, this.2, by simp⟩)
  rw [List.nil_append, Nat.zero_add] at G1
  obtain ⟨u1, u2⟩ := gen_uniq G1 hP hS hV
  obtain ⟨G, l2, G2⟩ := gen_run t f n H (restL c (edL f n).length) c c.length g G1 (choice_nodup _ _ (restL_choice _ _)) (fun x hx => by
    have := choice_mem _ _ (restL_choice c (edL f n).length) x hx
    obtain ⟨j, _, rfl, j2⟩ := (mem_restL _ _ x).1 hx
    exact ⟨this.1, this.2, j2⟩)
  have ea : flC f n (c ++ restL c (edL f n).length) = f := flC_all f n hf hfl _ fun j hj => by
    rw [List.mem_append]
    by_cases e : (j : Int) ∈ c
    · exact .inl e
    · exact .inr ((mem_restL _ _ _).2 ⟨j, hj, rfl, e⟩)
  have cnt := rest_count c (edL f n).length hc
  have one : Cl n (Reach [t, flC f n (c ++ restL c (edL f n).length)] n) 1 := by
    rw [ea]
    refine ⟨[0], by simp, fun x => ?_, rfl⟩
    rw [List.mem_singleton]
    constructor
    · rintro rfl
      exact ⟨by omega, fun i hi _ => by omega⟩
    · rintro ⟨hx, hl⟩
      by_cases e : x = 0
      · exact e
      · exact absurd (hcon 0 x (by omega) hx) (hl 0 (by omega))
  obtain ⟨v1, v2⟩ := gen_uniq G2 one (by rw [sgL_all t f n _ ea]; exact hF) hV
  exact ⟨g, G, u1, u2, l2, by omega⟩
theorem perm_of (l : List Int) (n : Nat) (h1 : 1 ≤ n) (h12 : n ≤ 12) (hl : inR n l) (hi : injR n l) : isPerm l := by
  refine ⟨by rw [hl.1]; exact h1, by rw [hl.1]; exact h12, fun i hi' => ?_⟩
  rw [hl.1] at hi'
  have := hl.2 i hi'
  refine ⟨this.1, by rw [hl.1]; exact this.2, fun k hk e => ?_⟩
  have := hi k i (by omega) hi' e
  omega
theorem flip_inj (f : List Int) (n : Nat) (hf : inR n f) (hfl : ∀ i : Nat, i < n → flipAt f i) : injR n f := by
  intro i j hi hj e
  have h1 := (hfl i hi).2
  rw [e, (hfl j hj).2] at h1
  omega
theorem isMap_of {t f : List Int} {n : Nat} (H : MapOk t f n) : isMap t f := by
  obtain ⟨hn, h1, ht, hti, hf, hfl, hcon⟩ := H
  refine ⟨perm_of t n h1 hn ht hti, perm_of f n h1 hn hf (flip_inj f n hf hfl), by rw [ht.1, hf.1], ?_, ?_⟩
  · rw [hf.1]; exact hfl
  · rw [hf.1]; exact hcon
theorem faces_inR (t f : List Int) (n : Nat) (ht : inR n t) (hf : inR n f) : inR n (faces t f n) := by
  refine ⟨faces_len t f n, fun i hi => ?_⟩
  rw [faces_rd t f n i hi]
  have h1 := hf.2 i hi
  have h2 := ht.2 (rd f i).toNat (by omega)
  rwa [show (((rd f i).toNat : Nat) : Int) = rd f i by omega] at h2
theorem faces_inj (t f : List Int) (n : Nat) (ht : inR n t) (hti : injR n t) (hf : inR n f) (hfl : ∀ i : Nat, i < n → flipAt f i) : injR n (faces t f n) := by
  intro i j hi hj e
  rw [faces_rd t f n i hi, faces_rd t f n j hj] at e
  have h1 := hf.2 i hi
  have h2 := hf.2 j hj
  have e1 : (((rd f i).toNat : Nat) : Int) = rd f i := by omega
  have e2 : (((rd f j).toNat : Nat) : Int) = rd f j := by omega
  rw [← e1, ← e2] at e
  have := hti _ _ (by omega) (by omega) e
  exact flip_inj f n hf hfl i j hi hj (by omega)
theorem dual_ok {t f : List Int} {n : Nat} (H : MapOk t f n) : MapOk (faces t f n) f n := by
  obtain ⟨hn, h1, ht, hti, hf, hfl, hcon⟩ := H
  refine ⟨hn, h1, faces_inR t f n ht hf, faces_inj t f n ht hti hf hfl, hf, hfl, fun i j hi hj S hS => hcon i j hi hj S fun p hp k hk => ?_⟩
  have sf := hS f (by simp)
  rcases List.mem_cons.1 hp with rfl | hp
  · have fr := hf.2 k hk
    have h2 := hS (faces p f n) (by simp) (rd f k).toNat (by omega)
    have e1 : (((rd f k).toNat : Nat) : Int) = rd f k := by omega
    rw [faces_rd p f n _ (by omega), e1, (hfl k hk).2] at h2
    exact (sf k hk).trans h2
  · rw [List.mem_singleton.1 hp]
    exact sf k hk
theorem surj (t : List Int) (n : Nat) (ht : inR n t) (hti : injR n t) (i : Nat) (hi : i < n) : ∃ j : Nat, j < n ∧ rd t j = i := by
  obtain ⟨k, _, h2⟩ := itr_back t n ht hti i (by omega)
  have hin := itr_in t n ht k i (by omega)
  refine ⟨(itr t k i).toNat, by omega, ?_⟩
  rw [show (((itr t k i).toNat : Nat) : Int) = itr t k i by omega]
  have := itr_add t k 1 (i : Int)
  rw [h2] at this
  exact this.symm
theorem push_self (o : List Int) (i : Nat) (ho : inR i o) (hi : injR i o) : inR (i + 1) (o ++ [(i : Int)]) ∧ injR (i + 1) (o ++ [(i : Int)]) := by
  have last : rd (o ++ [(i : Int)]) (i : Int) = i := by
    rw [rd_lt _ _ (by simp [ho.1]), List.getElem_append_right (by rw [ho.1]; exact Nat.le_refl _)]
    simp
  have old : ∀ j : Nat, j < i → rd (o ++ [(i : Int)]) (j : Int) = rd o (j : Int) := fun j hj => rd_app_lt _ _ _ (by rw [ho.1]; exact hj)
  refine ⟨⟨by simp [ho.1], fun j hj => ?_⟩, fun j k hj hk e => ?_⟩
  · by_cases h : j < i
    · rw [old j h]
      have := ho.2 j h
      omega
    · rw [show j = i by omega, last]
      omega
  · by_cases h : j < i
    · have a := ho.2 j h
      by_cases h' : k < i
      · rw [old j h, old k h'] at e
        exact hi j k h h' e
      · rw [show k = i by omega, last, old j h] at e
        omega
    · by_cases h' : k < i
      · have a := ho.2 k h'
        rw [show j = i by omega, last, old k h'] at e
        omega
      · omega
theorem set_perm (o : List Int) (n a b : Nat) (ho : inR n o) (hi : injR n o) (ha : a < n) (hb : b < n) : inR n ((o.set a (rd o b)).set b (rd o a)) ∧ injR n ((o.set a (rd o b)).set b (rd o a)) := by
  have val : ∀ j : Nat, j < n → rd ((o.set a (rd o b)).set b (rd o a)) (j : Int) = if b = j then rd o a else if a = j then rd o b else rd o j := by
    intro j hj
    by_cases e1 : b = j
    · subst e1
      rw [rd_set_self _ _ _ (by simp [ho.1]; exact hb), if_pos rfl]
    · rw [rd_set_ne _ _ _ _ e1, if_neg e1]
      by_cases e2 : a = j
      · subst e2
        rw [rd_set_self _ _ _ (by rw [ho.1]; exact ha), if_pos rfl]
      · rw [rd_set_ne _ _ _ _ e2, if_neg e2]
  have ra := ho.2 a ha
  have rb := ho.2 b hb
  refine ⟨⟨by simp [ho.1], fun j hj => ?_⟩, fun j k hj hk e => ?_⟩
  · rw [val j hj]
    have := ho.2 j hj
    split
    · exact ra
    · split
      · exact rb
      · exact this
  · rw [val j hj, val k hk] at e
    have i1 := hi a b ha hb
    have i2 := hi a j ha hj
    have i3 := hi a k ha hk
    have i4 := hi b j hb hj
    have i5 := hi b k hb hk
    have i6 := hi j k hj hk
    by_cases c1 : b = j
    · rw [if_pos c1] at e
      by_cases c2 : b = k
      · omega
      · rw [if_neg c2] at e
        by_cases c3 : a = k
        · rw [if_pos c3] at e
          have := i1 e
          omega
        · rw [if_neg c3] at e
          exact absurd (i3 e) c3
    · rw [if_neg c1] at e
      by_cases c4 : a = j
      · rw [if_pos c4] at e
        by_cases c2 : b = k
        · rw [if_pos c2] at e
          have := i1 e.symm
          omega
        · rw [if_neg c2] at e
          by_cases c3 : a = k
          · omega
          · rw [if_neg c3] at e
            exact absurd (i5 e) c2
      · rw [if_neg c4] at e
        by_cases c2 : b = k
        · rw [if_pos c2] at e
          exact absurd (i2 e.symm) c4
        · rw [if_neg c2] at e
          by_cases c3 : a = k
          · rw [if_pos c3] at e
            exact absurd (i4 e.symm) c1
          · rw [if_neg c3] at e
            exact i6 e
theorem push_swap (o : List Int) (i k : Nat) (hk : k < i) (ho : inR i o) (hi : injR i o) : inR (i + 1) ((o ++ [rd o k]).set k (i : Int)) ∧ injR (i + 1) ((o ++ [rd o k]).set k (i : Int)) := by
  obtain ⟨p1, p2⟩ := push_self o i ho hi
  have e : ((o ++ [(i : Int)]).set k (rd (o ++ [(i : Int)]) i)).set i (rd (o ++ [(i : Int)]) k) = (o ++ [rd o k]).set k (i : Int) := by
    have last : rd (o ++ [(i : Int)]) (i : Int) = i := by
      rw [rd_lt _ _ (by simp [ho.1]), List.getElem_append_right (by rw [ho.1]; exact Nat.le_refl _)]
      simp
    have last' : ∀ v : Int, rd (o ++ [v]) (i : Int) = v := by
      intro v
      rw [rd_lt _ _ (by simp [ho.1]), List.getElem_append_right (by rw [ho.1]; exact Nat.le_refl _)]
      simp
    refine list_ext _ _ (by simp) fun j hj => ?_
    have hj' : j < i + 1 := by simp [ho.1] at hj; omega
    have l1 : (o ++ [(i : Int)]).length = i + 1 := by simp [ho.1]
    have l2 : (o ++ [rd o k]).length = i + 1 := by simp [ho.1]
    rw [last, rd_app_lt o _ k (by rw [ho.1]; exact hk)]
    by_cases e1 : i = j
    · subst e1
      rw [rd_set_self _ _ _ (by simp [ho.1]), rd_set_ne _ _ _ _ (by omega), last']
    · rw [rd_set_ne _ _ _ _ e1]
      by_cases e2 : k = j
      · subst e2
        rw [rd_set_self _ _ _ (by omega), rd_set_self _ _ _ (by omega)]
      · rw [rd_set_ne _ _ _ _ e2, rd_set_ne _ _ _ _ e2, rd_app_lt _ _ _ (by rw [ho.1]; omega), rd_app_lt _ _ _ (by rw [ho.1]; omega)]
  have := set_perm (o ++ [(i : Int)]) (i + 1) k i p1 p2 (by omega) (by omega)
  rwa [e] at this
theorem perm_run (l : List Int) (h : bytesOk l) (n : Nat) (hn : n ≤ 100) : ∀ (d i : Nat) (o : List Int) (p : Int), n - i = d → i ≤ n → inR i o → injR i o → 0 ≤ p → p + d ≤ 1000 → ∃ (o' : List Int), Ev (fun k => spec_l91Perm.l0 k n o i l p) (o', p + d) ∧ inR n o' ∧ injR n o'
  | 0, i, o, p, hd, hi, ho, hoi, hp, hp' => by
    have : i = n := by omega
    subst this
    refine ⟨o, Ev.s ?_, ho, hoi⟩
    simp only [spec_l91Perm.l0, show ¬ (i : Int) < (i : Int) by omega, if_false]
    exact Ev.const (by simp)
  | d + 1, i, o, p, hd, hi, ho, hoi, hp, hp' => by
    obtain ⟨v, hv, v0, v1⟩ := pick_ev l h p hp (by omega) ((i + 1 : Nat) : Int) (by omega) (by omega)
    have w1 : i < 4611686018427387904 := by omega
    have w2 : o.length < 17592186044416 := by rw [ho.1]; omega
    have w3 : o.length = i := ho.1
    by_cases e : v = (i : Int)
    · obtain ⟨q1, q2⟩ := push_self o i ho hoi
      obtain ⟨o', r1, r2, r3⟩ := perm_run l h n hn d (i + 1) _ (p + 1) (by omega) (by omega) q1 q2 (by omega) (by omega)
      refine ⟨o', Ev.s ?_, r2, r3⟩
      simp only [spec_l91Perm.l0, show (i : Int) < (n : Int) by omega, if_true, w64n w1]
      refine Ev.bind hv ?_
      simp only [e, w2, if_true]
      rw [show p + ((d + 1 : Nat) : Int) = p + 1 + d by omega]
      exact r1
    · obtain ⟨q1, q2⟩ := push_swap o i v.toNat (by omega) ho hoi
      obtain ⟨o', r1, r2, r3⟩ := perm_run l h n hn d (i + 1) _ (p + 1) (by omega) (by omega) q1 q2 (by omega) (by omega)
      rw [show ((v.toNat : Nat) : Int) = v by omega] at r1
      have w4 : v < (i : Int) := by omega
      have w5 : v < ((o ++ [rd o v]).length : Int) := by simp [w3]; omega
      refine ⟨o', Ev.s ?_, r2, r3⟩
      simp only [spec_l91Perm.l0, show (i : Int) < (n : Int) by omega, if_true, w64n w1]
      refine Ev.bind hv ?_
      simp only [e, if_false, v0, w3, w4, w2, if_true, Option.bind_some, w5]
      rw [show p + ((d + 1 : Nat) : Int) = p + 1 + d by omega]
      rw [w3] at w2
      simp only [w2, if_true, w5]
      exact r1
theorem l91Perm_ev (l : List Int) (h : bytesOk l) (n : Nat) (hn : n ≤ 100) (p : Int) (hp : 0 ≤ p) (hp' : p ≤ 500) : ∃ (o : List Int), Ev (fun k => spec_l91Perm.f k l p n) (o, p + n) ∧ inR n o ∧ injR n o := by
  unfold spec_l91Perm.f
  have := perm_run l h n hn n 0 [] p (by omega) (by omega) ⟨rfl, fun i hi => by omega⟩ (fun i j hi _ _ => by omega) hp (by omega)
  exact this
def paired (n : Nat) (q g : List Int) (i : Nat) : Prop := inR n g ∧ ∀ j : Nat, 2 * j + 1 < i → rd g (rd q ((2 * j : Nat) : Int)) = rd q ((2 * j + 1 : Nat) : Int) ∧ rd g (rd q ((2 * j + 1 : Nat) : Int)) = rd q ((2 * j : Nat) : Int)
theorem toNat_eq {a b : Int} (ha : 0 ≤ a) (hb : 0 ≤ b) (h : a.toNat = b.toNat) : a = b := by omega
theorem pair_step (n : Nat) (q g : List Int) (hq : inR n q) (hqi : injR n q) (i : Nat) (hi : 2 * i + 1 < n) (h : paired n q g (2 * i)) :
    paired n q ((g.set (rd q ((2 * i : Nat) : Int)).toNat (rd q ((2 * i + 1 : Nat) : Int))).set (rd q ((2 * i + 1 : Nat) : Int)).toNat (rd q ((2 * i : Nat) : Int))) (2 * i + 2) := by
  have ra := hq.2 (2 * i) (by omega)
  have rb := hq.2 (2 * i + 1) (by omega)
  have ne : (rd q ((2 * i : Nat) : Int)).toNat ≠ (rd q ((2 * i + 1 : Nat) : Int)).toNat := by
    intro e
    have := hqi (2 * i) (2 * i + 1) (by omega) (by omega) (toNat_eq ra.1 rb.1 e)
    omega
  have val : ∀ x : Nat, x < n → rd ((g.set (rd q ((2 * i : Nat) : Int)).toNat (rd q ((2 * i + 1 : Nat) : Int))).set (rd q ((2 * i + 1 : Nat) : Int)).toNat (rd q ((2 * i : Nat) : Int))) (x : Int) = if (rd q ((2 * i + 1 : Nat) : Int)).toNat = x then rd q ((2 * i : Nat) : Int) else if (rd q ((2 * i : Nat) : Int)).toNat = x then rd q ((2 * i + 1 : Nat) : Int) else rd g x := by
    intro x hx
    by_cases e1 : (rd q ((2 * i + 1 : Nat) : Int)).toNat = x
    · rw [if_pos e1, ← e1, rd_set_self _ _ _ (by rw [List.length_set, h.1.1]; omega)]
    · rw [rd_set_ne _ _ _ _ e1, if_neg e1]
      by_cases e2 : (rd q ((2 * i : Nat) : Int)).toNat = x
      · rw [if_pos e2, ← e2, rd_set_self _ _ _ (by rw [h.1.1]; omega)]
      · rw [rd_set_ne _ _ _ _ e2, if_neg e2]
  refine ⟨⟨by simp [h.1.1], fun x hx => ?_⟩, fun j hj => ?_⟩
  · rw [val x hx]
    have := h.1.2 x hx
    split
    · exact ra
    · split
      · exact rb
      · exact this
  · have sa := hq.2 (2 * j) (by omega)
    have sb := hq.2 (2 * j + 1) (by omega)
    have ea : (((rd q ((2 * j : Nat) : Int)).toNat : Nat) : Int) = rd q ((2 * j : Nat) : Int) := by omega
    have eb : (((rd q ((2 * j + 1 : Nat) : Int)).toNat : Nat) : Int) = rd q ((2 * j + 1 : Nat) : Int) := by omega
    rw [← ea, ← eb, val _ (by omega), val _ (by omega), ea, eb]
    by_cases z : j = i
    · subst z
      rw [if_neg (fun e => ne e.symm), if_pos rfl, if_pos rfl]
      exact ⟨rfl, rfl⟩
    · have old := h.2 j (by omega)
      have n1 : (rd q ((2 * i + 1 : Nat) : Int)).toNat ≠ (rd q ((2 * j : Nat) : Int)).toNat := fun e => by
        have := hqi (2 * i + 1) (2 * j) (by omega) (by omega) (toNat_eq rb.1 sa.1 e)
        omega
      have n2 : (rd q ((2 * i : Nat) : Int)).toNat ≠ (rd q ((2 * j : Nat) : Int)).toNat := fun e => by
        have := hqi (2 * i) (2 * j) (by omega) (by omega) (toNat_eq ra.1 sa.1 e)
        omega
      have n3 : (rd q ((2 * i + 1 : Nat) : Int)).toNat ≠ (rd q ((2 * j + 1 : Nat) : Int)).toNat := fun e => by
        have := hqi (2 * i + 1) (2 * j + 1) (by omega) (by omega) (toNat_eq rb.1 sb.1 e)
        omega
      have n4 : (rd q ((2 * i : Nat) : Int)).toNat ≠ (rd q ((2 * j + 1 : Nat) : Int)).toNat := fun e => by
        have := hqi (2 * i) (2 * j + 1) (by omega) (by omega) (toNat_eq ra.1 sb.1 e)
        omega
      rw [if_neg n1, if_neg n2, if_neg n3, if_neg n4]
      exact old
theorem paired_flip (n m : Nat) (hm : n = 2 * m) (q g : List Int) (hq : inR n q) (hqi : injR n q) (h : paired n q g n) : ∀ d : Nat, d < n → flipAt g d := by
  intro d hd
  obtain ⟨j, hj, e⟩ := surj q n hq hqi d hd
  have rep : ∃ i, (j = 2 * i ∨ j = 2 * i + 1) ∧ 2 * i + 1 < n := by
    refine ⟨j / 2, by omega, by omega⟩
  obtain ⟨i, hj', hi⟩ := rep
  have o := h.2 i hi
  have ne : rd q ((2 * i : Nat) : Int) ≠ rd q ((2 * i + 1 : Nat) : Int) := by
    intro e
    have := hqi (2 * i) (2 * i + 1) (by omega) (by omega) e
    omega
  rcases hj' with rfl | rfl
  · rw [e] at o ne
    unfold flipAt
    rw [o.1]
    exact ⟨fun z => ne z.symm, o.2⟩
  · rw [e] at o ne
    unfold flipAt
    rw [o.2]
    exact ⟨ne, o.1⟩
def drewMap (F : Nat → Option (List Int × List Int × Int)) (p : Int) : Prop := ∃ (t f : List Int) (p' : Int), Ev F (t, f, p') ∧ t.length ≤ 12 ∧ f.length ≤ 12 ∧ 0 ≤ p' ∧ p' ≤ p + 1
theorem map_end (l : List Int) (h : bytesOk l) (n : Nat) (h1 : 1 ≤ n) (hn : n ≤ 12) (i : Int) (p : Int) (hp : 0 ≤ p) (hp' : p ≤ 500) (t f : List Int) (ht : t.length = n) (hf : f.length = n) : drewMap (fun k => spec_l91Map.j2 k n i false l p t f) p := by
  obtain ⟨v, hv, v0, v1⟩ := pick_ev l h p hp (by omega) 50 (by omega) (by omega)
  have g1 : (0 : Int) < (f.length : Int) := by omega
  have g2 : (1 : Int) ≤ (t.length : Int) := by omega
  have g3 : (0 : Int) < (t.length : Int) := by omega
  by_cases c0 : v = 0
  · refine ⟨t, f.set 0 0, p + 1, Ev.s ?_, by omega, by simp; omega, by omega, by omega⟩
    simp only [spec_l91Map.j2, Bool.false_eq_true, if_false]
    refine Ev.bind hv ?_
    simp only [c0, g1, if_true]
    exact Ev.const rfl
  · by_cases c1 : v = 1
    · refine ⟨t.drop 1, f, p + 1, Ev.s ?_, by simp; omega, by omega, by omega, by omega⟩
      simp only [spec_l91Map.j2, Bool.false_eq_true, if_false]
      refine Ev.bind hv ?_
      simp only [c0, c1, g2, show ¬ (1 : Int) = 0 by decide, if_true, if_false]
      exact Ev.const rfl
    · by_cases c2 : v = 2
      · refine ⟨t.set 0 n, f, p + 1, Ev.s ?_, by simp; omega, by omega, by omega, by omega⟩
        simp only [spec_l91Map.j2, Bool.false_eq_true, if_false]
        refine Ev.bind hv ?_
        simp only [c2, g3, show ¬ (2 : Int) = 0 by decide, show ¬ (2 : Int) = 1 by decide, if_true, if_false]
        exact Ev.const rfl
      · refine ⟨t, f, p + 1, Ev.s ?_, by omega, by omega, by omega, by omega⟩
        simp only [spec_l91Map.j2, Bool.false_eq_true, if_false]
        refine Ev.bind hv ?_
        simp only [c0, c1, c2, if_false]
        exact Ev.const rfl
theorem map_find (n : Nat) (hn : n ≤ 12) (o : List Int) (ho : o.length = n) (i : Int) (l : List Int) (p : Int) (t f : List Int) (ht : t.length = n) (z : Nat) (hz : z < n) (hz0 : rd o z ≠ 0) (hz1 : ∀ y : Nat, y < z → rd o y = 0) (r : List Int × List Int × Int)
    (h : Ev (fun k => spec_l91Map.l1 k n (wrap64 (i + 1)) l p ((t.set 0 (rd t (z : Int))).set z (rd t 0)) f) r) : ∀ (d y : Nat), z - y = d → y ≤ z → Ev (fun k => spec_l91Map.l2 k n i o y l p t f) r
  | 0, y, hd, hy => by
    have : y = z := by omega
    subst this
    refine Ev.s ?_
    simp only [spec_l91Map.l2, ho, ht, show (0 : Int) ≤ (y : Int) by omega, show (y : Int) < (n : Int) by omega, hz0, show (0 : Int) < (n : Int) by omega, if_true, if_false, Int.toNat_natCast]
    exact h
  | d + 1, y, hd, hy => by
    refine Ev.s ?_
    simp only [spec_l91Map.l2, ho, show (0 : Int) ≤ (y : Int) by omega, show (y : Int) < (n : Int) by omega, hz1 y (by omega), if_true, w64n (show y < 4611686018427387904 by omega)]
    exact map_find n hn o ho i l p t f ht z hz hz0 hz1 r h d (y + 1) (by omega) (by omega)
theorem map_loop (l : List Int) (h : bytesOk l) (n : Nat) (h1 : 1 ≤ n) (hn : n ≤ 12) (f : List Int) (hf : inR n f) (hfl : ∀ d : Nat, d < n → flipAt f d) (p : Int) (hp : 0 ≤ p) (hp' : p ≤ 500) : ∀ (d i : Nat) (t : List Int), n - i = d → i ≤ n → inR n t → injR n t → drewMap (fun k => spec_l91Map.l1 k n i l p t f) p
  | 0, i, t, hd, hi, ht, hti => by
    have : i = n := by omega
    subst this
    obtain ⟨a, b, c, e1, e2⟩ := map_end l h i h1 hn i p hp hp' t f ht.1 hf.1
    refine ⟨a, b, c, Ev.s ?_, e2⟩
    simp only [spec_l91Map.l1, show ¬ (i : Int) < (i : Int) by omega, if_false]
    exact e1
  | d + 1, i, t, hd, hi, ht, hti => by
    obtain ⟨b, b1, _, b3⟩ := mapValid_both t f (by rw [ht.1]; omega) (by rw [hf.1]; omega)
    cases b with
    | true =>
      obtain ⟨a, b', c, e1, e2⟩ := map_end l h n h1 hn i p hp hp' t f ht.1 hf.1
      refine ⟨a, b', c, Ev.s ?_, e2⟩
      simp only [spec_l91Map.l1, show (i : Int) < (n : Int) by omega, if_true]
      refine Ev.bind b1 ?_
      exact e1
    | false =>
      obtain ⟨o, o1, o2, _⟩ := orb_both t f n hn h1 ht hf
      have nz : ∃ z, z < n ∧ rd o (z : Int) ≠ 0 := by
        by_cases q : ∃ z, z < n ∧ rd o ((z : Nat) : Int) ≠ 0
        · exact q
        · exfalso
          have all0 : ∀ q : Nat, q < n → rd o q = 0 := fun z hz => by
            by_cases e : rd o (z : Int) = 0
            · exact e
            · exact absurd ⟨z, hz, e⟩ q
          have hc := (orb_zero t f n h1 ht hf o o1).1 all0
          have hm : isMap t f := isMap_of ⟨hn, h1, ht, hti, hf, hfl, hc⟩
          have := b3.2 hm
          cases this
      have least : ∃ z, z < n ∧ rd o (z : Int) ≠ 0 ∧ ∀ y : Nat, y < z → rd o y = 0 := by
        obtain ⟨z, hz, hz0⟩ := nz
        induction z using Nat.strongRecOn with
        | ind z ih =>
          by_cases q : ∃ y, y < z ∧ rd o ((y : Nat) : Int) ≠ 0
          · obtain ⟨y, y1, y2⟩ := q
            exact ih y y1 (by omega) y2
          · exact ⟨z, hz, hz0, fun y hy => by
              by_cases e : rd o (y : Int) = 0
              · exact e
              · exact absurd ⟨y, hy, e⟩ q⟩
      obtain ⟨z, hz, hz0, hz1⟩ := least
      obtain ⟨q1, q2⟩ := set_perm t n 0 z ht hti (by omega) hz
      obtain ⟨a, b', c, e1, e2⟩ := map_loop l h n h1 hn f hf hfl p hp hp' d (i + 1) _ (by omega) (by omega) q1 q2
      refine ⟨a, b', c, Ev.s ?_, e2⟩
      simp only [spec_l91Map.l1, show (i : Int) < (n : Int) by omega, if_true]
      refine Ev.bind b1 ?_
      refine Ev.s ?_
      simp only [spec_l91Map.j2, Bool.not_false, if_true]
      refine Ev.bind o2 ?_
      refine map_find n hn o o1.1.1 i l p t f ht.1 z hz hz0 hz1 _ ?_ z 0 (by omega) (by omega)
      rw [w64n (by omega)]
      exact e1
theorem map_pairs (l : List Int) (h : bytesOk l) (n m : Nat) (hm : n = 2 * m) (h1 : 1 ≤ m) (hn : n ≤ 12) (q : List Int) (hq : inR n q) (hqi : injR n q) (p : Int) (hp : 0 ≤ p) (hp' : p ≤ 400) : ∀ (d i : Nat) (g : List Int), m - i = d → i ≤ m → paired n q g (2 * i) → ∃ (t f : List Int) (p' : Int), Ev (fun k => spec_l91Map.l0 k n q g ((2 * i : Nat) : Int) l p) (t, f, p') ∧ t.length ≤ 12 ∧ f.length ≤ 12 ∧ 0 ≤ p' ∧ p' ≤ p + 13
  | 0, i, g, hd, hi, hg => by
    have : i = m := by omega
    subst this
    rw [← hm] at hg
    obtain ⟨t, t1, t2, t3⟩ := l91Perm_ev l h n (by omega) p hp (by omega)
    obtain ⟨a, b, c, e1, e2, e3, e4, e5⟩ := map_loop l h n (by omega) hn g hg.1 (paired_flip n i hm q g hq hqi hg) (p + n) (by omega) (by omega) n 0 t (by omega) (by omega) t2 t3
    refine ⟨a, b, c, Ev.s ?_, e2, e3, e4, by omega⟩
    have w : i < 1000 := by omega
    simp only [spec_l91Map.l0, w64n (show 2 * i < 4611686018427387904 by omega), show ¬ ((2 * i + 1 : Nat) : Int) < (n : Int) by omega, if_false]
    exact Ev.bind t1 e1
  | d + 1, i, g, hd, hi, hg => by
    have ra := hq.2 (2 * i) (by omega)
    have rb := hq.2 (2 * i + 1) (by omega)
    obtain ⟨a, b, c, e1, e2⟩ := map_pairs l h n m hm h1 hn q hq hqi p hp hp' d (i + 1) _ (by omega) (by omega) (pair_step n q g hq hqi i (by omega) hg)
    refine ⟨a, b, c, Ev.s ?_, e2⟩
    have w2 : wrap64 (((2 * i : Nat) : Int) + 2) = ((2 * (i + 1) : Nat) : Int) := by rw [w64 (by omega) (by omega)]; omega
    simp only [spec_l91Map.l0, w64n (show 2 * i < 4611686018427387904 by omega), show ((2 * i + 1 : Nat) : Int) < (n : Int) by omega, show (0 : Int) ≤ ((2 * i : Nat) : Int) by omega, show (0 : Int) ≤ ((2 * i + 1 : Nat) : Int) by omega, hq.1, show ((2 * i : Nat) : Int) < (n : Int) by omega, hg.1.1, ra.1, ra.2, rb.1, rb.2, if_true, w2]
    exact e1
theorem l91Map_at (l : List Int) (h : bytesOk l) (p : Int) (hp : 0 ≤ p) (hp' : p ≤ 200) (edges : Nat) (h1 : 1 ≤ edges) (h6 : edges ≤ 6) : ∃ (t f : List Int) (p' : Int), Ev (fun k => spec_l91Map.f k l p edges) (t, f, p') ∧ t.length ≤ 12 ∧ f.length ≤ 12 ∧ 0 ≤ p' ∧ p' ≤ p + 100 := by
  obtain ⟨v, hv, v0, v1⟩ := pick_ev l h p hp (by omega) (edges : Int) (by omega) (by omega)
  obtain ⟨V, rfl⟩ : ∃ V : Nat, v = (V : Int) := ⟨v.toNat, by omega⟩
  obtain ⟨q, q1, q2, q3⟩ := l91Perm_ev l h (2 * (1 + V)) (by omega) (p + 1) (by omega) (by omega)
  have rep : paired (2 * (1 + V)) q (List.replicate (2 * (1 + V)) 0) (2 * 0) := by
    refine ⟨⟨by simp, fun i hi => ?_⟩, fun j hj => by omega⟩
    rw [rd_lt _ _ (by simpa using hi)]
    simp
    omega
  obtain ⟨a, b, c, e1, e2, e3, e4, e5⟩ := map_pairs l h (2 * (1 + V)) (1 + V) rfl (by omega) (by omega) q q2 q3 (p + 1 + ((2 * (1 + V) : Nat) : Int)) (by omega) (by omega) (1 + V) 0 _ (by omega) (by omega) rep
  refine ⟨a, b, c, ?_, e2, e3, e4, by omega⟩
  unfold spec_l91Map.f
  refine Ev.bind hv ?_
  have w1 : wrap64 (1 + (V : Int)) = ((1 + V : Nat) : Int) := by rw [w64 (by omega) (by omega)]; omega
  have w2 : wrap64 (2 * ((1 + V : Nat) : Int)) = ((2 * (1 + V) : Nat) : Int) := by rw [w64 (by omega) (by omega)]; omega
  simp only [w1, w2]
  refine Ev.bind q1 ?_
  simp only [show (0 : Int) ≤ ((2 * (1 + V) : Nat) : Int) by omega, Int.toNat_natCast, show 2 * (1 + V) ≤ 35184372088832 by omega, if_true]
  exact e1
theorem l91Map_ev (l : List Int) (h : bytesOk l) (edges : Nat) (h1 : 1 ≤ edges) (h6 : edges ≤ 6) : ∃ (t f : List Int) (p' : Int), Ev (fun k => spec_l91Map.f k l 0 edges) (t, f, p') ∧ t.length ≤ 12 ∧ f.length ≤ 12 ∧ 0 ≤ p' ∧ p' ≤ 100 := by
  obtain ⟨t, f, p', h⟩ := l91Map_at l h 0 (by omega) (by omega) edges h1 h6
  exact ⟨t, f, p', by simpa using h⟩
theorem at_ev (l : List Int) (h : bytesOk l) (p : Int) (hp : 0 ≤ p) (hp' : p ≤ 500) (n : Int) (h0 : 0 ≤ n) (hn : n ≤ 100) : ∃ v q, Ev (fun k => spec_l91At.f k l p n) (v, q) := by
  have yes : ∀ p : Int, 0 ≤ p → p ≤ 600 → ∃ v q, Ev (fun k => spec_l91At.j0 k n true l p) (v, q) := by
    intro p hp hp'
    obtain ⟨v, hv, v0, v1⟩ := pick_ev l h p hp (by omega) 2 (by omega) (by omega)
    refine ⟨rd [(-1), n] v, p + 1, Ev.s ?_⟩
    simp only [spec_l91At.j0, if_true, Option.bind_some]
    refine Ev.bind hv ?_
    simp only [v0, show v < (([(-1), n] : List Int).length : Int) from v1, if_true]
    exact Ev.const rfl
  unfold spec_l91At.f
  by_cases z : n = 0
  · simp only [z, if_true]
    subst z
    exact yes p hp (by omega)
  · simp only [z, if_false]
    obtain ⟨v, hv, v0, v1⟩ := pick_ev l h p hp (by omega) 20 (by omega) (by omega)
    by_cases c : v = 0
    · obtain ⟨x, q, e⟩ := yes (p + 1) (by omega) (by omega)
      refine ⟨x, q, Ev.bind hv ?_⟩
      have : (v == 0) = true := by rw [c]; rfl
      simp only [this]
      exact e
    · obtain ⟨x, hx, x0, x1⟩ := pick_ev l h (p + 1) (by omega) (by omega) n (by omega) (by omega)
      refine ⟨x, p + 1 + 1, Ev.bind hv ?_⟩
      have : (v == 0) = false := by rw [beq_eq_false_iff_ne]; exact c
      simp only [this]
      refine Ev.s ?_
      simp only [spec_l91At.j0, Bool.false_eq_true, if_false]
      exact Ev.bind hx (Ev.const rfl)
theorem l92Edge_ev (l : List Int) (h : bytesOk l) : ∃ (t f : List Int) (e p : Int), Ev (fun k => spec_l92Edge.f k l 0) (t, f, e, p) ∧ t.length ≤ 12 ∧ f.length ≤ 12 := by
  obtain ⟨t, f, p, e1, e2, e3, e4, e5⟩ := l91Map_ev l h 5 (by omega) (by omega)
  obtain ⟨v, q, e6⟩ := at_ev l h p e4 (by omega) ((f.length : Int) / 2) (by omega) (by omega)
  refine ⟨t, f, v, q, ?_, e2, e3⟩
  unfold spec_l92Edge.f
  refine Ev.bind e1 ?_
  rw [w64 (x := (f.length : Int) / 2) (by omega) (by omega)]
  exact Ev.bind e6 (Ev.const rfl)
def nmA (a b : Nat) : Nat → Nat
  | 0 => 0
  | d + 1 => nmA a b d + if d = a ∨ d = b then 0 else 1
theorem nmA_le (a b : Nat) : ∀ d, nmA a b d ≤ d
  | 0 => Nat.le_refl _
  | d + 1 => by
    have := nmA_le a b d
    simp only [nmA]
    split <;> omega
def lvL (a b : Nat) (h : Nat → Int) : Nat → List Int
  | 0 => []
  | i + 1 => if i = a ∨ i = b then lvL a b h i else lvL a b h i ++ [h i]
theorem lvL_len (a b : Nat) (h : Nat → Int) : ∀ i, (lvL a b h i).length = nmA a b i
  | 0 => rfl
  | i + 1 => by
    have ih := lvL_len a b h i
    simp only [lvL, nmA]
    split
    · rw [ih]; rfl
    · rw [List.length_append, ih]; rfl
theorem lvL_congr (a b : Nat) (h h' : Nat → Int) : ∀ i, (∀ d, d < i → d ≠ a → d ≠ b → h d = h' d) → lvL a b h i = lvL a b h' i
  | 0, _ => rfl
  | i + 1, H => by
    have ih := lvL_congr a b h h' i fun d hd => H d (by omega)
    simp only [lvL, ih]
    split
    · rfl
    · rename_i c
      rw [H i (by omega) (fun z => c (.inl z)) (fun z => c (.inr z))]
theorem rd_rangeL (h : Nat → Int) (n d : Nat) (hd : d < n) : rd ((List.range n).map h) (d : Int) = h d := by
  rw [rd_lt _ _ (by simp; exact hd)]; simp
def nmT (a b n : Nat) : List Int := (List.range n).map fun (d : Nat) => (nmA a b d : Int)
theorem nmT_rd (a b n d : Nat) (h : d < n) : rd (nmT a b n) (d : Int) = (nmA a b d : Int) := rd_rangeL _ n d h
theorem nmT_len (a b n : Nat) : (nmT a b n).length = n := by simp [nmT]
def skp (p : List Int) (a b : Nat) (x : Int) : Int := if x = a ∨ x = b then (if rd p x = a ∨ rd p x = b then rd p (rd p x) else rd p x) else x
theorem skp_out (p : List Int) (n : Nat) (hp : inR n p) (hi : injR n p) (a b d : Nat) (ha : a < n) (hb : b < n) (hd : d < n) (hab : a ≠ b) (hda : d ≠ a) (hdb : d ≠ b) :
    (skp p a b (rd p (d : Int)) ≠ a ∧ skp p a b (rd p (d : Int)) ≠ b) ∧ 0 ≤ skp p a b (rd p (d : Int)) ∧ skp p a b (rd p (d : Int)) < n := by
  have rd0 := hp.2 d hd
  have ra := hp.2 a ha
  have rb := hp.2 b hb
  have ia : rd p (d : Int) ≠ rd p (a : Int) := fun z => hda (hi d a hd ha z)
  have ib : rd p (d : Int) ≠ rd p (b : Int) := fun z => hdb (hi d b hd hb z)
  have iab : rd p (a : Int) ≠ rd p (b : Int) := fun z => hab (hi a b ha hb z)
  unfold skp
  by_cases c : rd p (d : Int) = a ∨ rd p (d : Int) = b
  · rw [if_pos c]
    rcases c with c | c
    · rw [c]
      by_cases c2 : rd p (a : Int) = a ∨ rd p (a : Int) = b
      · rw [if_pos c2]
        rcases c2 with c2 | c2
        · exact absurd (c.trans c2.symm) ia
        · rw [c2]
          refine ⟨⟨fun z => ib (c.trans z.symm), fun z => iab (c2.trans z.symm)⟩, rb⟩
      · rw [if_neg c2]
        exact ⟨⟨fun z => c2 (.inl z), fun z => c2 (.inr z)⟩, ra⟩
    · rw [c]
      by_cases c2 : rd p (b : Int) = a ∨ rd p (b : Int) = b
      · rw [if_pos c2]
        rcases c2 with c2 | c2
        · rw [c2]
          refine ⟨⟨fun z => iab (z.trans c2.symm), fun z => ia (c.trans z.symm)⟩, ra⟩
        · exact absurd (c.trans c2.symm) ib
      · rw [if_neg c2]
        exact ⟨⟨fun z => c2 (.inl z), fun z => c2 (.inr z)⟩, rb⟩
  · rw [if_neg c]
    exact ⟨⟨fun z => c (.inl z), fun z => c (.inr z)⟩, rd0⟩
theorem skp_run (F : Nat → Int → Option Int) (p : List Int) (n : Nat) (hp : inR n p) (a b : Nat) (hstop : ∀ x : Int, x ≠ a → x ≠ b → Ev (fun k => F k x) x) (hgo : ∀ x : Int, (x = a ∨ x = b) → ∀ r, Ev (fun k => F k (rd p x)) r → Ev (fun k => F k x) r) (x : Int) (ho : skp p a b x ≠ a ∧ skp p a b x ≠ b) : Ev (fun k => F k x) (skp p a b x) := by
  unfold skp at ho ⊢
  by_cases c : x = a ∨ x = b
  · rw [if_pos c] at ho ⊢
    by_cases c2 : rd p x = a ∨ rd p x = b
    · rw [if_pos c2] at ho ⊢
      exact hgo x c _ (hgo _ c2 _ (hstop _ ho.1 ho.2))
    · rw [if_neg c2] at ho ⊢
      exact hgo x c _ (hstop _ ho.1 ho.2)
  · rw [if_neg c] at ho ⊢
    exact hstop x ho.1 ho.2
theorem past_ev (p : List Int) (n : Nat) (hp : inR n p) (hi : injR n p) (a b d : Nat) (ha : a < n) (hb : b < n) (hd : d < n) (hab : a ≠ b) (hda : d ≠ a) (hdb : d ≠ b) : Ev (fun k => spec_l7Past.f k p d a b) (skp p a b (rd p (d : Int))) := by
  have hl := hp.1
  have h := skp_run (fun k x => spec_l7Past.l0 k p x a b) p n hp a b (fun x h1 h2 => by
      refine Ev.s ?_
      simp only [spec_l7Past.l0, h1, h2, if_false]
      exact Ev.const rfl) (fun x c r hr => by
      refine Ev.s ?_
      rcases c with c | c
      · subst c
        simp only [spec_l7Past.l0, if_true, show (0 : Int) ≤ (a : Int) by omega, show (a : Int) < (p.length : Int) by omega]
        exact hr
      · subst c
        simp only [spec_l7Past.l0, if_true, show ¬ (b : Int) = (a : Int) by omega, if_false, show (0 : Int) ≤ (b : Int) by omega, show (b : Int) < (p.length : Int) by omega]
        exact hr) (rd p (d : Int)) (skp_out p n hp hi a b d ha hb hd hab hda hdb).1
  unfold spec_l7Past.f
  simp only [show (0 : Int) ≤ (d : Int) by omega, show (d : Int) < (p.length : Int) by omega, if_true]
  exact h
def pastL (p : List Int) (a b n : Nat) : List Int := (List.range n).map fun (d : Nat) => if d = a ∨ d = b then rd p (d : Int) else skp p a b (rd p (d : Int))
theorem pastL_rd (p : List Int) (a b n d : Nat) (h : d < n) : rd (pastL p a b n) (d : Int) = if d = a ∨ d = b then rd p (d : Int) else skp p a b (rd p (d : Int)) := rd_rangeL _ n d h
theorem pastL_len (p : List Int) (a b n : Nat) : (pastL p a b n).length = n := by simp [pastL]
def outT (p : List Int) (a b n : Nat) : List Int := lvL a b (fun d => (nmA a b (skp p a b (rd p (d : Int))).toNat : Int)) n
def outF (f : List Int) (a b n : Nat) : List Int := lvL a b (fun d => (nmA a b (rd f (d : Int)).toNat : Int)) n
theorem leave_names (n : Nat) (hn : n ≤ 12) (T F : List Int) (hT : T.length = n) (a b : Nat) (r : List Int × List Int) (h : Ev (fun k => spec_l7Leave.l1 k T F a b (nmT a b n) 0 [] []) r) : ∀ (d i : Nat), n - i = d → i ≤ n → Ev (fun k => spec_l7Leave.l0 k T F a b (mixL (nmT a b n) (List.replicate n 0) n i) (nmA a b i) i) r
  | 0, i, hd, hi => by
    have : i = n := by omega
    subst this
    rw [mixL_all _ _ _ (nmT_len a b i)]
    refine Ev.s ?_
    simp only [spec_l7Leave.l0, hT, show ¬ (i : Int) < (i : Int) by omega, if_false]
    exact h
  | d + 1, i, hd, hi => by
    have ih := leave_names n hn T F hT a b r h d (i + 1) (by omega) (by omega)
    have hl := mixL_len (nmT a b n) (List.replicate n 0) n i
    have hs := mixL_set (nmT a b n) (List.replicate n 0) n i (by omega)
    rw [nmT_rd a b n i (by omega)] at hs
    have hle := nmA_le a b i
    refine Ev.s ?_
    simp only [spec_l7Leave.l0, hT, hl, show (i : Int) < (n : Int) by omega, show (0 : Int) ≤ (i : Int) by omega, if_true, Option.bind_some, Int.toNat_natCast, hs, w64n (show i < 4611686018427387904 by omega)]
    simp only [nmA] at ih
    by_cases c1 : i = a
    · rw [if_pos (.inl c1), Nat.add_zero] at ih
      simp only [show (i : Int) = (a : Int) by omega, if_true]
      rw [show (a : Int) = (i : Int) by omega] at ih ⊢
      exact ih
    · by_cases c2 : i = b
      · rw [if_pos (.inr c2), Nat.add_zero] at ih
        simp only [show ¬ (i : Int) = (a : Int) by omega, show (i : Int) = (b : Int) by omega, if_true, if_false]
        simp only [show ¬ (b : Int) = (a : Int) by omega, if_false]
        rw [show (b : Int) = (i : Int) by omega] at ih ⊢
        exact ih
      · rw [if_neg (fun z => z.elim c1 c2)] at ih
        simp only [show ¬ (i : Int) = (a : Int) by omega, show ¬ (i : Int) = (b : Int) by omega, if_false, w64n (show nmA a b i < 4611686018427387904 by omega)]
        exact ih
theorem leave_run (n : Nat) (hn : n ≤ 12) (T F : List Int) (hT : T.length = n) (hF : inR n F) (a b : Nat) (hTr : ∀ d : Nat, d < n → d ≠ a → d ≠ b → 0 ≤ rd T (d : Int) ∧ rd T (d : Int) < n) : ∀ (d i : Nat), n - i = d → i ≤ n → Ev (fun k => spec_l7Leave.l1 k T F a b (nmT a b n) i (lvL a b (fun d => (nmA a b (rd T (d : Int)).toNat : Int)) i) (lvL a b (fun d => (nmA a b (rd F (d : Int)).toNat : Int)) i)) (lvL a b (fun d => (nmA a b (rd T (d : Int)).toNat : Int)) n, lvL a b (fun d => (nmA a b (rd F (d : Int)).toNat : Int)) n)
  | 0, i, hd, hi => by
    have : i = n := by omega
    subst this
    refine Ev.s ?_
    simp only [spec_l7Leave.l1, hT, show ¬ (i : Int) < (i : Int) by omega, if_false]
    exact Ev.const rfl
  | d + 1, i, hd, hi => by
    have ih := leave_run n hn T F hT hF a b hTr d (i + 1) (by omega) (by omega)
    have hle := nmA_le a b i
    have l1 := lvL_len a b (fun d => (nmA a b (rd T (d : Int)).toNat : Int)) i
    have l2 := lvL_len a b (fun d => (nmA a b (rd F (d : Int)).toNat : Int)) i
    refine Ev.s ?_
    simp only [spec_l7Leave.l1, hT, show (i : Int) < (n : Int) by omega, show (0 : Int) ≤ (i : Int) by omega, if_true, w64n (show i < 4611686018427387904 by omega)]
    simp only [lvL] at ih
    by_cases c1 : i = a
    · rw [if_pos (.inl c1), if_pos (.inl c1)] at ih
      simp only [if_pos (show (i : Int) = (a : Int) by omega)]
      exact ih
    · simp only [show ¬ (i : Int) = (a : Int) by omega, if_false]
      by_cases c2 : i = b
      · rw [if_pos (.inr c2), if_pos (.inr c2)] at ih
        simp only [if_pos (show (i : Int) = (b : Int) by omega)]
        exact ih
      · rw [if_neg (fun z => z.elim c1 c2), if_neg (fun z => z.elim c1 c2)] at ih
        simp only [show ¬ (i : Int) = (b : Int) by omega, if_false]
        have r1 := hTr i (by omega) c1 c2
        have r2 := hF.2 i (by omega)
        have hFl := hF.1
        have e1 := nmT_rd a b n (rd T (i : Int)).toNat (by omega)
        have e2 := nmT_rd a b n (rd F (i : Int)).toNat (by omega)
        rw [show (((rd T (i : Int)).toNat : Nat) : Int) = rd T (i : Int) by omega] at e1
        rw [show (((rd F (i : Int)).toNat : Nat) : Int) = rd F (i : Int) by omega] at e2
        simp only [r1.1, r1.2, r2.1, r2.2, nmT_len, hFl, show (i : Int) < (n : Int) by omega, if_true, e1, e2, show (lvL a b (fun d => (nmA a b (rd T (d : Int)).toNat : Int)) i).length < 17592186044416 by omega, show (lvL a b (fun d => (nmA a b (rd F (d : Int)).toNat : Int)) i).length < 17592186044416 by omega]
        exact ih
theorem specLeave_ev (n : Nat) (h1 : 1 ≤ n) (hn : n ≤ 12) (p f : List Int) (hp : inR n p) (hi : injR n p) (hf : inR n f) (a b : Nat) (ha : a < n) (hb : b < n) (hab : a ≠ b) : Ev (fun k => spec_l7Leave.f k (pastL p a b n) f a b) (outT p a b n, outF f a b n) := by
  have hl := pastL_len p a b n
  have hr := leave_run n hn (pastL p a b n) f hl hf a b (fun d hd h1 h2 => by
    rw [pastL_rd p a b n d hd, if_neg (fun z => z.elim h1 h2)]
    exact (skp_out p n hp hi a b d ha hb hd hab h1 h2).2) n 0 (by omega) (by omega)
  have hc : lvL a b (fun d => (nmA a b (rd (pastL p a b n) (d : Int)).toNat : Int)) n = outT p a b n := lvL_congr a b _ _ n fun d hd h1 h2 => by
    rw [pastL_rd p a b n d hd, if_neg (fun z => z.elim h1 h2)]
  rw [hc] at hr
  have h0 := leave_names n hn (pastL p a b n) f hl a b _ hr n 0 (by omega) (by omega)
  rw [mixL_zero _ _ _ (by simp)] at h0
  unfold spec_l7Leave.f
  simp only [hl, show (0 : Int) ≤ (n : Int) by omega, Int.toNat_natCast, show n ≤ 35184372088832 by omega, if_true]
  exact h0
theorem out_len (p f : List Int) (a b n : Nat) (hn : n ≤ 12) : (outT p a b n).length ≤ 12 ∧ (outF f a b n).length ≤ 12 := by
  have := nmA_le a b n
  unfold outT outF
  rw [lvL_len, lvL_len]
  omega
theorem copy_ev (l : List Int) (h : l.length ≤ 1048576) : spec_l2Copy.f l = some l := by
  unfold spec_l2Copy.f
  rw [Option.bind_some, if_pos (by simp; omega), List.nil_append]
def swpL (t : List Int) (a b n : Nat) : List Int := (List.range n).map fun (d : Nat) => if d = a then rd t (b : Int) else if d = b then rd t (a : Int) else rd t (d : Int)
theorem swpL_rd (t : List Int) (a b n d : Nat) (h : d < n) : rd (swpL t a b n) (d : Int) = if d = a then rd t (b : Int) else if d = b then rd t (a : Int) else rd t (d : Int) := rd_rangeL _ n d h
theorem swpL_len (t : List Int) (a b n : Nat) : (swpL t a b n).length = n := by simp [swpL]
theorem swpL_inR (t : List Int) (n a b : Nat) (ht : inR n t) (ha : a < n) (hb : b < n) : inR n (swpL t a b n) := ⟨swpL_len t a b n, fun i hi => by
  rw [swpL_rd t a b n i hi]
  have h1 := ht.2 a ha
  have h2 := ht.2 b hb
  have h3 := ht.2 i hi
  split
  · exact h2
  · split
    · exact h1
    · exact h3⟩
theorem swpL_inj (t : List Int) (n a b : Nat) (hti : injR n t) (ha : a < n) (hb : b < n) (hab : a ≠ b) : injR n (swpL t a b n) := fun i j hi hj e => by
  rw [swpL_rd t a b n i hi, swpL_rd t a b n j hj] at e
  by_cases i1 : i = a
  · rw [if_pos i1] at e
    by_cases j1 : j = a
    · omega
    · rw [if_neg j1] at e
      by_cases j2 : j = b
      · rw [if_pos j2] at e
        exact absurd (hti b a hb ha e).symm hab
      · rw [if_neg j2] at e
        exact absurd (hti b j hb hj e).symm j2
  · rw [if_neg i1] at e
    by_cases i2 : i = b
    · rw [if_pos i2] at e
      by_cases j1 : j = a
      · rw [if_pos j1] at e
        exact absurd (hti a b ha hb e) hab
      · rw [if_neg j1] at e
        by_cases j2 : j = b
        · omega
        · rw [if_neg j2] at e
          exact absurd (hti a j ha hj e).symm j1
    · rw [if_neg i2] at e
      by_cases j1 : j = a
      · rw [if_pos j1] at e
        exact absurd (hti i b hi hb e) i2
      · rw [if_neg j1] at e
        by_cases j2 : j = b
        · rw [if_pos j2] at e
          exact absurd (hti i a hi ha e) i1
        · rw [if_neg j2] at e
          exact hti i j hi hj e
theorem onCon_ev (t f : List Int) (n : Nat) (ht : inR n t) (hti : injR n t) (hf : inR n f) (a b : Nat) (ha : a < n) (hb : b < n) (hab : a ≠ b) (fa : rd f (a : Int) = b) (fb : rd f (b : Int) = a) (d : Nat) (hd : d < n) (hda : d ≠ a) (hdb : d ≠ b) : Ev (fun k => econ.f k a b t f (rd t (d : Int))) (skp (swpL t a b n) a b (rd (swpL t a b n) (d : Int))) := by
  have htl := ht.1
  have hfl := hf.1
  have hpa : rd (swpL t a b n) (a : Int) = rd t (b : Int) := by rw [swpL_rd t a b n a ha, if_pos rfl]
  have hpb : rd (swpL t a b n) (b : Int) = rd t (a : Int) := by rw [swpL_rd t a b n b hb, if_neg (fun z => hab z.symm), if_pos rfl]
  have hpd : rd (swpL t a b n) (d : Int) = rd t (d : Int) := by rw [swpL_rd t a b n d hd, if_neg hda, if_neg hdb]
  rw [← hpd]
  exact skp_run (fun k x => econ.l0 a b t f k x) (swpL t a b n) n (swpL_inR t n a b ht ha hb) a b (fun x h1 h2 => by
      refine Ev.s ?_
      simp only [econ.l0, h1, h2, if_false]
      exact Ev.const rfl) (fun x c r hr => by
      refine Ev.s ?_
      rcases c with c | c
      · subst c
        rw [hpa] at hr
        simp only [econ.l0, if_true, show (0 : Int) ≤ (a : Int) by omega, show (a : Int) < (f.length : Int) by omega, fa, show (0 : Int) ≤ (b : Int) by omega, show (b : Int) < (t.length : Int) by omega]
        exact hr
      · subst c
        rw [hpb] at hr
        simp only [econ.l0, if_true, show ¬ (b : Int) = (a : Int) by omega, if_false, show (0 : Int) ≤ (b : Int) by omega, show (b : Int) < (f.length : Int) by omega, fb, show (0 : Int) ≤ (a : Int) by omega, show (a : Int) < (t.length : Int) by omega]
        exact hr) (rd (swpL t a b n) (d : Int)) (skp_out (swpL t a b n) n (swpL_inR t n a b ht ha hb) (swpL_inj t n a b hti ha hb hab) a b d ha hb hd hab hda hdb).1
theorem namesCon (t f lt lf : List Int) (n : Nat) (hn : n ≤ 12) (a b ca cb : Nat) (r : List Int × List Int) (h : Ev (fun k => leftCon.l1 ca cb lt lf k a b (nmT a b n) (t.length : Int) 0 t f [] []) r) : ∀ (d i : Nat), n - i = d → i ≤ n → Ev (fun k => leftCon.l0 ca cb lt lf k a b (mixL (nmT a b n) (List.replicate n 0) n i) (nmA a b i) n i t f) r
  | 0, i, hd, hi => by
    have : i = n := by omega
    subst this
    rw [mixL_all _ _ _ (nmT_len a b i)]
    refine Ev.s ?_
    simp only [leftCon.l0, show ¬ (i : Int) < (i : Int) by omega, if_false]
    exact h
  | d + 1, i, hd, hi => by
    have ih := namesCon t f lt lf n hn a b ca cb r h d (i + 1) (by omega) (by omega)
    have hl := mixL_len (nmT a b n) (List.replicate n 0) n i
    have hs := mixL_set (nmT a b n) (List.replicate n 0) n i (by omega)
    rw [nmT_rd a b n i (by omega)] at hs
    have hle := nmA_le a b i
    refine Ev.s ?_
    simp only [leftCon.l0, hl, show (i : Int) < (n : Int) by omega, show (0 : Int) ≤ (i : Int) by omega, if_true, Option.bind_some, Int.toNat_natCast, hs, w64n (show i < 4611686018427387904 by omega)]
    simp only [nmA] at ih
    by_cases c1 : i = a
    · rw [if_pos (.inl c1), Nat.add_zero] at ih
      simp only [if_pos (show (i : Int) = (a : Int) by omega)]
      exact ih
    · simp only [if_neg (show ¬ (i : Int) = (a : Int) by omega)]
      by_cases c2 : i = b
      · rw [if_pos (.inr c2), Nat.add_zero] at ih
        simp only [if_pos (show (i : Int) = (b : Int) by omega)]
        exact ih
      · rw [if_neg (fun z => z.elim c1 c2)] at ih
        simp only [if_neg (show ¬ (i : Int) = (b : Int) by omega), w64n (show nmA a b i < 4611686018427387904 by omega)]
        exact ih
theorem leftCon_run (t f : List Int) (n : Nat) (hn : n ≤ 12) (ht : inR n t) (hti : injR n t) (hf : inR n f) (a b : Nat) (ha : a < n) (hb : b < n) (hab : a ≠ b) (fa : rd f (a : Int) = b) (fb : rd f (b : Int) = a) : ∀ (d i : Nat), n - i = d → i ≤ n → Ev (fun k => leftCon.l1 a b t f k a b (nmT a b n) n i t f (lvL a b (fun d => (nmA a b (skp (swpL t a b n) a b (rd (swpL t a b n) (d : Int))).toNat : Int)) i) (lvL a b (fun d => (nmA a b (rd f (d : Int)).toNat : Int)) i)) (outT (swpL t a b n) a b n, outF f a b n)
  | 0, i, hd, hi => by
    have : i = n := by omega
    subst this
    refine Ev.s ?_
    simp only [leftCon.l1, show ¬ (i : Int) < (i : Int) by omega, if_false]
    exact Ev.const rfl
  | d + 1, i, hd, hi => by
    have ih := leftCon_run t f n hn ht hti hf a b ha hb hab fa fb d (i + 1) (by omega) (by omega)
    have hle := nmA_le a b i
    have l1 := lvL_len a b (fun d => (nmA a b (skp (swpL t a b n) a b (rd (swpL t a b n) (d : Int))).toNat : Int)) i
    have l2 := lvL_len a b (fun d => (nmA a b (rd f (d : Int)).toNat : Int)) i
    have htl := ht.1
    have hfl := hf.1
    refine Ev.s ?_
    simp only [leftCon.l1, show (i : Int) < (n : Int) by omega, show (0 : Int) ≤ (i : Int) by omega, if_true, w64n (show i < 4611686018427387904 by omega)]
    simp only [lvL] at ih
    by_cases c1 : i = a
    · rw [if_pos (.inl c1), if_pos (.inl c1)] at ih
      simp only [if_pos (show (i : Int) = (a : Int) by omega)]
      exact ih
    · simp only [if_neg (show ¬ (i : Int) = (a : Int) by omega)]
      by_cases c2 : i = b
      · rw [if_pos (.inr c2), if_pos (.inr c2)] at ih
        simp only [if_pos (show (i : Int) = (b : Int) by omega)]
        exact ih
      · rw [if_neg (fun z => z.elim c1 c2), if_neg (fun z => z.elim c1 c2)] at ih
        simp only [if_neg (show ¬ (i : Int) = (b : Int) by omega), show (i : Int) < (t.length : Int) by omega, if_true]
        refine Ev.bind (onCon_ev t f n ht hti hf a b ha hb hab fa fb i (by omega) c1 c2) ?_
        have r1 := (skp_out (swpL t a b n) n (swpL_inR t n a b ht ha hb) (swpL_inj t n a b hti ha hb hab) a b i ha hb (by omega) hab c1 c2).2
        have r2 := hf.2 i (by omega)
        have e1 := nmT_rd a b n (skp (swpL t a b n) a b (rd (swpL t a b n) (i : Int))).toNat (by omega)
        have e2 := nmT_rd a b n (rd f (i : Int)).toNat (by omega)
        rw [show (((skp (swpL t a b n) a b (rd (swpL t a b n) (i : Int))).toNat : Nat) : Int) = skp (swpL t a b n) a b (rd (swpL t a b n) (i : Int)) by omega] at e1
        rw [show (((rd f (i : Int)).toNat : Nat) : Int) = rd f (i : Int) by omega] at e2
        simp only [r1.1, r1.2, r2.1, r2.2, nmT_len, show (i : Int) < (f.length : Int) by omega, if_true, e1, e2, show (lvL a b (fun d => (nmA a b (skp (swpL t a b n) a b (rd (swpL t a b n) (d : Int))).toNat : Int)) i).length < 17592186044416 by omega, show (lvL a b (fun d => (nmA a b (rd f (d : Int)).toNat : Int)) i).length < 17592186044416 by omega]
        exact ih
theorem leftCon_ev (t f : List Int) (n : Nat) (hn : n ≤ 12) (ht : inR n t) (hti : injR n t) (hf : inR n f) (a b : Nat) (ha : a < n) (hb : b < n) (hab : a ≠ b) (fa : rd f (a : Int) = b) (fb : rd f (b : Int) = a) : Ev (fun k => leftCon.f k t f a b a b t f) (outT (swpL t a b n) a b n, outF f a b n) := by
  have htl := ht.1
  have h1 := leftCon_run t f n hn ht hti hf a b ha hb hab fa fb n 0 (by omega) (by omega)
  have h0 := namesCon t f t f n hn a b a b _ (by rw [htl]; exact h1) n 0 (by omega) (by omega)
  rw [mixL_zero _ _ _ (by simp)] at h0
  unfold leftCon.f
  simp only [htl, show (0 : Int) ≤ (n : Int) by omega, Int.toNat_natCast, show n ≤ 35184372088832 by omega, if_true, Option.bind_some, List.length_replicate]
  exact h0
theorem specCon_run (t f : List Int) (n : Nat) (h1 : 1 ≤ n) (hn : n ≤ 12) (ht : inR n t) (hti : injR n t) (hf : inR n f) (a b : Nat) (ha : a < n) (hb : b < n) (hab : a ≠ b) : ∀ (d i : Nat), n - i = d → i ≤ n → Ev (fun k => spec_EdgeContract.l0 k a b (swpL t a b n) (mixL (pastL (swpL t a b n) a b n) (swpL t a b n) n i) i t f) (outT (swpL t a b n) a b n, outF f a b n, true)
  | 0, i, hd, hi => by
    have : i = n := by omega
    subst this
    rw [mixL_all _ _ _ (pastL_len _ a b i)]
    have hl := pastL_len (swpL t a b i) a b i
    refine Ev.s ?_
    simp only [spec_EdgeContract.l0, hl, show ¬ (i : Int) < (i : Int) by omega, if_false]
    exact Ev.bind (specLeave_ev i h1 hn (swpL t a b i) f (swpL_inR t i a b ht ha hb) (swpL_inj t i a b hti ha hb hab) hf a b ha hb hab) (Ev.const rfl)
  | d + 1, i, hd, hi => by
    have ih := specCon_run t f n h1 hn ht hti hf a b ha hb hab d (i + 1) (by omega) (by omega)
    have hl := mixL_len (pastL (swpL t a b n) a b n) (swpL t a b n) n i
    have hs := mixL_set (pastL (swpL t a b n) a b n) (swpL t a b n) n i (by omega)
    have hrd := pastL_rd (swpL t a b n) a b n i (by omega)
    refine Ev.s ?_
    simp only [spec_EdgeContract.l0, hl, show (i : Int) < (n : Int) by omega, if_true, w64n (show i < 4611686018427387904 by omega)]
    by_cases c1 : i = a
    · rw [if_pos (.inl c1)] at hrd
      simp only [if_pos (show (i : Int) = (a : Int) by omega)]
      rw [mixL_skip _ _ n i (by omega) hrd]
      exact ih
    · simp only [if_neg (show ¬ (i : Int) = (a : Int) by omega)]
      by_cases c2 : i = b
      · rw [if_pos (.inr c2)] at hrd
        simp only [if_pos (show (i : Int) = (b : Int) by omega)]
        rw [mixL_skip _ _ n i (by omega) hrd]
        exact ih
      · rw [if_neg (fun z => z.elim c1 c2)] at hrd
        simp only [if_neg (show ¬ (i : Int) = (b : Int) by omega)]
        refine Ev.bind (past_ev (swpL t a b n) n (swpL_inR t n a b ht ha hb) (swpL_inj t n a b hti ha hb hab) a b i ha hb (by omega) hab c1 c2) ?_
        simp only [show (0 : Int) ≤ (i : Int) by omega, if_true, Int.toNat_natCast]
        rw [hrd] at hs
        rw [hs]
        exact ih
theorem set_swp (t : List Int) (n a b : Nat) (ht : t.length = n) (ha : a < n) (hb : b < n) (hab : a ≠ b) : (t.set a (rd t (b : Int))).set b (rd t (a : Int)) = swpL t a b n := by
  refine list_ext _ _ (by simp [swpL, ht]) fun d hd => ?_
  simp only [List.length_set] at hd
  rw [swpL_rd t a b n d (by omega)]
  by_cases c2 : d = b
  · subst c2
    rw [rd_set_self _ d _ (by simp only [List.length_set]; omega), if_neg (fun z => hab z.symm), if_pos rfl]
  · rw [rd_set_ne _ b d _ (fun z => c2 z.symm)]
    by_cases c1 : d = a
    · subst c1
      rw [rd_set_self _ d _ (by omega), if_pos rfl]
    · rw [rd_set_ne _ a d _ (fun z => c1 z.symm), if_neg c1, if_neg c2]
theorem con_told (t f : List Int) (hm : isMap t f) (e : Nat) (he : e < (edL f t.length).length) : ∃ a b : Nat, a < t.length ∧ b < t.length ∧ a ≠ b ∧ rd (edL f t.length) (e : Int) = a ∧ rd f a = b ∧ rd f b = a ∧ (∀ d : Nat, d < t.length → (rd (geL f t.length t.length) (d : Int) = e ↔ d = a ∨ d = b)) ∧
    Ev (fun k => spec_EdgeContract.j0 k e false t f) (outT (swpL t a b t.length) a b t.length, outF f a b t.length, true) ∧ Ev (fun k => impl_EdgeContract.j0 k e false t f) (outT (swpL t a b t.length) a b t.length, outF f a b t.length, true) := by
  obtain ⟨hn, h1, ht, hti, hf, hfl, _, _⟩ := ribOk_of t f [] hm (fun i hi => by simp at hi) (by simp)
  have hlen := hf.1
  obtain ⟨a, b, ha, hb, hab, e1, e2, e3, e4⟩ := edge_at f t.length hf hfl e he
  obtain ⟨a2, _, l2, l3, _⟩ := edL_get f t.length e he
  have haa : a2 = a := by omega
  subst haa
  have hlt : a2 < b := by omega
  refine ⟨a2, b, ha, hb, hab, e1, e2, e3, e4, ?_, ?_⟩
  · refine Ev.s ?_
    simp only [spec_EdgeContract.j0, Bool.false_eq_true, if_false]
    refine Ev.bind (Ev.bind (specEdges_ev t.length (by omega) t f hf) (dart_run f t.length e a2 hn ha ((e4 a2 ha).2 (.inl rfl)) (fun d hd z => by rcases (e4 d (by omega)).1 z with h | h <;> omega) _ 0 rfl (by omega))) ?_
    simp only [show (0 : Int) ≤ (a2 : Int) by omega, show (a2 : Int) < (f.length : Int) by omega, if_true, e2]
    simp only [copy_ev t (by omega), Option.bind_some, show (0 : Int) ≤ (b : Int) by omega, show (b : Int) < (t.length : Int) by omega, show (a2 : Int) < (t.length : Int) by omega, if_true, Int.toNat_natCast, set_swp t t.length a2 b rfl ha hb hab, copy_ev (swpL t a2 b t.length) (by rw [swpL_len]; omega)]
    have := specCon_run t f t.length h1 hn ht hti hf a2 b ha hb hab t.length 0 (by omega) (by omega)
    rw [mixL_zero _ _ _ (swpL_len t a2 b t.length)] at this
    exact this
  · refine Ev.s ?_
    simp only [impl_EdgeContract.j0, Bool.false_eq_true, if_false]
    refine Ev.bind (implEdges_ev t.length (by omega) t f hf) ?_
    simp only [show (0 : Int) ≤ (e : Int) by omega, show (e : Int) < ((edL f t.length).length : Int) by omega, e1, show (0 : Int) ≤ (a2 : Int) by omega, show (a2 : Int) < (f.length : Int) by omega, e2, if_true]
    exact Ev.bind (leftCon_ev t f t.length hn ht hti hf a2 b ha hb hab e2 e3) (Ev.const rfl)
theorem con_more (t f : List Int) (e : Int) (ht : t.length ≤ 1048576) (hf : f.length ≤ 1048576) : ∃ r : List Int × List Int × Bool, Ev (fun k => spec_EdgeContract.f k t f e) r ∧ Ev (fun k => impl_EdgeContract.f k t f e) r ∧ r.1.length ≤ 12 ∧ r.2.1.length ≤ 12 ∧
    (r = ([], [], false) ∨ isMap t f ∧ t.length ≠ 2 ∧ ∃ E a b : Nat, e = (E : Int) ∧ E < (edL f t.length).length ∧ (a < t.length ∧ b < t.length ∧ a ≠ b ∧ rd (edL f t.length) (E : Int) = a ∧ rd f a = b ∧ rd f b = a ∧ ∀ d : Nat, d < t.length → (rd (geL f t.length t.length) (d : Int) = E ↔ d = a ∨ d = b)) ∧ (∃ q : Int, q ≠ 2 ∧ Ev (fun k => impl_EdgeKind.f k t f e) q) ∧ r = (outT (swpL t a b t.length) a b t.length, outF f a b t.length, true)) := by
  obtain ⟨r, r1, r2, r3⟩ := edgeKind_more t f ht hf e
  have noS : ∀ c : Bool, c = true → Ev (fun k => spec_EdgeContract.j0 k e c t f) ([], [], false) := fun c h => by
    refine Ev.s ?_
    simp only [spec_EdgeContract.j0, h, if_true]
    exact Ev.const rfl
  have noI : ∀ c : Bool, c = true → Ev (fun k => impl_EdgeContract.j0 k e c t f) ([], [], false) := fun c h => by
    refine Ev.s ?_
    simp only [impl_EdgeContract.j0, h, if_true]
    exact Ev.const rfl
  unfold spec_EdgeContract.f impl_EdgeContract.f
  by_cases c0 : r = -1
  · refine ⟨([], [], false), ?_, ?_, by simp, by simp, .inl rfl⟩
    · refine Ev.bind r1 ?_
      simp only [c0, show (-1 : Int) < 0 by decide, if_true]
      exact noS true rfl
    · refine Ev.bind r2 ?_
      simp only [c0, if_true]
      exact noI true rfl
  · obtain ⟨z0, hm, he0, he1⟩ := r3.resolve_left c0
    by_cases c1 : r = 2
    · refine ⟨([], [], false), ?_, ?_, by simp, by simp, .inl rfl⟩
      · refine Ev.bind r1 ?_
        simp only [show ¬ r < 0 by omega, c1, if_true, if_false, show ¬ (2 : Int) < 0 by decide]
        exact noS true rfl
      · refine Ev.bind r2 ?_
        simp only [c0, c1, if_true, if_false, show ¬ (2 : Int) = -1 by decide]
        exact noI true rfl
    · have hlen : t.length = f.length := hm.2.2.1
      by_cases c2 : t.length = 2
      · refine ⟨([], [], false), ?_, ?_, by simp, by simp, .inl rfl⟩
        · refine Ev.bind r1 ?_
          simp only [show ¬ r < 0 by omega, c1, if_false]
          exact noS _ (by rw [c2]; rfl)
        · refine Ev.bind r2 ?_
          simp only [c0, c1, if_false]
          exact noI _ (by rw [← hlen, c2]; rfl)
      · obtain ⟨hn, h1, ht', hti, hf', hfl, _, _⟩ := ribOk_of t f [] hm (fun i hi => by simp at hi) (by simp)
        have hh := edL_half f t.length hf' hfl
        obtain ⟨E, rfl⟩ : ∃ E : Nat, e = (E : Int) := ⟨e.toNat, by omega⟩
        obtain ⟨a, b, y1, y2, y3, y4, y5, y6, y7, q1, q2⟩ := con_told t f hm E (by omega)
        obtain ⟨o1, o2⟩ := out_len (swpL t a b t.length) f a b t.length hn
        refine ⟨(outT (swpL t a b t.length) a b t.length, outF f a b t.length, true), ?_, ?_, o1, o2, .inr ⟨hm, c2, E, a, b, rfl, by omega, ⟨y1, y2, y3, y4, y5, y6, y7⟩, ⟨r, c1, r2⟩, rfl⟩⟩
        · refine Ev.bind r1 ?_
          simp only [show ¬ r < 0 by omega, c1, if_false]
          rw [show (((t.length : Int) == 2)) = false from beq_eq_false_iff_ne.2 (by omega)]
          exact q1
        · refine Ev.bind r2 ?_
          simp only [c0, c1, if_false]
          rw [show (((f.length : Int) == 2)) = false from beq_eq_false_iff_ne.2 (by omega)]
          exact q2
theorem onDel_ev (t f : List Int) (n : Nat) (ht : inR n t) (hti : injR n t) (hf : inR n f) (a b : Nat) (ha : a < n) (hb : b < n) (hab : a ≠ b) (fa : rd f (a : Int) = b) (fb : rd f (b : Int) = a) (d : Nat) (hd : d < n) (hda : d ≠ a) (hdb : d ≠ b) : Ev (fun k => edel.f k a b t f (rd t (d : Int))) (skp t a b (rd t (d : Int))) := by
  have htl := ht.1
  have hfl := hf.1
  exact skp_run (fun k x => edel.l0 a b t f k x) t n ht a b (fun x h1 h2 => by
      refine Ev.s ?_
      simp only [edel.l0, h1, h2, if_false]
      exact Ev.const rfl) (fun x c r hr => by
      refine Ev.s ?_
      rcases c with c | c
      · subst c
        simp only [edel.l0, if_true, show (0 : Int) ≤ (a : Int) by omega, show (a : Int) < (t.length : Int) by omega]
        exact hr
      · subst c
        simp only [edel.l0, if_true, show ¬ (b : Int) = (a : Int) by omega, if_false, show (0 : Int) ≤ (b : Int) by omega, show (b : Int) < (t.length : Int) by omega]
        exact hr) (rd t (d : Int)) (skp_out t n ht hti a b d ha hb hd hab hda hdb).1
theorem namesDel (t f lt lf : List Int) (n : Nat) (hn : n ≤ 12) (a b ca cb : Nat) (r : List Int × List Int) (h : Ev (fun k => leftDel.l1 ca cb lt lf k a b (nmT a b n) (t.length : Int) 0 t f [] []) r) : ∀ (d i : Nat), n - i = d → i ≤ n → Ev (fun k => leftDel.l0 ca cb lt lf k a b (mixL (nmT a b n) (List.replicate n 0) n i) (nmA a b i) n i t f) r
  | 0, i, hd, hi => by
    have : i = n := by omega
    subst this
    rw [mixL_all _ _ _ (nmT_len a b i)]
    refine Ev.s ?_
    simp only [leftDel.l0, show ¬ (i : Int) < (i : Int) by omega, if_false]
    exact h
  | d + 1, i, hd, hi => by
    have ih := namesDel t f lt lf n hn a b ca cb r h d (i + 1) (by omega) (by omega)
    have hl := mixL_len (nmT a b n) (List.replicate n 0) n i
    have hs := mixL_set (nmT a b n) (List.replicate n 0) n i (by omega)
    rw [nmT_rd a b n i (by omega)] at hs
    have hle := nmA_le a b i
    refine Ev.s ?_
    simp only [leftDel.l0, hl, show (i : Int) < (n : Int) by omega, show (0 : Int) ≤ (i : Int) by omega, if_true, Option.bind_some, Int.toNat_natCast, hs, w64n (show i < 4611686018427387904 by omega)]
    simp only [nmA] at ih
    by_cases c1 : i = a
    · rw [if_pos (.inl c1), Nat.add_zero] at ih
      simp only [if_pos (show (i : Int) = (a : Int) by omega)]
      exact ih
    · simp only [if_neg (show ¬ (i : Int) = (a : Int) by omega)]
      by_cases c2 : i = b
      · rw [if_pos (.inr c2), Nat.add_zero] at ih
        simp only [if_pos (show (i : Int) = (b : Int) by omega)]
        exact ih
      · rw [if_neg (fun z => z.elim c1 c2)] at ih
        simp only [if_neg (show ¬ (i : Int) = (b : Int) by omega), w64n (show nmA a b i < 4611686018427387904 by omega)]
        exact ih
theorem leftDel_run (t f : List Int) (n : Nat) (hn : n ≤ 12) (ht : inR n t) (hti : injR n t) (hf : inR n f) (a b : Nat) (ha : a < n) (hb : b < n) (hab : a ≠ b) (fa : rd f (a : Int) = b) (fb : rd f (b : Int) = a) : ∀ (d i : Nat), n - i = d → i ≤ n → Ev (fun k => leftDel.l1 a b t f k a b (nmT a b n) n i t f (lvL a b (fun d => (nmA a b (skp t a b (rd t (d : Int))).toNat : Int)) i) (lvL a b (fun d => (nmA a b (rd f (d : Int)).toNat : Int)) i)) (outT t a b n, outF f a b n)
  | 0, i, hd, hi => by
    have : i = n := by omega
    subst this
    refine Ev.s ?_
    simp only [leftDel.l1, show ¬ (i : Int) < (i : Int) by omega, if_false]
    exact Ev.const rfl
  | d + 1, i, hd, hi => by
    have ih := leftDel_run t f n hn ht hti hf a b ha hb hab fa fb d (i + 1) (by omega) (by omega)
    have hle := nmA_le a b i
    have l1 := lvL_len a b (fun d => (nmA a b (skp t a b (rd t (d : Int))).toNat : Int)) i
    have l2 := lvL_len a b (fun d => (nmA a b (rd f (d : Int)).toNat : Int)) i
    have htl := ht.1
    have hfl := hf.1
    refine Ev.s ?_
    simp only [leftDel.l1, show (i : Int) < (n : Int) by omega, show (0 : Int) ≤ (i : Int) by omega, if_true, w64n (show i < 4611686018427387904 by omega)]
    simp only [lvL] at ih
    by_cases c1 : i = a
    · rw [if_pos (.inl c1), if_pos (.inl c1)] at ih
      simp only [if_pos (show (i : Int) = (a : Int) by omega)]
      exact ih
    · simp only [if_neg (show ¬ (i : Int) = (a : Int) by omega)]
      by_cases c2 : i = b
      · rw [if_pos (.inr c2), if_pos (.inr c2)] at ih
        simp only [if_pos (show (i : Int) = (b : Int) by omega)]
        exact ih
      · rw [if_neg (fun z => z.elim c1 c2), if_neg (fun z => z.elim c1 c2)] at ih
        simp only [if_neg (show ¬ (i : Int) = (b : Int) by omega), show (i : Int) < (t.length : Int) by omega, if_true]
        refine Ev.bind (onDel_ev t f n ht hti hf a b ha hb hab fa fb i (by omega) c1 c2) ?_
        have r1 := (skp_out t n ht hti a b i ha hb (by omega) hab c1 c2).2
        have r2 := hf.2 i (by omega)
        have e1 := nmT_rd a b n (skp t a b (rd t (i : Int))).toNat (by omega)
        have e2 := nmT_rd a b n (rd f (i : Int)).toNat (by omega)
        rw [show (((skp t a b (rd t (i : Int))).toNat : Nat) : Int) = skp t a b (rd t (i : Int)) by omega] at e1
        rw [show (((rd f (i : Int)).toNat : Nat) : Int) = rd f (i : Int) by omega] at e2
        simp only [r1.1, r1.2, r2.1, r2.2, nmT_len, show (i : Int) < (f.length : Int) by omega, if_true, e1, e2, show (lvL a b (fun d => (nmA a b (skp t a b (rd t (d : Int))).toNat : Int)) i).length < 17592186044416 by omega, show (lvL a b (fun d => (nmA a b (rd f (d : Int)).toNat : Int)) i).length < 17592186044416 by omega]
        exact ih
theorem leftDel_ev (t f : List Int) (n : Nat) (hn : n ≤ 12) (ht : inR n t) (hti : injR n t) (hf : inR n f) (a b : Nat) (ha : a < n) (hb : b < n) (hab : a ≠ b) (fa : rd f (a : Int) = b) (fb : rd f (b : Int) = a) : Ev (fun k => leftDel.f k t f a b a b t f) (outT t a b n, outF f a b n) := by
  have htl := ht.1
  have h1 := leftDel_run t f n hn ht hti hf a b ha hb hab fa fb n 0 (by omega) (by omega)
  have h0 := namesDel t f t f n hn a b a b _ (by rw [htl]; exact h1) n 0 (by omega) (by omega)
  rw [mixL_zero _ _ _ (by simp)] at h0
  unfold leftDel.f
  simp only [htl, show (0 : Int) ≤ (n : Int) by omega, Int.toNat_natCast, show n ≤ 35184372088832 by omega, if_true, Option.bind_some, List.length_replicate]
  exact h0
theorem delI_told (t f : List Int) (hm : isMap t f) (e : Nat) (he : e < (edL f t.length).length) : ∃ a b : Nat, a < t.length ∧ b < t.length ∧ a ≠ b ∧ rd (edL f t.length) (e : Int) = a ∧ rd f a = b ∧ rd f b = a ∧ (∀ d : Nat, d < t.length → (rd (geL f t.length t.length) (d : Int) = e ↔ d = a ∨ d = b)) ∧
    Ev (fun k => impl_EdgeDelete.j0 k e false t f) (outT t a b t.length, outF f a b t.length, true) := by
  obtain ⟨hn, h1, ht, hti, hf, hfl, _, _⟩ := ribOk_of t f [] hm (fun i hi => by simp at hi) (by simp)
  have hlen := hf.1
  obtain ⟨a, b, ha, hb, hab, e1, e2, e3, e4⟩ := edge_at f t.length hf hfl e he
  refine ⟨a, b, ha, hb, hab, e1, e2, e3, e4, ?_⟩
  refine Ev.s ?_
  simp only [impl_EdgeDelete.j0, Bool.false_eq_true, if_false]
  refine Ev.bind (implEdges_ev t.length (by omega) t f hf) ?_
  simp only [show (0 : Int) ≤ (e : Int) by omega, show (e : Int) < ((edL f t.length).length : Int) by omega, e1, show (0 : Int) ≤ (a : Int) by omega, show (a : Int) < (f.length : Int) by omega, e2, if_true]
  exact Ev.bind (leftDel_ev t f t.length hn ht hti hf a b ha hb hab e2 e3) (Ev.const rfl)
def kept (a b d : Nat) : Prop := d ≠ a ∧ d ≠ b
theorem nm_kept (a b d : Nat) (h : kept a b d) : nmA a b (d + 1) = nmA a b d + 1 := by
  simp only [nmA]
  rw [if_neg (fun z => z.elim h.1 h.2)]
theorem nm_mono (a b : Nat) : ∀ (e d : Nat), nmA a b d ≤ nmA a b (d + e)
  | 0, d => Nat.le_refl _
  | e + 1, d => by
    have := nm_mono a b e d
    rw [show d + (e + 1) = d + e + 1 by omega]
    simp only [nmA]
    omega
theorem nm_lt (a b d e : Nat) (h : kept a b d) (hd : d < e) : nmA a b d < nmA a b e := by
  have h1 := nm_kept a b d h
  have h2 := nm_mono a b (e - (d + 1)) (d + 1)
  rw [show d + 1 + (e - (d + 1)) = e by omega] at h2
  omega
theorem nm_inj (a b d e : Nat) (h : kept a b d) (h' : kept a b e) (z : nmA a b d = nmA a b e) : d = e := by
  by_cases h1 : d < e
  · have := nm_lt a b d e h h1; omega
  · by_cases h2 : e < d
    · have := nm_lt a b e d h' h2; omega
    · omega
theorem nm_all (a b : Nat) (hab : a ≠ b) : ∀ m, nmA a b m + (if a < m then 1 else 0) + (if b < m then 1 else 0) = m
  | 0 => by simp [nmA]
  | m + 1 => by
    have ih := nm_all a b hab m
    simp only [nmA]
    by_cases c1 : m = a
    · subst c1
      rw [if_neg (Nat.lt_irrefl _)] at ih
      rw [if_pos (.inl rfl), if_pos (by omega)]
      by_cases c2 : b < m
      · rw [if_pos c2] at ih
        rw [if_pos (by omega)]
        omega
      · rw [if_neg c2] at ih
        rw [if_neg (by omega)]
        omega
    · by_cases c2 : m = b
      · subst c2
        rw [if_neg (Nat.lt_irrefl m)] at ih
        rw [if_pos (.inr rfl), if_pos (show m < m + 1 by omega)]
        by_cases c3 : a < m
        · rw [if_pos c3] at ih
          rw [if_pos (by omega)]
          omega
        · rw [if_neg c3] at ih
          rw [if_neg (by omega)]
          omega
      · rw [if_neg (fun z => z.elim c1 c2)]
        have e1 : (if a < m + 1 then 1 else 0) = (if a < m then 1 else 0) := by
          by_cases c3 : a < m
          · rw [if_pos c3, if_pos (by omega)]
          · rw [if_neg c3, if_neg (by omega)]
        have e2 : (if b < m + 1 then 1 else 0) = (if b < m then 1 else 0) := by
          by_cases c3 : b < m
          · rw [if_pos c3, if_pos (by omega)]
          · rw [if_neg c3, if_neg (by omega)]
        rw [e1, e2]
        omega
theorem nm_total (a b n : Nat) (ha : a < n) (hb : b < n) (hab : a ≠ b) : nmA a b n + 2 = n := by
  have := nm_all a b hab n
  rw [if_pos ha, if_pos hb] at this
  omega
theorem nm_surj (a b : Nat) : ∀ (i m : Nat), m < nmA a b i → ∃ d, d < i ∧ kept a b d ∧ nmA a b d = m
  | 0, m, h => by simp [nmA] at h
  | i + 1, m, h => by
    by_cases c : m < nmA a b i
    · obtain ⟨d, h1, h2, h3⟩ := nm_surj a b i m c
      exact ⟨d, by omega, h2, h3⟩
    · simp only [nmA] at h
      by_cases c2 : i = a ∨ i = b
      · rw [if_pos c2] at h; omega
      · rw [if_neg c2] at h
        exact ⟨i, by omega, ⟨fun z => c2 (.inl z), fun z => c2 (.inr z)⟩, by omega⟩
theorem nm_bound (a b n d : Nat) (ha : a < n) (hb : b < n) (hab : a ≠ b) (hd : d < n) (hk : kept a b d) : nmA a b d < n - 2 := by
  have h1 := nm_lt a b d n hk hd
  have h2 := nm_total a b n ha hb hab
  omega
theorem lvL_rd (a b : Nat) (h : Nat → Int) : ∀ (i d : Nat), d < i → kept a b d → rd (lvL a b h i) (nmA a b d : Int) = h d
  | 0, d, hd, hk => by omega
  | i + 1, d, hd, hk => by
    have hl := lvL_len a b h i
    simp only [lvL]
    by_cases c : i = a ∨ i = b
    · rw [if_pos c]
      refine lvL_rd a b h i d ?_ hk
      have : d ≠ i := fun z => c.elim (fun y => hk.1 (z.trans y)) (fun y => hk.2 (z.trans y))
      omega
    · rw [if_neg c]
      by_cases c2 : d = i
      · subst c2
        rw [rd_lt _ (nmA a b d) (by simp [hl])]
        rw [List.getElem_append_right (by omega)]
        simp [hl]
      · have h2 := nm_lt a b d i hk (by omega)
        rw [rd_app_lt _ _ _ (by omega)]
        exact lvL_rd a b h i d (by omega) hk
def TellsQ (a b n : Nat) (q : Nat → Nat) (L : List Int) : Prop := L.length = n - 2 ∧ ∀ d, d < n → kept a b d → q d < n ∧ kept a b (q d) ∧ rd L (nmA a b d : Int) = (nmA a b (q d) : Int)
theorem TellsQ.inR {a b n : Nat} {q : Nat → Nat} {L : List Int} (h : TellsQ a b n q L) (ha : a < n) (hb : b < n) (hab : a ≠ b) : inR (n - 2) L := by
  refine ⟨h.1, fun m hm => ?_⟩
  have ht := nm_total a b n ha hb hab
  obtain ⟨d, h1, h2, rfl⟩ := nm_surj a b n m (by omega)
  obtain ⟨q1, q2, q3⟩ := h.2 d h1 h2
  have := nm_bound a b n (q d) ha hb hab q1 q2
  rw [q3]
  omega
theorem TellsQ.injR {a b n : Nat} {q : Nat → Nat} {L : List Int} (h : TellsQ a b n q L) (ha : a < n) (hb : b < n) (hab : a ≠ b) (hq : ∀ d e, d < n → e < n → kept a b d → kept a b e → q d = q e → d = e) : injR (n - 2) L := by
  intro i j hi hj e
  have ht := nm_total a b n ha hb hab
  obtain ⟨d, h1, h2, rfl⟩ := nm_surj a b n i (by omega)
  obtain ⟨d', h1', h2', rfl⟩ := nm_surj a b n j (by omega)
  obtain ⟨q1, q2, q3⟩ := h.2 d h1 h2
  obtain ⟨q1', q2', q3'⟩ := h.2 d' h1' h2'
  rw [q3, q3'] at e
  have := nm_inj a b _ _ q2 q2' (by omega)
  rw [hq d d' h1 h1' h2 h2' this]
theorem tells_ext {a b n : Nat} {q q' : Nat → Nat} {L L' : List Int} (h : TellsQ a b n q L) (h' : TellsQ a b n q' L') (ha : a < n) (hb : b < n) (hab : a ≠ b) (hq : ∀ d, d < n → kept a b d → q d = q' d) : L = L' := by
  refine list_ext _ _ (by rw [h.1, h'.1]) fun i hi => ?_
  rw [h.1] at hi
  have ht := nm_total a b n ha hb hab
  obtain ⟨d, h1, h2, rfl⟩ := nm_surj a b n i (by omega)
  rw [(h.2 d h1 h2).2.2, (h'.2 d h1 h2).2.2, hq d h1 h2]
theorem cl_skip {a b n : Nat} (ha : a < n) (hb : b < n) (hab : a ≠ b) {R R' : Nat → Nat → Prop} (hr : ∀ x, R x x) (hs : ∀ x y, R x y → R y x) (ht : ∀ x y z, R x y → R y z → R x z)
    (hk : ∀ x y, x < n → y < n → kept a b x → kept a b y → (R' (nmA a b x) (nmA a b y) ↔ R x y)) (he : ∀ x, x < n → ∃ y, y < n ∧ kept a b y ∧ R x y) {V : Nat} (hV : Cl n R V) : Cl (n - 2) R' V := by
  have hl : ∀ x, x < n → ∃ y, y < n ∧ (kept a b y ∧ ∀ z, z < y → kept a b z → ¬ R z y) ∧ R x y := by
    intro x hx
    obtain ⟨y, y1, y2, y3⟩ := he x hx
    have key : ∀ y, y < n → kept a b y → ∃ z, z < n ∧ (kept a b z ∧ ∀ w, w < z → kept a b w → ¬ R w z) ∧ R y z := by
      intro y
      induction y using Nat.strongRecOn with
      | ind y ih =>
        intro hy ky
        by_cases c : ∃ w, w < y ∧ kept a b w ∧ R w y
        · obtain ⟨w, w1, w2, w3⟩ := c
          obtain ⟨z, z1, z2, z3⟩ := ih w w1 (by omega) w2
          exact ⟨z, z1, z2, ht _ _ _ (hs _ _ w3) z3⟩
        · exact ⟨y, hy, ⟨ky, fun w h1 h2 h3 => c ⟨w, h1, h2, h3⟩⟩, hr y⟩
    obtain ⟨z, z1, z2, z3⟩ := key y y1 y2
    exact ⟨z, z1, z2, ht _ _ _ y3 z3⟩
  obtain ⟨k, hkc, _⟩ := Cnt.ex (fun x => kept a b x ∧ ∀ z, z < x → kept a b z → ¬ R z x) n
  have e1 : V ≤ k := Cnt.reps R hs ht hV hkc (fun x hx _ => hl x hx) (fun x y hx px hy py h => lst_uniq R hs x y px py h)
  have e2 : k ≤ V := Cnt.reps R hs ht hkc hV (fun x hx _ => by
      obtain ⟨y, y1, y2, y3⟩ := lst_ex R hr hs ht x
      exact ⟨y, by omega, y2, hs _ _ y3⟩) (fun x y hx px hy py h => by
      by_cases c : x < y
      · exact absurd h (py.2 x c px.1)
      · by_cases c2 : y < x
        · exact absurd (hs _ _ h) (px.2 y c2 py.1)
        · omega)
  have e3 : k = V := by omega
  subst e3
  obtain ⟨L, l1, l2, l3⟩ := hkc
  have htot := nm_total a b n ha hb hab
  refine ⟨L.map (nmA a b), ?_, fun m => ?_, by rw [List.length_map]; exact l3⟩
  · refine List.Pairwise.map _ (fun x y h => h) ?_ |> fun z => z
    have : L.Pairwise (fun x y => nmA a b x ≠ nmA a b y) := by
      refine (List.nodup_iff_pairwise_ne.1 l1).imp_of_mem ?_
      intro x y hx hy hne z
      exact hne (nm_inj a b x y ((l2 x).1 hx).2.1 ((l2 y).1 hy).2.1 z)
    exact this
  · rw [List.mem_map]
    constructor
    · rintro ⟨x, hx, rfl⟩
      obtain ⟨x1, x2, x3⟩ := (l2 x).1 hx
      refine ⟨nm_bound a b n x ha hb hab x1 x2, fun i hi hR => ?_⟩
      obtain ⟨y, y1, y2, rfl⟩ := nm_surj a b n i (by have := nm_bound a b n x ha hb hab x1 x2; omega)
      have hyx : y < x := by
        by_cases c : y < x
        · exact c
        · by_cases c2 : y = x
          · subst c2; omega
          · have := nm_lt a b x y x2 (by omega); omega
      exact x3 y hyx y2 ((hk y x y1 x1 y2 x2).1 hR)
    · rintro ⟨hm, hl'⟩
      obtain ⟨x, x1, x2, rfl⟩ := nm_surj a b n m (by omega)
      refine ⟨x, (l2 x).2 ⟨x1, x2, fun z hz kz hR => ?_⟩, rfl⟩
      exact hl' (nmA a b z) (nm_lt a b z x kz hz) ((hk z x (by omega) x1 kz x2).2 hR)
def NoA (p : List Int) (a b : Nat) : Prop := rd p (a : Int) ≠ a ∧ rd p (b : Int) ≠ b ∧ ¬ (rd p (a : Int) = b ∧ rd p (b : Int) = a)
theorem skp_kept (p : List Int) (a b d : Nat) (h : kept a b d) : skp p a b (d : Int) = d := by
  unfold skp
  rw [if_neg (fun z => z.elim (fun y => h.1 (by omega)) (fun y => h.2 (by omega)))]
theorem skp_noA (p : List Int) (n : Nat) (hp : inR n p) (a b : Nat) (ha : a < n) (hb : b < n) (hN : NoA p a b) (x : Nat) (hx : x < n) : 0 ≤ skp p a b (x : Int) ∧ skp p a b (x : Int) < n ∧ kept a b (skp p a b (x : Int)).toNat := by
  obtain ⟨n1, n2, n3⟩ := hN
  have ra := hp.2 a ha
  have rb := hp.2 b hb
  by_cases c : kept a b x
  · rw [skp_kept p a b x c]
    exact ⟨by omega, by omega, by rw [Int.toNat_natCast]; exact c⟩
  · have c' : x = a ∨ x = b := by
      unfold kept at c
      omega
    unfold skp kept
    rcases c' with rfl | rfl
    · rw [if_pos (.inl rfl)]
      by_cases c2 : rd p (x : Int) = x ∨ rd p (x : Int) = b
      · rw [if_pos c2]
        have e := c2.resolve_left n1
        rw [e]
        have e3 : rd p (b : Int) ≠ x := fun z => n3 ⟨e, z⟩
        omega
      · rw [if_neg c2]
        omega
    · rw [if_pos (.inr rfl)]
      by_cases c2 : rd p (x : Int) = a ∨ rd p (x : Int) = x
      · rw [if_pos c2]
        have e := c2.resolve_right n2
        rw [e]
        have e3 : rd p (a : Int) ≠ x := fun z => n3 ⟨z, e⟩
        omega
      · rw [if_neg c2]
        omega
theorem skp_step (p : List Int) (n : Nat) (hp : inR n p) (a b : Nat) (hN : NoA p a b) (x : Nat) (hx : ¬ kept a b x) : skp p a b (rd p (x : Int)) = skp p a b (x : Int) := by
  obtain ⟨n1, n2, n3⟩ := hN
  have c' : x = a ∨ x = b := by
    unfold kept at hx
    omega
  unfold skp
  rcases c' with rfl | rfl
  · rw [if_pos (show (x : Int) = x ∨ (x : Int) = b from .inl rfl)]
    by_cases c2 : rd p (x : Int) = x ∨ rd p (x : Int) = b
    · rw [if_pos c2, if_pos c2]
      have e := c2.resolve_left n1
      rw [e]
      rw [if_neg (fun z => z.elim (fun y => n3 ⟨e, y⟩) n2)]
    · rw [if_neg c2, if_neg c2]
  · rw [if_pos (show (x : Int) = a ∨ (x : Int) = x from .inr rfl)]
    by_cases c2 : rd p (x : Int) = a ∨ rd p (x : Int) = x
    · rw [if_pos c2, if_pos c2]
      have e := c2.resolve_right n2
      rw [e]
      rw [if_neg (fun z => z.elim n1 (fun y => n3 ⟨y, e⟩))]
    · rw [if_neg c2, if_neg c2]
theorem skp_closed (p : List Int) (n : Nat) (hp : inR n p) (a b : Nat) (S : Nat → Prop) (hS : closedL [p] n S) (x : Nat) (hx : x < n) : S x ↔ S (skp p a b (x : Int)).toNat := by
  have st : ∀ y : Nat, y < n → (S y ↔ S (rd p (y : Int)).toNat) := hS p (by simp)
  unfold skp
  by_cases c : (x : Int) = a ∨ (x : Int) = b
  · rw [if_pos c]
    have rx := hp.2 x hx
    by_cases c2 : rd p (x : Int) = a ∨ rd p (x : Int) = b
    · rw [if_pos c2]
      have h1 := st x hx
      have h2 := st (rd p (x : Int)).toNat (by omega)
      rw [show (((rd p (x : Int)).toNat : Nat) : Int) = rd p (x : Int) by omega] at h2
      exact h1.trans h2
    · rw [if_neg c2]
      exact st x hx
  · rw [if_neg c, Int.toNat_natCast]
theorem reach_skip (p F L F' : List Int) (n : Nat) (hp : inR n p) (a b : Nat) (ha : a < n) (hb : b < n) (hab : a ≠ b) (hN : NoA p a b) (hL : TellsQ a b n (fun d => (skp p a b (rd p (d : Int))).toNat) L) (hF : inR n F) (hF' : TellsQ a b n (fun d => (rd F (d : Int)).toNat) F')
    (hFa : ∀ x : Nat, x < n → ¬ kept a b x → ¬ kept a b (rd F (x : Int)).toNat ∧ Reach [p] n x (rd F (x : Int)).toNat) (x y : Nat) (hx : x < n) (hy : y < n) (kx : kept a b x) (ky : kept a b y) :
    Reach [L, F'] (n - 2) (nmA a b x) (nmA a b y) ↔ Reach [p, F] n x y := by
  have htot := nm_total a b n ha hb hab
  constructor
  · intro h S hS
    have hSp : closedL [p] n S := fun q hq => hS q (by rw [List.mem_singleton.1 hq]; simp)
    have hSF : ∀ k : Nat, k < n → (S k ↔ S (rd F (k : Int)).toNat) := hS F (by simp)
    have hst : ∀ k : Nat, k < n → (S k ↔ S (rd p (k : Int)).toNat) := hS p (by simp)
    have tell : ∀ d, d < n → kept a b d → ((∃ e, e < n ∧ kept a b e ∧ nmA a b e = nmA a b d ∧ S e) ↔ S d) := fun d hd kd => ⟨fun ⟨e, e1, e2, e3, e4⟩ => by rw [← nm_inj a b e d e2 kd e3]; exact e4, fun h => ⟨d, hd, kd, rfl, h⟩⟩
    have := h (fun m => ∃ e, e < n ∧ kept a b e ∧ nmA a b e = m ∧ S e) (by
      intro q hq m hm
      obtain ⟨d, d1, d2, rfl⟩ := nm_surj a b n m (by omega)
      rcases List.mem_cons.1 hq with rfl | hq
      · obtain ⟨q1, q2, q3⟩ := hL.2 d d1 d2
        rw [q3, Int.toNat_natCast]
        have rx := hp.2 d d1
        have h2 := skp_closed p n hp a b S hSp (rd p (d : Int)).toNat (by omega)
        rw [show (((rd p (d : Int)).toNat : Nat) : Int) = rd p (d : Int) by omega] at h2
        exact ((tell d d1 d2).trans ((hst d d1).trans h2)).trans (tell _ q1 q2).symm
      · rw [List.mem_singleton.1 hq]
        obtain ⟨q1, q2, q3⟩ := hF'.2 d d1 d2
        rw [q3, Int.toNat_natCast]
        exact ((tell d d1 d2).trans (hSF d d1)).trans (tell _ q1 q2).symm)
    exact ((tell x hx kx).symm.trans this).trans (tell y hy ky)
  · intro h S' hS'
    have key : closedL [p] n (fun z => S' (nmA a b (skp p a b (z : Int)).toNat)) := by
      intro q hq z hz
      rw [List.mem_singleton.1 hq]
      have rz := hp.2 z hz
      show S' (nmA a b (skp p a b (z : Int)).toNat) ↔ S' (nmA a b (skp p a b (((rd p (z : Int)).toNat : Nat) : Int)).toNat)
      rw [show (((rd p (z : Int)).toNat : Nat) : Int) = rd p (z : Int) by omega]
      by_cases c : kept a b z
      · rw [skp_kept p a b z c, Int.toNat_natCast]
        have := hS' L (by simp) (nmA a b z) (by exact nm_bound a b n z ha hb hab hz c)
        rw [(hL.2 z hz c).2.2, Int.toNat_natCast] at this
        exact this
      · rw [skp_step p n hp a b hN z c]
    have := h (fun z => S' (nmA a b (skp p a b (z : Int)).toNat)) (by
      intro q hq z hz
      rcases List.mem_cons.1 hq with rfl | hq
      · exact key q (by simp) z hz
      · rw [List.mem_singleton.1 hq]
        by_cases c : kept a b z
        · obtain ⟨q1, q2, q3⟩ := hF'.2 z hz c
          have h3 := hS' F' (by simp) (nmA a b z) (nm_bound a b n z ha hb hab hz c)
          rw [q3, Int.toNat_natCast] at h3
          show S' (nmA a b (skp p a b (z : Int)).toNat) ↔ S' (nmA a b (skp p a b (((rd F (z : Int)).toNat : Nat) : Int)).toNat)
          rw [skp_kept p a b z c, Int.toNat_natCast, skp_kept p a b _ q2, Int.toNat_natCast]
          exact h3
        · exact (hFa z hz c).2 _ key)
    simp only [skp_kept p a b x kx, skp_kept p a b y ky, Int.toNat_natCast] at this
    exact this
theorem reach_skip1 (p L : List Int) (n : Nat) (hp : inR n p) (a b : Nat) (ha : a < n) (hb : b < n) (hab : a ≠ b) (hN : NoA p a b) (hL : TellsQ a b n (fun d => (skp p a b (rd p (d : Int))).toNat) L) (x y : Nat) (hx : x < n) (hy : y < n) (kx : kept a b x) (ky : kept a b y) :
    Reach [L] (n - 2) (nmA a b x) (nmA a b y) ↔ Reach [p] n x y := by
  have st : ∀ (q : List Int) (m : Nat) (u v : Nat), Reach [q, stl m] m u v ↔ Reach [q] m u v := by
    intro q m u v
    constructor
    · intro h S hS
      refine h S fun r hr k hk => ?_
      rcases List.mem_cons.1 hr with rfl | hr
      · exact hS r (by simp) k hk
      · rw [List.mem_singleton.1 hr, stl_rd m k hk, Int.toNat_natCast]
    · intro h S hS
      exact h S fun r hr k hk => hS r (by rw [List.mem_singleton.1 hr]; simp) k hk
  have h := reach_skip p (stl n) L (stl (n - 2)) n hp a b ha hb hab hN hL ⟨stl_length n, fun i hi => by rw [stl_rd n i hi]; omega⟩ ⟨stl_length _, fun d hd kd => by
      show (rd (stl n) (d : Int)).toNat < n ∧ kept a b (rd (stl n) (d : Int)).toNat ∧ rd (stl (n - 2)) (nmA a b d : Int) = (nmA a b (rd (stl n) (d : Int)).toNat : Int)
      rw [stl_rd n d hd, Int.toNat_natCast]
      exact ⟨hd, kd, stl_rd _ _ (nm_bound a b n d ha hb hab hd kd)⟩⟩ (fun z hz hk => by
      rw [stl_rd n z hz, Int.toNat_natCast]
      exact ⟨hk, Reach.refl _ _ _⟩) x y hx hy kx ky
  rw [st, st] at h
  exact h
theorem skp_reach (p : List Int) (n : Nat) (hp : inR n p) (a b x : Nat) (hx : x < n) : Reach [p] n x (skp p a b (x : Int)).toNat := fun S hS => skp_closed p n hp a b S hS x hx
theorem cl_left (p L : List Int) (n : Nat) (hp : inR n p) (a b : Nat) (ha : a < n) (hb : b < n) (hab : a ≠ b) (hN : NoA p a b) (hL : TellsQ a b n (fun d => (skp p a b (rd p (d : Int))).toNat) L) (V : Nat) (hV : Cl n (Reach [p] n) V) : Cl (n - 2) (Reach [L] (n - 2)) V :=
  cl_skip ha hb hab (fun x => Reach.refl _ _ x) (fun x y h => h.symm) (fun x y z h h' => h.trans h') (fun x y hx hy kx ky => reach_skip1 p L n hp a b ha hb hab hN hL x y hx hy kx ky) (fun x hx => by
    obtain ⟨s1, s2, s3⟩ := skp_noA p n hp a b ha hb hN x hx
    exact ⟨_, by omega, s3, skp_reach p n hp a b x hx⟩) hV
theorem outT_tells (p : List Int) (n : Nat) (hp : inR n p) (hi : injR n p) (a b : Nat) (ha : a < n) (hb : b < n) (hab : a ≠ b) : TellsQ a b n (fun d => (skp p a b (rd p (d : Int))).toNat) (outT p a b n) := by
  have htot := nm_total a b n ha hb hab
  refine ⟨by unfold outT; rw [lvL_len]; omega, fun d hd kd => ?_⟩
  obtain ⟨⟨s1, s2⟩, s3, s4⟩ := skp_out p n hp hi a b d ha hb hd hab kd.1 kd.2
  show (skp p a b (rd p (d : Int))).toNat < n ∧ kept a b (skp p a b (rd p (d : Int))).toNat ∧ rd (outT p a b n) (nmA a b d : Int) = (nmA a b (skp p a b (rd p (d : Int))).toNat : Int)
  refine ⟨by omega, ⟨by omega, by omega⟩, ?_⟩
  unfold outT
  rw [lvL_rd a b _ n d hd kd]
theorem outF_tells (f : List Int) (n : Nat) (hf : inR n f) (a b : Nat) (ha : a < n) (hb : b < n) (hab : a ≠ b) (hk : ∀ d : Nat, d < n → kept a b d → kept a b (rd f (d : Int)).toNat) : TellsQ a b n (fun d => (rd f (d : Int)).toNat) (outF f a b n) := by
  have htot := nm_total a b n ha hb hab
  refine ⟨by unfold outF; rw [lvL_len]; omega, fun d hd kd => ?_⟩
  have := hf.2 d hd
  show (rd f (d : Int)).toNat < n ∧ kept a b (rd f (d : Int)).toNat ∧ rd (outF f a b n) (nmA a b d : Int) = (nmA a b (rd f (d : Int)).toNat : Int)
  refine ⟨by omega, hk d hd kd, ?_⟩
  unfold outF
  rw [lvL_rd a b _ n d hd kd]
theorem skp_inj (p : List Int) (n : Nat) (hp : inR n p) (hi : injR n p) (a b : Nat) (ha : a < n) (hb : b < n) (d e : Nat) (hd : d < n) (he : e < n) (kd : kept a b d) (ke : kept a b e) (h : skp p a b (rd p (d : Int)) = skp p a b (rd p (e : Int))) : d = e := by
  have inj : ∀ x y : Int, 0 ≤ x → x < n → 0 ≤ y → y < n → rd p x = rd p y → x = y := fun x y h1 h2 h3 h4 h5 => by
    have := hi x.toNat y.toNat (by omega) (by omega) (by rw [show ((x.toNat : Nat) : Int) = x by omega, show ((y.toNat : Nat) : Int) = y by omega]; exact h5)
    omega
  have rng : ∀ x : Int, 0 ≤ x → x < n → 0 ≤ rd p x ∧ rd p x < n := fun x h1 h2 => by
    have := hp.2 x.toNat (by omega)
    rwa [show ((x.toNat : Nat) : Int) = x by omega] at this
  obtain ⟨d1, d2⟩ := rng (d : Int) (by omega) (by omega)
  obtain ⟨e1, e2⟩ := rng (e : Int) (by omega) (by omega)
  obtain ⟨d3, d4⟩ := rng _ d1 d2
  obtain ⟨e3, e4⟩ := rng _ e1 e2
  have kd1 : (d : Int) ≠ a := fun z => kd.1 (by omega)
  have kd2 : (d : Int) ≠ b := fun z => kd.2 (by omega)
  have ke1 : (e : Int) ≠ a := fun z => ke.1 (by omega)
  have ke2 : (e : Int) ≠ b := fun z => ke.2 (by omega)
  unfold skp at h
  by_cases c : rd p (d : Int) = a ∨ rd p (d : Int) = b
  · rw [if_pos c] at h
    by_cases c' : rd p (e : Int) = a ∨ rd p (e : Int) = b
    · rw [if_pos c'] at h
      by_cases c2 : rd p (rd p (d : Int)) = a ∨ rd p (rd p (d : Int)) = b
      · rw [if_pos c2] at h
        by_cases c2' : rd p (rd p (e : Int)) = a ∨ rd p (rd p (e : Int)) = b
        · rw [if_pos c2'] at h
          have := inj _ _ (by omega) (by omega) (by omega) (by omega) (inj _ _ d1 d2 e1 e2 (inj _ _ d3 d4 e3 e4 h))
          omega
        · rw [if_neg c2'] at h
          have := inj _ _ d1 d2 (by omega) (by omega) (inj _ _ d3 d4 e1 e2 h)
          rcases c with c | c
          · exact absurd (this.symm.trans c) ke1
          · exact absurd (this.symm.trans c) ke2
      · rw [if_neg c2] at h
        by_cases c2' : rd p (rd p (e : Int)) = a ∨ rd p (rd p (e : Int)) = b
        · rw [if_pos c2'] at h
          have := inj _ _ (by omega) (by omega) e1 e2 (inj _ _ d1 d2 e3 e4 h)
          rcases c' with c' | c'
          · exact absurd (this.trans c') kd1
          · exact absurd (this.trans c') kd2
        · rw [if_neg c2'] at h
          have := inj _ _ (by omega) (by omega) (by omega) (by omega) (inj _ _ d1 d2 e1 e2 h)
          omega
    · rw [if_neg c'] at h
      by_cases c2 : rd p (rd p (d : Int)) = a ∨ rd p (rd p (d : Int)) = b
      · rw [if_pos c2] at h
        have := inj _ _ d3 d4 (by omega) (by omega) h
        rcases c2 with c2 | c2
        · exact absurd (this.symm.trans c2) ke1
        · exact absurd (this.symm.trans c2) ke2
      · rw [if_neg c2] at h
        have := inj _ _ d1 d2 (by omega) (by omega) h
        rcases c with c | c
        · exact absurd (this.symm.trans c) ke1
        · exact absurd (this.symm.trans c) ke2
  · rw [if_neg c] at h
    by_cases c' : rd p (e : Int) = a ∨ rd p (e : Int) = b
    · rw [if_pos c'] at h
      by_cases c2' : rd p (rd p (e : Int)) = a ∨ rd p (rd p (e : Int)) = b
      · rw [if_pos c2'] at h
        have := inj _ _ (by omega) (by omega) e3 e4 h
        rcases c2' with c2' | c2'
        · exact absurd (this.trans c2') kd1
        · exact absurd (this.trans c2') kd2
      · rw [if_neg c2'] at h
        have := inj _ _ (by omega) (by omega) e1 e2 h
        rcases c' with c' | c'
        · exact absurd (this.trans c') kd1
        · exact absurd (this.trans c') kd2
    · rw [if_neg c'] at h
      have := inj _ _ (by omega) (by omega) (by omega) (by omega) h
      omega
theorem mulF_run (t f : List Int) (n : Nat) (hn : n ≤ 12) (ht : inR n t) (hf : inR n f) : ∀ (d i : Nat), n - i = d → i ≤ n → Ev (fun k => impl_mul.l0 k t (mixL (faces t f n) (List.replicate n 0) n i) f n i) (faces t f n)
  | 0, i, hd, hi => by
    have : i = n := by omega
    subst this
    refine Ev.s ?_
    simp only [impl_mul.l0, show ¬ (i : Int) < (i : Int) by omega, if_false]
    rw [mixL_all _ _ _ (faces_len t f i)]
    exact Ev.const rfl
  | d + 1, i, hd, hi => by
    have ih := mulF_run t f n hn ht hf d (i + 1) (by omega) (by omega)
    have fr := hf.2 i (by omega)
    have fe := faces_rd t f n i (by omega)
    refine Ev.s ?_
    simp only [impl_mul.l0, hf.1, ht.1, mixL_len, show (i : Int) < (n : Int) by omega, show (0 : Int) ≤ (i : Int) by omega, fr.1, fr.2, if_true, w64n (show i < 4611686018427387904 by omega), Int.toNat_natCast]
    rw [← fe, mixL_set _ _ _ _ (by omega)]
    exact ih
theorem mulF_ev (t f : List Int) (n : Nat) (hn : n ≤ 12) (ht : inR n t) (hf : inR n f) : Ev (fun k => impl_mul.f k f t) (faces t f n) := by
  unfold impl_mul.f
  rw [hf.1]
  simp only [show (0 : Int) ≤ (n : Int) by omega, Int.toNat_natCast, show n ≤ 35184372088832 by omega, if_true]
  have := mulF_run t f n hn ht hf n 0 (by omega) (by omega)
  rw [mixL_zero _ _ _ (by simp)] at this
  exact this
def threeN (V E F : Nat) : List Int := [(V : Int), (E : Int), (F : Int)]
theorem mapCounts_ev (t f : List Int) (hm : isMap t f) (ht : t.length ≤ 1048576) (hf : f.length ≤ 1048576) : ∃ F : Nat, Cl t.length (Reach [faces t f t.length] t.length) F ∧ Ev (fun k => impl_MapCounts.f k t f) (threeN (cyS t t.length t.length).2.length (edL f t.length).length F, true) := by
  obtain ⟨hn, h1, ht', hti, hf', hfl, hcon⟩ := mapOk_of t f hm
  obtain ⟨b, _, b2, b3⟩ := mapValid_both t f ht hf
  have hb : b = true := b3.2 hm
  subst hb
  have hF := faces_inR t f t.length ht' hf'
  refine ⟨(cyS (faces t f t.length) t.length t.length).2.length, cyS_cl _ _ hF (faces_inj t f t.length ht' hti hf' hfl), ?_⟩
  have hh := edL_half f t.length hf' hfl
  have hlen := hf'.1
  unfold impl_MapCounts.f
  refine Ev.bind b2 ?_
  simp only [if_true]
  refine Ev.bind (implCyc_ev t t.length (by omega) ht') ?_
  refine Ev.bind (mulF_ev t f t.length hn ht' hf') ?_
  refine Ev.bind (implCyc_ev _ t.length (by omega) hF) (Ev.const ?_)
  unfold threeN
  rw [w64 (by omega) (by omega), show (f.length : Int) / 2 = (((edL f t.length).length : Nat) : Int) by omega]
theorem map_small (t f : List Int) (hm : isMap t f) : t.length ≤ 12 ∧ f.length ≤ 12 ∧ (edL f t.length).length ≤ 12 := by
  obtain ⟨hn, h1, ht', hti, hf', hfl, hcon⟩ := mapOk_of t f hm
  have := edL_le f t.length
  have := hf'.1
  omega
theorem cyS_reps (p : List Int) (n : Nat) (hp : inR n p) (hi : injR n p) : ∀ i, i ≤ n → ∃ reps : List Nat, reps.length = (cyS p n i).2.length ∧ reps.Nodup ∧ (∀ j, j ∈ reps ↔ j < i ∧ lst (Reach [p] n) j) ∧ ∀ (q : Nat) (h : q < reps.length) (x : Nat), x < n → ((x : Int) ∈ rd_L1 (cyS p n i).2 q ↔ Reach [p] n reps[q] x)
  | 0, _ => ⟨[], by simp [cyS], List.nodup_nil, by simp, fun q h => by simp at h⟩
  | i + 1, hi' => by
    obtain ⟨reps, r1, r2, r3, r4⟩ := cyS_reps p n hp hi i (by omega)
    have seen := cyS_seen p n hp hi i (by omega) i (by omega)
    have l1 := cyS_len p n i
    simp only [cyS]
    by_cases e : (cyS p n i).1.getD i false = true
    · rw [cw_seen p (n + 1) _ _ _ (by rw [rdOf_nat _ _ (by omega), Int.toNat_natCast]; exact e)]
      rw [if_pos rfl]
      obtain ⟨j, hj, h⟩ := seen.1 e
      refine ⟨reps, r1, r2, fun q => ?_, r4⟩
      rw [r3]
      constructor
      · rintro ⟨a, b⟩; exact ⟨by omega, b⟩
      · rintro ⟨a, b⟩
        by_cases z : q = i
        · subst z; exact absurd h (b j hj)
        · exact ⟨by omega, b⟩
    · have e' : ¬ rdOf false (cyS p n i).1 (i : Int) = true := by rw [rdOf_nat _ _ (by omega), Int.toNat_natCast]; exact e
      have hl : lst (Reach [p] n) i := fun j hj h => e (seen.2 ⟨j, hj, h⟩)
      obtain ⟨w1, w2, w3, w4, w5, w6⟩ := cw_ends p n hp i (by omega) (fun x => x < n ∧ (cyS p n i).1.getD x false = true) (n + 1) (cyS p n i).1 [] i l1 (by omega) (by have := fresh_le (cyS p n i).1; omega)
        (fun y hy hsy => .inl (by
          have pr := hp.2 y hy
          obtain ⟨j, hj, h⟩ := (cyS_seen p n hp hi i (by omega) y hy).1 hsy
          exact (cyS_seen p n hp hi i (by omega) _ (by omega)).2 ⟨j, hj, h.trans (Reach.step (by simp) hy)⟩))
        (Reach.refl _ _ _) (fun y hy hsy => .inl ⟨hy, hsy⟩) (fun y hy => hy.2) (.inr rfl) (by simp) (fun z => absurd rfl z) (fun y hy hsy => .inl ⟨hy, hsy⟩)
      have hc := closed_of_fwd p n hp hi (fun y => (cw p (n + 1) (cyS p n i).1 [] i).1.getD y false = true) w1
      rw [if_neg (cw_new p n _ i e')]
      refine ⟨reps ++ [i], by rw [List.length_append, List.length_append, r1]; rfl, List.nodup_append.2 ⟨r2, by simp, fun a ha b hb z => ?_⟩, fun q => ?_, fun q hq x hx => ?_⟩
      · have := ((r3 a).1 ha).1
        rw [List.mem_singleton] at hb
        omega
      · rw [List.mem_append, List.mem_singleton, r3]
        constructor
        · rintro (⟨a, b⟩ | rfl)
          · exact ⟨by omega, b⟩
          · exact ⟨by omega, hl⟩
        · rintro ⟨a, b⟩
          by_cases z : q = i
          · exact .inr z
          · exact .inl ⟨by omega, b⟩
      · by_cases hq' : q < reps.length
        · rw [rdL_nth _ q (by simp; omega), List.getElem_append_left (by omega), List.getElem_append_left hq', ← rdL_nth _ q (by omega)]
          exact r4 q hq' x hx
        · have hq2 : q = reps.length := by simp at hq; omega
          subst hq2
          rw [rdL_nth _ _ (by simp; omega), List.getElem_append_right (by omega), List.getElem_append_right (Nat.le_refl _)]
          simp only [r1, Nat.sub_self, List.getElem_cons_zero]
          constructor
          · intro hm
            have := (w5 x hm).2.2
            rwa [Int.toNat_natCast] at this
          · intro h
            have z := (h _ hc).1 w4
            rcases w6 x hx z with ⟨_, z⟩ | z
            · obtain ⟨j, hj, hr⟩ := (cyS_seen p n hp hi i (by omega) x hx).1 z
              exact absurd (hr.trans h.symm) (hl j hj)
            · exact z
theorem fold_rd (v : Int) (n : Nat) : ∀ (l o : List Int), o.length = n → (∀ x ∈ l, 0 ≤ x ∧ x < n) → ∀ x : Nat, x < n → rd (l.foldl (fun o d => o.set d.toNat v) o) (x : Int) = if (x : Int) ∈ l then v else rd o (x : Int)
  | [], o, ho, hl, x, hx => by simp
  | y :: l, o, ho, hl, x, hx => by
    have hy := hl y (by simp)
    rw [List.foldl_cons, fold_rd v n l _ (by simpa using ho) (fun z hz => hl z (by simp [hz])) x hx]
    by_cases e : (x : Int) ∈ l
    · rw [if_pos e, if_pos (by simp [e])]
    · rw [if_neg e]
      by_cases e2 : y.toNat = x
      · subst e2
        rw [rd_set_self _ _ _ (by omega), if_pos]
        rw [show ((y.toNat : Nat) : Int) = y by omega]
        simp
      · rw [rd_set_ne _ _ _ _ e2, if_neg]
        rw [List.mem_cons]
        rintro (z | z)
        · omega
        · exact e z
theorem vt_rd (C : List (List Int)) (n : Nat) (hC : ∀ l ∈ C, (∀ x ∈ l, 0 ≤ x ∧ x < n) ∧ l.length ≤ n + 1) (x : Nat) (hx : x < n) (q : Nat) (hxq : (x : Int) ∈ rd_L1 C q) (hu : ∀ q', q' < C.length → (x : Int) ∈ rd_L1 C q' → q' = q) : ∀ Q, Q ≤ C.length → q < Q → rd (vt C n Q) (x : Int) = q
  | Q + 1, hQ, h => by
    simp only [vt]
    rw [fold_rd _ n _ _ (vt_len C n Q) (rdL_ok C _ hC Q (by omega)).1 x hx]
    by_cases e : (x : Int) ∈ rd_L1 C Q
    · rw [if_pos e, hu Q (by omega) e]
    · rw [if_neg e]
      have : q ≠ Q := by rintro rfl; exact e hxq
      exact vt_rd C n hC x hx q hxq hu Q (by omega) (by omega)
theorem nodup_at (l : List Nat) (h : l.Nodup) (i j : Nat) (hi : i < l.length) (hj : j < l.length) (e : l[i] = l[j]) : i = j := by
  rw [List.Nodup, List.pairwise_iff_getElem] at h
  by_cases a : i < j
  · exact absurd e (h i j hi hj a)
  · by_cases b : j < i
    · exact absurd e.symm (h j i hj hi b)
    · omega
theorem vtx_same (t : List Int) (n : Nat) (ht : inR n t) (hti : injR n t) (x y : Nat) (hx : x < n) (hy : y < n) : rd (vtx t n) (x : Int) = rd (vtx t n) (y : Int) ↔ Reach [t] n x y := by
  obtain ⟨reps, r1, r2, r3, r4⟩ := cyS_reps t n ht hti n (Nat.le_refl _)
  have at_ : ∀ x, x < n → ∃ (q : Nat) (h : q < reps.length), Reach [t] n reps[q] x ∧ rd (vtx t n) (x : Int) = q := by
    intro x hx
    obtain ⟨j, j1, j2, j3⟩ := lst_ex (Reach [t] n) (fun x => Reach.refl _ _ x) (fun _ _ h => h.symm) (fun _ _ _ h h' => h.trans h') x
    obtain ⟨q, hq, e⟩ := List.getElem_of_mem ((r3 j).2 ⟨by omega, j2⟩)
    refine ⟨q, hq, by rw [e]; exact j3, ?_⟩
    refine vt_rd _ n (cyS_ok t n ht n (Nat.le_refl _)) x hx q ((r4 q hq x hx).2 (by rw [e]; exact j3)) (fun q' hq' hm => ?_) _ (Nat.le_refl _) (by omega)
    have hq2 : q' < reps.length := by omega
    have hr := (r4 q' hq2 x hx).1 hm
    have ll := ((r3 reps[q']).1 (List.getElem_mem hq2)).2
    have := lst_uniq _ (fun _ _ h => h.symm) _ _ ll j2 (hr.trans j3.symm)
    rw [← e] at this
    exact nodup_at reps r2 _ _ hq2 hq this
  obtain ⟨q, hq, a1, a2⟩ := at_ x hx
  obtain ⟨q', hq', b1, b2⟩ := at_ y hy
  rw [a2, b2]
  constructor
  · intro e
    have : q = q' := by omega
    subst this
    exact a1.symm.trans b1
  · intro h
    have l1 := ((r3 reps[q]).1 (List.getElem_mem hq)).2
    have l2 := ((r3 reps[q']).1 (List.getElem_mem hq')).2
    have := lst_uniq _ (fun _ _ h => h.symm) _ _ l1 l2 ((a1.trans h).trans b1.symm)
    rw [nodup_at reps r2 _ _ hq hq' this]
def EdgeAt (f : List Int) (n e a b : Nat) : Prop := a < n ∧ b < n ∧ a ≠ b ∧ rd (edL f n) (e : Int) = a ∧ rd f a = b ∧ rd f b = a ∧ ∀ d : Nat, d < n → (rd (geL f n n) (d : Int) = e ↔ d = a ∨ d = b)
theorem kindI_ev (t f : List Int) (hm : isMap t f) (e a b : Nat) (he : e < (edL f t.length).length) (hab : EdgeAt f t.length e a b) : ∃ P : Nat, Cl t.length (Reach [t, flC f t.length (restL [(e : Int)] (edL f t.length).length)] t.length) P ∧ (P = 1 ∨ P = 2) ∧
    (Reach [t] t.length a b → Ev (fun k => impl_EdgeKind.f k t f e) 2) ∧ (¬ Reach [t] t.length a b → Ev (fun k => impl_EdgeKind.f k t f e) ((P : Int) - 1)) := by
  obtain ⟨ha, hb, hne, e1, e2, e3, e4⟩ := hab
  have H := mapOk_of t f hm
  obtain ⟨hn, h1, ht', hti, hf', hfl, hcon⟩ := id H
  obtain ⟨sm1, sm2, sm3⟩ := map_small t f hm
  have ht : t.length ≤ 1048576 := by omega
  have hf : f.length ≤ 1048576 := by omega
  obtain ⟨b0, b1, b2, b3⟩ := mapValid_both t f ht hf
  have hb0 : b0 = true := b3.2 hm
  subst hb0
  have hh := edL_half f t.length hf' hfl
  have hlen := hf'.1
  have wf : wrap64 ((f.length : Int) / 2) = (f.length : Int) / 2 := w64 (by omega) (by omega)
  have hch : isChoice [(e : Int)] ((f.length : Int) / 2) := choice_of _ _ (by simp; omega) (by simp)
  obtain ⟨r, rb, r1, r2, r3, r4, r5⟩ := choiceRest_both t f [(e : Int)] ht hf (by simp)
  have hrb : rb = true := r5 ⟨hm, hch⟩
  subst hrb
  have hr := (r4 rfl).1
  have hHalf : f.length / 2 = (edL f t.length).length := by omega
  rw [hHalf] at hr
  subst hr
  have hR := H.rib (restL_choice [(e : Int)] (edL f t.length).length) r3
  obtain ⟨o, o1, o2, o4⟩ := ribbon_parts t f _ t.length hR
  have h12 := one_or_two t f t.length h1 ht' hf' hfl hcon e he o o1
  have vl' : (vtx t t.length).length = t.length := vt_len _ _ _
  have vs := vtx_same t t.length ht' hti a b ha hb
  refine ⟨pc o t.length, parts_cl t f _ t.length h1 ht' hf' o o1, h12, fun hv => ?_, fun hv => ?_⟩
  · have hv' := vs.2 hv
    unfold impl_EdgeKind.f
    refine Ev.bind b2 ?_
    simp only [if_true, show ¬ (e : Int) < 0 by omega, if_false, wf, show ¬ (e : Int) ≥ (f.length : Int) / 2 by omega, decide_false]
    refine Ev.s ?_
    simp only [impl_EdgeKind.j0, Bool.false_eq_true, if_false]
    refine Ev.bind (implEdges_ev t.length (by omega) t f hf') ?_
    simp only [show (0 : Int) ≤ (e : Int) by omega, show (e : Int) < ((edL f t.length).length : Int) by omega, if_true]
    refine Ev.bind (implVert_ev t f t.length hn ht') ?_
    simp only [e1, show (0 : Int) ≤ (a : Int) by omega, vl', show (a : Int) < (t.length : Int) by omega, hlen, e2, show (0 : Int) ≤ (b : Int) by omega, show (b : Int) < (t.length : Int) by omega, hv', if_true]
    exact Ev.const rfl
  · have hv' : ¬ rd (vtx t t.length) (a : Int) = rd (vtx t t.length) (b : Int) := fun z => hv (vs.1 z)
    unfold impl_EdgeKind.f
    refine Ev.bind b2 ?_
    simp only [if_true, show ¬ (e : Int) < 0 by omega, if_false, wf, show ¬ (e : Int) ≥ (f.length : Int) / 2 by omega, decide_false]
    refine Ev.s ?_
    simp only [impl_EdgeKind.j0, Bool.false_eq_true, if_false]
    refine Ev.bind (implEdges_ev t.length (by omega) t f hf') ?_
    simp only [show (0 : Int) ≤ (e : Int) by omega, show (e : Int) < ((edL f t.length).length : Int) by omega, if_true]
    refine Ev.bind (implVert_ev t f t.length hn ht') ?_
    simp only [e1, show (0 : Int) ≤ (a : Int) by omega, vl', show (a : Int) < (t.length : Int) by omega, hlen, e2, show (0 : Int) ≤ (b : Int) by omega, show (b : Int) < (t.length : Int) by omega, hv', if_true, if_false]
    refine Ev.bind r2 ?_
    refine Ev.bind o4 ?_
    have e0 : ∀ P S V c : Int, rd (fiveN P S V c) 0 = P := fun _ _ _ _ => rfl
    simp only [five_len, show (0 : Int) < ((5 : Nat) : Int) by omega, if_true, e0]
    rcases h12 with h | h
    · rw [h]
      exact Ev.const rfl
    · rw [h]
      exact Ev.const rfl
end Go.Proofs.Ytggghijamfmenaa.PC
