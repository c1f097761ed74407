/- For every code: of the map that the statement draws, TutteQuad of the program answers what the reference answers; all faces of the quadrangulation are squares; its map from one end is the map, from the other the mirror of its dual; its vertices are the map's vertices and faces, and its genus is the map's. There are no conditions. -/
import Derived.Test.YtggghijamfmenaaKFnTutteQuadOwnx6
set_option linter.unusedVariables false
set_option linter.unusedSimpArgs false
namespace Go.Proofs.Ytggghijamfmenaa.PA
open Go.RowKit Go.Proofs.YtggghijamfmenaaW.PrintWords Go.Proofs.YtggghijamfmenaaW.PrintLast Go.Proofs.YtggghijamfmenaaW.PrintMore
theorem Ev.s {α : Type} {g : Nat → Option α} {r : α} (h : Ev (fun k => g (k + 1)) r) : Ev g r := Ev.step (fun _ => rfl) h
theorem Ev.const {α : Type} {o : Option α} {r : α} (h : o = some r) : Ev (fun _ => o) r := ⟨0, fun _ _ => h⟩
theorem Ev.uniq {α : Type} {g : Nat → Option α} {r r' : α} (h : Ev g r) (h' : Ev g r') : r = r' := by
  obtain ⟨K, h⟩ := h
  obtain ⟨K', h'⟩ := h'
  have h1 := h (max K K') (by omega)
  rw [h' (max K K') (by omega)] at h1
  exact (Option.some.inj h1).symm
theorem w64 {x : Int} (h1 : -9223372036854775808 ≤ x) (h2 : x < 9223372036854775808) : wrap64 x = x := by unfold wrap64; omega
theorem w64n {i : Nat} (h : i < 4611686018427387904) : wrap64 ((i : Int) + 1) = ((i + 1 : Nat) : Int) := by rw [w64 (by omega) (by omega)]; omega
theorem rd_lt (l : List Int) (i : Nat) (h : i < l.length) : rd l (i : Int) = l[i] := by
  unfold rd
  rw [Int.toNat_natCast, List.getD_eq_getElem?_getD, List.getElem?_eq_getElem h]
  rfl
def okAt (l : List Int) (i : Nat) : Prop := 0 ≤ rd l i ∧ rd l i < l.length ∧ ∀ k : Nat, k < i → rd l k ≠ rd l i
def isPerm (l : List Int) : Prop := 1 ≤ l.length ∧ l.length ≤ 12 ∧ ∀ i : Nat, i < l.length → okAt l i
theorem l6In_eq (a b c : Int) : spec_l6In.f a b c = some (decide (b ≤ a ∧ a ≤ c)) := by
  unfold spec_l6In.f
  by_cases h1 : a ≥ b
  · by_cases h2 : a ≤ c <;> simp [h1, h2]
  · simp [h1]
theorem specPerm_in (l : List Int) (hl : l.length ≤ 1048576) (i : Nat) (hi : i < l.length) : ∀ (d k : Nat), i - k = d → k ≤ i →
    ((∀ q : Nat, k ≤ q → q < i → rd l q ≠ rd l i) → ∀ r, Ev (fun z => spec_PermValid.l0 z l ((i + 1 : Nat) : Int)) r → Ev (fun z => spec_PermValid.l1 z l i k) r) ∧
    (¬ (∀ q : Nat, k ≤ q → q < i → rd l q ≠ rd l i) → Ev (fun z => spec_PermValid.l1 z l i k) false)
  | 0, k, hd, hk => by
    refine ⟨fun _ r h => Ev.s ?_, fun h => absurd (fun q h1 h2 => by omega) h⟩
    simp only [spec_PermValid.l1, show ¬ (k : Int) < (i : Int) by omega, if_false]
    rw [w64 (x := (i : Int) + 1) (by omega) (by omega), show ((i : Int) + 1) = ((i + 1 : Nat) : Int) by omega]
    exact h
  | d + 1, k, hd, hk => by
    have ih := specPerm_in l hl i hi d (k + 1) (by omega) (by omega)
    have hw : wrap64 ((k : Int) + 1) = ((k + 1 : Nat) : Int) := by rw [w64 (by omega) (by omega)]; omega
    by_cases e : rd l k = rd l i
    · refine ⟨fun h => absurd e (h k (Nat.le_refl _) (by omega)), fun h => Ev.s ?_⟩
      simp only [spec_PermValid.l1, show (k : Int) < (i : Int) by omega, show (0 : Int) ≤ k by omega, show (k : Int) < (l.length : Int) by omega, show (0 : Int) ≤ i by omega, show (i : Int) < (l.length : Int) by omega, e, if_true]
      exact Ev.const rfl
    · refine ⟨fun h r hr => Ev.s ?_, fun h => Ev.s ?_⟩
      · simp only [spec_PermValid.l1, show (k : Int) < (i : Int) by omega, show (0 : Int) ≤ k by omega, show (k : Int) < (l.length : Int) by omega, show (0 : Int) ≤ i by omega, show (i : Int) < (l.length : Int) by omega, e, if_true, if_false, hw]
        exact ih.1 (fun q h1 h2 => h q (by omega) h2) r hr
      · simp only [spec_PermValid.l1, show (k : Int) < (i : Int) by omega, show (0 : Int) ≤ k by omega, show (k : Int) < (l.length : Int) by omega, show (0 : Int) ≤ i by omega, show (i : Int) < (l.length : Int) by omega, e, if_true, if_false, hw]
        refine ih.2 fun h' => h fun q h1 h2 => ?_
        by_cases eq : q = k
        · rw [eq]; exact e
        · exact h' q (by omega) h2
theorem specPerm_run (l : List Int) (hl : l.length ≤ 1048576) : ∀ (d i : Nat), l.length - i = d → i ≤ l.length →
    ((∀ q : Nat, i ≤ q → q < l.length → okAt l q) → Ev (fun z => spec_PermValid.l0 z l i) (decide (1 ≤ (l.length : Int) ∧ (l.length : Int) ≤ 12))) ∧
    (¬ (∀ q : Nat, i ≤ q → q < l.length → okAt l q) → Ev (fun z => spec_PermValid.l0 z l i) false)
  | 0, i, hd, hi => by
    refine ⟨fun _ => Ev.s ?_, fun h => absurd (fun q h1 h2 => by omega) h⟩
    simp only [spec_PermValid.l0, show ¬ (i : Int) < (l.length : Int) by omega, if_false, l6In_eq, Option.bind_some]
    exact Ev.const rfl
  | d + 1, i, hd, hi => by
    have hlt : i < l.length := by omega
    have ih := specPerm_run l hl d (i + 1) (by omega) (by omega)
    have hin := specPerm_in l hl i hlt i 0 (by omega) (by omega)
    have hwl : wrap64 ((l.length : Int) - 1) = (l.length : Int) - 1 := w64 (by omega) (by omega)
    by_cases hr : 0 ≤ rd l i ∧ rd l i ≤ (l.length : Int) - 1
    · by_cases hn : ∀ q : Nat, 0 ≤ q → q < i → rd l q ≠ rd l i
      · refine ⟨fun h => Ev.s ?_, fun h => Ev.s ?_⟩
        · simp only [spec_PermValid.l0, show (i : Int) < (l.length : Int) by omega, show (0 : Int) ≤ i by omega, if_true, l6In_eq, Option.bind_some, hwl, hr, decide_true, and_self]
          exact hin.1 hn _ (ih.1 fun q h1 h2 => h q (by omega) h2)
        · simp only [spec_PermValid.l0, show (i : Int) < (l.length : Int) by omega, show (0 : Int) ≤ i by omega, if_true, l6In_eq, Option.bind_some, hwl, hr, decide_true, and_self]
          refine hin.1 hn _ (ih.2 fun h' => h fun q h1 h2 => ?_)
          by_cases e : q = i
          · rw [e]; exact ⟨hr.1, by omega, fun k hk => hn k (by omega) hk⟩
          · exact h' q (by omega) h2
      · refine ⟨fun h => absurd (fun q _ h2 => (h i (Nat.le_refl _) hlt).2.2 q h2) hn, fun h => Ev.s ?_⟩
        simp only [spec_PermValid.l0, show (i : Int) < (l.length : Int) by omega, show (0 : Int) ≤ i by omega, if_true, l6In_eq, Option.bind_some, hwl, hr, decide_true, and_self]
        exact hin.2 hn
    · refine ⟨fun h => absurd ⟨(h i (Nat.le_refl _) hlt).1, by have := (h i (Nat.le_refl _) hlt).2.1; omega⟩ hr, fun h => Ev.s ?_⟩
      simp only [spec_PermValid.l0, show (i : Int) < (l.length : Int) by omega, show (0 : Int) ≤ i by omega, if_true, l6In_eq, Option.bind_some, hwl, hr, decide_false, Bool.false_eq_true, if_false]
      exact Ev.const rfl
theorem implPerm_run (l : List Int) (hl : l.length ≤ 12) : ∀ (d i : Nat) (s : List Bool), l.length - i = d → i ≤ l.length → s.length = 12 → (∀ v : Nat, v < 12 → (s.getD v false = true ↔ ∃ k : Nat, k < i ∧ rd l k = v)) →
    ((∀ q : Nat, i ≤ q → q < l.length → okAt l q) → Ev (fun z => impl_PermValid.l0 z l s i) true) ∧
    (¬ (∀ q : Nat, i ≤ q → q < l.length → okAt l q) → Ev (fun z => impl_PermValid.l0 z l s i) false)
  | 0, i, s, hd, hi, hs, hv => by
    refine ⟨fun _ => Ev.s ?_, fun h => absurd (fun q h1 h2 => by omega) h⟩
    simp only [impl_PermValid.l0, show ¬ (i : Int) < (l.length : Int) by omega, if_false]
    exact Ev.const rfl
  | d + 1, i, s, hd, hi, hs, hv => by
    have hlt : i < l.length := by omega
    have hd1 : l.length - (i + 1) = d := by omega
    have hw : wrap64 ((i : Int) + 1) = ((i + 1 : Nat) : Int) := by rw [w64 (by omega) (by omega)]; omega
    by_cases h0 : rd l i < 0
    · refine ⟨fun h => absurd (h i (Nat.le_refl _) hlt).1 (by omega), fun h => Ev.s ?_⟩
      simp only [impl_PermValid.l0, show (i : Int) < (l.length : Int) by omega, show (0 : Int) ≤ i by omega, h0, if_true]
      exact Ev.const rfl
    · by_cases h1 : rd l i ≥ (l.length : Int)
      · refine ⟨fun h => absurd (h i (Nat.le_refl _) hlt).2.1 (by omega), fun h => Ev.s ?_⟩
        simp only [impl_PermValid.l0, show (i : Int) < (l.length : Int) by omega, show (0 : Int) ≤ i by omega, h0, h1, if_true, if_false]
        exact Ev.const rfl
      · have hvi := hv (rd l i).toNat (by omega)
        have hcast : (((rd l i).toNat : Nat) : Int) = rd l i := by omega
        rw [hcast] at hvi
        by_cases h2 : s.getD (rd l i).toNat false = true
        · obtain ⟨k, hk, hke⟩ := hvi.1 h2
          refine ⟨fun h => absurd hke ((h i (Nat.le_refl _) hlt).2.2 k hk), fun h => Ev.s ?_⟩
          simp only [impl_PermValid.l0, show (i : Int) < (l.length : Int) by omega, show (0 : Int) ≤ i by omega, h0, h1, h2, if_true, if_false]
          exact Ev.const rfl
        · have hnew : ∀ k : Nat, k < i → rd l k ≠ rd l i := fun k hk e => h2 (hvi.2 ⟨k, hk, e⟩)
          have ih := implPerm_run l hl d (i + 1) (s.set (rd l i).toNat true) hd1 hlt (by simpa using hs) (fun v hv12 => by
            by_cases ev : v = (rd l i).toNat
            · subst ev
              rw [List.getD_eq_getElem?_getD, List.getElem?_set_self (by omega)]
              simp only [Option.getD_some, true_iff]
              exact ⟨i, Nat.lt_succ_self i, hcast.symm⟩
            · rw [List.getD_eq_getElem?_getD, List.getElem?_set_ne (Ne.symm ev), ← List.getD_eq_getElem?_getD, hv v hv12]
              constructor
              · rintro ⟨k, hk, hke⟩; exact ⟨k, by omega, hke⟩
              · rintro ⟨k, hk, hke⟩
                by_cases e : k = i
                · subst e; omega
                · exact ⟨k, by omega, hke⟩)
          refine ⟨fun h => Ev.s ?_, fun h => Ev.s ?_⟩
          · simp only [impl_PermValid.l0, show (i : Int) < (l.length : Int) by omega, show (0 : Int) ≤ i by omega, h0, h1, h2, if_true, if_false, hw]
            exact ih.1 fun q g1 g2 => h q (by omega) g2
          · simp only [impl_PermValid.l0, show (i : Int) < (l.length : Int) by omega, show (0 : Int) ≤ i by omega, h0, h1, h2, if_true, if_false, hw]
            refine ih.2 fun h' => h fun q g1 g2 => ?_
            by_cases e : q = i
            · rw [e]; exact ⟨by omega, by omega, hnew⟩
            · exact h' q (by omega) g2
theorem permValid_both (l : List Int) (hl : l.length ≤ 1048576) : ∃ b : Bool, Ev (fun k => spec_PermValid.f k l) b ∧ Ev (fun k => impl_PermValid.f k l) b ∧ (b = true ↔ isPerm l) := by
  unfold spec_PermValid.f impl_PermValid.f
  have hs := specPerm_run l hl l.length 0 (by omega) (by omega)
  by_cases hall : ∀ q : Nat, 0 ≤ q → q < l.length → okAt l q
  · refine ⟨decide (1 ≤ (l.length : Int) ∧ (l.length : Int) ≤ 12), hs.1 hall, ?_, ?_⟩
    · by_cases h1 : (l.length : Int) < 1
      · simp only [h1, if_true]
        exact Ev.const (by congr 1; symm; rw [decide_eq_false_iff_not]; omega)
      · by_cases h2 : (l.length : Int) > 12
        · simp only [h1, h2, if_true, if_false]
          exact Ev.const (by congr 1; symm; rw [decide_eq_false_iff_not]; omega)
        · simp only [h1, h2, if_false]
          rw [decide_eq_true (by omega)]
          refine (implPerm_run l (by omega) l.length 0 _ (by omega) (by omega) (by simp) fun v hv => ?_).1 hall
          constructor
          · intro h
            rw [List.getD_eq_getElem?_getD, List.getElem?_replicate, if_pos hv] at h
            cases h
          · rintro ⟨k, hk, _⟩; omega
    · rw [decide_eq_true_eq]
      exact ⟨fun h => ⟨by omega, by omega, fun i hi => hall i (by omega) hi⟩, fun h => ⟨by have := h.1; omega, by have := h.2.1; omega⟩⟩
  · refine ⟨false, hs.2 hall, ?_, ?_⟩
    · by_cases h1 : (l.length : Int) < 1
      · simp only [h1, if_true]; exact Ev.const rfl
      · by_cases h2 : (l.length : Int) > 12
        · simp only [h1, h2, if_true, if_false]; exact Ev.const rfl
        · simp only [h1, h2, if_false]
          refine (implPerm_run l (by omega) l.length 0 _ (by omega) (by omega) (by simp) fun v hv => ?_).2 hall
          constructor
          · intro h
            rw [List.getD_eq_getElem?_getD, List.getElem?_replicate, if_pos hv] at h
            cases h
          · rintro ⟨k, hk, _⟩; omega
    · exact ⟨fun h => (by cases h), fun h => absurd (fun q _ hq => h.2.2 q hq) hall⟩
def stl (n : Nat) : List Int := (List.range n).map fun (i : Nat) => (i : Int)
theorem stl_length (n : Nat) : (stl n).length = n := by simp [stl]
theorem stl_rd (n i : Nat) (h : i < n) : rd (stl n) i = i := by
  rw [rd_lt _ _ (by rw [stl_length]; exact h)]
  simp [stl]
theorem stl_succ (n : Nat) : stl (n + 1) = stl n ++ [(n : Int)] := by simp [stl, List.range_succ]
theorem rd_set_self (l : List Int) (i : Nat) (v : Int) (h : i < l.length) : rd (l.set i v) i = v := by
  rw [rd_lt _ _ (by simpa using h)]; simp
theorem rd_set_ne (l : List Int) (i j : Nat) (v : Int) (h : i ≠ j) : rd (l.set i v) j = rd l j := by
  unfold rd
  rw [Int.toNat_natCast, List.getD_eq_getElem?_getD, List.getD_eq_getElem?_getD, List.getElem?_set_ne h]
theorem rd_app_lt (l m : List Int) (i : Nat) (h : i < l.length) : rd (l ++ m) i = rd l i := by
  unfold rd
  rw [Int.toNat_natCast, List.getD_eq_getElem?_getD, List.getD_eq_getElem?_getD, List.getElem?_append_left h]
theorem list_ext (a b : List Int) (h : a.length = b.length) (hr : ∀ i : Nat, i < a.length → rd a i = rd b i) : a = b := by
  refine List.ext_getElem h fun i h1 h2 => ?_
  have := hr i h1
  rwa [rd_lt a i h1, rd_lt b i h2] at this
theorem same_run (n : Nat) (hn : n ≤ 1048576) : ∀ (d i : Nat), n - i = d → i ≤ n → Ev (fun k => spec_l1Same.l0 k n (stl i) i) (stl n)
  | 0, i, hd, hi => by
    refine Ev.s ?_
    simp only [spec_l1Same.l0, show ¬ (i : Int) < (n : Int) by omega, if_false]
    have : i = n := by omega
    subst this
    exact Ev.const rfl
  | d + 1, i, hd, hi => by
    refine Ev.s ?_
    simp only [spec_l1Same.l0, show (i : Int) < (n : Int) by omega, if_true, stl_length, show i < 17592186044416 by omega]
    rw [w64 (x := (i : Int) + 1) (by omega) (by omega), show ((i : Int) + 1) = ((i + 1 : Nat) : Int) by omega, ← stl_succ]
    exact same_run n hn d (i + 1) (by omega) (by omega)
theorem same_ev (n : Nat) (hn : n ≤ 1048576) : Ev (fun k => spec_l1Same.f k n) (stl n) := by
  unfold spec_l1Same.f
  exact same_run n hn n 0 (by omega) (by omega)
theorem still_run (n : Nat) (hn : n ≤ 1048576) : ∀ (d i : Nat) (l : List Int), n - i = d → i ≤ n → l.length = n → l.take i = (stl n).take i → Ev (fun k => impl_still.l0 k l n i) (stl n)
  | 0, i, l, hd, hi, hl, ht => by
    refine Ev.s ?_
    simp only [impl_still.l0, show ¬ (i : Int) < (n : Int) by omega, if_false]
    have : i = n := by omega
    subst this
    have e : (stl i).take i = stl i := by rw [List.take_of_length_le]; rw [stl_length]; exact Nat.le_refl _
    rw [e, List.take_of_length_le (by omega)] at ht
    exact Ev.const (by rw [ht])
  | d + 1, i, l, hd, hi, hl, ht => by
    have hlt : i < l.length := by omega
    refine Ev.s ?_
    simp only [impl_still.l0, show (i : Int) < (n : Int) by omega, show (0 : Int) ≤ i by omega, show (i : Int) < (l.length : Int) by omega, if_true]
    rw [w64 (x := (i : Int) + 1) (by omega) (by omega), show ((i : Int) + 1) = ((i + 1 : Nat) : Int) by omega, Int.toNat_natCast]
    refine still_run n hn d (i + 1) _ (by omega) (by omega) (by simpa using hl) ?_
    have h2 : i < (stl n).length := by rw [stl_length]; omega
    rw [List.take_succ_eq_append_getElem (by simpa using hlt), List.take_succ_eq_append_getElem h2, List.take_set_of_le (Nat.le_refl _), ht]
    simp [stl]
theorem still_ev (n : Nat) (hn : n ≤ 1048576) : Ev (fun k => impl_still.f k n) (stl n) := by
  unfold impl_still.f
  have h1 : n ≤ 35184372088832 := by omega
  have h2 : (0 : Int) ≤ (n : Int) := by omega
  simp only [Int.toNat_natCast, h1, h2, if_true, Option.bind_some, List.length_replicate]
  exact still_run n hn n 0 _ (by omega) (by omega) (by simp) (by simp)
def inR (n : Nat) (p : List Int) : Prop := p.length = n ∧ ∀ i : Nat, i < n → 0 ≤ rd p i ∧ rd p i < n
def closedL (ps : List (List Int)) (n : Nat) (S : Nat → Prop) : Prop := ∀ p ∈ ps, ∀ k, k < n → (S k ↔ S (rd p k).toNat)
def Reach (ps : List (List Int)) (n : Nat) (i j : Nat) : Prop := ∀ S, closedL ps n S → (S i ↔ S j)
theorem Reach.refl (ps : List (List Int)) (n i : Nat) : Reach ps n i i := fun S _ => Iff.rfl
theorem Reach.symm {ps : List (List Int)} {n i j : Nat} (h : Reach ps n i j) : Reach ps n j i := fun S c => (h S c).symm
theorem Reach.trans {ps : List (List Int)} {n i j k : Nat} (h : Reach ps n i j) (h' : Reach ps n j k) : Reach ps n i k := fun S c => (h S c).trans (h' S c)
theorem Reach.step {ps : List (List Int)} {n : Nat} {p : List Int} (hp : p ∈ ps) {k : Nat} (hk : k < n) : Reach ps n k (rd p k).toNat := fun S c => c p hp k hk
def orbI (ps : List (List Int)) (n : Nat) (o : List Int) : Prop := o.length = n ∧ ∀ i : Nat, i < n → 0 ≤ rd o i ∧ rd o i ≤ i ∧ Reach ps n (rd o i).toNat i
def orbOk (ps : List (List Int)) (n : Nat) (o : List Int) : Prop := orbI ps n o ∧ ∀ p ∈ ps, ∀ i : Nat, i < n → rd o (rd p i) = rd o i
theorem stl_orbI (ps : List (List Int)) (n : Nat) : orbI ps n (stl n) := by
  refine ⟨stl_length n, fun i hi => ?_⟩
  rw [stl_rd n i hi]
  exact ⟨by omega, by omega, by rw [Int.toNat_natCast]; exact Reach.refl _ _ _⟩
theorem orbOk_const {ps : List (List Int)} {n : Nat} {o : List Int} (h : orbOk ps n o) (hp : ∀ p ∈ ps, inR n p) {i j : Nat} (hr : Reach ps n i j) : rd o i = rd o j := by
  have := hr (fun k => rd o k = rd o i) (fun p hp' k hk => by
    have h1 := h.2 p hp' k hk
    have h2 := (hp p hp').2 k hk
    have e : (((rd p k).toNat : Nat) : Int) = rd p k := by omega
    show (rd o k = rd o i) ↔ (rd o (((rd p k).toNat : Nat) : Int) = rd o i)
    rw [e, h1])
  exact (this.1 rfl).symm
theorem orbOk_le {ps : List (List Int)} {n : Nat} {o o' : List Int} (h : orbOk ps n o) (h' : orbI ps n o') (hp : ∀ p ∈ ps, inR n p) {i : Nat} (hi : i < n) : rd o i ≤ rd o' i := by
  obtain ⟨g0, g1, g2⟩ := h'.2 i hi
  have e := orbOk_const h hp g2
  have hlt : (rd o' i).toNat < n := by omega
  have := (h.1.2 _ hlt).2.1
  have e2 : (((rd o' i).toNat : Nat) : Int) = rd o' i := by omega
  omega
theorem mn_le (a b : Int) : mn a b ≤ a ∧ mn a b ≤ b ∧ (mn a b = a ∨ mn a b = b) := by unfold mn; split <;> omega
theorem orbI_put {ps : List (List Int)} {n : Nat} {o : List Int} (h : orbI ps n o) {i : Nat} (hi : i < n) {v : Int} (h0 : 0 ≤ v) (h1 : v ≤ i) (hr : Reach ps n v.toNat i) : orbI ps n (o.set i v) := by
  refine ⟨by simpa using h.1, fun j hj => ?_⟩
  by_cases e : i = j
  · subst e
    rw [rd_set_self _ _ _ (by rw [h.1]; exact hi)]
    exact ⟨h0, h1, hr⟩
  · rw [rd_set_ne _ _ _ _ e]
    exact h.2 j hj
def tot : List Int → Int
  | [] => 0
  | x :: xs => x + tot xs
theorem tot_set : ∀ (l : List Int) (i : Nat) (v : Int), i < l.length → tot (l.set i v) + rd l i = tot l + v
  | [], i, v, h => by simp at h
  | x :: xs, 0, v, h => by simp [tot, rd]; omega
  | x :: xs, i + 1, v, h => by
    have ih := tot_set xs i v (by simpa using h)
    have e : rd (x :: xs) ((i + 1 : Nat) : Int) = rd xs i := by unfold rd; rw [Int.toNat_natCast, Int.toNat_natCast]; rfl
    rw [e]
    simp only [List.set_cons_succ, tot]
    omega
theorem tot_nonneg : ∀ (l : List Int), (∀ i : Nat, i < l.length → 0 ≤ rd l i) → 0 ≤ tot l
  | [], _ => by simp [tot]
  | x :: xs, h => by
    have h0 := h 0 (by simp)
    have e0 : rd (x :: xs) ((0 : Nat) : Int) = x := rfl
    rw [e0] at h0
    have := tot_nonneg xs fun i hi => by
      have := h (i + 1) (by simpa using hi)
      have e : rd (x :: xs) ((i + 1 : Nat) : Int) = rd xs i := by unfold rd; rw [Int.toNat_natCast, Int.toNat_natCast]; rfl
      rwa [e] at this
    simp only [tot]
    omega
theorem rdL_nth (ps : List (List Int)) (q : Nat) (h : q < ps.length) : rd_L1 ps (q : Int) = ps[q] := by
  have e : (q : Int).toNat = q := Int.toNat_natCast q
  unfold rd_L1
  rw [e, List.getD_eq_getElem?_getD, List.getElem?_eq_getElem h]
  rfl
theorem implOrb_in (ps : List (List Int)) (n : Nat) (hn : n ≤ 12) (q : Nat) (hq : q < ps.length) (hL : ps.length ≤ 1048576) (P : List Int) (hP : P ∈ ps) (pl : P.length = n) (pr : ∀ i : Nat, i < n → 0 ≤ rd P i ∧ rd P i < n) : ∀ (d i : Nat) (o : List Int) (g : Bool), n - i = d → i ≤ n → orbI ps n o →
    ∃ (o' : List Int) (g' : Bool), orbI ps n o' ∧ (∀ r, Ev (fun k => impl_orbits.l1 k ps o' g' ps ps.length ((q + 1 : Nat) : Int)) r → Ev (fun k => impl_orbits.l2 k ps o g ps ps.length q P n i) r) ∧ tot o' ≤ tot o ∧
      (g' = true → g = true ∨ tot o' < tot o) ∧ (g' = false → g = false ∧ o' = o ∧ ∀ j : Nat, i ≤ j → j < n → rd o (rd P j) = rd o j)
  | 0, i, o, g, hd, hi, ho => by
    refine ⟨o, g, ho, fun r h => Ev.s ?_, by omega, fun h => .inl h, fun h => ⟨h, rfl, fun j h1 h2 => by omega⟩⟩
    simp only [impl_orbits.l2, show ¬ (i : Int) < (n : Int) by omega, if_false]
    rw [w64 (x := (q : Int) + 1) (by omega) (by omega), show ((q : Int) + 1) = ((q + 1 : Nat) : Int) by omega]
    exact h
  | d + 1, i, o, g, hd, hi, ho => by
    have hlt : i < n := by omega
    have hd1 : n - (i + 1) = d := by omega
    have hw : wrap64 ((i : Int) + 1) = ((i + 1 : Nat) : Int) := by rw [w64 (by omega) (by omega)]; omega
    have hr := pr i hlt
    have hst := Reach.step hP hlt
    have hlen := ho.1
    obtain ⟨t, ht⟩ : ∃ t : Nat, rd P i = t := ⟨(rd P i).toNat, by omega⟩
    rw [ht, Int.toNat_natCast] at hst
    have htn : t < n := by omega
    obtain ⟨i0, i1, i2⟩ := ho.2 i hlt
    obtain ⟨t0, t1, t2⟩ := ho.2 t htn
    obtain ⟨hm1, hm2, hm3⟩ := mn_le (rd o i) (rd o t)
    have g1 : (i : Int) < (n : Int) := by omega
    have g2 : (0 : Int) ≤ (i : Int) := by omega
    have g3 : (0 : Int) ≤ (t : Int) := by omega
    have g4 : (t : Int) < (n : Int) := by omega
    obtain ⟨v, hv⟩ : ∃ v, mn (rd o i) (rd o t) = v := ⟨_, rfl⟩
    rw [hv] at hm1 hm2 hm3
    by_cases hc : rd o i = v ∧ rd o t = v
    · obtain ⟨c1, c2⟩ := hc
      obtain ⟨o', g', a1, a2, a3, a4, a5⟩ := implOrb_in ps n hn q hq hL P hP pl pr d (i + 1) o g hd1 hlt ho
      refine ⟨o', g', a1, fun r h => Ev.s ?_, a3, a4, fun h => ?_⟩
      · simp only [impl_orbits.l2, g1, g2, g3, g4, pl, hlen, ht, hv, if_true, hw]
        simp only [c1, c2, if_true]
        exact a2 r h
      · obtain ⟨b1, b2, b3⟩ := a5 h
        refine ⟨b1, b2, fun j h1 h2 => ?_⟩
        by_cases e : j = i
        · rw [e, ht]; omega
        · exact b3 j (by omega) h2
    · have hv0 : 0 ≤ v := by omega
      have hrv : Reach ps n v.toNat i := by
        rcases hm3 with e | e
        · rw [e]; exact i2
        · rw [e]; exact t2.trans hst.symm
      have ho1 := orbI_put ho hlt hv0 (by omega) hrv
      have ho2 := orbI_put ho1 htn hv0 (by omega) (hrv.trans hst)
      have hd2 : tot ((o.set i v).set t v) < tot o := by
        have z1 := tot_set o i v (by omega)
        have z2 := tot_set (o.set i v) t v (by rw [List.length_set]; omega)
        by_cases e : i = t
        · subst e
          rw [rd_set_self _ _ _ (by omega)] at z2
          omega
        · rw [rd_set_ne _ _ _ _ e] at z2
          omega
      obtain ⟨o', g', a1, a2, a3, a4, a5⟩ := implOrb_in ps n hn q hq hL P hP pl pr d (i + 1) ((o.set i v).set t v) true hd1 hlt ho2
      refine ⟨o', g', a1, fun r h => Ev.s ?_, by omega, fun h => .inr (by omega), fun h => ?_⟩
      · have hgo := a2 r h
        by_cases c1 : rd o i = v
        · have c2 : ¬ rd o t = v := fun e => hc ⟨c1, e⟩
          simp only [impl_orbits.l2, g1, g2, g3, g4, pl, hlen, ht, hv, if_true, hw, Int.toNat_natCast]
          simp only [c1, c2, if_true, if_false]
          exact hgo
        · simp only [impl_orbits.l2, g1, g2, g3, g4, pl, hlen, ht, hv, if_true, hw, Int.toNat_natCast]
          simp only [c1, if_false]
          exact hgo
      · have := (a5 h).1
        cases this
theorem implOrb_pass (ps : List (List Int)) (n : Nat) (hn : n ≤ 12) (hL : ps.length ≤ 1048576) (hp : ∀ p ∈ ps, inR n p) : ∀ (d q : Nat) (o : List Int) (g : Bool), ps.length - q = d → q ≤ ps.length → orbI ps n o →
    ∃ (o' : List Int) (g' : Bool), orbI ps n o' ∧ (∀ r, Ev (fun k => impl_orbits.l0 k ps o' g') r → Ev (fun k => impl_orbits.l1 k ps o g ps ps.length q) r) ∧ tot o' ≤ tot o ∧
      (g' = true → g = true ∨ tot o' < tot o) ∧ (g' = false → g = false ∧ o' = o ∧ ∀ z : Nat, q ≤ z → z < ps.length → ∀ j : Nat, j < n → rd o (rd (rd_L1 ps z) j) = rd o j)
  | 0, q, o, g, hd, hi, ho => by
    refine ⟨o, g, ho, fun r h => Ev.s ?_, by omega, fun h => .inl h, fun h => ⟨h, rfl, fun j h1 h2 => by omega⟩⟩
    simp only [impl_orbits.l1, show ¬ (q : Int) < (ps.length : Int) by omega, if_false]
    exact h
  | d + 1, q, o, g, hd, hi, ho => by
    have hlt : q < ps.length := by omega
    have hd1 : ps.length - (q + 1) = d := by omega
    have hP : rd_L1 ps q ∈ ps := by rw [rdL_nth ps q hlt]; exact List.getElem_mem hlt
    obtain ⟨pl, pr⟩ := hp _ hP
    obtain ⟨o1, b1, c1, c2, c3, c4, c5⟩ := implOrb_in ps n hn q hlt hL _ hP pl pr n 0 o g (by omega) (by omega) ho
    obtain ⟨o2, b2, e1, e2, e3, e4, e5⟩ := implOrb_pass ps n hn hL hp d (q + 1) o1 b1 hd1 hlt c1
    refine ⟨o2, b2, e1, fun r h => Ev.s ?_, by omega, fun h => ?_, fun h => ?_⟩
    · simp only [impl_orbits.l1, show (q : Int) < (ps.length : Int) by omega, show (0 : Int) ≤ (q : Int) by omega, if_true, pl]
      exact c2 r (e2 r h)
    · rcases e4 h with z | z
      · rcases c4 z with y | y
        · exact .inl y
        · exact .inr (by omega)
      · exact .inr (by omega)
    · obtain ⟨f1, f2, f3⟩ := e5 h
      obtain ⟨g1, g2, g3⟩ := c5 f1
      refine ⟨g1, f2.trans g2, fun z hz hz' j hj => ?_⟩
      by_cases e : z = q
      · rw [e]; exact g3 j (by omega) hj
      · have := f3 z (by omega) hz' j hj
        rwa [g2] at this
theorem implOrb_loop (ps : List (List Int)) (n : Nat) (hn : n ≤ 12) (hL : ps.length ≤ 1048576) (hp : ∀ p ∈ ps, inR n p) : ∀ (m : Nat) (o : List Int), tot o ≤ m → orbI ps n o → ∃ o', orbOk ps n o' ∧ Ev (fun k => impl_orbits.l0 k ps o true) o' := by
  intro m
  induction m using Nat.strongRecOn with
  | _ m ih =>
    intro o hm ho
    obtain ⟨o1, g1, c1, c2, c3, c4, c5⟩ := implOrb_pass ps n hn hL hp ps.length 0 o false (by omega) (by omega) ho
    cases g1 with
    | false =>
      obtain ⟨_, e2, e3⟩ := c5 rfl
      refine ⟨o, ⟨ho, fun p hp' i hi => ?_⟩, Ev.s ?_⟩
      · obtain ⟨z, hz, rfl⟩ := List.mem_iff_getElem.1 hp'
        have := e3 z (by omega) hz i hi
        rwa [rdL_nth ps z hz] at this
      · simp only [impl_orbits.l0, if_true]
        refine c2 o (Ev.s ?_)
        simp only [impl_orbits.l0, Bool.false_eq_true, if_false]
        exact Ev.const (by rw [e2])
    | true =>
      have hlt : tot o1 < tot o := by
        rcases c4 rfl with z | z
        · cases z
        · exact z
      have h0 := tot_nonneg o1 fun i hi => (c1.2 i (by rw [← c1.1]; exact hi)).1
      obtain ⟨o', h1, h2⟩ := ih (tot o1).toNat (by omega) o1 (by omega) c1
      refine ⟨o', h1, Ev.s ?_⟩
      simp only [impl_orbits.l0, if_true]
      exact c2 o' h2
theorem implOrb_ev (ps : List (List Int)) (n : Nat) (hn : n ≤ 12) (h0 : 0 < ps.length) (hL : ps.length ≤ 1048576) (hp : ∀ p ∈ ps, inR n p) : ∃ o, orbOk ps n o ∧ Ev (fun k => impl_orbits.f k ps) o := by
  obtain ⟨o, h1, h2⟩ := implOrb_loop ps n hn hL hp (tot (stl n)).toNat (stl n) (by have := tot_nonneg (stl n) (fun i hi => by rw [stl_rd n i (by rwa [stl_length] at hi)]; omega); omega) (stl_orbI ps n)
  refine ⟨o, h1, ?_⟩
  unfold impl_orbits.f
  have hz : (rd_L1 ps 0).length = n := by
    have := rdL_nth ps 0 h0
    rw [show ((0 : Nat) : Int) = 0 from rfl] at this
    rw [this]
    exact (hp _ (List.getElem_mem h0)).1
  simp only [show (0 : Int) < (ps.length : Int) by omega, if_true, hz]
  exact Ev.bind (still_ev n (by omega)) h2
def lag (o g : List Int) : Nat → Nat
  | 0 => 0
  | i + 1 => (if rd o i = rd g i then 0 else 1) + lag o g i
theorem lag_le (o g : List Int) : ∀ i, lag o g i ≤ i
  | 0 => Nat.le_refl _
  | i + 1 => by have := lag_le o g i; simp only [lag]; split <;> omega
theorem lag_zero (o g : List Int) : ∀ n, lag o g n = 0 → ∀ i, i < n → rd o i = rd g i
  | 0, _, i, h => by omega
  | n + 1, hz, i, h => by
    simp only [lag] at hz
    by_cases e : i = n
    · subst e
      by_cases c : rd o i = rd g i
      · exact c
      · rw [if_neg c] at hz; omega
    · exact lag_zero o g n (by omega) i (by omega)
theorem lag_mono (o o' g : List Int) (h : ∀ i : Nat, rd o i = rd g i → rd o' i = rd g i) : ∀ n, lag o' g n ≤ lag o g n
  | 0 => Nat.le_refl _
  | n + 1 => by
    have ih := lag_mono o o' g h n
    simp only [lag]
    by_cases c : rd o n = rd g n
    · rw [if_pos c, if_pos (h n c)]; omega
    · rw [if_neg c]; split <;> omega
theorem lag_lt (o o' g : List Int) (h : ∀ i : Nat, rd o i = rd g i → rd o' i = rd g i) (z : Nat) (hz : rd o z ≠ rd g z) (hz' : rd o' z = rd g z) : ∀ n, z < n → lag o' g n < lag o g n
  | 0, hn => by omega
  | n + 1, hn => by
    simp only [lag]
    by_cases e : z = n
    · subst e
      have := lag_mono o o' g h z
      rw [if_neg hz, if_pos hz']; omega
    · have ih := lag_lt o o' g h z hz hz' n (by omega)
      by_cases c : rd o n = rd g n
      · rw [if_pos c, if_pos (h n c)]; omega
      · rw [if_neg c]; split <;> omega
theorem mn_eq (a b : Int) : mn a b = if a ≤ b then a else b := by unfold mn; split <;> split <;> omega
theorem specOrb_sweep (t f : List Int) (n : Nat) (hn : n ≤ 12) (ht : inR n t) (hf : inR n f) (g : List Int) (hg : orbOk [t, f] n g) (round : Int) : ∀ (d i : Nat) (o : List Int), n - i = d → i ≤ n → orbI [t, f] n o →
    ∃ o', orbI [t, f] n o' ∧ (∀ r, Ev (fun k => spec_l1Orbits.l0 k t f o' (wrap64 (round + 1))) r → Ev (fun k => spec_l1Orbits.l1 k t f o round i) r) ∧ (∀ z : Nat, z < n → rd o z = rd g z → rd o' z = rd g z) ∧
      (∀ j : Nat, i ≤ j → j < n → (rd o j = rd g j ∨ rd o (rd t j) = rd g (rd t j) ∨ rd o (rd f j) = rd g (rd f j)) → rd o' j = rd g j ∧ rd o' (rd t j) = rd g (rd t j) ∧ rd o' (rd f j) = rd g (rd f j))
  | 0, i, o, hd, hi, ho => by
    refine ⟨o, ho, fun r h => Ev.s ?_, fun z _ h => h, fun j h1 h2 => by omega⟩
    simp only [spec_l1Orbits.l1, ht.1, show ¬ (i : Int) < (n : Int) by omega, if_false]
    exact h
  | d + 1, i, o, hd, hi, ho => by
    have hlt : i < n := by omega
    have hd1 : n - (i + 1) = d := by omega
    have hw : wrap64 ((i : Int) + 1) = ((i + 1 : Nat) : Int) := by rw [w64 (by omega) (by omega)]; omega
    have hps : ∀ p ∈ [t, f], inR n p := by intro p hp; simp at hp; rcases hp with rfl | rfl <;> assumption
    have hra := ht.2 i hlt
    have hrb := hf.2 i hlt
    have sta := Reach.step (ps := [t, f]) (p := t) (by simp) hlt
    have stb := Reach.step (ps := [t, f]) (p := f) (by simp) hlt
    have ca := hg.2 t (by simp) i hlt
    have cb := hg.2 f (by simp) i hlt
    obtain ⟨a, hta⟩ : ∃ a : Nat, rd t i = a := ⟨(rd t i).toNat, by omega⟩
    obtain ⟨b, hfb⟩ : ∃ b : Nat, rd f i = b := ⟨(rd f i).toNat, by omega⟩
    rw [hta, Int.toNat_natCast] at sta
    rw [hfb, Int.toNat_natCast] at stb
    rw [hta] at ca
    rw [hfb] at cb
    have han : a < n := by omega
    have hbn : b < n := by omega
    have hlen := ho.1
    obtain ⟨i0, i1, i2⟩ := ho.2 i hlt
    obtain ⟨a0, a1, a2⟩ := ho.2 a han
    obtain ⟨b0, b1, b2⟩ := ho.2 b hbn
    have li := orbOk_le hg ho hps hlt
    have la := orbOk_le hg ho hps han
    have lb := orbOk_le hg ho hps hbn
    obtain ⟨v, hv⟩ : ∃ v, mn (rd o i) (mn (rd o a) (rd o b)) = v := ⟨_, rfl⟩
    have hvm : v ≤ rd o i ∧ v ≤ rd o a ∧ v ≤ rd o b ∧ (v = rd o i ∨ v = rd o a ∨ v = rd o b) := by
      rw [← hv, mn_eq, mn_eq]
      split <;> split at * <;> omega
    have hv0 : 0 ≤ v := by omega
    have hrv : Reach [t, f] n v.toNat i := by
      rcases hvm.2.2.2 with e | e | e
      · rw [e]; exact i2
      · rw [e]; exact a2.trans sta.symm
      · rw [e]; exact b2.trans stb.symm
    have ho1 := orbI_put ho hlt hv0 (by omega) hrv
    have ho2 := orbI_put ho1 han hv0 (by omega) (hrv.trans sta)
    have ho3 := orbI_put ho2 hbn hv0 (by omega) (hrv.trans stb)
    obtain ⟨o3, ho3e⟩ : ∃ o3, ((o.set i v).set a v).set b v = o3 := ⟨_, rfl⟩
    rw [ho3e] at ho3
    have rdo3 : ∀ z : Nat, rd o3 z = if z = i ∨ z = a ∨ z = b then v else rd o z := by
      intro z
      rw [← ho3e]
      by_cases z3 : b = z
      · subst z3; rw [rd_set_self _ _ _ (by simp; omega)]; simp
      · rw [rd_set_ne _ _ _ _ z3]
        by_cases z2 : a = z
        · subst z2; rw [rd_set_self _ _ _ (by simp; omega)]; simp
        · rw [rd_set_ne _ _ _ _ z2]
          by_cases z1 : i = z
          · subst z1; rw [rd_set_self _ _ _ (by omega)]; simp
          · rw [rd_set_ne _ _ _ _ z1, if_neg (by omega)]
    have keep3 : ∀ z : Nat, z < n → rd o z = rd g z → rd o3 z = rd g z := by
      intro z hz e
      have l3 := orbOk_le hg ho3 hps hz
      rw [rdo3 z] at l3 ⊢
      by_cases c : z = i ∨ z = a ∨ z = b
      · rw [if_pos c] at l3 ⊢
        have : v ≤ rd o z := by rcases c with rfl | rfl | rfl <;> omega
        omega
      · rw [if_neg c]; exact e
    obtain ⟨o', c1, c2, c3, c4⟩ := specOrb_sweep t f n hn ht hf g hg round d (i + 1) o3 hd1 hlt ho3
    refine ⟨o', c1, fun r h => Ev.s ?_, fun z hz e => c3 z hz (keep3 z hz e), fun j h1 h2 hj => ?_⟩
    · have hgo := c2 r h
      have g1 : (i : Int) < (n : Int) := by omega
      have g2 : (0 : Int) ≤ (i : Int) := by omega
      have g3 : (0 : Int) ≤ (a : Int) := by omega
      have g4 : (a : Int) < (n : Int) := by omega
      have g5 : (0 : Int) ≤ (b : Int) := by omega
      have g6 : (b : Int) < (n : Int) := by omega
      simp only [spec_l1Orbits.l1, ht.1, hf.1, hlen, g1, g2, g3, g4, g5, g6, hta, hfb, hv, if_true, hw, Int.toNat_natCast, ho3e]
      exact hgo
    · by_cases e : j = i
      · subst e
        have l3 := orbOk_le hg ho3 hps hlt
        have e3 : rd o3 j = v := by rw [rdo3 j, if_pos (.inl rfl)]
        have ea3 : rd o3 a = v := by rw [rdo3 a, if_pos (.inr (.inl rfl))]
        have eb3 : rd o3 b = v := by rw [rdo3 b, if_pos (.inr (.inr rfl))]
        rw [hta, hfb] at hj ⊢
        have hvg : v = rd g j := by
          rcases hj with z | z | z <;> omega
        exact ⟨c3 j hlt (by omega), c3 a han (by omega), c3 b hbn (by omega)⟩
      · refine c4 j (by omega) h2 ?_
        have hta' := ht.2 j h2
        have hfb' := hf.2 j h2
        obtain ⟨a', ha'⟩ : ∃ a' : Nat, rd t j = a' := ⟨(rd t j).toNat, by omega⟩
        obtain ⟨b', hb'⟩ : ∃ b' : Nat, rd f j = b' := ⟨(rd f j).toNat, by omega⟩
        rw [ha', hb'] at hj ⊢
        rcases hj with z | z | z
        · exact .inl (keep3 j h2 z)
        · exact .inr (.inl (keep3 a' (by omega) z))
        · exact .inr (.inr (keep3 b' (by omega) z))
theorem specOrb_loop (t f : List Int) (n : Nat) (hn : n ≤ 12) (ht : inR n t) (hf : inR n f) (g : List Int) (hg : orbOk [t, f] n g) : ∀ (d i : Nat) (o : List Int), n - i = d → i ≤ n → orbI [t, f] n o → lag o g n ≤ d → Ev (fun k => spec_l1Orbits.l0 k t f o i) g
  | 0, i, o, hd, hi, ho, hl => by
    refine Ev.s ?_
    simp only [spec_l1Orbits.l0, ht.1, show ¬ (i : Int) < (n : Int) by omega, if_false]
    have : o = g := list_ext o g (ho.1.trans hg.1.1.symm) fun z hz => lag_zero o g n (by omega) z (by rw [← ho.1]; exact hz)
    exact Ev.const (by rw [this])
  | d + 1, i, o, hd, hi, ho, hl => by
    have hlt : i < n := by omega
    have hd1 : n - (i + 1) = d := by omega
    have hw : wrap64 ((i : Int) + 1) = ((i + 1 : Nat) : Int) := by rw [w64 (by omega) (by omega)]; omega
    have hps : ∀ p ∈ [t, f], inR n p := by intro p hp; simp at hp; rcases hp with rfl | rfl <;> assumption
    obtain ⟨o', c1, c2, c3, c4⟩ := specOrb_sweep t f n hn ht hf g hg i n 0 o (by omega) (by omega) ho
    refine Ev.s ?_
    simp only [spec_l1Orbits.l0, ht.1, show (i : Int) < (n : Int) by omega, if_true]
    refine c2 g ?_
    rw [hw]
    refine specOrb_loop t f n hn ht hf g hg d (i + 1) o' hd1 hlt c1 ?_
    have hout : ∀ z : Nat, ¬ z < n → rd o z = rd o' z := by
      intro z hz
      unfold rd
      rw [Int.toNat_natCast, List.getD_eq_getElem?_getD, List.getD_eq_getElem?_getD, List.getElem?_eq_none (by rw [ho.1]; omega), List.getElem?_eq_none (by rw [c1.1]; omega)]
    have keep : ∀ z : Nat, rd o z = rd g z → rd o' z = rd g z := fun z e => by
      by_cases hz : z < n
      · exact c3 z hz e
      · rw [← hout z hz]; exact e
    by_cases hz : lag o g n = 0
    · have := lag_mono o o' g keep n
      omega
    · -- some point has not its label: some step leads from one that has it to one that has it not
      have hex : ∃ z : Nat, z < n ∧ rd o z ≠ rd g z ∧ rd o' z = rd g z := by
        refine Classical.byContradiction fun hno => ?_
        have hsame : ∀ z : Nat, z < n → (rd o z = rd g z ↔ rd o' z = rd g z) := fun z hz => ⟨keep z, fun e => Classical.byContradiction fun hne => hno ⟨z, hz, hne, e⟩⟩
        have hcl : closedL [t, f] n (fun z => rd o z = rd g z) := by
          intro p hp k hk
          have hr := (hps p hp).2 k hk
          obtain ⟨a, ha⟩ : ∃ a : Nat, rd p k = a := ⟨(rd p k).toNat, by omega⟩
          have han : a < n := by omega
          rw [ha, Int.toNat_natCast]
          show rd o k = rd g k ↔ rd o a = rd g a
          have h4 := c4 k (by omega) hk
          simp at hp
          rcases hp with rfl | rfl
          · rw [ha] at h4
            exact ⟨fun e => (hsame a han).2 (h4 (.inl e)).2.1, fun e => (hsame k hk).2 (h4 (.inr (.inl e))).1⟩
          · rw [ha] at h4
            exact ⟨fun e => (hsame a han).2 (h4 (.inl e)).2.2, fun e => (hsame k hk).2 (h4 (.inr (.inr e))).1⟩
        have hall : ∀ z : Nat, z < n → rd o z = rd g z := by
          intro z hz
          obtain ⟨g0, g1, g2⟩ := hg.1.2 z hz
          have hm : (rd g z).toNat < n := by omega
          have e1 : ((rd g z).toNat : Int) = rd g z := by omega
          have hgm : rd g ((rd g z).toNat : Nat) = rd g z := orbOk_const hg hps g2
          have hom : rd o ((rd g z).toNat : Nat) = rd g ((rd g z).toNat : Nat) := by
            have h1 := orbOk_le hg ho hps hm
            have h2 := (ho.2 _ hm).2.1
            omega
          exact (g2 _ hcl).1 hom
        have : lag o g n = 0 := by
          have hz0 : ∀ m, m ≤ n → lag o g m = 0 := by
            intro m
            induction m with
            | zero => intro _; rfl
            | succ m ih => intro hm; simp only [lag]; rw [if_pos (hall m (by omega)), ih (by omega)]
          exact hz0 n (Nat.le_refl _)
        exact hz this
      obtain ⟨z, z1, z2, z3⟩ := hex
      have := lag_lt o o' g keep z z2 z3 n z1
      omega
theorem orb_both (t f : List Int) (n : Nat) (hn : n ≤ 12) (h1 : 1 ≤ n) (ht : inR n t) (hf : inR n f) : ∃ o, orbOk [t, f] n o ∧ Ev (fun k => spec_l1Orbits.f k t f) o ∧ Ev (fun k => impl_orbits.f k [t, f]) o := by
  have hps : ∀ p ∈ [t, f], inR n p := by intro p hp; simp at hp; rcases hp with rfl | rfl <;> assumption
  obtain ⟨o, ho, he⟩ := implOrb_ev [t, f] n hn (by simp) (by simp) hps
  refine ⟨o, ho, ?_, he⟩
  unfold spec_l1Orbits.f
  rw [ht.1]
  refine Ev.bind (same_ev n (by omega)) ?_
  refine specOrb_loop t f n hn ht hf o ho n 0 (stl n) (by omega) (by omega) (stl_orbI _ n) ?_
  exact lag_le _ _ n
theorem isPerm_inR (l : List Int) (h : isPerm l) : inR l.length l := ⟨rfl, fun i hi => ⟨(h.2.2 i hi).1, (h.2.2 i hi).2.1⟩⟩
def flipAt (f : List Int) (i : Nat) : Prop := rd f i ≠ i ∧ rd f (rd f i) = i
def isMap (t f : List Int) : Prop := isPerm t ∧ isPerm f ∧ t.length = f.length ∧ (∀ i : Nat, i < f.length → flipAt f i) ∧ ∀ i j : Nat, i < f.length → j < f.length → Reach [t, f] f.length i j
def maxF : List Int → Int → Int
  | [], m => m
  | x :: xs, m => maxF xs (mx m x)
theorem maxF_zero : ∀ (l : List Int) (m : Int), 0 ≤ m → (∀ x ∈ l, 0 ≤ x) → 0 ≤ maxF l m ∧ (maxF l m = 0 ↔ m = 0 ∧ ∀ x ∈ l, x = 0)
  | [], m, hm, _ => by simp [maxF, hm]
  | x :: xs, m, hm, hx => by
    have hx0 := hx x (by simp)
    have hmx : 0 ≤ mx m x ∧ (mx m x = 0 ↔ m = 0 ∧ x = 0) := by unfold mx; split <;> omega
    obtain ⟨h1, h2⟩ := maxF_zero xs (mx m x) hmx.1 fun y hy => hx y (by simp [hy])
    refine ⟨h1, ?_⟩
    simp only [maxF, h2, hmx.2, List.mem_cons, forall_eq_or_imp, and_assoc]
theorem max_run (l : List Int) (hl : l.length ≤ 1048576) : ∀ (d i : Nat) (m : Int), l.length - i = d → i ≤ l.length → Ev (fun k => slices_Max_int_int.l0 k l m i) (maxF (l.drop i) m)
  | 0, i, m, hd, hi => by
    refine Ev.s ?_
    simp only [slices_Max_int_int.l0, show ¬ (i : Int) < (l.length : Int) by omega, if_false]
    rw [List.drop_eq_nil_of_le (by omega)]
    exact Ev.const rfl
  | d + 1, i, m, hd, hi => by
    have hlt : i < l.length := by omega
    refine Ev.s ?_
    simp only [slices_Max_int_int.l0, show (i : Int) < (l.length : Int) by omega, show (0 : Int) ≤ (i : Int) by omega, if_true]
    rw [w64 (x := (i : Int) + 1) (by omega) (by omega), show ((i : Int) + 1) = ((i + 1 : Nat) : Int) by omega, List.drop_eq_getElem_cons hlt, rd_lt l i hlt]
    exact max_run l hl d (i + 1) _ (by omega) (by omega)
theorem max_ev (l : List Int) (hl : l.length ≤ 1048576) (h1 : 1 ≤ l.length) (h0 : ∀ x ∈ l, 0 ≤ x) : ∃ m, Ev (fun k => slices_Max_int_int.f k l) m ∧ (m = 0 ↔ ∀ x ∈ l, x = 0) := by
  cases l with
  | nil => simp at h1
  | cons x xs =>
    refine ⟨maxF xs x, ?_, ?_⟩
    · unfold slices_Max_int_int.f
      simp only [show ¬ (((x :: xs).length : Nat) : Int) < 1 by omega, show (0 : Int) < (((x :: xs).length : Nat) : Int) by omega, if_true, if_false]
      exact max_run (x :: xs) hl _ 1 x rfl h1
    · rw [(maxF_zero xs x (h0 x (by simp)) fun y hy => h0 y (by simp [hy])).2]
      simp
theorem specFlip_run (t f : List Int) (hf : isPerm f) : ∀ (d i : Nat), f.length - i = d → i ≤ f.length →
    ((∀ q : Nat, i ≤ q → q < f.length → flipAt f q) → ∀ r, Ev (fun k => (spec_l1Orbits.f k t f).bind fun o => spec_MapValid.l1 k o 0) r → Ev (fun k => spec_MapValid.l0 k i t f) r) ∧ (¬ (∀ q : Nat, i ≤ q → q < f.length → flipAt f q) → Ev (fun k => spec_MapValid.l0 k i t f) false)
  | 0, i, hd, hi => by
    refine ⟨fun _ r h => Ev.s ?_, fun h => absurd (fun q h1 h2 => by omega) h⟩
    simp only [spec_MapValid.l0, show ¬ (i : Int) < (f.length : Int) by omega, if_false]
    exact h
  | d + 1, i, hd, hi => by
    have hlt : i < f.length := by omega
    have hl12 := hf.2.1
    have hr := (isPerm_inR f hf).2 i hlt
    have ih := specFlip_run t f hf d (i + 1) (by omega) (by omega)
    have hw : wrap64 ((i : Int) + 1) = ((i + 1 : Nat) : Int) := by rw [w64 (by omega) (by omega)]; omega
    have g1 : (i : Int) < (f.length : Int) := by omega
    have g2 : (0 : Int) ≤ (i : Int) := by omega
    by_cases c1 : rd f i = i
    · refine ⟨fun h => absurd c1 (h i (Nat.le_refl _) hlt).1, fun h => Ev.s ?_⟩
      simp only [spec_MapValid.l0, g1, g2, c1, if_true]
      exact Ev.const rfl
    · by_cases c2 : rd f (rd f i) = i
      · refine ⟨fun h r hr' => Ev.s ?_, fun h => Ev.s ?_⟩
        · simp only [spec_MapValid.l0, g1, g2, c1, c2, hr.1, hr.2, if_true, if_false, hw]
          exact ih.1 (fun q h1 h2 => h q (by omega) h2) r hr'
        · simp only [spec_MapValid.l0, g1, g2, c1, c2, hr.1, hr.2, if_true, if_false, hw]
          refine ih.2 fun h' => h fun q h1 h2 => ?_
          by_cases e : q = i
          · rw [e]; exact ⟨c1, c2⟩
          · exact h' q (by omega) h2
      · refine ⟨fun h => absurd (h i (Nat.le_refl _) hlt).2 c2, fun h => Ev.s ?_⟩
        simp only [spec_MapValid.l0, g1, g2, c1, c2, hr.1, hr.2, if_true, if_false]
        exact Ev.const rfl
theorem implFlip_run (t f : List Int) (hf : isPerm f) : ∀ (d i : Nat), f.length - i = d → i ≤ f.length →
    ((∀ q : Nat, i ≤ q → q < f.length → flipAt f q) → ∀ r, Ev (fun k => (impl_orbits.f k [t, f]).bind fun o => (slices_Max_int_int.f k o).bind fun m => some (m == 0)) r → Ev (fun k => impl_MapValid.l0 k f f.length i t f) r) ∧ (¬ (∀ q : Nat, i ≤ q → q < f.length → flipAt f q) → Ev (fun k => impl_MapValid.l0 k f f.length i t f) false)
  | 0, i, hd, hi => by
    refine ⟨fun _ r h => Ev.s ?_, fun h => absurd (fun q h1 h2 => by omega) h⟩
    simp only [impl_MapValid.l0, show ¬ (i : Int) < (f.length : Int) by omega, if_false]
    exact h
  | d + 1, i, hd, hi => by
    have hlt : i < f.length := by omega
    have hl12 := hf.2.1
    have hr := (isPerm_inR f hf).2 i hlt
    have ih := implFlip_run t f hf d (i + 1) (by omega) (by omega)
    have hw : wrap64 ((i : Int) + 1) = ((i + 1 : Nat) : Int) := by rw [w64 (by omega) (by omega)]; omega
    have g1 : (i : Int) < (f.length : Int) := by omega
    have g2 : (0 : Int) ≤ (i : Int) := by omega
    by_cases c1 : rd f i = i
    · refine ⟨fun h => absurd c1 (h i (Nat.le_refl _) hlt).1, fun h => Ev.s ?_⟩
      simp only [impl_MapValid.l0, g1, g2, c1, if_true]
      exact Ev.const rfl
    · by_cases c2 : rd f (rd f i) = i
      · refine ⟨fun h r hr' => Ev.s ?_, fun h => Ev.s ?_⟩
        · simp only [impl_MapValid.l0, g1, g2, c1, c2, hr.1, hr.2, if_true, if_false, hw]
          exact ih.1 (fun q h1 h2 => h q (by omega) h2) r hr'
        · simp only [impl_MapValid.l0, g1, g2, c1, c2, hr.1, hr.2, if_true, if_false, hw]
          refine ih.2 fun h' => h fun q h1 h2 => ?_
          by_cases e : q = i
          · rw [e]; exact ⟨c1, c2⟩
          · exact h' q (by omega) h2
      · refine ⟨fun h => absurd (h i (Nat.le_refl _) hlt).2 c2, fun h => Ev.s ?_⟩
        simp only [impl_MapValid.l0, g1, g2, c1, c2, hr.1, hr.2, if_true, if_false]
        exact Ev.const rfl
theorem zero_run (o : List Int) (hl : o.length ≤ 1048576) : ∀ (d i : Nat), o.length - i = d → i ≤ o.length →
    ((∀ q : Nat, i ≤ q → q < o.length → rd o q = 0) → Ev (fun k => spec_MapValid.l1 k o i) true) ∧ (¬ (∀ q : Nat, i ≤ q → q < o.length → rd o q = 0) → Ev (fun k => spec_MapValid.l1 k o i) false)
  | 0, i, hd, hi => by
    refine ⟨fun _ => Ev.s ?_, fun h => absurd (fun q h1 h2 => by omega) h⟩
    simp only [spec_MapValid.l1, show ¬ (i : Int) < (o.length : Int) by omega, if_false]
    exact Ev.const rfl
  | d + 1, i, hd, hi => by
    have hlt : i < o.length := by omega
    have ih := zero_run o hl d (i + 1) (by omega) (by omega)
    have hw : wrap64 ((i : Int) + 1) = ((i + 1 : Nat) : Int) := by rw [w64 (by omega) (by omega)]; omega
    have g1 : (i : Int) < (o.length : Int) := by omega
    have g2 : (0 : Int) ≤ (i : Int) := by omega
    by_cases c : rd o i = 0
    · refine ⟨fun h => Ev.s ?_, fun h => Ev.s ?_⟩
      · simp only [spec_MapValid.l1, g1, g2, c, if_true, hw]
        exact ih.1 fun q h1 h2 => h q (by omega) h2
      · simp only [spec_MapValid.l1, g1, g2, c, if_true, hw]
        refine ih.2 fun h' => h fun q h1 h2 => ?_
        by_cases e : q = i
        · rw [e]; exact c
        · exact h' q (by omega) h2
    · refine ⟨fun h => absurd (h i (Nat.le_refl _) hlt) c, fun h => Ev.s ?_⟩
      simp only [spec_MapValid.l1, g1, g2, c, if_true, if_false]
      exact Ev.const rfl
theorem orb_zero (t f : List Int) (n : Nat) (h1 : 1 ≤ n) (ht : inR n t) (hf : inR n f) (o : List Int) (ho : orbOk [t, f] n o) : (∀ q : Nat, q < n → rd o q = 0) ↔ ∀ i j : Nat, i < n → j < n → Reach [t, f] n i j := by
  have hps : ∀ p ∈ [t, f], inR n p := by intro p hp; simp at hp; rcases hp with rfl | rfl <;> assumption
  constructor
  · intro h i j hi hj
    have e1 := (ho.1.2 i hi).2.2
    have e2 := (ho.1.2 j hj).2.2
    rw [h i hi] at e1
    rw [h j hj] at e2
    exact e1.symm.trans e2
  · intro h q hq
    have := orbOk_const ho hps (h q 0 hq (by omega))
    have h0 := ho.1.2 0 (by omega)
    omega
theorem mapValid_both (t f : List Int) (ht : t.length ≤ 1048576) (hf : f.length ≤ 1048576) : ∃ b : Bool, Ev (fun k => spec_MapValid.f k t f) b ∧ Ev (fun k => impl_MapValid.f k t f) b ∧ (b = true ↔ isMap t f) := by
  obtain ⟨bt, t1, t2, t3⟩ := permValid_both t ht
  obtain ⟨bf, f1, f2, f3⟩ := permValid_both f hf
  have hb : ∀ b : Bool, (∃ c : Bool, Ev (fun k => spec_l1Both.f k t f) c ∧ (c = true ↔ isPerm t ∧ isPerm f ∧ t.length = f.length)) := fun _ => by
    unfold spec_l1Both.f
    cases bt with
    | false => exact ⟨false, Ev.bind t1 (Ev.const rfl), ⟨fun h => (by cases h), fun h => absurd (t3.2 h.1) (by decide)⟩⟩
    | true =>
      cases bf with
      | false => exact ⟨false, Ev.bind t1 (by simp only [if_true]; exact Ev.bind f1 (Ev.const rfl)), ⟨fun h => (by cases h), fun h => absurd (f3.2 h.2.1) (by decide)⟩⟩
      | true => exact ⟨((t.length : Int) == (f.length : Int)), Ev.bind t1 (by simp only [if_true]; exact Ev.bind f1 (Ev.const rfl)), ⟨fun h => ⟨t3.1 rfl, f3.1 rfl, by have := beq_iff_eq.1 h; omega⟩, fun h => by rw [beq_iff_eq]; omega⟩⟩
  obtain ⟨c, c1, c2⟩ := hb true
  by_cases hall : isPerm t ∧ isPerm f ∧ t.length = f.length
  · obtain ⟨pt, pf, hlen⟩ := hall
    have hc : c = true := c2.2 ⟨pt, pf, hlen⟩
    subst hc
    have hbt : bt = true := t3.2 pt
    have hbf : bf = true := f3.2 pf
    subst hbt; subst hbf
    have hne : (((t.length : Int)) != (f.length : Int)) = false := by rw [bne_eq_false_iff_eq]; omega
    have hrt : inR f.length t := by have := isPerm_inR t pt; rwa [hlen] at this
    have hrf := isPerm_inR f pf
    obtain ⟨o, o1, o2, o3⟩ := orb_both t f f.length pf.2.1 pf.1 hrt hrf
    have hS : ∀ r, Ev (fun k => spec_MapValid.l0 k 0 t f) r → Ev (fun k => spec_MapValid.f k t f) r := fun r h => by
      unfold spec_MapValid.f
      refine Ev.bind c1 ?_
      simp only [if_true]
      exact h
    have hI : ∀ r, Ev (fun k => impl_MapValid.l0 k f f.length 0 t f) r → Ev (fun k => impl_MapValid.f k t f) r := fun r h => by
      unfold impl_MapValid.f
      refine Ev.bind t2 ?_
      simp only [if_true]
      refine Ev.bind f2 ?_
      simp only [if_true, hne]
      refine Ev.s ?_
      simp only [impl_MapValid.j0, Bool.false_eq_true, if_false]
      exact h
    have sF := specFlip_run t f pf f.length 0 (by omega) (by omega)
    have iF := implFlip_run t f pf f.length 0 (by omega) (by omega)
    by_cases hfl : ∀ q : Nat, 0 ≤ q → q < f.length → flipAt f q
    · have zr := zero_run o (by rw [o1.1.1]; omega) o.length 0 (by omega) (by omega)
      have oz := orb_zero t f f.length pf.1 hrt hrf o o1
      obtain ⟨m, m1, m2⟩ := max_ev o (by rw [o1.1.1]; omega) (by rw [o1.1.1]; exact pf.1) (fun x hx => by
        obtain ⟨i, hi, rfl⟩ := List.mem_iff_getElem.1 hx
        have := (o1.1.2 i (by rw [← o1.1.1]; exact hi)).1
        rwa [rd_lt o i hi] at this)
      have hmz : m = 0 ↔ ∀ q : Nat, 0 ≤ q → q < o.length → rd o q = 0 := by
        rw [m2]
        constructor
        · intro h q _ hq
          rw [rd_lt o q hq]
          exact h _ (List.getElem_mem hq)
        · intro h x hx
          obtain ⟨i, hi, rfl⟩ := List.mem_iff_getElem.1 hx
          have := h i (by omega) hi
          rwa [rd_lt o i hi] at this
      by_cases hz : ∀ q : Nat, 0 ≤ q → q < o.length → rd o q = 0
      · refine ⟨true, hS _ (sF.1 hfl _ (Ev.bind o2 (zr.1 hz))), hI _ (iF.1 hfl _ (Ev.bind o3 (Ev.bind m1 (Ev.const ?_)))), ?_⟩
        · rw [hmz.2 hz]; rfl
        · refine ⟨fun _ => ⟨pt, pf, hlen, fun i hi => hfl i (by omega) hi, oz.1 fun q hq => hz q (by omega) (by rw [o1.1.1]; exact hq)⟩, fun _ => rfl⟩
      · refine ⟨false, hS _ (sF.1 hfl _ (Ev.bind o2 (zr.2 hz))), hI _ (iF.1 hfl _ (Ev.bind o3 (Ev.bind m1 (Ev.const ?_)))), ?_⟩
        · have : ¬ m = 0 := fun e => hz (hmz.1 e)
          simp [this]
        · exact ⟨fun h => (by cases h), fun h => absurd (fun q _ hq => oz.2 h.2.2.2.2 q (by rw [← o1.1.1]; exact hq)) hz⟩
    · exact ⟨false, hS _ (sF.2 hfl), hI _ (iF.2 hfl), ⟨fun h => (by cases h), fun h => absurd (fun q _ hq => h.2.2.2.1 q hq) hfl⟩⟩
  · have hc : c = false := by
      cases c with
      | false => rfl
      | true => exact absurd (c2.1 rfl) hall
    subst hc
    refine ⟨false, ?_, ?_, ⟨fun h => (by cases h), fun h => absurd ⟨h.1, h.2.1, h.2.2.1⟩ hall⟩⟩
    · unfold spec_MapValid.f
      exact Ev.bind c1 (Ev.const rfl)
    · have hj : Ev (fun k => impl_MapValid.j0 k true t f) false := by
        refine Ev.s ?_
        simp only [impl_MapValid.j0, if_true]
        exact Ev.const rfl
      unfold impl_MapValid.f
      refine Ev.bind t2 ?_
      cases bt with
      | false => simp only [Bool.false_eq_true, if_false]; exact hj
      | true =>
        simp only [if_true]
        refine Ev.bind f2 ?_
        cases bf with
        | false => simp only [Bool.false_eq_true, if_false]; exact hj
        | true =>
          have hne : (((t.length : Int)) != (f.length : Int)) = true := by
            rw [bne_iff_ne]
            intro e
            exact hall ⟨t3.1 rfl, f3.1 rfl, by omega⟩
          simp only [if_true, hne]
          exact hj
theorem take_set_one (l : List Int) (i : Nat) (v : Int) (h : i < l.length) : (l.set i v).take (i + 1) = l.take i ++ [v] := by
  rw [List.take_succ_eq_append_getElem (by simpa using h), List.take_set_of_le (Nat.le_refl _), List.getElem_set_self]
def mulL (a b : List Int) : Nat → List Int
  | 0 => []
  | i + 1 => mulL a b i ++ [rd b (rd a i)]
theorem mulL_length (a b : List Int) : ∀ n, (mulL a b n).length = n
  | 0 => rfl
  | n + 1 => by simp [mulL, mulL_length a b n]
theorem mulL_rd (a b : List Int) : ∀ (n i : Nat), i < n → rd (mulL a b n) i = rd b (rd a i)
  | n + 1, i, h => by
    simp only [mulL]
    by_cases e : i < n
    · rw [rd_app_lt _ _ _ (by rw [mulL_length]; exact e), mulL_rd a b n i e]
    · have : i = n := by omega
      subst this
      have h2 : i < (mulL a b i ++ [rd b (rd a (i : Int))]).length := by simp [mulL_length]
      rw [rd_lt _ i h2, List.getElem_append_right (by rw [mulL_length]; exact Nat.le_refl _)]
      simp [mulL_length]
theorem mulL_inR (n : Nat) (a b : List Int) (ha : inR n a) (hb : inR n b) : inR n (mulL a b n) := by
  refine ⟨mulL_length a b n, fun i hi => ?_⟩
  rw [mulL_rd a b n i hi]
  have h1 := ha.2 i hi
  have h2 := hb.2 (rd a i).toNat (by omega)
  rwa [show ((rd a i).toNat : Int) = rd a i by omega] at h2
theorem specMul_run (n : Nat) (hn : n ≤ 1048576) (a b : List Int) (ha : inR n a) (hb : inR n b) : ∀ (d i : Nat), n - i = d → i ≤ n → Ev (fun k => spec_l1Mul.l0 k a b (mulL a b i) i) (mulL a b n)
  | 0, i, hd, hi => by
    have : i = n := by omega
    subst this
    refine Ev.s ?_
    simp only [spec_l1Mul.l0, ha.1, show ¬ (i : Int) < (i : Int) by omega, if_false]
    exact Ev.const rfl
  | d + 1, i, hd, hi => by
    have h1 := ha.2 i (by omega)
    have hb1 := hb.1
    refine Ev.s ?_
    simp only [spec_l1Mul.l0, ha.1, hb1, mulL_length, show (i : Int) < (n : Int) by omega, show (0 : Int) ≤ (i : Int) by omega, h1.1, h1.2, show i < 17592186044416 by omega, if_true]
    rw [w64n (by omega)]
    exact specMul_run n hn a b ha hb d (i + 1) (by omega) (by omega)
theorem specMul_ev (n : Nat) (hn : n ≤ 1048576) (a b : List Int) (ha : inR n a) (hb : inR n b) : Ev (fun k => spec_l1Mul.f k a b) (mulL a b n) := by
  unfold spec_l1Mul.f
  exact specMul_run n hn a b ha hb n 0 (by omega) (by omega)
theorem implMul_run (n : Nat) (hn : n ≤ 1048576) (a b : List Int) (ha : inR n a) (hb : inR n b) : ∀ (d i : Nat) (l : List Int), n - i = d → i ≤ n → l.length = n → l.take i = mulL a b i → Ev (fun k => impl_mul.l0 k b l a n i) (mulL a b n)
  | 0, i, l, hd, hi, hl, ht => by
    have : i = n := by omega
    subst this
    refine Ev.s ?_
    simp only [impl_mul.l0, show ¬ (i : Int) < (i : Int) by omega, if_false]
    rw [List.take_of_length_le (by omega)] at ht
    exact Ev.const (by rw [ht])
  | d + 1, i, l, hd, hi, hl, ht => by
    have h1 := ha.2 i (by omega)
    have hb1 := hb.1
    refine Ev.s ?_
    simp only [impl_mul.l0, ha.1, hb1, hl, show (i : Int) < (n : Int) by omega, show (0 : Int) ≤ (i : Int) by omega, h1.1, h1.2, if_true, Int.toNat_natCast]
    rw [w64n (by omega)]
    refine implMul_run n hn a b ha hb d (i + 1) _ (by omega) (by omega) (by simpa using hl) ?_
    rw [take_set_one _ _ _ (by omega), ht]
    rfl
theorem implMul_ev (n : Nat) (hn : n ≤ 1048576) (a b : List Int) (ha : inR n a) (hb : inR n b) : Ev (fun k => impl_mul.f k a b) (mulL a b n) := by
  unfold impl_mul.f
  have h1 : n ≤ 35184372088832 := by omega
  have h2 : (0 : Int) ≤ (n : Int) := by omega
  simp only [ha.1, Int.toNat_natCast, h1, h2, if_true]
  exact implMul_run n hn a b ha hb n 0 _ (by omega) (by omega) (by simp) (by simp [mulL])
def backL (p : List Int) (n : Nat) : Nat → List Int
  | 0 => List.replicate n 0
  | i + 1 => (backL p n i).set (rd p i).toNat i
theorem backL_length (p : List Int) (n : Nat) : ∀ i, (backL p n i).length = n
  | 0 => by simp [backL]
  | i + 1 => by simp [backL, backL_length p n i]
theorem backL_range (p : List Int) (n : Nat) : ∀ (i : Nat), i ≤ n → ∀ j : Nat, j < n → 0 ≤ rd (backL p n i) j ∧ rd (backL p n i) j < n
  | 0, _, j, hj => by
    have : rd (backL p n 0) j = 0 := by
      rw [rd_lt _ j (by simp [backL]; exact hj)]
      simp [backL]
    omega
  | i + 1, hi, j, hj => by
    have ih := backL_range p n i (by omega) j hj
    simp only [backL]
    by_cases e : (rd p i).toNat = j
    · subst e
      rw [rd_set_self _ _ _ (by rw [backL_length]; exact hj)]
      omega
    · rw [rd_set_ne _ _ _ _ e]
      exact ih
theorem backL_inR (p : List Int) (n : Nat) : inR n (backL p n n) := ⟨backL_length p n n, backL_range p n n (Nat.le_refl _)⟩
theorem backL_rd (p : List Int) (n : Nat) (hp : inR n p) (inj : ∀ i j : Nat, i < n → j < n → rd p i = rd p j → i = j) : ∀ (i : Nat), i ≤ n → ∀ j : Nat, j < i → rd (backL p n i) (rd p j) = j
  | i + 1, hi, j, hj => by
    have hpj := hp.2 j (by omega)
    have hpi := hp.2 i (by omega)
    simp only [backL]
    by_cases e : j = i
    · subst e
      have h2 := rd_set_self (backL p n j) (rd p j).toNat j (by rw [backL_length]; omega)
      rwa [show ((rd p j).toNat : Int) = rd p j by omega] at h2
    · have hne : (rd p i).toNat ≠ (rd p j).toNat := fun h => e (inj j i (by omega) (by omega) (by omega))
      have h2 := rd_set_ne (backL p n i) (rd p i).toNat (rd p j).toNat i hne
      rw [show ((rd p j).toNat : Int) = rd p j by omega] at h2
      rw [h2]
      exact backL_rd p n hp inj i (by omega) j (by omega)
theorem specBack_run (n : Nat) (hn : n ≤ 1048576) (p : List Int) (hp : inR n p) : ∀ (d i : Nat), n - i = d → i ≤ n → Ev (fun k => spec_l1Back.l0 k p (backL p n i) i) (backL p n n)
  | 0, i, hd, hi => by
    have : i = n := by omega
    subst this
    refine Ev.s ?_
    simp only [spec_l1Back.l0, hp.1, show ¬ (i : Int) < (i : Int) by omega, if_false]
    exact Ev.const rfl
  | d + 1, i, hd, hi => by
    have h1 := hp.2 i (by omega)
    refine Ev.s ?_
    simp only [spec_l1Back.l0, hp.1, backL_length, show (i : Int) < (n : Int) by omega, show (0 : Int) ≤ (i : Int) by omega, h1.1, h1.2, if_true]
    rw [w64n (by omega)]
    exact specBack_run n hn p hp d (i + 1) (by omega) (by omega)
theorem specBack_ev (n : Nat) (hn : n ≤ 1048576) (p : List Int) (hp : inR n p) : Ev (fun k => spec_l1Back.f k p) (backL p n n) := by
  unfold spec_l1Back.f
  have h1 : n ≤ 35184372088832 := by omega
  have h2 : (0 : Int) ≤ (n : Int) := by omega
  simp only [hp.1, Int.toNat_natCast, h1, h2, if_true]
  exact specBack_run n hn p hp n 0 (by omega) (by omega)
theorem implBack_run (n : Nat) (hn : n ≤ 1048576) (p : List Int) (hp : inR n p) : ∀ (d i : Nat), n - i = d → i ≤ n → Ev (fun k => impl_back.l0 k (backL p n i) p n i) (backL p n n)
  | 0, i, hd, hi => by
    have : i = n := by omega
    subst this
    refine Ev.s ?_
    simp only [impl_back.l0, show ¬ (i : Int) < (i : Int) by omega, if_false]
    exact Ev.const rfl
  | d + 1, i, hd, hi => by
    have h1 := hp.2 i (by omega)
    refine Ev.s ?_
    simp only [impl_back.l0, hp.1, backL_length, show (i : Int) < (n : Int) by omega, show (0 : Int) ≤ (i : Int) by omega, h1.1, h1.2, if_true]
    rw [w64n (by omega)]
    exact implBack_run n hn p hp d (i + 1) (by omega) (by omega)
theorem implBack_ev (n : Nat) (hn : n ≤ 1048576) (p : List Int) (hp : inR n p) : Ev (fun k => impl_back.f k p) (backL p n n) := by
  unfold impl_back.f
  have h1 : n ≤ 35184372088832 := by omega
  have h2 : (0 : Int) ≤ (n : Int) := by omega
  simp only [hp.1, Int.toNat_natCast, h1, h2, if_true]
  exact implBack_run n hn p hp n 0 (by omega) (by omega)
def tqT (a b : List Int) : Nat → List Int
  | 0 => []
  | i + 1 => tqT a b i ++ [2 * rd a i, 2 * rd b i + 1]
def tqF : Nat → List Int
  | 0 => []
  | i + 1 => tqF i ++ [2 * (i : Int) + 1, 2 * (i : Int)]
theorem tqT_length (a b : List Int) : ∀ n, (tqT a b n).length = 2 * n
  | 0 => rfl
  | n + 1 => by simp [tqT, tqT_length a b n]; omega
theorem tqF_length : ∀ n, (tqF n).length = 2 * n
  | 0 => rfl
  | n + 1 => by simp [tqF, tqF_length n]; omega
theorem flip_run (n : Nat) (hn : n ≤ 1048576) : ∀ (d i : Nat), n - i = d → i ≤ n → Ev (fun k => spec_l3Flip.l0 k n (tqF i) i) (tqF n)
  | 0, i, hd, hi => by
    have : i = n := by omega
    subst this
    refine Ev.s ?_
    simp only [spec_l3Flip.l0, show ¬ (i : Int) < (i : Int) by omega, if_false]
    exact Ev.const rfl
  | d + 1, i, hd, hi => by
    refine Ev.s ?_
    have e1 : wrap64 (2 * (i : Int)) = 2 * (i : Int) := w64 (by omega) (by omega)
    have e2 : wrap64 (2 * (i : Int) + 1) = 2 * (i : Int) + 1 := w64 (by omega) (by omega)
    simp only [spec_l3Flip.l0, show (i : Int) < (n : Int) by omega, if_true, Option.bind_some, e1, e2, tqF_length, List.length_cons, List.length_nil, show 2 * i + (0 + 1 + 1) < 17592186044416 by omega]
    rw [w64n (by omega)]
    exact flip_run n hn d (i + 1) (by omega) (by omega)
theorem flip_ev (n : Nat) (hn : n ≤ 1048576) : Ev (fun k => spec_l3Flip.f k n) (tqF n) := by
  unfold spec_l3Flip.f
  exact flip_run n hn n 0 (by omega) (by omega)
theorem specTutte_run (n : Nat) (hn : n ≤ 12) (t f b F : List Int) (ht : inR n t) (hb : inR n b) : ∀ (d i : Nat), n - i = d → i ≤ n → Ev (fun k => spec_TutteQuad.l0 k b i t f (tqT t b i) F) (tqT t b n, F, true)
  | 0, i, hd, hi => by
    have : i = n := by omega
    subst this
    refine Ev.s ?_
    simp only [spec_TutteQuad.l0, ht.1, show ¬ (i : Int) < (i : Int) by omega, if_false]
    exact Ev.const rfl
  | d + 1, i, hd, hi => by
    have h1 := ht.2 i (by omega)
    have h2 := hb.2 i (by omega)
    refine Ev.s ?_
    have e1 : wrap64 (2 * rd t i) = 2 * rd t i := w64 (by omega) (by omega)
    have e2 : wrap64 (2 * rd b i) = 2 * rd b i := w64 (by omega) (by omega)
    have e3 : wrap64 (2 * rd b i + 1) = 2 * rd b i + 1 := w64 (by omega) (by omega)
    have hi' : (i : Int) < (n : Int) := by omega
    have h0 : (0 : Int) ≤ (i : Int) := by omega
    have hz : 2 * i + (0 + 1 + 1) < 17592186044416 := by omega
    simp only [spec_TutteQuad.l0, ht.1, hb.1, hi', h0, if_true, Option.bind_some, e1, e2, e3, tqT_length, List.length_cons, List.length_nil, hz]
    rw [w64n (by omega)]
    exact specTutte_run n hn t f b F ht hb d (i + 1) (by omega) (by omega)
theorem two_sets (l m : List Int) (i : Nat) (x y : Int) (hl : 2 * i + 1 < l.length) (h : l.take (2 * i) = m) : ((l.set (2 * i) x).set (2 * i + 1) y).take (2 * (i + 1)) = m ++ [x, y] := by
  rw [show 2 * (i + 1) = 2 * i + 1 + 1 by omega, take_set_one _ _ _ (by simpa using hl), take_set_one _ _ _ (by omega), h]
  simp
theorem implTutte_run (n : Nat) (hn : n ≤ 12) (t f b : List Int) (ht : inR n t) (hb : inR n b) : ∀ (d i : Nat) (T F : List Int), n - i = d → i ≤ n → T.length = 2 * n → F.length = 2 * n → T.take (2 * i) = tqT t b i → F.take (2 * i) = tqF i →
    Ev (fun k => impl_TutteQuad.l0 k b n i t f T F) (tqT t b n, tqF n, true)
  | 0, i, T, F, hd, hi, hT, hF, tT, tF => by
    have : i = n := by omega
    subst this
    refine Ev.s ?_
    simp only [impl_TutteQuad.l0, show ¬ (i : Int) < (i : Int) by omega, if_false]
    rw [List.take_of_length_le (by omega)] at tT tF
    exact Ev.const (by rw [tT, tF])
  | d + 1, i, T, F, hd, hi, hT, hF, tT, tF => by
    have h1 := ht.2 i (by omega)
    have h2 := hb.2 i (by omega)
    refine Ev.s ?_
    have e1 : wrap64 (2 * rd t i) = 2 * rd t i := w64 (by omega) (by omega)
    have e2 : wrap64 (2 * rd b i) = 2 * rd b i := w64 (by omega) (by omega)
    have e3 : wrap64 (2 * rd b i + 1) = 2 * rd b i + 1 := w64 (by omega) (by omega)
    have e4 : wrap64 (2 * (i : Int)) = 2 * (i : Int) := w64 (by omega) (by omega)
    have e5 : wrap64 (2 * (i : Int) + 1) = 2 * (i : Int) + 1 := w64 (by omega) (by omega)
    have hi' : (i : Int) < (n : Int) := by omega
    have h0 : (0 : Int) ≤ (i : Int) := by omega
    have g1 : (0 : Int) ≤ 2 * (i : Int) := by omega
    have g2 : 2 * (i : Int) < ((2 * n : Nat) : Int) := by omega
    have g3 : (0 : Int) ≤ 2 * (i : Int) + 1 := by omega
    have g4 : 2 * (i : Int) + 1 < ((2 * n : Nat) : Int) := by omega
    have n1 : (2 * (i : Int)).toNat = 2 * i := by omega
    have n2 : (2 * (i : Int) + 1).toNat = 2 * i + 1 := by omega
    simp only [impl_TutteQuad.l0, ht.1, hb.1, hT, hF, hi', h0, e1, e2, e3, e4, e5, g1, g2, g3, g4, if_true, n1, n2]
    rw [w64n (by omega)]
    exact implTutte_run n hn t f b ht hb d (i + 1) _ _ (by omega) (by omega) (by simpa using hT) (by simpa using hF) (two_sets _ _ _ _ _ (by omega) tT) (two_sets _ _ _ _ _ (by omega) tF)
theorem tutteQuad_both (t f : List Int) (ht : t.length ≤ 1048576) (hf : f.length ≤ 1048576) : ∃ (T F : List Int) (b : Bool), Ev (fun k => spec_TutteQuad.f k t f) (T, F, b) ∧ Ev (fun k => impl_TutteQuad.f k t f) (T, F, b) ∧ T.length ≤ 12 ∧ F.length ≤ 12 := by
  obtain ⟨b, b1, b2, b3⟩ := mapValid_both t f ht hf
  have hno : Ev (fun k => spec_TutteQuad.j0 k true t f) ([], [], false) := Ev.s (by simp only [spec_TutteQuad.j0, if_true]; exact Ev.const rfl)
  have hno' : Ev (fun k => impl_TutteQuad.j0 k true t f) ([], [], false) := Ev.s (by simp only [impl_TutteQuad.j0, if_true]; exact Ev.const rfl)
  unfold spec_TutteQuad.f impl_TutteQuad.f
  cases b with
  | false => exact ⟨[], [], false, Ev.bind b1 (by simp only [Bool.false_eq_true, if_false]; exact hno), Ev.bind b2 (by simp only [Bool.false_eq_true, if_false]; exact hno'), by simp, by simp⟩
  | true =>
    obtain ⟨pt, pf, hlen, -, -⟩ := b3.1 rfl
    by_cases h6 : (t.length : Int) > 6
    · refine ⟨[], [], false, Ev.bind b1 ?_, Ev.bind b2 ?_, by simp, by simp⟩
      · simp only [if_true, decide_eq_true h6]; exact hno
      · simp only [if_true, decide_eq_true h6]; exact hno'
    · have hrt : inR t.length t := isPerm_inR t pt
      have hrf : inR t.length f := by have := isPerm_inR f pf; rwa [← hlen] at this
      have hn : t.length ≤ 6 := by omega
      have hm := mulL_inR t.length f t hrf hrt
      have hb := backL_inR (mulL f t t.length) t.length
      refine ⟨tqT t (backL (mulL f t t.length) t.length t.length) t.length, tqF t.length, true, Ev.bind b1 ?_, Ev.bind b2 ?_, by rw [tqT_length]; omega, by rw [tqF_length]; omega⟩
      · simp only [if_true, decide_eq_false h6]
        refine Ev.s ?_
        simp only [spec_TutteQuad.j0, Bool.false_eq_true, if_false]
        have hfaces : Ev (fun k => spec_l2Faces.f k t f) (mulL f t t.length) := by
          unfold spec_l2Faces.f
          exact Ev.bind (specMul_ev t.length (by omega) f t hrf hrt) (Ev.const rfl)
        refine Ev.bind hfaces ?_
        refine Ev.bind (specBack_ev t.length (by omega) _ hm) ?_
        refine Ev.bind (flip_ev t.length (by omega)) ?_
        exact specTutte_run t.length (by omega) t f _ _ hrt hb t.length 0 (by omega) (by omega)
      · simp only [if_true, decide_eq_false h6]
        refine Ev.s ?_
        simp only [impl_TutteQuad.j0, Bool.false_eq_true, if_false]
        refine Ev.bind (implMul_ev t.length (by omega) f t hrf hrt) ?_
        refine Ev.bind (implBack_ev t.length (by omega) _ hm) ?_
        have e1 : wrap64 (2 * (t.length : Int)) = 2 * (t.length : Int) := w64 (by omega) (by omega)
        have n1 : (2 * (t.length : Int)).toNat = 2 * t.length := by omega
        have g1 : (0 : Int) ≤ 2 * (t.length : Int) := by omega
        have g2 : 2 * t.length ≤ 35184372088832 := by omega
        simp only [e1, n1, g1, g2, if_true]
        exact implTutte_run t.length (by omega) t f _ hrt hb t.length 0 (List.replicate (2 * t.length) 0) (List.replicate (2 * t.length) 0) (by omega) (by omega) (by simp) (by simp) rfl rfl
theorem len_le_of_sub : ∀ (a b : List Nat), a.Nodup → (∀ x ∈ a, x ∈ b) → a.length ≤ b.length
  | [], b, _, _ => Nat.zero_le _
  | x :: a, b, hn, h => by
    have hx := h x (by simp)
    obtain ⟨hxa, hna⟩ := List.nodup_cons.1 hn
    have ih := len_le_of_sub a (b.erase x) hna fun y hy => (List.mem_erase_of_ne (by rintro rfl; exact hxa hy)).2 (h y (by simp [hy]))
    rw [List.length_erase_of_mem hx] at ih
    have := List.length_pos_of_mem hx
    simp only [List.length_cons]
    omega
def itr (t : List Int) : Nat → Int → Int
  | 0, x => x
  | k + 1, x => itr t k (rd t x)
theorem itr_in (t : List Int) (n : Nat) (ht : inR n t) : ∀ (k : Nat) (x : Int), 0 ≤ x ∧ x < n → 0 ≤ itr t k x ∧ itr t k x < n
  | 0, x, h => h
  | k + 1, x, h => by
    have := ht.2 x.toNat (by omega)
    rw [show ((x.toNat : Nat) : Int) = x by omega] at this
    exact itr_in t n ht k _ this
theorem itr_add (t : List Int) : ∀ (a b : Nat) (x : Int), itr t (a + b) x = itr t b (itr t a x)
  | 0, b, x => by rw [Nat.zero_add]; rfl
  | a + 1, b, x => by
    rw [show a + 1 + b = (a + b) + 1 by omega]
    exact itr_add t a b _
def injR (n : Nat) (t : List Int) : Prop := ∀ i j : Nat, i < n → j < n → rd t i = rd t j → i = j
theorem itr_inj (t : List Int) (n : Nat) (ht : inR n t) (hi : injR n t) : ∀ (k : Nat) (x y : Int), 0 ≤ x ∧ x < n → 0 ≤ y ∧ y < n → itr t k x = itr t k y → x = y
  | 0, x, y, _, _, h => h
  | k + 1, x, y, hx, hy, h => by
    have a1 := ht.2 x.toNat (by omega)
    have a2 := ht.2 y.toNat (by omega)
    have ex : ((x.toNat : Nat) : Int) = x := by omega
    have ey : ((y.toNat : Nat) : Int) = y := by omega
    rw [ex] at a1
    rw [ey] at a2
    have h1 := itr_inj t n ht hi k _ _ a1 a2 h
    have := hi x.toNat y.toNat (by omega) (by omega) (by rw [ex, ey]; exact h1)
    omega
theorem itr_back (t : List Int) (n : Nat) (ht : inR n t) (hi : injR n t) (x : Int) (hx : 0 ≤ x ∧ x < n) : ∃ k : Nat, k < n ∧ itr t (k + 1) x = x := by
  by_cases h : ∃ i j : Nat, i < j ∧ j ≤ n ∧ itr t i x = itr t j x
  · obtain ⟨i, j, h1, h2, h3⟩ := h
    refine ⟨j - i - 1, by omega, ?_⟩
    have e : itr t j x = itr t i (itr t (j - i - 1 + 1) x) := by rw [← itr_add, show j - i - 1 + 1 + i = j by omega]
    rw [e] at h3
    exact (itr_inj t n ht hi i _ _ hx (itr_in t n ht _ x hx) h3).symm
  · exfalso
    have h1 := len_le_of_sub ((List.range (n + 1)).map fun i => (itr t i x).toNat) (List.range n) ?_ ?_
    · rw [List.length_map, List.length_range, List.length_range] at h1
      omega
    · rw [List.Nodup, List.pairwise_map]
      refine List.Pairwise.imp_of_mem ?_ (List.pairwise_lt_range (n := n + 1))
      intro a b ha hb hab e
      have ia := itr_in t n ht a x hx
      have ib := itr_in t n ht b x hx
      exact h ⟨a, b, hab, by have := List.mem_range.1 hb; omega, by omega⟩
    · intro y hy
      obtain ⟨a, ha, rfl⟩ := List.mem_map.1 hy
      have ia := itr_in t n ht a x hx
      exact List.mem_range.2 (by omega)
def Cnt (n : Nat) (P : Nat → Prop) (k : Nat) : Prop := ∃ L : List Nat, L.Nodup ∧ (∀ x, x ∈ L ↔ x < n ∧ P x) ∧ L.length = k
theorem Cnt.ex (P : Nat → Prop) : ∀ n, ∃ k, Cnt n P k ∧ k ≤ n
  | 0 => ⟨0, ⟨[], List.nodup_nil, by simp, rfl⟩, Nat.le_refl _⟩
  | n + 1 => by
    obtain ⟨k, ⟨L, h1, h2, h3⟩, hk⟩ := Cnt.ex P n
    by_cases h : P n
    · refine ⟨k + 1, ⟨n :: L, List.nodup_cons.2 ⟨fun z => by have := ((h2 n).1 z).1; omega, h1⟩, fun x => ?_, by simp [h3]⟩, by omega⟩
      rw [List.mem_cons, h2]
      constructor
      · rintro (rfl | ⟨a, b⟩)
        · exact ⟨by omega, h⟩
        · exact ⟨by omega, b⟩
      · rintro ⟨a, b⟩
        by_cases e : x = n
        · exact .inl e
        · exact .inr ⟨by omega, b⟩
    · refine ⟨k, ⟨L, h1, fun x => ?_, h3⟩, by omega⟩
      rw [h2]
      constructor
      · rintro ⟨a, b⟩; exact ⟨by omega, b⟩
      · rintro ⟨a, b⟩
        by_cases e : x = n
        · exact absurd (e ▸ b) h
        · exact ⟨by omega, b⟩
theorem Cnt.le {n : Nat} {P Q : Nat → Prop} {k l : Nat} (hp : Cnt n P k) (hq : Cnt n Q l) (g : Nat → Nat) (hg : ∀ x, x < n → P x → g x < n ∧ Q (g x)) (hi : ∀ x y, x < n → P x → y < n → P y → g x = g y → x = y) : k ≤ l := by
  obtain ⟨L, h1, h2, rfl⟩ := hp
  obtain ⟨M, m1, m2, rfl⟩ := hq
  rw [← List.length_map (f := g)]
  refine len_le_of_sub _ _ ?_ ?_
  · rw [List.Nodup, List.pairwise_map]
    refine List.Pairwise.imp_of_mem ?_ h1
    intro a b ha hb hab e
    exact hab (hi a b ((h2 a).1 ha).1 ((h2 a).1 ha).2 ((h2 b).1 hb).1 ((h2 b).1 hb).2 e)
  · intro y hy
    obtain ⟨a, ha, rfl⟩ := List.mem_map.1 hy
    exact (m2 _).2 (hg a ((h2 a).1 ha).1 ((h2 a).1 ha).2)
theorem Cnt.sub {n : Nat} {P Q : Nat → Prop} {k l : Nat} (hp : Cnt n P k) (hq : Cnt n Q l) (h : ∀ x, x < n → P x → Q x) : k ≤ l :=
  hp.le hq (fun x => x) (fun x hx px => ⟨hx, h x hx px⟩) (fun _ _ _ _ _ _ e => e)
theorem Cnt.same {n : Nat} {P Q : Nat → Prop} {k l : Nat} (hp : Cnt n P k) (hq : Cnt n Q l) (h : ∀ x, x < n → (P x ↔ Q x)) : k = l :=
  Nat.le_antisymm (hp.sub hq fun x hx => (h x hx).1) (hq.sub hp fun x hx => (h x hx).2)
theorem Cnt.congr {n : Nat} {P Q : Nat → Prop} {k : Nat} (hp : Cnt n P k) (h : ∀ x, x < n → (P x ↔ Q x)) : Cnt n Q k := by
  obtain ⟨L, h1, h2, h3⟩ := hp
  exact ⟨L, h1, fun x => by rw [h2]; exact ⟨fun z => ⟨z.1, (h x z.1).1 z.2⟩, fun z => ⟨z.1, (h x z.1).2 z.2⟩⟩, h3⟩
theorem Cnt.reps {n : Nat} {P Q : Nat → Prop} {k l : Nat} (R : Nat → Nat → Prop) (hs : ∀ x y, R x y → R y x) (ht : ∀ x y z, R x y → R y z → R x z) (hp : Cnt n P k) (hq : Cnt n Q l)
    (h : ∀ x, x < n → P x → ∃ y, y < n ∧ Q y ∧ R x y) (hu : ∀ x y, x < n → P x → y < n → P y → R x y → x = y) : k ≤ l := by
  classical
  refine hp.le hq (fun x => if hx : x < n ∧ P x then Classical.choose (h x hx.1 hx.2) else 0) (fun x hx px => ?_) (fun x y hx px hy py e => ?_)
  · rw [dif_pos ⟨hx, px⟩]
    have := Classical.choose_spec (h x hx px)
    exact ⟨this.1, this.2.1⟩
  · rw [dif_pos ⟨hx, px⟩, dif_pos ⟨hy, py⟩] at e
    have h1 := (Classical.choose_spec (h x hx px)).2.2
    have h2 := (Classical.choose_spec (h y hy py)).2.2
    rw [e] at h1
    exact hu x y hx px hy py (ht _ _ _ h1 (hs _ _ h2))
theorem Cnt.drop {n : Nat} {P Q : Nat → Prop} {k : Nat} (hp : Cnt n P k) (z : Nat) (hz : z < n) (pz : P z) (h : ∀ x, x < n → (Q x ↔ P x ∧ x ≠ z)) : 1 ≤ k ∧ Cnt n Q (k - 1) := by
  obtain ⟨L, h1, h2, rfl⟩ := hp
  have hm : z ∈ L := (h2 z).2 ⟨hz, pz⟩
  have := List.length_pos_of_mem hm
  refine ⟨this, L.erase z, h1.erase z, fun x => ?_, List.length_erase_of_mem hm⟩
  rw [h1.mem_erase_iff, h2]
  constructor
  · rintro ⟨a, b, c⟩; exact ⟨b, (h x b).2 ⟨c, a⟩⟩
  · rintro ⟨a, b⟩; have := (h x a).1 b; exact ⟨this.2, a, this.1⟩
def lst (R : Nat → Nat → Prop) (j : Nat) : Prop := ∀ i, i < j → ¬ R i j
def Cl (n : Nat) (R : Nat → Nat → Prop) (k : Nat) : Prop := Cnt n (lst R) k
theorem lst_ex (R : Nat → Nat → Prop) (hr : ∀ x, R x x) (hs : ∀ x y, R x y → R y x) (ht : ∀ x y z, R x y → R y z → R x z) : ∀ x, ∃ y, y ≤ x ∧ lst R y ∧ R y x := by
  intro x
  induction x using Nat.strongRecOn with
  | ind x ih =>
    by_cases h : ∃ i, i < x ∧ R i x
    · obtain ⟨i, hi, hri⟩ := h
      obtain ⟨y, y1, y2, y3⟩ := ih i hi
      exact ⟨y, by omega, y2, ht _ _ _ y3 hri⟩
    · exact ⟨x, Nat.le_refl _, fun i hi hri => h ⟨i, hi, hri⟩, hr x⟩
theorem closed_of_fwd (p : List Int) (n : Nat) (hp : inR n p) (hi : injR n p) (S : Nat → Prop) (h : ∀ k, k < n → S k → S (rd p k).toNat) : closedL [p] n S := by
  intro q hq k hk
  have e : q = p := by simpa using hq
  subst e
  refine ⟨h k hk, fun hs => ?_⟩
  obtain ⟨m, h1, h2⟩ := itr_back q n hp hi k (by omega)
  have g : ∀ (j : Nat) (x : Int), 0 ≤ x ∧ x < n → S x.toNat → S (itr q j x).toNat := by
    intro j
    induction j with
    | zero => intro x _ h; exact h
    | succ j ih =>
      intro x hx hsx
      have := hp.2 x.toNat (by omega)
      have e := h x.toNat (by omega) hsx
      rw [show ((x.toNat : Nat) : Int) = x by omega] at this e
      exact ih _ this e
  have := g m (rd q k) (hp.2 k hk) hs
  rw [show itr q m (rd q k) = itr q (m + 1) k from rfl, h2] at this
  simpa using this
def Exch (n : Nat) (p q : List Int) (a b : Nat) : Prop := a < n ∧ b < n ∧ a ≠ b ∧ rd q a = rd p b ∧ rd q b = rd p a ∧ ∀ x : Nat, x < n → x ≠ a → x ≠ b → rd q x = rd p x
theorem Exch.symm {n : Nat} {p q : List Int} {a b : Nat} (h : Exch n p q a b) : Exch n q p a b := ⟨h.1, h.2.1, h.2.2.1, h.2.2.2.2.1.symm, h.2.2.2.1.symm, fun x hx h1 h2 => (h.2.2.2.2.2 x hx h1 h2).symm⟩
theorem Cl.ex (n : Nat) (R : Nat → Nat → Prop) : ∃ k, Cl n R k ∧ k ≤ n := Cnt.ex _ n
theorem Cl.uniq {n : Nat} {R : Nat → Nat → Prop} {k l : Nat} (h : Cl n R k) (h' : Cl n R l) : k = l := Cnt.same h h' fun _ _ => Iff.rfl
def MapK (t f : List Int) (n : Nat) : Prop := n ≤ 12 ∧ 1 ≤ n ∧ inR n t ∧ injR n t ∧ inR n f ∧ (∀ i : Nat, i < n → flipAt f i) ∧ ∀ i j : Nat, i < n → j < n → Reach [t, f] n i j
def FarOk (t f : List Int) (n a : Nat) (g : List Int)  : Prop := (g.length = n) ∧ (∀ x : Nat, x < n → 0 ≤ rd g x ∧ rd g x < n) ∧ (rd g a = 0) ∧ (∀ x : Nat, x < n → rd g (rd t x) = rd g x) ∧ (∀ x : Nat, x < n → rd g x ≤ rd g (rd f x) + 1) ∧ (∀ x : Nat, x < n → rd g x = 0 → Reach [t] n x a) ∧ (∀ x : Nat, x < n → 0 < rd g x → ∃ y : Nat, y < n ∧ Reach [t] n y x ∧ rd g (rd f y) + 1 = rd g x)
theorem FarOk.len {t f : List Int} {n a : Nat} {g : List Int}  (h : FarOk t f n a g) : g.length = n := h.1
theorem FarOk.rng {t f : List Int} {n a : Nat} {g : List Int}  (h : FarOk t f n a g) : ∀ x : Nat, x < n → 0 ≤ rd g x ∧ rd g x < n := h.2.1
theorem FarOk.start {t f : List Int} {n a : Nat} {g : List Int}  (h : FarOk t f n a g) : rd g a = 0 := h.2.2.1
theorem FarOk.turn {t f : List Int} {n a : Nat} {g : List Int}  (h : FarOk t f n a g) : ∀ x : Nat, x < n → rd g (rd t x) = rd g x := h.2.2.2.1
theorem FarOk.flip {t f : List Int} {n a : Nat} {g : List Int}  (h : FarOk t f n a g) : ∀ x : Nat, x < n → rd g x ≤ rd g (rd f x) + 1 := h.2.2.2.2.1
theorem FarOk.zero {t f : List Int} {n a : Nat} {g : List Int}  (h : FarOk t f n a g) : ∀ x : Nat, x < n → rd g x = 0 → Reach [t] n x a := h.2.2.2.2.2.1
theorem FarOk.back {t f : List Int} {n a : Nat} {g : List Int}  (h : FarOk t f n a g) : ∀ x : Nat, x < n → 0 < rd g x → ∃ y : Nat, y < n ∧ Reach [t] n y x ∧ rd g (rd f y) + 1 = rd g x := h.2.2.2.2.2.2
theorem reach_const {t : List Int} {n : Nat} (ht : inR n t) (hi : injR n t) (g : List Int) (h : ∀ x : Nat, x < n → rd g (rd t x) = rd g x) {x y : Nat} (hr : Reach [t] n x y) : rd g x = rd g y := by
  have hc : closedL [t] n (fun z => rd g z = rd g y) := closed_of_fwd t n ht hi _ fun k hk e => by
    have h1 := ht.2 k hk
    have h2 := h k hk
    rw [show ((rd t k).toNat : Int) = rd t k by omega]
    exact h2.trans e
  exact (hr _ hc).2 rfl
theorem rd_put (l : List Int) (i j : Nat) (v : Int) (h : i < l.length) : rd (l.set i v) j = if j = i then v else rd l j := by
  by_cases e : j = i
  · subst e; rw [if_pos rfl, rd_set_self _ _ _ h]
  · rw [if_neg e, rd_set_ne _ _ _ _ (fun z => e z.symm)]
theorem rd_rep (n : Nat) (v : Int) (z : Nat) (h : z < n) : rd (List.replicate n v) z = v := by
  unfold rd; rw [Int.toNat_natCast, List.getD_eq_getElem?_getD, List.getElem?_replicate, if_pos h]; rfl
theorem lag_rep_lt (ys : List Int) (n c : Nat) (v : Int) (hl : ys.length = n) (hc : c < n) (hne : rd ys c ≠ v) : lag (ys.set c v) (List.replicate n v) n < lag ys (List.replicate n v) n := by
  refine lag_lt ys (ys.set c v) (List.replicate n v) (fun i h => ?_) c ?_ ?_ n hc
  · rw [rd_put _ _ _ _ (by omega)]
    by_cases e : i = c
    · rw [if_pos e, e, rd_rep n v c hc]
    · rw [if_neg e]; exact h
  · rw [rd_rep n v c hc]; exact hne
  · rw [rd_rep n v c hc, rd_put _ _ _ _ (by omega), if_pos rfl]
theorem at_run (t : List Int) (n : Nat) (hn : n ≤ 12) (ht : inR n t) (hi : injR n t) (v : Int) (hv : 0 ≤ v) (d : Nat) (xs : List Int) (hneg : ∀ z : Nat, z < n → Reach [t] n d z → rd xs z < 0) :
    ∀ (m : Nat) (ys : List Int) (c : Nat) (S : Nat → Prop), lag ys (List.replicate n v) n ≤ m → ys.length = n → c < n → Reach [t] n d c →
      (∀ z : Nat, z < n → S z → rd ys z = v ∧ Reach [t] n d z ∧ (S (rd t z).toNat ∨ rd t z = c)) → (∀ z : Nat, z < n → ¬ S z → rd ys z = rd xs z) → (S d ∨ c = d) →
      ∃ r, Ev (fun k => dfar.at k t v ys c) r ∧ r.length = n ∧ ∀ z : Nat, z < n → (Reach [t] n d z → rd r z = v) ∧ (¬ Reach [t] n d z → rd r z = rd xs z) := by
  intro m
  induction m with
  | zero =>
    intro ys c S hm hl hc hr hS hN hd
    have hnn : ¬ rd ys c < 0 := by
      have h0 := lag_zero ys (List.replicate n v) n (by omega) c hc
      rw [h0, rd_rep n v c hc]; omega
    have hSc : S c := Classical.byContradiction fun z => by
      have h1 := hN c hc z
      have h2 := hneg c hc hr
      omega
    have hcl : closedL [t] n S := closed_of_fwd t n ht hi S fun k hk hk' => by
      rcases (hS k hk hk').2.2 with e | e
      · exact e
      · rw [e, Int.toNat_natCast]; exact hSc
    have hSd : S d := by rcases hd with e | e; exact e; rw [← e]; exact hSc
    refine ⟨ys, Ev.s ?_, hl, fun z hz => ⟨fun h => (hS z hz ((h S hcl).1 hSd)).1, fun h => hN z hz fun hs => h (hS z hz hs).2.1⟩⟩
    simp only [dfar.at, hl, show (0 : Int) ≤ (c : Int) by omega, show (c : Int) < (n : Int) by omega, hnn, if_true, if_false]
    exact Ev.const rfl
  | succ m ih =>
    intro ys c S hm hl hc hr hS hN hd
    by_cases hneg' : rd ys c < 0
    · have hSc : ¬ S c := fun z => by
        have := (hS c hc z).1
        omega
      have htc := ht.2 c hc
      obtain ⟨c', hc'⟩ : ∃ c' : Nat, rd t c = c' := ⟨(rd t c).toNat, by omega⟩
      have hc'n : c' < n := by omega
      have hstep := Reach.step (ps := [t]) (p := t) (by simp) hc
      rw [hc', Int.toNat_natCast] at hstep
      have hlag := lag_rep_lt ys n c v hl hc (by omega)
      obtain ⟨r, e1, e2, e3⟩ := ih (ys.set c v) c' (fun z => S z ∨ z = c) (by omega) (by simp [hl]) hc'n (hr.trans hstep)
        (fun z hz hs => by
          rw [rd_put _ _ _ _ (by omega)]
          by_cases e : z = c
          · subst e; rw [if_pos rfl]; exact ⟨rfl, hr, .inr hc'⟩
          · rw [if_neg e]
            have hs' : S z := hs.resolve_right e
            obtain ⟨s1, s2, s3⟩ := hS z hz hs'
            refine ⟨s1, s2, .inl ?_⟩
            rcases s3 with s3 | s3
            · exact .inl s3
            · rw [s3, Int.toNat_natCast]; exact .inr rfl)
        (fun z hz hs => by
          rw [rd_put _ _ _ _ (by omega), if_neg (fun e => hs (.inr e))]
          exact hN z hz fun e => hs (.inl e))
        (by rcases hd with e | e; exact .inl (.inl e); exact .inl (.inr e.symm))
      refine ⟨r, Ev.s ?_, e2, e3⟩
      simp only [dfar.at, hl, ht.1, show (0 : Int) ≤ (c : Int) by omega, show (c : Int) < (n : Int) by omega, hneg', if_true, Int.toNat_natCast, hc']
      exact e1
    · have hSc : S c := Classical.byContradiction fun z => by
        have h1 := hN c hc z
        have h2 := hneg c hc hr
        omega
      have hcl : closedL [t] n S := closed_of_fwd t n ht hi S fun k hk hk' => by
        rcases (hS k hk hk').2.2 with e | e
        · exact e
        · rw [e, Int.toNat_natCast]; exact hSc
      have hSd : S d := by rcases hd with e | e; exact e; rw [← e]; exact hSc
      refine ⟨ys, Ev.s ?_, hl, fun z hz => ⟨fun h => (hS z hz ((h S hcl).1 hSd)).1, fun h => hN z hz fun hs => h (hS z hz hs).2.1⟩⟩
      simp only [dfar.at, hl, show (0 : Int) ≤ (c : Int) by omega, show (c : Int) < (n : Int) by omega, hneg', if_true, if_false]
      exact Ev.const rfl
def LevI (t f : List Int) (n a : Nat) (xs : List Int) (L : Nat)  : Prop := (xs.length = n) ∧ (∀ x : Nat, x < n → -1 ≤ rd xs x ∧ rd xs x ≤ L) ∧ (rd xs a = 0) ∧ (∀ x : Nat, x < n → rd xs (rd t x) = rd xs x) ∧ (∀ x : Nat, x < n → rd xs x = 0 → Reach [t] n x a) ∧ (∀ x : Nat, x < n → 0 < rd xs x → ∃ y : Nat, y < n ∧ Reach [t] n y x ∧ rd xs (rd f y) + 1 = rd xs x)
theorem LevI.len {t f : List Int} {n a : Nat} {xs : List Int} {L : Nat}  (h : LevI t f n a xs L) : xs.length = n := h.1
theorem LevI.rng {t f : List Int} {n a : Nat} {xs : List Int} {L : Nat}  (h : LevI t f n a xs L) : ∀ x : Nat, x < n → -1 ≤ rd xs x ∧ rd xs x ≤ L := h.2.1
theorem LevI.start {t f : List Int} {n a : Nat} {xs : List Int} {L : Nat}  (h : LevI t f n a xs L) : rd xs a = 0 := h.2.2.1
theorem LevI.turn {t f : List Int} {n a : Nat} {xs : List Int} {L : Nat}  (h : LevI t f n a xs L) : ∀ x : Nat, x < n → rd xs (rd t x) = rd xs x := h.2.2.2.1
theorem LevI.zero {t f : List Int} {n a : Nat} {xs : List Int} {L : Nat}  (h : LevI t f n a xs L) : ∀ x : Nat, x < n → rd xs x = 0 → Reach [t] n x a := h.2.2.2.2.1
theorem LevI.back {t f : List Int} {n a : Nat} {xs : List Int} {L : Nat}  (h : LevI t f n a xs L) : ∀ x : Nat, x < n → 0 < rd xs x → ∃ y : Nat, y < n ∧ Reach [t] n y x ∧ rd xs (rd f y) + 1 = rd xs x := h.2.2.2.2.2
theorem at_lev (t f : List Int) (n : Nat) (hn : n ≤ 12) (ht : inR n t) (hi : injR n t) (hf : inR n f) (a : Nat) (xs : List Int) (L : Nat) (hL : 1 ≤ L) (h : LevI t f n a xs L) (e d : Nat) (he : e < n) (hd : d < n) (hfe : rd f e = d) (hfd : rd f d = e) (hed : rd xs d + 1 = L) :
    ∃ r, Ev (fun k => dfar.at k t (L : Int) xs (e : Int)) r ∧ LevI t f n a r L ∧ 0 ≤ rd r e ∧ (∀ z : Nat, z < n → 0 ≤ rd xs z → rd r z = rd xs z) ∧ ∀ z : Nat, z < n → rd r z = L ∨ rd r z = rd xs z := by
  by_cases hneg : rd xs e < 0
  · have hall : ∀ z : Nat, z < n → Reach [t] n e z → rd xs z < 0 := fun z hz hr => by
      have := reach_const ht hi xs h.turn hr
      omega
    obtain ⟨r, e1, e2, e3⟩ := at_run t n hn ht hi L (by omega) e xs hall _ xs e (fun _ => False) (Nat.le_refl _) h.len he (Reach.refl _ _ _) (fun z _ hs => hs.elim) (fun z _ _ => rfl) (.inr rfl)
    have keep : ∀ z : Nat, z < n → 0 ≤ rd xs z → rd r z = rd xs z := fun z hz h0 => (e3 z hz).2 fun hr => by
      have := hall z hz hr
      omega
    have ha0 := h.start
    have hxl := h.len
    have hxa : ∀ z : Nat, z < n → rd r z = L ∨ rd r z = rd xs z := fun z hz => by
      by_cases hr : Reach [t] n e z
      · exact .inl ((e3 z hz).1 hr)
      · exact .inr ((e3 z hz).2 hr)
    refine ⟨r, e1, ⟨e2, fun x hx => ?_, ?_, fun x hx => ?_, fun x hx h0 => ?_, fun x hx h0 => ?_⟩, ?_, keep, hxa⟩
    · rcases hxa x hx with q | q
      · omega
      · rw [q]; exact h.rng x hx
    · by_cases han : a < n
      · rw [keep a han (by omega)]; exact h.start
      · unfold rd at ha0 ⊢
        rw [Int.toNat_natCast, List.getD_eq_getElem?_getD, List.getElem?_eq_none (by omega)] at ha0 ⊢
        exact ha0
    · have htx := ht.2 x hx
      obtain ⟨c, hc⟩ : ∃ c : Nat, rd t x = c := ⟨(rd t x).toNat, by omega⟩
      have hstep := Reach.step (ps := [t]) (p := t) (by simp) hx
      have htu := h.turn x hx
      rw [hc, Int.toNat_natCast] at hstep
      rw [hc] at htu ⊢
      by_cases hr : Reach [t] n e x
      · rw [(e3 x hx).1 hr, (e3 c (by omega)).1 (hr.trans hstep)]
      · rw [(e3 x hx).2 hr, (e3 c (by omega)).2 (fun q => hr (q.trans hstep.symm))]; exact htu
    · rcases hxa x hx with q | q
      · omega
      · rw [q] at h0; exact h.zero x hx h0
    · by_cases hr : Reach [t] n e x
      · refine ⟨e, he, hr, ?_⟩
        rw [hfe, keep d hd (by omega), (e3 x hx).1 hr]; exact hed
      · have q := (e3 x hx).2 hr
        rw [q] at h0 ⊢
        obtain ⟨y, y1, y2, y3⟩ := h.back x hx h0
        have hfy := hf.2 y y1
        refine ⟨y, y1, y2, ?_⟩
        obtain ⟨c, hc⟩ : ∃ c : Nat, rd f y = c := ⟨(rd f y).toNat, by omega⟩
        rw [hc] at y3 ⊢
        rw [keep c (by omega) (by omega)]; exact y3
    · rw [(e3 e he).1 (Reach.refl _ _ _)]; omega
  · refine ⟨xs, Ev.s ?_, h, by omega, fun z _ _ => rfl, fun z _ => .inr rfl⟩
    simp only [dfar.at, h.len, show (0 : Int) ≤ (e : Int) by omega, show (e : Int) < (n : Int) by omega, hneg, if_true, if_false]
    exact Ev.const rfl
theorem l2_run (t f : List Int) (n : Nat) (hn : n ≤ 12) (ht : inR n t) (hi : injR n t) (hf : inR n f) (hfl : ∀ i : Nat, i < n → flipAt f i) (a L : Nat) (hLn : L ≤ 12) :
    ∀ (d i : Nat) (xs : List Int), n - i = d → i ≤ n → LevI t f n a xs (L + 1) → (∀ x : Nat, x < n → 0 ≤ rd xs x → (rd xs x < L ∨ rd xs x = L ∧ x < i) → 0 ≤ rd xs (rd f x) ∧ rd xs (rd f x) ≤ rd xs x + 1) →
      ∃ r, Ev (fun k => dfar.l2 k t f (L : Int) xs (i : Int)) r ∧ LevI t f n a r (L + 1) ∧ ∀ x : Nat, x < n → 0 ≤ rd r x → rd r x < ((L + 1 : Nat) : Int) → 0 ≤ rd r (rd f x) ∧ rd r (rd f x) ≤ rd r x + 1
  | 0, i, xs, hd, hi', h, hE => by
    refine ⟨xs, Ev.s ?_, h, fun x hx h0 h1 => hE x hx h0 (by omega)⟩
    simp only [dfar.l2, hf.1, show ¬ (i : Int) < (n : Int) by omega, if_false]
    exact Ev.const rfl
  | d + 1, i, xs, hd, hi', h, hE => by
    have hlt : i < n := by omega
    have hfi := hf.2 i hlt
    obtain ⟨e, he⟩ : ∃ e : Nat, rd f i = e := ⟨(rd f i).toNat, by omega⟩
    have hen : e < n := by omega
    have hfe : rd f e = i := by have := (hfl i hlt).2; rwa [he] at this
    have g1 : (i : Int) < (n : Int) := by omega
    have g2 : (0 : Int) ≤ (i : Int) := by omega
    by_cases c : rd xs i = L
    · obtain ⟨r, e1, e2, e3, e4, e5⟩ := at_lev t f n hn ht hi hf a xs (L + 1) (by omega) h e i hen hlt hfe he (by omega)
      obtain ⟨r', f1, f2, f3⟩ := l2_run t f n hn ht hi hf hfl a L hLn d (i + 1) r (by omega) (by omega) e2 (fun x hx h0 hc => by
        have hfx := hf.2 x hx
        obtain ⟨q, hq⟩ : ∃ q : Nat, rd f x = q := ⟨(rd f x).toNat, by omega⟩
        by_cases hxi : x = i
        · subst hxi
          rw [he]
          have hb := (e2.rng e hen).2
          have hk := e4 x hx (by omega)
          exact ⟨e3, by omega⟩
        · have hx0 : 0 ≤ rd xs x := by
            rcases e5 x hx with w | w
            · omega
            · rw [← w]; exact h0
          have hv := e4 x hx hx0
          rw [hv] at h0 hc
          have := hE x hx hx0 (by omega)
          rw [hq] at this ⊢
          rw [e4 q (by omega) this.1, hv]; exact this)
      refine ⟨r', Ev.s ?_, f2, f3⟩
      simp only [dfar.l2, hf.1, h.len, g1, g2, c, he, if_true, show wrap64 ((L : Int) + 1) = ((L + 1 : Nat) : Int) from w64n (by omega)]
      refine Ev.bind e1 ?_
      rw [w64n (by omega)]
      exact f1
    · obtain ⟨r', f1, f2, f3⟩ := l2_run t f n hn ht hi hf hfl a L hLn d (i + 1) xs (by omega) (by omega) h (fun x hx h0 hc => hE x hx h0 (by
        rcases hc with hc | hc
        · exact .inl hc
        · refine .inr ⟨hc.1, ?_⟩
          have : x ≠ i := fun e => c (by rw [← e]; exact hc.1)
          omega))
      refine ⟨r', Ev.s ?_, f2, f3⟩
      simp only [dfar.l2, hf.1, h.len, g1, g2, c, if_true, if_false]
      rw [w64n (by omega)]
      exact f1
theorem l1_run (t f : List Int) (n : Nat) (hn : n ≤ 12) (ht : inR n t) (hi : injR n t) (hf : inR n f) (hfl : ∀ i : Nat, i < n → flipAt f i) (a : Nat) :
    ∀ (d L : Nat) (xs : List Int), n - L = d → L ≤ n → LevI t f n a xs L → (∀ x : Nat, x < n → 0 ≤ rd xs x → rd xs x < L → 0 ≤ rd xs (rd f x) ∧ rd xs (rd f x) ≤ rd xs x + 1) →
      ∃ r, Ev (fun k => dfar.l1 k t f xs (L : Int)) r ∧ LevI t f n a r n ∧ ∀ x : Nat, x < n → 0 ≤ rd r x → rd r x < (n : Int) → 0 ≤ rd r (rd f x) ∧ rd r (rd f x) ≤ rd r x + 1
  | 0, L, xs, hd, hL, h, hE => by
    have : L = n := by omega
    subst this
    refine ⟨xs, Ev.s ?_, h, hE⟩
    simp only [dfar.l1, ht.1, show ¬ (L : Int) < (L : Int) by omega, if_false]
    exact Ev.const rfl
  | d + 1, L, xs, hd, hL, h, hE => by
    have h' : LevI t f n a xs (L + 1) := ⟨h.len, fun x hx => ⟨(h.rng x hx).1, by have := (h.rng x hx).2; omega⟩, h.start, h.turn, h.zero, h.back⟩
    obtain ⟨r, e1, e2, e3⟩ := l2_run t f n hn ht hi hf hfl a L (by omega) n 0 xs (by omega) (by omega) h' (fun x hx h0 hc => hE x hx h0 (by omega))
    obtain ⟨r', f1, f2, f3⟩ := l1_run t f n hn ht hi hf hfl a d (L + 1) r (by omega) (by omega) e2 e3
    refine ⟨r', Ev.s ?_, f2, f3⟩
    simp only [dfar.l1, ht.1, show (L : Int) < (n : Int) by omega, if_true]
    refine Ev.bind e1 ?_
    rw [w64n (by omega)]
    exact f1
theorem lev_far (t f : List Int) (n : Nat) (H : MapK t f n) (a : Nat) (ha : a < n) (xs : List Int) (h : LevI t f n a xs n) (hE : ∀ x : Nat, x < n → 0 ≤ rd xs x → rd xs x < (n : Int) → 0 ≤ rd xs (rd f x) ∧ rd xs (rd f x) ≤ rd xs x + 1) : FarOk t f n a xs := by
  obtain ⟨hn, h1, ht, hi, hf, hfl, hcon⟩ := H
  have lt : ∀ x : Nat, x < n → rd xs x < n := by
    intro x hx
    refine Classical.byContradiction fun hno => ?_
    have hb := h.rng x hx
    have hx' : rd xs x = n := by omega
    have chain : ∀ d j : Nat, n - j = d → j ≤ n → ∃ y : Nat, y < n ∧ rd xs y = j := by
      intro d
      induction d with
      | zero => intro j hj hjn; exact ⟨x, hx, by omega⟩
      | succ d ih =>
        intro j hj hjn
        obtain ⟨y, y1, y2⟩ := ih (j + 1) (by omega) (by omega)
        obtain ⟨z, z1, z2, z3⟩ := h.back y y1 (by omega)
        have hfz := hf.2 z z1
        refine ⟨(rd f z).toNat, by omega, ?_⟩
        rw [show ((rd f z).toNat : Int) = rd f z by omega]
        omega
    have hex : ∀ j : Nat, ∃ y : Nat, j ≤ n → y < n ∧ rd xs y = j := fun j => by
      by_cases hj : j ≤ n
      · obtain ⟨y, q⟩ := chain _ j rfl hj
        exact ⟨y, fun _ => q⟩
      · exact ⟨0, fun q => absurd q hj⟩
    have hc1 : Cnt (n + 1) (fun j => j < n + 1) (n + 1) := ⟨List.range (n + 1), List.nodup_range, fun y => by simp, by simp⟩
    have hc2 : Cnt (n + 1) (fun j => j < n) n := ⟨List.range n, List.nodup_range, fun y => by simp; omega, by simp⟩
    have := Cnt.le hc1 hc2 (fun j => Classical.choose (hex j)) (fun j hj _ => by
      have q := Classical.choose_spec (hex j) (by omega)
      exact ⟨by omega, q.1⟩) (fun i j hi' _ hj _ e => by
      have q1 := (Classical.choose_spec (hex i) (by omega)).2
      have q2 := (Classical.choose_spec (hex j) (by omega)).2
      have e' : Classical.choose (hex i) = Classical.choose (hex j) := e
      rw [e', q2] at q1
      omega)
    omega
  have hcl : closedL [t, f] n (fun z => 0 ≤ rd xs z) := by
    intro p hp k hk
    simp at hp
    rcases hp with rfl | rfl
    · have h1 := ht.2 k hk
      have h2 := h.turn k hk
      show 0 ≤ rd xs k ↔ 0 ≤ rd xs ((rd p k).toNat : Nat)
      rw [show ((rd p k).toNat : Int) = rd p k by omega, h2]
    · have h1 := hf.2 k hk
      have h2 := (hfl k hk).2
      show 0 ≤ rd xs k ↔ 0 ≤ rd xs ((rd p k).toNat : Nat)
      constructor
      · intro q
        rw [show ((rd p k).toNat : Int) = rd p k by omega]
        exact (hE k hk q (lt k hk)).1
      · intro q
        have := (hE _ (show (rd p k).toNat < n by omega) q (lt _ (by omega))).1
        rw [show ((rd p k).toNat : Int) = rd p k by omega, h2] at this
        exact this
  have pos : ∀ x : Nat, x < n → 0 ≤ rd xs x := fun x hx => (hcon a x ha hx _ hcl).1 (by show 0 ≤ rd xs a; rw [h.start]; omega)
  refine ⟨h.len, fun x hx => ⟨pos x hx, lt x hx⟩, h.start, h.turn, fun x hx => ?_, h.zero, h.back⟩
  have hfx := hf.2 x hx
  have hff := (hfl x hx).2
  have q := (hE (rd f x).toNat (by omega) (pos _ (by omega)) (lt _ (by omega))).2
  rw [show ((rd f x).toNat : Int) = rd f x by omega, hff] at q
  exact q
theorem l0_run (n : Nat) (hn : n ≤ 12) : ∀ (d i : Nat) (xs : List Int), n - i = d → i ≤ n → xs.length = n → (∀ z : Nat, z < i → rd xs z = -1) → ∃ r, Ev (fun k => dfar.l0 k xs (i : Int) (n : Int)) r ∧ r.length = n ∧ ∀ z : Nat, z < n → rd r z = -1
  | 0, i, xs, hd, hi, hl, h => by
    have : i = n := by omega
    subst this
    refine ⟨xs, Ev.s ?_, hl, h⟩
    simp only [dfar.l0, show ¬ (i : Int) < (i : Int) by omega, if_false]
    exact Ev.const rfl
  | d + 1, i, xs, hd, hi, hl, h => by
    obtain ⟨r, r1, r2, r3⟩ := l0_run n hn d (i + 1) (xs.set i (-1)) (by omega) (by omega) (by simp [hl]) (fun z hz => by
      rw [rd_put _ _ _ _ (by omega)]
      by_cases e : z = i
      · rw [if_pos e]
      · rw [if_neg e]; exact h z (by omega))
    refine ⟨r, Ev.s ?_, r2, r3⟩
    simp only [dfar.l0, hl, show (i : Int) < (n : Int) by omega, show (0 : Int) ≤ (i : Int) by omega, if_true, Int.toNat_natCast]
    rw [w64n (by omega)]
    exact r1
theorem implFar_ev (t f : List Int) (n : Nat) (H : MapK t f n) (a : Nat) (ha : a < n) : ∃ g, FarOk t f n a g ∧ Ev (fun k => impl_distancesFrom.f k t f (a : Int)) g := by
  obtain ⟨hn, h1, ht, hi, hf, hfl, hcon⟩ := id H
  obtain ⟨xs, x1, x2, x3⟩ := l0_run n hn n 0 (List.replicate n 0) (by omega) (by omega) (by simp) (fun z hz => by omega)
  have hall : ∀ z : Nat, z < n → Reach [t] n a z → rd xs z < 0 := fun z hz _ => by rw [x3 z hz]; omega
  obtain ⟨ys, y1, y2, y3⟩ := at_run t n hn ht hi 0 (by omega) a xs hall _ xs a (fun _ => False) (Nat.le_refl _) x2 ha (Reach.refl _ _ _) (fun z _ hs => hs.elim) (fun z _ _ => rfl) (.inr rfl)
  have yv : ∀ z : Nat, z < n → (rd ys z = 0 ∧ Reach [t] n a z) ∨ (rd ys z = -1 ∧ ¬ Reach [t] n a z) := fun z hz => by
    by_cases hr : Reach [t] n a z
    · exact .inl ⟨(y3 z hz).1 hr, hr⟩
    · exact .inr ⟨by rw [(y3 z hz).2 hr, x3 z hz], hr⟩
  have hlev : LevI t f n a ys 0 := by
    refine ⟨y2, fun x hx => ?_, ?_, fun x hx => ?_, fun x hx h0 => ?_, fun x hx h0 => ?_⟩
    · rcases yv x hx with q | q <;> omega
    · exact (y3 a ha).1 (Reach.refl _ _ _)
    · have htx := ht.2 x hx
      obtain ⟨c, hc⟩ : ∃ c : Nat, rd t x = c := ⟨(rd t x).toNat, by omega⟩
      have hstep := Reach.step (ps := [t]) (p := t) (by simp) hx
      rw [hc, Int.toNat_natCast] at hstep
      rw [hc]
      rcases yv x hx with q | q
      · rw [q.1, (y3 c (by omega)).1 (q.2.trans hstep)]
      · rcases yv c (by omega) with p | p
        · exact absurd (p.2.trans hstep.symm) q.2
        · rw [q.1, p.1]
    · rcases yv x hx with q | q
      · exact q.2.symm
      · omega
    · rcases yv x hx with q | q <;> omega
  obtain ⟨r, r1, r2, r3⟩ := l1_run t f n hn ht hi hf hfl a n 0 ys (by omega) (by omega) hlev (fun x hx h0 h1 => by omega)
  refine ⟨r, lev_far t f n H a ha r r2 r3, ?_⟩
  unfold impl_distancesFrom.f
  have hg12 : 0 < n ∧ n ≤ 1048576 := ⟨by omega, by omega⟩
  simp only [ht.1, hg12, and_self, if_true]
  refine Ev.bind x1 ?_
  exact Ev.bind y1 r1
def cw (p : List Int) : Nat → List Bool → List Int → Int → List Bool × List Int
  | 0, s, c, a => (s, c)
  | f + 1, s, c, a => if rdOf false s a = true then (s, c) else cw p f (s.set a.toNat true) (c ++ [a]) (rd p a)
def fresh (s : List Bool) : Nat := s.countP (fun b => !b)
def cyS (p : List Int) (n : Nat) : Nat → List Bool × List (List Int)
  | 0 => (List.replicate n false, [])
  | i + 1 =>
    let q := cw p (n + 1) (cyS p n i).1 [] i
    (q.1, if q.2 = [] then (cyS p n i).2 else (cyS p n i).2 ++ [q.2])
theorem fresh_set : ∀ (s : List Bool) (i : Nat), i < s.length → s.getD i false = false → fresh (s.set i true) + 1 = fresh s
  | b :: s, 0, _, h => by
    simp only [List.getD_cons_zero] at h
    subst h
    simp [fresh]
  | b :: s, i + 1, hi, h => by
    simp only [List.getD_cons_succ] at h
    have ih := fresh_set s i (by simpa using hi) h
    simp only [fresh, List.set_cons_succ, List.countP_cons] at ih ⊢
    omega
theorem rdOf_nat (s : List Bool) (a : Int) (h0 : 0 ≤ a) : rdOf false s a = s.getD a.toNat false := by
  unfold rdOf
  rfl
theorem cw_len (p : List Int) : ∀ (f : Nat) (s : List Bool) (c : List Int) (a : Int), (cw p f s c a).1.length = s.length
  | 0, s, c, a => rfl
  | f + 1, s, c, a => by
    simp only [cw]
    split
    · rfl
    · rw [cw_len p f]; simp
theorem impl_cw (p : List Int) (n : Nat) (hn : n ≤ 1048576) (hp : inR n p) (L : List (List Int)) (hL : L.length ≤ 1048576) (m i : Int) (r : List (List Int)) : ∀ (f : Nat) (s : List Bool) (c : List Int) (a : Int), s.length = n → 0 ≤ a → a < n → fresh s < f → c.length + fresh s ≤ 1048577 →
    Ev (fun k => impl_cyclesOf.l0 k p (if (cw p f s c a).2 = [] then L else L ++ [(cw p f s c a).2]) (cw p f s c a).1 m (wrap64 (i + 1))) r → Ev (fun k => impl_cyclesOf.l1 k p L s c a m i) r
  | 0, s, c, a, hs, h0, h1, hf, hc, h => absurd hf (Nat.not_lt_zero _)
  | f + 1, s, c, a, hs, h0, h1, hf, hc, h => by
    refine Ev.s ?_
    simp only [cw] at h
    have hL' : L.length < 5864062014805 := by omega
    have hc' : c.length < 17592186044416 := by omega
    simp only [impl_cyclesOf.l1, h0, hs, h1, hp.1, hL', hc', if_true]
    by_cases e : rdOf false s a = true
    · simp only [e, if_true] at h ⊢
      cases c with
      | nil => simpa using h
      | cons b c => simpa using h
    · simp only [e, if_false] at h ⊢
      have h3 : s.getD a.toNat false = false := by rw [← rdOf_nat s a h0]; simpa using e
      have h4 := fresh_set s a.toNat (by omega) h3
      have h5 := hp.2 a.toNat (by omega)
      rw [show ((a.toNat : Nat) : Int) = a by omega] at h5
      exact impl_cw p n hn hp L hL m i r f _ _ _ (by simpa using hs) h5.1 h5.2 (by omega) (by simp only [List.length_append, List.length_cons, List.length_nil]; omega) h
theorem fresh_le (s : List Bool) : fresh s ≤ s.length := List.countP_le_length
theorem cyS_len (p : List Int) (n : Nat) : ∀ i, (cyS p n i).1.length = n
  | 0 => by simp [cyS]
  | i + 1 => by simp only [cyS]; rw [cw_len, cyS_len p n i]
theorem cyS_many (p : List Int) (n : Nat) : ∀ i, (cyS p n i).2.length ≤ i
  | 0 => by simp [cyS]
  | i + 1 => by
    have ih := cyS_many p n i
    simp only [cyS]
    split
    · omega
    · simp only [List.length_append, List.length_cons, List.length_nil]; omega
theorem cw_seen (p : List Int) (f : Nat) (s : List Bool) (c : List Int) (a : Int) (h : rdOf false s a = true) : cw p f s c a = (s, c) := by
  cases f with
  | zero => rfl
  | succ f => simp only [cw, h, if_true]
theorem cw_more (p : List Int) : ∀ (f : Nat) (s : List Bool) (c : List Int) (a : Int), c.length ≤ (cw p f s c a).2.length
  | 0, s, c, a => Nat.le_refl _
  | f + 1, s, c, a => by
    simp only [cw]
    split
    · exact Nat.le_refl _
    · have := cw_more p f (s.set a.toNat true) (c ++ [a]) (rd p a)
      simp only [List.length_append, List.length_cons, List.length_nil] at this
      omega
theorem cw_new (p : List Int) (f : Nat) (s : List Bool) (a : Int) (h : ¬ rdOf false s a = true) : (cw p (f + 1) s [] a).2 ≠ [] := by
  simp only [cw, h, Bool.false_eq_true, if_false]
  intro e
  have := cw_more p f (s.set a.toNat true) ([] ++ [a]) (rd p a)
  rw [e] at this
  simp at this
theorem implCyc_run (p : List Int) (n : Nat) (hn : n ≤ 1048575) (hp : inR n p) : ∀ (d i : Nat), n - i = d → i ≤ n → Ev (fun k => impl_cyclesOf.l0 k p (cyS p n i).2 (cyS p n i).1 n i) (cyS p n n).2
  | 0, i, hd, hi => by
    have : i = n := by omega
    subst this
    refine Ev.s ?_
    simp only [impl_cyclesOf.l0, show ¬ (i : Int) < (i : Int) by omega, if_false]
    exact Ev.const rfl
  | d + 1, i, hd, hi => by
    have ih := implCyc_run p n hn hp d (i + 1) (by omega) (by omega)
    have hl := cyS_len p n i
    have hm := cyS_many p n i
    have hf := fresh_le (cyS p n i).1
    have h1 : (i : Int) < (n : Int) := by omega
    have h0 : (0 : Int) ≤ (i : Int) := by omega
    refine Ev.s ?_
    simp only [impl_cyclesOf.l0, h1, if_true]
    refine impl_cw p n (by omega) hp _ (by omega) n i _ (n + 1) _ _ _ hl h0 h1 (by omega) (by simp only [List.length_nil]; omega) ?_
    rw [w64n (by omega)]
    simp only [cyS] at ih
    exact ih
theorem implCyc_ev (p : List Int) (n : Nat) (hn : n ≤ 1048575) (hp : inR n p) : Ev (fun k => impl_cyclesOf.f k p) (cyS p n n).2 := by
  unfold impl_cyclesOf.f
  have h1 : n ≤ 281474976710656 := by omega
  have h2 : (0 : Int) ≤ (n : Int) := by omega
  simp only [hp.1, Int.toNat_natCast, h1, h2, if_true]
  exact implCyc_run p n hn hp n 0 (by omega) (by omega)
theorem cw_bound (p : List Int) (n : Nat) (hp : inR n p) : ∀ (f : Nat) (s : List Bool) (c : List Int) (a : Int), s.length = n → 0 ≤ a → a < n → (cw p f s c a).2.length + fresh (cw p f s c a).1 ≤ c.length + fresh s
  | 0, s, c, a, hs, h0, h1 => Nat.le_refl _
  | f + 1, s, c, a, hs, h0, h1 => by
    simp only [cw]
    by_cases e : rdOf false s a = true
    · simp only [e, if_true]
      exact Nat.le_refl _
    · simp only [e, Bool.false_eq_true, if_false]
      have h3 : s.getD a.toNat false = false := by rw [← rdOf_nat s a h0]; simpa using e
      have h4 := fresh_set s a.toNat (by omega) h3
      have h5 := hp.2 a.toNat (by omega)
      rw [show ((a.toNat : Nat) : Int) = a by omega] at h5
      have ih := cw_bound p n hp f (s.set a.toNat true) (c ++ [a]) (rd p a) (by simpa using hs) h5.1 h5.2
      rw [List.length_append, List.length_singleton] at ih
      omega
theorem cyS_bound (p : List Int) (n : Nat) (hp : inR n p) : ∀ i, i ≤ n → ∀ l ∈ (cyS p n i).2, 1 ≤ l.length ∧ l.length ≤ n
  | 0, _, l, hl => by simp [cyS] at hl
  | i + 1, hi, l, hl => by
    have ih := cyS_bound p n hp i (by omega) l
    simp only [cyS] at hl
    have hb := cw_bound p n hp (n + 1) (cyS p n i).1 [] i (cyS_len p n i) (by omega) (by omega)
    have hf := fresh_le (cyS p n i).1
    rw [cyS_len] at hf
    rw [List.length_nil, Nat.zero_add] at hb
    by_cases e : (cw p (n + 1) (cyS p n i).1 [] (i : Int)).2 = []
    · rw [if_pos e] at hl
      exact ih hl
    · rw [if_neg e, List.mem_append] at hl
      rcases hl with hl | hl
      · exact ih hl
      · rw [List.mem_singleton.1 hl]
        have : 0 < (cw p (n + 1) (cyS p n i).1 [] (i : Int)).2.length := List.length_pos_iff.2 e
        omega
theorem cyS_pos (p : List Int) (n : Nat) (h1 : 1 ≤ n) : 0 < (cyS p n n).2.length := by
  have hm : ∀ i, 1 ≤ i → 0 < (cyS p n i).2.length := by
    intro i
    induction i with
    | zero => intro h; omega
    | succ i ih =>
      intro _
      simp only [cyS]
      by_cases hi : 1 ≤ i
      · have := ih hi
        split
        · exact this
        · rw [List.length_append]; omega
      · have : i = 0 := by omega
        subst this
        rw [if_neg (cw_new p n _ _ (by show ¬ (List.replicate n false).getD 0 false = true; rw [List.getD_eq_getElem?_getD, List.getElem?_replicate]; split <;> simp))]
        rw [List.length_append, List.length_singleton]
        omega
  exact hm n h1
def lensL (C : List (List Int)) : List Int := C.map fun l => (l.length : Int)
theorem lens_take (C : List (List Int)) (i : Nat) (h : i < C.length) : lensL (C.take (i + 1)) = lensL (C.take i) ++ [((rd_L1 C (i : Int)).length : Int)] := by
  unfold lensL rd_L1
  rw [List.take_succ_eq_append_getElem h, List.map_append, Int.toNat_natCast, List.getD_eq_getElem?_getD, List.getElem?_eq_getElem h]
  rfl
def all4 (r : List Int) : Bool := r.all fun x => decide (x = 4)
theorem all4_drop (r : List Int) (i : Nat) (h : i < r.length) : all4 (r.drop i) = (decide (rd r i = 4) && all4 (r.drop (i + 1))) := by
  unfold all4
  rw [List.drop_eq_getElem_cons h, List.all_cons, rd_lt r i h]
def tlL (C : List (List Int)) : Nat → List Int
  | 0 => []
  | d + 1 => List.replicate (C.countP fun l => decide (l.length = d + 1)) ((d + 1 : Nat) : Int) ++ tlL C d
theorem tlL_mem (C : List (List Int)) (x : Int) : ∀ d, x ∈ tlL C d ↔ ∃ l ∈ C, 1 ≤ l.length ∧ l.length ≤ d ∧ x = (l.length : Int)
  | 0 => by
    simp only [tlL, List.not_mem_nil, false_iff]
    rintro ⟨l, _, h1, h2, _⟩
    omega
  | d + 1 => by
    simp only [tlL, List.mem_append, List.mem_replicate, tlL_mem C x d]
    constructor
    · rintro (⟨h, rfl⟩ | ⟨l, hl, h1, h2, rfl⟩)
      · obtain ⟨l, hl, e⟩ := List.countP_pos_iff.1 (Nat.pos_of_ne_zero h)
        have e := of_decide_eq_true e
        exact ⟨l, hl, by omega, by omega, by rw [e]⟩
      · exact ⟨l, hl, h1, by omega, rfl⟩
    · rintro ⟨l, hl, h1, h2, rfl⟩
      by_cases e : l.length = d + 1
      · exact .inl ⟨Nat.ne_of_gt (List.countP_pos_iff.2 ⟨l, hl, decide_eq_true e⟩), by rw [e]⟩
      · exact .inr ⟨l, hl, h1, by omega, rfl⟩
theorem tlL_len (C : List (List Int)) : ∀ d, (tlL C d).length ≤ d * C.length
  | 0 => by simp [tlL]
  | d + 1 => by
    have ih := tlL_len C d
    have := List.countP_le_length (p := fun l : List Int => decide (l.length = d + 1)) (l := C)
    simp only [tlL, List.length_append, List.length_replicate]
    rw [Nat.succ_mul]
    omega
theorem rd_setN (l : List Int) (i j : Nat) (v : Int) (h : i < l.length) : rd (l.set i v) (j : Int) = if j = i then v else rd l (j : Int) := by
  by_cases e : j = i
  · subst e
    rw [if_pos rfl, rd_set_self l j v h]
  · rw [if_neg e, rd_set_ne l i j v (fun z => e z.symm)]
theorem rev_exact_run (l : List Int) (hl : l.length ≤ 1048576) : ∀ (d i : Nat) (m : List Int), l.length - 2 * i ≤ d → 2 * i ≤ l.length + 1 → m.length = l.length →
    (∀ z : Nat, z < l.length → rd m (z : Int) = if z < i ∨ l.length < z + i + 1 then rd l ((l.length - 1 - z : Nat) : Int) else rd l (z : Int)) → Ev (fun k => slices_Reverse_int_int.l0 k m (i : Int) ((l.length : Int) - 1 - (i : Int))) l.reverse
  | d, i, m, hd, hi, hm, hr => by
    by_cases hij : (i : Int) < (l.length : Int) - 1 - (i : Int)
    · obtain ⟨d, rfl⟩ : ∃ e, d = e + 1 := ⟨d - 1, by omega⟩
      have hjn : ((l.length : Int) - 1 - (i : Int)).toNat = l.length - 1 - i := by omega
      have hji : ((l.length : Int) - 1 - (i : Int)) = ((l.length - 1 - i : Nat) : Int) := by omega
      have ih := rev_exact_run l hl d (i + 1) ((m.set (i : Int).toNat (rd m ((l.length : Int) - 1 - (i : Int)))).set ((l.length : Int) - 1 - (i : Int)).toNat (rd m (i : Int))) (by omega) (by omega) (by simpa using hm) (by
        intro z hz
        rw [hjn, Int.toNat_natCast, rd_setN _ _ _ _ (by simp only [List.length_set]; omega), rd_setN _ _ _ _ (by omega), hji, hr (l.length - 1 - i) (by omega), hr i (by omega), hr z hz]
        by_cases e1 : z = l.length - 1 - i
        · subst e1
          rw [if_pos rfl, if_neg (by omega), if_pos (by omega)]
          congr 1
          omega
        · rw [if_neg e1]
          by_cases e2 : z = i
          · subst e2
            rw [if_pos rfl, if_neg (by omega), if_pos (by omega)]
          · rw [if_neg e2]
            by_cases e3 : z < i ∨ l.length < z + i + 1
            · rw [if_pos e3, if_pos (by omega)]
            · rw [if_neg e3, if_neg (by omega)])
      refine Ev.s ?_
      simp only [slices_Reverse_int_int.l0, hij, show (0 : Int) ≤ (l.length : Int) - 1 - (i : Int) by omega, show (l.length : Int) - 1 - (i : Int) < (m.length : Int) by omega, show (0 : Int) ≤ (i : Int) by omega, show (i : Int) < (m.length : Int) by omega, if_true]
      rw [w64 (x := (i : Int) + 1) (by omega) (by omega), w64 (x := (l.length : Int) - 1 - (i : Int) - 1) (by omega) (by omega), show (i : Int) + 1 = ((i + 1 : Nat) : Int) by omega, show (l.length : Int) - 1 - (i : Int) - 1 = (l.length : Int) - 1 - ((i + 1 : Nat) : Int) by omega]
      exact ih
    · have e : m = l.reverse := by
        refine list_ext _ _ (by rw [List.length_reverse, hm]) fun z hz => ?_
        rw [hm] at hz
        have hrev : rd l.reverse (z : Int) = rd l ((l.length - 1 - z : Nat) : Int) := by
          rw [rd_lt _ z (by simpa using hz), rd_lt l (l.length - 1 - z) (by omega), List.getElem_reverse]
        rw [hrev, hr z hz]
        by_cases e3 : z < i ∨ l.length < z + i + 1
        · rw [if_pos e3]
        · rw [if_neg e3]
          congr 1
          omega
      refine Ev.s ?_
      simp only [slices_Reverse_int_int.l0, hij, if_false]
      rw [e]
      exact Ev.const rfl
theorem rev_exact (l : List Int) (hl : l.length ≤ 1048576) : Ev (fun k => slices_Reverse_int_int.f k l) l.reverse := by
  unfold slices_Reverse_int_int.f
  rw [w64 (by omega) (by omega)]
  have := rev_exact_run l hl l.length 0 l (by omega) (by omega) rfl (fun z hz => by rw [if_neg (by omega)])
  simpa using this
theorem desc_uniq : ∀ (a b : List Int), a.Pairwise (fun x y => y ≤ x) → b.Pairwise (fun x y => y ≤ x) → a.Perm b → a = b
  | [], b, _, _, h => (List.nil_perm.1 h).symm
  | x :: a, b, ha, hb, h => by
    match b, hb, h with
    | [], _, h => exact absurd h.length_eq (by simp)
    | y :: b, hb, h =>
      rw [List.pairwise_cons] at ha hb
      have hx : x ∈ y :: b := h.mem_iff.1 (by simp)
      have hy : y ∈ x :: a := h.mem_iff.2 (by simp)
      have hxy : x = y := by
        rcases List.mem_cons.1 hx with e | hx
        · exact e
        · rcases List.mem_cons.1 hy with e | hy
          · exact e.symm
          · have h1 := hb.1 x hx
            have h2 := ha.1 y hy
            omega
      subst hxy
      rw [desc_uniq a b ha.2 hb.2 (List.Perm.cons_inv h)]
theorem tlL_desc (C : List (List Int)) : ∀ d, (tlL C d).Pairwise (fun x y => y ≤ x) ∧ ∀ x ∈ tlL C d, x ≤ (d : Int)
  | 0 => by simp [tlL]
  | d + 1 => by
    obtain ⟨ih1, ih2⟩ := tlL_desc C d
    constructor
    · simp only [tlL]
      rw [List.pairwise_append]
      refine ⟨List.pairwise_replicate.2 (.inr (Int.le_refl _)), ih1, fun x hx y hy => ?_⟩
      have := ih2 y hy
      rw [(List.mem_replicate.1 hx).2]
      omega
    · intro x hx
      simp only [tlL, List.mem_append] at hx
      rcases hx with hx | hx
      · rw [(List.mem_replicate.1 hx).2]; omega
      · have := ih2 x hx; omega
theorem tlL_count (C : List (List Int)) (x : Int) : ∀ d, (tlL C d).count x = C.countP fun l => decide (1 ≤ l.length ∧ l.length ≤ d ∧ (l.length : Int) = x)
  | 0 => by
    simp only [tlL, List.count_nil]
    exact (List.countP_eq_zero.2 fun l _ => by simp only [decide_eq_true_eq]; omega).symm
  | d + 1 => by
    have ih := tlL_count C x d
    simp only [tlL, List.count_append, List.count_replicate, ih]
    by_cases e : x = ((d + 1 : Nat) : Int)
    · subst e
      rw [if_pos (by simp), (List.countP_eq_zero (p := fun l : List Int => decide (1 ≤ l.length ∧ l.length ≤ d ∧ (l.length : Int) = ((d + 1 : Nat) : Int)))).2 (fun l _ => by simp only [decide_eq_true_eq]; omega), Nat.add_zero]
      refine List.countP_congr fun l _ => ?_
      simp only [decide_eq_true_eq]
      omega
    · rw [if_neg (by simp only [beq_iff_eq]; omega), Nat.zero_add]
      refine List.countP_congr fun l _ => ?_
      simp only [decide_eq_true_eq]
      omega
theorem tlL_perm (C : List (List Int)) (d : Nat) (h : ∀ l ∈ C, 1 ≤ l.length ∧ l.length ≤ d) : (tlL C d).Perm (lensL C) := by
  rw [List.perm_iff_count]
  intro x
  rw [tlL_count]
  unfold lensL List.count
  rw [List.countP_map]
  refine List.countP_congr fun l hl => ?_
  have := h l hl
  simp only [decide_eq_true_eq, Function.comp_apply, beq_iff_eq]
  omega
theorem typeOf_ev (p : List Int) (n : Nat) (hn : n ≤ 12) (h1 : 1 ≤ n) (hp : inR n p) : Ev (fun k => impl_typeOf.f k p) (tlL (cyS p n n).2 n) := by
  have hCb := cyS_bound p n hp n (Nat.le_refl _)
  have hCm := cyS_many p n n
  have hCp := cyS_pos p n h1
  have hll : (lensL (cyS p n n).2).length = (cyS p n n).2.length := by simp [lensL]
  have hs : ((lensL (cyS p n n).2).mergeSort fun x y => decide (x ≤ y)).length = (cyS p n n).2.length := by rw [List.length_mergeSort, hll]
  have hrev : ((lensL (cyS p n n).2).mergeSort fun x y => decide (x ≤ y)).reverse = tlL (cyS p n n).2 n := by
    refine desc_uniq _ _ ?_ (tlL_desc _ n).1 ?_
    · rw [List.pairwise_reverse]
      have := List.pairwise_mergeSort (le := fun x y : Int => decide (x ≤ y)) (fun a b c h1 h2 => by simp only [decide_eq_true_eq] at *; omega) (fun a b => by simp only [Bool.or_eq_true, decide_eq_true_eq]; omega) (lensL (cyS p n n).2)
      exact this.imp fun h => by simpa using h
    · exact (List.reverse_perm _).trans ((List.mergeSort_perm _ _).trans (tlL_perm _ n hCb).symm)
  have r1 := rev_exact ((lensL (cyS p n n).2).mergeSort fun x y => decide (x ≤ y)) (by omega)
  rw [hrev] at r1
  have hsort : slices_Sort_int_int.f (lensL (cyS p n n).2) = some ((lensL (cyS p n n).2).mergeSort fun x y => decide (x ≤ y)) := by
    unfold slices_Sort_int_int.f
    rw [if_pos ⟨by omega, by omega⟩]
  have run : ∀ (d i : Nat), (cyS p n n).2.length - i = d → i ≤ (cyS p n n).2.length → Ev (fun k => impl_typeOf.l0 k (lensL ((cyS p n n).2.take i)) (cyS p n n).2 (cyS p n n).2.length i) (tlL (cyS p n n).2 n) := by
    intro d
    induction d with
    | zero =>
      intro i hd hi
      have e : i = (cyS p n n).2.length := by omega
      rw [e, List.take_length]
      refine Ev.s ?_
      simp only [impl_typeOf.l0, show ¬ ((cyS p n n).2.length : Int) < ((cyS p n n).2.length : Int) by omega, if_false, hsort, Option.bind_some]
      exact Ev.bind r1 (Ev.const rfl)
    | succ d ih =>
      intro i hd hi
      have h := ih (i + 1) (by omega) (by omega)
      rw [lens_take _ i (by omega)] at h
      have hlt : (lensL ((cyS p n n).2.take i)).length < 17592186044416 := by simp only [lensL, List.length_map, List.length_take]; omega
      refine Ev.s ?_
      simp only [impl_typeOf.l0, show (i : Int) < ((cyS p n n).2.length : Int) by omega, show (0 : Int) ≤ (i : Int) by omega, hlt, if_true, w64n (show i < 4611686018427387904 by omega)]
      exact h
  unfold impl_typeOf.f
  refine Ev.bind (implCyc_ev p n (by omega) hp) ?_
  exact run _ 0 rfl (by omega)
def nmE (g : List Int) : Nat → Nat
  | 0 => 0
  | i + 1 => if Int.tmod (rd g i) 2 = 0 then nmE g i + 1 else nmE g i
theorem nmE_mono (g : List Int) (i : Nat) : ∀ d, nmE g i ≤ nmE g (i + d)
  | 0 => Nat.le_refl _
  | d + 1 => by
    have := nmE_mono g i d
    rw [← Nat.add_assoc]
    simp only [nmE]
    split <;> omega
theorem nmE_le (g : List Int) : ∀ i, nmE g i ≤ i
  | 0 => Nat.le_refl _
  | i + 1 => by
    have := nmE_le g i
    simp only [nmE]
    split <;> omega
theorem isMap_K {t f : List Int} (h : isMap t f) : MapK t f t.length := by
  obtain ⟨pt, pf, hlen, hfl, hcon⟩ := h
  refine ⟨pt.2.1, pt.1, isPerm_inR t pt, fun i j hi hj e => ?_, by have := isPerm_inR f pf; rwa [← hlen] at this, by rw [hlen]; exact hfl, by rw [hlen]; exact hcon⟩
  refine Classical.byContradiction fun hne => ?_
  rcases Nat.lt_or_gt_of_ne hne with q | q
  · exact (pt.2.2 j hj).2.2 i q e
  · exact (pt.2.2 i hi).2.2 j q e.symm
def tmF (t fc bk nm : List Int) (i : Nat) : Int := rd nm (rd bk (rd fc (rd fc (rd t i))))
def tmA (g t nm : List Int) : Nat → List Int
  | 0 => []
  | i + 1 => if Int.tmod (rd g i) 2 = 0 then tmA g t nm i ++ [rd nm (rd t i)] else tmA g t nm i
def tmB (g t fc bk nm : List Int) : Nat → List Int
  | 0 => []
  | i + 1 => if Int.tmod (rd g i) 2 = 0 then tmB g t fc bk nm i ++ [tmF t fc bk nm i] else tmB g t fc bk nm i
theorem tmA_len (g t nm : List Int) : ∀ i, (tmA g t nm i).length = nmE g i
  | 0 => rfl
  | i + 1 => by
    simp only [tmA, nmE]
    split <;> simp [tmA_len g t nm i]
theorem tmB_len (g t fc bk nm : List Int) : ∀ i, (tmB g t fc bk nm i).length = nmE g i
  | 0 => rfl
  | i + 1 => by
    simp only [tmB, nmE]
    split <;> simp [tmB_len g t fc bk nm i]
theorem tmI_l1 (t f g nm fc bk : List Int) (n : Nat) (hn : n ≤ 12) (ht : inR n t) (hg : g.length = n) (hfc : inR n fc) (hbk : inR n bk) (hnl : nm.length = n) (hnm : ∀ z : Nat, z < n → rd nm z = nmE g z) :
    ∀ (d i : Nat) (A B : List Int), n - i = d → i ≤ n → A.length = nmE g n → B.length = nmE g n → A.take (nmE g i) = tmA g t nm i → B.take (nmE g i) = tmB g t fc bk nm i →
      Ev (fun k => impl_TutteMap.l1 k nm fc bk g n i t f A B) (tmA g t nm n, tmB g t fc bk nm n, true)
  | 0, i, A, B, hd, hi, hA, hB, eA, eB => by
    have : i = n := by omega
    subst this
    rw [← hA, List.take_length] at eA
    rw [← hB, List.take_length] at eB
    refine Ev.s ?_
    simp only [impl_TutteMap.l1, show ¬ (i : Int) < (i : Int) by omega, if_false]
    exact Ev.const (by rw [eA, eB])
  | d + 1, i, A, B, hd, hi, hA, hB, eA, eB => by
    have hlt : i < n := by omega
    have hti := ht.2 i hlt
    obtain ⟨a, ha⟩ : ∃ a : Nat, rd t i = a := ⟨(rd t i).toNat, by omega⟩
    rw [ha] at hti
    have han : a < n := by omega
    have h1 := hfc.2 a han
    obtain ⟨b, hb⟩ : ∃ b : Nat, rd fc a = b := ⟨(rd fc a).toNat, by omega⟩
    rw [hb] at h1
    have hbn : b < n := by omega
    have h2 := hfc.2 b hbn
    obtain ⟨c, hc⟩ : ∃ c : Nat, rd fc b = c := ⟨(rd fc b).toNat, by omega⟩
    rw [hc] at h2
    have hcn : c < n := by omega
    have h3 := hbk.2 c hcn
    obtain ⟨e, he⟩ : ∃ e : Nat, rd bk c = e := ⟨(rd bk c).toNat, by omega⟩
    rw [he] at h3
    have g1 : (i : Int) < (n : Int) := by omega
    have g2 : (0 : Int) ≤ (i : Int) := by omega
    have g3 : (0 : Int) ≤ (a : Int) := by omega
    have g5 : (0 : Int) ≤ (b : Int) := by omega
    have g7 : (0 : Int) ≤ (c : Int) := by omega
    have g9 : (0 : Int) ≤ (e : Int) := by omega
    have hm1 := nmE_mono g (i + 1) (n - (i + 1))
    rw [show i + 1 + (n - (i + 1)) = n by omega] at hm1
    have hle := nmE_le g n
    by_cases ev : Int.tmod (rd g i) 2 = 0
    · have hs : nmE g (i + 1) = nmE g i + 1 := by simp only [nmE, ev, if_true]
      have hlt2 : nmE g i < nmE g n := by omega
      have q1 : ((nmE g i : Nat) : Int) < ((nmE g n : Nat) : Int) := by omega
      have q0 : (0 : Int) ≤ ((nmE g i : Nat) : Int) := by omega
      have hAs : tmA g t nm (i + 1) = tmA g t nm i ++ [rd nm a] := by simp only [tmA, ev, if_true, ha]
      have hBs : tmB g t fc bk nm (i + 1) = tmB g t fc bk nm i ++ [rd nm e] := by simp only [tmB, ev, if_true, tmF, ha, hb, hc, he]
      have lA : (tmA g t nm i).length < 17592186044416 := by rw [tmA_len]; omega
      have lB : (tmB g t fc bk nm i).length < 17592186044416 := by rw [tmB_len]; omega
      have r2 := tmI_l1 t f g nm fc bk n hn ht hg hfc hbk hnl hnm d (i + 1) (A.set (nmE g i) (rd nm a)) (B.set (nmE g i) (rd nm e)) (by omega) (by omega) (by simp [hA]) (by simp [hB])
        (by rw [hs, take_set_one _ _ _ (by omega), eA, hAs]) (by rw [hs, take_set_one _ _ _ (by omega), eB, hBs])
      refine Ev.s ?_
      · simp only [impl_TutteMap.l1, hg, ht.1, hnl, hfc.1, hbk.1, g1, g2, g3, g5, g7, g9, ev, ha, hb, hc, he, hti.2, h1.2, h2.2, h3.2, hnm i hlt, q0, q1, hA, hB, if_true, Int.toNat_natCast]
        rw [w64n (by omega)]
        exact r2
    · have hs : nmE g (i + 1) = nmE g i := by simp only [nmE, ev, if_false]
      have hAs : tmA g t nm (i + 1) = tmA g t nm i := by simp only [tmA, ev, if_false]
      have hBs : tmB g t fc bk nm (i + 1) = tmB g t fc bk nm i := by simp only [tmB, ev, if_false]
      have r2 := tmI_l1 t f g nm fc bk n hn ht hg hfc hbk hnl hnm d (i + 1) A B (by omega) (by omega) hA hB (by rw [hs, eA, hAs]) (by rw [hs, eB, hBs])
      refine Ev.s ?_
      · simp only [impl_TutteMap.l1, hg, g1, g2, ev, if_true, if_false]
        rw [w64n (by omega)]
        exact r2
theorem tmI_l0 (t f g : List Int) (n : Nat) (H : MapK t f n) (hg : g.length = n) (hpar : ∀ x : Nat, x < n → ¬ Int.tmod (rd g x) 2 = Int.tmod (rd g (rd f x)) 2) :
    ∀ (d i : Nat) (l : List Int), n - i = d → i ≤ n → l.length = n → (∀ z : Nat, z < i → rd l z = nmE g z) →
      ∃ l', l'.length = n ∧ (∀ z : Nat, z < n → rd l' z = nmE g z) ∧ Ev (fun k => impl_TutteMap.l0 k g l (nmE g i) f n i t f) (tmA g t l' n, tmB g t (mulL f t n) (backL t n n) l' n, true)
  | 0, i, l, hd, hi, hl, h => by
    have : i = n := by omega
    subst this
    obtain ⟨hn, h1, ht, hti, hf, hfl, hcon⟩ := id H
    have hle := nmE_le g i
    have r2 := tmI_l1 t f g l (mulL f t i) (backL t i i) i hn ht hg (mulL_inR i f t hf ht) (backL_inR t i) hl h i 0 (List.replicate (nmE g i) 0) (List.replicate (nmE g i) 0) (by omega) (by omega) (by simp) (by simp) (by simp [nmE, tmA]) (by simp [nmE, tmB])
    refine ⟨l, hl, h, Ev.s ?_⟩
    simp only [impl_TutteMap.l0, show ¬ (i : Int) < (i : Int) by omega, if_false]
    refine Ev.bind (implMul_ev i (by omega) f t hf ht) ?_
    refine Ev.bind (implBack_ev i (by omega) t ht) ?_
    simp only [show (0 : Int) ≤ ((nmE g i : Nat) : Int) by omega, show nmE g i ≤ 35184372088832 by omega, if_true, Int.toNat_natCast, hg]
    exact r2
  | d + 1, i, l, hd, hi, hl, h => by
    obtain ⟨hn, h1, ht, hti, hf, hfl, hcon⟩ := id H
    have hlt : i < n := by omega
    have hfi := hf.2 i hlt
    have g1 : (i : Int) < (n : Int) := by omega
    have g2 : (0 : Int) ≤ (i : Int) := by omega
    have hle := nmE_le g i
    have ev := hpar i hlt
    obtain ⟨l', q1, q2, r2⟩ := tmI_l0 t f g n H hg hpar d (i + 1) (l.set i (nmE g i)) (by omega) (by omega) (by simp [hl]) (fun z hz => by
      rw [rd_put _ _ _ _ (by omega)]
      by_cases e : z = i
      · rw [if_pos e, e]
      · rw [if_neg e]; exact h z (by omega))
    refine ⟨l', q1, q2, Ev.s ?_⟩
    simp only [impl_TutteMap.l0, hg, hf.1, hfi.1, hfi.2, g1, g2, ev, hl, if_true, if_false, Int.toNat_natCast, Option.bind_some]
    by_cases q : Int.tmod (rd g i) 2 = 0
    · simp only [q, if_true]
      rw [w64n (i := i) (by omega), w64n (i := nmE g i) (by omega)]
      have : nmE g (i + 1) = nmE g i + 1 := by simp only [nmE, q, if_true]
      rw [this] at r2
      exact r2
    · simp only [q, if_false]
      rw [w64n (i := i) (by omega)]
      have : nmE g (i + 1) = nmE g i := by simp only [nmE, q, if_false]
      rw [this] at r2
      exact r2
theorem isQuad_run (r : List Int) (hr : r.length ≤ 1048576) : ∀ (d i : Nat), r.length - i = d → i ≤ r.length → Ev (fun k => impl_isQuad.l0 k r r.length i) (all4 (r.drop i))
  | 0, i, hd, hi => by
    refine Ev.s ?_
    simp only [impl_isQuad.l0, show ¬ (i : Int) < (r.length : Int) by omega, if_false]
    rw [List.drop_eq_nil_of_le (by omega)]
    exact Ev.const rfl
  | d + 1, i, hd, hi => by
    have ih := isQuad_run r hr d (i + 1) (by omega) (by omega)
    rw [all4_drop r i (by omega)]
    refine Ev.s ?_
    simp only [impl_isQuad.l0, show (i : Int) < (r.length : Int) by omega, show (0 : Int) ≤ (i : Int) by omega, if_true, w64n (show i < 4611686018427387904 by omega)]
    by_cases h : rd r i = 4
    · simp only [h, if_true, decide_true, Bool.true_and]
      exact ih
    · simp only [h, if_false, decide_false, Bool.false_and]
      exact Ev.const rfl
theorem isQuadI_ev (t f : List Int) (n : Nat) (H : MapK t f n) (hm : isMap t f) (h4 : ∀ l ∈ (cyS (mulL f t n) n n).2, l.length = 4) : Ev (fun k => impl_isQuad.f k t f) true := by
  obtain ⟨hn, h1, ht, hti, hf, hfl, hcon⟩ := id H
  have l1 := ht.1
  have l2 := hf.1
  obtain ⟨b, _, b2, b3⟩ := mapValid_both t f (by omega) (by omega)
  have hb : b = true := b3.2 hm
  subst hb
  have hl := tlL_len (cyS (mulL f t n) n n).2 n
  have hC := cyS_many (mulL f t n) n n
  have hr : (tlL (cyS (mulL f t n) n n).2 n).length ≤ 1048576 := by
    have : n * (cyS (mulL f t n) n n).2.length ≤ 12 * 12 := Nat.mul_le_mul hn (by omega)
    omega
  have r := isQuad_run _ hr _ 0 (Nat.sub_zero _) (Nat.zero_le _)
  have ha : all4 ((tlL (cyS (mulL f t n) n n).2 n).drop 0) = true := by
    rw [List.drop_zero]
    unfold all4
    refine List.all_eq_true.2 fun x hx => decide_eq_true ?_
    obtain ⟨l, hl, _, _, e⟩ := (tlL_mem _ x n).1 hx
    rw [e, h4 l hl]
    rfl
  rw [ha] at r
  unfold impl_isQuad.f
  refine Ev.bind b2 ?_
  simp only [if_true]
  refine Ev.bind (implMul_ev n (by omega) f t hf ht) ?_
  refine Ev.bind (typeOf_ev _ n hn h1 (mulL_inR n f t hf ht)) ?_
  exact r
theorem tutteMapI_ev (t f : List Int) (n : Nat) (H : MapK t f n) (hm : isMap t f) (h4 : ∀ l ∈ (cyS (mulL f t n) n n).2, l.length = 4) (a : Nat) (ha : a < n) (g : List Int) (hg : FarOk t f n a g) (e2 : Ev (fun k => impl_distancesFrom.f k t f (a : Int)) g) (hpar : ∀ x : Nat, x < n → ¬ Int.tmod (rd g x) 2 = Int.tmod (rd g (rd f x)) 2) :
    ∃ l', l'.length = n ∧ (∀ z : Nat, z < n → rd l' z = nmE g z) ∧ Ev (fun k => impl_TutteMap.f k t f (a : Int)) (tmA g t l' n, tmB g t (mulL f t n) (backL t n n) l' n, true) := by
  obtain ⟨hn, h1, ht, hti, hf, hfl, hcon⟩ := id H
  have l1 := ht.1
  have l2 := hf.1
  obtain ⟨l', q1, q2, r2⟩ := tmI_l0 t f g n H hg.len hpar n 0 (List.replicate n 0) (by omega) (by omega) (by simp) (fun z hz => by omega)
  refine ⟨l', q1, q2, ?_⟩
  unfold impl_TutteMap.f
  refine Ev.bind (isQuadI_ev t f n H hm h4) ?_
  simp only [if_true, show ¬ (a : Int) < 0 by omega, if_false]
  refine Ev.s ?_
  simp only [impl_TutteMap.j0, l1, show ¬ (a : Int) ≥ (n : Int) by omega, decide_false, Bool.false_eq_true, if_false]
  refine Ev.bind e2 ?_
  simp only [hg.len, Int.toNat_natCast, show (0 : Int) ≤ (n : Int) by omega, show n ≤ 35184372088832 by omega, if_true, l2]
  exact r2
theorem getD_set (s : List Bool) (i j : Nat) (b : Bool) (hi : i < s.length) : (s.set i b).getD j false = if i = j then b else s.getD j false := by
  rw [List.getD_eq_getElem?_getD, List.getElem?_set]
  by_cases e : i = j
  · subst e
    simp [hi]
  · simp [e, List.getD_eq_getElem?_getD]
theorem cw_ends (p : List Int) (n : Nat) (hp : inR n p) (a0 : Nat) (ha0 : a0 < n) (s0 : Nat → Prop) : ∀ (m : Nat) (s : List Bool) (c : List Int) (a : Nat), s.length = n → a < n → fresh s < m →
    (∀ x, x < n → s.getD x false = true → s.getD (rd p x).toNat false = true ∨ (rd p x).toNat = a) → Reach [p] n a0 a → (∀ x, x < n → s.getD x false = true → s0 x ∨ Reach [p] n a0 x) → (∀ x, s0 x → s.getD x false = true) → (s.getD a0 false = true ∨ a = a0) → (∀ x ∈ c, 0 ≤ x ∧ x < n ∧ Reach [p] n a0 x.toNat) → (a0 ≠ a → (a0 : Int) ∈ c) → (∀ x, x < n → s.getD x false = true → s0 x ∨ (x : Int) ∈ c) →
    (∀ x, x < n → (cw p m s c a).1.getD x false = true → (cw p m s c a).1.getD (rd p x).toNat false = true) ∧ (∀ x, x < n → (cw p m s c a).1.getD x false = true → s0 x ∨ Reach [p] n a0 x) ∧ (∀ x, s0 x → (cw p m s c a).1.getD x false = true) ∧ (cw p m s c a).1.getD a0 false = true ∧ (∀ x ∈ (cw p m s c a).2, 0 ≤ x ∧ x < n ∧ Reach [p] n a0 x.toNat) ∧ (∀ x, x < n → (cw p m s c a).1.getD x false = true → s0 x ∨ (x : Int) ∈ (cw p m s c a).2)
  | 0, s, c, a, hs, ha, hm, h1, h2, h3, h4, h5, h6, h7, h8 => absurd hm (Nat.not_lt_zero _)
  | m + 1, s, c, a, hs, ha, hm, h1, h2, h3, h4, h5, h6, h7, h8 => by
    simp only [cw]
    rw [rdOf_nat s a (by omega), Int.toNat_natCast]
    by_cases e : s.getD a false = true
    · rw [if_pos e]
      refine ⟨fun x hx hsx => (h1 x hx hsx).elim id (fun z => by rw [z]; exact e), h3, h4, h5.elim id (fun z => by rw [← z]; exact e), h6, h8⟩
    · rw [if_neg e]
      have pr := hp.2 a ha
      have e0 : s.getD a false = false := by simpa using e
      have fr := fresh_set s a (by omega) e0
      have back : (((rd p a).toNat : Nat) : Int) = rd p a := by omega
      have st := Reach.step (ps := [p]) (n := n) (p := p) (by simp) ha
      have ih := cw_ends p n hp a0 ha0 s0 m (s.set a true) (c ++ [(a : Int)]) (rd p a).toNat (by simpa using hs) (by omega) (by omega)
        (fun x hx hsx => by
          rw [getD_set _ _ _ _ (by omega)] at hsx ⊢
          by_cases z : a = x
          · subst z; exact .inr rfl
          · rw [if_neg z] at hsx
            by_cases y : a = (rd p x).toNat
            · rw [if_pos y]; exact .inl rfl
            · rw [if_neg y]
              exact .inl ((h1 x hx hsx).elim id (fun q => absurd q.symm y)))
        (h2.trans st)
        (fun x hx hsx => by
          rw [getD_set _ _ _ _ (by omega)] at hsx
          by_cases z : a = x
          · subst z; exact .inr h2
          · rw [if_neg z] at hsx
            exact h3 x hx hsx)
        (fun x hx => by
          rw [getD_set _ _ _ _ (by omega)]
          split
          · rfl
          · exact h4 x hx)
        (.inl (by
          rw [getD_set _ _ _ _ (by omega)]
          by_cases z : a = a0
          · rw [if_pos z]
          · rw [if_neg z]
            exact h5.elim id (fun q => absurd q z)))
        (fun x hx => by
          rw [List.mem_append, List.mem_singleton] at hx
          rcases hx with hx | rfl
          · exact h6 x hx
          · exact ⟨by omega, by omega, by rw [Int.toNat_natCast]; exact h2⟩)
        (fun _ => by
          rw [List.mem_append, List.mem_singleton]
          by_cases z : a0 = a
          · right; rw [z]
          · exact .inl (h7 z))
        (fun x hx hsx => by
          rw [List.mem_append, List.mem_singleton]
          rw [getD_set _ _ _ _ (by omega)] at hsx
          by_cases z : a = x
          · subst z; exact .inr (.inr rfl)
          · rw [if_neg z] at hsx
            exact (h8 x hx hsx).imp id .inl)
      rw [back] at ih
      exact ih
theorem cyS_seen (p : List Int) (n : Nat) (hp : inR n p) (hi : injR n p) : ∀ i, i ≤ n → ∀ x, x < n → ((cyS p n i).1.getD x false = true ↔ ∃ j, j < i ∧ Reach [p] n j x)
  | 0, _, x, hx => by
    constructor
    · intro h
      simp [cyS, List.getD_eq_getElem?_getD, List.getElem?_replicate, hx] at h
    · rintro ⟨j, hj, _⟩; omega
  | i + 1, hi', x, hx => by
    have ih := cyS_seen p n hp hi i (by omega)
    have l1 := cyS_len p n i
    simp only [cyS]
    by_cases e : (cyS p n i).1.getD i false = true
    · rw [cw_seen p (n + 1) _ _ _ (by rw [rdOf_nat _ _ (by omega), Int.toNat_natCast]; exact e)]
      rw [ih x hx]
      obtain ⟨q, q1, q2⟩ := (ih i (by omega)).1 e
      constructor
      · rintro ⟨j, hj, h⟩; exact ⟨j, by omega, h⟩
      · rintro ⟨j, hj, h⟩
        by_cases z : j = i
        · subst z; exact ⟨q, q1, q2.trans h⟩
        · exact ⟨j, by omega, h⟩
    · obtain ⟨w1, w2, w3, w4, w5, w6⟩ := cw_ends p n hp i (by omega) (fun x => x < n ∧ (cyS p n i).1.getD x false = true) (n + 1) (cyS p n i).1 [] i l1 (by omega) (by have := fresh_le (cyS p n i).1; omega)
        (fun y hy hsy => .inl (by
          have pr := hp.2 y hy
          obtain ⟨j, hj, h⟩ := (ih y hy).1 hsy
          exact (ih _ (by omega)).2 ⟨j, hj, h.trans (Reach.step (by simp) hy)⟩))
        (Reach.refl _ _ _) (fun y hy hsy => .inl ⟨hy, hsy⟩) (fun y hy => hy.2) (.inr rfl) (by simp) (fun z => absurd rfl z) (fun y hy hsy => .inl ⟨hy, hsy⟩)
      constructor
      · intro h
        rcases w2 x hx h with ⟨_, h⟩ | h
        · obtain ⟨j, hj, h⟩ := (ih x hx).1 h
          exact ⟨j, by omega, h⟩
        · exact ⟨i, by omega, h⟩
      · rintro ⟨j, hj, h⟩
        by_cases z : j = i
        · subst z
          have hc := closed_of_fwd p n hp hi (fun y => (cw p (n + 1) (cyS p n j).1 [] j).1.getD y false = true) w1
          exact (h _ hc).1 w4
        · exact w3 x ⟨hx, (ih x hx).2 ⟨j, by omega, h⟩⟩
theorem Cnt.none {P : Nat → Prop} {n : Nat} (h : ∀ x, x < n → ¬ P x) : Cnt n P 0 := ⟨[], List.nodup_nil, fun x => ⟨fun z => by simp at z, fun z => absurd z.2 (h x z.1)⟩, rfl⟩
theorem cyS_reps (p : List Int) (n : Nat) (hp : inR n p) (hi : injR n p) : ∀ i, i ≤ n → ∃ reps : List Nat, reps.length = (cyS p n i).2.length ∧ reps.Nodup ∧ (∀ j, j ∈ reps ↔ j < i ∧ lst (Reach [p] n) j) ∧ ∀ (q : Nat) (h : q < reps.length) (x : Nat), x < n → ((x : Int) ∈ rd_L1 (cyS p n i).2 q ↔ Reach [p] n reps[q] x)
  | 0, _ => ⟨[], by simp [cyS], List.nodup_nil, by simp, fun q h => by simp at h⟩
  | i + 1, hi' => by
    obtain ⟨reps, r1, r2, r3, r4⟩ := cyS_reps p n hp hi i (by omega)
    have seen := cyS_seen p n hp hi i (by omega) i (by omega)
    have l1 := cyS_len p n i
    simp only [cyS]
    by_cases e : (cyS p n i).1.getD i false = true
    · rw [cw_seen p (n + 1) _ _ _ (by rw [rdOf_nat _ _ (by omega), Int.toNat_natCast]; exact e)]
      rw [if_pos rfl]
      obtain ⟨j, hj, h⟩ := seen.1 e
      refine ⟨reps, r1, r2, fun q => ?_, r4⟩
      rw [r3]
      constructor
      · rintro ⟨a, b⟩; exact ⟨by omega, b⟩
      · rintro ⟨a, b⟩
        by_cases z : q = i
        · subst z; exact absurd h (b j hj)
        · exact ⟨by omega, b⟩
    · have e' : ¬ rdOf false (cyS p n i).1 (i : Int) = true := by rw [rdOf_nat _ _ (by omega), Int.toNat_natCast]; exact e
      have hl : lst (Reach [p] n) i := fun j hj h => e (seen.2 ⟨j, hj, h⟩)
      obtain ⟨w1, w2, w3, w4, w5, w6⟩ := cw_ends p n hp i (by omega) (fun x => x < n ∧ (cyS p n i).1.getD x false = true) (n + 1) (cyS p n i).1 [] i l1 (by omega) (by have := fresh_le (cyS p n i).1; omega)
        (fun y hy hsy => .inl (by
          have pr := hp.2 y hy
          obtain ⟨j, hj, h⟩ := (cyS_seen p n hp hi i (by omega) y hy).1 hsy
          exact (cyS_seen p n hp hi i (by omega) _ (by omega)).2 ⟨j, hj, h.trans (Reach.step (by simp) hy)⟩))
        (Reach.refl _ _ _) (fun y hy hsy => .inl ⟨hy, hsy⟩) (fun y hy => hy.2) (.inr rfl) (by simp) (fun z => absurd rfl z) (fun y hy hsy => .inl ⟨hy, hsy⟩)
      have hc := closed_of_fwd p n hp hi (fun y => (cw p (n + 1) (cyS p n i).1 [] i).1.getD y false = true) w1
      rw [if_neg (cw_new p n _ i e')]
      refine ⟨reps ++ [i], by rw [List.length_append, List.length_append, r1]; rfl, List.nodup_append.2 ⟨r2, by simp, fun a ha b hb z => ?_⟩, fun q => ?_, fun q hq x hx => ?_⟩
      · have := ((r3 a).1 ha).1
        rw [List.mem_singleton] at hb
        omega
      · rw [List.mem_append, List.mem_singleton, r3]
        constructor
        · rintro (⟨a, b⟩ | rfl)
          · exact ⟨by omega, b⟩
          · exact ⟨by omega, hl⟩
        · rintro ⟨a, b⟩
          by_cases z : q = i
          · exact .inr z
          · exact .inl ⟨by omega, b⟩
      · by_cases hq' : q < reps.length
        · rw [rdL_nth _ q (by simp; omega), List.getElem_append_left (by omega), List.getElem_append_left hq', ← rdL_nth _ q (by omega)]
          exact r4 q hq' x hx
        · have hq2 : q = reps.length := by simp at hq; omega
          subst hq2
          rw [rdL_nth _ _ (by simp; omega), List.getElem_append_right (by omega), List.getElem_append_right (Nat.le_refl _)]
          simp only [r1, Nat.sub_self, List.getElem_cons_zero]
          constructor
          · intro hm
            have := (w5 x hm).2.2
            rwa [Int.toNat_natCast] at this
          · intro h
            have z := (h _ hc).1 w4
            rcases w6 x hx z with ⟨_, z⟩ | z
            · obtain ⟨j, hj, hr⟩ := (cyS_seen p n hp hi i (by omega) x hx).1 z
              exact absurd (hr.trans h.symm) (hl j hj)
            · exact z
theorem cyS_cl (p : List Int) (n : Nat) (hp : inR n p) (hi : injR n p) : Cl n (Reach [p] n) (cyS p n n).2.length := by
  obtain ⟨reps, r1, r2, r3, _⟩ := cyS_reps p n hp hi n (Nat.le_refl _)
  exact ⟨reps, r2, r3, r1⟩
def sm : List Int → Int
  | [] => 0
  | x :: l => x + sm l
theorem sm_app : ∀ (a b : List Int), sm (a ++ b) = sm a + sm b
  | [], b => by simp [sm]
  | x :: a, b => by simp only [List.cons_append, sm, sm_app a b]; omega
theorem cw_sum (p : List Int) (n : Nat) (hp : inR n p) : ∀ (f : Nat) (s : List Bool) (c : List Int) (a : Int), s.length = n → 0 ≤ a → a < n → (cw p f s c a).2.length + fresh (cw p f s c a).1 = c.length + fresh s
  | 0, s, c, a, hs, h0, h1 => rfl
  | f + 1, s, c, a, hs, h0, h1 => by
    simp only [cw]
    by_cases e : rdOf false s a = true
    · simp only [e, if_true]
    · simp only [e, Bool.false_eq_true, if_false]
      have h3 : s.getD a.toNat false = false := by rw [← rdOf_nat s a h0]; simpa using e
      have h4 := fresh_set s a.toNat (by omega) h3
      have h5 := hp.2 a.toNat (by omega)
      rw [show ((a.toNat : Nat) : Int) = a by omega] at h5
      have ih := cw_sum p n hp f (s.set a.toNat true) (c ++ [a]) (rd p a) (by simpa using hs) h5.1 h5.2
      rw [List.length_append, List.length_singleton] at ih
      omega
theorem cyS_sum (p : List Int) (n : Nat) (hp : inR n p) : ∀ i, i ≤ n → sm (lensL (cyS p n i).2) + (fresh (cyS p n i).1 : Int) = n
  | 0, _ => by
    have : (List.replicate n false).countP (fun b => !b) = n := by rw [List.countP_replicate]; simp
    simp [cyS, lensL, sm, fresh, this]
  | i + 1, hi => by
    have ih := cyS_sum p n hp i (by omega)
    have hb := cw_sum p n hp (n + 1) (cyS p n i).1 [] i (cyS_len p n i) (by omega) (by omega)
    rw [List.length_nil, Nat.zero_add] at hb
    simp only [cyS]
    by_cases e : (cw p (n + 1) (cyS p n i).1 [] (i : Int)).2 = []
    · rw [if_pos e]
      rw [e, List.length_nil] at hb
      omega
    · rw [if_neg e]
      unfold lensL at ih ⊢
      rw [List.map_append, sm_app]
      simp only [List.map_cons, List.map_nil, sm]
      omega
theorem lens_sum (p : List Int) (n : Nat) (hp : inR n p) (hi : injR n p) : sm (lensL (cyS p n n).2) = n := by
  have h := cyS_sum p n hp n (Nat.le_refl _)
  have hl := cyS_len p n n
  have hf : fresh (cyS p n n).1 = 0 := by
    unfold fresh
    rw [List.countP_eq_zero]
    intro b hb
    obtain ⟨i, hi', rfl⟩ := List.mem_iff_getElem.1 hb
    have := (cyS_seen p n hp hi n (Nat.le_refl _) i (by omega)).2 ⟨i, by omega, Reach.refl _ _ _⟩
    rw [List.getD_eq_getElem?_getD, List.getElem?_eq_getElem hi', Option.getD_some] at this
    rw [this]
    decide
  omega
theorem four_sum : ∀ (C : List (List Int)), (∀ l ∈ C, 4 ≤ l.length) → 4 * (C.length : Int) ≤ sm (lensL C) ∧ (sm (lensL C) ≤ 4 * (C.length : Int) → ∀ l ∈ C, l.length = 4)
  | [], _ => ⟨by simp [lensL, sm], fun _ l hl => by simp at hl⟩
  | x :: C, h => by
    obtain ⟨a, b⟩ := four_sum C fun l hl => h l (by simp [hl])
    have hx := h x (by simp)
    have e : sm (lensL (x :: C)) = (x.length : Int) + sm (lensL C) := rfl
    rw [e]
    simp only [List.length_cons]
    refine ⟨by omega, fun hs l hl => ?_⟩
    rcases List.mem_cons.1 hl with rfl | hl
    · omega
    · exact b (by omega) l hl
theorem flat_len (g : Nat → List Nat) (hg : ∀ r, (g r).length = 4) : ∀ L : List Nat, (L.flatMap g).length = 4 * L.length
  | [] => rfl
  | r :: L => by
    rw [List.flatMap_cons, List.length_append, flat_len g hg L, hg]
    simp only [List.length_cons]
    omega
theorem four_cycles (p : List Int) (n : Nat) (hp : inR n p) (hi : injR n p) (h4 : ∀ x : Nat, x < n → rd p (rd p (rd p (rd p (x : Int)))) = x) (h2 : ∀ x : Nat, x < n → rd p (rd p (x : Int)) ≠ x) :
    (∀ l ∈ (cyS p n n).2, l.length = 4) ∧ 4 * (cyS p n n).2.length = n := by
  obtain ⟨reps, r1, r2, r3, r4⟩ := cyS_reps p n hp hi n (Nat.le_refl _)
  -- a point's four places
  have pn : ∀ x : Nat, x < n → (rd p (x : Int)).toNat < n ∧ (((rd p (x : Int)).toNat : Nat) : Int) = rd p (x : Int) := fun x hx => by
    have := hp.2 x hx
    omega
  have H4 : ∀ x : Nat, x < n → (rd p (((rd p (((rd p (((rd p (x : Int)).toNat : Nat) : Int)).toNat : Nat) : Int)).toNat : Nat) : Int)).toNat = x := fun x hx => by
    obtain ⟨a1, a2⟩ := pn x hx
    obtain ⟨b1, b2⟩ := pn _ a1
    obtain ⟨c1, c2⟩ := pn _ b1
    rw [a2] at b1 b2 c1 c2 ⊢
    rw [b2] at c1 c2 ⊢
    rw [c2, h4 x hx, Int.toNat_natCast]
  have H2 : ∀ x : Nat, x < n → (rd p (((rd p (x : Int)).toNat : Nat) : Int)).toNat ≠ x := fun x hx e => by
    obtain ⟨a1, a2⟩ := pn x hx
    obtain ⟨b1, b2⟩ := pn _ a1
    rw [a2] at b2 e
    exact h2 x hx (by omega)
  generalize hP : (fun x : Nat => (rd p (x : Int)).toNat) = P at *
  have eP : ∀ x : Nat, (rd p (x : Int)).toNat = P x := fun x => by rw [← hP]
  simp only [eP] at pn H4 H2
  have st : ∀ x : Nat, x < n → Reach [p] n x (P x) := fun x hx => by
    have := Reach.step (ps := [p]) (n := n) (p := p) (by simp) hx
    rwa [eP] at this
  have four : ∀ l ∈ (cyS p n n).2, 4 ≤ l.length := by
    intro l hl
    obtain ⟨q, hq, rfl⟩ := List.mem_iff_getElem.1 hl
    have hq' : q < reps.length := by omega
    have rlt := ((r3 reps[q]).1 (List.getElem_mem hq')).1
    have el : rd_L1 (cyS p n n).2 (q : Int) = (cyS p n n).2[q] := by
      unfold rd_L1
      rw [Int.toNat_natCast]
      simp [List.getD, hq]
    have mem : ∀ x : Nat, x < n → Reach [p] n reps[q] x → x ∈ ((cyS p n n).2[q]).map Int.toNat := fun x hx hr => by
      have := (r4 q hq' x hx).2 hr
      rw [el] at this
      exact List.mem_map.2 ⟨_, this, Int.toNat_natCast x⟩
    generalize reps[q] = r at *
    have a1 := (pn r rlt).1
    have b1 := (pn _ a1).1
    have c1 := (pn _ b1).1
    have s1 := st r rlt
    have s2 := s1.trans (st _ a1)
    have s3 := s2.trans (st _ b1)
    have ne1 : P r ≠ r := fun e => H2 r rlt (by rw [e, e])
    have ne2 := H2 r rlt
    have ne3 : P (P (P r)) ≠ r := fun e => H2 r rlt (by
      have := H4 r rlt
      rw [e] at this
      rw [this, this])
    have ne4 : P (P r) ≠ P r := fun e => H2 _ a1 (by rw [e, e])
    have ne5 := H2 _ a1
    have ne6 : P (P (P r)) ≠ P (P r) := fun e => H2 _ b1 (by rw [e, e])
    have nd : ([r, P r, P (P r), P (P (P r))] : List Nat).Nodup := by
      simp only [List.nodup_cons, List.mem_cons, List.not_mem_nil, or_false, not_or, not_false_eq_true, List.nodup_nil, and_true]
      exact ⟨⟨fun e => ne1 e.symm, fun e => ne2 e.symm, fun e => ne3 e.symm⟩, ⟨fun e => ne4 e.symm, fun e => ne5 e.symm⟩, fun e => ne6 e.symm⟩
    have := len_le_of_sub [r, P r, P (P r), P (P (P r))] (((cyS p n n).2[q]).map Int.toNat) nd (fun x hx => by
      simp only [List.mem_cons, List.not_mem_nil, or_false] at hx
      rcases hx with rfl | rfl | rfl | rfl
      · exact mem _ rlt (Reach.refl _ _ _)
      · exact mem _ a1 s1
      · exact mem _ b1 s2
      · exact mem _ c1 s3)
    simpa using this
  have many : n ≤ 4 * (cyS p n n).2.length := by
    have := len_le_of_sub (List.range n) (reps.flatMap fun r => [r, P r, P (P r), P (P (P r))]) List.nodup_range (fun x hx => by
      have hx := List.mem_range.1 hx
      obtain ⟨y, y1, y2, y3⟩ := lst_ex (Reach [p] n) (fun x => Reach.refl _ _ x) (fun x y h => h.symm) (fun x y z h h' => h.trans h') x
      have hy : y < n := by omega
      refine List.mem_flatMap.2 ⟨y, (r3 y).2 ⟨hy, y2⟩, ?_⟩
      have cl := closed_of_fwd p n hp hi (fun z => z = y ∨ z = P y ∨ z = P (P y) ∨ z = P (P (P y))) (fun k hk hs => by
        rw [eP]
        rcases hs with rfl | rfl | rfl | rfl
        · exact .inr (.inl rfl)
        · exact .inr (.inr (.inl rfl))
        · exact .inr (.inr (.inr rfl))
        · exact .inl (H4 y hy))
      have := (y3 _ cl).1 (.inl rfl)
      simp only [List.mem_cons, List.not_mem_nil, or_false]
      exact this)
    rw [flat_len _ (fun _ => rfl), List.length_range, r1] at this
    exact this
  have hs := lens_sum p n hp hi
  obtain ⟨f1, f2⟩ := four_sum _ four
  rw [hs] at f1 f2
  exact ⟨f2 (by omega), by omega⟩
def visit (s : List Int × List Int) (d : Int) : List Int × List Int := if rd s.1 d < 0 then (s.1.set d.toNat (s.2.length : Int), s.2 ++ [d]) else s
def wk (t f : List Int) : Nat → List Int → List Int → Nat → List Int
  | 0, nm, od, i => nm
  | k + 1, nm, od, i => if i < od.length then wk t f k (visit (visit (nm, od) (rd t (rd od (i : Int)))) (rd f (rd od (i : Int)))).1 (visit (visit (nm, od) (rd t (rd od (i : Int)))) (rd f (rd od (i : Int)))).2 (i + 1) else nm
def NI (n : Nat) (s : List Int × List Int) : Prop := s.1.length = n ∧ (∀ k : Nat, k < s.2.length → 0 ≤ rd s.2 (k : Int) ∧ rd s.2 (k : Int) < n ∧ rd s.1 (rd s.2 (k : Int)) = k) ∧ ∀ x : Nat, x < n → rd s.1 (x : Int) < 0 ∨ (0 ≤ rd s.1 (x : Int) ∧ rd s.1 (x : Int) < s.2.length ∧ rd s.2 (rd s.1 (x : Int)) = x)
theorem rd_appL (l : List Int) (v : Int) (k : Nat) (h : k < l.length) : rd (l ++ [v]) (k : Int) = rd l (k : Int) := by
  rw [rd_lt _ _ (by simp; omega), rd_lt _ _ h, List.getElem_append_left h]
theorem rd_appR (l : List Int) (v : Int) : rd (l ++ [v]) (l.length : Int) = v := by
  rw [rd_lt _ _ (by simp)]
  simp
theorem NI.visit {n : Nat} {s : List Int × List Int} (h : NI n s) (d : Int) (h0 : 0 ≤ d) (h1 : d < n) : NI n (visit s d) ∧ 0 ≤ rd (Go.Proofs.Ytggghijamfmenaa.PA.visit s d).1 d ∧ s.2.length ≤ (Go.Proofs.Ytggghijamfmenaa.PA.visit s d).2.length ∧ (∀ k : Nat, k < s.2.length → rd (Go.Proofs.Ytggghijamfmenaa.PA.visit s d).2 (k : Int) = rd s.2 (k : Int)) ∧ ∀ x : Nat, x < n → 0 ≤ rd s.1 (x : Int) → 0 ≤ rd (Go.Proofs.Ytggghijamfmenaa.PA.visit s d).1 (x : Int) := by
  obtain ⟨a, b, c⟩ := id h
  have ed : ((d.toNat : Nat) : Int) = d := by omega
  unfold Go.Proofs.Ytggghijamfmenaa.PA.visit
  by_cases z : rd s.1 d < 0
  · rw [if_pos z]
    have put : ∀ x : Nat, rd (s.1.set d.toNat (s.2.length : Int)) (x : Int) = if x = d.toNat then (s.2.length : Int) else rd s.1 (x : Int) := fun x => rd_put s.1 d.toNat x _ (by omega)
    refine ⟨⟨by simp [a], fun k hk => ?_, fun x hx => ?_⟩, ?_, by simp, fun k hk => rd_appL _ _ _ hk, fun x hx hx0 => ?_⟩
    · simp only [List.length_append, List.length_cons, List.length_nil] at hk
      by_cases y : k < s.2.length
      · obtain ⟨k1, k2, k3⟩ := b k y
        have eo : (((rd s.2 (k : Int)).toNat : Nat) : Int) = rd s.2 (k : Int) := by omega
        show 0 ≤ rd (s.2 ++ [d]) (k : Int) ∧ rd (s.2 ++ [d]) (k : Int) < n ∧ rd (s.1.set d.toNat (s.2.length : Int)) (rd (s.2 ++ [d]) (k : Int)) = k
        rw [rd_appL _ _ _ y]
        refine ⟨k1, k2, ?_⟩
        rw [← eo, put, if_neg, eo]
        · exact k3
        · intro w
          have : rd s.2 (k : Int) = d := by omega
          rw [this] at k3
          omega
      · have : k = s.2.length := by omega
        subst this
        show 0 ≤ rd (s.2 ++ [d]) (s.2.length : Int) ∧ rd (s.2 ++ [d]) (s.2.length : Int) < n ∧ rd (s.1.set d.toNat (s.2.length : Int)) (rd (s.2 ++ [d]) (s.2.length : Int)) = s.2.length
        rw [rd_appR]
        refine ⟨h0, h1, ?_⟩
        have pd := put d.toNat
        rw [ed, if_pos rfl] at pd
        exact pd
    · show rd (s.1.set d.toNat (s.2.length : Int)) (x : Int) < 0 ∨ (0 ≤ rd (s.1.set d.toNat (s.2.length : Int)) (x : Int) ∧ rd (s.1.set d.toNat (s.2.length : Int)) (x : Int) < ((s.2 ++ [d]).length : Nat) ∧ rd (s.2 ++ [d]) (rd (s.1.set d.toNat (s.2.length : Int)) (x : Int)) = x)
      rw [put]
      by_cases y : x = d.toNat
      · rw [if_pos y]
        right
        refine ⟨by omega, by simp only [List.length_append, List.length_cons, List.length_nil]; omega, ?_⟩
        rw [rd_appR]
        omega
      · rw [if_neg y]
        rcases c x hx with w | ⟨w1, w2, w3⟩
        · exact .inl w
        · right
          refine ⟨w1, by simp only [List.length_append, List.length_cons, List.length_nil]; omega, ?_⟩
          have ew : (((rd s.1 (x : Int)).toNat : Nat) : Int) = rd s.1 (x : Int) := by omega
          rw [← ew, rd_appL _ _ _ (by omega), ew]
          exact w3
    · show 0 ≤ rd (s.1.set d.toNat (s.2.length : Int)) d
      have pd := put d.toNat
      rw [ed, if_pos rfl] at pd
      rw [pd]
      omega
    · show 0 ≤ rd (s.1.set d.toNat (s.2.length : Int)) (x : Int)
      rw [put]
      split
      · omega
      · exact hx0
  · rw [if_neg z]
    exact ⟨h, by omega, Nat.le_refl _, fun _ _ => rfl, fun _ _ q => q⟩
theorem NI.le {n : Nat} {s : List Int × List Int} (h : NI n s) : s.2.length ≤ n := by
  obtain ⟨a, b, c⟩ := h
  have nd : ((List.range s.2.length).map fun (k : Nat) => (rd s.2 (k : Int)).toNat).Nodup := by
    refine List.pairwise_map.2 (List.Pairwise.imp_of_mem (fun {x y} hx hy hxy e => hxy ?_) (List.nodup_range (n := s.2.length)))
    have b1 := b x (List.mem_range.1 hx)
    have b2 := b y (List.mem_range.1 hy)
    have e : (rd s.2 (x : Int)).toNat = (rd s.2 (y : Int)).toNat := e
    have : rd s.2 (x : Int) = rd s.2 (y : Int) := by omega
    rw [this] at b1
    omega
  have := len_le_of_sub ((List.range s.2.length).map fun (k : Nat) => (rd s.2 (k : Int)).toNat) (List.range n) nd (fun x hx => by
    obtain ⟨k, hk, rfl⟩ := List.mem_map.1 hx
    have := b k (List.mem_range.1 hk)
    exact List.mem_range.2 (by omega))
  simpa using this
theorem visit_ev (t f nm od ds : List Int) (i : Int) (n : Nat) (hn : n ≤ 12) (h : NI n (nm, od)) (j : Nat) (hj : j < ds.length) (hds : ds.length = 2) (h0 : 0 ≤ rd ds (j : Int)) (h1 : rd ds (j : Int) < n) (r : List Int)
    (e : Ev (fun k => impl_namesFrom.l2 k (visit (nm, od) (rd ds (j : Int))).1 (visit (nm, od) (rd ds (j : Int))).2 i ds (ds.length : Int) ((j + 1 : Nat) : Int) t f) r) : Ev (fun k => impl_namesFrom.l2 k nm od i ds (ds.length : Int) (j : Int) t f) r := by
  have hl := h.le
  have hl : od.length ≤ n := hl
  have hnm : nm.length = n := h.1
  refine Ev.s ?_
  simp only [impl_namesFrom.l2, show (j : Int) < (ds.length : Int) by omega, show (0 : Int) ≤ (j : Int) by omega, h0, show rd ds (j : Int) < (nm.length : Int) by omega, if_true]
  rw [w64n (show j < 4611686018427387904 by omega)]
  unfold visit at e
  by_cases z : rd nm (rd ds (j : Int)) < 0
  · simp only [z, if_true, show od.length < 17592186044416 by omega] at e ⊢
    exact e
  · simp only [z, if_false] at e ⊢
    exact e
theorem wk_ev (t f : List Int) (n : Nat) (hn : n ≤ 12) (ht : inR n t) (hf : inR n f) : ∀ (m : Nat) (nm od : List Int) (i : Nat), NI n (nm, od) → i ≤ od.length → n - i < m → Ev (fun k => impl_namesFrom.l1 k nm od (i : Int) t f) (wk t f m nm od i)
  | 0, nm, od, i, h, hi, hm => by omega
  | m + 1, nm, od, i, h, hi, hm => by
    have hl : od.length ≤ n := h.le
    by_cases z : i < od.length
    · obtain ⟨b1, b2, b3⟩ := h.2.1 i z
      have b1 : 0 ≤ rd od (i : Int) := b1
      have b2 : rd od (i : Int) < n := b2
      have eo : (((rd od (i : Int)).toNat : Nat) : Int) = rd od (i : Int) := by omega
      have rt := ht.2 (rd od (i : Int)).toNat (by omega)
      have rf := hf.2 (rd od (i : Int)).toNat (by omega)
      rw [eo] at rt rf
      obtain ⟨v1, v2, v3, v4, v5⟩ := h.visit (rd t (rd od (i : Int))) rt.1 rt.2
      obtain ⟨u1, u2, u3, u4, u5⟩ := v1.visit (rd f (rd od (i : Int))) rf.1 rf.2
      have ih := wk_ev t f n hn ht hf m (visit (visit (nm, od) (rd t (rd od (i : Int)))) (rd f (rd od (i : Int)))).1 (visit (visit (nm, od) (rd t (rd od (i : Int)))) (rd f (rd od (i : Int)))).2 (i + 1) u1 (by have : od.length ≤ _ := v3; omega) (by omega)
      have hw : wk t f (m + 1) nm od i = wk t f m (visit (visit (nm, od) (rd t (rd od (i : Int)))) (rd f (rd od (i : Int)))).1 (visit (visit (nm, od) (rd t (rd od (i : Int)))) (rd f (rd od (i : Int)))).2 (i + 1) := by
        rw [wk, if_pos z]
      rw [hw]
      refine Ev.s ?_
      have htl := ht.1
      have hfl := hf.1
      simp only [impl_namesFrom.l1, show (i : Int) < (od.length : Int) by omega, show (0 : Int) ≤ (i : Int) by omega, b1, show rd od (i : Int) < (t.length : Int) by omega, show rd od (i : Int) < (f.length : Int) by omega, if_true, Option.bind_some]
      have d0 : rd [rd t (rd od (i : Int)), rd f (rd od (i : Int))] ((0 : Nat) : Int) = rd t (rd od (i : Int)) := rfl
      have d1 : rd [rd t (rd od (i : Int)), rd f (rd od (i : Int))] ((1 : Nat) : Int) = rd f (rd od (i : Int)) := rfl
      refine visit_ev t f nm od [rd t (rd od (i : Int)), rd f (rd od (i : Int))] i n hn h 0 (by simp) rfl (by rw [d0]; exact rt.1) (by rw [d0]; exact rt.2) _ ?_
      rw [d0]
      refine visit_ev t f _ _ [rd t (rd od (i : Int)), rd f (rd od (i : Int))] i n hn v1 1 (by simp) rfl (by rw [d1]; exact rf.1) (by rw [d1]; exact rf.2) _ ?_
      rw [d1]
      refine Ev.s ?_
      simp only [impl_namesFrom.l2, show ¬ (((1 + 1 : Nat) : Int) < (([rd t (rd od (i : Int)), rd f (rd od (i : Int))] : List Int).length : Int)) by simp, if_false]
      rw [w64n (show i < 4611686018427387904 by omega)]
      exact ih
    · have hw : wk t f (m + 1) nm od i = nm := by rw [wk, if_neg z]
      rw [hw]
      refine Ev.s ?_
      simp only [impl_namesFrom.l1, show ¬ (i : Int) < (od.length : Int) by omega, if_false]
      exact Ev.const rfl
theorem wk_end (t f : List Int) (n : Nat) (ht : inR n t) (hf : inR n f) : ∀ (m : Nat) (nm od : List Int) (i : Nat), NI n (nm, od) → i ≤ od.length → n - i < m → (∀ k : Nat, k < i → 0 ≤ rd nm (rd t (rd od (k : Int))) ∧ 0 ≤ rd nm (rd f (rd od (k : Int)))) →
    ∃ od', NI n (wk t f m nm od i, od') ∧ (∀ k : Nat, k < od'.length → 0 ≤ rd (wk t f m nm od i) (rd t (rd od' (k : Int))) ∧ 0 ≤ rd (wk t f m nm od i) (rd f (rd od' (k : Int)))) ∧ ∀ x : Nat, x < n → 0 ≤ rd nm (x : Int) → 0 ≤ rd (wk t f m nm od i) (x : Int)
  | 0, nm, od, i, h, hi, hm, hc => by omega
  | m + 1, nm, od, i, h, hi, hm, hc => by
    have hl : od.length ≤ n := h.le
    by_cases z : i < od.length
    · obtain ⟨b1, b2, b3⟩ := h.2.1 i z
      have b1 : 0 ≤ rd od (i : Int) := b1
      have b2 : rd od (i : Int) < n := b2
      have eo : (((rd od (i : Int)).toNat : Nat) : Int) = rd od (i : Int) := by omega
      have rt := ht.2 (rd od (i : Int)).toNat (by omega)
      have rf := hf.2 (rd od (i : Int)).toNat (by omega)
      rw [eo] at rt rf
      obtain ⟨v1, v2, v3, v4, v5⟩ := h.visit (rd t (rd od (i : Int))) rt.1 rt.2
      obtain ⟨u1, u2, u3, u4, u5⟩ := v1.visit (rd f (rd od (i : Int))) rf.1 rf.2
      have v3 : od.length ≤ _ := v3
      have hw : wk t f (m + 1) nm od i = wk t f m (visit (visit (nm, od) (rd t (rd od (i : Int)))) (rd f (rd od (i : Int)))).1 (visit (visit (nm, od) (rd t (rd od (i : Int)))) (rd f (rd od (i : Int)))).2 (i + 1) := by
        rw [wk, if_pos z]
      rw [hw]
      have more : ∀ x : Int, 0 ≤ x → x < n → 0 ≤ rd nm x → 0 ≤ rd (visit (visit (nm, od) (rd t (rd od (i : Int)))) (rd f (rd od (i : Int)))).1 x := fun x x0 x1 hx => by
        have := u5 x.toNat (by omega) (v5 x.toNat (by omega) (by rw [show ((x.toNat : Nat) : Int) = x by omega]; exact hx))
        rwa [show ((x.toNat : Nat) : Int) = x by omega] at this
      obtain ⟨od', q1, q2, q3⟩ := wk_end t f n ht hf m (visit (visit (nm, od) (rd t (rd od (i : Int)))) (rd f (rd od (i : Int)))).1 (visit (visit (nm, od) (rd t (rd od (i : Int)))) (rd f (rd od (i : Int)))).2 (i + 1) u1 (by omega) (by omega) (fun k hk => by
        have ek : rd (visit (visit (nm, od) (rd t (rd od (i : Int)))) (rd f (rd od (i : Int)))).2 (k : Int) = rd od (k : Int) := by
          rw [u4 k (by have : od.length ≤ (visit (nm, od) (rd t (rd od (i : Int)))).2.length := v3; omega), v4 k (by show k < od.length; omega)]
        rw [ek]
        by_cases y : k = i
        · subst y
          refine ⟨?_, u2⟩
          have := u5 (rd t (rd od (k : Int))).toNat (by omega) (by rw [show (((rd t (rd od (k : Int))).toNat : Nat) : Int) = rd t (rd od (k : Int)) by omega]; exact v2)
          rwa [show (((rd t (rd od (k : Int))).toNat : Nat) : Int) = rd t (rd od (k : Int)) by omega] at this
        · obtain ⟨c1, c2⟩ := hc k (by omega)
          obtain ⟨k1, k2, _⟩ := h.2.1 k (by show k < od.length; omega)
          have k1 : 0 ≤ rd od (k : Int) := k1
          have k2 : rd od (k : Int) < n := k2
          have ek2 : (((rd od (k : Int)).toNat : Nat) : Int) = rd od (k : Int) := by omega
          have kt := ht.2 (rd od (k : Int)).toNat (by omega)
          have kf := hf.2 (rd od (k : Int)).toNat (by omega)
          rw [ek2] at kt kf
          exact ⟨more _ kt.1 kt.2 c1, more _ kf.1 kf.2 c2⟩)
      exact ⟨od', q1, q2, fun x hx hx0 => q3 x hx (more x (by omega) (by omega) hx0)⟩
    · have hw : wk t f (m + 1) nm od i = nm := by rw [wk, if_neg z]
      rw [hw]
      exact ⟨od, h, fun k hk => hc k (by omega), fun x _ q => q⟩
def nmF (t f : List Int) (n r : Nat) : List Int := wk t f (n + 1) ((List.replicate n (-1)).set r 0) [(r : Int)] 0
theorem NI_start (n r : Nat) (hr : r < n) : NI n ((List.replicate n (-1)).set r 0, [(r : Int)]) := by
  have put : ∀ x : Nat, x < n → rd ((List.replicate n (-1)).set r 0) (x : Int) = if x = r then 0 else -1 := fun x hx => by
    rw [rd_put _ _ _ _ (by simpa using hr)]
    split
    · rfl
    · exact rd_rep n (-1) x hx
  refine ⟨by simp, fun k hk => ?_, fun x hx => ?_⟩
  · simp only [List.length_cons, List.length_nil] at hk
    have : k = 0 := by omega
    subst this
    show 0 ≤ (r : Int) ∧ (r : Int) < n ∧ rd ((List.replicate n (-1)).set r 0) (r : Int) = ((0 : Nat) : Int)
    refine ⟨by omega, by omega, ?_⟩
    rw [put r hr, if_pos rfl]
    rfl
  · show rd ((List.replicate n (-1)).set r 0) (x : Int) < 0 ∨ (0 ≤ rd ((List.replicate n (-1)).set r 0) (x : Int) ∧ rd ((List.replicate n (-1)).set r 0) (x : Int) < (1 : Nat) ∧ rd [(r : Int)] (rd ((List.replicate n (-1)).set r 0) (x : Int)) = x)
    rw [put x hx]
    by_cases z : x = r
    · rw [if_pos z, z]
      exact .inr ⟨by decide, by decide, rfl⟩
    · rw [if_neg z]
      exact .inl (by decide)
theorem nmF_ok (t f : List Int) (n : Nat) (H : MapK t f n) (r : Nat) (hr : r < n) : inR n (nmF t f n r) ∧ injR n (nmF t f n r) := by
  obtain ⟨hn, h1, ht, hi, hf, hfl, hcon⟩ := H
  obtain ⟨od, q1, q2, q3⟩ := wk_end t f n ht hf (n + 1) _ _ 0 (NI_start n r hr) (Nat.zero_le _) (by omega) (fun k hk => by omega)
  change NI n (nmF t f n r, od) at q1
  change ∀ k : Nat, k < od.length → 0 ≤ rd (nmF t f n r) (rd t (rd od (k : Int))) ∧ 0 ≤ rd (nmF t f n r) (rd f (rd od (k : Int))) at q2
  change ∀ x : Nat, x < n → 0 ≤ rd ((List.replicate n (-1)).set r 0) (x : Int) → 0 ≤ rd (nmF t f n r) (x : Int) at q3
  have hl : od.length ≤ n := q1.le
  obtain ⟨a, b, c⟩ := id q1
  have a : (nmF t f n r).length = n := a
  have b : ∀ k : Nat, k < od.length → 0 ≤ rd od (k : Int) ∧ rd od (k : Int) < n ∧ rd (nmF t f n r) (rd od (k : Int)) = k := b
  have c : ∀ x : Nat, x < n → rd (nmF t f n r) (x : Int) < 0 ∨ (0 ≤ rd (nmF t f n r) (x : Int) ∧ rd (nmF t f n r) (x : Int) < od.length ∧ rd od (rd (nmF t f n r) (x : Int)) = x) := c
  have root : 0 ≤ rd (nmF t f n r) (r : Int) := q3 r hr (by rw [rd_put _ _ _ _ (by simpa using hr), if_pos rfl]; omega)
  -- what is named is closed under the turn and the flip
  have fwd : ∀ x : Nat, x < n → 0 ≤ rd (nmF t f n r) (x : Int) → 0 ≤ rd (nmF t f n r) (rd t (x : Int)) ∧ 0 ≤ rd (nmF t f n r) (rd f (x : Int)) := by
    intro x hx h0
    rcases c x hx with w | ⟨w1, w2, w3⟩
    · omega
    · have := q2 (rd (nmF t f n r) (x : Int)).toNat (by omega)
      rw [show (((rd (nmF t f n r) (x : Int)).toNat : Nat) : Int) = rd (nmF t f n r) (x : Int) by omega, w3] at this
      exact this
  have all : ∀ x : Nat, x < n → 0 ≤ rd (nmF t f n r) (x : Int) := by
    intro x hx
    have ct := closed_of_fwd t n ht hi (fun z => z < n → 0 ≤ rd (nmF t f n r) (z : Int)) (fun k hk hs hk' => by
      have r := ht.2 k hk
      have := (fwd k hk (hs hk)).1
      rwa [show (((rd t (k : Int)).toNat : Nat) : Int) = rd t (k : Int) by omega])
    have cf : ∀ k : Nat, k < n → ((k < n → 0 ≤ rd (nmF t f n r) (k : Int)) ↔ ((rd f (k : Int)).toNat < n → 0 ≤ rd (nmF t f n r) ((rd f (k : Int)).toNat : Int))) := by
      intro k hk
      have rr := hf.2 k hk
      have e0 : (((rd f (k : Int)).toNat : Nat) : Int) = rd f (k : Int) := by omega
      constructor
      · intro hs _
        rw [e0]
        exact (fwd k hk (hs hk)).2
      · intro hs _
        have := (fwd (rd f (k : Int)).toNat (by omega) (hs (by omega))).2
        rwa [e0, (hfl k hk).2] at this
    refine ((hcon r x hr hx) (fun z => z < n → 0 ≤ rd (nmF t f n r) (z : Int)) ?_).1 (fun _ => root) hx
    intro p hp k hk
    rcases List.mem_cons.1 hp with rfl | hp
    · exact ct p (by simp) k hk
    · rw [List.mem_singleton.1 hp]
      exact cf k hk
  refine ⟨⟨a, fun x hx => ?_⟩, fun x y hx hy e => ?_⟩
  · rcases c x hx with w | ⟨w1, w2, w3⟩
    · have := all x hx
      omega
    · exact ⟨w1, by omega⟩
  · rcases c x hx with w | ⟨w1, w2, w3⟩
    · have := all x hx
      omega
    · rcases c y hy with v | ⟨v1, v2, v3⟩
      · have := all y hy
        omega
      · rw [e] at w3
        omega
theorem names_init (t f : List Int) (n : Nat) (hn : n ≤ 12) (r : Nat) (hr : r < n) (o : List Int) (h : Ev (fun k => impl_namesFrom.l1 k ((List.replicate n (-1)).set r 0) [(r : Int)] 0 t f) o) : ∀ (d i : Nat) (y : List Int), n - i = d → i ≤ n → y.length = n → (∀ z : Nat, z < i → rd y (z : Int) = -1) → Ev (fun k => impl_namesFrom.l0 k (r : Int) y (n : Int) (i : Int) t f) o
  | 0, i, y, hd, hi, hy, hz => by
    have : i = n := by omega
    subst this
    have ey : y = List.replicate i (-1) := list_ext _ _ (by simp [hy]) fun z hz' => by
      rw [hz z (by omega), rd_rep i (-1) z (by omega)]
    subst ey
    refine Ev.s ?_
    simp only [impl_namesFrom.l0, show ¬ (i : Int) < (i : Int) by omega, if_false, show (0 : Int) ≤ (r : Int) by omega, List.length_replicate, show (r : Int) < (i : Int) by omega, if_true, Int.toNat_natCast]
    exact h
  | d + 1, i, y, hd, hi, hy, hz => by
    have ih := names_init t f n hn r hr o h d (i + 1) (y.set i (-1)) (by omega) (by omega) (by simp [hy]) (fun z hz' => by
      rw [rd_put _ _ _ _ (by omega)]
      split
      · rfl
      · exact hz z (by omega))
    refine Ev.s ?_
    simp only [impl_namesFrom.l0, show (i : Int) < (n : Int) by omega, show (0 : Int) ≤ (i : Int) by omega, hy, if_true, Int.toNat_natCast]
    rw [w64n (show i < 4611686018427387904 by omega)]
    exact ih
theorem names_ev (t f : List Int) (n : Nat) (H : MapK t f n) (r : Nat) (hr : r < n) : Ev (fun k => impl_namesFrom.f k t f (r : Int)) (nmF t f n r) := by
  obtain ⟨hn, h1, ht, hi, hf, hfl, hcon⟩ := H
  have w := wk_ev t f n hn ht hf (n + 1) _ _ 0 (NI_start n r hr) (Nat.zero_le _) (by omega)
  have hl := ht.1
  unfold impl_namesFrom.f
  simp only [hl, show (0 : Int) ≤ (n : Int) by omega, Int.toNat_natCast, show n ≤ 35184372088832 by omega, if_true, Option.bind_some, List.length_replicate]
  exact names_init t f n hn r hr _ w n 0 (List.replicate n 0) (by omega) (by omega) (by simp) (fun z hz => by omega)
def reT (t nm : List Int) (n : Nat) : List Int := mulL (mulL (backL nm n n) t n) nm n
theorem renamed_ev (t f nm : List Int) (n : Nat) (hn : n ≤ 12) (ht : inR n t) (hf : inR n f) (hm : inR n nm) : Ev (fun k => impl_renamed.f k t f nm) (reT t nm n, reT f nm n) := by
  have hb := implBack_ev n (by omega) nm hm
  have hbi := backL_inR nm n
  unfold impl_renamed.f
  refine Ev.bind hb ?_
  refine Ev.bind (implMul_ev n (by omega) _ _ hbi ht) ?_
  refine Ev.bind (implMul_ev n (by omega) _ _ (mulL_inR n _ _ hbi ht) hm) ?_
  refine Ev.bind hb ?_
  refine Ev.bind (implMul_ev n (by omega) _ _ hbi hf) ?_
  refine Ev.bind (implMul_ev n (by omega) _ _ (mulL_inR n _ _ hbi hf) hm) ?_
  exact Ev.const rfl
def Iso (n : Nat) (s : Nat → Nat) (t f t' f' : List Int) : Prop := (∀ x, x < n → s x < n) ∧ (∀ x y, x < n → y < n → s x = s y → x = y) ∧ (∀ x, x < n → rd t' ((s x : Nat) : Int) = (s (rd t (x : Int)).toNat : Int)) ∧ ∀ x, x < n → rd f' ((s x : Nat) : Int) = (s (rd f (x : Int)).toNat : Int)
def ER (n : Nat) (s : Nat → Nat) (a b : List Int × List Int) : Prop := b.2.length = a.2.length ∧ (∀ k : Nat, k < a.2.length → rd b.2 (k : Int) = (s (rd a.2 (k : Int)).toNat : Int)) ∧ ∀ x, x < n → rd b.1 ((s x : Nat) : Int) = rd a.1 (x : Int)
theorem ER.visit {n : Nat} {s : Nat → Nat} {a b : List Int × List Int} (h : ER n s a b) (ha : NI n a) (hb : NI n b) (s1 : ∀ x, x < n → s x < n) (s2 : ∀ x y, x < n → y < n → s x = s y → x = y) (d : Nat) (hd : d < n) : ER n s (visit a (d : Int)) (visit b ((s d : Nat) : Int)) := by
  obtain ⟨e1, e2, e3⟩ := h
  unfold Go.Proofs.Ytggghijamfmenaa.PA.visit
  rw [e3 d hd]
  by_cases z : rd a.1 (d : Int) < 0
  · rw [if_pos z, if_pos z]
    refine ⟨by simp [e1], fun k hk => ?_, fun x hx => ?_⟩
    · simp only [List.length_append, List.length_cons, List.length_nil] at hk
      show rd (b.2 ++ [((s d : Nat) : Int)]) (k : Int) = (s (rd (a.2 ++ [(d : Int)]) (k : Int)).toNat : Int)
      by_cases y : k < a.2.length
      · rw [rd_appL _ _ _ y, rd_appL _ _ _ (by omega), e2 k y]
      · have : k = a.2.length := by omega
        subst this
        rw [rd_appR, ← e1, rd_appR, Int.toNat_natCast]
    · show rd (b.1.set ((s d : Nat) : Int).toNat (b.2.length : Int)) ((s x : Nat) : Int) = rd (a.1.set (d : Int).toNat (a.2.length : Int)) (x : Int)
      have l1 := ha.1
      have l2 := hb.1
      have sd := s1 d hd
      rw [Int.toNat_natCast, Int.toNat_natCast, rd_put _ _ _ _ (by omega), rd_put _ _ _ _ (by omega), e1]
      by_cases y : x = d
      · rw [if_pos y, if_pos (by rw [y])]
      · rw [if_neg y, if_neg (fun w => y (s2 x d hx hd w)), e3 x hx]
  · rw [if_neg z, if_neg z]
    exact ⟨e1, e2, e3⟩
theorem wk_iso (n : Nat) (s : Nat → Nat) (t f t' f' : List Int) (ht : inR n t) (hf : inR n f) (ht' : inR n t') (hf' : inR n f') (I : Iso n s t f t' f') : ∀ (m : Nat) (nm od nm' od' : List Int) (i : Nat), NI n (nm, od) → NI n (nm', od') → ER n s (nm, od) (nm', od') → ∀ x, x < n → rd (wk t' f' m nm' od' i) ((s x : Nat) : Int) = rd (wk t f m nm od i) (x : Int)
  | 0, nm, od, nm', od', i, h, h', e, x, hx => by
    rw [wk, wk]
    exact e.2.2 x hx
  | m + 1, nm, od, nm', od', i, h, h', e, x, hx => by
    obtain ⟨s1, s2, s3, s4⟩ := id I
    have e1 : od'.length = od.length := e.1
    rw [wk, wk, e1]
    by_cases z : i < od.length
    · rw [if_pos z, if_pos z]
      obtain ⟨b1, b2, b3⟩ := h.2.1 i z
      have b1 : 0 ≤ rd od (i : Int) := b1
      have b2 : rd od (i : Int) < n := b2
      have eo : (((rd od (i : Int)).toNat : Nat) : Int) = rd od (i : Int) := by omega
      have ei : rd od' (i : Int) = (s (rd od (i : Int)).toNat : Int) := e.2.1 i z
      have rt := ht.2 (rd od (i : Int)).toNat (by omega)
      have rf := hf.2 (rd od (i : Int)).toNat (by omega)
      have ft := s3 (rd od (i : Int)).toNat (by omega)
      have ff := s4 (rd od (i : Int)).toNat (by omega)
      rw [eo] at rt rf ft ff
      rw [ei, ft, ff]
      have et : (((rd t (rd od (i : Int))).toNat : Nat) : Int) = rd t (rd od (i : Int)) := by omega
      have ef : (((rd f (rd od (i : Int))).toNat : Nat) : Int) = rd f (rd od (i : Int)) := by omega
      have st := s1 (rd t (rd od (i : Int))).toNat (by omega)
      have sf := s1 (rd f (rd od (i : Int))).toNat (by omega)
      have E1 := e.visit h h' s1 s2 (rd t (rd od (i : Int))).toNat (by omega)
      obtain ⟨v1, _⟩ := h.visit (rd t (rd od (i : Int))) rt.1 rt.2
      obtain ⟨v1', _⟩ := h'.visit ((s (rd t (rd od (i : Int))).toNat : Nat) : Int) (by omega) (by omega)
      rw [et] at E1
      have E2 := E1.visit v1 v1' s1 s2 (rd f (rd od (i : Int))).toNat (by omega)
      obtain ⟨u1, _⟩ := v1.visit (rd f (rd od (i : Int))) rf.1 rf.2
      obtain ⟨u1', _⟩ := v1'.visit ((s (rd f (rd od (i : Int))).toNat : Nat) : Int) (by omega) (by omega)
      rw [ef] at E2
      exact wk_iso n s t f t' f' ht hf ht' hf' I m _ _ _ _ (i + 1) u1 u1' E2 x hx
    · rw [if_neg z, if_neg z]
      exact e.2.2 x hx
theorem nmF_iso (n : Nat) (s : Nat → Nat) (t f t' f' : List Int) (ht : inR n t) (hf : inR n f) (ht' : inR n t') (hf' : inR n f') (I : Iso n s t f t' f') (r : Nat) (hr : r < n) (x : Nat) (hx : x < n) : rd (nmF t' f' n (s r)) ((s x : Nat) : Int) = rd (nmF t f n r) (x : Int) := by
  refine wk_iso n s t f t' f' ht hf ht' hf' I (n + 1) _ _ _ _ 0 (NI_start n r hr) (NI_start n (s r) (I.1 r hr)) ⟨rfl, fun k hk => ?_, fun y hy => ?_⟩ x hx
  · simp only [List.length_cons, List.length_nil] at hk
    have : k = 0 := by omega
    subst this
    show ((s r : Nat) : Int) = (s (r : Int).toNat : Int)
    rw [Int.toNat_natCast]
  · show rd ((List.replicate n (-1)).set (s r) 0) ((s y : Nat) : Int) = rd ((List.replicate n (-1)).set r 0) (y : Int)
    rw [rd_put _ _ _ _ (by simpa using I.1 r hr), rd_put _ _ _ _ (by simpa using hr)]
    by_cases z : y = r
    · rw [if_pos z, if_pos (by rw [z])]
    · rw [if_neg z, if_neg (fun w => z (I.2.1 y r hy hr w)), rd_rep n (-1) y hy, rd_rep n (-1) (s y) (I.1 y hy)]
theorem form_iso (n : Nat) (s : Nat → Nat) (t f t' f' : List Int) (H : MapK t f n) (H' : MapK t' f' n) (I : Iso n s t f t' f') (r : Nat) (hr : r < n) : reT t' (nmF t' f' n (s r)) n = reT t (nmF t f n r) n ∧ reT f' (nmF t' f' n (s r)) n = reT f (nmF t f n r) n := by
  obtain ⟨hn, h1, ht, hi, hf, hfl, hcon⟩ := id H
  obtain ⟨_, _, ht', hi', hf', _, _⟩ := id H'
  obtain ⟨a1, a2⟩ := nmF_ok t f n H r hr
  obtain ⟨b1, b2⟩ := nmF_ok t' f' n H' (s r) (I.1 r hr)
  have eq := fun x hx => nmF_iso n s t f t' f' ht hf ht' hf' I r hr x hx
  have sur : ∀ k : Nat, k < n → ∃ x : Nat, x < n ∧ rd (nmF t f n r) (x : Int) = k := by
    intro k hk
    obtain ⟨m, _, h2⟩ := itr_back (nmF t f n r) n a1 a2 k (by omega)
    have hin := itr_in (nmF t f n r) n a1 m k (by omega)
    refine ⟨(itr (nmF t f n r) m k).toNat, by omega, ?_⟩
    rw [show (((itr (nmF t f n r) m k).toNat : Nat) : Int) = itr (nmF t f n r) m k by omega]
    rw [itr_add] at h2
    exact h2
  have key : ∀ (p p' : List Int), inR n p → (∀ x, x < n → rd p' ((s x : Nat) : Int) = (s (rd p (x : Int)).toNat : Int)) → reT p' (nmF t' f' n (s r)) n = reT p (nmF t f n r) n := by
    intro p p' hp hpp
    unfold reT
    refine list_ext _ _ (by rw [mulL_length, mulL_length]) fun k hk => ?_
    rw [mulL_length] at hk
    rw [mulL_rd _ _ n k hk, mulL_rd _ _ n k hk, mulL_rd _ _ n k hk, mulL_rd _ _ n k hk]
    obtain ⟨x, hx, ex⟩ := sur k hk
    have r1 := backL_rd (nmF t f n r) n a1 a2 n (Nat.le_refl _) x hx
    rw [ex] at r1
    have r2 := backL_rd (nmF t' f' n (s r)) n b1 b2 n (Nat.le_refl _) (s x) (I.1 x hx)
    rw [eq x hx, ex] at r2
    have pr := hp.2 x hx
    rw [r1, r2, hpp x hx, eq _ (by omega), show (((rd p (x : Int)).toNat : Nat) : Int) = rd p (x : Int) by omega]
  exact ⟨key t t' ht I.2.2.1, key f f' hf I.2.2.2⟩
def vsd (l : List Int) (n : Nat) : Nat → Int
  | 0 => 0
  | d + 1 => rd l ((n - 1 - d : Nat) : Int) * 16 ^ d + vsd l n d
theorem vsd_range (l : List Int) (n : Nat) (hn : n ≤ 12) (h : inR n l) : ∀ d, d ≤ n → 0 ≤ vsd l n d ∧ vsd l n d < 16 ^ d
  | 0, _ => by simp [vsd]
  | d + 1, hd => by
    obtain ⟨a, b⟩ := vsd_range l n hn h d (by omega)
    have r := h.2 (n - 1 - d) (by omega)
    rw [vsd, Int.pow_succ]
    have hp : (0 : Int) < 16 ^ d := by omega
    generalize (16 : Int) ^ d = P at *
    have m1 : 0 ≤ rd l ((n - 1 - d : Nat) : Int) * P := Int.mul_nonneg r.1 (by omega)
    have m2 : rd l ((n - 1 - d : Nat) : Int) * P ≤ 15 * P := Int.mul_le_mul_of_nonneg_right (by omega) (by omega)
    omega
theorem compare_ev (a b : List Int) (n : Nat) (hn : n ≤ 12) (ha : inR n a) (hb : inR n b) : ∀ (d i : Nat), n - i = d → i ≤ n → ∃ c : Int, Ev (fun k => slices_Compare_int_int.l0 k a b a (n : Int) (i : Int)) c ∧ (c < 0 ↔ vsd a n d < vsd b n d) ∧ (c = 0 ↔ vsd a n d = vsd b n d)
  | 0, i, hd, hi => by
    have : i = n := by omega
    subst this
    have l1 := ha.1
    have l2 := hb.1
    refine ⟨0, Ev.s ?_, by simp [vsd], by simp [vsd]⟩
    simp only [slices_Compare_int_int.l0, show ¬ (i : Int) < (i : Int) by omega, if_false, l1, l2]
    exact Ev.const rfl
  | d + 1, i, hd, hi => by
    obtain ⟨c, c1, c2, c3⟩ := compare_ev a b n hn ha hb d (i + 1) (by omega) (by omega)
    obtain ⟨p1, p2⟩ := vsd_range a n hn ha d (by omega)
    obtain ⟨q1, q2⟩ := vsd_range b n hn hb d (by omega)
    have ei : n - 1 - d = i := by omega
    have l1 := ha.1
    have l2 := hb.1
    have hp : (0 : Int) < 16 ^ d := by omega
    have nan : ∀ x : Int, cmp_isNaN_int.f x = some false := fun x => by simp [cmp_isNaN_int.f]
    have step : ∀ (x y : Int), cmp_Compare_int.f x y = some (if x < y then -1 else if x > y then 1 else 0) := fun x y => by
      unfold cmp_Compare_int.f
      rw [nan, nan]
      simp only [Option.bind_some, Bool.false_eq_true, if_false]
      split
      · rfl
      · split <;> rfl
    have row : ∀ k, slices_Compare_int_int.l0 (k + 1) a b a (n : Int) (i : Int) = (if (if rd a (i : Int) < rd b (i : Int) then (-1 : Int) else if rd a (i : Int) > rd b (i : Int) then 1 else 0) = 0 then slices_Compare_int_int.l0 k a b a (n : Int) ((i + 1 : Nat) : Int) else some (if rd a (i : Int) < rd b (i : Int) then (-1 : Int) else if rd a (i : Int) > rd b (i : Int) then 1 else 0)) := fun k => by
      simp only [slices_Compare_int_int.l0, show (i : Int) < (n : Int) by omega, show (0 : Int) ≤ (i : Int) by omega, l1, l2, show ¬ (i : Int) ≥ (n : Int) by omega, if_true, if_false, step, Option.bind_some]
      rw [w64n (show i < 4611686018427387904 by omega)]
    rw [vsd, vsd, ei]
    generalize (16 : Int) ^ d = P at *
    by_cases z : rd a (i : Int) < rd b (i : Int)
    · refine ⟨-1, Ev.s ?_, ?_, ?_⟩
      · simp only [row, if_pos z]
        exact Ev.const rfl
      · have m : (rd a (i : Int) + 1) * P ≤ rd b (i : Int) * P := Int.mul_le_mul_of_nonneg_right (by omega) (by omega)
        rw [Int.add_mul, Int.one_mul] at m
        constructor
        · intro _; omega
        · intro _; decide
      · have m : (rd a (i : Int) + 1) * P ≤ rd b (i : Int) * P := Int.mul_le_mul_of_nonneg_right (by omega) (by omega)
        rw [Int.add_mul, Int.one_mul] at m
        constructor
        · intro w; cases w
        · intro w; omega
    · by_cases y : rd a (i : Int) > rd b (i : Int)
      · have m : (rd b (i : Int) + 1) * P ≤ rd a (i : Int) * P := Int.mul_le_mul_of_nonneg_right (by omega) (by omega)
        rw [Int.add_mul, Int.one_mul] at m
        refine ⟨1, Ev.s ?_, ?_, ?_⟩
        · simp only [row, if_neg z, if_pos y]
          exact Ev.const rfl
        · constructor
          · intro w; exact absurd w (by decide)
          · intro w; omega
        · constructor
          · intro w; cases w
          · intro w; omega
      · have e : rd a (i : Int) = rd b (i : Int) := by omega
        refine ⟨c, Ev.s ?_, ?_, ?_⟩
        · simp only [row, if_neg z, if_neg y, if_true]
          exact c1
        · rw [c2, e]; omega
        · rw [c3, e]; omega
def code (T F : List Int) (n : Nat) : Int := vsd T n n * 16 ^ n + vsd F n n
theorem compareMaps_ev (T F T' F' : List Int) (n : Nat) (hn : n ≤ 12) (h1 : inR n T) (h2 : inR n F) (h3 : inR n T') (h4 : inR n F') : ∃ c : Int, Ev (fun k => impl_compareMaps.f k T F T' F') c ∧ (c < 0 ↔ code T F n < code T' F' n) ∧ (c = 0 ↔ code T F n = code T' F' n) := by
  obtain ⟨c, c1, c2, c3⟩ := compare_ev T T' n hn h1 h3 n 0 (by omega) (by omega)
  obtain ⟨e, e1, e2, e3⟩ := compare_ev F F' n hn h2 h4 n 0 (by omega) (by omega)
  have a := vsd_range F n hn h2 n (Nat.le_refl _)
  have b := vsd_range F' n hn h4 n (Nat.le_refl _)
  have l1 := h1.1
  have l2 := h2.1
  have k1 : Ev (fun k => slices_Compare_int_int.f k T T') c := by unfold slices_Compare_int_int.f; rw [l1]; exact c1
  have k2 : Ev (fun k => slices_Compare_int_int.f k F F') e := by unfold slices_Compare_int_int.f; rw [l2]; exact e1
  have hp : (0 : Int) < 16 ^ n := by omega
  unfold code
  generalize vsd T n n = x at *
  generalize vsd T' n n = y at *
  generalize vsd F n n = u at *
  generalize vsd F' n n = v at *
  generalize (16 : Int) ^ n = P at *
  by_cases z : c = 0
  · have : x = y := c3.1 z
    refine ⟨e, ?_, ?_, ?_⟩
    · unfold impl_compareMaps.f
      refine Ev.bind k1 ?_
      simp only [z, if_true]
      exact Ev.bind k2 (Ev.const rfl)
    · rw [e2, this]; omega
    · rw [e3, this]; omega
  · refine ⟨c, ?_, ?_, ?_⟩
    · unfold impl_compareMaps.f
      refine Ev.bind k1 ?_
      simp only [z, if_false]
      exact Ev.const rfl
    · rw [c2]
      constructor
      · intro w
        have m : (x + 1) * P ≤ y * P := Int.mul_le_mul_of_nonneg_right (by omega) (by omega)
        rw [Int.add_mul, Int.one_mul] at m
        omega
      · intro w
        by_cases q : x < y
        · exact q
        · have : x ≠ y := fun e => z (c3.2 e)
          have m : (y + 1) * P ≤ x * P := Int.mul_le_mul_of_nonneg_right (by omega) (by omega)
          rw [Int.add_mul, Int.one_mul] at m
          omega
    · constructor
      · intro w; exact absurd w z
      · intro w
        have : x ≠ y := fun e => z (c3.2 e)
        by_cases q : x < y
        · have m : (x + 1) * P ≤ y * P := Int.mul_le_mul_of_nonneg_right (by omega) (by omega)
          rw [Int.add_mul, Int.one_mul] at m
          omega
        · have m : (y + 1) * P ≤ x * P := Int.mul_le_mul_of_nonneg_right (by omega) (by omega)
          rw [Int.add_mul, Int.one_mul] at m
          omega
theorem reT_inR (t nm : List Int) (n : Nat) (ht : inR n t) (hm : inR n nm) : inR n (reT t nm n) := mulL_inR n _ _ (mulL_inR n _ _ (backL_inR nm n) ht) hm
def fc (t f : List Int) (n r : Nat) : Int := code (reT t (nmF t f n r) n) (reT f (nmF t f n r) n) n
theorem least_run (t f : List Int) (n : Nat) (H : MapK t f n) : ∀ (d i : Nat) (T F : List Int), n - i = d → i ≤ n → inR n T → inR n F → (∃ r, r < n ∧ code T F n = fc t f n r) → (∀ r, r < i → code T F n ≤ fc t f n r) →
    ∃ T' F', Ev (fun k => impl_leastForm.l0 k (n : Int) (i : Int) t f T F) (T', F') ∧ inR n T' ∧ inR n F' ∧ (∃ r, r < n ∧ code T' F' n = fc t f n r) ∧ ∀ r, r < n → code T' F' n ≤ fc t f n r
  | 0, i, T, F, hd, hi, hT, hF, he, hl => by
    have : i = n := by omega
    subst this
    refine ⟨T, F, Ev.s ?_, hT, hF, he, hl⟩
    simp only [impl_leastForm.l0, show ¬ (i : Int) < (i : Int) by omega, if_false]
    exact Ev.const rfl
  | d + 1, i, T, F, hd, hi, hT, hF, he, hl => by
    obtain ⟨hn, h1, ht, hti, hf, hfl, hcon⟩ := id H
    obtain ⟨a1, a2⟩ := nmF_ok t f n H i (by omega)
    have x1 := reT_inR t _ n ht a1
    have x2 := reT_inR f _ n hf a1
    obtain ⟨c, c1, c2, c3⟩ := compareMaps_ev _ _ T F n hn x1 x2 hT hF
    by_cases z : c < 0
    · have lt : fc t f n i < code T F n := c2.1 z
      obtain ⟨T', F', e1, e2⟩ := least_run t f n H d (i + 1) _ _ (by omega) (by omega) x1 x2 ⟨i, by omega, rfl⟩ (fun r hr => by
        by_cases y : r = i
        · rw [y]; exact Int.le_refl _
        · have := hl r (by omega)
          exact Int.le_trans (Int.le_of_lt lt) this)
      refine ⟨T', F', Ev.s ?_, e2⟩
      simp only [impl_leastForm.l0, show (i : Int) < (n : Int) by omega, if_true]
      refine Ev.bind (names_ev t f n H i (by omega)) ?_
      refine Ev.bind (renamed_ev t f _ n hn ht hf a1) ?_
      refine Ev.bind c1 ?_
      simp only [z, if_true, w64n (show i < 4611686018427387904 by omega)]
      exact e1
    · have ge : code T F n ≤ fc t f n i := by
        by_cases q : fc t f n i < code T F n
        · exact absurd (c2.2 q) z
        · omega
      obtain ⟨T', F', e1, e2⟩ := least_run t f n H d (i + 1) T F (by omega) (by omega) hT hF he (fun r hr => by
        by_cases y : r = i
        · rw [y]; exact ge
        · exact hl r (by omega))
      refine ⟨T', F', Ev.s ?_, e2⟩
      simp only [impl_leastForm.l0, show (i : Int) < (n : Int) by omega, if_true]
      refine Ev.bind (names_ev t f n H i (by omega)) ?_
      refine Ev.bind (renamed_ev t f _ n hn ht hf a1) ?_
      refine Ev.bind c1 ?_
      simp only [z, if_false, w64n (show i < 4611686018427387904 by omega)]
      exact e1
theorem least_ev (t f : List Int) (n : Nat) (H : MapK t f n) : ∃ T F, Ev (fun k => impl_leastForm.f k t f) (T, F) ∧ inR n T ∧ inR n F ∧ (∃ r, r < n ∧ code T F n = fc t f n r) ∧ ∀ r, r < n → code T F n ≤ fc t f n r := by
  obtain ⟨hn, h1, ht, hti, hf, hfl, hcon⟩ := id H
  obtain ⟨a1, a2⟩ := nmF_ok t f n H 0 (by omega)
  obtain ⟨T, F, e1, e2⟩ := least_run t f n H n 0 _ _ (by omega) (by omega) (reT_inR t _ n ht a1) (reT_inR f _ n hf a1) ⟨0, by omega, rfl⟩ (fun r hr => by omega)
  refine ⟨T, F, ?_, e2⟩
  unfold impl_leastForm.f
  refine Ev.bind (names_ev t f n H 0 (by omega)) ?_
  refine Ev.bind (renamed_ev t f _ n hn ht hf a1) ?_
  rw [ht.1]
  exact e1
theorem mapSame_iso (n : Nat) (s : Nat → Nat) (t f t' f' : List Int) (hm : isMap t f) (hm' : isMap t' f') (H : MapK t f n) (H' : MapK t' f' n) (I : Iso n s t f t' f') : Ev (fun k => impl_MapSame.f k t f t' f') true := by
  obtain ⟨hn, h1, ht, hti, hf, hfl, hcon⟩ := id H
  obtain ⟨_, _, ht', hti', hf', _, _⟩ := id H'
  have l1 := ht.1
  have l2 := hf.1
  have l3 := ht'.1
  have l4 := hf'.1
  obtain ⟨b, _, b2, b3⟩ := mapValid_both t f (by omega) (by omega)
  obtain ⟨b', _, b2', b3'⟩ := mapValid_both t' f' (by omega) (by omega)
  have hb : b = true := b3.2 hm
  have hb' : b' = true := b3'.2 hm'
  subst hb hb'
  obtain ⟨T, F, e1, e2, e3, ⟨r, hr, e4⟩, e5⟩ := least_ev t f n H
  obtain ⟨T', F', g1, g2, g3, ⟨r', hr', g4⟩, g5⟩ := least_ev t' f' n H'
  obtain ⟨c, c1, c2, c3⟩ := compareMaps_ev T F T' F' n hn e2 e3 g2 g3
  have same : ∀ x, x < n → fc t' f' n (s x) = fc t f n x := fun x hx => by
    obtain ⟨q1, q2⟩ := form_iso n s t f t' f' H H' I x hx
    unfold fc
    rw [q1, q2]
  have sur : ∃ x, x < n ∧ s x = r' := by
    by_cases z : r' ∈ (List.range n).map s
    · obtain ⟨x, hx, e⟩ := List.mem_map.1 z
      exact ⟨x, List.mem_range.1 hx, e⟩
    · exfalso
      have nd : ((List.range n).map s).Nodup := by
        refine List.pairwise_map.2 (List.Pairwise.imp_of_mem (fun {x y} hx hy hxy e => hxy ?_) (List.nodup_range (n := n)))
        exact I.2.1 x y (List.mem_range.1 hx) (List.mem_range.1 hy) e
      have := len_le_of_sub (r' :: (List.range n).map s) (List.range n) (List.nodup_cons.2 ⟨z, nd⟩) (fun x hx => by
        rcases List.mem_cons.1 hx with rfl | hx
        · exact List.mem_range.2 hr'
        · obtain ⟨y, hy, rfl⟩ := List.mem_map.1 hx
          exact List.mem_range.2 (I.1 y (List.mem_range.1 hy)))
      simp only [List.length_cons, List.length_map, List.length_range] at this
      omega
  obtain ⟨x, hx, ex⟩ := sur
  have v1 := e5 x hx
  rw [← same x hx, ex, ← g4] at v1
  have v2 := g5 (s r) (I.1 r hr)
  rw [same r hr, ← e4] at v2
  have hc : c = 0 := c3.2 (by omega)
  subst hc
  unfold impl_MapSame.f
  refine Ev.bind b2 ?_
  simp only [if_true]
  refine Ev.bind b2' ?_
  simp only [if_true]
  rw [l1, l3, show (((n : Int) != (n : Int))) = false by simp]
  refine Ev.s ?_
  simp only [impl_MapSame.j0, Bool.false_eq_true, if_false]
  refine Ev.bind e1 ?_
  refine Ev.bind g1 ?_
  refine Ev.bind c1 ?_
  exact Ev.const rfl
theorem rd_app_left (l m : List Int) (k : Nat) (h : k < l.length) : rd (l ++ m) (k : Int) = rd l (k : Int) := by
  rw [rd_lt _ _ (by simp; omega), rd_lt _ _ h, List.getElem_append_left h]
theorem rd_app_right (l m : List Int) (j : Nat) (h : j < m.length) : rd (l ++ m) ((l.length + j : Nat) : Int) = rd m (j : Int) := by
  rw [rd_lt _ _ (by simp; omega), rd_lt _ _ h, List.getElem_append_right (by omega)]
  simp
theorem tqT_rd (a b : List Int) : ∀ (n d : Nat), d < n → rd (tqT a b n) ((2 * d : Nat) : Int) = 2 * rd a (d : Int) ∧ rd (tqT a b n) ((2 * d + 1 : Nat) : Int) = 2 * rd b (d : Int) + 1
  | n + 1, d, h => by
    have hl := tqT_length a b n
    simp only [tqT]
    by_cases z : d < n
    · obtain ⟨i1, i2⟩ := tqT_rd a b n d z
      rw [rd_app_left _ _ _ (by omega), rd_app_left _ _ _ (by omega)]
      exact ⟨i1, i2⟩
    · have : d = n := by omega
      subst this
      have e0 := rd_app_right (tqT a b d) [2 * rd a (d : Int), 2 * rd b (d : Int) + 1] 0 (by simp)
      have e1 := rd_app_right (tqT a b d) [2 * rd a (d : Int), 2 * rd b (d : Int) + 1] 1 (by simp)
      rw [hl] at e0 e1
      exact ⟨e0, e1⟩
theorem tqF_rd : ∀ (n d : Nat), d < n → rd (tqF n) ((2 * d : Nat) : Int) = ((2 * d + 1 : Nat) : Int) ∧ rd (tqF n) ((2 * d + 1 : Nat) : Int) = ((2 * d : Nat) : Int)
  | n + 1, d, h => by
    have hl := tqF_length n
    simp only [tqF]
    by_cases z : d < n
    · obtain ⟨i1, i2⟩ := tqF_rd n d z
      rw [rd_app_left _ _ _ (by omega), rd_app_left _ _ _ (by omega)]
      exact ⟨i1, i2⟩
    · have : d = n := by omega
      subst this
      have e0 := rd_app_right (tqF d) [2 * (d : Int) + 1, 2 * (d : Int)] 0 (by simp)
      have e1 := rd_app_right (tqF d) [2 * (d : Int) + 1, 2 * (d : Int)] 1 (by simp)
      rw [hl] at e0 e1
      refine ⟨e0.trans ?_, e1.trans ?_⟩
      · show 2 * (d : Int) + 1 = _
        omega
      · show 2 * (d : Int) = _
        omega
def QOk (t f b : List Int) (n : Nat) : Prop := MapK t f n ∧ n ≤ 6 ∧ inR n b ∧ (∀ d : Nat, d < n → rd b (rd t (rd f (d : Int))) = d) ∧ ∀ d : Nat, d < n → rd t (rd f (rd b (d : Int))) = d
theorem qOk_of (t f : List Int) (n : Nat) (H : MapK t f n) (h6 : n ≤ 6) : QOk t f (backL (mulL f t n) n n) n := by
  obtain ⟨hn, h1, ht, hti, hf, hfl, hcon⟩ := id H
  have hm := mulL_inR n f t hf ht
  have inj : injR n (mulL f t n) := fun i j hi hj e => by
    rw [mulL_rd f t n i hi, mulL_rd f t n j hj] at e
    have ri := hf.2 i hi
    have rj := hf.2 j hj
    have e2 : (rd f (i : Int)).toNat = (rd f (j : Int)).toNat := hti _ _ (by omega) (by omega) (by rw [show (((rd f (i : Int)).toNat : Nat) : Int) = rd f (i : Int) by omega, show (((rd f (j : Int)).toNat : Nat) : Int) = rd f (j : Int) by omega]; exact e)
    have e3 : rd f (i : Int) = rd f (j : Int) := by omega
    have f1 := (hfl i hi).2
    have f2 := (hfl j hj).2
    rw [e3, f2] at f1
    omega
  have hb := backL_inR (mulL f t n) n
  have back : ∀ d : Nat, d < n → rd (backL (mulL f t n) n n) (rd t (rd f (d : Int))) = d := fun d hd => by
    have := backL_rd (mulL f t n) n hm inj n (Nat.le_refl _) d hd
    rwa [mulL_rd f t n d hd] at this
  refine ⟨H, h6, hb, back, fun d hd => ?_⟩
  obtain ⟨m, _, h2⟩ := itr_back (mulL f t n) n hm inj d (by omega)
  have hin := itr_in (mulL f t n) n hm m d (by omega)
  rw [itr_add] at h2
  have h2 : rd (mulL f t n) (itr (mulL f t n) m d) = d := h2
  have ex : (((itr (mulL f t n) m d).toNat : Nat) : Int) = itr (mulL f t n) m d := by omega
  have hm2 := mulL_rd f t n (itr (mulL f t n) m d).toNat (by omega)
  rw [ex, h2] at hm2
  have hb2 := back (itr (mulL f t n) m d).toNat (by omega)
  rw [ex, ← hm2] at hb2
  rw [hb2, ← hm2]
theorem QOk.num {t f b : List Int} {n : Nat} (Q : QOk t f b n) : ∃ τ φ β : Nat → Nat, (∀ d : Nat, d < n → rd t (d : Int) = (τ d : Int) ∧ τ d < n) ∧ (∀ d : Nat, d < n → rd f (d : Int) = (φ d : Int) ∧ φ d < n) ∧ (∀ d : Nat, d < n → rd b (d : Int) = (β d : Int) ∧ β d < n) ∧
    (∀ d, d < n → φ (φ d) = d) ∧ (∀ d, d < n → φ d ≠ d) ∧ (∀ d, d < n → β (τ d) = φ d) ∧ (∀ d, d < n → τ (φ (β d)) = d) ∧ (∀ d e, d < n → e < n → τ d = τ e → d = e) ∧ (∀ d e, d < n → e < n → β d = β e → d = e) := by
  obtain ⟨H, h6, hb, b1, b2⟩ := Q
  obtain ⟨hn, h1, ht, hti, hf, hfl, hcon⟩ := id H
  have T : ∀ d : Nat, d < n → rd t (d : Int) = (((rd t (d : Int)).toNat : Nat) : Int) ∧ (rd t (d : Int)).toNat < n := fun d hd => by have := ht.2 d hd; omega
  have F : ∀ d : Nat, d < n → rd f (d : Int) = (((rd f (d : Int)).toNat : Nat) : Int) ∧ (rd f (d : Int)).toNat < n := fun d hd => by have := hf.2 d hd; omega
  have B : ∀ d : Nat, d < n → rd b (d : Int) = (((rd b (d : Int)).toNat : Nat) : Int) ∧ (rd b (d : Int)).toNat < n := fun d hd => by have := hb.2 d hd; omega
  have ff : ∀ d, d < n → (rd f (((rd f (d : Int)).toNat : Nat) : Int)).toNat = d := fun d hd => by
    rw [← (F d hd).1, (hfl d hd).2, Int.toNat_natCast]
  refine ⟨fun d => (rd t (d : Int)).toNat, fun d => (rd f (d : Int)).toNat, fun d => (rd b (d : Int)).toNat, T, F, B, ff, fun d hd e => ?_, fun d hd => ?_, fun d hd => ?_, fun d e hd he h => ?_, fun d e hd he h => ?_⟩
  · have e : (rd f (d : Int)).toNat = d := e
    have := (hfl d hd).1
    have := (F d hd).1
    omega
  · show (rd b (((rd t (d : Int)).toNat : Nat) : Int)).toNat = (rd f (d : Int)).toNat
    have := b1 (rd f (d : Int)).toNat (F d hd).2
    rw [← (F d hd).1, (hfl d hd).2] at this
    rw [← (T d hd).1, this]
  · show (rd t (((rd f (((rd b (d : Int)).toNat : Nat) : Int)).toNat : Nat) : Int)).toNat = d
    have q1 := (B d hd).1
    have q2 := (F _ (B d hd).2).1
    rw [← q1] at q2 ⊢
    rw [← q2, b2 d hd, Int.toNat_natCast]
  · have h : (rd t (d : Int)).toNat = (rd t (e : Int)).toNat := h
    exact hti d e hd he (by rw [(T d hd).1, (T e he).1, h])
  · have h : (rd b (d : Int)).toNat = (rd b (e : Int)).toNat := h
    have x := b2 d hd
    have y := b2 e he
    rw [(B d hd).1, h, ← (B e he).1, y] at x
    omega
theorem half (n x : Nat) (hx : x < 2 * n) : ∃ d, d < n ∧ (x = 2 * d ∨ x = 2 * d + 1) := ⟨x / 2, by omega, by omega⟩
theorem out_ok (t f b : List Int) (n : Nat) (Q : QOk t f b n) : MapK (tqT t b n) (tqF n) (2 * n) := by
  obtain ⟨τ, φ, β, hτ, hφ, hβ, ff, fn, bt, tfb, ti, bi⟩ := Q.num
  obtain ⟨H, h6, hb, b1, b2⟩ := Q
  obtain ⟨hn, h1, ht, hti, hf, hfl, hcon⟩ := id H
  have T : ∀ d : Nat, d < n → rd (tqT t b n) ((2 * d : Nat) : Int) = ((2 * τ d : Nat) : Int) ∧ rd (tqT t b n) ((2 * d + 1 : Nat) : Int) = ((2 * β d + 1 : Nat) : Int) := fun d hd => by
    obtain ⟨x, y⟩ := tqT_rd t b n d hd
    rw [x, y, (hτ d hd).1, (hβ d hd).1]
    exact ⟨by omega, by omega⟩
  refine ⟨by omega, by omega, ⟨tqT_length t b n, fun x hx => ?_⟩, fun x y hx hy e => ?_, ⟨tqF_length n, fun x hx => ?_⟩, fun x hx => ?_, fun x y hx hy S hS => ?_⟩
  · obtain ⟨d, hd, rfl | rfl⟩ := half n x hx
    · rw [(T d hd).1]; have := (hτ d hd).2; omega
    · rw [(T d hd).2]; have := (hβ d hd).2; omega
  · obtain ⟨d, hd, rfl | rfl⟩ := half n x hx <;> obtain ⟨e', he, rfl | rfl⟩ := half n y hy
    · rw [(T d hd).1, (T e' he).1] at e
      have := ti d e' hd he (by omega)
      omega
    · rw [(T d hd).1, (T e' he).2] at e
      omega
    · rw [(T d hd).2, (T e' he).1] at e
      omega
    · rw [(T d hd).2, (T e' he).2] at e
      have := bi d e' hd he (by omega)
      omega
  · obtain ⟨d, hd, rfl | rfl⟩ := half n x hx
    · rw [(tqF_rd n d hd).1]; omega
    · rw [(tqF_rd n d hd).2]; omega
  · obtain ⟨d, hd, rfl | rfl⟩ := half n x hx
    · refine ⟨by rw [(tqF_rd n d hd).1]; omega, ?_⟩
      rw [(tqF_rd n d hd).1, (tqF_rd n d hd).2]
    · refine ⟨by rw [(tqF_rd n d hd).2]; omega, ?_⟩
      rw [(tqF_rd n d hd).2, (tqF_rd n d hd).1]
  · have hT : ∀ k : Nat, k < 2 * n → (S k ↔ S (rd (tqT t b n) (k : Int)).toNat) := hS _ (by simp)
    have hF : ∀ k : Nat, k < 2 * n → (S k ↔ S (rd (tqF n) (k : Int)).toNat) := hS _ (by simp)
    have s1 : ∀ d : Nat, d < n → (S (2 * d) ↔ S (2 * τ d)) := fun d hd => by
      have := hT (2 * d) (by omega)
      rwa [(T d hd).1, Int.toNat_natCast] at this
    have s2 : ∀ d : Nat, d < n → (S (2 * d) ↔ S (2 * d + 1)) := fun d hd => by
      have := hF (2 * d) (by omega)
      rwa [(tqF_rd n d hd).1, Int.toNat_natCast] at this
    have s3 : ∀ d : Nat, d < n → (S (2 * d) ↔ S (2 * β d)) := fun d hd => by
      have := hT (2 * d + 1) (by omega)
      rw [(T d hd).2, Int.toNat_natCast] at this
      rw [s2 d hd, this, ← s2 _ (hβ d hd).2]
    have s4 : ∀ d : Nat, d < n → (S (2 * d) ↔ S (2 * φ d)) := fun d hd => by
      rw [s1 d hd, s3 _ (hτ d hd).2, bt d hd]
    have all : ∀ d e : Nat, d < n → e < n → (S (2 * d) ↔ S (2 * e)) := fun d e hd he => by
      refine hcon d e hd he (fun z => S (2 * z)) fun p hp k hk => ?_
      rcases List.mem_cons.1 hp with rfl | hp
      · rw [(hτ k hk).1, Int.toNat_natCast]
        exact s1 k hk
      · rw [List.mem_singleton.1 hp, (hφ k hk).1, Int.toNat_natCast]
        exact s4 k hk
    obtain ⟨d, hd, rfl | rfl⟩ := half n x hx <;> obtain ⟨e', he, rfl | rfl⟩ := half n y hy
    · exact all d e' hd he
    · rw [all d e' hd he, s2 e' he]
    · rw [← s2 d hd, all d e' hd he]
    · rw [← s2 d hd, all d e' hd he, s2 e' he]
theorem out_four (t f b : List Int) (n : Nat) (Q : QOk t f b n) : (∀ l ∈ (cyS (mulL (tqF n) (tqT t b n) (2 * n)) (2 * n) (2 * n)).2, l.length = 4) ∧ 4 * (cyS (mulL (tqF n) (tqT t b n) (2 * n)) (2 * n) (2 * n)).2.length = 2 * n := by
  have O := out_ok t f b n Q
  obtain ⟨on, o1, oT, oi, oF, ofl, ocon⟩ := id O
  obtain ⟨τ, φ, β, hτ, hφ, hβ, ff, fn, bt, tfb, ti, bi⟩ := Q.num
  have P : ∀ d : Nat, d < n → rd (mulL (tqF n) (tqT t b n) (2 * n)) ((2 * d : Nat) : Int) = ((2 * β d + 1 : Nat) : Int) ∧ rd (mulL (tqF n) (tqT t b n) (2 * n)) ((2 * d + 1 : Nat) : Int) = ((2 * τ d : Nat) : Int) := fun d hd => by
    obtain ⟨x, y⟩ := tqT_rd t b n d hd
    rw [mulL_rd _ _ (2 * n) _ (by omega), mulL_rd _ _ (2 * n) _ (by omega), (tqF_rd n d hd).1, (tqF_rd n d hd).2, x, y, (hτ d hd).1, (hβ d hd).1]
    exact ⟨by omega, by omega⟩
  have tb : ∀ d, d < n → τ (β (τ (β d))) = d := fun d hd => by
    rw [bt _ (hβ d hd).2, tfb d hd]
  have b2 : ∀ d, d < n → β (τ (β (τ d))) = d := fun d hd => by
    rw [bt d hd, bt _ (hφ d hd).2, ff d hd]
  refine four_cycles _ (2 * n) (mulL_inR (2 * n) _ _ oF oT) (fun x y hx hy e => ?_) (fun x hx => ?_) (fun x hx => ?_)
  · obtain ⟨d, hd, rfl | rfl⟩ := half n x hx <;> obtain ⟨e', he, rfl | rfl⟩ := half n y hy
    · rw [(P d hd).1, (P e' he).1] at e
      have := bi d e' hd he (by omega)
      omega
    · rw [(P d hd).1, (P e' he).2] at e
      omega
    · rw [(P d hd).2, (P e' he).1] at e
      omega
    · rw [(P d hd).2, (P e' he).2] at e
      have := ti d e' hd he (by omega)
      omega
  · obtain ⟨d, hd, rfl | rfl⟩ := half n x hx
    · have h1 := (hβ d hd).2
      have h2 := (hτ _ h1).2
      have h3 := (hβ _ h2).2
      rw [(P d hd).1, (P _ h1).2, (P _ h2).1, (P _ h3).2, tb d hd]
    · have h1 := (hτ d hd).2
      have h2 := (hβ _ h1).2
      have h3 := (hτ _ h2).2
      rw [(P d hd).2, (P _ h1).1, (P _ h2).2, (P _ h3).1, b2 d hd]
  · obtain ⟨d, hd, rfl | rfl⟩ := half n x hx
    · have h1 := (hβ d hd).2
      rw [(P d hd).1, (P _ h1).2]
      intro e
      have e' : τ (β d) = d := by omega
      have := bt _ h1
      rw [e'] at this
      exact fn _ h1 this.symm
    · have h1 := (hτ d hd).2
      rw [(P d hd).2, (P _ h1).1, bt d hd]
      intro e
      exact fn d hd (by omega)
theorem out_par (t f b : List Int) (n : Nat) (Q : QOk t f b n) (a : Nat) (ha : a < 2 * n) (g : List Int) (hg : FarOk (tqT t b n) (tqF n) (2 * n) a g) : ∀ (k x : Nat), x < 2 * n → rd g (x : Int) = k → (x + a) % 2 = k % 2 := by
  have O := out_ok t f b n Q
  obtain ⟨on, o1, oT, oi, oF, ofl, ocon⟩ := id O
  obtain ⟨τ, φ, β, hτ, hφ, hβ, ff, fn, bt, tfb, ti, bi⟩ := Q.num
  have cl : ∀ m : Nat, closedL [tqT t b n] (2 * n) (fun z => z % 2 = m) := fun m p hp k hk => by
    rw [List.mem_singleton.1 hp]
    obtain ⟨d, hd, rfl | rfl⟩ := half n k hk
    · rw [(tqT_rd t b n d hd).1, (hτ d hd).1]
      omega
    · rw [(tqT_rd t b n d hd).2, (hβ d hd).1]
      omega
  have same : ∀ x y, Reach [tqT t b n] (2 * n) x y → x % 2 = y % 2 := fun x y h => ((h _ (cl (x % 2))).1 rfl).symm
  intro k
  induction k with
  | zero =>
    intro x hx e
    have := same x a (hg.zero x hx e)
    omega
  | succ k ih =>
    intro x hx e
    obtain ⟨y, hy, y1, y2⟩ := hg.back x hx (by omega)
    have s := same y x y1
    have ek : rd g (rd (tqF n) (y : Int)) = k := by omega
    obtain ⟨d, hd, rfl | rfl⟩ := half n y hy
    · rw [(tqF_rd n d hd).1] at ek
      have := ih (2 * d + 1) (by omega) ek
      omega
    · rw [(tqF_rd n d hd).2] at ek
      have := ih (2 * d) (by omega) ek
      omega
theorem par_tmod (t f b : List Int) (n : Nat) (Q : QOk t f b n) (a : Nat) (ha : a < 2 * n) (g : List Int) (hg : FarOk (tqT t b n) (tqF n) (2 * n) a g) (x : Nat) (hx : x < 2 * n) : Int.tmod (rd g (x : Int)) 2 = (((x + a) % 2 : Nat) : Int) := by
  have r := hg.rng x hx
  have := out_par t f b n Q a ha g hg (rd g (x : Int)).toNat x hx (by omega)
  rw [Int.tmod_eq_emod_of_nonneg r.1]
  omega
theorem nmE_par (t f b : List Int) (n : Nat) (Q : QOk t f b n) (a : Nat) (ha1 : a ≤ 1) (ha : a < 2 * n) (g : List Int) (hg : FarOk (tqT t b n) (tqF n) (2 * n) a g) : ∀ i, i ≤ 2 * n → nmE g i = (i + 1 - a) / 2
  | 0, _ => by simp only [nmE]; omega
  | i + 1, hi => by
    have ih := nmE_par t f b n Q a ha1 ha g hg i (by omega)
    have p := par_tmod t f b n Q a ha g hg i (by omega)
    simp only [nmE, p]
    split <;> omega
theorem tmA_par (t f b : List Int) (n : Nat) (Q : QOk t f b n) (a : Nat) (ha1 : a ≤ 1) (ha : a < 2 * n) (g : List Int) (hg : FarOk (tqT t b n) (tqF n) (2 * n) a g) (l fcs bk : List Int) : ∀ d, d ≤ n →
    tmA g (tqT t b n) l (2 * d) = (List.range d).map (fun (j : Nat) => rd l (rd (tqT t b n) ((2 * j + a : Nat) : Int))) ∧ tmB g (tqT t b n) fcs bk l (2 * d) = (List.range d).map (fun (j : Nat) => tmF (tqT t b n) fcs bk l (2 * j + a))
  | 0, _ => ⟨rfl, rfl⟩
  | d + 1, hd => by
    obtain ⟨i1, i2⟩ := tmA_par t f b n Q a ha1 ha g hg l fcs bk d (by omega)
    have p0 := par_tmod t f b n Q a ha g hg (2 * d) (by omega)
    have p1 := par_tmod t f b n Q a ha g hg (2 * d + 1) (by omega)
    have e : 2 * (d + 1) = 2 * d + 1 + 1 := by omega
    rw [e, List.range_succ, List.map_append, List.map_append]
    simp only [tmA, tmB, p0, p1, i1, i2, List.map_cons, List.map_nil]
    by_cases z : a = 0
    · subst z
      have c0 : (((2 * d + 0) % 2 : Nat) : Int) = 0 := by omega
      have c1 : ¬ (((2 * d + 1 + 0) % 2 : Nat) : Int) = 0 := by omega
      simp only [c0, c1, if_true, if_false]
      exact ⟨rfl, rfl⟩
    · have : a = 1 := by omega
      subst this
      have c0 : ¬ (((2 * d + 1) % 2 : Nat) : Int) = 0 := by omega
      have c1 : (((2 * d + 1 + 1) % 2 : Nat) : Int) = 0 := by omega
      simp only [c0, c1, if_true, if_false]
      first | exact ⟨rfl, rfl⟩ | exact ⟨trivial, rfl⟩ | exact ⟨rfl, trivial⟩ | trivial
theorem rd_map (h : Nat → Int) (n d : Nat) (hd : d < n) : rd ((List.range n).map h) (d : Int) = h d := by
  rw [rd_lt _ _ (by simp; exact hd)]
  simp
theorem out_back (t f b : List Int) (n : Nat) (Q : QOk t f b n) (hm : isMap (tqT t b n) (tqF n)) : Ev (fun k => impl_TutteMap.f k (tqT t b n) (tqF n) 0) (t, f, true) ∧
    Ev (fun k => impl_TutteMap.f k (tqT t b n) (tqF n) 1) (b, (List.range n).map (fun (d : Nat) => rd t (rd b (d : Int))), true) := by
  have O := out_ok t f b n Q
  obtain ⟨on, o1, oT, oi, oF, ofl, ocon⟩ := id O
  obtain ⟨τ, φ, β, hτ, hφ, hβ, ff, fn, bt, tfb, ti, bi⟩ := Q.num
  obtain ⟨H, h6, hb, b1, b2⟩ := id Q
  obtain ⟨hn, h1, ht, hti, hf, hfl, hcon⟩ := id H
  have T : ∀ d : Nat, d < n → rd (tqT t b n) ((2 * d : Nat) : Int) = ((2 * τ d : Nat) : Int) ∧ rd (tqT t b n) ((2 * d + 1 : Nat) : Int) = ((2 * β d + 1 : Nat) : Int) := fun d hd => by
    obtain ⟨x, y⟩ := tqT_rd t b n d hd
    rw [x, y, (hτ d hd).1, (hβ d hd).1]
    exact ⟨by omega, by omega⟩
  have C : ∀ d : Nat, d < n → rd (mulL (tqF n) (tqT t b n) (2 * n)) ((2 * d : Nat) : Int) = ((2 * β d + 1 : Nat) : Int) ∧ rd (mulL (tqF n) (tqT t b n) (2 * n)) ((2 * d + 1 : Nat) : Int) = ((2 * τ d : Nat) : Int) := fun d hd => by
    rw [mulL_rd _ _ (2 * n) _ (by omega), mulL_rd _ _ (2 * n) _ (by omega), (tqF_rd n d hd).1, (tqF_rd n d hd).2]
    exact ⟨(T d hd).2, (T d hd).1⟩
  have K : ∀ z : Nat, z < 2 * n → rd (backL (tqT t b n) (2 * n) (2 * n)) (rd (tqT t b n) (z : Int)) = z := fun z hz => backL_rd (tqT t b n) (2 * n) oT oi (2 * n) (Nat.le_refl _) z hz
  have h4 := (out_four t f b n Q).1
  have run : ∀ a : Nat, a ≤ 1 → ∃ l : List Int, (∀ z : Nat, z < 2 * n → rd l (z : Int) = (((z + 1 - a) / 2 : Nat) : Int)) ∧ Ev (fun k => impl_TutteMap.f k (tqT t b n) (tqF n) (a : Int)) ((List.range n).map (fun (j : Nat) => rd l (rd (tqT t b n) ((2 * j + a : Nat) : Int))), (List.range n).map (fun (j : Nat) => tmF (tqT t b n) (mulL (tqF n) (tqT t b n) (2 * n)) (backL (tqT t b n) (2 * n) (2 * n)) l (2 * j + a)), true) := by
    intro a ha1
    have ha : a < 2 * n := by omega
    obtain ⟨g, hg, e2⟩ := implFar_ev (tqT t b n) (tqF n) (2 * n) O a ha
    have hpar : ∀ x : Nat, x < 2 * n → ¬ Int.tmod (rd g x) 2 = Int.tmod (rd g (rd (tqF n) x)) 2 := by
      intro x hx
      obtain ⟨d, hd, rfl | rfl⟩ := half n x hx
      · rw [(tqF_rd n d hd).1, par_tmod t f b n Q a ha g hg _ (by omega), par_tmod t f b n Q a ha g hg _ (by omega)]
        omega
      · rw [(tqF_rd n d hd).2, par_tmod t f b n Q a ha g hg _ (by omega), par_tmod t f b n Q a ha g hg _ (by omega)]
        omega
    obtain ⟨l, l1, l2, l3⟩ := tutteMapI_ev (tqT t b n) (tqF n) (2 * n) O hm h4 a ha g hg e2 hpar
    obtain ⟨t1, t2⟩ := tmA_par t f b n Q a ha1 ha g hg l (mulL (tqF n) (tqT t b n) (2 * n)) (backL (tqT t b n) (2 * n) (2 * n)) n (Nat.le_refl _)
    rw [t1, t2] at l3
    exact ⟨l, fun z hz => by rw [l2 z hz, nmE_par t f b n Q a ha1 ha g hg z (by omega)], l3⟩
  constructor
  · obtain ⟨l, l1, l2⟩ := run 0 (by omega)
    have e1 : (List.range n).map (fun (j : Nat) => rd l (rd (tqT t b n) ((2 * j + 0 : Nat) : Int))) = t := by
      refine list_ext _ _ (by simp [ht.1]) fun j hj => ?_
      have hj : j < n := by simpa using hj
      rw [rd_map _ n j hj, Nat.add_zero, (T j hj).1, l1 _ (by have := (hτ j hj).2; omega), (hτ j hj).1]
      omega
    have e2 : (List.range n).map (fun (j : Nat) => tmF (tqT t b n) (mulL (tqF n) (tqT t b n) (2 * n)) (backL (tqT t b n) (2 * n) (2 * n)) l (2 * j + 0)) = f := by
      refine list_ext _ _ (by simp [hf.1]) fun j hj => ?_
      have hj : j < n := by simpa using hj
      have c1 := (hτ j hj).2
      have c2 := (hβ _ c1).2
      have k := K (2 * β (τ j)) (by omega)
      rw [(T _ c2).1] at k
      rw [rd_map _ n j hj]
      unfold tmF
      rw [Nat.add_zero, (T j hj).1, (C _ c1).1, (C _ c2).2, k, l1 _ (by omega), bt j hj, (hφ j hj).1]
      omega
    rw [e1, e2] at l2
    exact l2
  · obtain ⟨l, l1, l2⟩ := run 1 (by omega)
    have e1 : (List.range n).map (fun (j : Nat) => rd l (rd (tqT t b n) ((2 * j + 1 : Nat) : Int))) = b := by
      refine list_ext _ _ (by simp [hb.1]) fun j hj => ?_
      have hj : j < n := by simpa using hj
      rw [rd_map _ n j hj, (T j hj).2, l1 _ (by have := (hβ j hj).2; omega), (hβ j hj).1]
      omega
    have e2 : (List.range n).map (fun (j : Nat) => tmF (tqT t b n) (mulL (tqF n) (tqT t b n) (2 * n)) (backL (tqT t b n) (2 * n) (2 * n)) l (2 * j + 1)) = (List.range n).map (fun (d : Nat) => rd t (rd b (d : Int))) := by
      refine list_ext _ _ (by simp) fun j hj => ?_
      have hj : j < n := by simpa using hj
      have c1 := (hβ j hj).2
      have c2 := (hτ _ c1).2
      have k := K (2 * τ (β j) + 1) (by omega)
      rw [(T _ c2).2] at k
      rw [rd_map _ n j hj, rd_map _ n j hj]
      unfold tmF
      rw [(T j hj).2, (C _ c1).2, (C _ c2).1, k, l1 _ (by omega), (hβ j hj).1, (hτ _ c1).1]
      omega
    rw [e1, e2] at l2
    exact l2
theorem other_ok (t f b : List Int) (n : Nat) (Q : QOk t f b n) : MapK b ((List.range n).map (fun (d : Nat) => rd t (rd b (d : Int)))) n ∧ MapK b f n ∧ Iso n (fun d => (rd b (d : Int)).toNat) b ((List.range n).map (fun (d : Nat) => rd t (rd b (d : Int)))) b f := by
  obtain ⟨τ, φ, β, hτ, hφ, hβ, ff, fn, bt, tfb, ti, bi⟩ := Q.num
  obtain ⟨H, h6, hb, b1, b2⟩ := id Q
  obtain ⟨hn, h1, ht, hti, hf, hfl, hcon⟩ := id H
  have bInj : injR n b := fun i j hi hj e => bi i j hi hj (by rw [(hβ i hi).1, (hβ j hj).1] at e; omega)
  have g1 : ∀ d : Nat, d < n → rd ((List.range n).map (fun (d : Nat) => rd t (rd b (d : Int)))) (d : Int) = (τ (β d) : Int) := fun d hd => by
    rw [rd_map _ n d hd, (hβ d hd).1, (hτ _ (hβ d hd).2).1]
  -- closed under what leads back and either flip: closed under the turn
  have conB : ∀ (g : List Int), (∀ S, closedL [b, g] n S → ∀ d, d < n → (S d ↔ S (τ d))) → (∀ S, closedL [b, g] n S → ∀ d, d < n → (S d ↔ S (φ d))) → ∀ i j : Nat, i < n → j < n → Reach [b, g] n i j := fun g q1 q2 i j hi hj S hS => hcon i j hi hj S fun p hp k hk => by
    rcases List.mem_cons.1 hp with rfl | hp
    · rw [(hτ k hk).1, Int.toNat_natCast]
      exact q1 S hS k hk
    · rw [List.mem_singleton.1 hp, (hφ k hk).1, Int.toNat_natCast]
      exact q2 S hS k hk
  have clB : ∀ (g : List Int) (S : Nat → Prop), closedL [b, g] n S → ∀ d, d < n → (S d ↔ S (β d)) := fun g S hS d hd => by
    have := hS b (by simp) d hd
    rwa [(hβ d hd).1, Int.toNat_natCast] at this
  refine ⟨⟨hn, h1, hb, bInj, ⟨by simp, fun d hd => ?_⟩, fun d hd => ⟨?_, ?_⟩, ?_⟩, ⟨hn, h1, hb, bInj, hf, hfl, ?_⟩, fun x hx => ?_, fun x y hx hy e => ?_, fun x hx => ?_, fun x hx => ?_⟩
  · rw [g1 d hd]
    have := (hτ _ (hβ d hd).2).2
    omega
  · rw [g1 d hd]
    intro e
    have e' : τ (β d) = d := by omega
    have := bt _ (hβ d hd).2
    rw [e'] at this
    exact fn _ (hβ d hd).2 this.symm
  · rw [g1 d hd, g1 _ (hτ _ (hβ d hd).2).2, bt _ (hβ d hd).2, tfb d hd]
  · have clG : ∀ S, closedL [b, (List.range n).map (fun (d : Nat) => rd t (rd b (d : Int)))] n S → ∀ d, d < n → (S d ↔ S (τ (β d))) := fun S hS d hd => by
      have := hS ((List.range n).map (fun (d : Nat) => rd t (rd b (d : Int)))) (by simp) d hd
      rwa [g1 d hd, Int.toNat_natCast] at this
    have ct : ∀ S, closedL [b, (List.range n).map (fun (d : Nat) => rd t (rd b (d : Int)))] n S → ∀ d, d < n → (S d ↔ S (τ d)) := fun S hS d hd => by
      -- τ d = τ β (τ φ d)
      have e : β (τ (φ d)) = d := by rw [bt _ (hφ d hd).2, ff d hd]
      have h := (hτ _ (hφ d hd).2).2
      have x := clG S hS _ h
      have y := clB _ S hS _ h
      rw [e] at x y
      rw [← y, x]
    refine conB _ ct fun S hS d hd => ?_
    have y := clB _ S hS _ (hτ d hd).2
    rw [bt d hd] at y
    rw [ct S hS d hd, y]
  · have cf : ∀ S, closedL [b, f] n S → ∀ d, d < n → (S d ↔ S (φ d)) := fun S hS d hd => by
      have := hS f (by simp) d hd
      rwa [(hφ d hd).1, Int.toNat_natCast] at this
    refine conB f (fun S hS d hd => ?_) cf
    have y := clB _ S hS _ (hτ d hd).2
    rw [bt d hd] at y
    rw [cf S hS d hd, y]
  · show (rd b (x : Int)).toNat < n
    rw [(hβ x hx).1, Int.toNat_natCast]
    exact (hβ x hx).2
  · have e : (rd b (x : Int)).toNat = (rd b (y : Int)).toNat := e
    rw [(hβ x hx).1, (hβ y hy).1, Int.toNat_natCast, Int.toNat_natCast] at e
    exact bi x y hx hy e
  · show rd b (((rd b (x : Int)).toNat : Nat) : Int) = (((rd b (((rd b (x : Int)).toNat : Nat) : Int)).toNat : Nat) : Int)
    have h := (hβ x hx)
    rw [h.1, Int.toNat_natCast, (hβ _ h.2).1, Int.toNat_natCast]
  · show rd f (((rd b (x : Int)).toNat : Nat) : Int) = (((rd b (((rd ((List.range n).map (fun (d : Nat) => rd t (rd b (d : Int)))) (x : Int)).toNat : Nat) : Int)).toNat : Nat) : Int)
    have h := (hβ x hx)
    rw [g1 x hx, Int.toNat_natCast, h.1, Int.toNat_natCast, (hφ _ h.2).1, (hβ _ (hτ _ h.2).2).1, Int.toNat_natCast, bt _ h.2]
theorem out_count (t f b : List Int) (n : Nat) (Q : QOk t f b n) : (cyS (tqT t b n) (2 * n) (2 * n)).2.length = (cyS t n n).2.length + (cyS (mulL f t n) n n).2.length := by
  have O := out_ok t f b n Q
  obtain ⟨on, o1, oT, oi, oF, ofl, ocon⟩ := id O
  obtain ⟨τ, φ, β, hτ, hφ, hβ, ff, fn, bt, tfb, ti, bi⟩ := Q.num
  obtain ⟨H, h6, hb, b1, b2⟩ := id Q
  obtain ⟨hn, h1, ht, hti, hf, hfl, hcon⟩ := id H
  have T : ∀ d : Nat, d < n → rd (tqT t b n) ((2 * d : Nat) : Int) = ((2 * τ d : Nat) : Int) ∧ rd (tqT t b n) ((2 * d + 1 : Nat) : Int) = ((2 * β d + 1 : Nat) : Int) := fun d hd => by
    obtain ⟨x, y⟩ := tqT_rd t b n d hd
    rw [x, y, (hτ d hd).1, (hβ d hd).1]
    exact ⟨by omega, by omega⟩
  have mi : injR n (mulL f t n) := fun i j hi hj e => by
    rw [mulL_rd f t n i hi, mulL_rd f t n j hj, (hφ i hi).1, (hφ j hj).1, (hτ _ (hφ i hi).2).1, (hτ _ (hφ j hj).2).1] at e
    have := ti _ _ (hφ i hi).2 (hφ j hj).2 (by omega)
    have e1 := ff i hi
    rw [this, ff j hj] at e1
    exact e1.symm
  have cT := cyS_cl (tqT t b n) (2 * n) oT oi
  obtain ⟨L1, p1, p2, p3⟩ := cyS_cl t n ht hti
  obtain ⟨L2, q1, q2, q3⟩ := cyS_cl (mulL f t n) n (mulL_inR n f t hf ht) mi
  -- the turn's classes
  have ev1 : ∀ x y, x < n → y < n → (Reach [tqT t b n] (2 * n) (2 * x) (2 * y) ↔ Reach [t] n x y) := by
    intro x y hx hy
    constructor
    · intro h S hS
      have := h (fun z => z % 2 = 0 ∧ S (z / 2)) (fun p hp k hk => by
        rw [List.mem_singleton.1 hp]
        obtain ⟨d, hd, rfl | rfl⟩ := half n k hk
        · rw [(T d hd).1, Int.toNat_natCast]
          have := hS t (by simp) d hd
          rw [(hτ d hd).1, Int.toNat_natCast] at this
          show (2 * d % 2 = 0 ∧ S (2 * d / 2)) ↔ (2 * τ d % 2 = 0 ∧ S (2 * τ d / 2))
          rw [show 2 * d / 2 = d by omega, show 2 * τ d / 2 = τ d by omega]
          constructor
          · rintro ⟨_, q⟩; exact ⟨by omega, this.1 q⟩
          · rintro ⟨_, q⟩; exact ⟨by omega, this.2 q⟩
        · rw [(T d hd).2, Int.toNat_natCast]
          constructor
          · rintro ⟨q, _⟩; omega
          · rintro ⟨q, _⟩; omega)
      rw [show 2 * x / 2 = x by omega, show 2 * y / 2 = y by omega] at this
      constructor
      · intro q; exact (this.1 ⟨by omega, q⟩).2
      · intro q; exact (this.2 ⟨by omega, q⟩).2
    · intro h S hS
      exact h (fun z => S (2 * z)) fun p hp k hk => by
        rw [List.mem_singleton.1 hp, (hτ k hk).1, Int.toNat_natCast]
        have := hS (tqT t b n) (by simp) (2 * k) (by omega)
        rwa [(T k hk).1, Int.toNat_natCast] at this
  have ev2 : ∀ x y, x < n → y < n → (Reach [tqT t b n] (2 * n) (2 * x + 1) (2 * y + 1) ↔ Reach [mulL f t n] n x y) := by
    intro x y hx hy
    have fac : ∀ (S : Nat → Prop), (∀ d, d < n → (S d ↔ S (β d))) ↔ closedL [mulL f t n] n S := by
      intro S
      constructor
      · intro h p hp k hk
        rw [List.mem_singleton.1 hp, mulL_rd f t n k hk, (hφ k hk).1, (hτ _ (hφ k hk).2).1, Int.toNat_natCast]
        have := h _ (hτ _ (hφ k hk).2).2
        rw [bt _ (hφ k hk).2, ff k hk] at this
        exact this.symm
      · intro h d hd
        have := h (mulL f t n) (by simp) (β d) (hβ d hd).2
        rw [mulL_rd f t n _ (hβ d hd).2, (hφ _ (hβ d hd).2).1, (hτ _ (hφ _ (hβ d hd).2).2).1, Int.toNat_natCast, tfb d hd] at this
        exact this.symm
    constructor
    · intro h S hS
      have hS' := (fac S).2 hS
      have := h (fun z => z % 2 = 1 ∧ S (z / 2)) (fun p hp k hk => by
        rw [List.mem_singleton.1 hp]
        obtain ⟨d, hd, rfl | rfl⟩ := half n k hk
        · rw [(T d hd).1, Int.toNat_natCast]
          constructor
          · rintro ⟨q, _⟩; omega
          · rintro ⟨q, _⟩; omega
        · rw [(T d hd).2, Int.toNat_natCast]
          show ((2 * d + 1) % 2 = 1 ∧ S ((2 * d + 1) / 2)) ↔ ((2 * β d + 1) % 2 = 1 ∧ S ((2 * β d + 1) / 2))
          rw [show (2 * d + 1) / 2 = d by omega, show (2 * β d + 1) / 2 = β d by omega]
          constructor
          · rintro ⟨_, q⟩; exact ⟨by omega, (hS' d hd).1 q⟩
          · rintro ⟨_, q⟩; exact ⟨by omega, (hS' d hd).2 q⟩)
      rw [show (2 * x + 1) / 2 = x by omega, show (2 * y + 1) / 2 = y by omega] at this
      constructor
      · intro q; exact (this.1 ⟨by omega, q⟩).2
      · intro q; exact (this.2 ⟨by omega, q⟩).2
    · intro h S hS
      exact h (fun z => S (2 * z + 1)) ((fac _).1 fun d hd => by
        have := hS (tqT t b n) (by simp) (2 * d + 1) (by omega)
        rwa [(T d hd).2, Int.toNat_natCast] at this)
  have ev3 : ∀ x y, x % 2 ≠ y % 2 → ¬ Reach [tqT t b n] (2 * n) x y := by
    intro x y hxy h
    have := (h (fun z => z % 2 = x % 2) (fun p hp k hk => by
      rw [List.mem_singleton.1 hp]
      obtain ⟨d, hd, rfl | rfl⟩ := half n k hk
      · rw [(T d hd).1, Int.toNat_natCast]; omega
      · rw [(T d hd).2, Int.toNat_natCast]; omega)).1 rfl
    omega
  have C : Cl (2 * n) (Reach [tqT t b n] (2 * n)) (L1.length + L2.length) := by
    refine ⟨L1.map (fun x => 2 * x) ++ L2.map (fun x => 2 * x + 1), ?_, fun x => ?_, by simp⟩
    · refine List.pairwise_append.2 ⟨List.pairwise_map.2 (p1.imp fun h e => h (by omega)), List.pairwise_map.2 (q1.imp fun h e => h (by omega)), fun x hx y hy e => ?_⟩
      obtain ⟨u, _, rfl⟩ := List.mem_map.1 hx
      obtain ⟨v, _, rfl⟩ := List.mem_map.1 hy
      omega
    · rw [List.mem_append, List.mem_map, List.mem_map]
      constructor
      · rintro (⟨u, hu, rfl⟩ | ⟨u, hu, rfl⟩)
        · obtain ⟨u1, u2⟩ := (p2 u).1 hu
          refine ⟨by omega, fun i hi hr => ?_⟩
          by_cases z : i % 2 = 0
          · have e : i = 2 * (i / 2) := by omega
            rw [e] at hr
            exact u2 (i / 2) (by omega) ((ev1 _ _ (by omega) u1).1 hr)
          · exact ev3 _ _ (by omega) hr
        · obtain ⟨u1, u2⟩ := (q2 u).1 hu
          refine ⟨by omega, fun i hi hr => ?_⟩
          by_cases z : i % 2 = 1
          · have e : i = 2 * (i / 2) + 1 := by omega
            rw [e] at hr
            exact u2 (i / 2) (by omega) ((ev2 _ _ (by omega) u1).1 hr)
          · exact ev3 _ _ (by omega) hr
      · rintro ⟨hx, hl⟩
        obtain ⟨d, hd, rfl | rfl⟩ := half n x hx
        · exact .inl ⟨d, (p2 d).2 ⟨hd, fun i hi hr => hl (2 * i) (by omega) ((ev1 i d (by omega) hd).2 hr)⟩, rfl⟩
        · exact .inr ⟨d, (q2 d).2 ⟨hd, fun i hi hr => hl (2 * i + 1) (by omega) ((ev2 i d (by omega) hd).2 hr)⟩, rfl⟩
  rw [cT.uniq C, p3, q3]
def MapOk (t f : List Int) (n : Nat) : Prop := n ≤ 12 ∧ 1 ≤ n ∧ inR n t ∧ injR n t ∧ inR n f ∧ (∀ i : Nat, i < n → flipAt f i) ∧ ∀ i j : Nat, i < n → j < n → Reach [t, f] n i j
def faces (t f : List Int) (n : Nat) : List Int := (List.range n).map fun (d : Nat) => rd t (rd f (d : Int))
theorem faces_len (t f : List Int) (n : Nat) : (faces t f n).length = n := by simp [faces]
theorem faces_rd (t f : List Int) (n d : Nat) (h : d < n) : rd (faces t f n) (d : Int) = rd t (rd f (d : Int)) := by
  rw [rd_lt _ _ (by simp [faces]; exact h)]
  simp [faces]
theorem perm_of (l : List Int) (n : Nat) (h1 : 1 ≤ n) (h12 : n ≤ 12) (hl : inR n l) (hi : injR n l) : isPerm l := by
  refine ⟨by rw [hl.1]; exact h1, by rw [hl.1]; exact h12, fun i hi' => ?_⟩
  rw [hl.1] at hi'
  have := hl.2 i hi'
  refine ⟨this.1, by rw [hl.1]; exact this.2, fun k hk e => ?_⟩
  have := hi k i (by omega) hi' e
  omega
theorem flip_inj (f : List Int) (n : Nat) (hf : inR n f) (hfl : ∀ i : Nat, i < n → flipAt f i) : injR n f := by
  intro i j hi hj e
  have h1 := (hfl i hi).2
  rw [e, (hfl j hj).2] at h1
  omega
theorem isMap_of {t f : List Int} {n : Nat} (H : MapOk t f n) : isMap t f := by
  obtain ⟨hn, h1, ht, hti, hf, hfl, hcon⟩ := H
  refine ⟨perm_of t n h1 hn ht hti, perm_of f n h1 hn hf (flip_inj f n hf hfl), by rw [ht.1, hf.1], ?_, ?_⟩
  · rw [hf.1]; exact hfl
  · rw [hf.1]; exact hcon
theorem faces_inR (t f : List Int) (n : Nat) (ht : inR n t) (hf : inR n f) : inR n (faces t f n) := by
  refine ⟨faces_len t f n, fun i hi => ?_⟩
  rw [faces_rd t f n i hi]
  have h1 := hf.2 i hi
  have h2 := ht.2 (rd f i).toNat (by omega)
  rwa [show (((rd f i).toNat : Nat) : Int) = rd f i by omega] at h2
theorem faces_inj (t f : List Int) (n : Nat) (ht : inR n t) (hti : injR n t) (hf : inR n f) (hfl : ∀ i : Nat, i < n → flipAt f i) : injR n (faces t f n) := by
  intro i j hi hj e
  rw [faces_rd t f n i hi, faces_rd t f n j hj] at e
  have h1 := hf.2 i hi
  have h2 := hf.2 j hj
  have e1 : (((rd f i).toNat : Nat) : Int) = rd f i := by omega
  have e2 : (((rd f j).toNat : Nat) : Int) = rd f j := by omega
  rw [← e1, ← e2] at e
  have := hti _ _ (by omega) (by omega) e
  exact flip_inj f n hf hfl i j hi hj (by omega)
theorem dual_ok {t f : List Int} {n : Nat} (H : MapOk t f n) : MapOk (faces t f n) f n := by
  obtain ⟨hn, h1, ht, hti, hf, hfl, hcon⟩ := H
  refine ⟨hn, h1, faces_inR t f n ht hf, faces_inj t f n ht hti hf hfl, hf, hfl, fun i j hi hj S hS => hcon i j hi hj S fun p hp k hk => ?_⟩
  have sf := hS f (by simp)
  rcases List.mem_cons.1 hp with rfl | hp
  · have fr := hf.2 k hk
    have h2 := hS (faces p f n) (by simp) (rd f k).toNat (by omega)
    have e1 : (((rd f k).toNat : Nat) : Int) = rd f k := by omega
    rw [faces_rd p f n _ (by omega), e1, (hfl k hk).2] at h2
    exact (sf k hk).trans h2
  · rw [List.mem_singleton.1 hp]
    exact sf k hk
theorem surj (t : List Int) (n : Nat) (ht : inR n t) (hti : injR n t) (i : Nat) (hi : i < n) : ∃ j : Nat, j < n ∧ rd t j = i := by
  obtain ⟨k, _, h2⟩ := itr_back t n ht hti i (by omega)
  have hin := itr_in t n ht k i (by omega)
  refine ⟨(itr t k i).toNat, by omega, ?_⟩
  rw [show (((itr t k i).toNat : Nat) : Int) = itr t k i by omega]
  have := itr_add t k 1 (i : Int)
  rw [h2] at this
  exact this.symm
theorem sameInts_run (l : List Int) (hl : l.length ≤ 1048576) : ∀ (d : Nat) (i : Nat), l.length - i = d → i ≤ l.length → Ev (fun k => laws_sameInts.l0 k l l i) true
  | 0, i, hd, hi => by
    refine Ev.s ?_
    simp only [laws_sameInts.l0, show ¬ (i : Int) < (l.length : Int) by omega, if_false]
    exact Ev.const rfl
  | d + 1, i, hd, hi => by
    refine Ev.s ?_
    simp only [laws_sameInts.l0, show (i : Int) < (l.length : Int) by omega, show (0 : Int) ≤ i by omega, if_true]
    rw [w64 (x := (i : Int) + 1) (by omega) (by omega), show ((i : Int) + 1) = ((i + 1 : Nat) : Int) by omega]
    exact sameInts_run l hl d (i + 1) (by omega) (by omega)
theorem sameInts_same (l : List Int) (hl : l.length ≤ 1048576) : Ev (fun k => laws_sameInts.f k l l) true := by
  unfold laws_sameInts.f
  simp only [if_true]
  exact sameInts_run l hl l.length 0 (by omega) (by omega)
theorem xor_nonneg (a b : Int) (ha : 0 ≤ a) (hb : 0 ≤ b) (ha' : a < 9223372036854775808) (hb' : b < 9223372036854775808) : 0 ≤ Go.bits .xor .i64 a b := by
  obtain ⟨n, rfl⟩ := Int.eq_ofNat_of_zero_le ha
  obtain ⟨m, rfl⟩ := Int.eq_ofNat_of_zero_le hb
  have hn : n % 2 ^ 64 = n := Nat.mod_eq_of_lt (by omega)
  have hm : m % 2 ^ 64 = m := Nat.mod_eq_of_lt (by omega)
  have hx : n ^^^ m < 2 ^ 63 := Nat.xor_lt_two_pow (by omega) (by omega)
  have e : Go.bits .xor .i64 (n : Int) (m : Int) = IntKind.i64.wrap ((n ^^^ m : Nat) : Int) := by
    simp only [Go.bits, BitVec.ofInt_natCast]
    show IntKind.i64.wrap (((BitVec.ofNat 64 n ^^^ BitVec.ofNat 64 m).toNat : Nat) : Int) = _
    rw [BitVec.toNat_xor, BitVec.toNat_ofNat, BitVec.toNat_ofNat, hn, hm]
  rw [e, IntKind.wrap_i64]
  omega
def bytesOk (l : List Int) : Prop := l.length ≤ 2000 ∧ ∀ x ∈ l, 0 ≤ x ∧ x ≤ 255
theorem rd_byte (l : List Int) (h : bytesOk l) (i : Int) : 0 ≤ rd l i ∧ rd l i ≤ 255 := by
  unfold rd
  by_cases hi : i.toNat < l.length
  · rw [List.getD_eq_getElem?_getD, List.getElem?_eq_getElem hi]
    exact h.2 _ (List.getElem_mem hi)
  · rw [List.getD_eq_getElem?_getD, List.getElem?_eq_none (by omega)]
    decide
theorem pick_ev (l : List Int) (h : bytesOk l) (p : Int) (hp : 0 ≤ p) (hp' : p ≤ 1000000) (n : Int) (hn : 1 ≤ n) (hn' : n ≤ 1000000) : ∃ v, Ev (fun k => spec_l6Rd_pick.f k l p n) (v, p + 1) ∧ 0 ≤ v ∧ v < n := by
  have w0 : wrap64 (p + 1) = p + 1 := w64 (by omega) (by omega)
  have w1 : wrap64 (p + 1 - 1) = p := by rw [w64 (by omega) (by omega)]; omega
  have hl := h.1
  unfold spec_l6Rd_pick.f
  simp only [show ¬ n < 1 by omega, if_false, w0]
  by_cases hz : l.length = 0
  · refine ⟨0, Ev.s ?_, by omega, by omega⟩
    have : (((l.length : Int)) == 0) = true := by simp [hz]
    simp only [this, spec_l6Rd_pick.j0, if_true]
    exact Ev.const rfl
  · have hb : (((l.length : Int)) == 0) = false := by rw [beq_eq_false_iff_ne]; omega
    have hn0 : ¬ n = 0 := by omega
    by_cases hlt : p < (l.length : Int)
    · have hr := rd_byte l h p
      have wr : wrap64 (rd l p) = rd l p := w64 (by omega) (by omega)
      refine ⟨Int.tmod (rd l p) n, Ev.s ?_, Int.tmod_nonneg _ (by omega), Int.tmod_lt_of_pos _ (by omega)⟩
      simp only [hb, spec_l6Rd_pick.j0, w1, hlt, hp, hn0, wr, Bool.false_eq_true, if_true, if_false]
      exact Ev.const rfl
    · have hl0 : ¬ (l.length : Int) = 0 := by omega
      have wk : wrap64 (p * 7) = p * 7 := w64 (by omega) (by omega)
      have wk3 : wrap64 (p * 7 + 3) = p * 7 + 3 := w64 (by omega) (by omega)
      have t1 := Int.tmod_nonneg (a := p) (l.length : Int) hp
      have t2 := Int.tmod_lt_of_pos p (b := (l.length : Int)) (by omega)
      have t3 := Int.tmod_nonneg (a := p * 7 + 3) (l.length : Int) (by omega)
      have t4 := Int.tmod_lt_of_pos (p * 7 + 3) (b := (l.length : Int)) (by omega)
      have r1 := rd_byte l h (Int.tmod p (l.length : Int))
      have r2 := rd_byte l h (Int.tmod (p * 7 + 3) (l.length : Int))
      have d1 : 0 ≤ Int.tdiv p (l.length : Int) := Int.tdiv_nonneg hp (by omega)
      have d2 : Int.tdiv p (l.length : Int) ≤ p := Int.tdiv_le_self _ hp
      obtain ⟨X, hX, hX0, hX1⟩ : ∃ X, (wrap64 ((wrap64 ((wrap64 ((wrap64 ((wrap64 (rd l (Int.tmod p (l.length : Int)))) * 131)) + (wrap64 ((wrap64 (rd l (Int.tmod (p * 7 + 3) (l.length : Int)))) * 1117)))) + (wrap64 (p * 29)))) + (wrap64 ((wrap64 (Int.tdiv p (l.length : Int))) * 53)))) = X ∧ 0 ≤ X ∧ X < 4611686018427387904 := by
        refine ⟨_, rfl, ?_, ?_⟩
        all_goals
          generalize rd l (Int.tmod p (l.length : Int)) = a at *
          generalize rd l (Int.tmod (p * 7 + 3) (l.length : Int)) = b at *
          generalize Int.tdiv p (l.length : Int) = c at *
          rw [w64 (x := a) (by omega) (by omega), w64 (x := b) (by omega) (by omega), w64 (x := a * 131) (by omega) (by omega), w64 (x := b * 1117) (by omega) (by omega), w64 (x := a * 131 + b * 1117) (by omega) (by omega), w64 (x := p * 29) (by omega) (by omega), w64 (x := a * 131 + b * 1117 + p * 29) (by omega) (by omega), w64 (x := c) (by omega) (by omega), w64 (x := c * 53) (by omega) (by omega), w64 (x := a * 131 + b * 1117 + p * 29 + c * 53) (by omega) (by omega)]
          omega
      have hd : 0 ≤ wrap64 (Int.tdiv X 64) ∧ wrap64 (Int.tdiv X 64) < 9223372036854775808 := by
        have := Int.tdiv_nonneg hX0 (show (0 : Int) ≤ 64 by decide)
        have := Int.tdiv_le_self 64 hX0
        rw [w64 (by omega) (by omega)]
        omega
      have hx := xor_nonneg X (wrap64 (Int.tdiv X 64)) hX0 hd.1 (by omega) hd.2
      refine ⟨Int.tmod (Go.bits .xor .i64 X (wrap64 (Int.tdiv X 64))) n, Ev.s ?_, Int.tmod_nonneg _ hx, Int.tmod_lt_of_pos _ (by omega)⟩
      simp only [hb, spec_l6Rd_pick.j0, w1, hlt, hl0, wk, wk3, t1, t2, t3, t4, hn0, hX, Bool.false_eq_true, if_true, if_false]
      exact Ev.const rfl
theorem open_ev (l : List Int) (hb : ∀ x ∈ l, (Lit.int .u8 x).wf = true) : ∃ l', spec_l6Open.f l = some (l', 0) ∧ bytesOk l' := by
  have hb' : ∀ x ∈ l, 0 ≤ x ∧ x ≤ 255 := by
    intro x hx
    have := hb x hx
    simp only [Lit.wf, IntKind.min, IntKind.max, IntKind.signed, IntKind.bits, Bool.and_eq_true, decide_eq_true_eq, Bool.false_eq_true, if_false] at this
    omega
  unfold spec_l6Open.f
  by_cases h : (l.length : Int) > 2000
  · refine ⟨l.take 2000, ?_, ?_, fun x hx => hb' x (List.mem_of_mem_take hx)⟩
    · rw [if_pos h, if_pos (by omega)]
    · rw [List.length_take]; omega
  · exact ⟨l, by rw [if_neg h], by omega, hb'⟩
theorem push_self (o : List Int) (i : Nat) (ho : inR i o) (hi : injR i o) : inR (i + 1) (o ++ [(i : Int)]) ∧ injR (i + 1) (o ++ [(i : Int)]) := by
  have last : rd (o ++ [(i : Int)]) (i : Int) = i := by
    rw [rd_lt _ _ (by simp [ho.1]), List.getElem_append_right (by rw [ho.1]; exact Nat.le_refl _)]
    simp
  have old : ∀ j : Nat, j < i → rd (o ++ [(i : Int)]) (j : Int) = rd o (j : Int) := fun j hj => rd_app_lt _ _ _ (by rw [ho.1]; exact hj)
  refine ⟨⟨by simp [ho.1], fun j hj => ?_⟩, fun j k hj hk e => ?_⟩
  · by_cases h : j < i
    · rw [old j h]
      have := ho.2 j h
      omega
    · rw [show j = i by omega, last]
      omega
  · by_cases h : j < i
    · have a := ho.2 j h
      by_cases h' : k < i
      · rw [old j h, old k h'] at e
        exact hi j k h h' e
      · rw [show k = i by omega, last, old j h] at e
        omega
    · by_cases h' : k < i
      · have a := ho.2 k h'
        rw [show j = i by omega, last, old k h'] at e
        omega
      · omega
theorem set_perm (o : List Int) (n a b : Nat) (ho : inR n o) (hi : injR n o) (ha : a < n) (hb : b < n) : inR n ((o.set a (rd o b)).set b (rd o a)) ∧ injR n ((o.set a (rd o b)).set b (rd o a)) := by
  have val : ∀ j : Nat, j < n → rd ((o.set a (rd o b)).set b (rd o a)) (j : Int) = if b = j then rd o a else if a = j then rd o b else rd o j := by
    intro j hj
    by_cases e1 : b = j
    · subst e1
      rw [rd_set_self _ _ _ (by simp [ho.1]; exact hb), if_pos rfl]
    · rw [rd_set_ne _ _ _ _ e1, if_neg e1]
      by_cases e2 : a = j
      · subst e2
        rw [rd_set_self _ _ _ (by rw [ho.1]; exact ha), if_pos rfl]
      · rw [rd_set_ne _ _ _ _ e2, if_neg e2]
  have ra := ho.2 a ha
  have rb := ho.2 b hb
  refine ⟨⟨by simp [ho.1], fun j hj => ?_⟩, fun j k hj hk e => ?_⟩
  · rw [val j hj]
    have := ho.2 j hj
    split
    · exact ra
    · split
      · exact rb
      · exact this
  · rw [val j hj, val k hk] at e
    have i1 := hi a b ha hb
    have i2 := hi a j ha hj
    have i3 := hi a k ha hk
    have i4 := hi b j hb hj
    have i5 := hi b k hb hk
    have i6 := hi j k hj hk
    by_cases c1 : b = j
    · rw [if_pos c1] at e
      by_cases c2 : b = k
      · omega
      · rw [if_neg c2] at e
        by_cases c3 : a = k
        · rw [if_pos c3] at e
          have := i1 e
          omega
        · rw [if_neg c3] at e
          exact absurd (i3 e) c3
    · rw [if_neg c1] at e
      by_cases c4 : a = j
      · rw [if_pos c4] at e
        by_cases c2 : b = k
        · rw [if_pos c2] at e
          have := i1 e.symm
          omega
        · rw [if_neg c2] at e
          by_cases c3 : a = k
          · omega
          · rw [if_neg c3] at e
            exact absurd (i5 e) c2
      · rw [if_neg c4] at e
        by_cases c2 : b = k
        · rw [if_pos c2] at e
          exact absurd (i2 e.symm) c4
        · rw [if_neg c2] at e
          by_cases c3 : a = k
          · rw [if_pos c3] at e
            exact absurd (i4 e.symm) c1
          · rw [if_neg c3] at e
            exact i6 e
theorem push_swap (o : List Int) (i k : Nat) (hk : k < i) (ho : inR i o) (hi : injR i o) : inR (i + 1) ((o ++ [rd o k]).set k (i : Int)) ∧ injR (i + 1) ((o ++ [rd o k]).set k (i : Int)) := by
  obtain ⟨p1, p2⟩ := push_self o i ho hi
  have e : ((o ++ [(i : Int)]).set k (rd (o ++ [(i : Int)]) i)).set i (rd (o ++ [(i : Int)]) k) = (o ++ [rd o k]).set k (i : Int) := by
    have last : rd (o ++ [(i : Int)]) (i : Int) = i := by
      rw [rd_lt _ _ (by simp [ho.1]), List.getElem_append_right (by rw [ho.1]; exact Nat.le_refl _)]
      simp
    have last' : ∀ v : Int, rd (o ++ [v]) (i : Int) = v := by
      intro v
      rw [rd_lt _ _ (by simp [ho.1]), List.getElem_append_right (by rw [ho.1]; exact Nat.le_refl _)]
      simp
    refine list_ext _ _ (by simp) fun j hj => ?_
    have hj' : j < i + 1 := by simp [ho.1] at hj; omega
    have l1 : (o ++ [(i : Int)]).length = i + 1 := by simp [ho.1]
    have l2 : (o ++ [rd o k]).length = i + 1 := by simp [ho.1]
    rw [last, rd_app_lt o _ k (by rw [ho.1]; exact hk)]
    by_cases e1 : i = j
    · subst e1
      rw [rd_set_self _ _ _ (by simp [ho.1]), rd_set_ne _ _ _ _ (by omega), last']
    · rw [rd_set_ne _ _ _ _ e1]
      by_cases e2 : k = j
      · subst e2
        rw [rd_set_self _ _ _ (by omega), rd_set_self _ _ _ (by omega)]
      · rw [rd_set_ne _ _ _ _ e2, rd_set_ne _ _ _ _ e2, rd_app_lt _ _ _ (by rw [ho.1]; omega), rd_app_lt _ _ _ (by rw [ho.1]; omega)]
  have := set_perm (o ++ [(i : Int)]) (i + 1) k i p1 p2 (by omega) (by omega)
  rwa [e] at this
theorem perm_run (l : List Int) (h : bytesOk l) (n : Nat) (hn : n ≤ 100) : ∀ (d i : Nat) (o : List Int) (p : Int), n - i = d → i ≤ n → inR i o → injR i o → 0 ≤ p → p + d ≤ 1000 → ∃ (o' : List Int), Ev (fun k => spec_l91Perm.l0 k n o i l p) (o', p + d) ∧ inR n o' ∧ injR n o'
  | 0, i, o, p, hd, hi, ho, hoi, hp, hp' => by
    have : i = n := by omega
    subst this
    refine ⟨o, Ev.s ?_, ho, hoi⟩
    simp only [spec_l91Perm.l0, show ¬ (i : Int) < (i : Int) by omega, if_false]
    exact Ev.const (by simp)
  | d + 1, i, o, p, hd, hi, ho, hoi, hp, hp' => by
    obtain ⟨v, hv, v0, v1⟩ := pick_ev l h p hp (by omega) ((i + 1 : Nat) : Int) (by omega) (by omega)
    have w1 : i < 4611686018427387904 := by omega
    have w2 : o.length < 17592186044416 := by rw [ho.1]; omega
    have w3 : o.length = i := ho.1
    by_cases e : v = (i : Int)
    · obtain ⟨q1, q2⟩ := push_self o i ho hoi
      obtain ⟨o', r1, r2, r3⟩ := perm_run l h n hn d (i + 1) _ (p + 1) (by omega) (by omega) q1 q2 (by omega) (by omega)
      refine ⟨o', Ev.s ?_, r2, r3⟩
      simp only [spec_l91Perm.l0, show (i : Int) < (n : Int) by omega, if_true, w64n w1]
      refine Ev.bind hv ?_
      simp only [e, w2, if_true]
      rw [show p + ((d + 1 : Nat) : Int) = p + 1 + d by omega]
      exact r1
    · obtain ⟨q1, q2⟩ := push_swap o i v.toNat (by omega) ho hoi
      obtain ⟨o', r1, r2, r3⟩ := perm_run l h n hn d (i + 1) _ (p + 1) (by omega) (by omega) q1 q2 (by omega) (by omega)
      rw [show ((v.toNat : Nat) : Int) = v by omega] at r1
      have w4 : v < (i : Int) := by omega
      have w5 : v < ((o ++ [rd o v]).length : Int) := by simp [w3]; omega
      refine ⟨o', Ev.s ?_, r2, r3⟩
      simp only [spec_l91Perm.l0, show (i : Int) < (n : Int) by omega, if_true, w64n w1]
      refine Ev.bind hv ?_
      simp only [e, if_false, v0, w3, w4, w2, if_true, Option.bind_some, w5]
      rw [show p + ((d + 1 : Nat) : Int) = p + 1 + d by omega]
      rw [w3] at w2
      simp only [w2, if_true, w5]
      exact r1
theorem l91Perm_ev (l : List Int) (h : bytesOk l) (n : Nat) (hn : n ≤ 100) (p : Int) (hp : 0 ≤ p) (hp' : p ≤ 500) : ∃ (o : List Int), Ev (fun k => spec_l91Perm.f k l p n) (o, p + n) ∧ inR n o ∧ injR n o := by
  unfold spec_l91Perm.f
  have := perm_run l h n hn n 0 [] p (by omega) (by omega) ⟨rfl, fun i hi => by omega⟩ (fun i j hi _ _ => by omega) hp (by omega)
  exact this
def paired (n : Nat) (q g : List Int) (i : Nat) : Prop := inR n g ∧ ∀ j : Nat, 2 * j + 1 < i → rd g (rd q ((2 * j : Nat) : Int)) = rd q ((2 * j + 1 : Nat) : Int) ∧ rd g (rd q ((2 * j + 1 : Nat) : Int)) = rd q ((2 * j : Nat) : Int)
theorem toNat_eq {a b : Int} (ha : 0 ≤ a) (hb : 0 ≤ b) (h : a.toNat = b.toNat) : a = b := by omega
theorem pair_step (n : Nat) (q g : List Int) (hq : inR n q) (hqi : injR n q) (i : Nat) (hi : 2 * i + 1 < n) (h : paired n q g (2 * i)) :
    paired n q ((g.set (rd q ((2 * i : Nat) : Int)).toNat (rd q ((2 * i + 1 : Nat) : Int))).set (rd q ((2 * i + 1 : Nat) : Int)).toNat (rd q ((2 * i : Nat) : Int))) (2 * i + 2) := by
  have ra := hq.2 (2 * i) (by omega)
  have rb := hq.2 (2 * i + 1) (by omega)
  have ne : (rd q ((2 * i : Nat) : Int)).toNat ≠ (rd q ((2 * i + 1 : Nat) : Int)).toNat := by
    intro e
    have := hqi (2 * i) (2 * i + 1) (by omega) (by omega) (toNat_eq ra.1 rb.1 e)
    omega
  have val : ∀ x : Nat, x < n → rd ((g.set (rd q ((2 * i : Nat) : Int)).toNat (rd q ((2 * i + 1 : Nat) : Int))).set (rd q ((2 * i + 1 : Nat) : Int)).toNat (rd q ((2 * i : Nat) : Int))) (x : Int) = if (rd q ((2 * i + 1 : Nat) : Int)).toNat = x then rd q ((2 * i : Nat) : Int) else if (rd q ((2 * i : Nat) : Int)).toNat = x then rd q ((2 * i + 1 : Nat) : Int) else rd g x := by
    intro x hx
    by_cases e1 : (rd q ((2 * i + 1 : Nat) : Int)).toNat = x
    · rw [if_pos e1, ← e1, rd_set_self _ _ _ (by rw [List.length_set, h.1.1]; omega)]
    · rw [rd_set_ne _ _ _ _ e1, if_neg e1]
      by_cases e2 : (rd q ((2 * i : Nat) : Int)).toNat = x
      · rw [if_pos e2, ← e2, rd_set_self _ _ _ (by rw [h.1.1]; omega)]
      · rw [rd_set_ne _ _ _ _ e2, if_neg e2]
  refine ⟨⟨by simp [h.1.1], fun x hx => ?_⟩, fun j hj => ?_⟩
  · rw [val x hx]
    have := h.1.2 x hx
    split
    · exact ra
    · split
      · exact rb
      · exact this
  · have sa := hq.2 (2 * j) (by omega)
    have sb := hq.2 (2 * j + 1) (by omega)
    have ea : (((rd q ((2 * j : Nat) : Int)).toNat : Nat) : Int) = rd q ((2 * j : Nat) : Int) := by omega
    have eb : (((rd q ((2 * j + 1 : Nat) : Int)).toNat : Nat) : Int) = rd q ((2 * j + 1 : Nat) : Int) := by omega
    rw [← ea, ← eb, val _ (by omega), val _ (by omega), ea, eb]
    by_cases z : j = i
    · subst z
      rw [if_neg (fun e => ne e.symm), if_pos rfl, if_pos rfl]
      exact ⟨rfl, rfl⟩
    · have old := h.2 j (by omega)
      have n1 : (rd q ((2 * i + 1 : Nat) : Int)).toNat ≠ (rd q ((2 * j : Nat) : Int)).toNat := fun e => by
        have := hqi (2 * i + 1) (2 * j) (by omega) (by omega) (toNat_eq rb.1 sa.1 e)
        omega
      have n2 : (rd q ((2 * i : Nat) : Int)).toNat ≠ (rd q ((2 * j : Nat) : Int)).toNat := fun e => by
        have := hqi (2 * i) (2 * j) (by omega) (by omega) (toNat_eq ra.1 sa.1 e)
        omega
      have n3 : (rd q ((2 * i + 1 : Nat) : Int)).toNat ≠ (rd q ((2 * j + 1 : Nat) : Int)).toNat := fun e => by
        have := hqi (2 * i + 1) (2 * j + 1) (by omega) (by omega) (toNat_eq rb.1 sb.1 e)
        omega
      have n4 : (rd q ((2 * i : Nat) : Int)).toNat ≠ (rd q ((2 * j + 1 : Nat) : Int)).toNat := fun e => by
        have := hqi (2 * i) (2 * j + 1) (by omega) (by omega) (toNat_eq ra.1 sb.1 e)
        omega
      rw [if_neg n1, if_neg n2, if_neg n3, if_neg n4]
      exact old
theorem paired_flip (n m : Nat) (hm : n = 2 * m) (q g : List Int) (hq : inR n q) (hqi : injR n q) (h : paired n q g n) : ∀ d : Nat, d < n → flipAt g d := by
  intro d hd
  obtain ⟨j, hj, e⟩ := surj q n hq hqi d hd
  have rep : ∃ i, (j = 2 * i ∨ j = 2 * i + 1) ∧ 2 * i + 1 < n := by
    refine ⟨j / 2, by omega, by omega⟩
  obtain ⟨i, hj', hi⟩ := rep
  have o := h.2 i hi
  have ne : rd q ((2 * i : Nat) : Int) ≠ rd q ((2 * i + 1 : Nat) : Int) := by
    intro e
    have := hqi (2 * i) (2 * i + 1) (by omega) (by omega) e
    omega
  rcases hj' with rfl | rfl
  · rw [e] at o ne
    unfold flipAt
    rw [o.1]
    exact ⟨fun z => ne z.symm, o.2⟩
  · rw [e] at o ne
    unfold flipAt
    rw [o.2]
    exact ⟨ne, o.1⟩
def drewMap (F : Nat → Option (List Int × List Int × Int)) (p : Int) : Prop := ∃ (t f : List Int) (p' : Int), Ev F (t, f, p') ∧ t.length ≤ 12 ∧ f.length ≤ 12 ∧ 0 ≤ p' ∧ p' ≤ p + 1
theorem map_end (l : List Int) (h : bytesOk l) (n : Nat) (h1 : 1 ≤ n) (hn : n ≤ 12) (i : Int) (p : Int) (hp : 0 ≤ p) (hp' : p ≤ 500) (t f : List Int) (ht : t.length = n) (hf : f.length = n) : drewMap (fun k => spec_l91Map.j2 k n i false l p t f) p := by
  obtain ⟨v, hv, v0, v1⟩ := pick_ev l h p hp (by omega) 50 (by omega) (by omega)
  have g1 : (0 : Int) < (f.length : Int) := by omega
  have g2 : (1 : Int) ≤ (t.length : Int) := by omega
  have g3 : (0 : Int) < (t.length : Int) := by omega
  by_cases c0 : v = 0
  · refine ⟨t, f.set 0 0, p + 1, Ev.s ?_, by omega, by simp; omega, by omega, by omega⟩
    simp only [spec_l91Map.j2, Bool.false_eq_true, if_false]
    refine Ev.bind hv ?_
    simp only [c0, g1, if_true]
    exact Ev.const rfl
  · by_cases c1 : v = 1
    · refine ⟨t.drop 1, f, p + 1, Ev.s ?_, by simp; omega, by omega, by omega, by omega⟩
      simp only [spec_l91Map.j2, Bool.false_eq_true, if_false]
      refine Ev.bind hv ?_
      simp only [c0, c1, g2, show ¬ (1 : Int) = 0 by decide, if_true, if_false]
      exact Ev.const rfl
    · by_cases c2 : v = 2
      · refine ⟨t.set 0 n, f, p + 1, Ev.s ?_, by simp; omega, by omega, by omega, by omega⟩
        simp only [spec_l91Map.j2, Bool.false_eq_true, if_false]
        refine Ev.bind hv ?_
        simp only [c2, g3, show ¬ (2 : Int) = 0 by decide, show ¬ (2 : Int) = 1 by decide, if_true, if_false]
        exact Ev.const rfl
      · refine ⟨t, f, p + 1, Ev.s ?_, by omega, by omega, by omega, by omega⟩
        simp only [spec_l91Map.j2, Bool.false_eq_true, if_false]
        refine Ev.bind hv ?_
        simp only [c0, c1, c2, if_false]
        exact Ev.const rfl
theorem map_find (n : Nat) (hn : n ≤ 12) (o : List Int) (ho : o.length = n) (i : Int) (l : List Int) (p : Int) (t f : List Int) (ht : t.length = n) (z : Nat) (hz : z < n) (hz0 : rd o z ≠ 0) (hz1 : ∀ y : Nat, y < z → rd o y = 0) (r : List Int × List Int × Int)
    (h : Ev (fun k => spec_l91Map.l1 k n (wrap64 (i + 1)) l p ((t.set 0 (rd t (z : Int))).set z (rd t 0)) f) r) : ∀ (d y : Nat), z - y = d → y ≤ z → Ev (fun k => spec_l91Map.l2 k n i o y l p t f) r
  | 0, y, hd, hy => by
    have : y = z := by omega
    subst this
    refine Ev.s ?_
    simp only [spec_l91Map.l2, ho, ht, show (0 : Int) ≤ (y : Int) by omega, show (y : Int) < (n : Int) by omega, hz0, show (0 : Int) < (n : Int) by omega, if_true, if_false, Int.toNat_natCast]
    exact h
  | d + 1, y, hd, hy => by
    refine Ev.s ?_
    simp only [spec_l91Map.l2, ho, show (0 : Int) ≤ (y : Int) by omega, show (y : Int) < (n : Int) by omega, hz1 y (by omega), if_true, w64n (show y < 4611686018427387904 by omega)]
    exact map_find n hn o ho i l p t f ht z hz hz0 hz1 r h d (y + 1) (by omega) (by omega)
theorem map_loop (l : List Int) (h : bytesOk l) (n : Nat) (h1 : 1 ≤ n) (hn : n ≤ 12) (f : List Int) (hf : inR n f) (hfl : ∀ d : Nat, d < n → flipAt f d) (p : Int) (hp : 0 ≤ p) (hp' : p ≤ 500) : ∀ (d i : Nat) (t : List Int), n - i = d → i ≤ n → inR n t → injR n t → drewMap (fun k => spec_l91Map.l1 k n i l p t f) p
  | 0, i, t, hd, hi, ht, hti => by
    have : i = n := by omega
    subst this
    obtain ⟨a, b, c, e1, e2⟩ := map_end l h i h1 hn i p hp hp' t f ht.1 hf.1
    refine ⟨a, b, c, Ev.s ?_, e2⟩
    simp only [spec_l91Map.l1, show ¬ (i : Int) < (i : Int) by omega, if_false]
    exact e1
  | d + 1, i, t, hd, hi, ht, hti => by
    obtain ⟨b, b1, _, b3⟩ := mapValid_both t f (by rw [ht.1]; omega) (by rw [hf.1]; omega)
    cases b with
    | true =>
      obtain ⟨a, b', c, e1, e2⟩ := map_end l h n h1 hn i p hp hp' t f ht.1 hf.1
      refine ⟨a, b', c, Ev.s ?_, e2⟩
      simp only [spec_l91Map.l1, show (i : Int) < (n : Int) by omega, if_true]
      refine Ev.bind b1 ?_
      exact e1
    | false =>
      obtain ⟨o, o1, o2, _⟩ := orb_both t f n hn h1 ht hf
      have nz : ∃ z, z < n ∧ rd o (z : Int) ≠ 0 := by
        by_cases q : ∃ z, z < n ∧ rd o ((z : Nat) : Int) ≠ 0
        · exact q
        · exfalso
          have all0 : ∀ q : Nat, q < n → rd o q = 0 := fun z hz => by
            by_cases e : rd o (z : Int) = 0
            · exact e
            · exact absurd ⟨z, hz, e⟩ q
          have hc := (orb_zero t f n h1 ht hf o o1).1 all0
          have hm : isMap t f := isMap_of ⟨hn, h1, ht, hti, hf, hfl, hc⟩
          have := b3.2 hm
          cases this
      have least : ∃ z, z < n ∧ rd o (z : Int) ≠ 0 ∧ ∀ y : Nat, y < z → rd o y = 0 := by
        obtain ⟨z, hz, hz0⟩ := nz
        induction z using Nat.strongRecOn with
        | ind z ih =>
          by_cases q : ∃ y, y < z ∧ rd o ((y : Nat) : Int) ≠ 0
          · obtain ⟨y, y1, y2⟩ := q
            exact ih y y1 (by omega) y2
          · exact ⟨z, hz, hz0, fun y hy => by
              by_cases e : rd o (y : Int) = 0
              · exact e
              · exact absurd ⟨y, hy, e⟩ q⟩
      obtain ⟨z, hz, hz0, hz1⟩ := least
      obtain ⟨q1, q2⟩ := set_perm t n 0 z ht hti (by omega) hz
      obtain ⟨a, b', c, e1, e2⟩ := map_loop l h n h1 hn f hf hfl p hp hp' d (i + 1) _ (by omega) (by omega) q1 q2
      refine ⟨a, b', c, Ev.s ?_, e2⟩
      simp only [spec_l91Map.l1, show (i : Int) < (n : Int) by omega, if_true]
      refine Ev.bind b1 ?_
      refine Ev.s ?_
      simp only [spec_l91Map.j2, Bool.not_false, if_true]
      refine Ev.bind o2 ?_
      refine map_find n hn o o1.1.1 i l p t f ht.1 z hz hz0 hz1 _ ?_ z 0 (by omega) (by omega)
      rw [w64n (by omega)]
      exact e1
theorem map_pairs (l : List Int) (h : bytesOk l) (n m : Nat) (hm : n = 2 * m) (h1 : 1 ≤ m) (hn : n ≤ 12) (q : List Int) (hq : inR n q) (hqi : injR n q) (p : Int) (hp : 0 ≤ p) (hp' : p ≤ 400) : ∀ (d i : Nat) (g : List Int), m - i = d → i ≤ m → paired n q g (2 * i) → ∃ (t f : List Int) (p' : Int), Ev (fun k => spec_l91Map.l0 k n q g ((2 * i : Nat) : Int) l p) (t, f, p') ∧ t.length ≤ 12 ∧ f.length ≤ 12 ∧ 0 ≤ p' ∧ p' ≤ p + 13
  | 0, i, g, hd, hi, hg => by
    have : i = m := by omega
    subst this
    rw [← hm] at hg
    obtain ⟨t, t1, t2, t3⟩ := l91Perm_ev l h n (by omega) p hp (by omega)
    obtain ⟨a, b, c, e1, e2, e3, e4, e5⟩ := map_loop l h n (by omega) hn g hg.1 (paired_flip n i hm q g hq hqi hg) (p + n) (by omega) (by omega) n 0 t (by omega) (by omega) t2 t3
    refine ⟨a, b, c, Ev.s ?_, e2, e3, e4, by omega⟩
    have w : i < 1000 := by omega
    simp only [spec_l91Map.l0, w64n (show 2 * i < 4611686018427387904 by omega), show ¬ ((2 * i + 1 : Nat) : Int) < (n : Int) by omega, if_false]
    exact Ev.bind t1 e1
  | d + 1, i, g, hd, hi, hg => by
    have ra := hq.2 (2 * i) (by omega)
    have rb := hq.2 (2 * i + 1) (by omega)
    obtain ⟨a, b, c, e1, e2⟩ := map_pairs l h n m hm h1 hn q hq hqi p hp hp' d (i + 1) _ (by omega) (by omega) (pair_step n q g hq hqi i (by omega) hg)
    refine ⟨a, b, c, Ev.s ?_, e2⟩
    have w2 : wrap64 (((2 * i : Nat) : Int) + 2) = ((2 * (i + 1) : Nat) : Int) := by rw [w64 (by omega) (by omega)]; omega
    simp only [spec_l91Map.l0, w64n (show 2 * i < 4611686018427387904 by omega), show ((2 * i + 1 : Nat) : Int) < (n : Int) by omega, show (0 : Int) ≤ ((2 * i : Nat) : Int) by omega, show (0 : Int) ≤ ((2 * i + 1 : Nat) : Int) by omega, hq.1, show ((2 * i : Nat) : Int) < (n : Int) by omega, hg.1.1, ra.1, ra.2, rb.1, rb.2, if_true, w2]
    exact e1
theorem l91Map_at (l : List Int) (h : bytesOk l) (p : Int) (hp : 0 ≤ p) (hp' : p ≤ 200) (edges : Nat) (h1 : 1 ≤ edges) (h6 : edges ≤ 6) : ∃ (t f : List Int) (p' : Int), Ev (fun k => spec_l91Map.f k l p edges) (t, f, p') ∧ t.length ≤ 12 ∧ f.length ≤ 12 ∧ 0 ≤ p' ∧ p' ≤ p + 100 := by
  obtain ⟨v, hv, v0, v1⟩ := pick_ev l h p hp (by omega) (edges : Int) (by omega) (by omega)
  obtain ⟨V, rfl⟩ : ∃ V : Nat, v = (V : Int) := ⟨v.toNat, by omega⟩
  obtain ⟨q, q1, q2, q3⟩ := l91Perm_ev l h (2 * (1 + V)) (by omega) (p + 1) (by omega) (by omega)
  have rep : paired (2 * (1 + V)) q (List.replicate (2 * (1 + V)) 0) (2 * 0) := by
    refine ⟨⟨by simp, fun i hi => ?_⟩, fun j hj => by omega⟩
    rw [rd_lt _ _ (by simpa using hi)]
    simp
    omega
  obtain ⟨a, b, c, e1, e2, e3, e4, e5⟩ := map_pairs l h (2 * (1 + V)) (1 + V) rfl (by omega) (by omega) q q2 q3 (p + 1 + ((2 * (1 + V) : Nat) : Int)) (by omega) (by omega) (1 + V) 0 _ (by omega) (by omega) rep
  refine ⟨a, b, c, ?_, e2, e3, e4, by omega⟩
  unfold spec_l91Map.f
  refine Ev.bind hv ?_
  have w1 : wrap64 (1 + (V : Int)) = ((1 + V : Nat) : Int) := by rw [w64 (by omega) (by omega)]; omega
  have w2 : wrap64 (2 * ((1 + V : Nat) : Int)) = ((2 * (1 + V) : Nat) : Int) := by rw [w64 (by omega) (by omega)]; omega
  simp only [w1, w2]
  refine Ev.bind q1 ?_
  simp only [show (0 : Int) ≤ ((2 * (1 + V) : Nat) : Int) by omega, Int.toNat_natCast, show 2 * (1 + V) ≤ 35184372088832 by omega, if_true]
  exact e1
end Go.Proofs.Ytggghijamfmenaa.PA

set_option linter.unusedVariables false
set_option linter.unusedSimpArgs false
namespace Go.Proofs.Ytggghijamfmenaa.Pure
open Go.RowKit Go.Proofs.Ytggghijamfmenaa.PA Go.Proofs.YtggghijamfmenaaW.PrintWords Go.Proofs.YtggghijamfmenaaW.PrintLast Go.Proofs.YtggghijamfmenaaW.PrintMore
theorem sameMap_same (a b : List Int) (ha : a.length ≤ 1048576) (hb : b.length ≤ 1048576) : Ev (fun k => laws_sameMap.f k a b a b) true := by
  unfold laws_sameMap.f
  refine Ev.bind (sameInts_same a ha) ?_
  simp only [if_true]
  exact Ev.bind (sameInts_same b hb) (Ev.const rfl)
theorem draw_ev (l : List Int) (hb : ∀ x ∈ l, (Lit.int .u8 x).wf = true) : ∃ t f : List Int, Ev (fun k => spec_DrawTutteQuad.f k l) (t, f) ∧ t.length ≤ 12 ∧ f.length ≤ 12 := by
  obtain ⟨l', e, h⟩ := open_ev l hb
  obtain ⟨v, q, _, _⟩ := pick_ev l' h 0 (by omega) (by omega) 16 (by omega) (by omega)
  by_cases z : v = 0
  · obtain ⟨t, f, p, e1, e2, e3, _⟩ := l91Map_at l' h (0 + 1) (by omega) (by omega) 5 (by omega) (by omega)
    refine ⟨t, f, ?_, e2, e3⟩
    unfold spec_DrawTutteQuad.f
    simp only [e, Option.bind_some]
    refine Ev.bind q ?_
    simp only [z, if_true]
    exact Ev.bind e1 (Ev.const rfl)
  · obtain ⟨t, f, p, e1, e2, e3, _⟩ := l91Map_at l' h (0 + 1) (by omega) (by omega) 3 (by omega) (by omega)
    refine ⟨t, f, ?_, e2, e3⟩
    unfold spec_DrawTutteQuad.f
    simp only [e, Option.bind_some]
    refine Ev.bind q ?_
    simp only [z, if_false]
    exact Ev.bind e1 (Ev.const rfl)
section
variable (t f : List Int) (n : Nat) (H : MapK t f n) (hm : isMap t f)
include H hm
theorem valid_ev : Ev (fun k => impl_MapValid.f k t f) true := by
  obtain ⟨hn, h1, ht, hti, hf, hfl, hcon⟩ := id H
  have l1 := ht.1
  have l2 := hf.1
  obtain ⟨b, _, b2, b3⟩ := mapValid_both t f (by omega) (by omega)
  have hb : b = true := b3.2 hm
  subst hb
  exact b2
theorem counts_ev : Ev (fun k => impl_MapCounts.f k t f) ([((cyS t n n).2.length : Int), wrap64 ((f.length : Int) / 2), ((cyS (mulL f t n) n n).2.length : Int)], true) := by
  obtain ⟨hn, h1, ht, hti, hf, hfl, hcon⟩ := id H
  unfold impl_MapCounts.f
  refine Ev.bind (valid_ev t f n H hm) ?_
  simp only [if_true]
  refine Ev.bind (implCyc_ev t n (by omega) ht) ?_
  refine Ev.bind (implMul_ev n (by omega) f t hf ht) ?_
  refine Ev.bind (implCyc_ev (mulL f t n) n (by omega) (mulL_inR n f t hf ht)) ?_
  exact Ev.const rfl
theorem genus_ev : Ev (fun k => impl_MapGenus.f k t f) (wrap64 (Int.tdiv (wrap64 ((wrap64 ((wrap64 (2 - ((cyS t n n).2.length : Int))) + (wrap64 ((f.length : Int) / 2)))) - ((cyS (mulL f t n) n n).2.length : Int))) 2)) := by
  obtain ⟨hn, h1, ht, hti, hf, hfl, hcon⟩ := id H
  unfold impl_MapGenus.f
  refine Ev.bind (valid_ev t f n H hm) ?_
  simp only [if_true]
  refine Ev.bind (a := wrap64 (Int.tdiv (wrap64 ((wrap64 ((wrap64 (2 - ((cyS t n n).2.length : Int))) + (wrap64 ((f.length : Int) / 2)))) - ((cyS (mulL f t n) n n).2.length : Int))) 2)) ?_ (Ev.const rfl)
  unfold impl_genusOf.f
  refine Ev.bind (implCyc_ev t n (by omega) ht) ?_
  refine Ev.bind (implMul_ev n (by omega) f t hf ht) ?_
  refine Ev.bind (implCyc_ev (mulL f t n) n (by omega) (mulL_inR n f t hf ht)) ?_
  exact Ev.const rfl
theorem dual_ev : Ev (fun k => impl_MapDual.f k t f) (mulL f t n, f, true) := by
  obtain ⟨hn, h1, ht, hti, hf, hfl, hcon⟩ := id H
  have l2 := hf.1
  have hc : slices_Clone_int_int.f f = some f := by
    unfold slices_Clone_int_int.f
    rw [if_pos (by omega)]
  unfold impl_MapDual.f
  refine Ev.bind (valid_ev t f n H hm) ?_
  simp only [if_true]
  refine Ev.bind (implMul_ev n (by omega) f t hf ht) ?_
  simp only [hc, Option.bind_some]
  exact Ev.const rfl
theorem mirror_ev : Ev (fun k => impl_MapMirror.f k t f) (backL t n n, f, true) := by
  obtain ⟨hn, h1, ht, hti, hf, hfl, hcon⟩ := id H
  have l2 := hf.1
  have hc : slices_Clone_int_int.f f = some f := by
    unfold slices_Clone_int_int.f
    rw [if_pos (by omega)]
  unfold impl_MapMirror.f
  refine Ev.bind (valid_ev t f n H hm) ?_
  simp only [if_true]
  refine Ev.bind (implBack_ev n (by omega) t ht) ?_
  simp only [hc, Option.bind_some]
  exact Ev.const rfl
theorem faces_ev : Ev (fun k => impl_MapFaces.f k t f) (mulL f t n, true) := by
  obtain ⟨hn, h1, ht, hti, hf, hfl, hcon⟩ := id H
  unfold impl_MapFaces.f
  refine Ev.bind (valid_ev t f n H hm) ?_
  simp only [if_true]
  refine Ev.bind (implMul_ev n (by omega) f t hf ht) ?_
  exact Ev.const rfl
end
theorem mul_inj (t f : List Int) (n : Nat) (H : MapK t f n) : injR n (mulL f t n) := by
  obtain ⟨hn, h1, ht, hti, hf, hfl, hcon⟩ := id H
  intro i j hi hj e
  rw [mulL_rd f t n i hi, mulL_rd f t n j hj] at e
  have ri := hf.2 i hi
  have rj := hf.2 j hj
  have e2 : (rd f (i : Int)).toNat = (rd f (j : Int)).toNat := hti _ _ (by omega) (by omega) (by rw [show (((rd f (i : Int)).toNat : Nat) : Int) = rd f (i : Int) by omega, show (((rd f (j : Int)).toNat : Nat) : Int) = rd f (j : Int) by omega]; exact e)
  have e3 : rd f (i : Int) = rd f (j : Int) := by omega
  have f1 := (hfl i hi).2
  have f2 := (hfl j hj).2
  rw [e3, f2] at f1
  omega
theorem type_ev (p : List Int) (n : Nat) (hn : n ≤ 12) (h1 : 1 ≤ n) (hp : inR n p) (hi : injR n p) : Ev (fun k => impl_PermType.f k p) (tlL (cyS p n n).2 n, true) := by
  have hl := hp.1
  obtain ⟨b, _, b2, b3⟩ := permValid_both p (by omega)
  have hb : b = true := b3.2 (perm_of p n h1 hn hp hi)
  subst hb
  unfold impl_PermType.f
  refine Ev.bind b2 ?_
  simp only [if_true]
  exact Ev.bind (typeOf_ev p n hn h1 hp) (Ev.const rfl)
theorem told_ev (t f : List Int) (n : Nat) (H : MapK t f n) (hm : isMap t f) (h6 : n ≤ 6) : Ev (fun k => impl_TutteQuad.f k t f) (tqT t (backL (mulL f t n) n n) n, tqF n, true) := by
  obtain ⟨hn, h1, ht, hti, hf, hfl, hcon⟩ := id H
  have l1 := ht.1
  have hm2 := mulL_inR n f t hf ht
  have hb := backL_inR (mulL f t n) n
  unfold impl_TutteQuad.f
  refine Ev.bind (valid_ev t f n H hm) ?_
  simp only [if_true, l1, decide_eq_false (show ¬ (n : Int) > 6 by omega)]
  refine Ev.s ?_
  simp only [impl_TutteQuad.j0, Bool.false_eq_true, if_false]
  refine Ev.bind (implMul_ev n (by omega) f t hf ht) ?_
  refine Ev.bind (implBack_ev n (by omega) _ hm2) ?_
  have e1 : wrap64 (2 * (n : Int)) = 2 * (n : Int) := w64 (by omega) (by omega)
  have n1 : (2 * (n : Int)).toNat = 2 * n := by omega
  have g1 : (0 : Int) ≤ 2 * (n : Int) := by omega
  have g2 : 2 * n ≤ 35184372088832 := by omega
  simp only [l1, e1, n1, g1, g2, if_true]
  exact implTutte_run n (by omega) t f _ ht hb n 0 (List.replicate (2 * n) 0) (List.replicate (2 * n) 0) (by omega) (by omega) (by simp) (by simp) rfl rfl
theorem untold_ev (t f : List Int) (ht : t.length ≤ 12) (hf : f.length ≤ 12) (h : ¬ (isMap t f ∧ t.length ≤ 6)) : Ev (fun k => impl_TutteQuad.f k t f) ([], [], false) := by
  have hno' : Ev (fun k => impl_TutteQuad.j0 k true t f) ([], [], false) := Ev.s (by simp only [impl_TutteQuad.j0, if_true]; exact Ev.const rfl)
  obtain ⟨b, _, b2, b3⟩ := mapValid_both t f (by omega) (by omega)
  unfold impl_TutteQuad.f
  refine Ev.bind b2 ?_
  cases b with
  | false => simp only [Bool.false_eq_true, if_false]; exact hno'
  | true =>
    have h6 : (t.length : Int) > 6 := by
      by_cases z : t.length ≤ 6
      · exact absurd ⟨b3.1 rfl, z⟩ h
      · omega
    simp only [if_true, decide_eq_true h6]
    exact hno'
theorem FnTutteQuad : laws_FnTutteQuad.Pure := by
  intro l hl _ hb
  by_cases c0 : (l.length : Int) > 1048576
  · exact ⟨0, by unfold laws_FnTutteQuad.f; rw [if_pos c0]⟩
  obtain ⟨t, f, dr, d2, d3⟩ := draw_ev l hb
  obtain ⟨T, F, bb, r1, r2, r3, r4⟩ := tutteQuad_both t f (by omega) (by omega)
  have sm := sameMap_same T F (by omega) (by omega)
  refine Ev.rounds (r := true) ?_
  unfold laws_FnTutteQuad.f
  simp only [c0, if_false]
  refine Ev.bind dr ?_
  refine Ev.bind r2 ?_
  refine Ev.bind r1 ?_
  simp only [show (bb != bb) = false by simp, Bool.false_eq_true, if_false]
  refine Ev.bind sm ?_
  simp only [if_true]
  refine Ev.s ?_
  by_cases h : isMap t f ∧ t.length ≤ 6
  rotate_left
  · have := Ev.uniq r2 (untold_ev t f d2 d3 h)
    simp only [Prod.mk.injEq] at this
    obtain ⟨_, _, rfl⟩ := this
    simp only [laws_FnTutteQuad.j0, Bool.not_false, if_true, beq_self_eq_true]
    exact Ev.bind sm (Ev.const rfl)
  obtain ⟨hm, h6⟩ := h
  have H := isMap_K hm
  obtain ⟨n, hnn⟩ : ∃ n, t.length = n := ⟨_, rfl⟩
  rw [hnn] at H h6
  have eT := Ev.uniq r2 (told_ev t f n H hm h6)
  simp only [Prod.mk.injEq] at eT
  obtain ⟨e1, e2, rfl⟩ := eT
  have Q := qOk_of t f n H h6
  obtain ⟨hn, h1, ht, hti, hf, hfl, hcon⟩ := id H
  obtain ⟨b, eb⟩ : ∃ b, b = backL (mulL f t n) n n := ⟨_, rfl⟩
  rw [← eb] at Q e1
  have O := out_ok t f b n Q
  have four := out_four t f b n Q
  have cnt := out_count t f b n Q
  have hmO : isMap (tqT t b n) (tqF n) := isMap_of (show MapOk (tqT t b n) (tqF n) (2 * n) from O)
  obtain ⟨tm0, tm1⟩ := out_back t f b n Q hmO
  obtain ⟨K1, K2, I⟩ := other_ok t f b n Q
  have hm1 : isMap b ((List.range n).map (fun (d : Nat) => rd t (rd b (d : Int)))) := isMap_of (show MapOk b ((List.range n).map (fun (d : Nat) => rd t (rd b (d : Int)))) n from K1)
  have hm2 : isMap b f := isMap_of (show MapOk b f n from K2)
  have same := mapSame_iso n _ _ _ _ _ hm1 hm2 K1 K2 I
  have cO := counts_ev _ _ (2 * n) O hmO
  have cM := counts_ev t f n H hm
  have gO := genus_ev _ _ (2 * n) O hmO
  have gM := genus_ev t f n H hm
  have fO := faces_ev _ _ (2 * n) O hmO
  obtain ⟨on, o1, oT, oi, oF, ofl, ocon⟩ := id O
  have tO := type_ev (mulL (tqF n) (tqT t b n) (2 * n)) (2 * n) (by omega) (by omega) (mulL_inR (2 * n) _ _ oF oT) (mul_inj _ _ _ O)
  have dM := dual_ev t f n H hm
  have mk : MapOk (faces t f n) f n := dual_ok (show MapOk t f n from H)
  have ef : mulL f t n = faces t f n := by
    refine list_ext _ _ (by rw [mulL_length, faces_len]) fun i hi => ?_
    rw [mulL_length] at hi
    rw [mulL_rd f t n i hi, faces_rd t f n i hi]
  have DK : MapK (mulL f t n) f n := by rw [ef]; exact mk
  have hmD : isMap (mulL f t n) f := by rw [ef]; exact isMap_of mk
  have mM := mirror_ev (mulL f t n) f n DK hmD
  rw [← eb] at mM
  subst e1 e2
  have back := sameMap_same t f (by omega) (by omega)
  have lf := hf.1
  have lF : (tqF n).length = 2 * n := oF.1
  have v1 := cyS_many t n n
  have v2 := cyS_many (mulL f t n) n n
  -- the numbers of both are the same
  have geq : wrap64 (Int.tdiv (wrap64 ((wrap64 ((wrap64 (2 - ((cyS (tqT t b n) (2 * n) (2 * n)).2.length : Int))) + (wrap64 (((tqF n).length : Int) / 2)))) - ((cyS (mulL (tqF n) (tqT t b n) (2 * n)) (2 * n) (2 * n)).2.length : Int))) 2) = wrap64 (Int.tdiv (wrap64 ((wrap64 ((wrap64 (2 - ((cyS t n n).2.length : Int))) + (wrap64 ((f.length : Int) / 2)))) - ((cyS (mulL f t n) n n).2.length : Int))) 2) := by
    have f4 := four.2
    rw [cnt, lF, lf]
    generalize (cyS (mulL (tqF n) (tqT t b n) (2 * n)) (2 * n) (2 * n)).2.length = P at *
    generalize (cyS t n n).2.length = V at *
    generalize (cyS (mulL f t n) n n).2.length = G at *
    congr 2
    rw [w64 (x := (2 : Int) - ((V + G : Nat) : Int)) (by omega) (by omega), w64 (x := ((2 * n : Nat) : Int) / 2) (by omega) (by omega), w64 (x := (2 : Int) - (V : Int)) (by omega) (by omega), w64 (x := (n : Int) / 2) (by omega) (by omega)]
    congr 1
    rw [w64 (by omega) (by omega), w64 (by omega) (by omega)]
    omega
  rw [geq] at gO
  simp only [laws_FnTutteQuad.j0, Bool.not_true, Bool.false_eq_true, if_false]
  refine Ev.bind cO ?_
  refine Ev.bind cM ?_
  refine Ev.bind tm0 ?_
  refine Ev.bind tm1 ?_
  refine Ev.bind dM ?_
  refine Ev.bind fO ?_
  refine Ev.bind tO ?_
  -- all faces are squares
  obtain ⟨kind, hk⟩ : ∃ kind, kind = tlL (cyS (mulL (tqF n) (tqT t b n) (2 * n)) (2 * n) (2 * n)).2 (2 * n) := ⟨_, rfl⟩
  have k4 : ∀ x ∈ kind, x = 4 := fun x hx => by
    rw [hk] at hx
    obtain ⟨l, hl, _, _, e⟩ := (tlL_mem _ x _).1 hx
    rw [e, four.1 l hl]
    rfl
  have kl : kind.length ≤ 1048576 := by
    have hl := tlL_len (cyS (mulL (tqF n) (tqT t b n) (2 * n)) (2 * n) (2 * n)).2 (2 * n)
    have hC := cyS_many (mulL (tqF n) (tqT t b n) (2 * n)) (2 * n) (2 * n)
    have : 2 * n * (cyS (mulL (tqF n) (tqT t b n) (2 * n)) (2 * n) (2 * n)).2.length ≤ 12 * 12 := Nat.mul_le_mul (by omega) (by omega)
    rw [hk]
    omega
  rw [← hk]
  have loop : ∀ (d i : Nat), kind.length - i = d → i ≤ kind.length → Ev (fun k => laws_FnTutteQuad.l0 k [((cyS (tqT t b n) (2 * n) (2 * n)).2.length : Int), wrap64 (((tqF n).length : Int) / 2), ((cyS (mulL (tqF n) (tqT t b n) (2 * n)) (2 * n) (2 * n)).2.length : Int)] true [((cyS t n n).2.length : Int), wrap64 ((f.length : Int) / 2), ((cyS (mulL f t n) n n).2.length : Int)] true true true true true kind true (i : Int) t f (tqT t b n) (tqF n) t f b ((List.range n).map (fun (d : Nat) => rd t (rd b (d : Int)))) (mulL f t n) f) true := by
    intro d
    induction d with
    | zero =>
      intro i hd hi
      have : i = kind.length := by omega
      subst this
      refine Ev.s ?_
      simp only [laws_FnTutteQuad.l0, show ¬ (kind.length : Int) < (kind.length : Int) by omega, if_false]
      refine Ev.bind mM ?_
      simp only [if_true]
      refine Ev.bind back ?_
      simp only [if_true]
      refine Ev.bind same ?_
      have l3 : ∀ a b c : Int, ([a, b, c] : List Int).length = 3 := fun _ _ _ => rfl
      have q0 : ∀ a b c : Int, rd [a, b, c] 0 = a := fun _ _ _ => rfl
      have q2 : ∀ a b c : Int, rd [a, b, c] 2 = c := fun _ _ _ => rfl
      have ec : ((cyS (tqT t b n) (2 * n) (2 * n)).2.length : Int) = wrap64 (((cyS t n n).2.length : Int) + ((cyS (mulL f t n) n n).2.length : Int)) := by
        rw [cnt, w64 (by omega) (by omega)]
        omega
      simp only [if_true, l3, q0, q2, show (0 : Int) < ((3 : Nat) : Int) by decide, show (2 : Int) < ((3 : Nat) : Int) by decide, ← ec]
      refine Ev.bind gO ?_
      refine Ev.bind gM ?_
      simp only [beq_self_eq_true]
      exact Ev.const rfl
    | succ d ih =>
      intro i hd hi
      have hx : rd kind (i : Int) = 4 := by
        rw [rd_lt _ _ (by omega)]
        exact k4 _ (List.getElem_mem _)
      refine Ev.s ?_
      simp only [laws_FnTutteQuad.l0, show (i : Int) < (kind.length : Int) by omega, show (0 : Int) ≤ (i : Int) by omega, hx, if_true, w64n (show i < 4611686018427387904 by omega)]
      exact ih (i + 1) (by omega) (by omega)
  exact loop kind.length 0 (by omega) (by omega)
end Go.Proofs.Ytggghijamfmenaa.Pure

namespace Go.Proofs.Ytggghijamfmenaa.fnTutteQuad
open Go.ChangeShapes Go.WideShapes Go.ChangeAt Go.RowKit
open Go.ChangeMaps (open_string shut_string)
set_option linter.unusedVariables false
theorem own : ownKnob Try.prog.godebug = none := by kernel_rfl
theorem laidOut : laidOutB Try.prog = true := by kernel_rfl
def IsRow (k : IntKind) (w : World) (a : Option Addr) (len cap : Nat) (zs : List Int) : Prop :=
 (a = none ∧ len = 0 ∧ cap = 0 ∧ zs = []) ∨
 ∃ x, a = some x ∧ len ≤ cap ∧ cap ≤ maxLen ∧ zs.length = cap ∧ (∀ i, i < zs.length → w.cell? (x.add i) = some (.int k (zs.getD i 0))) ∧ ∀ n ∈ zs, (Lit.int k n).wf = true
set_option maxRecDepth 100000 in
theorem lifted (os : Os) (started : os.Started) (H : Type) (enc : TypeId × Value → H) :
  ReturnsInHanded {} Try.checked os 5 .any (Rows.fnTutteQuadSpec.pre6 enc Try.prog Try.f5 Rows.fnTutteQuadRow.domain false) (Rows.fnTutteQuadSpec.post enc Try.prog Try.f5 false true false false) := by
 refine returnsInHanded_of_change_sized (C := Try.checked) own started (by kernel_rfl) Try.func5
  (ChangeSpec.witness6 (enc := enc) (C := Try.checked) false ⟨#[], #[.slice none 0 0], []⟩ 8 (by kernel_rfl) (by kernel_rfl) (by kernel_rfl) (by kernel_rfl)) ?_
 intro W base args ds gs before hval0 hW hcnd hsz0 _
 have hsz : (DataW.weightsEach Try.prog (Try.f5.params.toList ++ Rows.fnTutteQuadSpec.plain.varTypes Try.prog) (ds ++ gs)).all (· ≤ reachBytes) = true := hsz0
 have hval : ∀ (j : Nat) t v, Try.f5.params[j]? = some t → args[j]? = some v → Value.okWide Try.prog W .any base t v := hval0
 have hW' := hW
 obtain ⟨p, q, hA0, hV, rfl, hfz, hnd⟩ := hW
 have hA : DataW.TrodAll enc Try.prog W 0 (fun _ => true) true Try.f5.params.toList args.toList ds p := hA0
 rw [Try.params5] at hA hval hsz
 obtain ⟨v0, vs0, d0, ds0, p0, q0, hargs, rfl, rfl, h0, r0⟩ := trodAll_cons hA
 obtain ⟨rfl, rfl, rfl⟩ := trodAll_nil r0
 obtain rfl : args = #[v0] := by cases args; simp_all
 obtain ⟨rfl, rfl⟩ := trodVars_none hV
 obtain ⟨a0, len0, cap0, rfl⟩ := okWide_slice Try.underlying22 (hval 0 22 v0 rfl rfl)
 have k0 := h0
 have lt0 : ∀ x ∈ p0, x.block < W.heap.size := by obtain ⟨m, hm⟩ := k0; exact DataW.trod_lt m _ _ _ hm
 obtain ⟨z0, w0⟩ : ∃ zs, IsRow .u8 W a0 len0 cap0 zs := by
  obtain ⟨fuel, hf⟩ := h0
  rcases open_ints Try.underlying22 Try.underlying5 (by kernel_rfl) hf with ⟨hcs, _⟩ | ⟨x, l, c, zs, hcs, _, hl, hm, hz, _, hcell, hwz⟩
  ·
   simp [Value.cells] at hcs
   obtain ⟨rfl, rfl, rfl⟩ := hcs
   exact ⟨[], .inl ⟨rfl, rfl, rfl, rfl⟩⟩
  ·
   simp [Value.cells] at hcs
   obtain ⟨rfl, rfl, rfl⟩ := hcs
   exact ⟨zs, .inr ⟨_, rfl, hl, hm, by simpa using hz, hcell, hwz⟩⟩
 have y0 : len0 * 1 ≤ 140737488351232 := Go.Proofs.YtggghijamfmenaaW.PrintWords.sized_ints hsz (j := 0) (t := 22) rfl rfl Try.underlying22 Try.underlying5 (by kernel_rfl) (by kernel_rfl) h0
 clear hA0 hval0 hsz0 hsz
 refine (PA.laws_FnTutteQuad.walk Pure.FnTutteQuad a0 len0 cap0 z0 W w0 y0).mono fun e W' ⟨he, bel⟩ => ?_
 subst he
 exact ⟨_, rfl, _, _, _, [], _, [], hW', trodAll_mk1 (shut_bool Try.underlying4 _), (trodAll_cons_mk (Below.trod laidOut (by kernel_rfl) (of_decide_eq_true (by kernel_rfl)) k0 bel lt0) trodAll_mk0), rfl, bel.frame _, fun h => by cases h⟩
theorem over : Rows.fnTutteQuadRow.holds Try.pinned (OpenSpec.ofChange Rows.fnTutteQuadSpec) :=
 OpenClaim.holds_of_wide 5 Try.f5 rfl rfl rfl rfl rfl rfl rfl ⟨rfl, rfl, rfl, rfl, rfl⟩ rfl rfl rfl rfl rfl (by kernel_rfl) Try.func5 (by kernel_rfl)
  (of_decide_eq_true (by kernel_rfl)) (by unfold Func.isWrapper; first | (rw [if_pos (by decide +kernel)]; kernel_rfl) | (rw [if_neg (by decide +kernel)]; exact ⟨rfl, rfl⟩))
  (fun os started H enc _ => lifted os started H enc)
theorem proved : Rows.FnTutteQuadSaid := over
#print axioms proved
end Go.Proofs.Ytggghijamfmenaa.fnTutteQuad
namespace Go.Proofs.Ytggghijamfmenaa
theorem fnTutteQuad_holds : Rows.FnTutteQuadSaid := fnTutteQuad.proved
end Go.Proofs.Ytggghijamfmenaa
