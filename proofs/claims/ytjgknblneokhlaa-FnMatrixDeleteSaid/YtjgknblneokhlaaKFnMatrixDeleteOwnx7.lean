/- A part of the proof of FnMatrixDelete. There are no conditions. -/
import Derived.Test.YtjgknblneokhlaaKFnMatrixDeleteOwnx6
set_option linter.unusedVariables false
set_option linter.unusedSimpArgs false
namespace Go.Proofs.Ytjgknblneokhlaa.PK
open Go.RowKit Go.Proofs.YtjgknblneokhlaaW.PrintWords Go.Proofs.YtjgknblneokhlaaW.PrintLast Go.Proofs.YtjgknblneokhlaaW.PrintMore
theorem z7_0 {p : Prop} (h : p := by exact (below_step (bU1 HB.out GW788.out) hb)) : p := h
theorem Ev.s {α : Type} {g : Nat → Option α} {r : α} (h : Ev (fun k => g (k + 1)) r) : Ev g r := Ev.step (fun _ => rfl) h
theorem Ev.const {α : Type} {o : Option α} {r : α} (h : o = some r) : Ev (fun _ => o) r := ⟨0, fun _ _ => h⟩
theorem Ev.uniq {α : Type} {g : Nat → Option α} {r r' : α} (h : Ev g r) (h' : Ev g r') : r = r' := by
  obtain ⟨K, h⟩ := h; obtain ⟨K', h'⟩ := h'; have h1 := h (max K K') (by omega); rw [h' (max K K') (by omega)] at h1; exact (Option.some.inj h1).symm
theorem w64 {x : Int} (h1 : -9223372036854775808 ≤ x) (h2 : x < 9223372036854775808) : wrap64 x = x := by unfold wrap64; omega
theorem w64r {x : Int} (h : -9223372036854775808 ≤ x ∧ x < 9223372036854775808) : wrap64 x = x := w64 h.1 h.2
theorem w64n {i : Nat} (h : i < 4611686018427387904) : wrap64 ((i : Int) + 1) = ((i + 1 : Nat) : Int) := by rw [w64 (by omega) (by omega)]; omega
theorem rd_lt (l : List Int) (i : Nat) (h : i < l.length) : rd l (i : Int) = l[i] := by
  unfold rd
  rw [Int.toNat_natCast, List.getD_eq_getElem?_getD, List.getElem?_eq_getElem h]; rfl
def okAt (l : List Int) (i : Nat) : Prop := 0 ≤ rd l i ∧ rd l i < l.length ∧ ∀ k : Nat, k < i → rd l k ≠ rd l i
def isPerm (l : List Int) : Prop := 1 ≤ l.length ∧ l.length ≤ 12 ∧ ∀ i : Nat, i < l.length → okAt l i
theorem l6In_eq (a b c : Int) : spec_l6In.f a b c = some (decide (b ≤ a ∧ a ≤ c)) := by
  unfold spec_l6In.f
  by_cases h1 : a ≥ b
  · by_cases h2 : a ≤ c <;> simp [h1, h2]
  · simp [h1]
theorem specPerm_in (l : List Int) (hl : l.length ≤ 1048576) (i : Nat) (hi : i < l.length) : ∀ (d k : Nat), i - k = d → k ≤ i →
    ((∀ q : Nat, k ≤ q → q < i → rd l q ≠ rd l i) → ∀ r, Ev (fun z => spec_PermValid.l0 z l ((i + 1 : Nat) : Int)) r → Ev (fun z => spec_PermValid.l1 z l i k) r) ∧
    (¬ (∀ q : Nat, k ≤ q → q < i → rd l q ≠ rd l i) → Ev (fun z => spec_PermValid.l1 z l i k) false)
  | 0, k, hd, hk => by
    refine ⟨fun _ r h => Ev.s ?_, fun h => absurd (fun q h1 h2 => by omega) h⟩; simp only [spec_PermValid.l1, show ¬ (k : Int) < (i : Int) by omega, if_false]; rw [w64 (x := (i : Int) + 1) (by omega) (by omega), show ((i : Int) + 1) = ((i + 1 : Nat) : Int) by omega]; exact h
  | d + 1, k, hd, hk => by
    have ih := specPerm_in l hl i hi d (k + 1) (by omega) (by omega)
    have hw : wrap64 ((k : Int) + 1) = ((k + 1 : Nat) : Int) := by rw [w64 (by omega) (by omega)]; omega
    by_cases e : rd l k = rd l i
    · refine ⟨fun h => absurd e (h k (Nat.le_refl _) (by omega)), fun h => Ev.s ?_⟩
      simp only [spec_PermValid.l1, show (k : Int) < (i : Int) by omega, show (0 : Int) ≤ k by omega, show (k : Int) < (l.length : Int) by omega, show (0 : Int) ≤ i by omega, show (i : Int) < (l.length : Int) by omega, e, if_true]; exact Ev.const rfl
    · refine ⟨fun h r hr => Ev.s ?_, fun h => Ev.s ?_⟩
      · simp only [spec_PermValid.l1, show (k : Int) < (i : Int) by omega, show (0 : Int) ≤ k by omega, show (k : Int) < (l.length : Int) by omega, show (0 : Int) ≤ i by omega, show (i : Int) < (l.length : Int) by omega, e, if_true, if_false, hw]
        exact ih.1 (fun q h1 h2 => h q (by omega) h2) r hr
      · simp only [spec_PermValid.l1, show (k : Int) < (i : Int) by omega, show (0 : Int) ≤ k by omega, show (k : Int) < (l.length : Int) by omega, show (0 : Int) ≤ i by omega, show (i : Int) < (l.length : Int) by omega, e, if_true, if_false, hw]
        refine ih.2 fun h' => h fun q h1 h2 => ?_
        by_cases eq : q = k
        · rw [eq]; exact e
        · exact h' q (by omega) h2
theorem specPerm_run (l : List Int) (hl : l.length ≤ 1048576) : ∀ (d i : Nat), l.length - i = d → i ≤ l.length →
    ((∀ q : Nat, i ≤ q → q < l.length → okAt l q) → Ev (fun z => spec_PermValid.l0 z l i) (decide (1 ≤ (l.length : Int) ∧ (l.length : Int) ≤ 12))) ∧
    (¬ (∀ q : Nat, i ≤ q → q < l.length → okAt l q) → Ev (fun z => spec_PermValid.l0 z l i) false)
  | 0, i, hd, hi => by
    refine ⟨fun _ => Ev.s ?_, fun h => absurd (fun q h1 h2 => by omega) h⟩; simp only [spec_PermValid.l0, show ¬ (i : Int) < (l.length : Int) by omega, if_false, l6In_eq, Option.bind_some]; exact Ev.const rfl
  | d + 1, i, hd, hi => by
    have hlt : i < l.length := by omega
    have ih := specPerm_run l hl d (i + 1) (by omega) (by omega); have hin := specPerm_in l hl i hlt i 0 (by omega) (by omega); have hwl : wrap64 ((l.length : Int) - 1) = (l.length : Int) - 1 := w64 (by omega) (by omega)
    by_cases hr : 0 ≤ rd l i ∧ rd l i ≤ (l.length : Int) - 1
    · by_cases hn : ∀ q : Nat, 0 ≤ q → q < i → rd l q ≠ rd l i
      · refine ⟨fun h => Ev.s ?_, fun h => Ev.s ?_⟩
        · simp only [spec_PermValid.l0, show (i : Int) < (l.length : Int) by omega, show (0 : Int) ≤ i by omega, if_true, l6In_eq, Option.bind_some, hwl, hr, decide_true, and_self]
          exact hin.1 hn _ (ih.1 fun q h1 h2 => h q (by omega) h2)
        · simp only [spec_PermValid.l0, show (i : Int) < (l.length : Int) by omega, show (0 : Int) ≤ i by omega, if_true, l6In_eq, Option.bind_some, hwl, hr, decide_true, and_self]
          refine hin.1 hn _ (ih.2 fun h' => h fun q h1 h2 => ?_)
          by_cases e : q = i
          · rw [e]; exact ⟨hr.1, by omega, fun k hk => hn k (by omega) hk⟩
          · exact h' q (by omega) h2
      · refine ⟨fun h => absurd (fun q _ h2 => (h i (Nat.le_refl _) hlt).2.2 q h2) hn, fun h => Ev.s ?_⟩
        simp only [spec_PermValid.l0, show (i : Int) < (l.length : Int) by omega, show (0 : Int) ≤ i by omega, if_true, l6In_eq, Option.bind_some, hwl, hr, decide_true, and_self]; exact hin.2 hn
    · refine ⟨fun h => absurd ⟨(h i (Nat.le_refl _) hlt).1, by have := (h i (Nat.le_refl _) hlt).2.1; omega⟩ hr, fun h => Ev.s ?_⟩
      simp only [spec_PermValid.l0, show (i : Int) < (l.length : Int) by omega, show (0 : Int) ≤ i by omega, if_true, l6In_eq, Option.bind_some, hwl, hr, decide_false, Bool.false_eq_true, if_false]; exact Ev.const rfl
theorem implPerm_run (l : List Int) (hl : l.length ≤ 12) : ∀ (d i : Nat) (s : List Bool), l.length - i = d → i ≤ l.length → s.length = 12 → (∀ v : Nat, v < 12 → (s.getD v false = true ↔ ∃ k : Nat, k < i ∧ rd l k = v)) →
    ((∀ q : Nat, i ≤ q → q < l.length → okAt l q) → Ev (fun z => impl_PermValid.l0 z l s i) true) ∧
    (¬ (∀ q : Nat, i ≤ q → q < l.length → okAt l q) → Ev (fun z => impl_PermValid.l0 z l s i) false)
  | 0, i, s, hd, hi, hs, hv => by
    refine ⟨fun _ => Ev.s ?_, fun h => absurd (fun q h1 h2 => by omega) h⟩; simp only [impl_PermValid.l0, show ¬ (i : Int) < (l.length : Int) by omega, if_false]; exact Ev.const rfl
  | d + 1, i, s, hd, hi, hs, hv => by
    have hlt : i < l.length := by omega
    have hd1 : l.length - (i + 1) = d := by omega
    have hw : wrap64 ((i : Int) + 1) = ((i + 1 : Nat) : Int) := by rw [w64 (by omega) (by omega)]; omega
    by_cases h0 : rd l i < 0
    · refine ⟨fun h => absurd (h i (Nat.le_refl _) hlt).1 (by omega), fun h => Ev.s ?_⟩
      simp only [impl_PermValid.l0, show (i : Int) < (l.length : Int) by omega, show (0 : Int) ≤ i by omega, h0, if_true]; exact Ev.const rfl
    · by_cases h1 : rd l i ≥ (l.length : Int)
      · refine ⟨fun h => absurd (h i (Nat.le_refl _) hlt).2.1 (by omega), fun h => Ev.s ?_⟩
        simp only [impl_PermValid.l0, show (i : Int) < (l.length : Int) by omega, show (0 : Int) ≤ i by omega, h0, h1, if_true, if_false]; exact Ev.const rfl
      · have hvi := hv (rd l i).toNat (by omega)
        have hcast : (((rd l i).toNat : Nat) : Int) = rd l i := by omega
        rw [hcast] at hvi
        by_cases h2 : s.getD (rd l i).toNat false = true
        · obtain ⟨k, hk, hke⟩ := hvi.1 h2
          refine ⟨fun h => absurd hke ((h i (Nat.le_refl _) hlt).2.2 k hk), fun h => Ev.s ?_⟩; simp only [impl_PermValid.l0, show (i : Int) < (l.length : Int) by omega, show (0 : Int) ≤ i by omega, h0, h1, h2, if_true, if_false]; exact Ev.const rfl
        · have hnew : ∀ k : Nat, k < i → rd l k ≠ rd l i := fun k hk e => h2 (hvi.2 ⟨k, hk, e⟩)
          have ih := implPerm_run l hl d (i + 1) (s.set (rd l i).toNat true) hd1 hlt (by simpa using hs) (fun v hv12 => by
            by_cases ev : v = (rd l i).toNat
            · subst ev
              rw [List.getD_eq_getElem?_getD, List.getElem?_set_self (by omega)]; simp only [Option.getD_some, true_iff]; exact ⟨i, Nat.lt_succ_self i, hcast.symm⟩
            · rw [List.getD_eq_getElem?_getD, List.getElem?_set_ne (Ne.symm ev), ← List.getD_eq_getElem?_getD, hv v hv12]
              constructor
              · rintro ⟨k, hk, hke⟩; exact ⟨k, by omega, hke⟩
              · rintro ⟨k, hk, hke⟩
                by_cases e : k = i
                · subst e; omega
                · exact ⟨k, by omega, hke⟩)
          refine ⟨fun h => Ev.s ?_, fun h => Ev.s ?_⟩
          · simp only [impl_PermValid.l0, show (i : Int) < (l.length : Int) by omega, show (0 : Int) ≤ i by omega, h0, h1, h2, if_true, if_false, hw]
            exact ih.1 fun q g1 g2 => h q (by omega) g2
          · simp only [impl_PermValid.l0, show (i : Int) < (l.length : Int) by omega, show (0 : Int) ≤ i by omega, h0, h1, h2, if_true, if_false, hw]
            refine ih.2 fun h' => h fun q g1 g2 => ?_
            by_cases e : q = i
            · rw [e]; exact ⟨by omega, by omega, hnew⟩
            · exact h' q (by omega) g2
theorem permValid_both (l : List Int) (hl : l.length ≤ 1048576) : ∃ b : Bool, Ev (fun k => spec_PermValid.f k l) b ∧ Ev (fun k => impl_PermValid.f k l) b ∧ (b = true ↔ isPerm l) := by
  unfold spec_PermValid.f impl_PermValid.f
  have hs := specPerm_run l hl l.length 0 (by omega) (by omega)
  by_cases hall : ∀ q : Nat, 0 ≤ q → q < l.length → okAt l q
  · refine ⟨decide (1 ≤ (l.length : Int) ∧ (l.length : Int) ≤ 12), hs.1 hall, ?_, ?_⟩
    · by_cases h1 : (l.length : Int) < 1
      · simp only [h1, if_true]
        exact Ev.const (by congr 1; symm; rw [decide_eq_false_iff_not]; omega)
      · by_cases h2 : (l.length : Int) > 12
        · simp only [h1, h2, if_true, if_false]
          exact Ev.const (by congr 1; symm; rw [decide_eq_false_iff_not]; omega)
        · simp only [h1, h2, if_false]
          rw [decide_eq_true (by omega)]; refine (implPerm_run l (by omega) l.length 0 _ (by omega) (by omega) (by simp) fun v hv => ?_).1 hall
          constructor
          · intro h
            rw [List.getD_eq_getElem?_getD, List.getElem?_replicate, if_pos hv] at h
            cases h
          · rintro ⟨k, hk, _⟩; omega
    · rw [decide_eq_true_eq]
      exact ⟨fun h => ⟨by omega, by omega, fun i hi => hall i (by omega) hi⟩, fun h => ⟨by have := h.1; omega, by have := h.2.1; omega⟩⟩
  · refine ⟨false, hs.2 hall, ?_, ?_⟩
    · by_cases h1 : (l.length : Int) < 1
      · simp only [h1, if_true]; exact Ev.const rfl
      · by_cases h2 : (l.length : Int) > 12
        · simp only [h1, h2, if_true, if_false]; exact Ev.const rfl
        · simp only [h1, h2, if_false]
          refine (implPerm_run l (by omega) l.length 0 _ (by omega) (by omega) (by simp) fun v hv => ?_).2 hall
          constructor
          · intro h
            rw [List.getD_eq_getElem?_getD, List.getElem?_replicate, if_pos hv] at h
            cases h
          · rintro ⟨k, hk, _⟩; omega
    · exact ⟨fun h => (by cases h), fun h => absurd (fun q _ hq => h.2.2 q hq) hall⟩
def stl (n : Nat) : List Int := (List.range n).map fun (i : Nat) => (i : Int)
theorem stl_length (n : Nat) : (stl n).length = n := by simp [stl]
theorem stl_rd (n i : Nat) (h : i < n) : rd (stl n) i = i := by
  rw [rd_lt _ _ (by rw [stl_length]; exact h)]
  simp [stl]
theorem stl_succ (n : Nat) : stl (n + 1) = stl n ++ [(n : Int)] := by simp [stl, List.range_succ]
theorem rd_set_self (l : List Int) (i : Nat) (v : Int) (h : i < l.length) : rd (l.set i v) i = v := by
  rw [rd_lt _ _ (by simpa using h)]; simp
theorem rd_set_ne (l : List Int) (i j : Nat) (v : Int) (h : i ≠ j) : rd (l.set i v) j = rd l j := by
  unfold rd
  rw [Int.toNat_natCast, List.getD_eq_getElem?_getD, List.getD_eq_getElem?_getD, List.getElem?_set_ne h]
theorem rd_app_lt (l m : List Int) (i : Nat) (h : i < l.length) : rd (l ++ m) i = rd l i := by
  unfold rd
  rw [Int.toNat_natCast, List.getD_eq_getElem?_getD, List.getD_eq_getElem?_getD, List.getElem?_append_left h]
theorem list_ext (a b : List Int) (h : a.length = b.length) (hr : ∀ i : Nat, i < a.length → rd a i = rd b i) : a = b := by
  refine List.ext_getElem h fun i h1 h2 => ?_
  have := hr i h1
  rwa [rd_lt a i h1, rd_lt b i h2] at this
theorem same_run (n : Nat) (hn : n ≤ 1048576) : ∀ (d i : Nat), n - i = d → i ≤ n → Ev (fun k => spec_l1Same.l0 k n (stl i) i) (stl n)
  | 0, i, hd, hi => by
    refine Ev.s ?_; simp only [spec_l1Same.l0, show ¬ (i : Int) < (n : Int) by omega, if_false]
    have : i = n := by omega
    subst this; exact Ev.const rfl
  | d + 1, i, hd, hi => by
    refine Ev.s ?_; simp only [spec_l1Same.l0, show (i : Int) < (n : Int) by omega, if_true, stl_length, show i < 17592186044416 by omega]; rw [w64 (x := (i : Int) + 1) (by omega) (by omega), show ((i : Int) + 1) = ((i + 1 : Nat) : Int) by omega, ← stl_succ]; exact same_run n hn d (i + 1) (by omega) (by omega)
theorem same_ev (n : Nat) (hn : n ≤ 1048576) : Ev (fun k => spec_l1Same.f k n) (stl n) := by
  unfold spec_l1Same.f
  exact same_run n hn n 0 (by omega) (by omega)
theorem still_run (n : Nat) (hn : n ≤ 1048576) : ∀ (d i : Nat) (l : List Int), n - i = d → i ≤ n → l.length = n → l.take i = (stl n).take i → Ev (fun k => impl_still.l0 k l n i) (stl n)
  | 0, i, l, hd, hi, hl, ht => by
    refine Ev.s ?_; simp only [impl_still.l0, show ¬ (i : Int) < (n : Int) by omega, if_false]
    have : i = n := by omega
    subst this
    have e : (stl i).take i = stl i := by rw [List.take_of_length_le]; rw [stl_length]; exact Nat.le_refl _
    rw [e, List.take_of_length_le (by omega)] at ht; exact Ev.const (by rw [ht])
  | d + 1, i, l, hd, hi, hl, ht => by
    have hlt : i < l.length := by omega
    refine Ev.s ?_; simp only [impl_still.l0, show (i : Int) < (n : Int) by omega, show (0 : Int) ≤ i by omega, show (i : Int) < (l.length : Int) by omega, if_true]; rw [w64 (x := (i : Int) + 1) (by omega) (by omega), show ((i : Int) + 1) = ((i + 1 : Nat) : Int) by omega, Int.toNat_natCast]; refine still_run n hn d (i + 1) _ (by omega) (by omega) (by simpa using hl) ?_
    have h2 : i < (stl n).length := by rw [stl_length]; omega
    rw [List.take_succ_eq_append_getElem (by simpa using hlt), List.take_succ_eq_append_getElem h2, List.take_set_of_le (Nat.le_refl _), ht]
    simp [stl]
theorem still_ev (n : Nat) (hn : n ≤ 1048576) : Ev (fun k => impl_still.f k n) (stl n) := by
  unfold impl_still.f
  have h1 : n ≤ 35184372088832 := by omega
  have h2 : (0 : Int) ≤ (n : Int) := by omega
  simp only [Int.toNat_natCast, h1, h2, if_true, Option.bind_some, List.length_replicate]; exact still_run n hn n 0 _ (by omega) (by omega) (by simp) (by simp)
def inR (n : Nat) (p : List Int) : Prop := p.length = n ∧ ∀ i : Nat, i < n → 0 ≤ rd p i ∧ rd p i < n
def closedL (ps : List (List Int)) (n : Nat) (S : Nat → Prop) : Prop := ∀ p ∈ ps, ∀ k, k < n → (S k ↔ S (rd p k).toNat)
def Reach (ps : List (List Int)) (n : Nat) (i j : Nat) : Prop := ∀ S, closedL ps n S → (S i ↔ S j)
theorem Reach.refl (ps : List (List Int)) (n i : Nat) : Reach ps n i i := fun S _ => Iff.rfl
theorem Reach.symm {ps : List (List Int)} {n i j : Nat} (h : Reach ps n i j) : Reach ps n j i := fun S c => (h S c).symm
theorem Reach.trans {ps : List (List Int)} {n i j k : Nat} (h : Reach ps n i j) (h' : Reach ps n j k) : Reach ps n i k := fun S c => (h S c).trans (h' S c)
theorem Reach.step {ps : List (List Int)} {n : Nat} {p : List Int} (hp : p ∈ ps) {k : Nat} (hk : k < n) : Reach ps n k (rd p k).toNat := fun S c => c p hp k hk
def orbI (ps : List (List Int)) (n : Nat) (o : List Int) : Prop := o.length = n ∧ ∀ i : Nat, i < n → 0 ≤ rd o i ∧ rd o i ≤ i ∧ Reach ps n (rd o i).toNat i
def orbOk (ps : List (List Int)) (n : Nat) (o : List Int) : Prop := orbI ps n o ∧ ∀ p ∈ ps, ∀ i : Nat, i < n → rd o (rd p i) = rd o i
theorem stl_orbI (ps : List (List Int)) (n : Nat) : orbI ps n (stl n) := by
  refine ⟨stl_length n, fun i hi => ?_⟩; rw [stl_rd n i hi]; exact ⟨by omega, by omega, by rw [Int.toNat_natCast]; exact Reach.refl _ _ _⟩
theorem orbOk_const {ps : List (List Int)} {n : Nat} {o : List Int} (h : orbOk ps n o) (hp : ∀ p ∈ ps, inR n p) {i j : Nat} (hr : Reach ps n i j) : rd o i = rd o j := by
  have := hr (fun k => rd o k = rd o i) (fun p hp' k hk => by
    have h1 := h.2 p hp' k hk; have h2 := (hp p hp').2 k hk
    have e : (((rd p k).toNat : Nat) : Int) = rd p k := by omega
    show (rd o k = rd o i) ↔ (rd o (((rd p k).toNat : Nat) : Int) = rd o i)
    rw [e, h1])
  exact (this.1 rfl).symm
theorem orbOk_le {ps : List (List Int)} {n : Nat} {o o' : List Int} (h : orbOk ps n o) (h' : orbI ps n o') (hp : ∀ p ∈ ps, inR n p) {i : Nat} (hi : i < n) : rd o i ≤ rd o' i := by
  obtain ⟨g0, g1, g2⟩ := h'.2 i hi; have e := orbOk_const h hp g2
  have hlt : (rd o' i).toNat < n := by omega
  have := (h.1.2 _ hlt).2.1
  have e2 : (((rd o' i).toNat : Nat) : Int) = rd o' i := by omega
  omega
theorem mn_le (a b : Int) : mn a b ≤ a ∧ mn a b ≤ b ∧ (mn a b = a ∨ mn a b = b) := by unfold mn; split <;> omega
theorem orbI_put {ps : List (List Int)} {n : Nat} {o : List Int} (h : orbI ps n o) {i : Nat} (hi : i < n) {v : Int} (h0 : 0 ≤ v) (h1 : v ≤ i) (hr : Reach ps n v.toNat i) : orbI ps n (o.set i v) := by
  refine ⟨by simpa using h.1, fun j hj => ?_⟩
  by_cases e : i = j
  · subst e
    rw [rd_set_self _ _ _ (by rw [h.1]; exact hi)]; exact ⟨h0, h1, hr⟩
  · rw [rd_set_ne _ _ _ _ e]
    exact h.2 j hj
def tot : List Int → Int
  | [] => 0
  | x :: xs => x + tot xs
theorem tot_set : ∀ (l : List Int) (i : Nat) (v : Int), i < l.length → tot (l.set i v) + rd l i = tot l + v
  | [], i, v, h => by simp at h
  | x :: xs, 0, v, h => by simp [tot, rd]; omega
  | x :: xs, i + 1, v, h => by
    have ih := tot_set xs i v (by simpa using h)
    have e : rd (x :: xs) ((i + 1 : Nat) : Int) = rd xs i := by unfold rd; rw [Int.toNat_natCast, Int.toNat_natCast]; rfl
    rw [e]; simp only [List.set_cons_succ, tot]; omega
theorem tot_nonneg : ∀ (l : List Int), (∀ i : Nat, i < l.length → 0 ≤ rd l i) → 0 ≤ tot l
  | [], _ => by simp [tot]
  | x :: xs, h => by
    have h0 := h 0 (by simp); have e0 : rd (x :: xs) ((0 : Nat) : Int) = x := rfl; rw [e0] at h0
    have := tot_nonneg xs fun i hi => by
      have := h (i + 1) (by simpa using hi)
      have e : rd (x :: xs) ((i + 1 : Nat) : Int) = rd xs i := by unfold rd; rw [Int.toNat_natCast, Int.toNat_natCast]; rfl
      rwa [e] at this
    simp only [tot]; omega
theorem rdL_nth (ps : List (List Int)) (q : Nat) (h : q < ps.length) : rd_L1 ps (q : Int) = ps[q] := by
  have e : (q : Int).toNat = q := Int.toNat_natCast q
  unfold rd_L1
  rw [e, List.getD_eq_getElem?_getD, List.getElem?_eq_getElem h]; rfl
theorem implOrb_in (ps : List (List Int)) (n : Nat) (hn : n ≤ 12) (q : Nat) (hq : q < ps.length) (hL : ps.length ≤ 1048576) (P : List Int) (hP : P ∈ ps) (pl : P.length = n) (pr : ∀ i : Nat, i < n → 0 ≤ rd P i ∧ rd P i < n) : ∀ (d i : Nat) (o : List Int) (g : Bool), n - i = d → i ≤ n → orbI ps n o →
    ∃ (o' : List Int) (g' : Bool), orbI ps n o' ∧ (∀ r, Ev (fun k => impl_orbits.l1 k ps o' g' ps ps.length ((q + 1 : Nat) : Int)) r → Ev (fun k => impl_orbits.l2 k ps o g ps ps.length q P n i) r) ∧ tot o' ≤ tot o ∧
      (g' = true → g = true ∨ tot o' < tot o) ∧ (g' = false → g = false ∧ o' = o ∧ ∀ j : Nat, i ≤ j → j < n → rd o (rd P j) = rd o j)
  | 0, i, o, g, hd, hi, ho => by
    refine ⟨o, g, ho, fun r h => Ev.s ?_, by omega, fun h => .inl h, fun h => ⟨h, rfl, fun j h1 h2 => by omega⟩⟩; simp only [impl_orbits.l2, show ¬ (i : Int) < (n : Int) by omega, if_false]; rw [w64 (x := (q : Int) + 1) (by omega) (by omega), show ((q : Int) + 1) = ((q + 1 : Nat) : Int) by omega]; exact h
  | d + 1, i, o, g, hd, hi, ho => by
    have hlt : i < n := by omega
    have hd1 : n - (i + 1) = d := by omega
    have hw : wrap64 ((i : Int) + 1) = ((i + 1 : Nat) : Int) := by rw [w64 (by omega) (by omega)]; omega
    have hr := pr i hlt; have hst := Reach.step hP hlt; have hlen := ho.1; obtain ⟨t, ht⟩ : ∃ t : Nat, rd P i = t := ⟨(rd P i).toNat, by omega⟩; rw [ht, Int.toNat_natCast] at hst
    have htn : t < n := by omega
    obtain ⟨i0, i1, i2⟩ := ho.2 i hlt; obtain ⟨t0, t1, t2⟩ := ho.2 t htn; obtain ⟨hm1, hm2, hm3⟩ := mn_le (rd o i) (rd o t)
    have g1 : (i : Int) < (n : Int) := by omega
    have g2 : (0 : Int) ≤ (i : Int) := by omega
    have g3 : (0 : Int) ≤ (t : Int) := by omega
    have g4 : (t : Int) < (n : Int) := by omega
    obtain ⟨v, hv⟩ : ∃ v, mn (rd o i) (rd o t) = v := ⟨_, rfl⟩; rw [hv] at hm1 hm2 hm3
    by_cases hc : rd o i = v ∧ rd o t = v
    · obtain ⟨c1, c2⟩ := hc
      obtain ⟨o', g', a1, a2, a3, a4, a5⟩ := implOrb_in ps n hn q hq hL P hP pl pr d (i + 1) o g hd1 hlt ho; refine ⟨o', g', a1, fun r h => Ev.s ?_, a3, a4, fun h => ?_⟩
      · simp only [impl_orbits.l2, g1, g2, g3, g4, pl, hlen, ht, hv, if_true, hw]
        simp only [c1, c2, if_true]; exact a2 r h
      · obtain ⟨b1, b2, b3⟩ := a5 h
        refine ⟨b1, b2, fun j h1 h2 => ?_⟩
        by_cases e : j = i
        · rw [e, ht]; omega
        · exact b3 j (by omega) h2
    · have hv0 : 0 ≤ v := by omega
      have hrv : Reach ps n v.toNat i := by
        rcases hm3 with e | e
        · rw [e]; exact i2
        · rw [e]; exact t2.trans hst.symm
      have ho1 := orbI_put ho hlt hv0 (by omega) hrv; have ho2 := orbI_put ho1 htn hv0 (by omega) (hrv.trans hst)
      have hd2 : tot ((o.set i v).set t v) < tot o := by
        have z1 := tot_set o i v (by omega); have z2 := tot_set (o.set i v) t v (by rw [List.length_set]; omega)
        by_cases e : i = t
        · subst e
          rw [rd_set_self _ _ _ (by omega)] at z2; omega
        · rw [rd_set_ne _ _ _ _ e] at z2
          omega
      obtain ⟨o', g', a1, a2, a3, a4, a5⟩ := implOrb_in ps n hn q hq hL P hP pl pr d (i + 1) ((o.set i v).set t v) true hd1 hlt ho2; refine ⟨o', g', a1, fun r h => Ev.s ?_, by omega, fun h => .inr (by omega), fun h => ?_⟩
      · have hgo := a2 r h
        by_cases c1 : rd o i = v
        · have c2 : ¬ rd o t = v := fun e => hc ⟨c1, e⟩
          simp only [impl_orbits.l2, g1, g2, g3, g4, pl, hlen, ht, hv, if_true, hw, Int.toNat_natCast]; simp only [c1, c2, if_true, if_false]; exact hgo
        · simp only [impl_orbits.l2, g1, g2, g3, g4, pl, hlen, ht, hv, if_true, hw, Int.toNat_natCast]
          simp only [c1, if_false]; exact hgo
      · have := (a5 h).1
        cases this
theorem implOrb_pass (ps : List (List Int)) (n : Nat) (hn : n ≤ 12) (hL : ps.length ≤ 1048576) (hp : ∀ p ∈ ps, inR n p) : ∀ (d q : Nat) (o : List Int) (g : Bool), ps.length - q = d → q ≤ ps.length → orbI ps n o →
    ∃ (o' : List Int) (g' : Bool), orbI ps n o' ∧ (∀ r, Ev (fun k => impl_orbits.l0 k ps o' g') r → Ev (fun k => impl_orbits.l1 k ps o g ps ps.length q) r) ∧ tot o' ≤ tot o ∧
      (g' = true → g = true ∨ tot o' < tot o) ∧ (g' = false → g = false ∧ o' = o ∧ ∀ z : Nat, q ≤ z → z < ps.length → ∀ j : Nat, j < n → rd o (rd (rd_L1 ps z) j) = rd o j)
  | 0, q, o, g, hd, hi, ho => by
    refine ⟨o, g, ho, fun r h => Ev.s ?_, by omega, fun h => .inl h, fun h => ⟨h, rfl, fun j h1 h2 => by omega⟩⟩; simp only [impl_orbits.l1, show ¬ (q : Int) < (ps.length : Int) by omega, if_false]; exact h
  | d + 1, q, o, g, hd, hi, ho => by
    have hlt : q < ps.length := by omega
    have hd1 : ps.length - (q + 1) = d := by omega
    have hP : rd_L1 ps q ∈ ps := by rw [rdL_nth ps q hlt]; exact List.getElem_mem hlt
    obtain ⟨pl, pr⟩ := hp _ hP; obtain ⟨o1, b1, c1, c2, c3, c4, c5⟩ := implOrb_in ps n hn q hlt hL _ hP pl pr n 0 o g (by omega) (by omega) ho; obtain ⟨o2, b2, e1, e2, e3, e4, e5⟩ := implOrb_pass ps n hn hL hp d (q + 1) o1 b1 hd1 hlt c1; refine ⟨o2, b2, e1, fun r h => Ev.s ?_, by omega, fun h => ?_, fun h => ?_⟩
    · simp only [impl_orbits.l1, show (q : Int) < (ps.length : Int) by omega, show (0 : Int) ≤ (q : Int) by omega, if_true, pl]
      exact c2 r (e2 r h)
    · rcases e4 h with z | z
      · rcases c4 z with y | y
        · exact .inl y
        · exact .inr (by omega)
      · exact .inr (by omega)
    · obtain ⟨f1, f2, f3⟩ := e5 h
      obtain ⟨g1, g2, g3⟩ := c5 f1; refine ⟨g1, f2.trans g2, fun z hz hz' j hj => ?_⟩
      by_cases e : z = q
      · rw [e]; exact g3 j (by omega) hj
      · have := f3 z (by omega) hz' j hj
        rwa [g2] at this
theorem implOrb_loop (ps : List (List Int)) (n : Nat) (hn : n ≤ 12) (hL : ps.length ≤ 1048576) (hp : ∀ p ∈ ps, inR n p) : ∀ (m : Nat) (o : List Int), tot o ≤ m → orbI ps n o → ∃ o', orbOk ps n o' ∧ Ev (fun k => impl_orbits.l0 k ps o true) o' := by
  intro m
  induction m using Nat.strongRecOn with
  | _ m ih =>
    intro o hm ho; obtain ⟨o1, g1, c1, c2, c3, c4, c5⟩ := implOrb_pass ps n hn hL hp ps.length 0 o false (by omega) (by omega) ho
    cases g1 with
    | false =>
      obtain ⟨_, e2, e3⟩ := c5 rfl; refine ⟨o, ⟨ho, fun p hp' i hi => ?_⟩, Ev.s ?_⟩
      · obtain ⟨z, hz, rfl⟩ := List.mem_iff_getElem.1 hp'
        have := e3 z (by omega) hz i hi
        rwa [rdL_nth ps z hz] at this
      · simp only [impl_orbits.l0, if_true]
        refine c2 o (Ev.s ?_); simp only [impl_orbits.l0, Bool.false_eq_true, if_false]; exact Ev.const (by rw [e2])
    | true =>
      have hlt : tot o1 < tot o := by
        rcases c4 rfl with z | z
        · cases z
        · exact z
      have h0 := tot_nonneg o1 fun i hi => (c1.2 i (by rw [← c1.1]; exact hi)).1
      obtain ⟨o', h1, h2⟩ := ih (tot o1).toNat (by omega) o1 (by omega) c1; refine ⟨o', h1, Ev.s ?_⟩; simp only [impl_orbits.l0, if_true]; exact c2 o' h2
theorem implOrb_ev (ps : List (List Int)) (n : Nat) (hn : n ≤ 12) (h0 : 0 < ps.length) (hL : ps.length ≤ 1048576) (hp : ∀ p ∈ ps, inR n p) : ∃ o, orbOk ps n o ∧ Ev (fun k => impl_orbits.f k ps) o := by
  obtain ⟨o, h1, h2⟩ := implOrb_loop ps n hn hL hp (tot (stl n)).toNat (stl n) (by have := tot_nonneg (stl n) (fun i hi => by rw [stl_rd n i (by rwa [stl_length] at hi)]; omega); omega) (stl_orbI ps n); refine ⟨o, h1, ?_⟩
  unfold impl_orbits.f
  have hz : (rd_L1 ps 0).length = n := by
    have := rdL_nth ps 0 h0; rw [show ((0 : Nat) : Int) = 0 from rfl] at this; rw [this]; exact (hp _ (List.getElem_mem h0)).1
  simp only [show (0 : Int) < (ps.length : Int) by omega, if_true, hz]; exact Ev.bind (still_ev n (by omega)) h2
def lag (o g : List Int) : Nat → Nat
  | 0 => 0
  | i + 1 => (if rd o i = rd g i then 0 else 1) + lag o g i
theorem lag_le (o g : List Int) : ∀ i, lag o g i ≤ i
  | 0 => Nat.le_refl _
  | i + 1 => by have := lag_le o g i; simp only [lag]; split <;> omega
theorem lag_zero (o g : List Int) : ∀ n, lag o g n = 0 → ∀ i, i < n → rd o i = rd g i
  | 0, _, i, h => by omega
  | n + 1, hz, i, h => by
    simp only [lag] at hz
    by_cases e : i = n
    · subst e
      by_cases c : rd o i = rd g i
      · exact c
      · rw [if_neg c] at hz; omega
    · exact lag_zero o g n (by omega) i (by omega)
theorem lag_mono (o o' g : List Int) (h : ∀ i : Nat, rd o i = rd g i → rd o' i = rd g i) : ∀ n, lag o' g n ≤ lag o g n
  | 0 => Nat.le_refl _
  | n + 1 => by
    have ih := lag_mono o o' g h n; simp only [lag]
    by_cases c : rd o n = rd g n
    · rw [if_pos c, if_pos (h n c)]; omega
    · rw [if_neg c]; split <;> omega
theorem lag_lt (o o' g : List Int) (h : ∀ i : Nat, rd o i = rd g i → rd o' i = rd g i) (z : Nat) (hz : rd o z ≠ rd g z) (hz' : rd o' z = rd g z) : ∀ n, z < n → lag o' g n < lag o g n
  | 0, hn => by omega
  | n + 1, hn => by
    simp only [lag]
    by_cases e : z = n
    · subst e
      have := lag_mono o o' g h z; rw [if_neg hz, if_pos hz']; omega
    · have ih := lag_lt o o' g h z hz hz' n (by omega)
      by_cases c : rd o n = rd g n
      · rw [if_pos c, if_pos (h n c)]; omega
      · rw [if_neg c]; split <;> omega
theorem mn_eq (a b : Int) : mn a b = if a ≤ b then a else b := by unfold mn; split <;> split <;> omega
theorem specOrb_sweep (t f : List Int) (n : Nat) (hn : n ≤ 12) (ht : inR n t) (hf : inR n f) (g : List Int) (hg : orbOk [t, f] n g) (round : Int) : ∀ (d i : Nat) (o : List Int), n - i = d → i ≤ n → orbI [t, f] n o →
    ∃ o', orbI [t, f] n o' ∧ (∀ r, Ev (fun k => spec_l1Orbits.l0 k t f o' (wrap64 (round + 1))) r → Ev (fun k => spec_l1Orbits.l1 k t f o round i) r) ∧ (∀ z : Nat, z < n → rd o z = rd g z → rd o' z = rd g z) ∧
      (∀ j : Nat, i ≤ j → j < n → (rd o j = rd g j ∨ rd o (rd t j) = rd g (rd t j) ∨ rd o (rd f j) = rd g (rd f j)) → rd o' j = rd g j ∧ rd o' (rd t j) = rd g (rd t j) ∧ rd o' (rd f j) = rd g (rd f j))
  | 0, i, o, hd, hi, ho => by
    refine ⟨o, ho, fun r h => Ev.s ?_, fun z _ h => h, fun j h1 h2 => by omega⟩; simp only [spec_l1Orbits.l1, ht.1, show ¬ (i : Int) < (n : Int) by omega, if_false]; exact h
  | d + 1, i, o, hd, hi, ho => by
    have hlt : i < n := by omega
    have hd1 : n - (i + 1) = d := by omega
    have hw : wrap64 ((i : Int) + 1) = ((i + 1 : Nat) : Int) := by rw [w64 (by omega) (by omega)]; omega
    have hps : ∀ p ∈ [t, f], inR n p := by intro p hp; simp at hp; rcases hp with rfl | rfl <;> assumption
    have hra := ht.2 i hlt; have hrb := hf.2 i hlt; have sta := Reach.step (ps := [t, f]) (p := t) (by simp) hlt; have stb := Reach.step (ps := [t, f]) (p := f) (by simp) hlt; have ca := hg.2 t (by simp) i hlt; have cb := hg.2 f (by simp) i hlt; obtain ⟨a, hta⟩ : ∃ a : Nat, rd t i = a := ⟨(rd t i).toNat, by omega⟩; obtain ⟨b, hfb⟩ : ∃ b : Nat, rd f i = b := ⟨(rd f i).toNat, by omega⟩; rw [hta, Int.toNat_natCast] at sta; rw [hfb, Int.toNat_natCast] at stb; rw [hta] at ca; rw [hfb] at cb
    have han : a < n := by omega
    have hbn : b < n := by omega
    have hlen := ho.1; obtain ⟨i0, i1, i2⟩ := ho.2 i hlt; obtain ⟨a0, a1, a2⟩ := ho.2 a han; obtain ⟨b0, b1, b2⟩ := ho.2 b hbn; have li := orbOk_le hg ho hps hlt; have la := orbOk_le hg ho hps han; have lb := orbOk_le hg ho hps hbn; obtain ⟨v, hv⟩ : ∃ v, mn (rd o i) (mn (rd o a) (rd o b)) = v := ⟨_, rfl⟩
    have hvm : v ≤ rd o i ∧ v ≤ rd o a ∧ v ≤ rd o b ∧ (v = rd o i ∨ v = rd o a ∨ v = rd o b) := by
      rw [← hv, mn_eq, mn_eq]
      split <;> split at * <;> omega
    have hv0 : 0 ≤ v := by omega
    have hrv : Reach [t, f] n v.toNat i := by
      rcases hvm.2.2.2 with e | e | e
      · rw [e]; exact i2
      · rw [e]; exact a2.trans sta.symm
      · rw [e]; exact b2.trans stb.symm
    have ho1 := orbI_put ho hlt hv0 (by omega) hrv; have ho2 := orbI_put ho1 han hv0 (by omega) (hrv.trans sta); have ho3 := orbI_put ho2 hbn hv0 (by omega) (hrv.trans stb); obtain ⟨o3, ho3e⟩ : ∃ o3, ((o.set i v).set a v).set b v = o3 := ⟨_, rfl⟩; rw [ho3e] at ho3
    have rdo3 : ∀ z : Nat, rd o3 z = if z = i ∨ z = a ∨ z = b then v else rd o z := by
      intro z; rw [← ho3e]
      by_cases z3 : b = z
      · subst z3; rw [rd_set_self _ _ _ (by simp; omega)]; simp
      · rw [rd_set_ne _ _ _ _ z3]
        by_cases z2 : a = z
        · subst z2; rw [rd_set_self _ _ _ (by simp; omega)]; simp
        · rw [rd_set_ne _ _ _ _ z2]
          by_cases z1 : i = z
          · subst z1; rw [rd_set_self _ _ _ (by omega)]; simp
          · rw [rd_set_ne _ _ _ _ z1, if_neg (by omega)]
    have keep3 : ∀ z : Nat, z < n → rd o z = rd g z → rd o3 z = rd g z := by
      intro z hz e; have l3 := orbOk_le hg ho3 hps hz; rw [rdo3 z] at l3 ⊢
      by_cases c : z = i ∨ z = a ∨ z = b
      · rw [if_pos c] at l3 ⊢
        have : v ≤ rd o z := by rcases c with rfl | rfl | rfl <;> omega
        omega
      · rw [if_neg c]; exact e
    obtain ⟨o', c1, c2, c3, c4⟩ := specOrb_sweep t f n hn ht hf g hg round d (i + 1) o3 hd1 hlt ho3; refine ⟨o', c1, fun r h => Ev.s ?_, fun z hz e => c3 z hz (keep3 z hz e), fun j h1 h2 hj => ?_⟩
    · have hgo := c2 r h
      have g1 : (i : Int) < (n : Int) := by omega
      have g2 : (0 : Int) ≤ (i : Int) := by omega
      have g3 : (0 : Int) ≤ (a : Int) := by omega
      have g4 : (a : Int) < (n : Int) := by omega
      have g5 : (0 : Int) ≤ (b : Int) := by omega
      have g6 : (b : Int) < (n : Int) := by omega
      simp only [spec_l1Orbits.l1, ht.1, hf.1, hlen, g1, g2, g3, g4, g5, g6, hta, hfb, hv, if_true, hw, Int.toNat_natCast, ho3e]; exact hgo
    · by_cases e : j = i
      · subst e
        have l3 := orbOk_le hg ho3 hps hlt
        have e3 : rd o3 j = v := by rw [rdo3 j, if_pos (.inl rfl)]
        have ea3 : rd o3 a = v := by rw [rdo3 a, if_pos (.inr (.inl rfl))]
        have eb3 : rd o3 b = v := by rw [rdo3 b, if_pos (.inr (.inr rfl))]
        rw [hta, hfb] at hj ⊢
        have hvg : v = rd g j := by
          rcases hj with z | z | z <;> omega
        exact ⟨c3 j hlt (by omega), c3 a han (by omega), c3 b hbn (by omega)⟩
      · refine c4 j (by omega) h2 ?_
        have hta' := ht.2 j h2; have hfb' := hf.2 j h2; obtain ⟨a', ha'⟩ : ∃ a' : Nat, rd t j = a' := ⟨(rd t j).toNat, by omega⟩; obtain ⟨b', hb'⟩ : ∃ b' : Nat, rd f j = b' := ⟨(rd f j).toNat, by omega⟩; rw [ha', hb'] at hj ⊢
        rcases hj with z | z | z
        · exact .inl (keep3 j h2 z)
        · exact .inr (.inl (keep3 a' (by omega) z))
        · exact .inr (.inr (keep3 b' (by omega) z))
theorem specOrb_loop (t f : List Int) (n : Nat) (hn : n ≤ 12) (ht : inR n t) (hf : inR n f) (g : List Int) (hg : orbOk [t, f] n g) : ∀ (d i : Nat) (o : List Int), n - i = d → i ≤ n → orbI [t, f] n o → lag o g n ≤ d → Ev (fun k => spec_l1Orbits.l0 k t f o i) g
  | 0, i, o, hd, hi, ho, hl => by
    refine Ev.s ?_; simp only [spec_l1Orbits.l0, ht.1, show ¬ (i : Int) < (n : Int) by omega, if_false]
    have : o = g := list_ext o g (ho.1.trans hg.1.1.symm) fun z hz => lag_zero o g n (by omega) z (by rw [← ho.1]; exact hz)
    exact Ev.const (by rw [this])
  | d + 1, i, o, hd, hi, ho, hl => by
    have hlt : i < n := by omega
    have hd1 : n - (i + 1) = d := by omega
    have hw : wrap64 ((i : Int) + 1) = ((i + 1 : Nat) : Int) := by rw [w64 (by omega) (by omega)]; omega
    have hps : ∀ p ∈ [t, f], inR n p := by intro p hp; simp at hp; rcases hp with rfl | rfl <;> assumption
    obtain ⟨o', c1, c2, c3, c4⟩ := specOrb_sweep t f n hn ht hf g hg i n 0 o (by omega) (by omega) ho; refine Ev.s ?_; simp only [spec_l1Orbits.l0, ht.1, show (i : Int) < (n : Int) by omega, if_true]; refine c2 g ?_; rw [hw]; refine specOrb_loop t f n hn ht hf g hg d (i + 1) o' hd1 hlt c1 ?_
    have hout : ∀ z : Nat, ¬ z < n → rd o z = rd o' z := by
      intro z hz
      unfold rd
      rw [Int.toNat_natCast, List.getD_eq_getElem?_getD, List.getD_eq_getElem?_getD, List.getElem?_eq_none (by rw [ho.1]; omega), List.getElem?_eq_none (by rw [c1.1]; omega)]
    have keep : ∀ z : Nat, rd o z = rd g z → rd o' z = rd g z := fun z e => by
      by_cases hz : z < n
      · exact c3 z hz e
      · rw [← hout z hz]; exact e
    by_cases hz : lag o g n = 0
    · have := lag_mono o o' g keep n
      omega
    · -- some point has not its label: some step leads from one that has it to one that has it not
      have hex : ∃ z : Nat, z < n ∧ rd o z ≠ rd g z ∧ rd o' z = rd g z := by
        refine Classical.byContradiction fun hno => ?_
        have hsame : ∀ z : Nat, z < n → (rd o z = rd g z ↔ rd o' z = rd g z) := fun z hz => ⟨keep z, fun e => Classical.byContradiction fun hne => hno ⟨z, hz, hne, e⟩⟩
        have hcl : closedL [t, f] n (fun z => rd o z = rd g z) := by
          intro p hp k hk; have hr := (hps p hp).2 k hk; obtain ⟨a, ha⟩ : ∃ a : Nat, rd p k = a := ⟨(rd p k).toNat, by omega⟩
          have han : a < n := by omega
          rw [ha, Int.toNat_natCast]
          show rd o k = rd g k ↔ rd o a = rd g a
          have h4 := c4 k (by omega) hk
          simp at hp
          rcases hp with rfl | rfl
          · rw [ha] at h4
            exact ⟨fun e => (hsame a han).2 (h4 (.inl e)).2.1, fun e => (hsame k hk).2 (h4 (.inr (.inl e))).1⟩
          · rw [ha] at h4
            exact ⟨fun e => (hsame a han).2 (h4 (.inl e)).2.2, fun e => (hsame k hk).2 (h4 (.inr (.inr e))).1⟩
        have hall : ∀ z : Nat, z < n → rd o z = rd g z := by
          intro z hz; obtain ⟨g0, g1, g2⟩ := hg.1.2 z hz
          have hm : (rd g z).toNat < n := by omega
          have e1 : ((rd g z).toNat : Int) = rd g z := by omega
          have hgm : rd g ((rd g z).toNat : Nat) = rd g z := orbOk_const hg hps g2
          have hom : rd o ((rd g z).toNat : Nat) = rd g ((rd g z).toNat : Nat) := by
            have h1 := orbOk_le hg ho hps hm; have h2 := (ho.2 _ hm).2.1; omega
          exact (g2 _ hcl).1 hom
        have : lag o g n = 0 := by
          have hz0 : ∀ m, m ≤ n → lag o g m = 0 := by
            intro m
            induction m with
            | zero => intro _; rfl
            | succ m ih => intro hm; simp only [lag]; rw [if_pos (hall m (by omega)), ih (by omega)]
          exact hz0 n (Nat.le_refl _)
        exact hz this
      obtain ⟨z, z1, z2, z3⟩ := hex; have := lag_lt o o' g keep z z2 z3 n z1; omega
theorem orb_both (t f : List Int) (n : Nat) (hn : n ≤ 12) (h1 : 1 ≤ n) (ht : inR n t) (hf : inR n f) : ∃ o, orbOk [t, f] n o ∧ Ev (fun k => spec_l1Orbits.f k t f) o ∧ Ev (fun k => impl_orbits.f k [t, f]) o := by
  have hps : ∀ p ∈ [t, f], inR n p := by intro p hp; simp at hp; rcases hp with rfl | rfl <;> assumption
  obtain ⟨o, ho, he⟩ := implOrb_ev [t, f] n hn (by simp) (by simp) hps; refine ⟨o, ho, ?_, he⟩
  unfold spec_l1Orbits.f
  rw [ht.1]; refine Ev.bind (same_ev n (by omega)) ?_; refine specOrb_loop t f n hn ht hf o ho n 0 (stl n) (by omega) (by omega) (stl_orbI _ n) ?_; exact lag_le _ _ n
theorem isPerm_inR (l : List Int) (h : isPerm l) : inR l.length l := ⟨rfl, fun i hi => ⟨(h.2.2 i hi).1, (h.2.2 i hi).2.1⟩⟩
def sm : Nat → (Nat → Int) → Int
  | 0, _ => 0
  | n + 1, g => sm n g + g n
theorem sm_congr (g h : Nat → Int) : ∀ n, (∀ i, i < n → g i = h i) → sm n g = sm n h
  | 0, _ => rfl
  | n + 1, e => by
    simp only [sm]; rw [sm_congr g h n fun i hi => e i (by omega), e n (by omega)]
theorem sm_shift (g : Nat → Int) : ∀ n, sm (n + 1) g = g 0 + sm n (fun i => g (i + 1))
  | 0 => by simp [sm]
  | n + 1 => by
    rw [sm, sm_shift g n, sm]; omega
theorem sm_mul (a : Int) (g : Nat → Int) : ∀ n, a * sm n g = sm n (fun i => a * g i)
  | 0 => by simp [sm]
  | n + 1 => by
    simp only [sm]; rw [Int.mul_add, sm_mul a g n]
theorem sm_add (g h : Nat → Int) : ∀ n, sm n g + sm n h = sm n (fun i => g i + h i)
  | 0 => by simp [sm]
  | n + 1 => by
    simp only [sm]; rw [← sm_add g h n]; omega
theorem sm_zero : ∀ n, sm n (fun _ => 0) = 0
  | 0 => rfl
  | n + 1 => by simp [sm, sm_zero n]
theorem sm_comm (g : Nat → Nat → Int) (m : Nat) : ∀ n, sm n (fun i => sm m (fun j => g i j)) = sm m (fun j => sm n (fun i => g i j))
  | 0 => by simp [sm, sm_zero]
  | n + 1 => by
    simp only [sm]; rw [sm_comm g m n, sm_add]
def sgn : Nat → Int
  | 0 => 1
  | n + 1 => -sgn n
def skip (i a : Nat) : Nat := if a < i then a else a + 1
theorem skip_zero (i : Nat) : skip (i + 1) 0 = 0 := by simp [skip]
theorem skip_succ (i a : Nat) : skip (i + 1) (a + 1) = skip i a + 1 := by
  unfold skip
  by_cases h : a < i
  · rw [if_pos h, if_pos (by omega)]
  · rw [if_neg h, if_neg (by omega)]
def dR : Nat → (Nat → Nat → Int) → Int
  | 0, _ => 1
  | n + 1, M => sm (n + 1) fun j => sgn j * M 0 j * dR n fun a b => M (a + 1) (skip j b)
def dC : Nat → (Nat → Nat → Int) → Int
  | 0, _ => 1
  | n + 1, M => sm (n + 1) fun i => sgn i * M i 0 * dC n fun a b => M (skip i a) (b + 1)
theorem skip_lt (i a n : Nat) (h : a < n) : skip i a < n + 1 := by unfold skip; split <;> omega
theorem dR_congr : ∀ n (M N : Nat → Nat → Int), (∀ a b, a < n → b < n → M a b = N a b) → dR n M = dR n N
  | 0, _, _, _ => rfl
  | n + 1, M, N, h => by
    simp only [dR]
    refine sm_congr _ _ _ fun j hj => ?_
    rw [h 0 j (by omega) hj, dR_congr n _ _ fun a b ha hb => h (a + 1) (skip j b) (by omega) (skip_lt j b n hb)]
theorem dC_congr : ∀ n (M N : Nat → Nat → Int), (∀ a b, a < n → b < n → M a b = N a b) → dC n M = dC n N
  | 0, _, _, _ => rfl
  | n + 1, M, N, h => by
    simp only [dC]
    refine sm_congr _ _ _ fun j hj => ?_
    rw [h j 0 hj (by omega), dC_congr n _ _ fun a b ha hb => h (skip j a) (b + 1) (skip_lt j a n ha) (by omega)]
theorem det_same : ∀ n, (∀ M, dR n M = dC n M) ∧ (∀ M, dR (n + 1) M = dC (n + 1) M)
  | 0 => ⟨fun _ => rfl, fun M => by simp [dR, dC, sm]⟩
  | n + 1 => by
    obtain ⟨h0, h1⟩ := det_same n; refine ⟨h1, fun M => ?_⟩
    have eR : dR (n + 2) M = M 0 0 * dR (n + 1) (fun a b => M (a + 1) (b + 1)) + sm (n + 1) (fun j => sm (n + 1) fun i => -(sgn j * sgn i) * (M 0 (j + 1) * M (i + 1) 0) * dR n fun a b => M (skip i a + 1) (skip j b + 1)) := by
      rw [dR, sm_shift]
      congr 1
      · simp only [sgn, Int.one_mul]
        congr 1
      · refine sm_congr _ _ _ fun j hj => ?_
        rw [h1, dC, sm_mul]
        refine sm_congr _ _ _ fun i hi => ?_
        simp only [skip_zero, skip_succ, sgn]; rw [← h0]; simp only [Int.neg_mul, Int.mul_assoc, Int.mul_neg, Int.mul_left_comm]
    have eC : dC (n + 2) M = M 0 0 * dC (n + 1) (fun a b => M (a + 1) (b + 1)) + sm (n + 1) (fun i => sm (n + 1) fun j => -(sgn j * sgn i) * (M 0 (j + 1) * M (i + 1) 0) * dR n fun a b => M (skip i a + 1) (skip j b + 1)) := by
      rw [dC, sm_shift]
      congr 1
      · simp only [sgn, Int.one_mul]
        congr 1
      · refine sm_congr _ _ _ fun i hi => ?_
        rw [← h1, dR, sm_mul]
        refine sm_congr _ _ _ fun j hj => ?_
        simp only [skip_zero, skip_succ, sgn]; simp only [Int.neg_mul, Int.mul_assoc, Int.mul_neg, Int.mul_left_comm]
    rw [eR, eC, h1, sm_comm]
theorem wrap_mod (x : Int) : ∃ k : Int, wrap64 x = x + k * 18446744073709551616 := by
  unfold wrap64
  refine ⟨-((x + 9223372036854775808) / 18446744073709551616), ?_⟩; omega
theorem wrap_add_mul (x k : Int) : wrap64 (x + k * 18446744073709551616) = wrap64 x := by
  unfold wrap64
  omega
theorem wrap_step (s a b d : Int) : wrap64 (wrap64 s + wrap64 (wrap64 (a * b) * wrap64 d)) = wrap64 (s + a * b * d) := by
  obtain ⟨k1, e1⟩ := wrap_mod s; obtain ⟨k2, e2⟩ := wrap_mod (a * b); obtain ⟨k3, e3⟩ := wrap_mod d; obtain ⟨k4, e4⟩ := wrap_mod (wrap64 (a * b) * wrap64 d); rw [e4, e1, e2, e3]
  have : s + k1 * 18446744073709551616 + ((a * b + k2 * 18446744073709551616) * (d + k3 * 18446744073709551616) + k4 * 18446744073709551616) = (s + a * b * d) + (k1 + (a * b) * k3 + k2 * d + k2 * k3 * 18446744073709551616 + k4) * 18446744073709551616 := by
    simp only [Int.add_mul, Int.mul_add, Int.mul_assoc, Int.mul_comm 18446744073709551616]
    have c1 : k2 * (18446744073709551616 * d) = k2 * (d * 18446744073709551616) := by rw [Int.mul_comm d]
    simp only [Int.mul_comm d, Int.mul_left_comm]; omega
  rw [this, wrap_add_mul]
def sq (T : List (List Int)) (m : Nat) : Prop := T.length = m ∧ ∀ i : Nat, i < m → (rd_L1 T (i : Int)).length = m
def ent (T : List (List Int)) (a b : Nat) : Int := rd (rd_L1 T (a : Int)) (b : Int)
theorem ll_rd (L : List (List Int)) (i : Nat) (h : i < L.length) : rd_L1 L (i : Int) = L[i] := by
  unfold rd_L1
  rw [Int.toNat_natCast, List.getD_eq_getElem?_getD, List.getElem?_eq_getElem h]; rfl
theorem ll_app_lt (L M : List (List Int)) (i : Nat) (h : i < L.length) : rd_L1 (L ++ M) (i : Int) = rd_L1 L (i : Int) := by
  rw [ll_rd _ i (by simp; omega), ll_rd L i h, List.getElem_append_left h]
theorem ll_app_at (L : List (List Int)) (x : List Int) : rd_L1 (L ++ [x]) (L.length : Int) = x := by
  rw [ll_rd _ _ (by simp), List.getElem_append_right (Nat.le_refl _)]
  simp
theorem rd_drop (l : List Int) (a b : Nat) : rd (l.drop a) (b : Int) = rd l ((a + b : Nat) : Int) := by
  unfold rd
  rw [Int.toNat_natCast, Int.toNat_natCast, List.getD_eq_getElem?_getD, List.getD_eq_getElem?_getD, List.getElem?_drop]
def del (l : List Int) (c : Nat) : List Int := ([] ++ l.take c) ++ l.drop (c + 1)
theorem del_len (l : List Int) (c : Nat) (h : c < l.length) : (del l c).length + 1 = l.length := by
  simp only [del, List.nil_append, List.length_append, List.length_take, List.length_drop]; omega
theorem del_rd (l : List Int) (c b : Nat) (hc : c < l.length) : rd (del l c) (b : Int) = rd l ((skip c b : Nat) : Int) := by
  unfold rd del skip
  rw [Int.toNat_natCast, Int.toNat_natCast, List.getD_eq_getElem?_getD, List.getD_eq_getElem?_getD, List.nil_append, List.getElem?_append, List.length_take]
  by_cases h : b < c
  · rw [if_pos h, if_pos (by omega), List.getElem?_take, if_pos h]
  · rw [if_neg h, if_neg (by omega), List.getElem?_drop]
    congr 2
    omega
def mR (T : List (List Int)) (c : Nat) : Nat → List (List Int)
  | 0 => []
  | r + 1 => mR T c r ++ [del (rd_L1 T ((r + 1 : Nat) : Int)) c]
theorem mR_len (T : List (List Int)) (c : Nat) : ∀ r, (mR T c r).length = r
  | 0 => rfl
  | r + 1 => by simp [mR, mR_len T c r]
theorem mR_row (T : List (List Int)) (c : Nat) : ∀ r a, a < r → rd_L1 (mR T c r) (a : Int) = del (rd_L1 T ((a + 1 : Nat) : Int)) c
  | r + 1, a, h => by
    simp only [mR]
    by_cases e : a < r
    · rw [ll_app_lt _ _ _ (by rw [mR_len]; exact e)]
      exact mR_row T c r a e
    · have : a = r := by omega
      subst this; have := ll_app_at (mR T c a) (del (rd_L1 T ((a + 1 : Nat) : Int)) c)
      rwa [mR_len] at this
def mC (T : List (List Int)) (i : Nat) : Nat → List (List Int)
  | 0 => []
  | r + 1 => if r = i then mC T i r else mC T i r ++ [(rd_L1 T (r : Int)).drop 1]
theorem mC_len (T : List (List Int)) (i : Nat) : ∀ r, (mC T i r).length = if r ≤ i then r else r - 1
  | 0 => by simp [mC]
  | r + 1 => by
    have ih := mC_len T i r; simp only [mC]
    by_cases e : r = i
    · subst e
      rw [if_pos rfl, ih, if_pos (Nat.le_refl _), if_neg (by omega)]; omega
    · rw [if_neg e, List.length_append, ih, List.length_singleton]
      by_cases e2 : r ≤ i
      · rw [if_pos e2, if_pos (by omega)]
      · rw [if_neg e2, if_neg (by omega)]
        omega
theorem mC_row (T : List (List Int)) (i : Nat) : ∀ r a, a < (mC T i r).length → rd_L1 (mC T i r) (a : Int) = (rd_L1 T ((skip i a : Nat) : Int)).drop 1
  | 0, a, h => by simp [mC] at h
  | r + 1, a, h => by
    have hl := mC_len T i r; simp only [mC] at h ⊢
    by_cases e : r = i
    · rw [if_pos e] at h ⊢
      exact mC_row T i r a h
    · rw [if_neg e] at h ⊢
      by_cases e2 : a < (mC T i r).length
      · rw [ll_app_lt _ _ _ e2]
        exact mC_row T i r a e2
      · have ha : a = (mC T i r).length := by simp at h; omega
        rw [ha, ll_app_at, hl]
        unfold skip
        by_cases c : r ≤ i
        · rw [if_pos c, if_pos (by omega)]
        · rw [if_neg c, if_neg (by omega), show r - 1 + 1 = r by omega]
theorem wrap_zero : wrap64 0 = 0 := w64 (by omega) (by omega)
theorem sgn_val : ∀ j, sgn j = 1 ∨ sgn j = -1
  | 0 => .inl rfl
  | j + 1 => by
    rcases sgn_val j with h | h
    · right; simp [sgn, h]
    · left; simp [sgn, h]
theorem sgn_wrap (j : Nat) : wrap64 (-sgn j) = sgn (j + 1) := by
  rcases sgn_val j with h | h
  · simp only [sgn, h]; exact w64 (by omega) (by omega)
  · simp only [sgn, h]; exact w64 (by omega) (by omega)
def tR (T : List (List Int)) (m j : Nat) : Int := sgn j * ent T 0 j * dR m fun a b => ent T (a + 1) (skip j b)
def tC (T : List (List Int)) (m i : Nat) : Int := sgn i * ent T i 0 * dC m fun a b => ent T (skip i a) (b + 1)
theorem specDet_rows (T : List (List Int)) (m : Nat) (hm : m ≤ 12) (hT : sq T (m + 1)) (j : Nat) (hj : j < m + 1) (x3 x4 : Int) (r : Int) (h : Ev (fun k => (spec_l7Det.f k (mR T j m)).bind fun t => spec_l7Det.l0 k T (wrap64 (x3 + wrap64 (wrap64 (x4 * ent T 0 j) * t))) (wrap64 (-x4)) (wrap64 ((j : Int) + 1))) r) : ∀ (d q : Nat), m - q = d → q ≤ m → Ev (fun k => spec_l7Det.l1 k T x3 x4 j (mR T j q) ((q + 1 : Nat) : Int)) r
  | 0, q, hd, hq => by
    have : q = m := by omega
    subst this; have l0 := hT.2 0 (by omega); refine Ev.s ?_; simp only [spec_l7Det.l1, hT.1, show ¬ ((q + 1 : Nat) : Int) < ((q + 1 : Nat) : Int) by omega, show (0 : Int) < ((q + 1 : Nat) : Int) by omega, show (0 : Int) ≤ (j : Int) by omega, if_true, if_false]; rw [show ((0 : Nat) : Int) = 0 from rfl] at l0; simp only [l0, show (j : Int) < ((q + 1 : Nat) : Int) by omega, if_true]; exact h
  | d + 1, q, hd, hq => by
    have ih := specDet_rows T m hm hT j hj x3 x4 r h d (q + 1) (by omega) (by omega); have l1 := hT.2 (q + 1) (by omega)
    have wj : j < 4611686018427387904 := by omega
    have wq : q + 1 < 4611686018427387904 := by omega
    have g1 : ([] : List Int).length + ((rd_L1 T ((q + 1 : Nat) : Int)).take j).length < 17592186044416 := by rw [List.length_nil, List.length_take]; omega
    have g2 : ([] ++ (rd_L1 T ((q + 1 : Nat) : Int)).take j).length + ((rd_L1 T ((q + 1 : Nat) : Int)).drop (j + 1)).length < 17592186044416 := by rw [List.nil_append, List.length_take, List.length_drop]; omega
    have g3 : (mR T j q).length < 5864062014805 := by rw [mR_len]; omega
    refine Ev.s ?_; simp only [spec_l7Det.l1, hT.1, show ((q + 1 : Nat) : Int) < ((m + 1 : Nat) : Int) by omega, show (0 : Int) ≤ ((q + 1 : Nat) : Int) by omega, show (0 : Int) ≤ (j : Int) by omega, l1, show (j : Int) ≤ ((m + 1 : Nat) : Int) by omega, if_true, Int.toNat_natCast, spec_l2Copy.f, Option.bind_some, g1, w64n wj, show (0 : Int) ≤ ((j + 1 : Nat) : Int) by omega, show ((j + 1 : Nat) : Int) ≤ ((m + 1 : Nat) : Int) by omega, g2, g3, w64n wq]; exact ih
theorem specDet_ev : ∀ (m : Nat) (T : List (List Int)), m ≤ 12 → sq T m → Ev (fun k => spec_l7Det.f k T) (wrap64 (dR m (ent T)))
  | 0, T, hm, hT => by
    refine Ev.s ?_; simp only [spec_l7Det.f, hT.1, show ((0 : Nat) : Int) = 0 from rfl, if_true]; exact Ev.const (by show some 1 = some (wrap64 1); rw [w64 (by omega) (by omega)])
  | m + 1, T, hm, hT => by
    have run : ∀ (d j : Nat), m + 1 - j = d → j ≤ m + 1 → Ev (fun k => spec_l7Det.l0 k T (wrap64 (sm j (tR T m))) (sgn j) j) (wrap64 (sm (m + 1) (tR T m))) := by
      intro d
      induction d with
      | zero =>
        intro j hd hj
        have : j = m + 1 := by omega
        subst this; refine Ev.s ?_; simp only [spec_l7Det.l0, hT.1, show ¬ ((m + 1 : Nat) : Int) < ((m + 1 : Nat) : Int) by omega, if_false]; exact Ev.const rfl
      | succ d ih =>
        intro j hd hj; have ih' := ih (j + 1) (by omega) (by omega); have l0 := hT.2 0 (by omega); rw [show ((0 : Nat) : Int) = 0 from rfl] at l0
        have wj : j < 4611686018427387904 := by omega
        refine Ev.s ?_; simp only [spec_l7Det.l0, hT.1, show (j : Int) < ((m + 1 : Nat) : Int) by omega, show (0 : Int) < ((m + 1 : Nat) : Int) by omega, show (0 : Int) ≤ (j : Int) by omega, l0, if_true, sgn_wrap, w64n wj]; have e0 : ent T 0 j = rd (rd_L1 T 0) (j : Int) := rfl
        by_cases z : rd (rd_L1 T 0) (j : Int) = 0
        · simp only [z, if_true]
          have : sm (j + 1) (tR T m) = sm j (tR T m) := by
            simp only [sm, tR, e0, z]
            simp
          rw [this] at ih'; exact ih'
        · simp only [z, if_false]
          refine specDet_rows T m (by omega) hT j (by omega) _ _ _ ?_ m 0 (by omega) (by omega)
          have hsq : sq (mR T j m) m := by
            refine ⟨mR_len T j m, fun i hi => ?_⟩; rw [mR_row T j m i hi]; have := hT.2 (i + 1) (by omega); have := del_len (rd_L1 T ((i + 1 : Nat) : Int)) j (by omega); omega
          refine Ev.bind (specDet_ev m (mR T j m) (by omega) hsq) ?_
          have ed : dR m (ent (mR T j m)) = dR m fun a b => ent T (a + 1) (skip j b) := dR_congr m _ _ fun a b ha hb => by
            have := hT.2 (a + 1) (by omega)
            unfold ent
            rw [mR_row T j m a ha, del_rd _ _ _ (by omega)]
          rw [ed, wrap_step, sgn_wrap, w64n wj]; exact ih'
    have := run (m + 1) 0 (by omega) (by omega); simp only [sm, wrap_zero, sgn] at this; refine Ev.s ?_; simp only [spec_l7Det.f, hT.1, show ¬ ((m + 1 : Nat) : Int) = 0 by omega, if_false]; exact this
theorem implDet_rows (T : List (List Int)) (m : Nat) (hm : m ≤ 12) (hT : sq T (m + 1)) (i : Nat) (hi : i < m + 1) (x3 x4 : Int) (r : Int) (h : Ev (fun k => (impl_determinant.f k (mC T i (m + 1))).bind fun t => impl_determinant.l0 k T (wrap64 (x3 + wrap64 (wrap64 (x4 * ent T i 0) * t))) (wrap64 (-x4)) T ((m + 1 : Nat) : Int) (wrap64 ((i : Int) + 1))) r) : ∀ (d q : Nat), m + 1 - q = d → q ≤ m + 1 → Ev (fun k => impl_determinant.l1 k T x3 x4 i (rd_L1 T (i : Int)) (mC T i q) T ((m + 1 : Nat) : Int) i T ((m + 1 : Nat) : Int) q) r
  | 0, q, hd, hq => by
    have : q = m + 1 := by omega
    subst this; have l0 := hT.2 i hi; refine Ev.s ?_; simp only [impl_determinant.l1, show ¬ ((m + 1 : Nat) : Int) < ((m + 1 : Nat) : Int) by omega, if_false, l0, show (0 : Int) < ((m + 1 : Nat) : Int) by omega, if_true]; exact h
  | d + 1, q, hd, hq => by
    have ih := implDet_rows T m hm hT i hi x3 x4 r h d (q + 1) (by omega) (by omega); have l1 := hT.2 q (by omega)
    have wq : q < 4611686018427387904 := by omega
    have hl := mC_len T i q
    have g3 : (mC T i q).length < 5864062014805 := by
      rw [hl]
      split <;> omega
    refine Ev.s ?_; simp only [impl_determinant.l1, hT.1, show (q : Int) < ((m + 1 : Nat) : Int) by omega, show (0 : Int) ≤ (q : Int) by omega, if_true, w64n wq]; simp only [mC] at ih
    by_cases e : q = i
    · subst e
      rw [if_pos rfl] at ih; simp only [if_true]; exact ih
    · rw [if_neg e] at ih
      simp only [show ¬ (q : Int) = (i : Int) by omega, if_false, l1, show (1 : Int) ≤ ((m + 1 : Nat) : Int) by omega, g3, if_true]; exact ih
theorem implDet_ev : ∀ (m : Nat) (T : List (List Int)), m ≤ 12 → sq T m → Ev (fun k => impl_determinant.f k T) (wrap64 (dC m (ent T)))
  | 0, T, hm, hT => by
    refine Ev.s ?_; simp only [impl_determinant.f, hT.1, show ((0 : Nat) : Int) = 0 from rfl, if_true]; exact Ev.const (by show some 1 = some (wrap64 1); rw [w64 (by omega) (by omega)])
  | m + 1, T, hm, hT => by
    have run : ∀ (d j : Nat), m + 1 - j = d → j ≤ m + 1 → Ev (fun k => impl_determinant.l0 k T (wrap64 (sm j (tC T m))) (sgn j) T ((m + 1 : Nat) : Int) j) (wrap64 (sm (m + 1) (tC T m))) := by
      intro d
      induction d with
      | zero =>
        intro j hd hj
        have : j = m + 1 := by omega
        subst this; refine Ev.s ?_; simp only [impl_determinant.l0, show ¬ ((m + 1 : Nat) : Int) < ((m + 1 : Nat) : Int) by omega, if_false]; exact Ev.const rfl
      | succ d ih =>
        intro j hd hj; have ih' := ih (j + 1) (by omega) (by omega); have l0 := hT.2 j (by omega)
        have wj : j < 4611686018427387904 := by omega
        refine Ev.s ?_; simp only [impl_determinant.l0, hT.1, show (j : Int) < ((m + 1 : Nat) : Int) by omega, show (0 : Int) < ((m + 1 : Nat) : Int) by omega, show (0 : Int) ≤ (j : Int) by omega, l0, if_true, sgn_wrap, w64n wj]; have e0 : ent T j 0 = rd (rd_L1 T (j : Int)) 0 := rfl
        by_cases z : rd (rd_L1 T (j : Int)) 0 = 0
        · simp only [z, if_true]
          have : sm (j + 1) (tC T m) = sm j (tC T m) := by
            simp only [sm, tC, e0, z]
            simp
          rw [this] at ih'; exact ih'
        · simp only [z, if_false]
          refine implDet_rows T m (by omega) hT j (by omega) _ _ _ ?_ (m + 1) 0 (by omega) (by omega)
          have hl : (mC T j (m + 1)).length = m := by
            rw [mC_len, if_neg (by omega)]; omega
          have hsq : sq (mC T j (m + 1)) m := by
            refine ⟨hl, fun i hi => ?_⟩; rw [mC_row T j (m + 1) i (by omega), List.length_drop]; have := hT.2 (skip j i) (skip_lt j i m hi); omega
          refine Ev.bind (implDet_ev m (mC T j (m + 1)) (by omega) hsq) ?_
          have ed : dC m (ent (mC T j (m + 1))) = dC m fun a b => ent T (skip j a) (b + 1) := dC_congr m _ _ fun a b ha hb => by
            unfold ent
            rw [mC_row T j (m + 1) a (by omega), rd_drop, Nat.add_comm 1 b]
          rw [ed, wrap_step, sgn_wrap, w64n wj]; exact ih'
    have := run (m + 1) 0 (by omega) (by omega); simp only [sm, wrap_zero, sgn] at this; refine Ev.s ?_; simp only [impl_determinant.f, hT.1, show ¬ ((m + 1 : Nat) : Int) = 0 by omega, if_false]; exact this
def flipAt (f : List Int) (i : Nat) : Prop := rd f i ≠ i ∧ rd f (rd f i) = i
def isMap (t f : List Int) : Prop := isPerm t ∧ isPerm f ∧ t.length = f.length ∧ (∀ i : Nat, i < f.length → flipAt f i) ∧ ∀ i j : Nat, i < f.length → j < f.length → Reach [t, f] f.length i j
def maxF : List Int → Int → Int
  | [], m => m
  | x :: xs, m => maxF xs (mx m x)
theorem maxF_zero : ∀ (l : List Int) (m : Int), 0 ≤ m → (∀ x ∈ l, 0 ≤ x) → 0 ≤ maxF l m ∧ (maxF l m = 0 ↔ m = 0 ∧ ∀ x ∈ l, x = 0)
  | [], m, hm, _ => by simp [maxF, hm]
  | x :: xs, m, hm, hx => by
    have hx0 := hx x (by simp)
    have hmx : 0 ≤ mx m x ∧ (mx m x = 0 ↔ m = 0 ∧ x = 0) := by unfold mx; split <;> omega
    obtain ⟨h1, h2⟩ := maxF_zero xs (mx m x) hmx.1 fun y hy => hx y (by simp [hy])
    refine ⟨h1, ?_⟩; simp only [maxF, h2, hmx.2, List.mem_cons, forall_eq_or_imp, and_assoc]
theorem max_run (l : List Int) (hl : l.length ≤ 1048576) : ∀ (d i : Nat) (m : Int), l.length - i = d → i ≤ l.length → Ev (fun k => slices_Max_int_int.l0 k l m i) (maxF (l.drop i) m)
  | 0, i, m, hd, hi => by
    refine Ev.s ?_; simp only [slices_Max_int_int.l0, show ¬ (i : Int) < (l.length : Int) by omega, if_false]; rw [List.drop_eq_nil_of_le (by omega)]; exact Ev.const rfl
  | d + 1, i, m, hd, hi => by
    have hlt : i < l.length := by omega
    refine Ev.s ?_; simp only [slices_Max_int_int.l0, show (i : Int) < (l.length : Int) by omega, show (0 : Int) ≤ (i : Int) by omega, if_true]; rw [w64 (x := (i : Int) + 1) (by omega) (by omega), show ((i : Int) + 1) = ((i + 1 : Nat) : Int) by omega, List.drop_eq_getElem_cons hlt, rd_lt l i hlt]; exact max_run l hl d (i + 1) _ (by omega) (by omega)
theorem max_ev (l : List Int) (hl : l.length ≤ 1048576) (h1 : 1 ≤ l.length) (h0 : ∀ x ∈ l, 0 ≤ x) : ∃ m, Ev (fun k => slices_Max_int_int.f k l) m ∧ (m = 0 ↔ ∀ x ∈ l, x = 0) := by
  cases l with
  | nil => simp at h1
  | cons x xs =>
    refine ⟨maxF xs x, ?_, ?_⟩
    · unfold slices_Max_int_int.f
      simp only [show ¬ (((x :: xs).length : Nat) : Int) < 1 by omega, show (0 : Int) < (((x :: xs).length : Nat) : Int) by omega, if_true, if_false]; exact max_run (x :: xs) hl _ 1 x rfl h1
    · rw [(maxF_zero xs x (h0 x (by simp)) fun y hy => h0 y (by simp [hy])).2]
      simp
theorem specFlip_run (t f : List Int) (hf : isPerm f) : ∀ (d i : Nat), f.length - i = d → i ≤ f.length →
    ((∀ q : Nat, i ≤ q → q < f.length → flipAt f q) → ∀ r, Ev (fun k => (spec_l1Orbits.f k t f).bind fun o => spec_MapValid.l1 k o 0) r → Ev (fun k => spec_MapValid.l0 k i t f) r) ∧ (¬ (∀ q : Nat, i ≤ q → q < f.length → flipAt f q) → Ev (fun k => spec_MapValid.l0 k i t f) false)
  | 0, i, hd, hi => by
    refine ⟨fun _ r h => Ev.s ?_, fun h => absurd (fun q h1 h2 => by omega) h⟩; simp only [spec_MapValid.l0, show ¬ (i : Int) < (f.length : Int) by omega, if_false]; exact h
  | d + 1, i, hd, hi => by
    have hlt : i < f.length := by omega
    have hl12 := hf.2.1; have hr := (isPerm_inR f hf).2 i hlt; have ih := specFlip_run t f hf d (i + 1) (by omega) (by omega)
    have hw : wrap64 ((i : Int) + 1) = ((i + 1 : Nat) : Int) := by rw [w64 (by omega) (by omega)]; omega
    have g1 : (i : Int) < (f.length : Int) := by omega
    have g2 : (0 : Int) ≤ (i : Int) := by omega
    by_cases c1 : rd f i = i
    · refine ⟨fun h => absurd c1 (h i (Nat.le_refl _) hlt).1, fun h => Ev.s ?_⟩
      simp only [spec_MapValid.l0, g1, g2, c1, if_true]; exact Ev.const rfl
    · by_cases c2 : rd f (rd f i) = i
      · refine ⟨fun h r hr' => Ev.s ?_, fun h => Ev.s ?_⟩
        · simp only [spec_MapValid.l0, g1, g2, c1, c2, hr.1, hr.2, if_true, if_false, hw]
          exact ih.1 (fun q h1 h2 => h q (by omega) h2) r hr'
        · simp only [spec_MapValid.l0, g1, g2, c1, c2, hr.1, hr.2, if_true, if_false, hw]
          refine ih.2 fun h' => h fun q h1 h2 => ?_
          by_cases e : q = i
          · rw [e]; exact ⟨c1, c2⟩
          · exact h' q (by omega) h2
      · refine ⟨fun h => absurd (h i (Nat.le_refl _) hlt).2 c2, fun h => Ev.s ?_⟩
        simp only [spec_MapValid.l0, g1, g2, c1, c2, hr.1, hr.2, if_true, if_false]; exact Ev.const rfl
theorem implFlip_run (t f : List Int) (hf : isPerm f) : ∀ (d i : Nat), f.length - i = d → i ≤ f.length →
    ((∀ q : Nat, i ≤ q → q < f.length → flipAt f q) → ∀ r, Ev (fun k => (impl_orbits.f k [t, f]).bind fun o => (slices_Max_int_int.f k o).bind fun m => some (m == 0)) r → Ev (fun k => impl_MapValid.l0 k f f.length i t f) r) ∧ (¬ (∀ q : Nat, i ≤ q → q < f.length → flipAt f q) → Ev (fun k => impl_MapValid.l0 k f f.length i t f) false)
  | 0, i, hd, hi => by
    refine ⟨fun _ r h => Ev.s ?_, fun h => absurd (fun q h1 h2 => by omega) h⟩; simp only [impl_MapValid.l0, show ¬ (i : Int) < (f.length : Int) by omega, if_false]; exact h
  | d + 1, i, hd, hi => by
    have hlt : i < f.length := by omega
    have hl12 := hf.2.1; have hr := (isPerm_inR f hf).2 i hlt; have ih := implFlip_run t f hf d (i + 1) (by omega) (by omega)
    have hw : wrap64 ((i : Int) + 1) = ((i + 1 : Nat) : Int) := by rw [w64 (by omega) (by omega)]; omega
    have g1 : (i : Int) < (f.length : Int) := by omega
    have g2 : (0 : Int) ≤ (i : Int) := by omega
    by_cases c1 : rd f i = i
    · refine ⟨fun h => absurd c1 (h i (Nat.le_refl _) hlt).1, fun h => Ev.s ?_⟩
      simp only [impl_MapValid.l0, g1, g2, c1, if_true]; exact Ev.const rfl
    · by_cases c2 : rd f (rd f i) = i
      · refine ⟨fun h r hr' => Ev.s ?_, fun h => Ev.s ?_⟩
        · simp only [impl_MapValid.l0, g1, g2, c1, c2, hr.1, hr.2, if_true, if_false, hw]
          exact ih.1 (fun q h1 h2 => h q (by omega) h2) r hr'
        · simp only [impl_MapValid.l0, g1, g2, c1, c2, hr.1, hr.2, if_true, if_false, hw]
          refine ih.2 fun h' => h fun q h1 h2 => ?_
          by_cases e : q = i
          · rw [e]; exact ⟨c1, c2⟩
          · exact h' q (by omega) h2
      · refine ⟨fun h => absurd (h i (Nat.le_refl _) hlt).2 c2, fun h => Ev.s ?_⟩
        simp only [impl_MapValid.l0, g1, g2, c1, c2, hr.1, hr.2, if_true, if_false]; exact Ev.const rfl
theorem zero_run (o : List Int) (hl : o.length ≤ 1048576) : ∀ (d i : Nat), o.length - i = d → i ≤ o.length →
    ((∀ q : Nat, i ≤ q → q < o.length → rd o q = 0) → Ev (fun k => spec_MapValid.l1 k o i) true) ∧ (¬ (∀ q : Nat, i ≤ q → q < o.length → rd o q = 0) → Ev (fun k => spec_MapValid.l1 k o i) false)
  | 0, i, hd, hi => by
    refine ⟨fun _ => Ev.s ?_, fun h => absurd (fun q h1 h2 => by omega) h⟩; simp only [spec_MapValid.l1, show ¬ (i : Int) < (o.length : Int) by omega, if_false]; exact Ev.const rfl
  | d + 1, i, hd, hi => by
    have hlt : i < o.length := by omega
    have ih := zero_run o hl d (i + 1) (by omega) (by omega)
    have hw : wrap64 ((i : Int) + 1) = ((i + 1 : Nat) : Int) := by rw [w64 (by omega) (by omega)]; omega
    have g1 : (i : Int) < (o.length : Int) := by omega
    have g2 : (0 : Int) ≤ (i : Int) := by omega
    by_cases c : rd o i = 0
    · refine ⟨fun h => Ev.s ?_, fun h => Ev.s ?_⟩
      · simp only [spec_MapValid.l1, g1, g2, c, if_true, hw]
        exact ih.1 fun q h1 h2 => h q (by omega) h2
      · simp only [spec_MapValid.l1, g1, g2, c, if_true, hw]
        refine ih.2 fun h' => h fun q h1 h2 => ?_
        by_cases e : q = i
        · rw [e]; exact c
        · exact h' q (by omega) h2
    · refine ⟨fun h => absurd (h i (Nat.le_refl _) hlt) c, fun h => Ev.s ?_⟩
      simp only [spec_MapValid.l1, g1, g2, c, if_true, if_false]; exact Ev.const rfl
theorem orb_zero (t f : List Int) (n : Nat) (h1 : 1 ≤ n) (ht : inR n t) (hf : inR n f) (o : List Int) (ho : orbOk [t, f] n o) : (∀ q : Nat, q < n → rd o q = 0) ↔ ∀ i j : Nat, i < n → j < n → Reach [t, f] n i j := by
  have hps : ∀ p ∈ [t, f], inR n p := by intro p hp; simp at hp; rcases hp with rfl | rfl <;> assumption
  constructor
  · intro h i j hi hj
    have e1 := (ho.1.2 i hi).2.2; have e2 := (ho.1.2 j hj).2.2; rw [h i hi] at e1; rw [h j hj] at e2; exact e1.symm.trans e2
  · intro h q hq
    have := orbOk_const ho hps (h q 0 hq (by omega)); have h0 := ho.1.2 0 (by omega); omega
theorem mapValid_both (t f : List Int) (ht : t.length ≤ 1048576) (hf : f.length ≤ 1048576) : ∃ b : Bool, Ev (fun k => spec_MapValid.f k t f) b ∧ Ev (fun k => impl_MapValid.f k t f) b ∧ (b = true ↔ isMap t f) := by
  obtain ⟨bt, t1, t2, t3⟩ := permValid_both t ht; obtain ⟨bf, f1, f2, f3⟩ := permValid_both f hf
  have hb : ∀ b : Bool, (∃ c : Bool, Ev (fun k => spec_l1Both.f k t f) c ∧ (c = true ↔ isPerm t ∧ isPerm f ∧ t.length = f.length)) := fun _ => by
    unfold spec_l1Both.f
    cases bt with
    | false => exact ⟨false, Ev.bind t1 (Ev.const rfl), ⟨fun h => (by cases h), fun h => absurd (t3.2 h.1) (by decide)⟩⟩
    | true =>
      cases bf with
      | false => exact ⟨false, Ev.bind t1 (by simp only [if_true]; exact Ev.bind f1 (Ev.const rfl)), ⟨fun h => (by cases h), fun h => absurd (f3.2 h.2.1) (by decide)⟩⟩
      | true => exact ⟨((t.length : Int) == (f.length : Int)), Ev.bind t1 (by simp only [if_true]; exact Ev.bind f1 (Ev.const rfl)), ⟨fun h => ⟨t3.1 rfl, f3.1 rfl, by have := beq_iff_eq.1 h; omega⟩, fun h => by rw [beq_iff_eq]; omega⟩⟩
  obtain ⟨c, c1, c2⟩ := hb true
  by_cases hall : isPerm t ∧ isPerm f ∧ t.length = f.length
  · obtain ⟨pt, pf, hlen⟩ := hall
    have hc : c = true := c2.2 ⟨pt, pf, hlen⟩; subst hc; have hbt : bt = true := t3.2 pt; have hbf : bf = true := f3.2 pf; subst hbt; subst hbf
    have hne : (((t.length : Int)) != (f.length : Int)) = false := by rw [bne_eq_false_iff_eq]; omega
    have hrt : inR f.length t := by have := isPerm_inR t pt; rwa [hlen] at this
    have hrf := isPerm_inR f pf; obtain ⟨o, o1, o2, o3⟩ := orb_both t f f.length pf.2.1 pf.1 hrt hrf
    have hS : ∀ r, Ev (fun k => spec_MapValid.l0 k 0 t f) r → Ev (fun k => spec_MapValid.f k t f) r := fun r h => by
      unfold spec_MapValid.f
      refine Ev.bind c1 ?_; simp only [if_true]; exact h
    have hI : ∀ r, Ev (fun k => impl_MapValid.l0 k f f.length 0 t f) r → Ev (fun k => impl_MapValid.f k t f) r := fun r h => by
      unfold impl_MapValid.f
      refine Ev.bind t2 ?_; simp only [if_true]; refine Ev.bind f2 ?_; simp only [if_true, hne]; refine Ev.s ?_; simp only [impl_MapValid.j0, Bool.false_eq_true, if_false]; exact h
    have sF := specFlip_run t f pf f.length 0 (by omega) (by omega); have iF := implFlip_run t f pf f.length 0 (by omega) (by omega)
    by_cases hfl : ∀ q : Nat, 0 ≤ q → q < f.length → flipAt f q
    · have zr := zero_run o (by rw [o1.1.1]; omega) o.length 0 (by omega) (by omega)
      have oz := orb_zero t f f.length pf.1 hrt hrf o o1; obtain ⟨m, m1, m2⟩ := max_ev o (by rw [o1.1.1]; omega) (by rw [o1.1.1]; exact pf.1) (fun x hx => by
        obtain ⟨i, hi, rfl⟩ := List.mem_iff_getElem.1 hx; have := (o1.1.2 i (by rw [← o1.1.1]; exact hi)).1
        rwa [rd_lt o i hi] at this)
      have hmz : m = 0 ↔ ∀ q : Nat, 0 ≤ q → q < o.length → rd o q = 0 := by
        rw [m2]
        constructor
        · intro h q _ hq
          rw [rd_lt o q hq]; exact h _ (List.getElem_mem hq)
        · intro h x hx
          obtain ⟨i, hi, rfl⟩ := List.mem_iff_getElem.1 hx; have := h i (by omega) hi
          rwa [rd_lt o i hi] at this
      by_cases hz : ∀ q : Nat, 0 ≤ q → q < o.length → rd o q = 0
      · refine ⟨true, hS _ (sF.1 hfl _ (Ev.bind o2 (zr.1 hz))), hI _ (iF.1 hfl _ (Ev.bind o3 (Ev.bind m1 (Ev.const ?_)))), ?_⟩
        · rw [hmz.2 hz]; rfl
        · refine ⟨fun _ => ⟨pt, pf, hlen, fun i hi => hfl i (by omega) hi, oz.1 fun q hq => hz q (by omega) (by rw [o1.1.1]; exact hq)⟩, fun _ => rfl⟩
      · refine ⟨false, hS _ (sF.1 hfl _ (Ev.bind o2 (zr.2 hz))), hI _ (iF.1 hfl _ (Ev.bind o3 (Ev.bind m1 (Ev.const ?_)))), ?_⟩
        · have : ¬ m = 0 := fun e => hz (hmz.1 e)
          simp [this]
        · exact ⟨fun h => (by cases h), fun h => absurd (fun q _ hq => oz.2 h.2.2.2.2 q (by rw [← o1.1.1]; exact hq)) hz⟩
    · exact ⟨false, hS _ (sF.2 hfl), hI _ (iF.2 hfl), ⟨fun h => (by cases h), fun h => absurd (fun q _ hq => h.2.2.2.1 q hq) hfl⟩⟩
  · have hc : c = false := by
      cases c with
      | false => rfl
      | true => exact absurd (c2.1 rfl) hall
    subst hc; refine ⟨false, ?_, ?_, ⟨fun h => (by cases h), fun h => absurd ⟨h.1, h.2.1, h.2.2.1⟩ hall⟩⟩
    · unfold spec_MapValid.f
      exact Ev.bind c1 (Ev.const rfl)
    · have hj : Ev (fun k => impl_MapValid.j0 k true t f) false := by
        refine Ev.s ?_; simp only [impl_MapValid.j0, if_true]; exact Ev.const rfl
      unfold impl_MapValid.f
      refine Ev.bind t2 ?_
      cases bt with
      | false => simp only [Bool.false_eq_true, if_false]; exact hj
      | true =>
        simp only [if_true]; refine Ev.bind f2 ?_
        cases bf with
        | false => simp only [Bool.false_eq_true, if_false]; exact hj
        | true =>
          have hne : (((t.length : Int)) != (f.length : Int)) = true := by
            rw [bne_iff_ne]; intro e; exact hall ⟨t3.1 rfl, f3.1 rfl, by omega⟩
          simp only [if_true, hne]; exact hj
def edL (f : List Int) : Nat → List Int
  | 0 => []
  | i + 1 => if (i : Int) < rd f i then edL f i ++ [(i : Int)] else edL f i
def geL (f : List Int) (n : Nat) : Nat → List Int
  | 0 => List.replicate n 0
  | i + 1 => if (i : Int) < rd f i then ((geL f n i).set i ((edL f i).length : Int)).set (rd f i).toNat ((edL f i).length : Int) else geL f n i
theorem edL_le (f : List Int) : ∀ i, (edL f i).length ≤ i
  | 0 => Nat.le_refl _
  | i + 1 => by
    have ih := edL_le f i; simp only [edL]
    split
    · simp only [List.length_append, List.length_cons, List.length_nil]; omega
    · omega
theorem geL_len (f : List Int) (n : Nat) : ∀ i, (geL f n i).length = n
  | 0 => by simp [geL]
  | i + 1 => by
    simp only [geL]
    split
    · simp [geL_len f n i]
    · exact geL_len f n i
theorem implEdges_run (n : Nat) (hn : n ≤ 1048576) (f : List Int) (hf : inR n f) : ∀ (d i : Nat), n - i = d → i ≤ n → Ev (fun k => impl_edgesOf.l0 k (edL f i) f n i) (edL f n)
  | 0, i, hd, hi => by
    have : i = n := by omega
    subst this; refine Ev.s ?_; simp only [impl_edgesOf.l0, show ¬ (i : Int) < (i : Int) by omega, if_false]; exact Ev.const rfl
  | d + 1, i, hd, hi => by
    have ih := implEdges_run n hn f hf d (i + 1) (by omega) (by omega); have h1 := edL_le f i; refine Ev.s ?_; simp only [impl_edgesOf.l0, hf.1, show (i : Int) < (n : Int) by omega, show (0 : Int) ≤ (i : Int) by omega, show (edL f i).length < 17592186044416 by omega, if_true]; rw [w64n (by omega)]; simp only [edL] at ih
    by_cases e : (i : Int) < rd f i
    · simp only [e, if_true] at ih ⊢; exact ih
    · simp only [e, if_false] at ih ⊢; exact ih
theorem implEdges_ev (n : Nat) (hn : n ≤ 1048576) (t f : List Int) (hf : inR n f) : Ev (fun k => impl_edgesOf.f k t f) (edL f n) := by
  unfold impl_edgesOf.f
  rw [hf.1]; exact implEdges_run n hn f hf n 0 (by omega) (by omega)
theorem specEdges_run (n : Nat) (hn : n ≤ 1048576) (t f : List Int) (hf : inR n f) : ∀ (d i : Nat), n - i = d → i ≤ n → Ev (fun k => spec_l7Edges.l0 k (geL f n i) ((edL f i).length : Int) i t f) (geL f n n)
  | 0, i, hd, hi => by
    have : i = n := by omega
    subst this; refine Ev.s ?_; simp only [spec_l7Edges.l0, geL_len, show ¬ (i : Int) < (i : Int) by omega, if_false]; exact Ev.const rfl
  | d + 1, i, hd, hi => by
    have ih := specEdges_run n hn t f hf d (i + 1) (by omega) (by omega); have h1 := edL_le f i; have h2 := hf.2 i (by omega); refine Ev.s ?_; simp only [spec_l7Edges.l0, geL_len, hf.1, show (i : Int) < (n : Int) by omega, show (0 : Int) ≤ (i : Int) by omega, h2.1, h2.2, if_true, Int.toNat_natCast]; rw [w64n (by omega), w64n (i := i) (by omega)]; simp only [edL, geL] at ih
    by_cases e : (i : Int) < rd f i
    · simp only [e, if_true, List.length_append, List.length_cons, List.length_nil] at ih ⊢; exact ih
    · simp only [e, if_false] at ih ⊢; exact ih
theorem specEdges_ev (n : Nat) (hn : n ≤ 1048576) (t f : List Int) (hf : inR n f) : Ev (fun k => spec_l7Edges.f k t f) (geL f n n) := by
  unfold spec_l7Edges.f
  have h1 : n ≤ 35184372088832 := by omega
  have h2 : (0 : Int) ≤ (n : Int) := by omega
  simp only [hf.1, Int.toNat_natCast, h1, h2, if_true]; exact specEdges_run n hn t f hf n 0 (by omega) (by omega)
def least (f : List Int) (d : Nat) : Nat := if (d : Int) < rd f d then d else (rd f d).toNat
theorem edL_lt (f : List Int) (m : Nat) (hm : (m : Int) < rd f m) : ∀ n, m < n → (edL f m).length < (edL f n).length
  | n + 1, h => by
    simp only [edL]
    by_cases e : m = n
    · subst e
      simp only [hm, if_true, List.length_append, List.length_cons, List.length_nil]; omega
    · have ih := edL_lt f m hm n (by omega)
      split
      · simp only [List.length_append, List.length_cons, List.length_nil]; omega
      · exact ih
theorem edL_at (f : List Int) (m : Nat) (hm : (m : Int) < rd f m) : ∀ n, m < n → rd (edL f n) ((edL f m).length : Int) = m
  | n + 1, h => by
    simp only [edL]
    by_cases e : m = n
    · subst e
      simp only [hm, if_true]; rw [rd_lt _ _ (by simp), List.getElem_append_right (Nat.le_refl _)]
      simp
    · have ih := edL_at f m hm n (by omega)
      split
      · rw [rd_app_lt _ _ _ (edL_lt f m hm n (by omega))]; exact ih
      · exact ih
theorem least_lt (f : List Int) (n : Nat) (hf : inR n f) (hfl : ∀ i : Nat, i < n → flipAt f i) (d : Nat) (hd : d < n) : least f d < n ∧ (least f d : Int) < rd f (least f d) := by
  have h1 := hf.2 d hd; obtain ⟨h2, h3⟩ := hfl d hd
  unfold least
  split
  · exact ⟨hd, by assumption⟩
  · refine ⟨by omega, ?_⟩
    rw [show (((rd f d).toNat : Nat) : Int) = rd f d by omega, h3]; omega
theorem geL_at (f : List Int) (n : Nat) (hf : inR n f) (hfl : ∀ i : Nat, i < n → flipAt f i) : ∀ i, i ≤ n → ∀ d : Nat, d < n → least f d < i → rd (geL f n i) d = ((edL f (least f d)).length : Int)
  | i + 1, hi, d, hd, h => by
    have ih := geL_at f n hf hfl i (by omega) d hd; have hl := geL_len f n i; have h1 := hf.2 d hd; obtain ⟨h2, h3⟩ := hfl d hd; have g1 := hf.2 i (by omega); obtain ⟨g2, g3⟩ := hfl i (by omega); have hll := least_lt f n hf hfl d hd; simp only [geL]
    by_cases e : least f d = i
    · rw [e] at hll
      simp only [hll.2, if_true]; rw [e]
      by_cases e2 : d = (rd f i).toNat
      · subst e2
        rw [rd_set_self _ _ _ (by simp; omega)]
      · have e3 : d = i := by
          unfold least at e
          split at e
          · exact e
          · exfalso
            apply e2
            rw [show (i : Int) = rd f d by omega, h3]; omega
        rw [rd_set_ne _ _ _ _ (fun h => e2 h.symm)]; subst e3; rw [rd_set_self _ _ _ (by omega)]
    · have ih' := ih (by omega)
      by_cases c : (i : Int) < rd f i
      · simp only [c, if_true]
        have n1 : (rd f i).toNat ≠ d := by
          intro h
          apply e
          have hd' : rd f i = d := by omega
          have : rd f d = i := by rw [← hd', g3]
          unfold least
          rw [if_neg (by omega)]; omega
        have n2 : i ≠ d := by
          intro h
          apply e
          subst h
          unfold least
          rw [if_pos c]
        rw [rd_set_ne _ _ _ _ n1, rd_set_ne _ _ _ _ n2]; exact ih'
      · simp only [c, if_false]
        exact ih'
theorem len_le_of_sub : ∀ (a b : List Nat), a.Nodup → (∀ x ∈ a, x ∈ b) → a.length ≤ b.length
  | [], b, _, _ => Nat.zero_le _
  | x :: a, b, hn, h => by
    have hx := h x (by simp); obtain ⟨hxa, hna⟩ := List.nodup_cons.1 hn
    have ih := len_le_of_sub a (b.erase x) hna fun y hy => (List.mem_erase_of_ne (by rintro rfl; exact hxa hy)).2 (h y (by simp [hy]))
    rw [List.length_erase_of_mem hx] at ih; have := List.length_pos_of_mem hx; simp only [List.length_cons]; omega
theorem edL_filter (f : List Int) : ∀ n, (edL f n).length = ((List.range n).filter fun (i : Nat) => decide ((i : Int) < rd f i)).length
  | 0 => rfl
  | n + 1 => by
    rw [List.range_succ, List.filter_append, List.length_append, ← edL_filter f n]; simp only [edL]
    by_cases e : (n : Int) < rd f n <;> simp [e]
theorem edL_half (f : List Int) (n : Nat) (hf : inR n f) (hfl : ∀ i : Nat, i < n → flipAt f i) : 2 * (edL f n).length = n := by
  rw [edL_filter]; have hA := List.length_eq_countP_add_countP (fun (i : Nat) => decide ((i : Int) < rd f i)) (l := List.range n); rw [List.countP_eq_length_filter, List.countP_eq_length_filter, List.length_range] at hA
  have sub : ∀ (P Q : Nat → Bool), (∀ i, i < n → P i = true → Q (rd f i).toNat = true) → ((List.range n).filter P).length ≤ ((List.range n).filter Q).length := by
    intro P Q h; rw [← List.length_map (f := fun (i : Nat) => (rd f i).toNat)]; refine len_le_of_sub _ _ ?_ ?_
    · rw [List.Nodup, List.pairwise_map]
      refine List.Pairwise.imp_of_mem ?_ ((List.nodup_range (n := n)).filter P); intro a b ha hb hab e; have ha' := List.mem_range.1 (List.mem_filter.1 ha).1; have hb' := List.mem_range.1 (List.mem_filter.1 hb).1; have h1 := hf.2 a ha'; have h2 := hf.2 b hb'
      have e2 : rd f a = rd f b := by omega
      have h3 := (hfl a ha').2; rw [e2, (hfl b hb').2] at h3; omega
    · intro x hx
      obtain ⟨a, ha, rfl⟩ := List.mem_map.1 hx; obtain ⟨ha1, ha2⟩ := List.mem_filter.1 ha; have ha' := List.mem_range.1 ha1; have h1 := hf.2 a ha'; exact List.mem_filter.2 ⟨List.mem_range.2 (by omega), h a ha' ha2⟩
  have back : ∀ i : Nat, i < n → (((rd f i).toNat : Nat) : Int) = rd f i := fun i hi => by have := hf.2 i hi; omega
  have h1 := sub (fun (i : Nat) => decide ((i : Int) < rd f i)) (fun (i : Nat) => decide ¬ decide ((i : Int) < rd f i) = true) (fun i hi h => by
    have h3 := (hfl i hi).2; simp only [decide_eq_true_eq] at h; simp only [back i hi, h3, decide_eq_true_eq]
    omega)
  have h2 := sub (fun (i : Nat) => decide ¬ decide ((i : Int) < rd f i) = true) (fun (i : Nat) => decide ((i : Int) < rd f i)) (fun i hi h => by
    have h3 := hfl i hi; simp only [decide_eq_true_eq] at h; simp only [back i hi, h3.2, decide_eq_true_eq]; have := h3.1
    omega)
  omega
def cw (p : List Int) : Nat → List Bool → List Int → Int → List Bool × List Int
  | 0, s, c, a => (s, c)
  | f + 1, s, c, a => if rdOf false s a = true then (s, c) else cw p f (s.set a.toNat true) (c ++ [a]) (rd p a)
def fresh (s : List Bool) : Nat := s.countP (fun b => !b)
def cyS (p : List Int) (n : Nat) : Nat → List Bool × List (List Int)
  | 0 => (List.replicate n false, [])
  | i + 1 =>
    let q := cw p (n + 1) (cyS p n i).1 [] i
    (q.1, if q.2 = [] then (cyS p n i).2 else (cyS p n i).2 ++ [q.2])
theorem fresh_set : ∀ (s : List Bool) (i : Nat), i < s.length → s.getD i false = false → fresh (s.set i true) + 1 = fresh s
  | b :: s, 0, _, h => by
    simp only [List.getD_cons_zero] at h; subst h
    simp [fresh]
  | b :: s, i + 1, hi, h => by
    simp only [List.getD_cons_succ] at h; have ih := fresh_set s i (by simpa using hi) h; simp only [fresh, List.set_cons_succ, List.countP_cons] at ih ⊢; omega
theorem rdOf_nat (s : List Bool) (a : Int) (h0 : 0 ≤ a) : rdOf false s a = s.getD a.toNat false := by
  unfold rdOf
  rfl
theorem cw_len (p : List Int) : ∀ (f : Nat) (s : List Bool) (c : List Int) (a : Int), (cw p f s c a).1.length = s.length
  | 0, s, c, a => rfl
  | f + 1, s, c, a => by
    simp only [cw]
    split
    · rfl
    · rw [cw_len p f]; simp
theorem spec_cw (p : List Int) (n : Nat) (hn : n ≤ 1048576) (hp : inR n p) (L : List (List Int)) (hL : L.length ≤ 1048576) (i : Int) (r : List (List Int)) : ∀ (f : Nat) (s : List Bool) (c : List Int) (a : Int), s.length = n → 0 ≤ a → a < n → fresh s < f → c.length + fresh s ≤ 1048577 →
    Ev (fun k => spec_l1Cycles.l0 k p (L ++ [(cw p f s c a).2]) (cw p f s c a).1 (wrap64 (i + 1))) r → Ev (fun k => spec_l1Cycles.l1 k p L s i c a) r
  | 0, s, c, a, hs, h0, h1, hf, hc, h => absurd hf (Nat.not_lt_zero _)
  | f + 1, s, c, a, hs, h0, h1, hf, hc, h => by
    refine Ev.s ?_; simp only [cw] at h
    have hL' : L.length < 5864062014805 := by omega
    have hc' : c.length < 17592186044416 := by omega
    simp only [spec_l1Cycles.l1, h0, hs, h1, hp.1, hL', hc', if_true]
    by_cases e : rdOf false s a = true
    · simp only [e, if_true] at h ⊢
      exact h
    · simp only [e, if_false] at h ⊢
      have h3 : s.getD a.toNat false = false := by rw [← rdOf_nat s a h0]; simpa using e
      have h4 := fresh_set s a.toNat (by omega) h3; have h5 := hp.2 a.toNat (by omega); rw [show ((a.toNat : Nat) : Int) = a by omega] at h5; exact spec_cw p n hn hp L hL i r f _ _ _ (by simpa using hs) h5.1 h5.2 (by omega) (by simp only [List.length_append, List.length_cons, List.length_nil]; omega) h
theorem impl_cw (p : List Int) (n : Nat) (hn : n ≤ 1048576) (hp : inR n p) (L : List (List Int)) (hL : L.length ≤ 1048576) (m i : Int) (r : List (List Int)) : ∀ (f : Nat) (s : List Bool) (c : List Int) (a : Int), s.length = n → 0 ≤ a → a < n → fresh s < f → c.length + fresh s ≤ 1048577 →
    Ev (fun k => impl_cyclesOf.l0 k p (if (cw p f s c a).2 = [] then L else L ++ [(cw p f s c a).2]) (cw p f s c a).1 m (wrap64 (i + 1))) r → Ev (fun k => impl_cyclesOf.l1 k p L s c a m i) r
  | 0, s, c, a, hs, h0, h1, hf, hc, h => absurd hf (Nat.not_lt_zero _)
  | f + 1, s, c, a, hs, h0, h1, hf, hc, h => by
    refine Ev.s ?_; simp only [cw] at h
    have hL' : L.length < 5864062014805 := by omega
    have hc' : c.length < 17592186044416 := by omega
    simp only [impl_cyclesOf.l1, h0, hs, h1, hp.1, hL', hc', if_true]
    by_cases e : rdOf false s a = true
    · simp only [e, if_true] at h ⊢
      cases c with
      | nil => simpa using h
      | cons b c => simpa using h
    · simp only [e, if_false] at h ⊢
      have h3 : s.getD a.toNat false = false := by rw [← rdOf_nat s a h0]; simpa using e
      have h4 := fresh_set s a.toNat (by omega) h3; have h5 := hp.2 a.toNat (by omega); rw [show ((a.toNat : Nat) : Int) = a by omega] at h5; exact impl_cw p n hn hp L hL m i r f _ _ _ (by simpa using hs) h5.1 h5.2 (by omega) (by simp only [List.length_append, List.length_cons, List.length_nil]; omega) h
theorem fresh_le (s : List Bool) : fresh s ≤ s.length := List.countP_le_length
theorem cyS_len (p : List Int) (n : Nat) : ∀ i, (cyS p n i).1.length = n
  | 0 => by simp [cyS]
  | i + 1 => by simp only [cyS]; rw [cw_len, cyS_len p n i]
theorem cyS_many (p : List Int) (n : Nat) : ∀ i, (cyS p n i).2.length ≤ i
  | 0 => by simp [cyS]
  | i + 1 => by
    have ih := cyS_many p n i; simp only [cyS]
    split
    · omega
    · simp only [List.length_append, List.length_cons, List.length_nil]; omega
theorem cw_seen (p : List Int) (f : Nat) (s : List Bool) (c : List Int) (a : Int) (h : rdOf false s a = true) : cw p f s c a = (s, c) := by
  cases f with
  | zero => rfl
  | succ f => simp only [cw, h, if_true]
theorem cw_more (p : List Int) : ∀ (f : Nat) (s : List Bool) (c : List Int) (a : Int), c.length ≤ (cw p f s c a).2.length
  | 0, s, c, a => Nat.le_refl _
  | f + 1, s, c, a => by
    simp only [cw]
    split
    · exact Nat.le_refl _
    · have := cw_more p f (s.set a.toNat true) (c ++ [a]) (rd p a)
      simp only [List.length_append, List.length_cons, List.length_nil] at this; omega
theorem cw_new (p : List Int) (f : Nat) (s : List Bool) (a : Int) (h : ¬ rdOf false s a = true) : (cw p (f + 1) s [] a).2 ≠ [] := by
  simp only [cw, h, Bool.false_eq_true, if_false]; intro e; have := cw_more p f (s.set a.toNat true) ([] ++ [a]) (rd p a); rw [e] at this
  simp at this
theorem specCyc_run (p : List Int) (n : Nat) (hn : n ≤ 1048575) (hp : inR n p) : ∀ (d i : Nat), n - i = d → i ≤ n → Ev (fun k => spec_l1Cycles.l0 k p (cyS p n i).2 (cyS p n i).1 i) (cyS p n n).2
  | 0, i, hd, hi => by
    have : i = n := by omega
    subst this; refine Ev.s ?_; simp only [spec_l1Cycles.l0, hp.1, show ¬ (i : Int) < (i : Int) by omega, if_false]; exact Ev.const rfl
  | d + 1, i, hd, hi => by
    have ih := specCyc_run p n hn hp d (i + 1) (by omega) (by omega); have hl := cyS_len p n i; have hm := cyS_many p n i; have hf := fresh_le (cyS p n i).1
    have h1 : (i : Int) < (n : Int) := by omega
    have h0 : (0 : Int) ≤ (i : Int) := by omega
    refine Ev.s ?_; simp only [spec_l1Cycles.l0, hp.1, hl, h1, h0, if_true]
    by_cases e : rdOf false (cyS p n i).1 (i : Int) = true
    · simp only [e, if_true]
      rw [w64n (by omega)]; simp only [cyS, cw_seen p (n + 1) (cyS p n i).1 [] i e, if_true] at ih; exact ih
    · simp only [e, if_false]
      refine spec_cw p n (by omega) hp _ (by omega) i _ (n + 1) _ _ _ hl h0 h1 (by omega) (by simp only [List.length_nil]; omega) ?_; rw [w64n (by omega)]; simp only [cyS, cw_new p n (cyS p n i).1 i e, if_false] at ih; exact ih
theorem implCyc_run (p : List Int) (n : Nat) (hn : n ≤ 1048575) (hp : inR n p) : ∀ (d i : Nat), n - i = d → i ≤ n → Ev (fun k => impl_cyclesOf.l0 k p (cyS p n i).2 (cyS p n i).1 n i) (cyS p n n).2
  | 0, i, hd, hi => by
    have : i = n := by omega
    subst this; refine Ev.s ?_; simp only [impl_cyclesOf.l0, show ¬ (i : Int) < (i : Int) by omega, if_false]; exact Ev.const rfl
  | d + 1, i, hd, hi => by
    have ih := implCyc_run p n hn hp d (i + 1) (by omega) (by omega); have hl := cyS_len p n i; have hm := cyS_many p n i; have hf := fresh_le (cyS p n i).1
    have h1 : (i : Int) < (n : Int) := by omega
    have h0 : (0 : Int) ≤ (i : Int) := by omega
    refine Ev.s ?_; simp only [impl_cyclesOf.l0, h1, if_true]; refine impl_cw p n (by omega) hp _ (by omega) n i _ (n + 1) _ _ _ hl h0 h1 (by omega) (by simp only [List.length_nil]; omega) ?_; rw [w64n (by omega)]; simp only [cyS] at ih; exact ih
theorem specCyc_ev (p : List Int) (n : Nat) (hn : n ≤ 1048575) (hp : inR n p) : Ev (fun k => spec_l1Cycles.f k p) (cyS p n n).2 := by
  unfold spec_l1Cycles.f
  have h1 : n ≤ 281474976710656 := by omega
  have h2 : (0 : Int) ≤ (n : Int) := by omega
  simp only [hp.1, Int.toNat_natCast, h1, h2, if_true]; exact specCyc_run p n hn hp n 0 (by omega) (by omega)
theorem implCyc_ev (p : List Int) (n : Nat) (hn : n ≤ 1048575) (hp : inR n p) : Ev (fun k => impl_cyclesOf.f k p) (cyS p n n).2 := by
  unfold impl_cyclesOf.f
  have h1 : n ≤ 281474976710656 := by omega
  have h2 : (0 : Int) ≤ (n : Int) := by omega
  simp only [hp.1, Int.toNat_natCast, h1, h2, if_true]; exact implCyc_run p n hn hp n 0 (by omega) (by omega)
def ahead (c : List Int) (i : Nat) : Int := if i = 0 then -1 else rd c ((i - 1 : Nat) : Int)
def ascAt (c : List Int) (m : Int) (i : Nat) : Prop := ahead c i < rd c i ∧ rd c i < m
def isChoice (c : List Int) (m : Int) : Prop := ∀ i : Nat, i < c.length → ascAt c m i
theorem ahead_zero (c : List Int) : ahead c 0 = -1 := by unfold ahead; rw [if_pos rfl]
theorem ahead_succ (c : List Int) (i : Nat) : ahead c (i + 1) = rd c i := by unfold ahead; rw [if_neg (by omega), Nat.add_sub_cancel]
theorem asc_nonneg (c : List Int) (m : Int) : ∀ i : Nat, (∀ j : Nat, j < i → ascAt c m j) → -1 ≤ ahead c i ∧ (ahead c i = -1 ∨ ahead c i < m)
  | 0, _ => by rw [ahead_zero]; omega
  | i + 1, h => by
    have h1 := h i (Nat.lt_succ_self i); have h2 := (asc_nonneg c m i fun j hj => h j (by omega)).1
    unfold ascAt at h1
    rw [ahead_succ]; omega
theorem specChoice_run (t f c : List Int) (m : Int) (hm : (f.length : Int) / 2 = m) (m0 : 0 ≤ m) (m1 : m ≤ 1048576) (hc : c.length ≤ 1048576) : ∀ (d i : Nat), c.length - i = d → i ≤ c.length → (∀ j : Nat, j < i → ascAt c m j) →
    ((∀ q : Nat, i ≤ q → q < c.length → ascAt c m q) → ∀ r, Ev (fun k => spec_MapValid.f k t f) r → Ev (fun k => spec_ChoiceValid.l0 k c (ahead c i) i t f) r) ∧ (¬ (∀ q : Nat, i ≤ q → q < c.length → ascAt c m q) → Ev (fun k => spec_ChoiceValid.l0 k c (ahead c i) i t f) false)
  | 0, i, hd, hi, hp => by
    refine ⟨fun _ r h => Ev.s ?_, fun h => absurd (fun q h1 h2 => by omega) h⟩; simp only [spec_ChoiceValid.l0, show ¬ (i : Int) < (c.length : Int) by omega, if_false]; exact Ev.bind h (Ev.const rfl)
  | d + 1, i, hd, hi, hp => by
    have hlt : i < c.length := by omega
    have hd1 : c.length - (i + 1) = d := by omega
    obtain ⟨p1, p2⟩ := asc_nonneg c _ i hp
    have hA : ascAt c m i ↔ (ahead c i + 1 ≤ rd c i ∧ rd c i ≤ m - 1) := by unfold ascAt; omega
    have w1 : -9223372036854775808 ≤ ahead c i + 1 ∧ ahead c i + 1 < 9223372036854775808 := by omega
    have w2 : -9223372036854775808 ≤ m ∧ m < 9223372036854775808 := by omega
    have w3 : -9223372036854775808 ≤ m - 1 ∧ m - 1 < 9223372036854775808 := by omega
    have w4 : i < 4611686018427387904 := by omega
    have g1 : (i : Int) < (c.length : Int) := by omega
    have g2 : (0 : Int) ≤ (i : Int) := by omega
    by_cases h : ascAt c m i
    · have hin := hA.1 h
      have ih := specChoice_run t f c m hm m0 m1 hc d (i + 1) hd1 hlt (fun j hj => by
        by_cases e : j = i
        · rw [e]; exact h
        · exact hp j (by omega))
      rw [ahead_succ] at ih; refine ⟨fun ha r hr => Ev.s ?_, fun ha => Ev.s ?_⟩
      · simp only [spec_ChoiceValid.l0, g1, g2, if_true, hm, w64r w1, w64r w2, w64r w3, w64n w4, l6In_eq, Option.bind_some, hin, decide_true, and_self]
        exact ih.1 (fun q h1 h2 => ha q (by omega) h2) r hr
      · simp only [spec_ChoiceValid.l0, g1, g2, if_true, hm, w64r w1, w64r w2, w64r w3, w64n w4, l6In_eq, Option.bind_some, hin, decide_true, and_self]
        refine ih.2 fun h' => ha fun q h1 h2 => ?_
        by_cases e : q = i
        · rw [e]; exact h
        · exact h' q (by omega) h2
    · have hin : ¬ (ahead c i + 1 ≤ rd c i ∧ rd c i ≤ m - 1) := fun z => h (hA.2 z)
      refine ⟨fun ha => absurd (ha i (Nat.le_refl _) hlt) h, fun ha => Ev.s ?_⟩; simp only [spec_ChoiceValid.l0, g1, g2, if_true, hm, w64r w1, w64r w2, w64r w3, w64n w4, l6In_eq, Option.bind_some, hin, decide_false, Bool.false_eq_true, if_false]; exact Ev.const rfl
theorem implChoice_run (t f c : List Int) (m : Int) (hm : (f.length : Int) / 2 = m) (m0 : 0 ≤ m) (m1 : m ≤ 1048576) (hc : c.length ≤ 1048576) : ∀ (d i : Nat), c.length - i = d → i ≤ c.length → (∀ j : Nat, j < i → ascAt c m j) →
    ((∀ q : Nat, i ≤ q → q < c.length → ascAt c m q) → Ev (fun k => impl_ChoiceValid.l0 k c c c.length i t f) true) ∧ (¬ (∀ q : Nat, i ≤ q → q < c.length → ascAt c m q) → Ev (fun k => impl_ChoiceValid.l0 k c c c.length i t f) false)
  | 0, i, hd, hi, hp => by
    refine ⟨fun _ => Ev.s ?_, fun h => absurd (fun q h1 h2 => by omega) h⟩; simp only [impl_ChoiceValid.l0, show ¬ (i : Int) < (c.length : Int) by omega, if_false]; exact Ev.const rfl
  | d + 1, i, hd, hi, hp => by
    have hlt : i < c.length := by omega
    have hd1 : c.length - (i + 1) = d := by omega
    obtain ⟨p1, p2⟩ := asc_nonneg c _ i hp
    have w2 : -9223372036854775808 ≤ m ∧ m < 9223372036854775808 := by omega
    have w4 : i < 4611686018427387904 := by omega
    have g1 : (i : Int) < (c.length : Int) := by omega
    have g2 : (0 : Int) ≤ (i : Int) := by omega
    have hA1 : ascAt c m i → 0 ≤ rd c i ∧ rd c i < m := by unfold ascAt; omega
    by_cases k1 : rd c i < 0
    · refine ⟨fun ha => absurd (hA1 (ha i (Nat.le_refl _) hlt)) (by omega), fun ha => Ev.s ?_⟩
      simp only [impl_ChoiceValid.l0, g1, g2, k1, if_true]; exact Ev.const rfl
    · by_cases k2 : rd c i ≥ m
      · refine ⟨fun ha => absurd (hA1 (ha i (Nat.le_refl _) hlt)) (by omega), fun ha => Ev.s ?_⟩
        simp only [impl_ChoiceValid.l0, g1, g2, k1, k2, hm, w64r w2, if_true, if_false]; exact Ev.const rfl
      · have ih := fun h => implChoice_run t f c m hm m0 m1 hc d (i + 1) hd1 hlt (fun j hj => by
          by_cases e : j = i
          · rw [e]; exact h
          · exact hp j (by omega))
        cases i with
        | zero =>
          have h : ascAt c m 0 := by unfold ascAt; rw [ahead_zero]; omega
          have k3 : ¬ (((0 : Nat) : Int) > 0) := by omega
          refine ⟨fun ha => Ev.s ?_, fun ha => Ev.s ?_⟩
          · simp only [impl_ChoiceValid.l0, g1, g2, k1, k2, k3, hm, w64r w2, w64n w4, if_true, if_false]
            exact (ih h).1 fun q h1 h2 => ha q (by omega) h2
          · simp only [impl_ChoiceValid.l0, g1, g2, k1, k2, k3, hm, w64r w2, w64n w4, if_true, if_false]
            refine (ih h).2 fun h' => ha fun q h1 h2 => ?_
            by_cases e : q = 0
            · rw [e]; exact h
            · exact h' q (by omega) h2
        | succ i =>
          have k3 : (((i + 1 : Nat) : Int) > 0) := by omega
          have w5 : -9223372036854775808 ≤ (i : Int) ∧ (i : Int) < 9223372036854775808 := by omega
          have w6 : (((i + 1 : Nat) : Int) - 1) = (i : Int) := by omega
          have g3 : (0 : Int) ≤ (i : Int) := by omega
          have g4 : (i : Int) < (c.length : Int) := by omega
          by_cases k4 : rd c ((i + 1 : Nat) : Int) ≤ rd c (i : Int)
          · refine ⟨fun ha => absurd (ha (i + 1) (Nat.le_refl _) hlt) (by unfold ascAt; rw [ahead_succ]; omega), fun ha => Ev.s ?_⟩
            simp only [impl_ChoiceValid.l0, g1, g2, g3, g4, k1, k2, k3, k4, hm, w64r w2, w64r w5, w6, if_true, if_false]; exact Ev.const rfl
          · have h : ascAt c m (i + 1) := by unfold ascAt; rw [ahead_succ]; omega
            refine ⟨fun ha => Ev.s ?_, fun ha => Ev.s ?_⟩
            · simp only [impl_ChoiceValid.l0, g1, g2, g3, g4, k1, k2, k3, k4, hm, w64r w2, w64n w4, w64r w5, w6, if_true, if_false]
              exact (ih h).1 fun q h1 h2 => ha q (by omega) h2
            · simp only [impl_ChoiceValid.l0, g1, g2, g3, g4, k1, k2, k3, k4, hm, w64r w2, w64n w4, w64r w5, w6, if_true, if_false]
              refine (ih h).2 fun h' => ha fun q h1 h2 => ?_
              by_cases e : q = i + 1
              · rw [e]; exact h
              · exact h' q (by omega) h2
theorem choiceValid_both (t f c : List Int) (ht : t.length ≤ 1048576) (hf : f.length ≤ 1048576) (hc : c.length ≤ 1048576) : ∃ b : Bool, Ev (fun k => spec_ChoiceValid.f k t f c) b ∧ Ev (fun k => impl_ChoiceValid.f k t f c) b ∧ (b = true ↔ isMap t f ∧ isChoice c ((f.length : Int) / 2)) := by
  obtain ⟨b, b1, b2, b3⟩ := mapValid_both t f ht hf; have hs := specChoice_run t f c _ rfl (by omega) (by omega) hc c.length 0 (by omega) (by omega) (fun j hj => by omega); have hi := implChoice_run t f c _ rfl (by omega) (by omega) hc c.length 0 (by omega) (by omega) (fun j hj => by omega)
  have e1 : ∀ r, Ev (fun k => spec_ChoiceValid.l0 k c (ahead c 0) ((0 : Nat) : Int) t f) r → Ev (fun k => spec_ChoiceValid.f k t f c) r := fun r h => h
  by_cases ha : ∀ q : Nat, 0 ≤ q → q < c.length → ascAt c ((f.length : Int) / 2) q
  · refine ⟨b, e1 _ (hs.1 ha b b1), ?_, ?_⟩
    · unfold impl_ChoiceValid.f
      refine Ev.bind b2 ?_
      cases b with
      | false => simp only [Bool.false_eq_true, if_false]; exact Ev.const rfl
      | true => simp only [if_true]; exact hi.1 ha
    · rw [b3]
      exact ⟨fun h => ⟨h, fun i hi' => ha i (by omega) hi'⟩, fun h => h.1⟩
  · refine ⟨false, e1 _ (hs.2 ha), ?_, ⟨fun h => (by cases h), fun h => absurd (fun q _ hq => h.2 q hq) ha⟩⟩
    unfold impl_ChoiceValid.f
    refine Ev.bind b2 ?_
    cases b with
    | false => simp only [Bool.false_eq_true, if_false]; exact Ev.const rfl
    | true => simp only [if_true]; exact hi.2 ha
theorem has_run (c : List Int) (hc : c.length ≤ 1048576) (x : Int) : ∀ (d i : Nat), c.length - i = d → i ≤ c.length → Ev (fun k => spec_l7Has.l0 k c x i) (decide (x ∈ c.drop i))
  | 0, i, hd, hi => by
    refine Ev.s ?_; simp only [spec_l7Has.l0, show ¬ (i : Int) < (c.length : Int) by omega, if_false]; rw [List.drop_eq_nil_of_le (by omega)]; exact Ev.const (by simp)
  | d + 1, i, hd, hi => by
    have hlt : i < c.length := by omega
    refine Ev.s ?_; simp only [spec_l7Has.l0, show (i : Int) < (c.length : Int) by omega, show (0 : Int) ≤ (i : Int) by omega, if_true, w64n (show i < 4611686018427387904 by omega)]; rw [List.drop_eq_getElem_cons hlt]; have e := rd_lt c i hlt
    by_cases h : rd c i = x
    · simp only [h, if_true]
      exact Ev.const (by rw [decide_eq_true]; rw [← h, e]; exact List.mem_cons_self)
    · simp only [h, if_false]
      have := has_run c hc x d (i + 1) (by omega) (by omega)
      have e2 : decide (x ∈ c[i] :: c.drop (i + 1)) = decide (x ∈ c.drop (i + 1)) := by
        rw [Bool.eq_iff_iff, decide_eq_true_eq, decide_eq_true_eq, List.mem_cons]; exact ⟨fun z => z.elim (fun y => absurd (by rw [e, y]) h) id, .inr⟩
      rw [e2]; exact this
theorem has_ev (c : List Int) (hc : c.length ≤ 1048576) (x : Int) : Ev (fun k => spec_l7Has.f k c x) (decide (x ∈ c)) := has_run c hc x c.length 0 (by omega) (by omega)
theorem index_run (c : List Int) (hc : c.length ≤ 1048576) (x : Int) : ∀ (d i : Nat), c.length - i = d → i ≤ c.length → ∃ v : Int, Ev (fun k => slices_Index_int_int.l0 k c x c.length i) v ∧ (v ≥ 0 ↔ x ∈ c.drop i)
  | 0, i, hd, hi => by
    refine ⟨-1, Ev.s ?_, ?_⟩
    · simp only [slices_Index_int_int.l0, show ¬ (i : Int) < (c.length : Int) by omega, if_false]
      exact Ev.const rfl
    · rw [List.drop_eq_nil_of_le (by omega)]
      simp
  | d + 1, i, hd, hi => by
    have hlt : i < c.length := by omega
    have e := rd_lt c i hlt
    by_cases h : x = rd c i
    · refine ⟨i, Ev.s ?_, ?_⟩
      · simp only [slices_Index_int_int.l0, show (i : Int) < (c.length : Int) by omega, show (0 : Int) ≤ (i : Int) by omega, if_true]
        rw [← h]; simp only [if_true]; exact Ev.const rfl
      · rw [List.drop_eq_getElem_cons hlt, ← e, ← h]
        exact ⟨fun _ => List.mem_cons_self, fun _ => by omega⟩
    · obtain ⟨v, v1, v2⟩ := index_run c hc x d (i + 1) (by omega) (by omega)
      refine ⟨v, Ev.s ?_, ?_⟩
      · simp only [slices_Index_int_int.l0, show (i : Int) < (c.length : Int) by omega, show (0 : Int) ≤ (i : Int) by omega, if_true, h, if_false, w64n (show i < 4611686018427387904 by omega)]
        exact v1
      · rw [v2, List.drop_eq_getElem_cons hlt, List.mem_cons]
        exact ⟨.inr, fun z => z.elim (fun y => absurd (by rw [e, y]) h) id⟩
theorem contains_ev (c : List Int) (hc : c.length ≤ 1048576) (x : Int) : Ev (fun k => slices_Contains_int_int.f k c x) (decide (x ∈ c)) := by
  obtain ⟨v, v1, v2⟩ := index_run c hc x c.length 0 (by omega) (by omega)
  unfold slices_Contains_int_int.f slices_Index_int_int.f
  refine Ev.bind v1 (Ev.const ?_); rw [List.drop_zero] at v2
  congr 1
  rw [Bool.eq_iff_iff, decide_eq_true_eq, decide_eq_true_eq]; exact v2
def restL (c : List Int) (m : Nat) : List Int := ((List.range m).filter fun (i : Nat) => !decide ((i : Int) ∈ c)).map fun (i : Nat) => (i : Int)
theorem restL_succ (c : List Int) (m : Nat) : restL c (m + 1) = if (m : Int) ∈ c then restL c m else restL c m ++ [(m : Int)] := by
  unfold restL
  rw [List.range_succ, List.filter_append]
  by_cases h : (m : Int) ∈ c <;> simp [h]
theorem restL_len (c : List Int) (m : Nat) : (restL c m).length ≤ m := by
  unfold restL
  rw [List.length_map]; have := List.length_filter_le (fun (i : Nat) => !decide ((i : Int) ∈ c)) (List.range m)
  rwa [List.length_range] at this
theorem implRest_run (c : List Int) (hc : c.length ≤ 1048576) (m : Nat) (hm : m ≤ 1048576) : ∀ (d i : Nat), m - i = d → i ≤ m → Ev (fun k => impl_ChoiceRest.l0 k c (restL c i) m i) (restL c m, true)
  | 0, i, hd, hi => by
    refine Ev.s ?_; simp only [impl_ChoiceRest.l0, show ¬ (i : Int) < (m : Int) by omega, if_false]
    have : i = m := by omega
    subst this; exact Ev.const rfl
  | d + 1, i, hd, hi => by
    have hl := restL_len c i; have ih := implRest_run c hc m hm d (i + 1) (by omega) (by omega); rw [restL_succ] at ih; refine Ev.s ?_; simp only [impl_ChoiceRest.l0, show (i : Int) < (m : Int) by omega, if_true, w64n (show i < 4611686018427387904 by omega)]; refine Ev.bind (contains_ev c hc i) ?_
    by_cases h : (i : Int) ∈ c
    · simp only [h, decide_true, if_true] at ih ⊢
      exact ih
    · simp only [h, decide_false, Bool.false_eq_true, if_false, show (restL c i).length < 17592186044416 by omega, if_true] at ih ⊢
      exact ih
theorem specRest_run (t f c : List Int) (hc : c.length ≤ 1048576) (m : Nat) (hm : m ≤ 1048576) (hfm : (f.length : Int) / 2 = m) (hv : Ev (fun k => spec_ChoiceValid.f k t f c) true) : ∀ (d i : Nat), m - i = d → i ≤ m → Ev (fun k => spec_ChoiceRest.l0 k c (restL c i) i t f) (restL c m, true)
  | 0, i, hd, hi => by
    have : i = m := by omega
    subst this; refine Ev.s ?_; simp only [spec_ChoiceRest.l0, hfm, w64r (show -9223372036854775808 ≤ (i : Int) ∧ (i : Int) < 9223372036854775808 by omega), show ¬ (i : Int) < (i : Int) by omega, if_false]; refine Ev.s ?_; simp only [spec_ChoiceRest.j1, Bool.false_eq_true, if_false]; exact Ev.bind hv (Ev.const rfl)
  | d + 1, i, hd, hi => by
    have hl := restL_len c i; have ih := specRest_run t f c hc m hm hfm hv d (i + 1) (by omega) (by omega); rw [restL_succ] at ih; refine Ev.s ?_; simp only [spec_ChoiceRest.l0, hfm, w64r (show -9223372036854775808 ≤ (m : Int) ∧ (m : Int) < 9223372036854775808 by omega), show (i : Int) < (m : Int) by omega, if_true]; refine Ev.bind hv ?_; refine Ev.s ?_; simp only [spec_ChoiceRest.j1, if_true, w64n (show i < 4611686018427387904 by omega)]; refine Ev.bind (has_ev c hc i) ?_
    by_cases h : (i : Int) ∈ c
    · simp only [h, decide_true, if_true] at ih ⊢
      exact ih
    · simp only [h, decide_false, Bool.false_eq_true, if_false, show (restL c i).length < 17592186044416 by omega, if_true] at ih ⊢
      exact ih
theorem choiceRest_both (t f c : List Int) (ht : t.length ≤ 1048576) (hf : f.length ≤ 1048576) (hc : c.length ≤ 1048576) : ∃ (r : List Int) (b : Bool), Ev (fun k => spec_ChoiceRest.f k t f c) (r, b) ∧ Ev (fun k => impl_ChoiceRest.f k t f c) (r, b) ∧ r.length ≤ 1048576 ∧ (b = true → r = restL c (f.length / 2) ∧ isMap t f ∧ isChoice c ((f.length : Int) / 2)) ∧ (isMap t f ∧ isChoice c ((f.length : Int) / 2) → b = true) := by
  obtain ⟨b, b1, b2, b3⟩ := choiceValid_both t f c ht hf hc
  have hfm : (f.length : Int) / 2 = ((f.length / 2 : Nat) : Int) := by omega
  have hm : f.length / 2 ≤ 1048576 := by omega
  have hl := restL_len c (f.length / 2)
  cases b with
  | true =>
    refine ⟨restL c (f.length / 2), true, ?_, ?_, by omega, fun _ => ⟨rfl, b3.1 rfl⟩, fun _ => rfl⟩
    · exact specRest_run t f c hc _ hm hfm b1 _ 0 rfl (by omega)
    · unfold impl_ChoiceRest.f
      refine Ev.bind b2 ?_; simp only [if_true, hfm, w64r (show -9223372036854775808 ≤ ((f.length / 2 : Nat) : Int) ∧ ((f.length / 2 : Nat) : Int) < 9223372036854775808 by omega)]; exact implRest_run c hc _ hm _ 0 rfl (by omega)
  | false =>
    refine ⟨[], false, ?_, ?_, by simp, fun h => (by cases h), fun h => b3.2 h⟩
    · unfold spec_ChoiceRest.f
      refine Ev.s ?_; simp only [spec_ChoiceRest.l0, hfm, w64r (show -9223372036854775808 ≤ ((f.length / 2 : Nat) : Int) ∧ ((f.length / 2 : Nat) : Int) < 9223372036854775808 by omega)]
      have hj : Ev (fun k => spec_ChoiceRest.j1 k c [] 0 false t f) ([], false) := by
        refine Ev.s ?_; simp only [spec_ChoiceRest.j1, Bool.false_eq_true, if_false]; exact Ev.bind b1 (Ev.const rfl)
      by_cases h0 : (0 : Int) < ((f.length / 2 : Nat) : Int)
      · simp only [h0, if_true]
        exact Ev.bind b1 hj
      · simp only [h0, if_false]
        exact hj
    · unfold impl_ChoiceRest.f
      refine Ev.bind b2 ?_; simp only [Bool.false_eq_true, if_false]; exact Ev.const rfl
def chB (f : List Int) (n : Nat) (c : List Int) (d : Int) : Bool := decide (rd (geL f n n) d ∈ c)
def flC (f : List Int) (n : Nat) (c : List Int) : List Int := (List.range n).map fun (d : Nat) => if chB f n c (d : Int) = true then rd f (d : Int) else (d : Int)
theorem flC_len (f : List Int) (n : Nat) (c : List Int) : (flC f n c).length = n := by simp [flC]
theorem flC_rd (f : List Int) (n : Nat) (c : List Int) (d : Nat) (h : d < n) : rd (flC f n c) (d : Int) = if chB f n c (d : Int) = true then rd f (d : Int) else (d : Int) := by
  rw [rd_lt _ _ (by simp [flC]; exact h)]
  simp [flC]
theorem flC_inR (f : List Int) (n : Nat) (hf : inR n f) (c : List Int) : inR n (flC f n c) := by
  refine ⟨flC_len f n c, fun i hi => ?_⟩; rw [flC_rd f n c i hi]; have := hf.2 i hi
  split <;> omega
theorem edL_get (f : List Int) : ∀ (n e : Nat), e < (edL f n).length → ∃ a : Nat, a < n ∧ (a : Int) < rd f a ∧ rd (edL f n) (e : Int) = a ∧ (edL f a).length = e
  | 0, e, h => by simp [edL] at h
  | n + 1, e, h => by
    simp only [edL] at h ⊢
    by_cases hc : (n : Int) < rd f n
    · simp only [hc, if_true, List.length_append, List.length_cons, List.length_nil] at h ⊢
      by_cases he : e < (edL f n).length
      · obtain ⟨a, h1, h2, h3, h4⟩ := edL_get f n e he
        exact ⟨a, by omega, h2, by rw [rd_app_lt _ _ _ he]; exact h3, h4⟩
      · have e1 : (edL f n).length = e := by omega
        refine ⟨n, by omega, hc, ?_, e1⟩; rw [rd_lt _ _ (by simp; omega), List.getElem_append_right (by omega)]
        simp [e1]
    · simp only [hc, if_false] at h ⊢
      obtain ⟨a, h1, h2, h3, h4⟩ := edL_get f n e h; exact ⟨a, by omega, h2, h3, h4⟩
theorem edge_at (f : List Int) (n : Nat) (hf : inR n f) (hfl : ∀ i : Nat, i < n → flipAt f i) (e : Nat) (he : e < (edL f n).length) : ∃ a b : Nat, a < n ∧ b < n ∧ a ≠ b ∧ rd (edL f n) (e : Int) = a ∧ rd f a = b ∧ rd f b = a ∧ ∀ d : Nat, d < n → (rd (geL f n n) (d : Int) = e ↔ d = a ∨ d = b) := by
  obtain ⟨a, h1, h2, h3, h4⟩ := edL_get f n e he; have g1 := hf.2 a h1; obtain ⟨g2, g3⟩ := hfl a h1
  have hb : (((rd f a).toNat : Nat) : Int) = rd f a := by omega
  refine ⟨a, (rd f a).toNat, h1, by omega, by omega, h3, hb.symm, by rw [hb]; exact g3, fun d hd => ?_⟩; have l1 := least_lt f n hf hfl d hd; rw [geL_at f n hf hfl n (Nat.le_refl _) d hd l1.1]; have d1 := hf.2 d hd; obtain ⟨d2, d3⟩ := hfl d hd
  constructor
  · intro h
    have i1 := edL_at f (least f d) l1.2 n l1.1; rw [h, h3] at i1
    have i2 : least f d = a := by omega
    unfold least at i2
    split at i2
    · exact .inl i2
    · right
      have : rd f d = a := by omega
      rw [this] at d3; omega
  · rintro (rfl | rfl)
    · rw [show least f d = d from if_pos h2, h4]
    · have : least f (rd f a).toNat = a := by
        unfold least
        rw [hb, g3, if_neg (by omega)]; omega
      rw [this, h4]
theorem take_get (c : List Int) (i : Nat) (h : i < c.length) : c.take (i + 1) = c.take i ++ [rd c i] := by
  rw [List.take_add_one, rd_lt c i h]
  simp [h]
theorem asc_mono (c : List Int) (m : Int) (hc : isChoice c m) : ∀ (i j : Nat), i < c.length → j < i → rd c j < rd c i
  | i + 1, j, hi, hj => by
    have h := (hc (i + 1) hi).1; rw [ahead_succ] at h
    by_cases e : j = i
    · rw [e]; exact h
    · have := asc_mono c m hc i j (by omega) (by omega)
      omega
theorem choice_range (c : List Int) (m : Int) (hc : isChoice c m) (i : Nat) (hi : i < c.length) : 0 ≤ rd c i ∧ rd c i < m := by
  have h := hc i hi; have h2 := asc_nonneg c m i (fun j hj => hc j (by omega))
  unfold ascAt at h
  omega
def itr (t : List Int) : Nat → Int → Int
  | 0, x => x
  | k + 1, x => itr t k (rd t x)
theorem itr_in (t : List Int) (n : Nat) (ht : inR n t) : ∀ (k : Nat) (x : Int), 0 ≤ x ∧ x < n → 0 ≤ itr t k x ∧ itr t k x < n
  | 0, x, h => h
  | k + 1, x, h => by
    have := ht.2 x.toNat (by omega); rw [show ((x.toNat : Nat) : Int) = x by omega] at this; exact itr_in t n ht k _ this
theorem itr_add (t : List Int) : ∀ (a b : Nat) (x : Int), itr t (a + b) x = itr t b (itr t a x)
  | 0, b, x => by rw [Nat.zero_add]; rfl
  | a + 1, b, x => by
    rw [show a + 1 + b = (a + b) + 1 by omega]; exact itr_add t a b _
def injR (n : Nat) (t : List Int) : Prop := ∀ i j : Nat, i < n → j < n → rd t i = rd t j → i = j
theorem itr_inj (t : List Int) (n : Nat) (ht : inR n t) (hi : injR n t) : ∀ (k : Nat) (x y : Int), 0 ≤ x ∧ x < n → 0 ≤ y ∧ y < n → itr t k x = itr t k y → x = y
  | 0, x, y, _, _, h => h
  | k + 1, x, y, hx, hy, h => by
    have a1 := ht.2 x.toNat (by omega); have a2 := ht.2 y.toNat (by omega)
    have ex : ((x.toNat : Nat) : Int) = x := by omega
    have ey : ((y.toNat : Nat) : Int) = y := by omega
    rw [ex] at a1; rw [ey] at a2; have h1 := itr_inj t n ht hi k _ _ a1 a2 h; have := hi x.toNat y.toNat (by omega) (by omega) (by rw [ex, ey]; exact h1); omega
theorem itr_back (t : List Int) (n : Nat) (ht : inR n t) (hi : injR n t) (x : Int) (hx : 0 ≤ x ∧ x < n) : ∃ k : Nat, k < n ∧ itr t (k + 1) x = x := by
  by_cases h : ∃ i j : Nat, i < j ∧ j ≤ n ∧ itr t i x = itr t j x
  · obtain ⟨i, j, h1, h2, h3⟩ := h
    refine ⟨j - i - 1, by omega, ?_⟩
    have e : itr t j x = itr t i (itr t (j - i - 1 + 1) x) := by rw [← itr_add, show j - i - 1 + 1 + i = j by omega]
    rw [e] at h3; exact (itr_inj t n ht hi i _ _ hx (itr_in t n ht _ x hx) h3).symm
  · exfalso
    have h1 := len_le_of_sub ((List.range (n + 1)).map fun i => (itr t i x).toNat) (List.range n) ?_ ?_
    · rw [List.length_map, List.length_range, List.length_range] at h1
      omega
    · rw [List.Nodup, List.pairwise_map]
      refine List.Pairwise.imp_of_mem ?_ (List.pairwise_lt_range (n := n + 1)); intro a b ha hb hab e; have ia := itr_in t n ht a x hx; have ib := itr_in t n ht b x hx; exact h ⟨a, b, hab, by have := List.mem_range.1 hb; omega, by omega⟩
    · intro y hy
      obtain ⟨a, ha, rfl⟩ := List.mem_map.1 hy; have ia := itr_in t n ht a x hx; exact List.mem_range.2 (by omega)
def fc (t : List Int) (ch : Int → Bool) : Nat → Int → Int
  | 0, x => x
  | m + 1, x => if ch x = true then x else fc t ch m (rd t x)
theorem fc_hit (t : List Int) (ch : Int → Bool) : ∀ (m : Nat) (x : Int), (∃ k : Nat, k ≤ m ∧ ch (itr t k x) = true) → ch (fc t ch m x) = true
  | 0, x, ⟨k, hk, h⟩ => by
    have : k = 0 := by omega
    subst this; exact h
  | m + 1, x, ⟨k, hk, h⟩ => by
    simp only [fc]
    split
    · assumption
    · cases k with
      | zero => exact absurd h (by assumption)
      | succ k => exact fc_hit t ch m _ ⟨k, by omega, h⟩
theorem fc_in (t : List Int) (n : Nat) (ht : inR n t) (ch : Int → Bool) : ∀ (m : Nat) (x : Int), 0 ≤ x ∧ x < n → 0 ≤ fc t ch m x ∧ fc t ch m x < n
  | 0, x, h => h
  | m + 1, x, h => by
    simp only [fc]
    split
    · exact h
    · have := ht.2 x.toNat (by omega)
      rw [show ((x.toNat : Nat) : Int) = x by omega] at this; exact fc_in t n ht ch m _ this
theorem meets (t : List Int) (n : Nat) (ht : inR n t) (hi : injR n t) (ch : Int → Bool) (x : Int) (hx : 0 ≤ x ∧ x < n) (hc : ch x = true) : ∃ k : Nat, k ≤ n ∧ ch (itr t k (rd t x)) = true := by
  obtain ⟨k, h1, h2⟩ := itr_back t n ht hi x hx; exact ⟨k, by omega, by rw [show itr t k (rd t x) = itr t (k + 1) x from rfl, h2]; exact hc⟩
def faL (t f : List Int) (n : Nat) (c : List Int) : List Int := (List.range n).map fun (d : Nat) => if chB f n c (d : Int) = true then fc t (chB f n c) n (rd t (rd f (d : Int))) else (d : Int)
theorem faL_rd (t f : List Int) (n : Nat) (c : List Int) (d : Nat) (h : d < n) : rd (faL t f n c) (d : Int) = if chB f n c (d : Int) = true then fc t (chB f n c) n (rd t (rd f (d : Int))) else (d : Int) := by
  rw [rd_lt _ _ (by simp [faL]; exact h)]
  simp [faL]
theorem geL_flip (f : List Int) (n : Nat) (hf : inR n f) (hfl : ∀ i : Nat, i < n → flipAt f i) (d : Nat) (hd : d < n) : rd (geL f n n) (rd f d) = rd (geL f n n) d := by
  have h1 := hf.2 d hd; obtain ⟨h2, h3⟩ := hfl d hd
  have hb : (((rd f d).toNat : Nat) : Int) = rd f d := by omega
  have l1 := least_lt f n hf hfl d hd; have l2 := least_lt f n hf hfl (rd f d).toNat (by omega); have e1 := geL_at f n hf hfl n (Nat.le_refl _) d hd l1.1; have e2 := geL_at f n hf hfl n (Nat.le_refl _) (rd f d).toNat (by omega) l2.1; rw [hb] at e2; rw [e1, e2]
  have : least f (rd f d).toNat = least f d := by
    unfold least
    rw [hb, h3]
    split <;> split <;> omega
  rw [this]
theorem chB_flip (f : List Int) (n : Nat) (hf : inR n f) (hfl : ∀ i : Nat, i < n → flipAt f i) (c : List Int) (d : Nat) (hd : d < n) : chB f n c (rd f d) = chB f n c d := by
  unfold chB
  rw [geL_flip f n hf hfl d hd]
theorem fa_ch (t f : List Int) (n : Nat) (ht : inR n t) (hi : injR n t) (hf : inR n f) (hfl : ∀ i : Nat, i < n → flipAt f i) (c : List Int) (d : Nat) (hd : d < n) (hc : chB f n c d = true) :
    chB f n c (rd (faL t f n c) d) = true ∧ 0 ≤ rd (faL t f n c) d ∧ rd (faL t f n c) d < n := by
  have h1 := hf.2 d hd; rw [faL_rd t f n c d hd, if_pos hc]; have h2 := ht.2 (rd f d).toNat (by omega); rw [show (((rd f d).toNat : Nat) : Int) = rd f d by omega] at h2; exact ⟨fc_hit t _ n _ (meets t n ht hi _ _ h1 (by rw [chB_flip f n hf hfl c d hd]; exact hc)), fc_in t n ht _ n _ h2⟩
theorem getD_set (s : List Bool) (i j : Nat) (b : Bool) (hi : i < s.length) : (s.set i b).getD j false = if i = j then b else s.getD j false := by
  rw [List.getD_eq_getElem?_getD, List.getElem?_set]
  by_cases e : i = j
  · subst e
    simp [hi]
  · simp [e, List.getD_eq_getElem?_getD]
def ribS (F : List Int) (n : Nat) (ch : Int → Bool) : Nat → List Bool × Nat
  | 0 => (List.replicate n false, 0)
  | i + 1 => if ch i = true ∧ (ribS F n ch i).1.getD i false = false then ((cw F (n + 1) (ribS F n ch i).1 [] i).1, (ribS F n ch i).2 + 1) else ribS F n ch i
theorem ribS_len (F : List Int) (n : Nat) (ch : Int → Bool) : ∀ i, (ribS F n ch i).1.length = n
  | 0 => by simp [ribS]
  | i + 1 => by
    simp only [ribS]
    split
    · rw [cw_len, ribS_len F n ch i]
    · exact ribS_len F n ch i
theorem ribS_le (F : List Int) (n : Nat) (ch : Int → Bool) : ∀ i, (ribS F n ch i).2 ≤ i
  | 0 => by simp [ribS]
  | i + 1 => by
    have := ribS_le F n ch i; simp only [ribS]
    split
    · simp only; omega
    · omega
def chL (f : List Int) (n : Nat) (c : List Int) : List Bool := (List.range n).map fun (d : Nat) => chB f n c (d : Int)
theorem chL_len (f : List Int) (n : Nat) (c : List Int) : (chL f n c).length = n := by simp [chL]
theorem chL_getD (f : List Int) (n : Nat) (c : List Int) (d : Nat) (h : d < n) : (chL f n c).getD d false = chB f n c (d : Int) := by
  rw [List.getD_eq_getElem?_getD, List.getElem?_eq_getElem (by rw [chL_len]; exact h)]
  simp [chL]
theorem chL_rd (f : List Int) (n : Nat) (c : List Int) (x : Int) (h0 : 0 ≤ x) (h : x < n) : rdOf false (chL f n c) x = chB f n c x := by
  rw [rdOf_nat _ x h0, chL_getD f n c x.toNat (by omega), show ((x.toNat : Nat) : Int) = x by omega]
theorem bl_ext (a b : List Bool) (h : a.length = b.length) (hr : ∀ i : Nat, i < a.length → a.getD i false = b.getD i false) : a = b := by
  refine List.ext_getElem h fun i h1 h2 => ?_
  have := hr i h1; rw [List.getD_eq_getElem?_getD, List.getD_eq_getElem?_getD, List.getElem?_eq_getElem h1, List.getElem?_eq_getElem h2] at this
  simpa using this
theorem chB_take (f : List Int) (n : Nat) (c : List Int) (i : Nat) (hi : i < c.length) (d : Int) : chB f n (c.take (i + 1)) d = (chB f n (c.take i) d || decide (rd (geL f n n) d = rd c i)) := by
  unfold chB
  rw [take_get c i hi, Bool.eq_iff_iff, Bool.or_eq_true, decide_eq_true_eq, decide_eq_true_eq, decide_eq_true_eq, List.mem_append, List.mem_singleton]
theorem step_ch (f : List Int) (n : Nat) (c : List Int) (i : Nat) (hi : i < c.length) (a b : Nat) (ha : a < n) (hb : b < n) (h : ∀ d : Nat, d < n → (rd (geL f n n) (d : Int) = rd c i ↔ d = a ∨ d = b)) :
    ((chL f n (c.take i)).set a true).set b true = chL f n (c.take (i + 1)) := by
  refine bl_ext _ _ (by simp [chL_len]) fun d hd => ?_
  have hd' : d < n := by simpa [chL_len] using hd
  rw [getD_set _ _ _ _ (by rw [List.length_set, chL_len]; exact hb), getD_set _ _ _ _ (by rw [chL_len]; exact ha), chL_getD _ _ _ d hd', chL_getD _ _ _ d hd', chB_take f n c i hi]; have e := h d hd'
  by_cases e1 : b = d
  · rw [if_pos e1, decide_eq_true (e.2 (.inr e1.symm)), Bool.or_true]
  · by_cases e2 : a = d
    · rw [if_neg e1, if_pos e2, decide_eq_true (e.2 (.inl e2.symm)), Bool.or_true]
    · rw [if_neg e1, if_neg e2, decide_eq_false (fun z => (e.1 z).elim (fun z => e2 z.symm) (fun z => e1 z.symm)), Bool.or_false]
theorem step_fl (f : List Int) (n : Nat) (c : List Int) (i : Nat) (hi : i < c.length) (a b : Nat) (ha : a < n) (hb : b < n) (hab : rd f a = b) (hba : rd f b = a) (h : ∀ d : Nat, d < n → (rd (geL f n n) (d : Int) = rd c i ↔ d = a ∨ d = b)) :
    ((flC f n (c.take i)).set a (b : Int)).set b (a : Int) = flC f n (c.take (i + 1)) := by
  refine list_ext _ _ (by simp [flC_len]) fun d hd => ?_
  have hd' : d < n := by simpa [flC_len] using hd
  have e := h d hd'; rw [flC_rd f n _ d hd', chB_take f n c i hi]
  by_cases e1 : b = d
  · subst e1
    rw [rd_set_self _ _ _ (by simpa [flC_len] using hb), decide_eq_true (e.2 (.inr rfl)), Bool.or_true, if_pos rfl, hba]
  · rw [rd_set_ne _ _ _ _ e1]
    by_cases e2 : a = d
    · subst e2
      rw [rd_set_self _ _ _ (by simpa [flC_len] using ha), decide_eq_true (e.2 (.inl rfl)), Bool.or_true, if_pos rfl, hab]
    · rw [rd_set_ne _ _ _ _ e2, flC_rd f n _ d hd', decide_eq_false (fun z => (e.1 z).elim (fun z => e2 z.symm) (fun z => e1 z.symm)), Bool.or_false]
theorem flC_zero (f : List Int) (n : Nat) (c : List Int) : flC f n (c.take 0) = stl n := by
  refine list_ext _ _ (by simp [flC_len, stl_length]) fun d hd => ?_
  have hd' : d < n := by rwa [flC_len] at hd
  rw [flC_rd f n _ d hd', stl_rd n d hd']
  simp [chB]
theorem chL_zero (f : List Int) (n : Nat) (c : List Int) : chL f n (c.take 0) = List.replicate n false := by
  refine bl_ext _ _ (by simp [chL_len]) fun d hd => ?_
  have hd' : d < n := by rwa [chL_len] at hd
  rw [chL_getD f n _ d hd']
  simp [chB, List.getD_eq_getElem?_getD, List.getElem?_replicate, hd']
def pc (o : List Int) : Nat → Nat
  | 0 => 0
  | i + 1 => if (i : Int) = rd o i then pc o i + 1 else pc o i
theorem pc_le (o : List Int) : ∀ i, pc o i ≤ i
  | 0 => Nat.le_refl _
  | i + 1 => by
    have := pc_le o i; simp only [pc]
    split <;> omega
def bc (C : List (List Int)) (ch : Int → Bool) : Nat → Nat
  | 0 => 0
  | i + 1 => if (rd_L1 C i).any ch = true then bc C ch i else bc C ch i + 1
theorem bc_le (C : List (List Int)) (ch : Int → Bool) : ∀ i, bc C ch i ≤ i
  | 0 => Nat.le_refl _
  | i + 1 => by
    have := bc_le C ch i; simp only [bc]
    split <;> omega
def sidesN (t f : List Int) (n : Nat) (c : List Int) : Nat := bc (cyS t n n).2 (chB f n c) (cyS t n n).2.length + (ribS (faL t f n c) n (chB f n c) n).2
theorem contF_run (l : List Int) (hl : l.length ≤ 1048576) (f : List Int) (n : Nat) (c : List Int) (hr : ∀ x ∈ l, 0 ≤ x ∧ x < n) : ∀ (d i : Nat), l.length - i = d → i ≤ l.length → ∃ v : Int, Ev (fun k => containsF.l0 k l (chL f n c) i) v ∧ (v ≥ 0 ↔ (l.drop i).any (chB f n c) = true)
  | 0, i, hd, hi => by
    refine ⟨-1, Ev.s ?_, ?_⟩
    · simp only [containsF.l0, show ¬ (i : Int) < (l.length : Int) by omega, if_false]
      exact Ev.const rfl
    · rw [List.drop_eq_nil_of_le (by omega)]
      simp
  | d + 1, i, hd, hi => by
    have hlt : i < l.length := by omega
    have e := rd_lt l i hlt; have h1 := hr _ (List.getElem_mem hlt); rw [← e] at h1
    have g1 : (i : Int) < (l.length : Int) := by omega
    have g2 : (0 : Int) ≤ (i : Int) := by omega
    have g3 := chL_len f n c; obtain ⟨v, v1, v2⟩ := contF_run l hl f n c hr d (i + 1) (by omega) (by omega)
    cases h : chB f n c (rd l i) with
    | true =>
      refine ⟨i, Ev.s ?_, ?_⟩
      · simp only [containsF.l0, g1, g2, h1.1, g3, h1.2, chL_rd f n c _ h1.1 h1.2, h, if_true]
        exact Ev.const rfl
      · rw [List.drop_eq_getElem_cons hlt, ← e, List.any_cons, h, Bool.true_or]
        exact ⟨fun _ => rfl, fun _ => by omega⟩
    | false =>
      refine ⟨v, Ev.s ?_, ?_⟩
      · simp only [containsF.l0, g1, g2, h1.1, g3, h1.2, chL_rd f n c _ h1.1 h1.2, h, if_true, Bool.false_eq_true, if_false, w64n (show i < 4611686018427387904 by omega)]
        exact v1
      · rw [v2, List.drop_eq_getElem_cons hlt, ← e, List.any_cons, h, Bool.false_or]
theorem contF_ev (l : List Int) (hl : l.length ≤ 1048576) (f : List Int) (n : Nat) (c : List Int) (hr : ∀ x ∈ l, 0 ≤ x ∧ x < n) : Ev (fun k => containsF.f k l (chL f n c)) (l.any (chB f n c)) := by
  obtain ⟨v, v1, v2⟩ := contF_run l hl f n c hr l.length 0 (by omega) (by omega)
  unfold containsF.f
  refine Ev.bind v1 (Ev.const ?_); rw [List.drop_zero] at v2
  congr 1
  rw [Bool.eq_iff_iff, decide_eq_true_eq]; exact v2
theorem cw_ok (p : List Int) (n : Nat) (hp : inR n p) : ∀ (f : Nat) (s : List Bool) (c : List Int) (a : Int), s.length = n → 0 ≤ a → a < n → (∀ x ∈ c, 0 ≤ x ∧ x < n) → (∀ x ∈ (cw p f s c a).2, 0 ≤ x ∧ x < n) ∧ (cw p f s c a).2.length ≤ c.length + f
  | 0, s, c, a, hs, h0, h1, hc => ⟨hc, by simp [cw]⟩
  | f + 1, s, c, a, hs, h0, h1, hc => by
    simp only [cw]
    split
    · exact ⟨hc, by simp only; omega⟩
    · have h5 := hp.2 a.toNat (by omega)
      rw [show ((a.toNat : Nat) : Int) = a by omega] at h5; have ih := cw_ok p n hp f (s.set a.toNat true) (c ++ [a]) (rd p a) (by simpa using hs) h5.1 h5.2 (fun x hx => by
        rw [List.mem_append, List.mem_singleton] at hx; exact hx.elim (hc x) (fun e => by rw [e]; exact ⟨h0, h1⟩))
      refine ⟨ih.1, ?_⟩; have := ih.2; simp only [List.length_append, List.length_cons, List.length_nil] at this; omega
theorem cyS_ok (p : List Int) (n : Nat) (hp : inR n p) : ∀ i, i ≤ n → ∀ l ∈ (cyS p n i).2, (∀ x ∈ l, 0 ≤ x ∧ x < n) ∧ l.length ≤ n + 1
  | 0, _, l, hl => by simp [cyS] at hl
  | i + 1, hi, l, hl => by
    have ih := cyS_ok p n hp i (by omega); have ok := cw_ok p n hp (n + 1) (cyS p n i).1 [] i (cyS_len p n i) (by omega) (by omega) (by simp); simp only [cyS] at hl
    split at hl
    · exact ih l hl
    · rw [List.mem_append, List.mem_singleton] at hl
      rcases hl with hl | rfl
      · exact ih l hl
      · exact ⟨ok.1, by simpa using ok.2⟩
theorem rdL_ok (C : List (List Int)) (P : List Int → Prop) (h : ∀ l ∈ C, P l) (i : Nat) (hi : i < C.length) : P (rd_L1 C i) := by
  rw [rdL_nth C i hi]; exact h _ (List.getElem_mem hi)
def RibOk (t f c : List Int) (n : Nat) : Prop := n ≤ 12 ∧ 1 ≤ n ∧ inR n t ∧ injR n t ∧ inR n f ∧ (∀ i : Nat, i < n → flipAt f i) ∧ isChoice c ((edL f n).length : Int) ∧ c.length ≤ 1048576
theorem ir_l0 (t f c : List Int) (n : Nat) (H : RibOk t f c n) (m : Int) (r : List Int) (h : Ev (fun k => (impl_orbits.f k [t, flC f n c]).bind fun o => impl_ribbon.l1 k c m (flC f n c) 0 o (o.length : Int) 0 t f (chL f n c)) r) : ∀ (d i : Nat), c.length - i = d → i ≤ c.length → Ev (fun k => impl_ribbon.l0 k c m (flC f n (c.take i)) c c.length i t f (chL f n (c.take i))) r
  | 0, i, hd, hi => by
    obtain ⟨hn, h1, ht, hti, hf, hfl, hc, hcl⟩ := id H
    have : i = c.length := by omega
    subst this; refine Ev.s ?_; simp only [impl_ribbon.l0, show ¬ (c.length : Int) < (c.length : Int) by omega, if_false, List.take_length]; exact h
  | d + 1, i, hd, hi => by
    obtain ⟨hn, h1, ht, hti, hf, hfl, hc, hcl⟩ := id H; have ih := ir_l0 t f c n H m r h d (i + 1) (by omega) (by omega); have hr := choice_range c _ hc i (by omega); obtain ⟨a, b, ha, hb, hab, e1, e2, e3, e4⟩ := edge_at f n hf hfl (rd c i).toNat (by omega); rw [show (((rd c i).toNat : Nat) : Int) = rd c i by omega] at e1 e4; rw [← step_ch f n c i (by omega) a b ha hb e4, ← step_fl f n c i (by omega) a b ha hb e2 e3 e4] at ih; have l1 := chL_len f n (c.take i); have l2 := flC_len f n (c.take i); refine Ev.s ?_; simp only [impl_ribbon.l0, show (i : Int) < (c.length : Int) by omega, show (0 : Int) ≤ (i : Int) by omega, if_true]; refine Ev.bind (implEdges_ev n (by omega) t f hf) ?_; simp only [hr.1, hr.2, e1, e2, hf.1, l1, l2, show (0 : Int) ≤ (a : Int) by omega, show (a : Int) < (n : Int) by omega, show (0 : Int) ≤ (b : Int) by omega, show (b : Int) < (n : Int) by omega, if_true, w64n (show i < 4611686018427387904 by omega), Int.toNat_natCast]; exact ih
theorem ir_l1 (t f c : List Int) (n : Nat) (H : RibOk t f c n) (m : Int) (g : List Int) (s : List Bool) (o : List Int) (ho : o.length = n) (r : List Int) (h : Ev (fun k => (impl_cyclesOf.f k t).bind fun C => impl_ribbon.l2 k c m g (pc o n) 0 C (C.length : Int) 0 t f s) r) : ∀ (d i : Nat), n - i = d → i ≤ n → Ev (fun k => impl_ribbon.l1 k c m g (pc o i) o n i t f s) r
  | 0, i, hd, hi => by
    obtain ⟨hn, h1, ht, hti, hf, hfl, hc, hcl⟩ := id H
    have : i = n := by omega
    subst this; refine Ev.s ?_; simp only [impl_ribbon.l1, show ¬ (i : Int) < (i : Int) by omega, if_false]; exact h
  | d + 1, i, hd, hi => by
    obtain ⟨hn, h1, ht, hti, hf, hfl, hc, hcl⟩ := id H; have ih := ir_l1 t f c n H m g s o ho r h d (i + 1) (by omega) (by omega); have hp := pc_le o i; refine Ev.s ?_; simp only [impl_ribbon.l1, ho, show (i : Int) < (n : Int) by omega, show (0 : Int) ≤ (i : Int) by omega, if_true, w64n (show i < 4611686018427387904 by omega), w64n (show pc o i < 4611686018427387904 by omega)]; simp only [pc] at ih
    by_cases e : (i : Int) = rd o i
    · simp only [if_pos e] at ih ⊢; exact ih
    · simp only [if_neg e] at ih ⊢; exact ih
theorem ir_l2 (t f c : List Int) (n : Nat) (H : RibOk t f c n) (g : List Int) (P : Int) (C : List (List Int)) (hC : ∀ l ∈ C, (∀ x ∈ l, 0 ≤ x ∧ x < n) ∧ l.length ≤ n + 1) (hCl : C.length ≤ n) (r : List Int) (h : Ev (fun k => impl_ribbon.l3 k c g P (bc C (chB f n c) C.length) (List.replicate n false) n 0 t f (chL f n c)) r) : ∀ (d i : Nat), C.length - i = d → i ≤ C.length → Ev (fun k => impl_ribbon.l2 k c n g P (bc C (chB f n c) i) C C.length i t f (chL f n c)) r
  | 0, i, hd, hi => by
    obtain ⟨hn, h1, ht, hti, hf, hfl, hc, hcl⟩ := id H
    have : i = C.length := by omega
    subst this; refine Ev.s ?_; simp only [impl_ribbon.l2, show ¬ (C.length : Int) < (C.length : Int) by omega, if_false, show (0 : Int) ≤ (n : Int) by omega, if_true, Int.toNat_natCast, show n ≤ 281474976710656 by omega]; exact h
  | d + 1, i, hd, hi => by
    obtain ⟨hn, h1, ht, hti, hf, hfl, hc, hcl⟩ := id H; have ih := ir_l2 t f c n H g P C hC hCl r h d (i + 1) (by omega) (by omega); have hb := bc_le C (chB f n c) i; have ok := rdL_ok C _ hC i (by omega); refine Ev.s ?_; simp only [impl_ribbon.l2, show (i : Int) < (C.length : Int) by omega, show (0 : Int) ≤ (i : Int) by omega, if_true, w64n (show i < 4611686018427387904 by omega), w64n (show bc C (chB f n c) i < 4611686018427387904 by omega)]; refine Ev.bind (contF_ev (rd_L1 C i) (by omega) f n c ok.1) ?_; simp only [bc] at ih
    by_cases e : (rd_L1 C i).any (chB f n c) = true
    · simp only [if_pos e] at ih ⊢; exact ih
    · simp only [if_neg e] at ih ⊢; exact ih
theorem ir_l5 (t f c : List Int) (n : Nat) (H : RibOk t f c n) (g : List Int) (P S : Int) (s : List Bool) (i : Int) (r : List Int) : ∀ (m : Nat) (x : Int), 0 ≤ x ∧ x < n → (∃ k : Nat, k ≤ m ∧ chB f n c (itr t k x) = true) → Ev (fun k => impl_ribbon.l4 k c g P S s (fc t (chB f n c) m x) n i t f (chL f n c)) r → Ev (fun k => impl_ribbon.l5 k c g P S s x n i t f (chL f n c)) r
  | 0, x, hx, ⟨k, hk, hh⟩, h => by
    obtain ⟨hn, h1, ht, hti, hf, hfl, hc, hcl⟩ := id H
    have : k = 0 := by omega
    subst this; have hh' : chB f n c x = true := hh; refine Ev.s ?_; simp only [impl_ribbon.l5, hx.1, chL_len, hx.2, chL_rd f n c x hx.1 hx.2, hh', if_true]; exact h
  | m + 1, x, hx, ⟨k, hk, hh⟩, h => by
    obtain ⟨hn, h1, ht, hti, hf, hfl, hc, hcl⟩ := id H; refine Ev.s ?_; simp only [impl_ribbon.l5, hx.1, chL_len, hx.2, chL_rd f n c x hx.1 hx.2, ht.1, if_true]; simp only [fc] at h; have h5 := ht.2 x.toNat (by omega); rw [show ((x.toNat : Nat) : Int) = x by omega] at h5
    by_cases e : chB f n c x = true
    · simp only [if_pos e] at h ⊢; exact h
    · simp only [if_neg e] at h ⊢
      cases k with
      | zero => exact absurd hh e
      | succ k => exact ir_l5 t f c n H g P S s i r m _ h5 ⟨k, by omega, hh⟩ h
theorem ir_l4 (t f c : List Int) (n : Nat) (H : RibOk t f c n) (P S : Int) (i : Nat) (r : List Int) : ∀ (m : Nat) (s : List Bool) (l : List Int) (a : Nat), s.length = n → a < n → chB f n c a = true → fresh s < m → Ev (fun k => impl_ribbon.l3 k c (flC f n c) P S (cw (faL t f n c) m s l a).1 n (wrap64 ((i : Int) + 1)) t f (chL f n c)) r → Ev (fun k => impl_ribbon.l4 k c (flC f n c) P S s a n i t f (chL f n c)) r
  | 0, s, l, a, hs, ha, hca, hm, h => absurd hm (Nat.not_lt_zero _)
  | m + 1, s, l, a, hs, ha, hca, hm, h => by
    obtain ⟨hn, h1, ht, hti, hf, hfl, hc, hcl⟩ := id H; refine Ev.s ?_; simp only [cw] at h
    have g1 : (a : Int) < (n : Int) := by omega
    have g2 : (0 : Int) ≤ (a : Int) := by omega
    simp only [impl_ribbon.l4, g2, hs, g1, if_true]
    by_cases e : rdOf false s (a : Int) = true
    · simp only [e, if_true] at h ⊢
      exact h
    · simp only [e, if_false] at h ⊢
      have fl := flC_rd f n c a ha; rw [if_pos hca] at fl; have fr := hf.2 a ha; have tr := ht.2 (rd f a).toNat (by omega); rw [show (((rd f a).toNat : Nat) : Int) = rd f a by omega] at tr; have fx := fa_ch t f n ht hti hf hfl c a ha hca
      have h3 : s.getD a false = false := by
        rw [rdOf_nat s a g2, Int.toNat_natCast] at e
        simpa using e
      have h4 := fresh_set s a (by omega) h3; simp only [flC_len, g1, fl, fr.1, ht.1, fr.2, if_true, Int.toNat_natCast]; simp only [Int.toNat_natCast] at h; refine ir_l5 t f c n H (flC f n c) P S _ i r n _ tr (meets t n ht hti _ _ fr (by rw [chB_flip f n hf hfl c a ha]; exact hca)) ?_; have fe := faL_rd t f n c a ha; rw [if_pos hca] at fe; rw [← fe]; rw [show rd (faL t f n c) a = (((rd (faL t f n c) a).toNat : Nat) : Int) by omega] at h ⊢; exact ir_l4 t f c n H P S i r m (s.set a true) (l ++ [(a : Int)]) _ (by simpa using hs) (by omega) (by rw [show (((rd (faL t f n c) a).toNat : Nat) : Int) = rd (faL t f n c) a by omega]; exact fx.1) (by omega) h
def fiveN (P S V c : Int) : List Int := [P, S, wrap64 (V - P), wrap64 (c - wrap64 (V - P)), wrap64 (Int.tdiv (wrap64 (wrap64 (wrap64 (wrap64 (2 * P) - V) + c) - S)) 2)]
theorem ir_l3 (t f c : List Int) (n : Nat) (H : RibOk t f c n) (P : Int) (B : Nat) (hB : B ≤ n) : ∀ (d i : Nat), n - i = d → i ≤ n → Ev (fun k => impl_ribbon.l3 k c (flC f n c) P ((B + (ribS (faL t f n c) n (chB f n c) i).2 : Nat) : Int) (ribS (faL t f n c) n (chB f n c) i).1 n i t f (chL f n c)) (fiveN P ((B + (ribS (faL t f n c) n (chB f n c) n).2 : Nat) : Int) ((cyS t n n).2.length : Int) c.length)
  | 0, i, hd, hi => by
    obtain ⟨hn, h1, ht, hti, hf, hfl, hc, hcl⟩ := id H
    have : i = n := by omega
    subst this; refine Ev.s ?_; simp only [impl_ribbon.l3, show ¬ (i : Int) < (i : Int) by omega, if_false]; exact Ev.bind (implCyc_ev t i (by omega) ht) (Ev.const rfl)
  | d + 1, i, hd, hi => by
    obtain ⟨hn, h1, ht, hti, hf, hfl, hc, hcl⟩ := id H; have ih := ir_l3 t f c n H P B hB d (i + 1) (by omega) (by omega); have l1 := ribS_len (faL t f n c) n (chB f n c) i; have l2 := ribS_le (faL t f n c) n (chB f n c) i; have fr := fresh_le (ribS (faL t f n c) n (chB f n c) i).1
    have g1 : (i : Int) < (n : Int) := by omega
    have g2 : (0 : Int) ≤ (i : Int) := by omega
    refine Ev.s ?_; simp only [impl_ribbon.l3, g1, g2, chL_len, if_true, chL_rd f n c _ g2 g1, l1]; simp only [ribS] at ih; have wi : wrap64 ((i : Int) + 1) = ((i + 1 : Nat) : Int) := w64n (by omega)
    cases hci : chB f n c (i : Int) with
    | true =>
      simp only [hci, true_and, if_true] at ih ⊢; refine Ev.s ?_
      cases hs : (ribS (faL t f n c) n (chB f n c) i).1.getD i false with
      | true =>
        rw [hs] at ih; simp only [Bool.true_eq_false, if_false] at ih; simp only [impl_ribbon.j4, rdOf_nat _ _ g2, Int.toNat_natCast, hs, if_true, wi]; exact ih
      | false =>
        rw [hs] at ih; simp only [if_true] at ih; simp only [impl_ribbon.j4, rdOf_nat _ _ g2, Int.toNat_natCast, hs, Bool.false_eq_true, if_false, w64n (show B + (ribS (faL t f n c) n (chB f n c) i).2 < 4611686018427387904 by omega)]; refine ir_l4 t f c n H P _ i _ (n + 1) _ [] i l1 (by omega) hci (by omega) ?_; rw [wi]; exact ih
    | false =>
      simp only [hci, Bool.false_eq_true, false_and, if_false] at ih ⊢; refine Ev.s ?_; simp only [impl_ribbon.j4, if_true, wi]; exact ih
def mixL (A B : List Int) (n i : Nat) : List Int := (List.range n).map fun (d : Nat) => if d < i then rd A (d : Int) else rd B (d : Int)
theorem mixL_len (A B : List Int) (n i : Nat) : (mixL A B n i).length = n := by simp [mixL]
theorem mixL_rd (A B : List Int) (n i d : Nat) (h : d < n) : rd (mixL A B n i) (d : Int) = if d < i then rd A (d : Int) else rd B (d : Int) := by
  rw [rd_lt _ _ (by simp [mixL]; exact h)]
  simp [mixL]
theorem mixL_zero (A B : List Int) (n : Nat) (hB : B.length = n) : mixL A B n 0 = B := by
  refine list_ext _ _ (by rw [mixL_len, hB]) fun d hd => ?_
  rw [mixL_len] at hd; rw [mixL_rd A B n 0 d hd, if_neg (by omega)]
theorem mixL_all (A B : List Int) (n : Nat) (hA : A.length = n) : mixL A B n n = A := by
  refine list_ext _ _ (by rw [mixL_len, hA]) fun d hd => ?_
  rw [mixL_len] at hd; rw [mixL_rd A B n n d hd, if_pos hd]
theorem mixL_set (A B : List Int) (n i : Nat) (hi : i < n) : (mixL A B n i).set i (rd A i) = mixL A B n (i + 1) := by
  refine list_ext _ _ (by simp [mixL_len]) fun d hd => ?_
  have hd' : d < n := by simpa [mixL_len] using hd
  rw [mixL_rd A B n (i + 1) d hd']
  by_cases e : i = d
  · subst e
    rw [rd_set_self _ _ _ (by rw [mixL_len]; exact hi), if_pos (by omega)]
  · rw [rd_set_ne _ _ _ _ e, mixL_rd A B n i d hd']
    by_cases e2 : d < i
    · rw [if_pos e2, if_pos (by omega)]
    · rw [if_neg e2, if_neg (by omega)]
theorem mixL_skip (A B : List Int) (n i : Nat) (hi : i < n) (h : rd A i = rd B i) : mixL A B n i = mixL A B n (i + 1) := by
  refine list_ext _ _ (by simp [mixL_len]) fun d hd => ?_
  have hd' : d < n := by simpa [mixL_len] using hd
  rw [mixL_rd A B n (i + 1) d hd', mixL_rd A B n i d hd']
  by_cases e2 : d < i
  · rw [if_pos e2, if_pos (by omega)]
  · rw [if_neg e2]
    by_cases e : d < i + 1
    · have : d = i := by omega
      subst this; rw [if_pos e, h]
    · rw [if_neg e]
theorem sp_l1 (o : List Int) (n : Nat) (hn : n ≤ 12) (ho : o.length = n) : ∀ (d i : Nat), n - i = d → i ≤ n → Ev (fun k => spec_l7Parts.l1 k o (pc o i) i) (pc o n : Int)
  | 0, i, hd, hi => by
    have : i = n := by omega
    subst this; refine Ev.s ?_; simp only [spec_l7Parts.l1, ho, show ¬ (i : Int) < (i : Int) by omega, if_false]; exact Ev.const rfl
  | d + 1, i, hd, hi => by
    have ih := sp_l1 o n hn ho d (i + 1) (by omega) (by omega); have hp := pc_le o i; refine Ev.s ?_; simp only [spec_l7Parts.l1, ho, show (i : Int) < (n : Int) by omega, show (0 : Int) ≤ (i : Int) by omega, if_true, w64n (show i < 4611686018427387904 by omega), w64n (show pc o i < 4611686018427387904 by omega)]; simp only [pc] at ih
    by_cases e : (i : Int) = rd o i
    · simp only [if_pos e] at ih
      simp only [if_pos e.symm]; exact ih
    · simp only [if_neg e] at ih
      have e' : ¬ rd o i = (i : Int) := fun z => e z.symm
      simp only [if_neg e']; exact ih
theorem sp_l0 (t f c : List Int) (n : Nat) (H : RibOk t f c n) (r : Int) (h : Ev (fun k => (spec_l1Orbits.f k t (flC f n c)).bind fun o => spec_l7Parts.l1 k o 0 0) r) : ∀ (d i : Nat), n - i = d → i ≤ n → Ev (fun k => spec_l7Parts.l0 k c (mixL (flC f n c) (stl n) n i) (geL f n n) i t f) r
  | 0, i, hd, hi => by
    have : i = n := by omega
    subst this; refine Ev.s ?_; simp only [spec_l7Parts.l0, mixL_len, show ¬ (i : Int) < (i : Int) by omega, if_false]; rw [mixL_all _ _ _ (flC_len f i c)]; exact h
  | d + 1, i, hd, hi => by
    obtain ⟨hn, h1, ht, hti, hf, hfl, hc, hcl⟩ := id H; have ih := sp_l0 t f c n H r h d (i + 1) (by omega) (by omega)
    have g1 : (i : Int) < (n : Int) := by omega
    have g2 : (0 : Int) ≤ (i : Int) := by omega
    have fl := flC_rd f n c i (by omega); refine Ev.s ?_; simp only [spec_l7Parts.l0, mixL_len, g1, g2, geL_len, if_true]; refine Ev.bind (has_ev c hcl (rd (geL f n n) i)) ?_; rw [show decide (rd (geL f n n) (i : Int) ∈ c) = chB f n c i from rfl]; simp only [hf.1, g1, if_true, w64n (show i < 4611686018427387904 by omega), Int.toNat_natCast]
    by_cases e : chB f n c i = true
    · rw [if_pos e] at fl
      simp only [if_pos e]; rw [← mixL_set _ _ _ _ (by omega : i < n), fl] at ih; exact ih
    · rw [if_neg e] at fl
      simp only [if_neg e]; rw [← mixL_skip _ _ _ _ (by omega : i < n) (by rw [fl, stl_rd n i (by omega)])] at ih; exact ih
theorem ribbon_parts (t f c : List Int) (n : Nat) (H : RibOk t f c n) : ∃ o, orbOk [t, flC f n c] n o ∧ Ev (fun k => spec_l7Parts.f k t f c) (pc o n : Int) ∧
    Ev (fun k => impl_ribbon.f k t f c) (fiveN (pc o n) (sidesN t f n c) ((cyS t n n).2.length : Int) c.length) := by
  obtain ⟨hn, h1, ht, hti, hf, hfl, hc, hcl⟩ := id H; obtain ⟨o, o1, o2, o3⟩ := orb_both t (flC f n c) n hn h1 ht (flC_inR f n hf c)
  have hp : Ev (fun k => spec_l7Parts.f k t f c) (pc o n : Int) := by
    unfold spec_l7Parts.f
    rw [hf.1]; refine Ev.bind (same_ev n (by omega)) ?_; refine Ev.bind (specEdges_ev n (by omega) t f hf) ?_; have := sp_l0 t f c n H _ (Ev.bind o2 (sp_l1 o n hn o1.1.1 n 0 (by omega) (by omega))) n 0 (by omega) (by omega); rw [mixL_zero _ _ _ (stl_length n)] at this; exact this
  refine ⟨o, o1, hp, ?_⟩
  · unfold impl_ribbon.f
    rw [ht.1]; simp only [show (0 : Int) ≤ (n : Int) by omega, Int.toNat_natCast, show n ≤ 281474976710656 by omega, if_true]; refine Ev.bind (still_ev n (by omega)) ?_; have hCl := cyS_many t n n; have hb := bc_le (cyS t n n).2 (chB f n c) (cyS t n n).2.length; rw [← flC_zero f n c, ← chL_zero f n c]; refine ir_l0 t f c n H n _ (Ev.bind o3 ?_) c.length 0 (by omega) (by omega); rw [o1.1.1]; refine ir_l1 t f c n H n _ _ o o1.1.1 _ (Ev.bind (implCyc_ev t n (by omega) ht) ?_) n 0 (by omega) (by omega); refine ir_l2 t f c n H _ _ _ (cyS_ok t n ht n (Nat.le_refl _)) hCl _ ?_ _ 0 rfl (by omega); exact ir_l3 t f c n H (pc o n) _ (by omega) n 0 (by omega) (by omega)
def Cnt (n : Nat) (P : Nat → Prop) (k : Nat) : Prop := ∃ L : List Nat, L.Nodup ∧ (∀ x, x ∈ L ↔ x < n ∧ P x) ∧ L.length = k
theorem Cnt.ex (P : Nat → Prop) : ∀ n, ∃ k, Cnt n P k ∧ k ≤ n
  | 0 => ⟨0, ⟨[], List.nodup_nil, by simp, rfl⟩, Nat.le_refl _⟩
  | n + 1 => by
    obtain ⟨k, ⟨L, h1, h2, h3⟩, hk⟩ := Cnt.ex P n
    by_cases h : P n
    · refine ⟨k + 1, ⟨n :: L, List.nodup_cons.2 ⟨fun z => by have := ((h2 n).1 z).1; omega, h1⟩, fun x => ?_, by simp [h3]⟩, by omega⟩
      rw [List.mem_cons, h2]
      constructor
      · rintro (rfl | ⟨a, b⟩)
        · exact ⟨by omega, h⟩
        · exact ⟨by omega, b⟩
      · rintro ⟨a, b⟩
        by_cases e : x = n
        · exact .inl e
        · exact .inr ⟨by omega, b⟩
    · refine ⟨k, ⟨L, h1, fun x => ?_, h3⟩, by omega⟩
      rw [h2]
      constructor
      · rintro ⟨a, b⟩; exact ⟨by omega, b⟩
      · rintro ⟨a, b⟩
        by_cases e : x = n
        · exact absurd (e ▸ b) h
        · exact ⟨by omega, b⟩
theorem Cnt.le {n : Nat} {P Q : Nat → Prop} {k l : Nat} (hp : Cnt n P k) (hq : Cnt n Q l) (g : Nat → Nat) (hg : ∀ x, x < n → P x → g x < n ∧ Q (g x)) (hi : ∀ x y, x < n → P x → y < n → P y → g x = g y → x = y) : k ≤ l := by
  obtain ⟨L, h1, h2, rfl⟩ := hp; obtain ⟨M, m1, m2, rfl⟩ := hq; rw [← List.length_map (f := g)]; refine len_le_of_sub _ _ ?_ ?_
  · rw [List.Nodup, List.pairwise_map]
    refine List.Pairwise.imp_of_mem ?_ h1; intro a b ha hb hab e; exact hab (hi a b ((h2 a).1 ha).1 ((h2 a).1 ha).2 ((h2 b).1 hb).1 ((h2 b).1 hb).2 e)
  · intro y hy
    obtain ⟨a, ha, rfl⟩ := List.mem_map.1 hy; exact (m2 _).2 (hg a ((h2 a).1 ha).1 ((h2 a).1 ha).2)
theorem Cnt.sub {n : Nat} {P Q : Nat → Prop} {k l : Nat} (hp : Cnt n P k) (hq : Cnt n Q l) (h : ∀ x, x < n → P x → Q x) : k ≤ l :=
  hp.le hq (fun x => x) (fun x hx px => ⟨hx, h x hx px⟩) (fun _ _ _ _ _ _ e => e)
theorem Cnt.same {n : Nat} {P Q : Nat → Prop} {k l : Nat} (hp : Cnt n P k) (hq : Cnt n Q l) (h : ∀ x, x < n → (P x ↔ Q x)) : k = l :=
  Nat.le_antisymm (hp.sub hq fun x hx => (h x hx).1) (hq.sub hp fun x hx => (h x hx).2)
theorem Cnt.congr {n : Nat} {P Q : Nat → Prop} {k : Nat} (hp : Cnt n P k) (h : ∀ x, x < n → (P x ↔ Q x)) : Cnt n Q k := by
  obtain ⟨L, h1, h2, h3⟩ := hp; exact ⟨L, h1, fun x => by rw [h2]; exact ⟨fun z => ⟨z.1, (h x z.1).1 z.2⟩, fun z => ⟨z.1, (h x z.1).2 z.2⟩⟩, h3⟩
theorem Cnt.reps {n : Nat} {P Q : Nat → Prop} {k l : Nat} (R : Nat → Nat → Prop) (hs : ∀ x y, R x y → R y x) (ht : ∀ x y z, R x y → R y z → R x z) (hp : Cnt n P k) (hq : Cnt n Q l)
    (h : ∀ x, x < n → P x → ∃ y, y < n ∧ Q y ∧ R x y) (hu : ∀ x y, x < n → P x → y < n → P y → R x y → x = y) : k ≤ l := by
  classical
  refine hp.le hq (fun x => if hx : x < n ∧ P x then Classical.choose (h x hx.1 hx.2) else 0) (fun x hx px => ?_) (fun x y hx px hy py e => ?_)
  · rw [dif_pos ⟨hx, px⟩]
    have := Classical.choose_spec (h x hx px); exact ⟨this.1, this.2.1⟩
  · rw [dif_pos ⟨hx, px⟩, dif_pos ⟨hy, py⟩] at e
    have h1 := (Classical.choose_spec (h x hx px)).2.2; have h2 := (Classical.choose_spec (h y hy py)).2.2; rw [e] at h1; exact hu x y hx px hy py (ht _ _ _ h1 (hs _ _ h2))
theorem Cnt.drop {n : Nat} {P Q : Nat → Prop} {k : Nat} (hp : Cnt n P k) (z : Nat) (hz : z < n) (pz : P z) (h : ∀ x, x < n → (Q x ↔ P x ∧ x ≠ z)) : 1 ≤ k ∧ Cnt n Q (k - 1) := by
  obtain ⟨L, h1, h2, rfl⟩ := hp; have hm : z ∈ L := (h2 z).2 ⟨hz, pz⟩; have := List.length_pos_of_mem hm; refine ⟨this, L.erase z, h1.erase z, fun x => ?_, List.length_erase_of_mem hm⟩; rw [h1.mem_erase_iff, h2]
  constructor
  · rintro ⟨a, b, c⟩; exact ⟨b, (h x b).2 ⟨c, a⟩⟩
  · rintro ⟨a, b⟩; have := (h x a).1 b; exact ⟨this.2, a, this.1⟩
def lst (R : Nat → Nat → Prop) (j : Nat) : Prop := ∀ i, i < j → ¬ R i j
def Cl (n : Nat) (R : Nat → Nat → Prop) (k : Nat) : Prop := Cnt n (lst R) k
theorem lst_ex (R : Nat → Nat → Prop) (hr : ∀ x, R x x) (hs : ∀ x y, R x y → R y x) (ht : ∀ x y z, R x y → R y z → R x z) : ∀ x, ∃ y, y ≤ x ∧ lst R y ∧ R y x := by
  intro x
  induction x using Nat.strongRecOn with
  | ind x ih =>
    by_cases h : ∃ i, i < x ∧ R i x
    · obtain ⟨i, hi, hri⟩ := h
      obtain ⟨y, y1, y2, y3⟩ := ih i hi; exact ⟨y, by omega, y2, ht _ _ _ y3 hri⟩
    · exact ⟨x, Nat.le_refl _, fun i hi hri => h ⟨i, hi, hri⟩, hr x⟩
theorem lst_uniq (R : Nat → Nat → Prop) (hs : ∀ x y, R x y → R y x) (x y : Nat) (hx : lst R x) (hy : lst R y) (h : R x y) : x = y := by
  by_cases h1 : x < y
  · exact absurd h (hy x h1)
  · by_cases h2 : y < x
    · exact absurd (hs _ _ h) (hx y h2)
    · omega
theorem Cl.merge {n : Nat} {R S : Nat → Nat → Prop} {k : Nat} (hr : ∀ x, R x x) (hs : ∀ x y, R x y → R y x) (ht : ∀ x y z, R x y → R y z → R x z) (hk : Cl n R k) (a b : Nat) (ha : a < n) (hb : b < n) (hab : ¬ R a b)
    (hS : ∀ x y, S x y ↔ R x y ∨ (R x a ∧ R b y) ∨ (R x b ∧ R a y)) : 1 ≤ k ∧ Cl n S (k - 1) := by
  obtain ⟨p, p1, p2, p3⟩ := lst_ex R hr hs ht a; obtain ⟨q, q1, q2, q3⟩ := lst_ex R hr hs ht b
  have hpq : p ≠ q := by rintro rfl; exact hab (ht _ _ _ (hs _ _ p3) q3)
  have key : ∀ (p q a b : Nat), p < q → lst R p → lst R q → R p a → R q b → q < n → ¬ R a b → (∀ x y, S x y ↔ R x y ∨ (R x a ∧ R b y) ∨ (R x b ∧ R a y)) → 1 ≤ k ∧ Cl n S (k - 1) := by
    intro p q a b hlt p2 q2 p3 q3 hq hab hS
    refine Cnt.drop hk q hq q2 fun x hx => ⟨fun h => ⟨fun i hi z => h i hi ((hS _ _).2 (.inl z)), ?_⟩, fun ⟨h1, h2⟩ i hi z => ?_⟩
    · rintro rfl
      exact h p hlt ((hS _ _).2 (.inr (.inl ⟨p3, hs _ _ q3⟩)))
    · rcases (hS _ _).1 z with z | ⟨z1, z2⟩ | ⟨z1, z2⟩
      · exact h1 i hi z
      · exact h2 (lst_uniq R hs x q h1 q2 (ht _ _ _ (hs _ _ z2) (hs _ _ q3)))
      · have e := lst_uniq R hs x p h1 p2 (ht _ _ _ (hs _ _ z2) (hs _ _ p3))
        subst e; exact q2 i (by omega) (ht _ _ _ z1 (hs _ _ q3))
  rcases Nat.lt_or_gt_of_ne hpq with h | h
  · exact key p q a b h p2 q2 p3 q3 (by omega) hab hS
  · exact key q p b a h q2 p2 q3 p3 (by omega) (fun z => hab (hs _ _ z)) (fun x y => by rw [hS]; exact ⟨fun z => z.elim .inl (fun z => .inr (z.elim .inr .inl)), fun z => z.elim .inl (fun z => .inr (z.elim .inr .inl))⟩)
theorem closed_of_fwd (p : List Int) (n : Nat) (hp : inR n p) (hi : injR n p) (S : Nat → Prop) (h : ∀ k, k < n → S k → S (rd p k).toNat) : closedL [p] n S := by
  intro q hq k hk
  have e : q = p := by simpa using hq
  subst e; refine ⟨h k hk, fun hs => ?_⟩; obtain ⟨m, h1, h2⟩ := itr_back q n hp hi k (by omega)
  have g : ∀ (j : Nat) (x : Int), 0 ≤ x ∧ x < n → S x.toNat → S (itr q j x).toNat := by
    intro j
    induction j with
    | zero => intro x _ h; exact h
    | succ j ih =>
      intro x hx hsx; have := hp.2 x.toNat (by omega); have e := h x.toNat (by omega) hsx; rw [show ((x.toNat : Nat) : Int) = x by omega] at this e; exact ih _ this e
  have := g m (rd q k) (hp.2 k hk) hs; rw [show itr q m (rd q k) = itr q (m + 1) k from rfl, h2] at this
  simpa using this
theorem itr_reach (ps : List (List Int)) (p : List Int) (n : Nat) (hp : inR n p) (hm : p ∈ ps) : ∀ (k : Nat) (x : Int), 0 ≤ x ∧ x < n → Reach ps n x.toNat (itr p k x).toNat
  | 0, x, h => Reach.refl _ _ _
  | k + 1, x, h => by
    have h1 := hp.2 x.toNat (by omega); have h2 := Reach.step (ps := ps) (n := n) hm (k := x.toNat) (by omega); rw [show ((x.toNat : Nat) : Int) = x by omega] at h1 h2; exact h2.trans (itr_reach ps p n hp hm k _ h1)
theorem reach_itr (p : List Int) (n : Nat) (hp : inR n p) (hi : injR n p) (a b : Nat) (ha : a < n) (h : Reach [p] n a b) : ∃ k : Nat, itr p k (rd p a) = b := by
  have hc := closed_of_fwd p n hp hi (fun x => ∃ k : Nat, itr p k (rd p a) = x) (fun k hk ⟨m, hm⟩ => ⟨m + 1, by
    rw [itr_add p m 1, hm]; have := hp.2 k hk
    show rd p k = _
    omega⟩)
  obtain ⟨m, h1, h2⟩ := itr_back p n hp hi a (by omega); exact (h _ hc).1 ⟨m, h2⟩
theorem first_itr (p : List Int) (x : Int) (b : Int) (k : Nat) (h : itr p k x = b) : ∃ m, m ≤ k ∧ itr p m x = b ∧ ∀ j, j < m → itr p j x ≠ b := by
  induction k using Nat.strongRecOn with
  | ind k ih =>
    by_cases e : ∃ j, j < k ∧ itr p j x = b
    · obtain ⟨j, h1, h2⟩ := e
      obtain ⟨m, m1, m2, m3⟩ := ih j h1 h2; exact ⟨m, by omega, m2, m3⟩
    · exact ⟨k, Nat.le_refl _, h, fun j hj z => e ⟨j, hj, z⟩⟩
def Exch (n : Nat) (p q : List Int) (a b : Nat) : Prop := a < n ∧ b < n ∧ a ≠ b ∧ rd q a = rd p b ∧ rd q b = rd p a ∧ ∀ x : Nat, x < n → x ≠ a → x ≠ b → rd q x = rd p x
theorem Exch.symm {n : Nat} {p q : List Int} {a b : Nat} (h : Exch n p q a b) : Exch n q p a b := ⟨h.1, h.2.1, h.2.2.1, h.2.2.2.2.1.symm, h.2.2.2.1.symm, fun x hx h1 h2 => (h.2.2.2.2.2 x hx h1 h2).symm⟩
theorem exch_join {n : Nat} {p q : List Int} {a b : Nat} (hp : inR n p) (hq : inR n q) (ip : injR n p) (iq : injR n q) (h : Exch n p q a b) (hab : ¬ Reach [p] n a b) : Reach [q] n a b := by
  obtain ⟨ha, hb, hne, e1, e2, e3⟩ := h; obtain ⟨k, hk⟩ := reach_itr p n hp ip b b hb (Reach.refl _ _ _); obtain ⟨m, m1, m2, m3⟩ := first_itr p (rd p b) b k hk; have pb := hp.2 b hb
  have run : ∀ j, j ≤ m → Reach [q] n a (itr p j (rd p b)).toNat := by
    intro j
    induction j with
    | zero =>
      intro _; have := Reach.step (ps := [q]) (n := n) (p := q) (by simp) ha; rw [e1] at this; exact this
    | succ j ih =>
      intro hj; have h1 := ih (by omega); have h2 := itr_in p n hp j _ pb; have h3 := m3 j (by omega)
      have h4 : (itr p j (rd p b)).toNat ≠ a := by
        intro e
        apply hab
        have z := itr_reach [p] p n hp (by simp) (j + 1) (b : Int) (by omega); rw [show itr p (j + 1) (b : Int) = itr p j (rd p b) from rfl, e] at z; exact z.symm
      have s := Reach.step (ps := [q]) (n := n) (p := q) (by simp) (k := (itr p j (rd p b)).toNat) (by omega); rw [e3 _ (by omega) h4 (by omega), show (((itr p j (rd p b)).toNat : Nat) : Int) = itr p j (rd p b) by omega] at s; rw [itr_add p j 1]; exact h1.trans s
  have := run m (Nat.le_refl _); rw [m2] at this; exact this
theorem exch_split {n : Nat} {p q : List Int} {a b : Nat} (hp : inR n p) (hq : inR n q) (ip : injR n p) (iq : injR n q) (h : Exch n p q a b) (hab : Reach [p] n a b) : ¬ Reach [q] n a b := by
  obtain ⟨ha, hb, hne, e1, e2, e3⟩ := h; obtain ⟨k, hk⟩ := reach_itr p n hp ip b a hb hab.symm; obtain ⟨m, m1, m2, m3⟩ := first_itr p (rd p b) a k hk; have pb := hp.2 b hb
  have nb : ∀ j, j ≤ m → itr p j (rd p b) ≠ b := by
    intro j hj e
    by_cases ej : j = m
    · rw [ej, m2] at e
      omega
    · have : itr p (m - j - 1) (rd p b) = a := by
        have z : itr p m (rd p b) = itr p (m - j - 1) (rd p (itr p j (rd p b))) := by
          rw [show m = j + (1 + (m - j - 1)) by omega, itr_add, itr_add p 1]; rw [show j + (1 + (m - j - 1)) - j - 1 = m - j - 1 by omega]; rfl
        rw [e, m2] at z; exact z.symm
      exact m3 (m - j - 1) (by omega) this
  have hc := closed_of_fwd q n hq iq (fun x => ∃ j, j ≤ m ∧ itr p j (rd p b) = x) (fun x hx ⟨j, hj, hjx⟩ => by
    have qx := hq.2 x hx
    by_cases ex : x = a
    · subst ex
      exact ⟨0, by omega, by rw [e1]; show rd p b = _; omega⟩
    · have hxb : x ≠ b := by
        intro e; exact nb j hj (by rw [hjx, e])
      have jm : j ≠ m := by
        rintro rfl; rw [m2] at hjx; omega
      refine ⟨j + 1, by omega, ?_⟩; rw [itr_add p j 1, hjx, e3 x hx ex hxb]; have := hp.2 x hx
      show rd p x = _
      omega)
  intro hr; obtain ⟨j, hj, hjb⟩ := (hr _ hc).1 ⟨m, Nat.le_refl _, m2⟩; exact nb j hj hjb
theorem Cl.ex (n : Nat) (R : Nat → Nat → Prop) : ∃ k, Cl n R k ∧ k ≤ n := Cnt.ex _ n
theorem Cl.uniq {n : Nat} {R : Nat → Nat → Prop} {k l : Nat} (h : Cl n R k) (h' : Cl n R l) : k = l := Cnt.same h h' fun _ _ => Iff.rfl
theorem exch_rel {n : Nat} {p q : List Int} {a b : Nat} (hp : inR n p) (hq : inR n q) (ip : injR n p) (iq : injR n q) (h : Exch n p q a b) (hab : ¬ Reach [p] n a b) (x y : Nat) :
    Reach [q] n x y ↔ Reach [p] n x y ∨ (Reach [p] n x a ∧ Reach [p] n b y) ∨ (Reach [p] n x b ∧ Reach [p] n a y) := by
  have hj := exch_join hp hq ip iq h hab; obtain ⟨ha, hb, hne, e1, e2, e3⟩ := h
  have up : ∀ x y, Reach [p] n x y → Reach [q] n x y := by
    intro x y hr S hS
    refine hr S fun r hr' k hk => ?_
    have : r = p := by simpa using hr'
    subst this; have sq := hS q (by simp)
    by_cases ka : k = a
    · subst ka
      have z := sq b hb; rw [e2] at z; exact (hj S hS).trans z
    · by_cases kb : k = b
      · subst kb
        have z := sq a ha; rw [e1] at z; exact (hj S hS).symm.trans z
      · have z := sq k hk
        rw [e3 k hk ka kb] at z; exact z
  constructor
  · intro hr
    have hc : closedL [q] n (fun z => Reach [p] n x z ∨ (Reach [p] n x a ∧ Reach [p] n b z) ∨ (Reach [p] n x b ∧ Reach [p] n a z)) := by
      refine closed_of_fwd q n hq iq _ fun k hk hz => ?_
      have stp : ∀ z, z < n → Reach [p] n z (rd p z).toNat := fun z hz => Reach.step (by simp) hz
      by_cases ka : k = a
      · subst ka
        rw [e1]
        rcases hz with z | ⟨z1, z2⟩ | ⟨z1, z2⟩
        · exact .inr (.inl ⟨z, stp b hb⟩)
        · exact .inr (.inl ⟨z1, stp b hb⟩)
        · exact .inl (z1.trans (stp b hb))
      · by_cases kb : k = b
        · subst kb
          rw [e2]
          rcases hz with z | ⟨z1, z2⟩ | ⟨z1, z2⟩
          · exact .inr (.inr ⟨z, stp a ha⟩)
          · exact .inl (z1.trans (stp a ha))
          · exact .inr (.inr ⟨z1, stp a ha⟩)
        · rw [e3 k hk ka kb]
          have s := stp k hk
          rcases hz with z | ⟨z1, z2⟩ | ⟨z1, z2⟩
          · exact .inl (z.trans s)
          · exact .inr (.inl ⟨z1, z2.trans s⟩)
          · exact .inr (.inr ⟨z1, z2.trans s⟩)
    exact (hr _ hc).1 (.inl (Reach.refl _ _ _))
  · rintro (z | ⟨z1, z2⟩ | ⟨z1, z2⟩)
    · exact up _ _ z
    · exact (up _ _ z1).trans (hj.trans (up _ _ z2))
    · exact (up _ _ z1).trans (hj.symm.trans (up _ _ z2))
theorem exch_count {n : Nat} {p q : List Int} {a b k l : Nat} (hp : inR n p) (hq : inR n q) (ip : injR n p) (iq : injR n q) (h : Exch n p q a b) (hk : Cl n (Reach [p] n) k) (hl : Cl n (Reach [q] n) l) :
    (¬ Reach [p] n a b → l + 1 = k) ∧ (Reach [p] n a b → l = k + 1) := by
  have sy : ∀ p : List Int, ∀ x y, Reach [p] n x y → Reach [p] n y x := fun p x y h => h.symm
  have tr : ∀ p : List Int, ∀ x y z, Reach [p] n x y → Reach [p] n y z → Reach [p] n x z := fun p x y z h h' => h.trans h'
  constructor
  · intro hab
    have := Cl.merge (S := Reach [q] n) (fun x => Reach.refl _ _ x) (sy p) (tr p) hk a b h.1 h.2.1 hab (exch_rel hp hq ip iq h hab); have e := Cl.uniq hl this.2; omega
  · intro hab
    have hab' := exch_split hp hq ip iq h hab; have := Cl.merge (S := Reach [p] n) (fun x => Reach.refl _ _ x) (sy q) (tr q) hl a b h.1 h.2.1 hab' (exch_rel hq hp iq ip h.symm hab'); have e := Cl.uniq hk this.2; omega
theorem cw_ends (p : List Int) (n : Nat) (hp : inR n p) (a0 : Nat) (ha0 : a0 < n) (s0 : Nat → Prop) : ∀ (m : Nat) (s : List Bool) (c : List Int) (a : Nat), s.length = n → a < n → fresh s < m →
    (∀ x, x < n → s.getD x false = true → s.getD (rd p x).toNat false = true ∨ (rd p x).toNat = a) → Reach [p] n a0 a → (∀ x, x < n → s.getD x false = true → s0 x ∨ Reach [p] n a0 x) → (∀ x, s0 x → s.getD x false = true) → (s.getD a0 false = true ∨ a = a0) → (∀ x ∈ c, 0 ≤ x ∧ x < n ∧ Reach [p] n a0 x.toNat) → (a0 ≠ a → (a0 : Int) ∈ c) → (∀ x, x < n → s.getD x false = true → s0 x ∨ (x : Int) ∈ c) →
    (∀ x, x < n → (cw p m s c a).1.getD x false = true → (cw p m s c a).1.getD (rd p x).toNat false = true) ∧ (∀ x, x < n → (cw p m s c a).1.getD x false = true → s0 x ∨ Reach [p] n a0 x) ∧ (∀ x, s0 x → (cw p m s c a).1.getD x false = true) ∧ (cw p m s c a).1.getD a0 false = true ∧ (∀ x ∈ (cw p m s c a).2, 0 ≤ x ∧ x < n ∧ Reach [p] n a0 x.toNat) ∧ (∀ x, x < n → (cw p m s c a).1.getD x false = true → s0 x ∨ (x : Int) ∈ (cw p m s c a).2)
  | 0, s, c, a, hs, ha, hm, h1, h2, h3, h4, h5, h6, h7, h8 => absurd hm (Nat.not_lt_zero _)
  | m + 1, s, c, a, hs, ha, hm, h1, h2, h3, h4, h5, h6, h7, h8 => by
    simp only [cw]; rw [rdOf_nat s a (by omega), Int.toNat_natCast]
    by_cases e : s.getD a false = true
    · rw [if_pos e]
      refine ⟨fun x hx hsx => (h1 x hx hsx).elim id (fun z => by rw [z]; exact e), h3, h4, h5.elim id (fun z => by rw [← z]; exact e), h6, h8⟩
    · rw [if_neg e]
      have pr := hp.2 a ha
      have e0 : s.getD a false = false := by simpa using e
      have fr := fresh_set s a (by omega) e0
      have back : (((rd p a).toNat : Nat) : Int) = rd p a := by omega
      have st := Reach.step (ps := [p]) (n := n) (p := p) (by simp) ha; have ih := cw_ends p n hp a0 ha0 s0 m (s.set a true) (c ++ [(a : Int)]) (rd p a).toNat (by simpa using hs) (by omega) (by omega)
        (fun x hx hsx => by
          rw [getD_set _ _ _ _ (by omega)] at hsx ⊢
          by_cases z : a = x
          · subst z; exact .inr rfl
          · rw [if_neg z] at hsx
            by_cases y : a = (rd p x).toNat
            · rw [if_pos y]; exact .inl rfl
            · rw [if_neg y]
              exact .inl ((h1 x hx hsx).elim id (fun q => absurd q.symm y)))
        (h2.trans st)
        (fun x hx hsx => by
          rw [getD_set _ _ _ _ (by omega)] at hsx
          by_cases z : a = x
          · subst z; exact .inr h2
          · rw [if_neg z] at hsx
            exact h3 x hx hsx)
        (fun x hx => by
          rw [getD_set _ _ _ _ (by omega)]
          split
          · rfl
          · exact h4 x hx)
        (.inl (by
          rw [getD_set _ _ _ _ (by omega)]
          by_cases z : a = a0
          · rw [if_pos z]
          · rw [if_neg z]
            exact h5.elim id (fun q => absurd q z)))
        (fun x hx => by
          rw [List.mem_append, List.mem_singleton] at hx
          rcases hx with hx | rfl
          · exact h6 x hx
          · exact ⟨by omega, by omega, by rw [Int.toNat_natCast]; exact h2⟩)
        (fun _ => by
          rw [List.mem_append, List.mem_singleton]
          by_cases z : a0 = a
          · right; rw [z]
          · exact .inl (h7 z))
        (fun x hx hsx => by
          rw [List.mem_append, List.mem_singleton]; rw [getD_set _ _ _ _ (by omega)] at hsx
          by_cases z : a = x
          · subst z; exact .inr (.inr rfl)
          · rw [if_neg z] at hsx
            exact (h8 x hx hsx).imp id .inl)
      rw [back] at ih; exact ih
theorem cyS_seen (p : List Int) (n : Nat) (hp : inR n p) (hi : injR n p) : ∀ i, i ≤ n → ∀ x, x < n → ((cyS p n i).1.getD x false = true ↔ ∃ j, j < i ∧ Reach [p] n j x)
  | 0, _, x, hx => by
    constructor
    · intro h
      simp [cyS, List.getD_eq_getElem?_getD, List.getElem?_replicate, hx] at h
    · rintro ⟨j, hj, _⟩; omega
  | i + 1, hi', x, hx => by
    have ih := cyS_seen p n hp hi i (by omega); have l1 := cyS_len p n i; simp only [cyS]
    by_cases e : (cyS p n i).1.getD i false = true
    · rw [cw_seen p (n + 1) _ _ _ (by rw [rdOf_nat _ _ (by omega), Int.toNat_natCast]; exact e)]
      rw [ih x hx]; obtain ⟨q, q1, q2⟩ := (ih i (by omega)).1 e
      constructor
      · rintro ⟨j, hj, h⟩; exact ⟨j, by omega, h⟩
      · rintro ⟨j, hj, h⟩
        by_cases z : j = i
        · subst z; exact ⟨q, q1, q2.trans h⟩
        · exact ⟨j, by omega, h⟩
    · obtain ⟨w1, w2, w3, w4, w5, w6⟩ := cw_ends p n hp i (by omega) (fun x => x < n ∧ (cyS p n i).1.getD x false = true) (n + 1) (cyS p n i).1 [] i l1 (by omega) (by have := fresh_le (cyS p n i).1; omega)
        (fun y hy hsy => .inl (by
          have pr := hp.2 y hy; obtain ⟨j, hj, h⟩ := (ih y hy).1 hsy; exact (ih _ (by omega)).2 ⟨j, hj, h.trans (Reach.step (by simp) hy)⟩))
        (Reach.refl _ _ _) (fun y hy hsy => .inl ⟨hy, hsy⟩) (fun y hy => hy.2) (.inr rfl) (by simp) (fun z => absurd rfl z) (fun y hy hsy => .inl ⟨hy, hsy⟩)
      constructor
      · intro h
        rcases w2 x hx h with ⟨_, h⟩ | h
        · obtain ⟨j, hj, h⟩ := (ih x hx).1 h
          exact ⟨j, by omega, h⟩
        · exact ⟨i, by omega, h⟩
      · rintro ⟨j, hj, h⟩
        by_cases z : j = i
        · subst z
          have hc := closed_of_fwd p n hp hi (fun y => (cw p (n + 1) (cyS p n j).1 [] j).1.getD y false = true) w1; exact (h _ hc).1 w4
        · exact w3 x ⟨hx, (ih x hx).2 ⟨j, by omega, h⟩⟩
theorem Cnt.succ_yes {P : Nat → Prop} {i n k : Nat} (h : Cnt n (fun x => x < i ∧ P x) k) (hi : i < n) (hp : P i) : Cnt n (fun x => x < i + 1 ∧ P x) (k + 1) := by
  obtain ⟨L, h1, h2, h3⟩ := h; refine ⟨i :: L, List.nodup_cons.2 ⟨fun z => by have := ((h2 i).1 z).2.1; omega, h1⟩, fun x => ?_, by simp [h3]⟩; rw [List.mem_cons, h2]
  constructor
  · rintro (rfl | ⟨a, b, c⟩)
    · exact ⟨hi, by omega, hp⟩
    · exact ⟨a, by omega, c⟩
  · rintro ⟨a, b, c⟩
    by_cases e : x = i
    · exact .inl e
    · exact .inr ⟨a, by omega, c⟩
theorem Cnt.succ_no {P : Nat → Prop} {i n k : Nat} (h : Cnt n (fun x => x < i ∧ P x) k) (hp : ¬ P i) : Cnt n (fun x => x < i + 1 ∧ P x) k := by
  refine h.congr fun x hx => ⟨fun ⟨a, b⟩ => ⟨by omega, b⟩, fun ⟨a, b⟩ => ⟨?_, b⟩⟩
  by_cases e : x = i
  · exact absurd (e ▸ b) hp
  · omega
theorem Cnt.none {P : Nat → Prop} {n : Nat} (h : ∀ x, x < n → ¬ P x) : Cnt n P 0 := ⟨[], List.nodup_nil, fun x => ⟨fun z => by simp at z, fun z => absurd z.2 (h x z.1)⟩, rfl⟩
theorem cyS_cnt (p : List Int) (n : Nat) (hp : inR n p) (hi : injR n p) (ch : Int → Bool) : ∀ i, i ≤ n → Cnt n (fun x => x < i ∧ lst (Reach [p] n) x) (cyS p n i).2.length ∧ Cnt n (fun x => x < i ∧ (lst (Reach [p] n) x ∧ ∀ y, y < n → ch (y : Int) = true → ¬ Reach [p] n x y)) (bc (cyS p n i).2 ch (cyS p n i).2.length)
  | 0, _ => ⟨Cnt.none fun x _ z => by omega, Cnt.none fun x _ z => by omega⟩
  | i + 1, hi' => by
    obtain ⟨ih1, ih2⟩ := cyS_cnt p n hp hi ch i (by omega); have seen := cyS_seen p n hp hi i (by omega) i (by omega); have l1 := cyS_len p n i; simp only [cyS]
    by_cases e : (cyS p n i).1.getD i false = true
    · rw [cw_seen p (n + 1) _ _ _ (by rw [rdOf_nat _ _ (by omega), Int.toNat_natCast]; exact e)]
      rw [if_pos rfl]; obtain ⟨j, hj, h⟩ := seen.1 e
      have nl : ¬ lst (Reach [p] n) i := fun z => z j hj h
      exact ⟨ih1.succ_no nl, ih2.succ_no fun z => nl z.1⟩
    · have e' : ¬ rdOf false (cyS p n i).1 (i : Int) = true := by rw [rdOf_nat _ _ (by omega), Int.toNat_natCast]; exact e
      have hl : lst (Reach [p] n) i := fun j hj h => e (seen.2 ⟨j, hj, h⟩)
      obtain ⟨w1, w2, w3, w4, w5, w6⟩ := cw_ends p n hp i (by omega) (fun x => x < n ∧ (cyS p n i).1.getD x false = true) (n + 1) (cyS p n i).1 [] i l1 (by omega) (by have := fresh_le (cyS p n i).1; omega)
        (fun y hy hsy => .inl (by
          have pr := hp.2 y hy; obtain ⟨j, hj, h⟩ := (cyS_seen p n hp hi i (by omega) y hy).1 hsy; exact (cyS_seen p n hp hi i (by omega) _ (by omega)).2 ⟨j, hj, h.trans (Reach.step (by simp) hy)⟩))
        (Reach.refl _ _ _) (fun y hy hsy => .inl ⟨hy, hsy⟩) (fun y hy => hy.2) (.inr rfl) (by simp) (fun z => absurd rfl z) (fun y hy hsy => .inl ⟨hy, hsy⟩)
      have hc := closed_of_fwd p n hp hi (fun y => (cw p (n + 1) (cyS p n i).1 [] i).1.getD y false = true) w1; rw [if_neg (cw_new p n _ i e')]; rw [List.length_append, List.length_singleton]; refine ⟨ih1.succ_yes (by omega) hl, ?_⟩
      have bcp : ∀ (L : List (List Int)) (q : List Int) (j : Nat), j ≤ L.length → bc (L ++ [q]) ch j = bc L ch j := by
        intro L q j
        induction j with
        | zero => intro _; rfl
        | succ j ih =>
          intro hj; simp only [bc]; rw [ih (by omega), rdL_nth _ j (by simp; omega), rdL_nth L j (by omega), List.getElem_append_left (by omega)]
      have bcs : ∀ (L : List (List Int)) (q : List Int), bc (L ++ [q]) ch (L.length + 1) = if q.any ch = true then bc L ch L.length else bc L ch L.length + 1 := by
        intro L q; simp only [bc]; rw [bcp L q L.length (Nat.le_refl _), rdL_nth _ L.length (by simp), List.getElem_append_right (Nat.le_refl _)]
        simp
      rw [bcs]
      have key : (cw p (n + 1) (cyS p n i).1 [] i).2.any ch = true ↔ ∃ y, y < n ∧ ch (y : Int) = true ∧ Reach [p] n i y := by
        rw [List.any_eq_true]
        constructor
        · rintro ⟨x, hx, hcx⟩
          obtain ⟨a, b, c⟩ := w5 x hx; exact ⟨x.toNat, by omega, by rw [show ((x.toNat : Nat) : Int) = x by omega]; exact hcx, c⟩
        · rintro ⟨y, hy, hcy, h⟩
          have z := (h _ hc).1 w4
          rcases w6 y hy z with ⟨_, z⟩ | z
          · obtain ⟨j, hj, hr⟩ := (cyS_seen p n hp hi i (by omega) y hy).1 z
            exact absurd (hr.trans h.symm) (hl j hj)
          · exact ⟨y, z, hcy⟩
      by_cases ea : (cw p (n + 1) (cyS p n i).1 [] i).2.any ch = true
      · rw [if_pos ea]
        obtain ⟨y, hy, hcy, h⟩ := key.1 ea
        exact ih2.succ_no fun z => z.2 y hy hcy h
      · rw [if_neg ea]
        exact ih2.succ_yes (by omega) ⟨hl, fun y hy hcy h => ea (key.2 ⟨y, hy, hcy, h⟩)⟩
theorem cyS_cl (p : List Int) (n : Nat) (hp : inR n p) (hi : injR n p) : Cl n (Reach [p] n) (cyS p n n).2.length :=
  (cyS_cnt p n hp hi (fun _ => false) n (Nat.le_refl _)).1.congr fun x hx => ⟨fun z => z.2, fun z => ⟨hx, z⟩⟩
def sgL (t f : List Int) (n : Nat) (c : List Int) : List Int := (List.range n).map fun (d : Nat) => rd t (rd (flC f n c) (d : Int))
theorem sgL_len (t f : List Int) (n : Nat) (c : List Int) : (sgL t f n c).length = n := by simp [sgL]
theorem sgL_rd (t f : List Int) (n : Nat) (c : List Int) (d : Nat) (h : d < n) : rd (sgL t f n c) (d : Int) = rd t (rd (flC f n c) (d : Int)) := by
  rw [rd_lt _ _ (by simp [sgL]; exact h)]
  simp [sgL]
theorem sgL_inR (t f : List Int) (n : Nat) (ht : inR n t) (hf : inR n f) (c : List Int) : inR n (sgL t f n c) := by
  refine ⟨sgL_len t f n c, fun i hi => ?_⟩; rw [sgL_rd t f n c i hi]; have h1 := (flC_inR f n hf c).2 i hi; have h2 := ht.2 (rd (flC f n c) i).toNat (by omega)
  rwa [show (((rd (flC f n c) i).toNat : Nat) : Int) = rd (flC f n c) i by omega] at h2
theorem flC_inj (f : List Int) (n : Nat) (hf : inR n f) (hfl : ∀ i : Nat, i < n → flipAt f i) (c : List Int) : injR n (flC f n c) := by
  have inv : ∀ i : Nat, i < n → rd (flC f n c) (rd (flC f n c) i) = i := by
    intro i hi; have h1 := hf.2 i hi; have h3 := chB_flip f n hf hfl c i hi; rw [flC_rd f n c i hi]
    by_cases e : chB f n c i = true
    · rw [if_pos e]
      have := flC_rd f n c (rd f i).toNat (by omega); rw [show (((rd f i).toNat : Nat) : Int) = rd f i by omega, h3, if_pos e] at this; rw [this, (hfl i hi).2]
    · rw [if_neg e, flC_rd f n c i hi, if_neg e]
  intro i j hi hj e; have := inv i hi; rw [e, inv j hj] at this; omega
theorem sgL_inj (t f : List Int) (n : Nat) (ht : inR n t) (hti : injR n t) (hf : inR n f) (hfl : ∀ i : Nat, i < n → flipAt f i) (c : List Int) : injR n (sgL t f n c) := by
  intro i j hi hj e; rw [sgL_rd t f n c i hi, sgL_rd t f n c j hj] at e; have h1 := (flC_inR f n hf c).2 i hi; have h2 := (flC_inR f n hf c).2 j hj
  have e1 : (((rd (flC f n c) i).toNat : Nat) : Int) = rd (flC f n c) i := by omega
  have e2 : (((rd (flC f n c) j).toNat : Nat) : Int) = rd (flC f n c) j := by omega
  rw [← e1, ← e2] at e; have := hti _ _ (by omega) (by omega) e; exact flC_inj f n hf hfl c i j hi hj (by omega)
theorem perm_injR (l : List Int) (h : isPerm l) : injR l.length l := by
  intro i j hi hj e
  by_cases h1 : i < j
  · exact absurd e ((h.2.2 j hj).2.2 i h1)
  · by_cases h2 : j < i
    · exact absurd e.symm ((h.2.2 i hi).2.2 j h2)
    · omega
theorem ribOk_of (t f c : List Int) (h : isMap t f) (hc : isChoice c ((f.length : Int) / 2)) (hcl : c.length ≤ 1048576) : RibOk t f c t.length := by
  obtain ⟨pt, pf, e, fl, _⟩ := h
  have hf : inR t.length f := by rw [e]; exact isPerm_inR f pf
  have hfl : ∀ i : Nat, i < t.length → flipAt f i := fun i hi => fl i (by omega)
  refine ⟨pt.2.1, pt.1, isPerm_inR t pt, perm_injR t pt, hf, hfl, ?_, hcl⟩; have := edL_half f t.length hf hfl; rw [show (((edL f t.length).length : Nat) : Int) = (f.length : Int) / 2 by omega]; exact hc
theorem five_len (P S V c : Int) : (fiveN P S V c).length = 5 := rfl
def vt (C : List (List Int)) (n : Nat) : Nat → List Int
  | 0 => List.replicate n 0
  | q + 1 => (rd_L1 C q).foldl (fun o d => o.set d.toNat (q : Int)) (vt C n q)
theorem fold_len (v : Int) : ∀ (l o : List Int), (l.foldl (fun o d => o.set d.toNat v) o).length = o.length
  | [], o => rfl
  | x :: l, o => by
    rw [List.foldl_cons, fold_len v l]
    simp
theorem vt_len (C : List (List Int)) (n : Nat) : ∀ q, (vt C n q).length = n
  | 0 => by simp [vt]
  | q + 1 => by
    simp only [vt]; rw [fold_len, vt_len C n q]
theorem sv_l1 (C : List (List Int)) (n q : Nat) (hn : n ≤ 12) (hq : q < C.length) (hl : (∀ x ∈ rd_L1 C q, 0 ≤ x ∧ x < n) ∧ (rd_L1 C q).length ≤ n + 1) (r : List Int) : ∀ (d i : Nat) (o : List Int), (rd_L1 C q).length - i = d → i ≤ (rd_L1 C q).length → o.length = n →
    Ev (fun k => spec_l7Vertices.l0 k (((rd_L1 C q).drop i).foldl (fun o d => o.set d.toNat (q : Int)) o) C (wrap64 ((q : Int) + 1))) r → Ev (fun k => spec_l7Vertices.l1 k o C q i) r
  | 0, i, o, hd, hi, ho, h => by
    have : i = (rd_L1 C q).length := by omega
    rw [List.drop_eq_nil_of_le (by omega)] at h; refine Ev.s ?_; simp only [spec_l7Vertices.l1, show (0 : Int) ≤ (q : Int) by omega, show (q : Int) < (C.length : Int) by omega, show ¬ (i : Int) < ((rd_L1 C q).length : Int) by omega, if_true, if_false]; exact h
  | d + 1, i, o, hd, hi, ho, h => by
    have hlt : i < (rd_L1 C q).length := by omega
    have e := rd_lt _ i hlt; have hr := hl.1 _ (List.getElem_mem hlt); rw [List.drop_eq_getElem_cons hlt, List.foldl_cons, ← e] at h; rw [← e] at hr; refine Ev.s ?_; simp only [spec_l7Vertices.l1, show (0 : Int) ≤ (q : Int) by omega, show (q : Int) < (C.length : Int) by omega, show (i : Int) < ((rd_L1 C q).length : Int) by omega, show (0 : Int) ≤ (i : Int) by omega, hr.1, ho, hr.2, if_true, w64n (show i < 4611686018427387904 by omega)]; exact sv_l1 C n q hn hq hl r d (i + 1) _ (by omega) (by omega) (by simpa using ho) h
theorem sv_l0 (C : List (List Int)) (n : Nat) (hn : n ≤ 12) (hC : ∀ l ∈ C, (∀ x ∈ l, 0 ≤ x ∧ x < n) ∧ l.length ≤ n + 1) (hCl : C.length ≤ n) : ∀ (d q : Nat), C.length - q = d → q ≤ C.length → Ev (fun k => spec_l7Vertices.l0 k (vt C n q) C q) (vt C n C.length)
  | 0, q, hd, hq => by
    have : q = C.length := by omega
    subst this; refine Ev.s ?_; simp only [spec_l7Vertices.l0, show ¬ (C.length : Int) < (C.length : Int) by omega, if_false]; exact Ev.const rfl
  | d + 1, q, hd, hq => by
    have ih := sv_l0 C n hn hC hCl d (q + 1) (by omega) (by omega); have ok := rdL_ok C _ hC q (by omega); refine Ev.s ?_; simp only [spec_l7Vertices.l0, show (q : Int) < (C.length : Int) by omega, if_true]; refine sv_l1 C n q hn (by omega) ok _ _ 0 _ rfl (by omega) (vt_len C n q) ?_; rw [List.drop_zero, w64n (by omega)]; exact ih
theorem iv_l1 (C : List (List Int)) (n q : Nat) (hn : n ≤ 12) (hq : q < C.length) (hl : (∀ x ∈ rd_L1 C q, 0 ≤ x ∧ x < n) ∧ (rd_L1 C q).length ≤ n + 1) (r : List Int) : ∀ (d i : Nat) (o : List Int), (rd_L1 C q).length - i = d → i ≤ (rd_L1 C q).length → o.length = n →
    Ev (fun k => impl_vertexOf.l0 k (((rd_L1 C q).drop i).foldl (fun o d => o.set d.toNat (q : Int)) o) C C.length (wrap64 ((q : Int) + 1))) r → Ev (fun k => impl_vertexOf.l1 k o q C C.length q (rd_L1 C q) (rd_L1 C q).length i) r
  | 0, i, o, hd, hi, ho, h => by
    have : i = (rd_L1 C q).length := by omega
    rw [List.drop_eq_nil_of_le (by omega)] at h; refine Ev.s ?_; simp only [impl_vertexOf.l1, show ¬ (i : Int) < ((rd_L1 C q).length : Int) by omega, if_true, if_false]; exact h
  | d + 1, i, o, hd, hi, ho, h => by
    have hlt : i < (rd_L1 C q).length := by omega
    have e := rd_lt _ i hlt; have hr := hl.1 _ (List.getElem_mem hlt); rw [List.drop_eq_getElem_cons hlt, List.foldl_cons, ← e] at h; rw [← e] at hr; refine Ev.s ?_; simp only [impl_vertexOf.l1, show (i : Int) < ((rd_L1 C q).length : Int) by omega, show (0 : Int) ≤ (i : Int) by omega, hr.1, ho, hr.2, if_true, w64n (show i < 4611686018427387904 by omega)]; exact iv_l1 C n q hn hq hl r d (i + 1) _ (by omega) (by omega) (by simpa using ho) h
theorem iv_l0 (C : List (List Int)) (n : Nat) (hn : n ≤ 12) (hC : ∀ l ∈ C, (∀ x ∈ l, 0 ≤ x ∧ x < n) ∧ l.length ≤ n + 1) (hCl : C.length ≤ n) : ∀ (d q : Nat), C.length - q = d → q ≤ C.length → Ev (fun k => impl_vertexOf.l0 k (vt C n q) C C.length q) (vt C n C.length)
  | 0, q, hd, hq => by
    have : q = C.length := by omega
    subst this; refine Ev.s ?_; simp only [impl_vertexOf.l0, show ¬ (C.length : Int) < (C.length : Int) by omega, if_false]; exact Ev.const rfl
  | d + 1, q, hd, hq => by
    have ih := iv_l0 C n hn hC hCl d (q + 1) (by omega) (by omega); have ok := rdL_ok C _ hC q (by omega); refine Ev.s ?_; simp only [impl_vertexOf.l0, show (q : Int) < (C.length : Int) by omega, show (0 : Int) ≤ (q : Int) by omega, if_true]; refine iv_l1 C n q hn (by omega) ok _ _ 0 _ rfl (by omega) (vt_len C n q) ?_; rw [List.drop_zero, w64n (by omega)]; exact ih
def vtx (t : List Int) (n : Nat) : List Int := vt (cyS t n n).2 n (cyS t n n).2.length
theorem specVert_ev (t : List Int) (n : Nat) (hn : n ≤ 12) (ht : inR n t) : Ev (fun k => spec_l7Vertices.f k t) (vtx t n) := by
  unfold spec_l7Vertices.f
  rw [ht.1]; simp only [show (0 : Int) ≤ (n : Int) by omega, Int.toNat_natCast, show n ≤ 35184372088832 by omega, if_true]; refine Ev.bind (specCyc_ev t n (by omega) ht) ?_; exact sv_l0 _ n hn (cyS_ok t n ht n (Nat.le_refl _)) (cyS_many t n n) _ 0 rfl (by omega)
theorem implVert_ev (t f : List Int) (n : Nat) (hn : n ≤ 12) (ht : inR n t) : Ev (fun k => impl_vertexOf.f k t f) (vtx t n) := by
  unfold impl_vertexOf.f
  rw [ht.1]; simp only [show (0 : Int) ≤ (n : Int) by omega, Int.toNat_natCast, show n ≤ 35184372088832 by omega, if_true]; refine Ev.bind (implCyc_ev t n (by omega) ht) ?_; exact iv_l0 _ n hn (cyS_ok t n ht n (Nat.le_refl _)) (cyS_many t n n) _ 0 rfl (by omega)
theorem mem_restL (c : List Int) (m : Nat) (x : Int) : x ∈ restL c m ↔ ∃ j : Nat, j < m ∧ x = (j : Int) ∧ (j : Int) ∉ c := by
  unfold restL
  rw [List.mem_map]
  constructor
  · rintro ⟨j, hj, rfl⟩
    rw [List.mem_filter, List.mem_range] at hj; exact ⟨j, hj.1, rfl, by simpa using hj.2⟩
  · rintro ⟨j, h1, rfl, h2⟩
    exact ⟨j, by rw [List.mem_filter, List.mem_range]; exact ⟨h1, by simpa using h2⟩, rfl⟩
theorem choice_of (c : List Int) (m : Int) (h1 : ∀ x ∈ c, 0 ≤ x ∧ x < m) (h2 : c.Pairwise (· < ·)) : isChoice c m := by
  intro i hi; have e := rd_lt c i hi; have h := h1 _ (List.getElem_mem hi); rw [← e] at h; refine ⟨?_, h.2⟩
  cases i with
  | zero => rw [ahead_zero]; omega
  | succ i =>
    rw [ahead_succ, rd_lt c i (by omega), e]; exact List.pairwise_iff_getElem.1 h2 i (i + 1) (by omega) hi (by omega)
theorem restL_choice (c : List Int) (m : Nat) : isChoice (restL c m) m := by
  refine choice_of _ _ (fun x hx => ?_) ?_
  · obtain ⟨j, h1, rfl, _⟩ := (mem_restL c m x).1 hx
    omega
  · unfold restL
    rw [List.pairwise_map]; exact ((List.pairwise_lt_range (n := m)).filter _).imp (fun h => by omega)
theorem pc_cnt (o : List Int) : ∀ n, Cnt n (fun i => (i : Int) = rd o i) (pc o n)
  | 0 => ⟨[], List.nodup_nil, by simp, rfl⟩
  | n + 1 => by
    obtain ⟨L, h1, h2, h3⟩ := pc_cnt o n; simp only [pc]
    by_cases h : (n : Int) = rd o n
    · rw [if_pos h]
      refine ⟨n :: L, List.nodup_cons.2 ⟨fun z => by have := ((h2 n).1 z).1; omega, h1⟩, fun x => ?_, by simp [h3]⟩; rw [List.mem_cons, h2]
      constructor
      · rintro (rfl | ⟨a, b⟩)
        · exact ⟨by omega, h⟩
        · exact ⟨by omega, b⟩
      · rintro ⟨a, b⟩
        by_cases e : x = n
        · exact .inl e
        · exact .inr ⟨by omega, b⟩
    · rw [if_neg h]
      refine ⟨L, h1, fun x => ?_, h3⟩; rw [h2]
      constructor
      · rintro ⟨a, b⟩; exact ⟨by omega, b⟩
      · rintro ⟨a, b⟩
        by_cases e : x = n
        · exact absurd (e ▸ b) h
        · exact ⟨by omega, b⟩
theorem geL_lt (f : List Int) (n : Nat) (hf : inR n f) (hfl : ∀ i : Nat, i < n → flipAt f i) (d : Nat) (hd : d < n) : ∃ j : Nat, j < (edL f n).length ∧ rd (geL f n n) d = (j : Int) := by
  have l := least_lt f n hf hfl d hd; exact ⟨_, edL_lt f _ l.2 n l.1, geL_at f n hf hfl n (Nat.le_refl _) d hd l.1⟩
theorem one_or_two (t f : List Int) (n : Nat) (h1 : 1 ≤ n) (ht : inR n t) (hf : inR n f) (hfl : ∀ i : Nat, i < n → flipAt f i) (hcon : ∀ i j : Nat, i < n → j < n → Reach [t, f] n i j) (e : Nat) (he : e < (edL f n).length) (o : List Int) (ho : orbOk [t, flC f n (restL [(e : Int)] (edL f n).length)] n o) : pc o n = 1 ∨ pc o n = 2 := by
  obtain ⟨a, b, ha, hb, hab, e1, e2, e3, e4⟩ := edge_at f n hf hfl e he
  have hin : ∀ p ∈ [t, flC f n (restL [(e : Int)] (edL f n).length)], inR n p := by
    intro p hp
    rcases List.mem_cons.1 hp with rfl | hp
    · exact ht
    · rw [List.mem_singleton.1 hp]; exact flC_inR f n hf _
  have hS : ∀ z, z < n → Reach [t, flC f n (restL [(e : Int)] (edL f n).length)] n z a ∨ Reach [t, flC f n (restL [(e : Int)] (edL f n).length)] n z b := by
    intro z hz
    have hc : closedL [t, f] n (fun z => Reach [t, flC f n (restL [(e : Int)] (edL f n).length)] n z a ∨ Reach [t, flC f n (restL [(e : Int)] (edL f n).length)] n z b) := by
      intro p hp k hk
      rcases List.mem_cons.1 hp with rfl | hp
      · have s := Reach.step (ps := [p, flC f n (restL [(e : Int)] (edL f n).length)]) (n := n) (p := p) (by simp) hk
        exact ⟨fun h => h.imp (fun h => s.symm.trans h) (fun h => s.symm.trans h), fun h => h.imp (fun h => s.trans h) (fun h => s.trans h)⟩
      · rw [List.mem_singleton.1 hp]
        by_cases ka : k = a
        · subst ka
          rw [e2]; exact ⟨fun _ => .inr (Reach.refl _ _ _), fun _ => .inl (Reach.refl _ _ _)⟩
        · by_cases kb : k = b
          · subst kb
            rw [e3]; exact ⟨fun _ => .inl (Reach.refl _ _ _), fun _ => .inr (Reach.refl _ _ _)⟩
          · have s := Reach.step (ps := [t, flC f n (restL [(e : Int)] (edL f n).length)]) (n := n) (p := flC f n (restL [(e : Int)] (edL f n).length)) (by simp) hk
            obtain ⟨j, j1, j2⟩ := geL_lt f n hf hfl k hk
            have hch : chB f n (restL [(e : Int)] (edL f n).length) k = true := by
              unfold chB
              rw [j2]; refine decide_eq_true ((mem_restL _ _ _).2 ⟨j, j1, rfl, ?_⟩); rw [List.mem_singleton]; intro z; rw [z] at j2; exact ((e4 k hk).1 j2).elim ka kb
            rw [flC_rd f n _ k hk, if_pos hch] at s; exact ⟨fun h => h.imp (fun h => s.symm.trans h) (fun h => s.symm.trans h), fun h => h.imp (fun h => s.trans h) (fun h => s.trans h)⟩
    exact ((hcon z a hz ha) _ hc).2 (.inl (Reach.refl _ _ _))
  obtain ⟨L, l1, l2, l3⟩ := pc_cnt o n; have le2 := len_le_of_sub L [(rd o a).toNat, (rd o b).toNat] l1 (fun x hx => by
    have hx' := (l2 x).1 hx; have h2 : (x : Int) = rd o x := hx'.2
    rcases hS x hx'.1 with h | h
    · have := orbOk_const ho hin h
      rw [this] at h2; simp only [List.mem_cons, List.not_mem_nil, or_false]; omega
    · have := orbOk_const ho hin h
      rw [this] at h2; simp only [List.mem_cons, List.not_mem_nil, or_false]
      omega)
  have h0 := ho.1.2 0 h1; have m0 : 0 ∈ L := (l2 0).2 ⟨h1, by have := h0.1; have := h0.2.1; omega⟩; have := List.length_pos_of_mem m0; simp only [List.length_cons, List.length_nil] at le2; omega
def MapOk (t f : List Int) (n : Nat) : Prop := n ≤ 12 ∧ 1 ≤ n ∧ inR n t ∧ injR n t ∧ inR n f ∧ (∀ i : Nat, i < n → flipAt f i) ∧ ∀ i j : Nat, i < n → j < n → Reach [t, f] n i j
theorem mapOk_of (t f : List Int) (h : isMap t f) : MapOk t f t.length := by
  obtain ⟨hn, h1, ht, hti, hf, hfl, _, _⟩ := ribOk_of t f [] h (fun i hi => by simp at hi) (by simp); exact ⟨hn, h1, ht, hti, hf, hfl, by have := h.2.2.2.2; rwa [← h.2.2.1] at this⟩
theorem MapOk.rib {t f : List Int} {n : Nat} (h : MapOk t f n) {c : List Int} (hc : isChoice c ((edL f n).length : Int)) (hcl : c.length ≤ 1048576) : RibOk t f c n :=
  ⟨h.1, h.2.1, h.2.2.1, h.2.2.2.1, h.2.2.2.2.1, h.2.2.2.2.2.1, hc, hcl⟩
theorem chB_congr (f : List Int) (n : Nat) (c c' : List Int) (h : ∀ d : Nat, d < n → chB f n c (d : Int) = chB f n c' (d : Int)) : flC f n c = flC f n c' := by
  refine list_ext _ _ (by rw [flC_len, flC_len]) fun d hd => ?_
  rw [flC_len] at hd; rw [flC_rd f n c d hd, flC_rd f n c' d hd, h d hd]
theorem sgL_congr (t f : List Int) (n : Nat) (c c' : List Int) (h : flC f n c = flC f n c') : sgL t f n c = sgL t f n c' := by
  unfold sgL
  rw [h]
theorem mem_congr (f : List Int) (n : Nat) (c c' : List Int) (h : ∀ x, x ∈ c ↔ x ∈ c') : flC f n c = flC f n c' :=
  chB_congr f n c c' fun d _ => by unfold chB; rw [Bool.eq_iff_iff, decide_eq_true_eq, decide_eq_true_eq]; exact h _
theorem parts_cl (t f c : List Int) (n : Nat) (h1 : 1 ≤ n) (ht : inR n t) (hf : inR n f) (o : List Int) (ho : orbOk [t, flC f n c] n o) : Cl n (Reach [t, flC f n c] n) (pc o n) := by
  have hin : ∀ p ∈ [t, flC f n c], inR n p := by
    intro p hp
    rcases List.mem_cons.1 hp with rfl | hp
    · exact ht
    · rw [List.mem_singleton.1 hp]; exact flC_inR f n hf _
  refine (pc_cnt o n).congr fun x hx => ⟨fun h j hj hr => ?_, fun h => ?_⟩
  · have h1 := orbOk_const ho hin hr
    have h2 := ho.1.2 j (by omega); have h : (x : Int) = rd o x := h; omega
  · have h2 := ho.1.2 x hx
    by_cases e : rd o x = x
    · exact e.symm
    · exact absurd h2.2.2 (h _ (by omega))
theorem sg_flC (t f c : List Int) (n : Nat) (hf : inR n f) (x y : Nat) (h : Reach [sgL t f n c] n x y) : Reach [t, flC f n c] n x y := by
  intro S hS
  refine h S fun p hp k hk => ?_
  rw [List.mem_singleton.1 hp, sgL_rd t f n c k hk]; have fr := (flC_inR f n hf c).2 k hk; have h1 := hS (flC f n c) (by simp) k hk; have h2 := hS t (by simp) (rd (flC f n c) k).toNat (by omega); rw [show (((rd (flC f n c) k).toNat : Nat) : Int) = rd (flC f n c) k by omega] at h2; exact h1.trans h2
theorem add_edge (t f : List Int) (n : Nat) (H : MapOk t f n) (c : List Int) (e : Nat) (he : e < (edL f n).length) (hec : (e : Int) ∉ c) (a b : Nat) (ha : a < n) (hb : b < n) (hab : a ≠ b) (e2 : rd f a = b) (e3 : rd f b = a) (e4 : ∀ d : Nat, d < n → (rd (geL f n n) (d : Int) = e ↔ d = a ∨ d = b))
    (P S P' S' : Nat) (hP : Cl n (Reach [t, flC f n c] n) P) (hS : Cl n (Reach [sgL t f n c] n) S) (hP' : Cl n (Reach [t, flC f n (c ++ [(e : Int)])] n) P') (hS' : Cl n (Reach [sgL t f n (c ++ [(e : Int)])] n) S') :
    (Reach [t, flC f n c] n a b → P' = P) ∧ (¬ Reach [t, flC f n c] n a b → P' + 1 = P) ∧ (¬ Reach [sgL t f n c] n a b → S' + 1 = S) ∧ (Reach [sgL t f n c] n a b → S' = S + 1) := by
  obtain ⟨hn, h1, ht, hti, hf, hfl, hcon⟩ := id H
  have chA : ∀ d : Nat, d < n → chB f n (c ++ [(e : Int)]) (d : Int) = (chB f n c (d : Int) || decide (d = a ∨ d = b)) := by
    intro d hd
    unfold chB
    rw [Bool.eq_iff_iff, Bool.or_eq_true, decide_eq_true_eq, decide_eq_true_eq, decide_eq_true_eq, List.mem_append, List.mem_singleton, e4 d hd]
  have un : ∀ d : Nat, d < n → d = a ∨ d = b → chB f n c (d : Int) = false := by
    intro d hd h
    unfold chB
    rw [(e4 d hd).2 h]; exact decide_eq_false hec
  have fa : rd (flC f n c) a = a := by rw [flC_rd f n c a ha, un a ha (.inl rfl)]; simp
  have fb : rd (flC f n c) b = b := by rw [flC_rd f n c b hb, un b hb (.inr rfl)]; simp
  have fa' : rd (flC f n (c ++ [(e : Int)])) a = b := by rw [flC_rd f n _ a ha, chA a ha]; simp [e2]
  have fb' : rd (flC f n (c ++ [(e : Int)])) b = a := by rw [flC_rd f n _ b hb, chA b hb]; simp [e3]
  have fo : ∀ d : Nat, d < n → d ≠ a → d ≠ b → rd (flC f n (c ++ [(e : Int)])) d = rd (flC f n c) d := by
    intro d hd ka kb; rw [flC_rd f n _ d hd, flC_rd f n _ d hd, chA d hd]
    simp [ka, kb]
  have rel : ∀ x y, Reach [t, flC f n (c ++ [(e : Int)])] n x y ↔ Reach [t, flC f n c] n x y ∨ (Reach [t, flC f n c] n x a ∧ Reach [t, flC f n c] n b y) ∨ (Reach [t, flC f n c] n x b ∧ Reach [t, flC f n c] n a y) := by
    have up : ∀ x y, Reach [t, flC f n c] n x y → Reach [t, flC f n (c ++ [(e : Int)])] n x y := by
      intro x y h S hS
      refine h S fun p hp k hk => ?_
      rcases List.mem_cons.1 hp with rfl | hp
      · exact hS p (by simp) k hk
      · rw [List.mem_singleton.1 hp]
        by_cases ka : k = a
        · subst ka; rw [fa, Int.toNat_natCast]
        · by_cases kb : k = b
          · subst kb; rw [fb, Int.toNat_natCast]
          · rw [← fo k hk ka kb]
            exact hS _ (by simp) k hk
    have uab : Reach [t, flC f n (c ++ [(e : Int)])] n a b := by
      have := Reach.step (ps := [t, flC f n (c ++ [(e : Int)])]) (n := n) (p := flC f n (c ++ [(e : Int)])) (by simp) ha
      rwa [fa', Int.toNat_natCast] at this
    intro x y
    constructor
    · intro h
      refine (h (fun z => Reach [t, flC f n c] n x z ∨ (Reach [t, flC f n c] n x a ∧ Reach [t, flC f n c] n b z) ∨ (Reach [t, flC f n c] n x b ∧ Reach [t, flC f n c] n a z)) ?_).1 (.inl (Reach.refl _ _ _)); intro p hp k hk
      rcases List.mem_cons.1 hp with rfl | hp
      · have s := Reach.step (ps := [p, flC f n c]) (n := n) (p := p) (by simp) hk
        constructor
        · rintro (z | ⟨z1, z2⟩ | ⟨z1, z2⟩)
          · exact .inl (z.trans s)
          · exact .inr (.inl ⟨z1, z2.trans s⟩)
          · exact .inr (.inr ⟨z1, z2.trans s⟩)
        · rintro (z | ⟨z1, z2⟩ | ⟨z1, z2⟩)
          · exact .inl (z.trans s.symm)
          · exact .inr (.inl ⟨z1, z2.trans s.symm⟩)
          · exact .inr (.inr ⟨z1, z2.trans s.symm⟩)
      · rw [List.mem_singleton.1 hp]
        by_cases ka : k = a
        · subst ka
          rw [fa', Int.toNat_natCast]
          constructor
          · rintro (z | ⟨z1, z2⟩ | ⟨z1, z2⟩)
            · exact .inr (.inl ⟨z, Reach.refl _ _ _⟩)
            · exact .inr (.inl ⟨z1, Reach.refl _ _ _⟩)
            · exact .inl z1
          · rintro (z | ⟨z1, z2⟩ | ⟨z1, z2⟩)
            · exact .inr (.inr ⟨z, Reach.refl _ _ _⟩)
            · exact .inl z1
            · exact .inr (.inr ⟨z1, Reach.refl _ _ _⟩)
        · by_cases kb : k = b
          · subst kb
            rw [fb', Int.toNat_natCast]
            constructor
            · rintro (z | ⟨z1, z2⟩ | ⟨z1, z2⟩)
              · exact .inr (.inr ⟨z, Reach.refl _ _ _⟩)
              · exact .inl z1
              · exact .inr (.inr ⟨z1, Reach.refl _ _ _⟩)
            · rintro (z | ⟨z1, z2⟩ | ⟨z1, z2⟩)
              · exact .inr (.inl ⟨z, Reach.refl _ _ _⟩)
              · exact .inr (.inl ⟨z1, Reach.refl _ _ _⟩)
              · exact .inl z1
          · have s := Reach.step (ps := [t, flC f n c]) (n := n) (p := flC f n c) (by simp) hk
            rw [fo k hk ka kb]
            constructor
            · rintro (z | ⟨z1, z2⟩ | ⟨z1, z2⟩)
              · exact .inl (z.trans s)
              · exact .inr (.inl ⟨z1, z2.trans s⟩)
              · exact .inr (.inr ⟨z1, z2.trans s⟩)
            · rintro (z | ⟨z1, z2⟩ | ⟨z1, z2⟩)
              · exact .inl (z.trans s.symm)
              · exact .inr (.inl ⟨z1, z2.trans s.symm⟩)
              · exact .inr (.inr ⟨z1, z2.trans s.symm⟩)
    · rintro (z | ⟨z1, z2⟩ | ⟨z1, z2⟩)
      · exact up _ _ z
      · exact (up _ _ z1).trans (uab.trans (up _ _ z2))
      · exact (up _ _ z1).trans (uab.symm.trans (up _ _ z2))
  have ex : Exch n (sgL t f n c) (sgL t f n (c ++ [(e : Int)])) a b := by
    refine ⟨ha, hb, hab, ?_, ?_, fun x hx ka kb => ?_⟩
    · rw [sgL_rd t f n _ a ha, sgL_rd t f n _ b hb, fa', fb]
    · rw [sgL_rd t f n _ a ha, sgL_rd t f n _ b hb, fb', fa]
    · rw [sgL_rd t f n _ x hx, sgL_rd t f n _ x hx, fo x hx ka kb]
  have xc := exch_count (sgL_inR t f n ht hf c) (sgL_inR t f n ht hf _) (sgL_inj t f n ht hti hf hfl c) (sgL_inj t f n ht hti hf hfl _) ex hS hS'; refine ⟨fun h => ?_, fun h => ?_, xc.1, xc.2⟩
  · refine Cnt.same hP' hP fun x hx => ?_
    have : ∀ i, Reach [t, flC f n (c ++ [(e : Int)])] n i x ↔ Reach [t, flC f n c] n i x := fun i => by
      rw [rel]; exact ⟨fun z => z.elim id (fun z => z.elim (fun z => z.1.trans (h.trans z.2)) (fun z => z.1.trans (h.symm.trans z.2))), .inl⟩
    exact ⟨fun z i hi hr => z i hi ((this i).2 hr), fun z i hi hr => z i hi ((this i).1 hr)⟩
  · have := Cl.merge (S := Reach [t, flC f n (c ++ [(e : Int)])] n) (fun x => Reach.refl _ _ x) (fun _ _ h => h.symm) (fun _ _ _ h h' => h.trans h') hP a b ha hb h rel
    have u := Cl.uniq hP' this.2; omega
def Gen (t f : List Int) (n : Nat) (c : List Int) (K g : Nat) : Prop := ∃ P S V, Cl n (Reach [t, flC f n c] n) P ∧ Cl n (Reach [sgL t f n c] n) S ∧ Cl n (Reach [t] n) V ∧ 2 * P + K = V + S + 2 * g ∧ V ≤ K + P
theorem flC_nil (f : List Int) (n : Nat) : flC f n [] = stl n := by
  have := flC_zero f n []
  simpa using this
theorem gen_nil (t f : List Int) (n : Nat) (H : MapOk t f n) : Gen t f n [] 0 0 := by
  obtain ⟨hn, h1, ht, hti, hf, hfl, hcon⟩ := id H; obtain ⟨V, hV, _⟩ := Cl.ex n (Reach [t] n)
  have e1 : ∀ x y, Reach [t, flC f n []] n x y ↔ Reach [t] n x y := by
    intro x y
    constructor
    · intro h S hS
      refine h S fun p hp k hk => ?_
      rcases List.mem_cons.1 hp with rfl | hp
      · exact hS p (by simp) k hk
      · rw [List.mem_singleton.1 hp, flC_nil, stl_rd n k hk, Int.toNat_natCast]
    · intro h S hS
      exact h S fun p hp k hk => by rw [List.mem_singleton.1 hp]; exact hS t (by simp) k hk
  have e2 : sgL t f n [] = t := by
    refine list_ext _ _ (by rw [sgL_len, ht.1]) fun d hd => ?_
    rw [sgL_len] at hd; rw [sgL_rd t f n [] d hd, flC_nil, stl_rd n d hd]
  refine ⟨V, V, V, ?_, by rw [e2]; exact hV, hV, by omega, by omega⟩
  exact Cnt.congr hV fun x hx => ⟨fun z i hi hr => z i hi ((e1 i x).1 hr), fun z i hi hr => z i hi ((e1 i x).2 hr)⟩
theorem gen_step (t f : List Int) (n : Nat) (H : MapOk t f n) (c : List Int) (K g : Nat) (hG : Gen t f n c K g) (e : Nat) (he : e < (edL f n).length) (hec : (e : Int) ∉ c) : ∃ g', g ≤ g' ∧ Gen t f n (c ++ [(e : Int)]) (K + 1) g' := by
  obtain ⟨hn, h1, ht, hti, hf, hfl, hcon⟩ := id H; obtain ⟨P, S, V, hP, hS, hV, g1, g2⟩ := hG; obtain ⟨a, b, ha, hb, hab, _, e2, e3, e4⟩ := edge_at f n hf hfl e he; obtain ⟨P', hP', _⟩ := Cl.ex n (Reach [t, flC f n (c ++ [(e : Int)])] n); obtain ⟨S', hS', _⟩ := Cl.ex n (Reach [sgL t f n (c ++ [(e : Int)])] n); obtain ⟨x1, x2, x3, x4⟩ := add_edge t f n H c e he hec a b ha hb hab e2 e3 e4 P S P' S' hP hS hP' hS'
  by_cases r : Reach [t, flC f n c] n a b
  · have p1 := x1 r
    by_cases q : Reach [sgL t f n c] n a b
    · have s1 := x4 q
      exact ⟨g, Nat.le_refl _, P', S', V, hP', hS', hV, by omega, by omega⟩
    · have s1 := x3 q
      exact ⟨g + 1, by omega, P', S', V, hP', hS', hV, by omega, by omega⟩
  · have p1 := x2 r
    have s1 := x3 fun q => r (sg_flC t f c n hf a b q)
    exact ⟨g, Nat.le_refl _, P', S', V, hP', hS', hV, by omega, by omega⟩
theorem gen_run (t f : List Int) (n : Nat) (H : MapOk t f n) : ∀ (L c : List Int) (K g : Nat), Gen t f n c K g → L.Nodup → (∀ x ∈ L, 0 ≤ x ∧ x < (edL f n).length ∧ x ∉ c) → ∃ g', g ≤ g' ∧ Gen t f n (c ++ L) (K + L.length) g'
  | [], c, K, g, hG, _, _ => ⟨g, Nat.le_refl _, by simpa using hG⟩
  | x :: L, c, K, g, hG, hN, hL => by
    obtain ⟨n1, n2⟩ := List.nodup_cons.1 hN; have hx := hL x (by simp)
    have ex : ((x.toNat : Nat) : Int) = x := by omega
    obtain ⟨g1, l1, G1⟩ := gen_step t f n H c K g hG x.toNat (by omega) (by rw [ex]; exact hx.2.2); rw [ex] at G1; obtain ⟨g2, l2, G2⟩ := gen_run t f n H L (c ++ [x]) (K + 1) g1 G1 n2 (fun y hy => by
      have := hL y (by simp [hy]); refine ⟨this.1, this.2.1, fun z => ?_⟩; rw [List.mem_append, List.mem_singleton] at z; exact z.elim this.2.2 (fun z => n1 (z ▸ hy)))
    refine ⟨g2, by omega, ?_⟩; rw [List.append_assoc, List.singleton_append] at G2; rw [List.length_cons, show K + (L.length + 1) = K + 1 + L.length by omega]; exact G2
theorem gen_uniq {t f : List Int} {n : Nat} {c : List Int} {K g P S V : Nat} (hG : Gen t f n c K g) (hP : Cl n (Reach [t, flC f n c] n) P) (hS : Cl n (Reach [sgL t f n c] n) S) (hV : Cl n (Reach [t] n) V) : 2 * P + K = V + S + 2 * g ∧ V ≤ K + P := by
  obtain ⟨P', S', V', p, s, v, h1, h2⟩ := hG; rw [Cl.uniq hP p, Cl.uniq hS s, Cl.uniq hV v]; exact ⟨h1, h2⟩
theorem choice_nodup (c : List Int) (m : Int) (hc : isChoice c m) : c.Nodup := by
  rw [List.Nodup, List.pairwise_iff_getElem]; intro i j hi hj hij e; have := asc_mono c m hc j i hj hij; rw [rd_lt c i hi, rd_lt c j hj, e] at this; omega
theorem choice_mem (c : List Int) (m : Int) (hc : isChoice c m) (x : Int) (hx : x ∈ c) : 0 ≤ x ∧ x < m := by
  obtain ⟨i, hi, rfl⟩ := List.getElem_of_mem hx; have := choice_range c m hc i hi
  rwa [rd_lt c i hi] at this
def faces (t f : List Int) (n : Nat) : List Int := (List.range n).map fun (d : Nat) => rd t (rd f (d : Int))
theorem faces_len (t f : List Int) (n : Nat) : (faces t f n).length = n := by simp [faces]
theorem faces_rd (t f : List Int) (n d : Nat) (h : d < n) : rd (faces t f n) (d : Int) = rd t (rd f (d : Int)) := by
  rw [rd_lt _ _ (by simp [faces]; exact h)]
  simp [faces]
theorem flC_all (f : List Int) (n : Nat) (hf : inR n f) (hfl : ∀ i : Nat, i < n → flipAt f i) (c : List Int) (hc : ∀ j : Nat, j < (edL f n).length → (j : Int) ∈ c) : flC f n c = f := by
  refine list_ext _ _ (by rw [flC_len, hf.1]) fun d hd => ?_
  rw [flC_len] at hd; obtain ⟨j, j1, j2⟩ := geL_lt f n hf hfl d hd
  have : chB f n c (d : Int) = true := by
    unfold chB
    rw [j2]; exact decide_eq_true (hc j j1)
  rw [flC_rd f n c d hd, if_pos this]
theorem sgL_all (t f : List Int) (n : Nat) (c : List Int) (h : flC f n c = f) : sgL t f n c = faces t f n := by
  unfold sgL faces
  rw [h]
theorem rest_count (c : List Int) (m : Nat) (hc : isChoice c m) : (restL c m).length + c.length = m := by
  have h1 := len_le_of_sub ((restL c m).map Int.toNat ++ c.map Int.toNat) (List.range m) ?_ ?_
  · have h2 := len_le_of_sub (List.range m) ((restL c m).map Int.toNat ++ c.map Int.toNat) List.nodup_range ?_
    · simp only [List.length_append, List.length_map, List.length_range] at h1 h2
      omega
    · intro x hx
      rw [List.mem_range] at hx; rw [List.mem_append, List.mem_map, List.mem_map]
      by_cases e : (x : Int) ∈ c
      · exact .inr ⟨_, e, by omega⟩
      · exact .inl ⟨x, (mem_restL c m _).2 ⟨x, hx, rfl, e⟩, by omega⟩
  · have inj : ∀ L : List Int, L.Nodup → (∀ x ∈ L, 0 ≤ x) → (L.map Int.toNat).Nodup := by
      intro L hL h0; rw [List.Nodup, List.pairwise_map]; refine List.Pairwise.imp_of_mem ?_ hL; intro a b ha hb hab e; have := h0 a ha; have := h0 b hb; omega
    refine List.nodup_append.2 ⟨inj _ (choice_nodup _ _ (restL_choice c m)) (fun x hx => (choice_mem _ _ (restL_choice c m) x hx).1), inj _ (choice_nodup _ _ hc) (fun x hx => (choice_mem _ _ hc x hx).1), ?_⟩; intro a ha b hb e; obtain ⟨x, hx, rfl⟩ := List.mem_map.1 ha; obtain ⟨y, hy, rfl⟩ := List.mem_map.1 hb; obtain ⟨j, j1, rfl, j2⟩ := (mem_restL c m x).1 hx; have := (choice_mem _ _ hc y hy).1; exact j2 (by rw [show (j : Int) = y by omega]; exact hy)
  · intro x hx
    rw [List.mem_append, List.mem_map, List.mem_map] at hx; rw [List.mem_range]
    rcases hx with ⟨y, hy, rfl⟩ | ⟨y, hy, rfl⟩
    · have := choice_mem _ _ (restL_choice c m) y hy
      omega
    · have := choice_mem _ _ hc y hy
      omega
theorem five_math (t f c : List Int) (n : Nat) (H : MapOk t f n) (hc : isChoice c ((edL f n).length : Int)) (P S V F : Nat) (hP : Cl n (Reach [t, flC f n c] n) P) (hS : Cl n (Reach [sgL t f n c] n) S) (hV : Cl n (Reach [t] n) V) (hF : Cl n (Reach [faces t f n] n) F) :
    ∃ g G : Nat, 2 * P + c.length = V + S + 2 * g ∧ V ≤ c.length + P ∧ g ≤ G ∧ 2 + (edL f n).length = V + F + 2 * G := by
  obtain ⟨hn, h1, ht, hti, hf, hfl, hcon⟩ := id H; obtain ⟨g, _, G1⟩ := gen_run t f n H c [] 0 0 (gen_nil t f n H) (choice_nodup _ _ hc) (fun x hx => by have := choice_mem _ _ hc x hx; exact ⟨this.1, this.2, by simp⟩); rw [List.nil_append, Nat.zero_add] at G1; obtain ⟨u1, u2⟩ := gen_uniq G1 hP hS hV; obtain ⟨G, l2, G2⟩ := gen_run t f n H (restL c (edL f n).length) c c.length g G1 (choice_nodup _ _ (restL_choice _ _)) (fun x hx => by
    have := choice_mem _ _ (restL_choice c (edL f n).length) x hx; obtain ⟨j, _, rfl, j2⟩ := (mem_restL _ _ x).1 hx; exact ⟨this.1, this.2, j2⟩)
  have ea : flC f n (c ++ restL c (edL f n).length) = f := flC_all f n hf hfl _ fun j hj => by
    rw [List.mem_append]
    by_cases e : (j : Int) ∈ c
    · exact .inl e
    · exact .inr ((mem_restL _ _ _).2 ⟨j, hj, rfl, e⟩)
  have cnt := rest_count c (edL f n).length hc
  have one : Cl n (Reach [t, flC f n (c ++ restL c (edL f n).length)] n) 1 := by
    rw [ea]; refine ⟨[0], by simp, fun x => ?_, rfl⟩; rw [List.mem_singleton]
    constructor
    · rintro rfl
      exact ⟨by omega, fun i hi _ => by omega⟩
    · rintro ⟨hx, hl⟩
      by_cases e : x = 0
      · exact e
      · exact absurd (hcon 0 x (by omega) hx) (hl 0 (by omega))
  obtain ⟨v1, v2⟩ := gen_uniq G2 one (by rw [sgL_all t f n _ ea]; exact hF) hV; exact ⟨g, G, u1, u2, l2, by omega⟩
theorem perm_of (l : List Int) (n : Nat) (h1 : 1 ≤ n) (h12 : n ≤ 12) (hl : inR n l) (hi : injR n l) : isPerm l := by
  refine ⟨by rw [hl.1]; exact h1, by rw [hl.1]; exact h12, fun i hi' => ?_⟩; rw [hl.1] at hi'; have := hl.2 i hi'; refine ⟨this.1, by rw [hl.1]; exact this.2, fun k hk e => ?_⟩; have := hi k i (by omega) hi' e; omega
theorem flip_inj (f : List Int) (n : Nat) (hf : inR n f) (hfl : ∀ i : Nat, i < n → flipAt f i) : injR n f := by
  intro i j hi hj e; have h1 := (hfl i hi).2; rw [e, (hfl j hj).2] at h1; omega
theorem isMap_of {t f : List Int} {n : Nat} (H : MapOk t f n) : isMap t f := by
  obtain ⟨hn, h1, ht, hti, hf, hfl, hcon⟩ := H; refine ⟨perm_of t n h1 hn ht hti, perm_of f n h1 hn hf (flip_inj f n hf hfl), by rw [ht.1, hf.1], ?_, ?_⟩
  · rw [hf.1]; exact hfl
  · rw [hf.1]; exact hcon
theorem faces_inR (t f : List Int) (n : Nat) (ht : inR n t) (hf : inR n f) : inR n (faces t f n) := by
  refine ⟨faces_len t f n, fun i hi => ?_⟩; rw [faces_rd t f n i hi]; have h1 := hf.2 i hi; have h2 := ht.2 (rd f i).toNat (by omega)
  rwa [show (((rd f i).toNat : Nat) : Int) = rd f i by omega] at h2
theorem faces_inj (t f : List Int) (n : Nat) (ht : inR n t) (hti : injR n t) (hf : inR n f) (hfl : ∀ i : Nat, i < n → flipAt f i) : injR n (faces t f n) := by
  intro i j hi hj e; rw [faces_rd t f n i hi, faces_rd t f n j hj] at e; have h1 := hf.2 i hi; have h2 := hf.2 j hj
  have e1 : (((rd f i).toNat : Nat) : Int) = rd f i := by omega
  have e2 : (((rd f j).toNat : Nat) : Int) = rd f j := by omega
  rw [← e1, ← e2] at e; have := hti _ _ (by omega) (by omega) e; exact flip_inj f n hf hfl i j hi hj (by omega)
theorem chB_rest (f : List Int) (n : Nat) (hf : inR n f) (hfl : ∀ i : Nat, i < n → flipAt f i) (c : List Int) (d : Nat) (hd : d < n) : chB f n (restL c (edL f n).length) (d : Int) = !chB f n c (d : Int) := by
  obtain ⟨j, j1, j2⟩ := geL_lt f n hf hfl d hd
  unfold chB
  rw [j2]
  by_cases e : (j : Int) ∈ c
  · rw [decide_eq_true e]
    exact decide_eq_false fun z => by
      obtain ⟨q, _, e1, e2⟩ := (mem_restL _ _ _).1 z; exact e2 (e1 ▸ e)
  · rw [decide_eq_false e]
    exact decide_eq_true ((mem_restL _ _ _).2 ⟨j, j1, rfl, e⟩)
theorem surj (t : List Int) (n : Nat) (ht : inR n t) (hti : injR n t) (i : Nat) (hi : i < n) : ∃ j : Nat, j < n ∧ rd t j = i := by
  obtain ⟨k, _, h2⟩ := itr_back t n ht hti i (by omega); have hin := itr_in t n ht k i (by omega); refine ⟨(itr t k i).toNat, by omega, ?_⟩; rw [show (((itr t k i).toNat : Nat) : Int) = itr t k i by omega]; have := itr_add t k 1 (i : Int); rw [h2] at this; exact this.symm
theorem cyS_reps (p : List Int) (n : Nat) (hp : inR n p) (hi : injR n p) : ∀ i, i ≤ n → ∃ reps : List Nat, reps.length = (cyS p n i).2.length ∧ reps.Nodup ∧ (∀ j, j ∈ reps ↔ j < i ∧ lst (Reach [p] n) j) ∧ ∀ (q : Nat) (h : q < reps.length) (x : Nat), x < n → ((x : Int) ∈ rd_L1 (cyS p n i).2 q ↔ Reach [p] n reps[q] x)
  | 0, _ => ⟨[], by simp [cyS], List.nodup_nil, by simp, fun q h => by simp at h⟩
  | i + 1, hi' => by
    obtain ⟨reps, r1, r2, r3, r4⟩ := cyS_reps p n hp hi i (by omega); have seen := cyS_seen p n hp hi i (by omega) i (by omega); have l1 := cyS_len p n i; simp only [cyS]
    by_cases e : (cyS p n i).1.getD i false = true
    · rw [cw_seen p (n + 1) _ _ _ (by rw [rdOf_nat _ _ (by omega), Int.toNat_natCast]; exact e)]
      rw [if_pos rfl]; obtain ⟨j, hj, h⟩ := seen.1 e; refine ⟨reps, r1, r2, fun q => ?_, r4⟩; rw [r3]
      constructor
      · rintro ⟨a, b⟩; exact ⟨by omega, b⟩
      · rintro ⟨a, b⟩
        by_cases z : q = i
        · subst z; exact absurd h (b j hj)
        · exact ⟨by omega, b⟩
    · have e' : ¬ rdOf false (cyS p n i).1 (i : Int) = true := by rw [rdOf_nat _ _ (by omega), Int.toNat_natCast]; exact e
      have hl : lst (Reach [p] n) i := fun j hj h => e (seen.2 ⟨j, hj, h⟩)
      obtain ⟨w1, w2, w3, w4, w5, w6⟩ := cw_ends p n hp i (by omega) (fun x => x < n ∧ (cyS p n i).1.getD x false = true) (n + 1) (cyS p n i).1 [] i l1 (by omega) (by have := fresh_le (cyS p n i).1; omega)
        (fun y hy hsy => .inl (by
          have pr := hp.2 y hy; obtain ⟨j, hj, h⟩ := (cyS_seen p n hp hi i (by omega) y hy).1 hsy; exact (cyS_seen p n hp hi i (by omega) _ (by omega)).2 ⟨j, hj, h.trans (Reach.step (by simp) hy)⟩))
        (Reach.refl _ _ _) (fun y hy hsy => .inl ⟨hy, hsy⟩) (fun y hy => hy.2) (.inr rfl) (by simp) (fun z => absurd rfl z) (fun y hy hsy => .inl ⟨hy, hsy⟩)
      have hc := closed_of_fwd p n hp hi (fun y => (cw p (n + 1) (cyS p n i).1 [] i).1.getD y false = true) w1; rw [if_neg (cw_new p n _ i e')]; refine ⟨reps ++ [i], by rw [List.length_append, List.length_append, r1]; rfl, List.nodup_append.2 ⟨r2, by simp, fun a ha b hb z => ?_⟩, fun q => ?_, fun q hq x hx => ?_⟩
      · have := ((r3 a).1 ha).1
        rw [List.mem_singleton] at hb; omega
      · rw [List.mem_append, List.mem_singleton, r3]
        constructor
        · rintro (⟨a, b⟩ | rfl)
          · exact ⟨by omega, b⟩
          · exact ⟨by omega, hl⟩
        · rintro ⟨a, b⟩
          by_cases z : q = i
          · exact .inr z
          · exact .inl ⟨by omega, b⟩
      · by_cases hq' : q < reps.length
        · rw [rdL_nth _ q (by simp; omega), List.getElem_append_left (by omega), List.getElem_append_left hq', ← rdL_nth _ q (by omega)]
          exact r4 q hq' x hx
        · have hq2 : q = reps.length := by simp at hq; omega
          subst hq2; rw [rdL_nth _ _ (by simp; omega), List.getElem_append_right (by omega), List.getElem_append_right (Nat.le_refl _)]; simp only [r1, Nat.sub_self, List.getElem_cons_zero]
          constructor
          · intro hm
            have := (w5 x hm).2.2
            rwa [Int.toNat_natCast] at this
          · intro h
            have z := (h _ hc).1 w4
            rcases w6 x hx z with ⟨_, z⟩ | z
            · obtain ⟨j, hj, hr⟩ := (cyS_seen p n hp hi i (by omega) x hx).1 z
              exact absurd (hr.trans h.symm) (hl j hj)
            · exact z
theorem fold_rd (v : Int) (n : Nat) : ∀ (l o : List Int), o.length = n → (∀ x ∈ l, 0 ≤ x ∧ x < n) → ∀ x : Nat, x < n → rd (l.foldl (fun o d => o.set d.toNat v) o) (x : Int) = if (x : Int) ∈ l then v else rd o (x : Int)
  | [], o, ho, hl, x, hx => by simp
  | y :: l, o, ho, hl, x, hx => by
    have hy := hl y (by simp); rw [List.foldl_cons, fold_rd v n l _ (by simpa using ho) (fun z hz => hl z (by simp [hz])) x hx]
    by_cases e : (x : Int) ∈ l
    · rw [if_pos e, if_pos (by simp [e])]
    · rw [if_neg e]
      by_cases e2 : y.toNat = x
      · subst e2
        rw [rd_set_self _ _ _ (by omega), if_pos]; rw [show ((y.toNat : Nat) : Int) = y by omega]
        simp
      · rw [rd_set_ne _ _ _ _ e2, if_neg]
        rw [List.mem_cons]; rintro (z | z)
        · omega
        · exact e z
theorem vt_rd (C : List (List Int)) (n : Nat) (hC : ∀ l ∈ C, (∀ x ∈ l, 0 ≤ x ∧ x < n) ∧ l.length ≤ n + 1) (x : Nat) (hx : x < n) (q : Nat) (hxq : (x : Int) ∈ rd_L1 C q) (hu : ∀ q', q' < C.length → (x : Int) ∈ rd_L1 C q' → q' = q) : ∀ Q, Q ≤ C.length → q < Q → rd (vt C n Q) (x : Int) = q
  | Q + 1, hQ, h => by
    simp only [vt]; rw [fold_rd _ n _ _ (vt_len C n Q) (rdL_ok C _ hC Q (by omega)).1 x hx]
    by_cases e : (x : Int) ∈ rd_L1 C Q
    · rw [if_pos e, hu Q (by omega) e]
    · rw [if_neg e]
      have : q ≠ Q := by rintro rfl; exact e hxq
      exact vt_rd C n hC x hx q hxq hu Q (by omega) (by omega)
theorem nodup_at (l : List Nat) (h : l.Nodup) (i j : Nat) (hi : i < l.length) (hj : j < l.length) (e : l[i] = l[j]) : i = j := by
  rw [List.Nodup, List.pairwise_iff_getElem] at h
  by_cases a : i < j
  · exact absurd e (h i j hi hj a)
  · by_cases b : j < i
    · exact absurd e.symm (h j i hj hi b)
    · omega
theorem vtx_same (t : List Int) (n : Nat) (ht : inR n t) (hti : injR n t) (x y : Nat) (hx : x < n) (hy : y < n) : rd (vtx t n) (x : Int) = rd (vtx t n) (y : Int) ↔ Reach [t] n x y := by
  obtain ⟨reps, r1, r2, r3, r4⟩ := cyS_reps t n ht hti n (Nat.le_refl _)
  have at_ : ∀ x, x < n → ∃ (q : Nat) (h : q < reps.length), Reach [t] n reps[q] x ∧ rd (vtx t n) (x : Int) = q := by
    intro x hx; obtain ⟨j, j1, j2, j3⟩ := lst_ex (Reach [t] n) (fun x => Reach.refl _ _ x) (fun _ _ h => h.symm) (fun _ _ _ h h' => h.trans h') x; obtain ⟨q, hq, e⟩ := List.getElem_of_mem ((r3 j).2 ⟨by omega, j2⟩); refine ⟨q, hq, by rw [e]; exact j3, ?_⟩; refine vt_rd _ n (cyS_ok t n ht n (Nat.le_refl _)) x hx q ((r4 q hq x hx).2 (by rw [e]; exact j3)) (fun q' hq' hm => ?_) _ (Nat.le_refl _) (by omega)
    have hq2 : q' < reps.length := by omega
    have hr := (r4 q' hq2 x hx).1 hm; have ll := ((r3 reps[q']).1 (List.getElem_mem hq2)).2; have := lst_uniq _ (fun _ _ h => h.symm) _ _ ll j2 (hr.trans j3.symm); rw [← e] at this; exact nodup_at reps r2 _ _ hq2 hq this
  obtain ⟨q, hq, a1, a2⟩ := at_ x hx; obtain ⟨q', hq', b1, b2⟩ := at_ y hy; rw [a2, b2]
  constructor
  · intro e
    have : q = q' := by omega
    subst this; exact a1.symm.trans b1
  · intro h
    have l1 := ((r3 reps[q]).1 (List.getElem_mem hq)).2; have l2 := ((r3 reps[q']).1 (List.getElem_mem hq')).2; have := lst_uniq _ (fun _ _ h => h.symm) _ _ l1 l2 ((a1.trans h).trans b1.symm); rw [nodup_at reps r2 _ _ hq hq' this]
theorem vt_range (C : List (List Int)) (n : Nat) (hC : ∀ l ∈ C, (∀ x ∈ l, 0 ≤ x ∧ x < n) ∧ l.length ≤ n + 1) (x : Nat) (hx : x < n) : ∀ Q, Q ≤ C.length → 0 ≤ rd (vt C n Q) (x : Int) ∧ (rd (vt C n Q) (x : Int) < Q ∨ rd (vt C n Q) (x : Int) = 0)
  | 0, _ => by
    have : rd (vt C n 0) (x : Int) = 0 := by
      simp only [vt]; rw [rd_lt _ _ (by simpa using hx)]
      simp
    omega
  | Q + 1, hQ => by
    have ih := vt_range C n hC x hx Q (by omega); simp only [vt]; rw [fold_rd _ n _ _ (vt_len C n Q) (rdL_ok C _ hC Q (by omega)).1 x hx]
    split <;> omega
theorem cyS_next (p : List Int) (n i : Nat) (e : ¬ rdOf false (cyS p n i).1 (i : Int) = true) : (cyS p n (i + 1)).2.length = (cyS p n i).2.length + 1 := by
  simp only [cyS]; rw [if_neg (cw_new p n _ i e)]
  simp
theorem cyS_one (p : List Int) (n : Nat) (h1 : 1 ≤ n) : ∀ i, 1 ≤ i → 1 ≤ (cyS p n i).2.length
  | 1, _ => by
    have this : ¬ rdOf false (cyS p n 0).1 ((0 : Nat) : Int) = true := by
      show ¬ rdOf false (List.replicate n false) ((0 : Nat) : Int) = true
      rw [rdOf_nat _ _ (by omega), Int.toNat_natCast, List.getD_eq_getElem?_getD, List.getElem?_replicate, if_pos (show 0 < n by omega)]
      simp
    have h := cyS_next p n 0 this
    show 1 ≤ (cyS p n (0 + 1)).2.length
    omega
  | i + 2, _ => by
    have ih := cyS_one p n h1 (i + 1) (by omega); rw [cyS]; simp only
    split
    · exact ih
    · simp
theorem vtx_len (t : List Int) (n : Nat) : (vtx t n).length = n := vt_len _ n _
theorem vtx_range (t : List Int) (n : Nat) (h1 : 1 ≤ n) (ht : inR n t) (x : Nat) (hx : x < n) : 0 ≤ rd (vtx t n) (x : Int) ∧ rd (vtx t n) (x : Int) < ((cyS t n n).2.length : Int) := by
  have := vt_range _ n (cyS_ok t n ht n (Nat.le_refl _)) x hx (cyS t n n).2.length (Nat.le_refl _); have h0 := cyS_one t n h1 n h1
  unfold vtx
  omega
def ctv (A f : List Int) (v j : Int) (e : Nat) : Int := if rd A (e : Int) = v ∧ ¬ rd A (rd f (e : Int)) = v then (if j = v then 1 else if j = rd A (rd f (e : Int)) then -1 else 0) else 0
def SS (A f : List Int) (d : Nat) (v j : Int) : Int := sm d (ctv A f v j)
theorem ctv_small (A f : List Int) (v j : Int) (e : Nat) : -1 ≤ ctv A f v j e ∧ ctv A f v j e ≤ 1 := by
  unfold ctv
  split
  · split
    · omega
    · split <;> omega
  · omega
theorem SS_small (A f : List Int) (v j : Int) : ∀ d : Nat, -(d : Int) ≤ SS A f d v j ∧ SS A f d v j ≤ d
  | 0 => by simp [SS, sm]
  | d + 1 => by
    have ih := SS_small A f v j d; have h := ctv_small A f v j d; simp only [SS, sm] at ih ⊢; omega
def rowS (A f : List Int) (o m d : Nat) (v : Int) : List Int := (List.range m).map fun (j : Nat) => SS A f d v ((o + j : Nat) : Int)
theorem rowS_len (A f : List Int) (o m d : Nat) (v : Int) : (rowS A f o m d v).length = m := by simp [rowS]
theorem rowS_rd (A f : List Int) (o m d : Nat) (v : Int) (j : Nat) (h : j < m) : rd (rowS A f o m d v) (j : Int) = SS A f d v ((o + j : Nat) : Int) := by
  rw [rd_lt _ _ (by rw [rowS_len]; exact h)]
  simp [rowS]
theorem rowS_zero (A f : List Int) (o m : Nat) (v : Int) : rowS A f o m 0 v = List.replicate m 0 := by
  refine list_ext _ _ (by simp [rowS_len]) fun j hj => ?_
  rw [rowS_len] at hj; rw [rowS_rd _ _ _ _ _ _ j hj, rd_lt _ _ (by simpa using hj)]
  simp [SS, sm]
theorem rowS_no (A f : List Int) (o m d : Nat) (v : Int) (h : ¬ (rd A (d : Int) = v ∧ ¬ rd A (rd f (d : Int)) = v)) : rowS A f o m (d + 1) v = rowS A f o m d v := by
  refine list_ext _ _ (by simp [rowS_len]) fun j hj => ?_
  rw [rowS_len] at hj; rw [rowS_rd _ _ _ _ _ _ j hj, rowS_rd _ _ _ _ _ _ j hj]; simp only [SS, sm]; rw [show ctv A f v ((o + j : Nat) : Int) d = 0 by unfold ctv; rw [if_neg h]]; omega
theorem rowS_one (A f : List Int) (o m d a : Nat) (ha : a < m) (h1 : rd A (d : Int) = ((o + a : Nat) : Int)) (hx : ¬ rd A (rd f (d : Int)) = ((o + a : Nat) : Int)) (hout : ∀ b : Nat, b < m → rd A (rd f (d : Int)) ≠ ((o + b : Nat) : Int)) :
    (rowS A f o m d ((o + a : Nat) : Int)).set a (SS A f d ((o + a : Nat) : Int) ((o + a : Nat) : Int) + 1) = rowS A f o m (d + 1) ((o + a : Nat) : Int) := by
  refine list_ext _ _ (by simp [rowS_len]) fun j hj => ?_
  have hj' : j < m := by simpa [rowS_len] using hj
  rw [rowS_rd _ _ _ _ _ _ j hj']; simp only [SS, sm]
  by_cases e : a = j
  · subst e
    rw [rd_set_self _ _ _ (by rw [rowS_len]; exact ha)]
    have : ctv A f ((o + a : Nat) : Int) ((o + a : Nat) : Int) d = 1 := by
      unfold ctv
      rw [if_pos ⟨h1, hx⟩, if_pos rfl]
    rw [this]
  · rw [rd_set_ne _ _ _ _ e, rowS_rd _ _ _ _ _ _ j hj']
    have : ctv A f ((o + a : Nat) : Int) ((o + j : Nat) : Int) d = 0 := by
      unfold ctv
      rw [if_pos ⟨h1, hx⟩, if_neg (by omega), if_neg (fun z => hout j hj' z.symm)]
    rw [this]; simp only [SS]; omega
theorem rowS_two (A f : List Int) (o m d a b : Nat) (ha : a < m) (hb : b < m) (hab : a ≠ b) (h1 : rd A (d : Int) = ((o + a : Nat) : Int)) (h2 : rd A (rd f (d : Int)) = ((o + b : Nat) : Int)) :
    ((rowS A f o m d ((o + a : Nat) : Int)).set a (SS A f d ((o + a : Nat) : Int) ((o + a : Nat) : Int) + 1)).set b (SS A f d ((o + a : Nat) : Int) ((o + b : Nat) : Int) - 1) = rowS A f o m (d + 1) ((o + a : Nat) : Int) := by
  have hx : ¬ rd A (rd f (d : Int)) = ((o + a : Nat) : Int) := by omega
  refine list_ext _ _ (by simp [rowS_len]) fun j hj => ?_
  have hj' : j < m := by simpa [rowS_len] using hj
  rw [rowS_rd _ _ _ _ _ _ j hj']; simp only [SS, sm]
  by_cases e2 : b = j
  · subst e2
    rw [rd_set_self _ _ _ (by simp [rowS_len]; exact hb)]
    have : ctv A f ((o + a : Nat) : Int) ((o + b : Nat) : Int) d = -1 := by
      unfold ctv
      rw [if_pos ⟨h1, hx⟩, if_neg (by omega), if_pos h2.symm]
    rw [this]; omega
  · rw [rd_set_ne _ _ _ _ e2]
    by_cases e : a = j
    · subst e
      rw [rd_set_self _ _ _ (by rw [rowS_len]; exact ha)]
      have : ctv A f ((o + a : Nat) : Int) ((o + a : Nat) : Int) d = 1 := by
        unfold ctv
        rw [if_pos ⟨h1, hx⟩, if_pos rfl]
      rw [this]
    · rw [rd_set_ne _ _ _ _ e, rowS_rd _ _ _ _ _ _ j hj']
      have : ctv A f ((o + a : Nat) : Int) ((o + j : Nat) : Int) d = 0 := by
        unfold ctv
        rw [if_pos ⟨h1, hx⟩, if_neg (by omega), if_neg (by omega)]
      rw [this]; simp only [SS]; omega
def tabS (A f : List Int) (nv n : Nat) : Nat → List (List Int)
  | 0 => []
  | i + 1 => tabS A f nv n i ++ [(rowS A f 0 nv n ((i + 1 : Nat) : Int)).drop 1]
theorem tabS_len (A f : List Int) (nv n : Nat) : ∀ i, (tabS A f nv n i).length = i
  | 0 => rfl
  | i + 1 => by simp [tabS, tabS_len A f nv n i]
theorem tabS_row (A f : List Int) (nv n : Nat) : ∀ i a, a < i → rd_L1 (tabS A f nv n i) (a : Int) = (rowS A f 0 nv n ((a + 1 : Nat) : Int)).drop 1
  | i + 1, a, h => by
    simp only [tabS]
    by_cases e : a < i
    · rw [ll_app_lt _ _ _ (by rw [tabS_len]; exact e)]
      exact tabS_row A f nv n i a e
    · have : a = i := by omega
      subst this; have := ll_app_at (tabS A f nv n a) ((rowS A f 0 nv n ((a + 1 : Nat) : Int)).drop 1)
      rwa [tabS_len] at this
def Num (A f : List Int) (n nv : Nat) : Prop := n ≤ 12 ∧ 1 ≤ nv ∧ nv ≤ n ∧ inR n f ∧ A.length = n ∧ ∀ i : Nat, i < n → 0 ≤ rd A (i : Int) ∧ rd A (i : Int) < nv
theorem Num.far {A f : List Int} {n nv : Nat} (H : Num A f n nv) (i : Nat) (hi : i < n) : 0 ≤ rd A (rd f (i : Int)) ∧ rd A (rd f (i : Int)) < nv := by
  have fr := H.2.2.2.1.2 i hi; have := H.2.2.2.2.2 (rd f i).toNat (by omega)
  rwa [show (((rd f i).toNat : Nat) : Int) = rd f i by omega] at this
theorem sr_l1 (t A f : List Int) (n nv : Nat) (H : Num A f n nv) (T : List (List Int)) (hT : T.length ≤ 100) (v : Nat) (hv : v < nv) (r : Int) (h : Ev (fun k => spec_RibbonMatrix.l0 k A nv (T ++ [(rowS A f 0 nv n (v : Int)).drop 1]) ((v + 1 : Nat) : Int) t f) r) : ∀ (e d : Nat), n - d = e → d ≤ n → Ev (fun k => spec_RibbonMatrix.l1 k A nv T v (rowS A f 0 nv d (v : Int)) d t f) r
  | 0, d, he, hd => by
    obtain ⟨hn, h1, h2, hf, hA, hr⟩ := id H
    have : d = n := by omega
    subst this; refine Ev.s ?_; simp only [spec_RibbonMatrix.l1, hA, show ¬ (d : Int) < (d : Int) by omega, if_false, rowS_len, show (1 : Int) ≤ (nv : Int) by omega, show T.length < 5864062014805 by omega, if_true, w64n (show v < 4611686018427387904 by omega)]; exact h
  | e + 1, d, he, hd => by
    obtain ⟨hn, h1, h2, hf, hA, hr⟩ := id H; have ih := sr_l1 t A f n nv H T hT v hv r h e (d + 1) (by omega) (by omega); have fr := hf.2 d (by omega); have fa := H.far d (by omega)
    have wd : d < 4611686018427387904 := by omega
    have sv := SS_small A f (v : Int) (v : Int) d
    have wv : -9223372036854775808 ≤ SS A f d (v : Int) (v : Int) + 1 ∧ SS A f d (v : Int) (v : Int) + 1 < 9223372036854775808 := by omega
    have rv := rowS_rd A f 0 nv d (v : Int) v hv; rw [Nat.zero_add] at rv; refine Ev.s ?_; simp only [spec_RibbonMatrix.l1, hA, show (d : Int) < (n : Int) by omega, show (0 : Int) ≤ (d : Int) by omega, hf.1, fr.1, fr.2, if_true, w64n wd]
    by_cases c1 : rd A (d : Int) = (v : Int)
    · by_cases c2 : rd A (rd f (d : Int)) = (v : Int)
      · rw [rowS_no A f 0 nv d v (fun z => z.2 c2)] at ih
        simp only [c1, c2, if_true]; exact ih
      · obtain ⟨b, hb⟩ : ∃ b : Nat, rd A (rd f (d : Int)) = ((0 + b : Nat) : Int) := ⟨(rd A (rd f (d : Int))).toNat, by omega⟩
        have two := rowS_two A f 0 nv d v b hv (by omega) (by omega) (by rw [Nat.zero_add]; exact c1) hb; rw [Nat.zero_add, Nat.zero_add] at two; rw [Nat.zero_add] at hb; have sb := SS_small A f (v : Int) (b : Int) d
        have wb : -9223372036854775808 ≤ SS A f d (v : Int) (b : Int) - 1 ∧ SS A f d (v : Int) (b : Int) - 1 < 9223372036854775808 := by omega
        have rb := rowS_rd A f 0 nv d (v : Int) b (by omega); rw [Nat.zero_add] at rb
        have rset : rd ((rowS A f 0 nv d (v : Int)).set v (SS A f d (v : Int) (v : Int) + 1)) (b : Int) = SS A f d (v : Int) (b : Int) := by
          rw [rd_set_ne _ _ _ _ (by omega), rb]
        rw [← two] at ih
        have nvb : ¬ (b : Int) = (v : Int) := by omega
        simp only [c1, hb, nvb, if_true, if_false, rowS_len, List.length_set, show (0 : Int) ≤ (v : Int) by omega, show (v : Int) < (nv : Int) by omega, Option.bind_some, rv, w64r wv, Int.toNat_natCast, show (0 : Int) ≤ (b : Int) by omega, show (b : Int) < (nv : Int) by omega, rset, w64r wb]; exact ih
    · rw [rowS_no A f 0 nv d v (fun z => c1 z.1)] at ih
      simp only [c1, if_false]; exact ih
theorem sr_l0 (t A f : List Int) (n nv : Nat) (H : Num A f n nv) (r : Int) (h : Ev (fun k => spec_l7Det.f k (tabS A f nv n (nv - 1))) r) : ∀ (e i : Nat), nv - 1 - i = e → i ≤ nv - 1 → Ev (fun k => spec_RibbonMatrix.l0 k A nv (tabS A f nv n i) ((i + 1 : Nat) : Int) t f) r
  | 0, i, he, hi => by
    obtain ⟨hn, h1, h2, hf, hA, hr⟩ := id H
    have : i = nv - 1 := by omega
    subst this; refine Ev.s ?_; simp only [spec_RibbonMatrix.l0, show ¬ ((nv - 1 + 1 : Nat) : Int) < (nv : Int) by omega, if_false]; exact Ev.bind h (Ev.const rfl)
  | e + 1, i, he, hi => by
    obtain ⟨hn, h1, h2, hf, hA, hr⟩ := id H; have ih := sr_l0 t A f n nv H r h e (i + 1) (by omega) (by omega); simp only [tabS] at ih; refine Ev.s ?_; simp only [spec_RibbonMatrix.l0, show ((i + 1 : Nat) : Int) < (nv : Int) by omega, show (0 : Int) ≤ (nv : Int) by omega, Int.toNat_natCast, show nv ≤ 35184372088832 by omega, if_true]; rw [← rowS_zero A f 0 nv ((i + 1 : Nat) : Int)]; exact sr_l1 t A f n nv H _ (by rw [tabS_len]; omega) (i + 1) (by omega) r ih n 0 (by omega) (by omega)
def tabT (A f : List Int) (N d : Nat) : List (List Int) := (List.range N).map fun (i : Nat) => rowS A f 1 N d ((1 + i : Nat) : Int)
theorem tabT_len (A f : List Int) (N d : Nat) : (tabT A f N d).length = N := by simp [tabT]
theorem tabT_row (A f : List Int) (N d i : Nat) (h : i < N) : rd_L1 (tabT A f N d) (i : Int) = rowS A f 1 N d ((1 + i : Nat) : Int) := by
  rw [ll_rd _ i (by rw [tabT_len]; exact h)]
  simp [tabT]
theorem ll_ext (a b : List (List Int)) (h : a.length = b.length) (hr : ∀ i : Nat, i < a.length → rd_L1 a (i : Int) = rd_L1 b (i : Int)) : a = b := by
  refine List.ext_getElem h fun i h1 h2 => ?_
  have := hr i h1
  rwa [ll_rd a i h1, ll_rd b i h2] at this
theorem ll_set_self (L : List (List Int)) (i : Nat) (x : List Int) (h : i < L.length) : rd_L1 (L.set i x) (i : Int) = x := by
  rw [ll_rd _ _ (by simpa using h), List.getElem_set_self]
theorem ll_set_ne (L : List (List Int)) (i j : Nat) (x : List Int) (h : i ≠ j) (hj : j < L.length) : rd_L1 (L.set i x) (j : Int) = rd_L1 L (j : Int) := by
  rw [ll_rd _ _ (by simpa using hj), ll_rd L j hj, List.getElem_set_ne h]
theorem tabT_set (A f : List Int) (N d a : Nat) (ha : a < N) (h1 : rd A (d : Int) = ((1 + a : Nat) : Int)) (x : List Int) (hx : x = rowS A f 1 N (d + 1) ((1 + a : Nat) : Int)) : (tabT A f N d).set a x = tabT A f N (d + 1) := by
  refine ll_ext _ _ (by simp [tabT_len]) fun i hi => ?_
  have hi' : i < N := by simpa [tabT_len] using hi
  rw [tabT_row A f N (d + 1) i hi']
  by_cases e : a = i
  · subst e
    rw [ll_set_self _ _ _ (by rw [tabT_len]; exact ha), hx]
  · rw [ll_set_ne _ _ _ _ e (by rw [tabT_len]; exact hi'), tabT_row A f N d i hi', rowS_no A f 1 N d _ (fun z => by omega)]
theorem tabT_no (A f : List Int) (N d : Nat) (h : ∀ i : Nat, i < N → ¬ (rd A (d : Int) = ((1 + i : Nat) : Int) ∧ ¬ rd A (rd f (d : Int)) = ((1 + i : Nat) : Int))) : tabT A f N (d + 1) = tabT A f N d := by
  refine ll_ext _ _ (by simp [tabT_len]) fun i hi => ?_
  rw [tabT_len] at hi; rw [tabT_row A f N (d + 1) i hi, tabT_row A f N d i hi, rowS_no A f 1 N d _ (h i hi)]
theorem tab_same (A f : List Int) (N n : Nat) : tabS A f (N + 1) n N = tabT A f N n := by
  refine ll_ext _ _ (by rw [tabS_len, tabT_len]) fun i hi => ?_
  rw [tabS_len] at hi; rw [tabS_row A f (N + 1) n N i hi, tabT_row A f N n i hi]
  refine list_ext _ _ (by simp [rowS_len]) fun j hj => ?_
  have hj' : j < N := by simpa [rowS_len] using hj
  rw [rd_drop, rowS_rd _ _ _ _ _ _ (1 + j) (by omega), rowS_rd _ _ _ _ _ _ j hj', Nat.zero_add, Nat.add_comm 1 i]
theorem im_l1 (A f : List Int) (n N : Nat) (H : Num A f n (N + 1)) (r : Int) (h : Ev (fun k => impl_determinant.f k (tabT A f N n)) r) : ∀ (e d : Nat), n - d = e → d ≤ n → Ev (fun k => impl_RibbonMatrix.l1 k A (tabT A f N d) f n d) r
  | 0, d, he, hd => by
    have : d = n := by omega
    subst this; refine Ev.s ?_; simp only [impl_RibbonMatrix.l1, show ¬ (d : Int) < (d : Int) by omega, if_false]; exact Ev.bind h (Ev.const rfl)
  | e + 1, d, he, hd => by
    obtain ⟨hn, h1, h2, hf, hA, hr⟩ := id H; have ih := im_l1 A f n N H r h e (d + 1) (by omega) (by omega); have fr := hf.2 d (by omega); have ra := hr d (by omega); have fa := H.far d (by omega)
    have wd : d < 4611686018427387904 := by omega
    have w1 : -9223372036854775808 ≤ rd A (d : Int) - 1 ∧ rd A (d : Int) - 1 < 9223372036854775808 := by omega
    have w2 : -9223372036854775808 ≤ rd A (rd f (d : Int)) - 1 ∧ rd A (rd f (d : Int)) - 1 < 9223372036854775808 := by omega
    refine Ev.s ?_; simp only [impl_RibbonMatrix.l1, hf.1, hA, show (d : Int) < (n : Int) by omega, show (0 : Int) ≤ (d : Int) by omega, fr.1, fr.2, if_true, w64r w1, w64r w2]
    by_cases c0 : rd A (d : Int) - 1 ≥ 0
    · simp only [c0, if_true]
      obtain ⟨a, ha⟩ : ∃ a : Nat, rd A (d : Int) = ((1 + a : Nat) : Int) := ⟨(rd A (d : Int) - 1).toNat, by omega⟩
      have ea : rd A (d : Int) - 1 = (a : Int) := by omega
      rw [ea]
      by_cases c1 : rd A (rd f (d : Int)) = rd A (d : Int)
      · have : (((a : Int)) != (rd A (rd f (d : Int)) - 1)) = false := by
          rw [bne_eq_false_iff_eq]; omega
        rw [this]; refine Ev.s ?_; simp only [impl_RibbonMatrix.j2, Bool.false_eq_true, if_false, w64n wd]; rw [tabT_no A f N d (fun i hi z => z.2 (by omega))] at ih; exact ih
      · have : (((a : Int)) != (rd A (rd f (d : Int)) - 1)) = true := by
          rw [bne_iff_ne]; omega
        rw [this]; have tr := tabT_row A f N d a (by omega); have rr := rowS_rd A f 1 N d ((1 + a : Nat) : Int) a (by omega); have sv := SS_small A f ((1 + a : Nat) : Int) ((1 + a : Nat) : Int) d
        have wv : -9223372036854775808 ≤ SS A f d ((1 + a : Nat) : Int) ((1 + a : Nat) : Int) + 1 ∧ SS A f d ((1 + a : Nat) : Int) ((1 + a : Nat) : Int) + 1 < 9223372036854775808 := by omega
        refine Ev.s ?_; simp only [impl_RibbonMatrix.j2, if_true, show (0 : Int) ≤ (a : Int) by omega, tabT_len, show (a : Int) < (N : Int) by omega, tr, rowS_len, rr, w64r wv, Option.bind_some, Int.toNat_natCast, w64n wd]
        by_cases c2 : rd A (rd f (d : Int)) - 1 ≥ 0
        · obtain ⟨b, hb⟩ : ∃ b : Nat, rd A (rd f (d : Int)) = ((1 + b : Nat) : Int) := ⟨(rd A (rd f (d : Int)) - 1).toNat, by omega⟩
          have eb : rd A (rd f (d : Int)) - 1 = (b : Int) := by omega
          have two := rowS_two A f 1 N d a b (by omega) (by omega) (by omega) ha hb; have rb := rowS_rd A f 1 N d ((1 + a : Nat) : Int) b (by omega); have sb := SS_small A f ((1 + a : Nat) : Int) ((1 + b : Nat) : Int) d
          have wb : -9223372036854775808 ≤ SS A f d ((1 + a : Nat) : Int) ((1 + b : Nat) : Int) - 1 ∧ SS A f d ((1 + a : Nat) : Int) ((1 + b : Nat) : Int) - 1 < 9223372036854775808 := by omega
          have ls := ll_set_self (tabT A f N d) a ((rowS A f 1 N d ((1 + a : Nat) : Int)).set a (SS A f d ((1 + a : Nat) : Int) ((1 + a : Nat) : Int) + 1)) (by rw [tabT_len]; omega)
          have rset : rd ((rowS A f 1 N d ((1 + a : Nat) : Int)).set a (SS A f d ((1 + a : Nat) : Int) ((1 + a : Nat) : Int) + 1)) (b : Int) = SS A f d ((1 + a : Nat) : Int) ((1 + b : Nat) : Int) := by
            rw [rd_set_ne _ _ _ _ (by omega), rb]
          rw [eb] at c2 ⊢; simp only [c2, if_true, show (0 : Int) ≤ (b : Int) by omega, ls, List.length_set, rowS_len, show (b : Int) < (N : Int) by omega, rset, w64r wb, Int.toNat_natCast]; rw [two, List.set_set, tabT_set A f N d a (by omega) ha _ rfl]; exact ih
        · simp only [c2, if_false]
          rw [rowS_one A f 1 N d a (by omega) ha (by omega) (fun b hb => by omega), tabT_set A f N d a (by omega) ha _ rfl]; exact ih
    · simp only [c0, if_false]
      refine Ev.s ?_; simp only [impl_RibbonMatrix.j2, Bool.false_eq_true, if_false, w64n wd]; rw [tabT_no A f N d (fun i hi z => by omega)] at ih; exact ih
def tabM (N k : Nat) : List (List Int) := (List.range N).map fun (i : Nat) => if i < k then List.replicate N 0 else []
theorem tabM_len (N k : Nat) : (tabM N k).length = N := by simp [tabM]
theorem tabM_row (N k i : Nat) (h : i < N) : rd_L1 (tabM N k) (i : Int) = if i < k then List.replicate N 0 else [] := by
  rw [ll_rd _ i (by rw [tabM_len]; exact h)]
  simp [tabM]
theorem im_l0 (t A f : List Int) (n N : Nat) (H : Num A f n (N + 1)) (r : Int) (h : Ev (fun k => impl_RibbonMatrix.l1 k A (tabT A f N 0) f n 0) r) : ∀ (e i : Nat), N - i = e → i ≤ N → Ev (fun k => impl_RibbonMatrix.l0 k A N (tabM N i) N i t f) r
  | 0, i, he, hi => by
    obtain ⟨hn, h1, h2, hf, hA, hr⟩ := id H
    have : i = N := by omega
    subst this
    have e : tabM i i = tabT A f i 0 := by
      refine ll_ext _ _ (by rw [tabM_len, tabT_len]) fun q hq => ?_
      rw [tabM_len] at hq; rw [tabM_row i i q hq, if_pos hq, tabT_row A f i 0 q hq, rowS_zero]
    refine Ev.s ?_; simp only [impl_RibbonMatrix.l0, show ¬ (i : Int) < (i : Int) by omega, if_false, hf.1]; rw [e]; exact h
  | e + 1, i, he, hi => by
    obtain ⟨hn, h1, h2, hf, hA, hr⟩ := id H; have ih := im_l0 t A f n N H r h e (i + 1) (by omega) (by omega)
    have st : (tabM N i).set i (List.replicate N 0) = tabM N (i + 1) := by
      refine ll_ext _ _ (by simp [tabM_len]) fun q hq => ?_
      have hq' : q < N := by simpa [tabM_len] using hq
      rw [tabM_row N (i + 1) q hq']
      by_cases z : i = q
      · subst z
        rw [ll_set_self _ _ _ (by rw [tabM_len]; exact hq'), if_pos (by omega)]
      · rw [ll_set_ne _ _ _ _ z (by rw [tabM_len]; exact hq'), tabM_row N i q hq']
        by_cases y : q < i
        · rw [if_pos y, if_pos (by omega)]
        · rw [if_neg y, if_neg (by omega)]
    refine Ev.s ?_; simp only [impl_RibbonMatrix.l0, show (i : Int) < (N : Int) by omega, show (0 : Int) ≤ (N : Int) by omega, Int.toNat_natCast, show N ≤ 35184372088832 by omega, show (0 : Int) ≤ (i : Int) by omega, tabM_len, if_true, w64n (show i < 4611686018427387904 by omega), st]; exact ih
theorem ribbonMatrix_both (t f : List Int) (ht : t.length ≤ 1048576) (hf : f.length ≤ 1048576) : ∃ r : Int, Ev (fun k => spec_RibbonMatrix.f k t f) r ∧ Ev (fun k => impl_RibbonMatrix.f k t f) r := by
  obtain ⟨b, b1, b2, b3⟩ := mapValid_both t f ht hf
  unfold spec_RibbonMatrix.f impl_RibbonMatrix.f
  cases b with
  | false =>
    refine ⟨-1, ?_, ?_⟩
    · refine Ev.bind b1 ?_
      simp only [Bool.false_eq_true, if_false]; exact Ev.const rfl
    · refine Ev.bind b2 ?_
      simp only [Bool.false_eq_true, if_false]; exact Ev.const rfl
  | true =>
    obtain ⟨pt, pf, e, fl, _⟩ := b3.1 rfl; have ht' := isPerm_inR t pt
    have hf' : inR t.length f := by rw [e]; exact isPerm_inR f pf
    have hn : t.length ≤ 12 := pt.2.1; have h1 : 1 ≤ t.length := pt.1; have hl := vtx_len t t.length
    have hr := fun i hi => vtx_range t t.length h1 ht' i hi
    have hmany := cyS_many t t.length t.length; have hone := cyS_one t t.length h1 t.length h1; obtain ⟨N, hN⟩ : ∃ N, (cyS t t.length t.length).2.length = N + 1 := ⟨_, (Nat.sub_add_cancel hone).symm⟩; have H : Num (vtx t t.length) f t.length (N + 1) := ⟨hn, by omega, by omega, hf', hl, fun i hi => by have := hr i hi; rwa [hN] at this⟩; have sqT : sq (tabT (vtx t t.length) f N t.length) N := ⟨tabT_len _ _ _ _, fun i hi => by rw [tabT_row _ _ _ _ i hi, rowS_len]⟩; have dS := specDet_ev N _ (by omega) sqT; have dI := implDet_ev N _ (by omega) sqT; rw [← (det_same N).1] at dI; refine ⟨wrap64 (dR N (ent (tabT (vtx t t.length) f N t.length))), ?_, ?_⟩; rotate_left
    · refine Ev.bind b2 ?_
      simp only [if_true]; refine Ev.bind (implCyc_ev t t.length (by omega) ht') ?_; refine Ev.bind (implVert_ev t f t.length hn ht') ?_
      have wN : wrap64 (((cyS t t.length t.length).2.length : Int) - 1) = (N : Int) := by rw [hN, w64 (by omega) (by omega)]; omega
      have e0 : List.replicate N ([] : List Int) = tabM N 0 := by
        refine ll_ext _ _ (by simp [tabM_len]) fun q hq => ?_
        have hq' : q < N := by simpa using hq
        rw [tabM_row N 0 q hq', if_neg (by omega), ll_rd _ _ hq]
        simp
      simp only [wN, show (0 : Int) ≤ (N : Int) by omega, Int.toNat_natCast, show N ≤ 11728124029610 by omega, if_true, Option.bind_some, e0, tabM_len]; exact im_l0 t _ f t.length N H _ (im_l1 _ f t.length N H _ dI t.length 0 (by omega) (by omega)) N 0 (by omega) (by omega)
    · refine Ev.bind b1 ?_
      simp only [if_true]; refine Ev.bind (specVert_ev t t.length hn ht') ?_; refine Ev.bind (specCyc_ev t t.length (by omega) ht') ?_; rw [hN]; have := sr_l0 t (vtx t t.length) f t.length (N + 1) H _ (by rw [Nat.add_sub_cancel, tab_same]; exact dS) (N + 1 - 1) 0 (by omega) (by omega); exact this
theorem skip_ne (i a : Nat) : skip i a ≠ i := by unfold skip; split <;> omega
theorem skip_inj (i a b : Nat) (h : skip i a = skip i b) : a = b := by
  unfold skip at h
  split at h <;> split at h <;> omega
theorem skip_pre (r i n : Nat) (hi : i < n + 1) (hr : r < n + 1) (h : i ≠ r) : ∃ i', i' < n ∧ skip r i' = i := by
  by_cases z : i < r
  · exact ⟨i, by omega, by unfold skip; rw [if_pos z]⟩
  · exact ⟨i - 1, by omega, by unfold skip; rw [if_neg (by omega)]; omega⟩
theorem sm_all (g : Nat → Int) (n : Nat) (h : ∀ i, i < n → g i = 0) : sm n g = 0 := by
  rw [sm_congr g (fun _ => 0) n h, sm_zero]
theorem sm_one (g : Nat → Int) (i : Nat) : ∀ n, i < n → (∀ r, r < n → r ≠ i → g r = 0) → sm n g = g i
  | n + 1, hi, h => by
    rw [sm]
    by_cases z : i = n
    · rw [sm_all g n fun r hr => h r (by omega) (by omega), z]; omega
    · rw [sm_one g i n (by omega) fun r hr hn => h r (by omega) hn, h n (by omega) (fun y => z y.symm)]; omega
theorem sm_two (g : Nat → Int) (i j : Nat) (hij : i < j) : ∀ n, j < n → (∀ r, r < n → r ≠ i → r ≠ j → g r = 0) → sm n g = g i + g j
  | n + 1, hj, h => by
    rw [sm]
    by_cases z : j = n
    · rw [sm_one g i n (by omega) fun r hr hn => h r (by omega) hn (by omega), z]
    · rw [sm_two g i j hij n (by omega) fun r hr h1 h2 => h r (by omega) h1 h2, h n (by omega) (by omega) (fun y => z y.symm)]; omega
theorem dC_add : ∀ (n i : Nat) (M N K : Nat → Nat → Int), i < n → (∀ b, b < n → M i b = N i b + K i b) → (∀ a b, a < n → b < n → a ≠ i → N a b = M a b ∧ K a b = M a b) → dC n M = dC n N + dC n K
  | n + 1, i, M, N, K, hi, h1, h2 => by
    simp only [dC]; rw [sm_add]
    refine sm_congr _ _ _ fun r hr => ?_
    by_cases z : r = i
    · subst z
      have e1 : dC n (fun a b => N (skip r a) (b + 1)) = dC n (fun a b => M (skip r a) (b + 1)) := dC_congr n _ _ fun a b ha hb => (h2 _ _ (skip_lt r a n ha) (by omega) (skip_ne r a)).1
      have e2 : dC n (fun a b => K (skip r a) (b + 1)) = dC n (fun a b => M (skip r a) (b + 1)) := dC_congr n _ _ fun a b ha hb => (h2 _ _ (skip_lt r a n ha) (by omega) (skip_ne r a)).2
      rw [e1, e2, h1 0 (by omega), Int.mul_add, Int.add_mul]
    · obtain ⟨i', hi', e⟩ := skip_pre r i n hi hr (fun y => z y.symm)
      obtain ⟨e1, e2⟩ := h2 r 0 hr (by omega) z; rw [e1, e2, dC_add n i' (fun a b => M (skip r a) (b + 1)) (fun a b => N (skip r a) (b + 1)) (fun a b => K (skip r a) (b + 1)) hi' (fun b hb => by
        show M (skip r i') (b + 1) = N (skip r i') (b + 1) + K (skip r i') (b + 1)
        rw [e]; exact h1 _ (by omega)) (fun a b ha hb hn => h2 _ _ (skip_lt r a n ha) (by omega) (fun y => hn (skip_inj r a i' (by rw [e]; exact y)))), Int.mul_add]
theorem dC_adj : ∀ (n i : Nat) (M : Nat → Nat → Int), i + 1 < n → (∀ b, b < n → M i b = M (i + 1) b) → dC n M = 0
  | n + 1, i, M, hi, h => by
    simp only [dC]; rw [sm_two _ i (i + 1) (by omega) (n + 1) hi fun r hr h1 h2 => ?_]
    · have e : dC n (fun a b => M (skip (i + 1) a) (b + 1)) = dC n (fun a b => M (skip i a) (b + 1)) := dC_congr n _ _ fun a b ha hb => by
        unfold skip
        by_cases y : a < i
        · rw [if_pos y, if_pos (by omega)]
        · rw [if_neg y]
          by_cases w : a < i + 1
          · rw [if_pos w]
            have : a = i := by omega
            rw [this]; exact h _ (by omega)
          · rw [if_neg w]
      rw [e, ← h 0 (by omega)]; simp only [sgn]; rw [Int.neg_mul, Int.neg_mul]; omega
    · have : dC n (fun a b => M (skip r a) (b + 1)) = 0 := by
        by_cases y : r < i
        · refine dC_adj n (i - 1) _ (by omega) fun b hb => ?_
          show M (skip r (i - 1)) (b + 1) = M (skip r (i - 1 + 1)) (b + 1)
          unfold skip
          rw [if_neg (by omega), if_neg (by omega), show i - 1 + 1 = i by omega]; exact h _ (by omega)
        · refine dC_adj n i _ (by omega) fun b hb => ?_
          show M (skip r i) (b + 1) = M (skip r (i + 1)) (b + 1)
          unfold skip
          rw [if_pos (by omega), if_pos (by omega)]; exact h _ (by omega)
      rw [this, Int.mul_zero]
def rw2 (M : Nat → Nat → Int) (i : Nat) (u v : Nat → Int) : Nat → Nat → Int := fun a b => if a = i then u b else if a = i + 1 then v b else M a b
theorem dC_swap (n i : Nat) (M : Nat → Nat → Int) (hi : i + 1 < n) (u v : Nat → Int) : dC n (rw2 M i u v) = -dC n (rw2 M i v u) := by
  have h0 : dC n (rw2 M i (fun b => u b + v b) (fun b => u b + v b)) = 0 := dC_adj n i _ hi fun b hb => by
    unfold rw2
    rw [if_pos rfl, if_neg (by omega), if_pos rfl]
  have top : ∀ x : Nat → Int, dC n (rw2 M i (fun b => u b + v b) x) = dC n (rw2 M i u x) + dC n (rw2 M i v x) := fun x => dC_add n i _ _ _ (by omega) (fun b hb => by
    unfold rw2
    rw [if_pos rfl, if_pos rfl, if_pos rfl]) fun a b ha hb hn => by
    unfold rw2
    rw [if_neg hn, if_neg hn, if_neg hn]; exact ⟨rfl, rfl⟩
  have bot : ∀ x : Nat → Int, dC n (rw2 M i x (fun b => u b + v b)) = dC n (rw2 M i x u) + dC n (rw2 M i x v) := fun x => dC_add n (i + 1) _ _ _ hi (fun b hb => by
    unfold rw2
    rw [if_neg (by omega), if_pos rfl, if_neg (by omega), if_pos rfl, if_neg (by omega), if_pos rfl]) fun a b ha hb hn => by
    unfold rw2
    rw [if_neg hn, if_neg hn, if_neg hn]; exact ⟨rfl, rfl⟩
  have same : ∀ x : Nat → Int, dC n (rw2 M i x x) = 0 := fun x => dC_adj n i _ hi fun b hb => by
    unfold rw2
    rw [if_pos rfl, if_neg (by omega), if_pos rfl]
  rw [top, bot, bot, same, same] at h0; omega
theorem dC_eq (n i : Nat) : ∀ (k : Nat) (M : Nat → Nat → Int), i < k → k < n → (∀ b, b < n → M i b = M k b) → dC n M = 0
  | 0, M, h1, h2, h => by omega
  | k + 1, M, h1, h2, h => by
    by_cases z : i = k
    · rw [z] at h
      exact dC_adj n k M h2 h
    · have e : dC n M = dC n (rw2 M k (M k) (M (k + 1))) := dC_congr n _ _ fun a b ha hb => by
        unfold rw2
        by_cases y : a = k
        · rw [if_pos y, y]
        · rw [if_neg y]
          by_cases w : a = k + 1
          · rw [if_pos w, w]
          · rw [if_neg w]
      rw [e, dC_swap n k M h2, dC_eq n i k _ (by omega) (by omega) fun b hb => ?_]
      · rfl
      · unfold rw2
        rw [if_neg z, if_neg (by omega), if_pos rfl]; exact h b hb
theorem dC_id : ∀ (n : Nat) (M : Nat → Nat → Int), (∀ a b, a < n → b < n → M a b = if a = b then 1 else 0) → dC n M = 1
  | 0, M, h => rfl
  | n + 1, M, h => by
    rw [dC, sm_shift, sm_all _ n fun r hr => by rw [h (r + 1) 0 (by omega) (by omega), if_neg (by omega)]; simp]; rw [h 0 0 (by omega) (by omega), if_pos rfl, dC_id n _ fun a b ha hb => ?_]
    · rfl
    · show M (skip 0 a) (b + 1) = _
      unfold skip
      rw [if_neg (by omega), h _ _ (by omega) (by omega)]
      by_cases z : a = b
      · rw [if_pos (by omega), if_pos z]
      · rw [if_neg (by omega), if_neg z]
theorem dC_turn : ∀ (n : Nat) (M : Nat → Nat → Int), dC n M = dR n (fun a b => M b a)
  | 0, M => rfl
  | n + 1, M => by
    simp only [dC, dR]
    refine sm_congr _ _ _ fun r hr => ?_
    rw [dC_turn n]
theorem dC_flip (n : Nat) (M : Nat → Nat → Int) : dC n M = dC n (fun a b => M b a) := by
  rw [dC_turn, (det_same n).1]
def setR (M : Nat → Nat → Int) (c : Nat) (v : Nat → Int) : Nat → Nat → Int := fun a b => if a = c then v b else M a b
theorem setR_self (n : Nat) (M : Nat → Nat → Int) (c : Nat) : dC n (setR M c (M c)) = dC n M := dC_congr n _ _ fun a b ha hb => by
  unfold setR
  by_cases z : a = c
  · rw [if_pos z, z]
  · rw [if_neg z]
theorem setR_add (n : Nat) (M : Nat → Nat → Int) (c : Nat) (hc : c < n) (u v w : Nat → Int) (h : ∀ b, b < n → w b = u b + v b) : dC n (setR M c w) = dC n (setR M c u) + dC n (setR M c v) :=
  dC_add n c _ _ _ hc (fun b hb => by
    unfold setR
    rw [if_pos rfl, if_pos rfl, if_pos rfl]; exact h b hb) fun a b ha hb hn => by
    unfold setR
    rw [if_neg hn, if_neg hn, if_neg hn]; exact ⟨rfl, rfl⟩
theorem setR_zero (n : Nat) (M : Nat → Nat → Int) (c : Nat) (hc : c < n) (v : Nat → Int) (h : ∀ b, b < n → v b = 0) : dC n (setR M c v) = 0 := by
  have := setR_add n M c hc v v v fun b hb => by rw [h b hb]; rfl
  omega
theorem setR_other (n : Nat) (M : Nat → Nat → Int) (c k : Nat) (hc : c < n) (hk : k < n) (h : k ≠ c) : dC n (setR M c (M k)) = 0 := by
  by_cases z : c < k
  · refine dC_eq n c k _ z hk fun b hb => ?_
    unfold setR
    rw [if_pos rfl, if_neg h]
  · refine dC_eq n k c _ (by omega) hc fun b hb => ?_
    unfold setR
    rw [if_neg h, if_pos rfl]
theorem dC_rows (n : Nat) (M : Nat → Nat → Int) (S : Nat → Bool) (c : Nat) (hc : c < n) (hS : S c = true) (h : ∀ b, b < n → sm n (fun a => if S a = true then M a b else 0) = 0) : dC n M = 0 := by
  have key : ∀ m, m ≤ n → dC n (setR M c fun b => sm m (fun a => if S a = true then M a b else 0)) = if c < m then dC n M else 0 := by
    intro m
    induction m with
    | zero =>
      intro _; rw [if_neg (by omega)]
      exact setR_zero n M c hc _ fun b _ => rfl
    | succ m ih =>
      intro hm; rw [setR_add n M c hc (fun b => sm m (fun a => if S a = true then M a b else 0)) (fun b => if S m = true then M m b else 0) (fun b => sm (m + 1) (fun a => if S a = true then M a b else 0)) fun b _ => rfl, ih (by omega)]
      by_cases z : m = c
      · have e : dC n (setR M c fun b => if S m = true then M m b else 0) = dC n M := by
          rw [← setR_self n M c]
          refine dC_congr n _ _ fun a b ha hb => ?_
          unfold setR
          by_cases y : a = c
          · rw [if_pos y, if_pos y, z]
            show (if S c = true then M c b else 0) = M c b
            rw [if_pos hS]
          · rw [if_neg y, if_neg y]
        rw [e, if_neg (by omega), if_pos (by omega)]; omega
      · have e : dC n (setR M c fun b => if S m = true then M m b else 0) = 0 := by
          by_cases y : S m = true
          · refine Eq.trans (dC_congr n _ _ fun a b ha hb => ?_) (setR_other n M c m hc (by omega) z)
            unfold setR
            by_cases w : a = c
            · rw [if_pos w, if_pos w]
              show (if S m = true then M m b else 0) = M m b
              rw [if_pos y]
            · rw [if_neg w, if_neg w]
          · exact setR_zero n M c hc _ fun b _ => by rw [if_neg y]
        rw [e]
        by_cases w : c < m
        · rw [if_pos w, if_pos (by omega)]; omega
        · rw [if_neg w, if_neg (by omega)]; omega
  have h1 := key n (Nat.le_refl _); rw [if_pos hc] at h1; rw [← h1]
  exact setR_zero n M c hc _ fun b hb => h b hb
theorem dC_cols (n : Nat) (M : Nat → Nat → Int) (S : Nat → Bool) (c : Nat) (hc : c < n) (hS : S c = true) (h : ∀ a, a < n → sm n (fun b => if S b = true then M a b else 0) = 0) : dC n M = 0 := by
  rw [dC_flip]; exact dC_rows n _ S c hc hS h
end Go.Proofs.Ytjgknblneokhlaa.PK

namespace Go.Proofs.Ytjgknblneokhlaa.PK
open Go.RowKit Go.Proofs.YtjgknblneokhlaaW.PrintWords Go.Proofs.YtjgknblneokhlaaW.PrintLast Go.Proofs.YtjgknblneokhlaaW.PrintMore
attribute [local go_sem] max2_int min2_int max_two min_two max_three min_three max_four min_four   -- for this text's walks alone
set_option linter.unusedVariables false
set_option linter.unusedSimpArgs false
def spec_RibbonValue.T9 : Bool × List (List Nat × List Nat) := (true, [([], []), ([], []), ([], []), ([2], [2]), ([3], [3]), ([4], [4]), ([1, 5], [1, 5]), ([], []), ([], []), ([8], [8]), ([9], [9]), ([7, 10, 6], [7, 10]), ([6, 11], [6, 11]), ([], []), ([], []), ([14], [14]), ([15], [15]), ([13, 16, 11], [13, 16]), ([12, 17], [12, 17]), ([0, 18], [0, 18]), ([19, 17, 0, 1, 2, 3, 4, 5, 6, 7, 8, 9, 10, 11, 12, 13, 14, 15, 16, 17, 18, 19], [0, 19])])
def spec_RibbonValue.B9 : List Nat := [0, 0, 0, 4, 12, 28, 62, 0, 0, 256, 768, 2046, 4094, 0, 0, 16384, 49152, 126974, 262142, 524287, 1048575]
def impl_MapMirror.T3 : Bool × List (List Nat × List Nat) := (true, [([], []), ([0], [0]), ([1], [1]), ([], []), ([3], [3]), ([4, 2], [4]), ([2, 5], [2, 5]), ([6, 5, 0, 1, 2, 3, 4, 5, 6], [6]), ([7, 0, 1, 2, 3, 4, 5, 6, 7], [])])
def impl_MapMirror.B3 : List Nat := [0, 1, 3, 0, 8, 31, 63, 127, 255]
def impl_ChoiceTree.f (k : Nat) (l0_0 : List Int) (l0_1 : List Int) (l1 : List Int) : Option (Bool) := (impl_ChoiceValid.f k l0_0 l0_1 l1).bind fun t789 => (if t789 = true then ((impl_ribbon.f k l0_0 l0_1 l1).bind fun t790 => (if 0 < (t790.length : Int) then (if (rd t790 0) = 1 then (if 3 < (t790.length : Int) then (some ((rd t790 3) == 0)) else (none)) else (some false)) else (none))) else (some false))
set_option maxHeartbeats 8000000 in
set_option maxRecDepth 100000 in
theorem impl_ChoiceTree.calls (k : Nat) (A0_0 : Option Addr) (c0_0 : Nat) (l0_0 : List Int) (A0_1 : Option Addr) (c0_1 : Nat) (l0_1 : List Int) (A1 : Option Addr) (c1 : Nat) (l1 : List Int) (r : Bool) (w : World) (hr0_0 : Kd.C (Kd.int .i64) w A0_0 l0_0.length l0_0) (hc0_0 : l0_0.length ≤ c0_0) (hr0_1 : Kd.C (Kd.int .i64) w A0_1 l0_1.length l0_1) (hc0_1 : l0_1.length ≤ c0_1) (hr1 : Kd.C (Kd.int .i64) w A1 l1.length l1) (hc1 : l1.length ≤ c1) (h : impl_ChoiceTree.f k l0_0 l0_1 l1 = some r) :
  Calls Try.prog 28 #[.agg #[.slice A0_0 l0_0.length c0_0, .slice A0_1 l0_1.length c0_1], .slice A1 l1.length c1] w fun e w' => e = .returned (.bool r) ∧ Below w.heap.size w w' := by
 have hu25 := Try.underlying25; have HR0_0 := Az hr0_0; have HC0_0 := Az hc0_0; clear hr0_0 hc0_0; have HR0_1 := Az hr0_1; have HC0_1 := Az hc0_1; clear hr0_1 hc0_1; have HR1 := Az hr1; have HC1 := Az hc1; clear hr1 hc1; have HB := bZ w; have H := h; clear h; unfold impl_ChoiceTree.f at H; replace H := bd H; obtain ⟨t789, A3, H⟩ := H
 by_cases c4 : t789 = true
 ·
  subst c4; rw [if_pos rfl] at H; replace H := bd H; obtain ⟨t790, A5, H⟩ := H; replace H := gP H; obtain ⟨c6, H⟩ := H; have c6b0 := decide_eq_true c6; have c6b1 : decide (0 < t790.length) = true := decide_eq_true (by omega); clear c6
  replace H := gQ H; rcases H with ⟨c7b0, c7b1, H⟩ | ⟨c7b0, c7b1, H⟩
  ·
   replace H := gP H; obtain ⟨c8, H⟩ := H; have c8b0 := decide_eq_true c8; have c8b1 : decide (3 < t790.length) = true := decide_eq_true (by omega); clear c8; obtain rfl := Option.some.inj H; go_enter Try.func28, Try.ntmps28
   go_wp2_with (first | ((with_reducible refine gd 2 rfl ?_); refine bE 2 #[.slice A0_0 l0_0.length c0_0, .slice A0_1 l0_1.length c0_1] 25 ?_; intro gb788 hg w9 hbox hb; have BK788 := Az (hbox); have GW788 := gW hg (bU0 HB.out); replace HB := Az (below_step (bU0 HB.out) hb); clear hb hbox hg; have hz10 := bc2 BK788.out) | ((with_reducible refine gK 16 rfl ?_); refine gC (some 8) Try.func16 #[.agg #[.slice A0_0 l0_0.length c0_0, .slice A0_1 l0_1.length c0_1], .slice A1 l1.length c1] ?_; (with_reducible refine (impl_ChoiceValid.calls k _ _ l0_0 _ _ l0_1 _ _ l1 true _ ?_ ?_ ?_ ?_ ?_ ?_ A3.out).mono ?_); exact cU (Kd.C_below HR0_0.out HB.out); exact HC0_0.out; exact cU (Kd.C_below HR0_1.out HB.out); exact HC0_1.out; exact cU (Kd.C_below HR1.out HB.out); exact HC1.out; rintro e w11 ⟨rfl, hb⟩; refine ⟨_, rfl, ?_⟩; replace BK788 := kB BK788.out hb; replace HB := Az z7_0; clear hb; have hz12 := bc2 BK788.out) | ((with_reducible refine gK 65 rfl ?_); refine gC (some 12) Try.func65 #[.agg #[.slice A0_0 l0_0.length c0_0, .slice A0_1 l0_1.length c0_1], .slice A1 l1.length c1] ?_; (with_reducible refine (impl_ribbon.calls k (fun k_ => k_ < w.heap.size) _ _ l0_0 _ _ l0_1 _ _ l1 t790 _ ?_ ?_ ?_ ?_ ?_ A5.out).mono ?_); exact Kd.V_mk HC0_0.out (Kd.F_below (Kd.C_F (Kd.heap_int .i64) HR0_0.out) (bU1 HB.out GW788.out)); exact cU (Kd.C_below HR0_1.out HB.out); exact HC0_1.out; exact cU (Kd.C_below HR1.out HB.out); exact HC1.out; rintro e w13 ⟨v791, rfl, ho0, hb⟩; refine ⟨_, rfl, ?_⟩; have HO792 := Az (Kd.R_lower (Kd.R_mono (ok' := fun k_ => True) ho0 (fun _ hk_ => trivial)) (below_size (bU1 HB.out GW788.out))); replace BK788 := kB BK788.out hb; replace HB := Az z7_0; clear hb ho0; obtain ⟨Ao14, co14, eo14⟩ := Kd.R_slice HO792.out; subst eo14; have p793 : 0 ≤ (0 : Int) := (by omega); have q793 : 0 < (t790.length : Int) := oA; obtain ⟨ad793, e793, hx793_0⟩ := Kd.at_int (Kd.R_reads' HO792.out).2.2 0 p793 q793; cases e793; have qi793 : (0 < t790.length) = True := eq_true (by omega); rw [show ((0 : Int)).toNat = 0 from rfl] at hx793_0; rw [Addr.add_zero'] at hx793_0; replace p793 := eq_true p793; replace q793 := eq_true q793; have p794 : 0 ≤ (3 : Int) := (by omega); have q794 : 3 < (t790.length : Int) := oA; obtain ⟨ad794, e794, hx794_0⟩ := Kd.at_int (Kd.R_reads' HO792.out).2.2 3 p794 q794; obtain rfl : ad793 = ad794 := (by injection e794); simp only [show (3 : Int).toNat = 3 from rfl, Nat.reduceMul, Nat.reduceEqDiff, Go.Addr.add, ↓reduceIte] at hx794_0; have qi794 : (3 < t790.length) = True := eq_true (by omega); replace p794 := eq_true p794; replace q794 := eq_true q794))
   go_ret; exact ⟨rE, bU1 HB.out GW788.out⟩
  ·
   obtain rfl := Option.some.inj H; go_enter Try.func28, Try.ntmps28
   go_wp2_with (first | ((with_reducible refine gd 2 rfl ?_); refine bE 2 #[.slice A0_0 l0_0.length c0_0, .slice A0_1 l0_1.length c0_1] 25 ?_; intro gb788 hg w15 hbox hb; have BK788 := Az (hbox); have GW788 := gW hg (bU0 HB.out); replace HB := Az (below_step (bU0 HB.out) hb); clear hb hbox hg; have hz16 := bc2 BK788.out) | ((with_reducible refine gK 16 rfl ?_); refine gC (some 8) Try.func16 #[.agg #[.slice A0_0 l0_0.length c0_0, .slice A0_1 l0_1.length c0_1], .slice A1 l1.length c1] ?_; (with_reducible refine (impl_ChoiceValid.calls k _ _ l0_0 _ _ l0_1 _ _ l1 true _ ?_ ?_ ?_ ?_ ?_ ?_ A3.out).mono ?_); exact cU (Kd.C_below HR0_0.out HB.out); exact HC0_0.out; exact cU (Kd.C_below HR0_1.out HB.out); exact HC0_1.out; exact cU (Kd.C_below HR1.out HB.out); exact HC1.out; rintro e w17 ⟨rfl, hb⟩; refine ⟨_, rfl, ?_⟩; replace BK788 := kB BK788.out hb; replace HB := Az z7_0; clear hb; have hz18 := bc2 BK788.out) | ((with_reducible refine gK 65 rfl ?_); refine gC (some 12) Try.func65 #[.agg #[.slice A0_0 l0_0.length c0_0, .slice A0_1 l0_1.length c0_1], .slice A1 l1.length c1] ?_; (with_reducible refine (impl_ribbon.calls k (fun k_ => k_ < w.heap.size) _ _ l0_0 _ _ l0_1 _ _ l1 t790 _ ?_ ?_ ?_ ?_ ?_ A5.out).mono ?_); exact Kd.V_mk HC0_0.out (Kd.F_below (Kd.C_F (Kd.heap_int .i64) HR0_0.out) (bU1 HB.out GW788.out)); exact cU (Kd.C_below HR0_1.out HB.out); exact HC0_1.out; exact cU (Kd.C_below HR1.out HB.out); exact HC1.out; rintro e w19 ⟨v791, rfl, ho0, hb⟩; refine ⟨_, rfl, ?_⟩; have HO792 := Az (Kd.R_lower (Kd.R_mono (ok' := fun k_ => True) ho0 (fun _ hk_ => trivial)) (below_size (bU1 HB.out GW788.out))); replace BK788 := kB BK788.out hb; replace HB := Az z7_0; clear hb ho0; obtain ⟨Ao20, co20, eo20⟩ := Kd.R_slice HO792.out; subst eo20; have p793 : 0 ≤ (0 : Int) := (by omega); have q793 : 0 < (t790.length : Int) := oA; obtain ⟨ad793, e793, hx793_0⟩ := Kd.at_int (Kd.R_reads' HO792.out).2.2 0 p793 q793; cases e793; have qi793 : (0 < t790.length) = True := eq_true (by omega); rw [show ((0 : Int)).toNat = 0 from rfl] at hx793_0; rw [Addr.add_zero'] at hx793_0; replace p793 := eq_true p793; replace q793 := eq_true q793))
   go_ret; exact ⟨rE, bU1 HB.out GW788.out⟩
 ·
  replace c4 := Bool.eq_false_iff.mpr c4; subst c4; rw [if_neg nT] at H; obtain rfl := Option.some.inj H; go_enter Try.func28, Try.ntmps28
  go_wp2_with (first | ((with_reducible refine gd 2 rfl ?_); refine bE 2 #[.slice A0_0 l0_0.length c0_0, .slice A0_1 l0_1.length c0_1] 25 ?_; intro gb788 hg w21 hbox hb; have BK788 := Az (hbox); have GW788 := gW hg (bU0 HB.out); replace HB := Az (below_step (bU0 HB.out) hb); clear hb hbox hg; have hz22 := bc2 BK788.out) | ((with_reducible refine gK 16 rfl ?_); refine gC (some 8) Try.func16 #[.agg #[.slice A0_0 l0_0.length c0_0, .slice A0_1 l0_1.length c0_1], .slice A1 l1.length c1] ?_; (with_reducible refine (impl_ChoiceValid.calls k _ _ l0_0 _ _ l0_1 _ _ l1 false _ ?_ ?_ ?_ ?_ ?_ ?_ A3.out).mono ?_); exact cU (Kd.C_below HR0_0.out HB.out); exact HC0_0.out; exact cU (Kd.C_below HR0_1.out HB.out); exact HC0_1.out; exact cU (Kd.C_below HR1.out HB.out); exact HC1.out; rintro e w23 ⟨rfl, hb⟩; refine ⟨_, rfl, ?_⟩; replace BK788 := kB BK788.out hb; replace HB := Az z7_0; clear hb))
  go_ret; exact ⟨rE, bU1 HB.out GW788.out⟩
set_option maxHeartbeats 4000000 in
set_option maxRecDepth 100000 in
theorem ttell.no (k : Nat) (A0 : Option Addr) (c0 : Nat) (l0 : List Int) (A1 : Option Addr) (c1 : Nat) (l1 : List Int) (A2 : Option Addr) (c2 : Nat) (l2 : List Int) (gm gn : Nat) (x : Int) (w : World)
  (hbm : w.heap[gm]? = some (.cells #[.slice A0 l0.length c0, .slice A1 l1.length c1] 25 (0, 0))) (hbn : w.heap[gn]? = some (.cells #[.int .i64 x] 3 (0, 0)))
  (hr0 : Kd.C (Kd.int .i64) w A0 l0.length l0) (hc0 : l0.length ≤ c0) (hr1 : Kd.C (Kd.int .i64) w A1 l1.length l1) (hc1 : l1.length ≤ c1) (hr2 : Kd.C (Kd.int .i64) w A2 l2.length l2) (hc2 : l2.length ≤ c2)
  (h : impl_ChoiceTree.f k l0 l1 l2 = some false) : Calls Try.prog 77 #[.slice A2 l2.length c2, .pointer (some ⟨gm, 0, none⟩), .pointer (some ⟨gn, 0, none⟩)] w fun e w' => e = .returned (.tuple #[]) ∧ Below w.heap.size w w' := by
 have hu25 := Try.underlying25; have hcm0 : w.cell? ⟨gm, 0, none⟩ = some (.slice A0 l0.length c0) := (blk_cell hbm 0).trans rfl; have hcm1 : w.cell? ⟨gm, 1, none⟩ = some (.slice A1 l1.length c1) := (blk_cell hbm 1).trans rfl; have Hbn := Az hbn; have HR0 := Az hr0; have HR1 := Az hr1; have HR2 := Az hr2; have HH := Az h; clear hbn hbm hr0 hr1 hr2 h; go_enter Try.func77, Try.ntmps77
 go_wp2_with (first | (go_at_call 28; refine (impl_ChoiceTree.calls k A0 c0 l0 A1 c1 l1 A2 c2 l2 false _ HR0.out hc0 HR1.out hc1 HR2.out hc2 HH.out).mono ?_; rintro e w1 ⟨rfl, hb⟩; have Hb := Az hb; clear hb))
 refine bodyPost_end (results_none rfl _ _ _) rfl ?_; exact ⟨rfl, Hb.out⟩
end Go.Proofs.Ytjgknblneokhlaa.PK

set_option linter.unusedVariables false
set_option linter.unusedSimpArgs false
namespace Go.Proofs.Ytjgknblneokhlaa.PK
open Go.RowKit Go.Proofs.YtjgknblneokhlaaW.PrintWords Go.Proofs.YtjgknblneokhlaaW.PrintLast Go.Proofs.YtjgknblneokhlaaW.PrintMore
theorem mulF_run (t f : List Int) (n : Nat) (hn : n ≤ 12) (ht : inR n t) (hf : inR n f) : ∀ (d i : Nat), n - i = d → i ≤ n → Ev (fun k => impl_mul.l0 k t (mixL (faces t f n) (List.replicate n 0) n i) f n i) (faces t f n)
  | 0, i, hd, hi => by
    have : i = n := by omega
    subst this; refine Ev.s ?_; simp only [impl_mul.l0, show ¬ (i : Int) < (i : Int) by omega, if_false]; rw [mixL_all _ _ _ (faces_len t f i)]; exact Ev.const rfl
  | d + 1, i, hd, hi => by
    have ih := mulF_run t f n hn ht hf d (i + 1) (by omega) (by omega); have fr := hf.2 i (by omega); have fe := faces_rd t f n i (by omega); refine Ev.s ?_; simp only [impl_mul.l0, hf.1, ht.1, mixL_len, show (i : Int) < (n : Int) by omega, show (0 : Int) ≤ (i : Int) by omega, fr.1, fr.2, if_true, w64n (show i < 4611686018427387904 by omega), Int.toNat_natCast]; rw [← fe, mixL_set _ _ _ _ (by omega)]; exact ih
theorem mulF_ev (t f : List Int) (n : Nat) (hn : n ≤ 12) (ht : inR n t) (hf : inR n f) : Ev (fun k => impl_mul.f k f t) (faces t f n) := by
  unfold impl_mul.f
  rw [hf.1]; simp only [show (0 : Int) ≤ (n : Int) by omega, Int.toNat_natCast, show n ≤ 35184372088832 by omega, if_true]; have := mulF_run t f n hn ht hf n 0 (by omega) (by omega); rw [mixL_zero _ _ _ (by simp)] at this; exact this
def threeN (V E F : Nat) : List Int := [(V : Int), (E : Int), (F : Int)]
theorem mapCounts_ev (t f : List Int) (hm : isMap t f) (ht : t.length ≤ 1048576) (hf : f.length ≤ 1048576) : ∃ F : Nat, Cl t.length (Reach [faces t f t.length] t.length) F ∧ Ev (fun k => impl_MapCounts.f k t f) (threeN (cyS t t.length t.length).2.length (edL f t.length).length F, true) := by
  obtain ⟨hn, h1, ht', hti, hf', hfl, hcon⟩ := mapOk_of t f hm; obtain ⟨b, _, b2, b3⟩ := mapValid_both t f ht hf; have hb : b = true := b3.2 hm; subst hb; have hF := faces_inR t f t.length ht' hf'; refine ⟨(cyS (faces t f t.length) t.length t.length).2.length, cyS_cl _ _ hF (faces_inj t f t.length ht' hti hf' hfl), ?_⟩; have hh := edL_half f t.length hf' hfl; have hlen := hf'.1
  unfold impl_MapCounts.f
  refine Ev.bind b2 ?_; simp only [if_true]; refine Ev.bind (implCyc_ev t t.length (by omega) ht') ?_; refine Ev.bind (mulF_ev t f t.length hn ht' hf') ?_; refine Ev.bind (implCyc_ev _ t.length (by omega) hF) (Ev.const ?_)
  unfold threeN
  rw [w64 (by omega) (by omega), show (f.length : Int) / 2 = (((edL f t.length).length : Nat) : Int) by omega]
theorem map_small (t f : List Int) (hm : isMap t f) : t.length ≤ 12 ∧ f.length ≤ 12 ∧ (edL f t.length).length ≤ 12 := by
  obtain ⟨hn, h1, ht', hti, hf', hfl, hcon⟩ := mapOk_of t f hm; have := edL_le f t.length; have := hf'.1; omega
def sumB : Nat → ((Nat → Bool) → Int) → Int
  | 0, F => F (fun _ => false)
  | E + 1, F => sumB E (fun s => F (fun j => if j = E then false else s j)) + sumB E (fun s => F (fun j => if j = E then true else s j))
def lstS (s : Nat → Bool) : Nat → List Int
  | 0 => []
  | E + 1 => if s E = true then lstS s E ++ [(E : Int)] else lstS s E
theorem lstS_congr (s s' : Nat → Bool) : ∀ E, (∀ j, j < E → s j = s' j) → lstS s E = lstS s' E
  | 0, _ => rfl
  | E + 1, h => by
    simp only [lstS, h E (by omega), lstS_congr s s' E fun j hj => h j (by omega)]
theorem sumB_congr : ∀ (E : Nat) (F G : (Nat → Bool) → Int), (∀ s, (∀ j, E ≤ j → s j = false) → F s = G s) → sumB E F = sumB E G
  | 0, F, G, h => h _ fun _ _ => rfl
  | E + 1, F, G, h => by
    simp only [sumB]
    congr 1
    · refine sumB_congr E _ _ fun s hs => h _ fun j hj => ?_
      by_cases z : j = E
      · rw [if_pos z]
      · rw [if_neg z]; exact hs j (by omega)
    · refine sumB_congr E _ _ fun s hs => h _ fun j hj => ?_
      rw [if_neg (by omega)]; exact hs j (by omega)
theorem mem_lstS (s : Nat → Bool) : ∀ (E : Nat) (x : Int), x ∈ lstS s E ↔ ∃ j : Nat, j < E ∧ s j = true ∧ x = j
  | 0, x => by simp [lstS]
  | E + 1, x => by
    have ih := mem_lstS s E x; simp only [lstS]
    by_cases h : s E = true
    · rw [if_pos h, List.mem_append, ih, List.mem_singleton]
      constructor
      · rintro (⟨j, a, b, c⟩ | z)
        · exact ⟨j, by omega, b, c⟩
        · exact ⟨E, by omega, h, z⟩
      · rintro ⟨j, a, b, c⟩
        by_cases z : j = E
        · exact .inr (by rw [c, z])
        · exact .inl ⟨j, by omega, b, c⟩
    · rw [if_neg h, ih]
      constructor
      · rintro ⟨j, a, b, c⟩; exact ⟨j, by omega, b, c⟩
      · rintro ⟨j, a, b, c⟩
        refine ⟨j, ?_, b, c⟩
        by_cases z : j = E
        · rw [z] at b; exact absurd b h
        · omega
theorem lstS_choice (s : Nat → Bool) (E : Nat) : isChoice (lstS s E) (E : Int) := by
  refine choice_of _ _ (fun x hx => ?_) ?_
  · obtain ⟨j, a, b, c⟩ := (mem_lstS s E x).1 hx
    omega
  · induction E with
    | zero => exact List.Pairwise.nil
    | succ E ih =>
      simp only [lstS]
      by_cases h : s E = true
      · rw [if_pos h]
        refine List.pairwise_append.2 ⟨ih, by simp, fun a ha b hb => ?_⟩; obtain ⟨j, a1, _, a3⟩ := (mem_lstS s E a).1 ha; have := List.mem_singleton.1 hb; omega
      · rw [if_neg h]; exact ih
noncomputable def clN (n : Nat) (R : Nat → Nat → Prop) : Nat := Classical.choose (Cl.ex n R)
theorem clN_cl (n : Nat) (R : Nat → Nat → Prop) : Cl n R (clN n R) := (Classical.choose_spec (Cl.ex n R)).1
theorem Cl.eq {n : Nat} {R : Nat → Nat → Prop} {k : Nat} (h : Cl n R k) : clN n R = k := (clN_cl n R).uniq h
noncomputable def pN (t f : List Int) (n : Nat) (c : List Int) : Nat := clN n (Reach [t, flC f n c] n)
noncomputable def sN (t f : List Int) (n : Nat) (c : List Int) : Nat := clN n (Reach [sgL t f n c] n)
noncomputable def vN (t : List Int) (n : Nat) : Nat := clN n (Reach [t] n)
noncomputable def tmV (t f : List Int) (n : Nat) (X Y Z : Int) (c : List Int) : Int :=
  X ^ (pN t f n c - 1) * Y ^ (c.length + pN t f n c - vN t n) * Z ^ ((2 * pN t f n c + c.length - vN t n - sN t f n c) / 2)
noncomputable def valS (t f : List Int) (n : Nat) (X Y Z : Int) : Int := sumB (edL f n).length fun s => tmV t f n X Y Z (lstS s (edL f n).length)
theorem nums (t f : List Int) (n : Nat) (H : MapOk t f n) (c : List Int) (hc : isChoice c ((edL f n).length : Int)) :
    ∃ g G : Nat, 2 * pN t f n c + c.length = vN t n + sN t f n c + 2 * g ∧ vN t n ≤ c.length + pN t f n c ∧ g ≤ G ∧ 2 + (edL f n).length = vN t n + vN (faces t f n) n + 2 * G :=
  five_math t f c n H hc _ _ _ _ (clN_cl _ _) (clN_cl _ _) (clN_cl _ _) (clN_cl _ _)
theorem Cl.pos {n : Nat} {R : Nat → Nat → Prop} {k : Nat} (h : Cl n R k) (hn : 1 ≤ n) : 1 ≤ k := by
  obtain ⟨L, _, h2, h3⟩ := h; have : (0 : Nat) ∈ L := (h2 0).2 ⟨by omega, fun i hi => by omega⟩; have := List.length_pos_of_mem this; omega
theorem reach_wide (t F : List Int) (n x y : Nat) (h : Reach [t] n x y) : Reach [t, F] n x y := fun S hS => h S fun p hp => by
  rw [List.mem_singleton.1 hp]; exact hS t (by simp)
def EdgeAt (f : List Int) (n e a b : Nat) : Prop := a < n ∧ b < n ∧ a ≠ b ∧ rd (edL f n) (e : Int) = a ∧ rd f a = b ∧ rd f b = a ∧ ∀ d : Nat, d < n → (rd (geL f n n) (d : Int) = e ↔ d = a ∨ d = b)
theorem kindI_ev (t f : List Int) (hm : isMap t f) (e a b : Nat) (he : e < (edL f t.length).length) (hab : EdgeAt f t.length e a b) : ∃ P : Nat, Cl t.length (Reach [t, flC f t.length (restL [(e : Int)] (edL f t.length).length)] t.length) P ∧ (P = 1 ∨ P = 2) ∧
    (Reach [t] t.length a b → Ev (fun k => impl_EdgeKind.f k t f e) 2) ∧ (¬ Reach [t] t.length a b → Ev (fun k => impl_EdgeKind.f k t f e) ((P : Int) - 1)) := by
  obtain ⟨ha, hb, hne, e1, e2, e3, e4⟩ := hab; have H := mapOk_of t f hm; obtain ⟨hn, h1, ht', hti, hf', hfl, hcon⟩ := id H; obtain ⟨sm1, sm2, sm3⟩ := map_small t f hm
  have ht : t.length ≤ 1048576 := by omega
  have hf : f.length ≤ 1048576 := by omega
  obtain ⟨b0, b1, b2, b3⟩ := mapValid_both t f ht hf; have hb0 : b0 = true := b3.2 hm; subst hb0; have hh := edL_half f t.length hf' hfl; have hlen := hf'.1; have wf : wrap64 ((f.length : Int) / 2) = (f.length : Int) / 2 := w64 (by omega) (by omega); have hch : isChoice [(e : Int)] ((f.length : Int) / 2) := choice_of _ _ (by simp; omega) (by simp); obtain ⟨r, rb, r1, r2, r3, r4, r5⟩ := choiceRest_both t f [(e : Int)] ht hf (by simp); have hrb : rb = true := r5 ⟨hm, hch⟩; subst hrb; have hr := (r4 rfl).1
  have hHalf : f.length / 2 = (edL f t.length).length := by omega
  rw [hHalf] at hr; subst hr; have hR := H.rib (restL_choice [(e : Int)] (edL f t.length).length) r3; obtain ⟨o, o1, o2, o4⟩ := ribbon_parts t f _ t.length hR; have h12 := one_or_two t f t.length h1 ht' hf' hfl hcon e he o o1; have vl' : (vtx t t.length).length = t.length := vt_len _ _ _; have vs := vtx_same t t.length ht' hti a b ha hb; refine ⟨pc o t.length, parts_cl t f _ t.length h1 ht' hf' o o1, h12, fun hv => ?_, fun hv => ?_⟩
  · have hv' := vs.2 hv
    unfold impl_EdgeKind.f
    refine Ev.bind b2 ?_; simp only [if_true, show ¬ (e : Int) < 0 by omega, if_false, wf, show ¬ (e : Int) ≥ (f.length : Int) / 2 by omega, decide_false]; refine Ev.s ?_; simp only [impl_EdgeKind.j0, Bool.false_eq_true, if_false]; refine Ev.bind (implEdges_ev t.length (by omega) t f hf') ?_; simp only [show (0 : Int) ≤ (e : Int) by omega, show (e : Int) < ((edL f t.length).length : Int) by omega, if_true]; refine Ev.bind (implVert_ev t f t.length hn ht') ?_; simp only [e1, show (0 : Int) ≤ (a : Int) by omega, vl', show (a : Int) < (t.length : Int) by omega, hlen, e2, show (0 : Int) ≤ (b : Int) by omega, show (b : Int) < (t.length : Int) by omega, hv', if_true]; exact Ev.const rfl
  · have hv' : ¬ rd (vtx t t.length) (a : Int) = rd (vtx t t.length) (b : Int) := fun z => hv (vs.1 z)
    unfold impl_EdgeKind.f
    refine Ev.bind b2 ?_; simp only [if_true, show ¬ (e : Int) < 0 by omega, if_false, wf, show ¬ (e : Int) ≥ (f.length : Int) / 2 by omega, decide_false]; refine Ev.s ?_; simp only [impl_EdgeKind.j0, Bool.false_eq_true, if_false]; refine Ev.bind (implEdges_ev t.length (by omega) t f hf') ?_; simp only [show (0 : Int) ≤ (e : Int) by omega, show (e : Int) < ((edL f t.length).length : Int) by omega, if_true]; refine Ev.bind (implVert_ev t f t.length hn ht') ?_; simp only [e1, show (0 : Int) ≤ (a : Int) by omega, vl', show (a : Int) < (t.length : Int) by omega, hlen, e2, show (0 : Int) ≤ (b : Int) by omega, show (b : Int) < (t.length : Int) by omega, hv', if_true, if_false]; refine Ev.bind r2 ?_; refine Ev.bind o4 ?_
    have e0 : ∀ P S V c : Int, rd (fiveN P S V c) 0 = P := fun _ _ _ _ => rfl
    simp only [five_len, show (0 : Int) < ((5 : Nat) : Int) by omega, if_true, e0]
    rcases h12 with h | h
    · rw [h]
      exact Ev.const rfl
    · rw [h]
      exact Ev.const rfl
theorem term_zero (t f : List Int) (n : Nat) (H : MapOk t f n) (Z : Int) (c : List Int) (hc : isChoice c ((edL f n).length : Int)) :
    tmV t f n 0 0 Z c = if pN t f n c = 1 ∧ c.length + 1 = vN t n then 1 else 0 := by
  obtain ⟨g, G, a1, a2, a3, a4⟩ := nums t f n H c hc; have p1 := (clN_cl n (Reach [t, flC f n c] n)).pos H.2.1; have s1 := (clN_cl n (Reach [sgL t f n c] n)).pos H.2.1
  change 1 ≤ pN t f n c at p1
  change 1 ≤ sN t f n c at s1
  unfold tmV
  by_cases h : pN t f n c = 1 ∧ c.length + 1 = vN t n
  · obtain ⟨h1, h2⟩ := h
    rw [if_pos ⟨h1, h2⟩, show pN t f n c - 1 = 0 by omega, show c.length + pN t f n c - vN t n = 0 by omega, show (2 * pN t f n c + c.length - vN t n - sN t f n c) / 2 = 0 by omega]
    simp
  · rw [if_neg h]
    by_cases h1 : pN t f n c = 1
    · have : ∃ k, c.length + pN t f n c - vN t n = k + 1 := ⟨c.length + pN t f n c - vN t n - 1, by omega⟩
      obtain ⟨k, hk⟩ := this; rw [hk, Int.pow_succ]
      simp
    · have : ∃ k, pN t f n c - 1 = k + 1 := ⟨pN t f n c - 2, by omega⟩
      obtain ⟨k, hk⟩ := this; rw [hk, Int.pow_succ]
      simp
end Go.Proofs.Ytjgknblneokhlaa.PK

namespace Go.Proofs.Ytjgknblneokhlaa.PK
open Go.RowKit Go.Proofs.YtjgknblneokhlaaW.PrintWords Go.Proofs.YtjgknblneokhlaaW.PrintLast Go.Proofs.YtjgknblneokhlaaW.PrintMore
attribute [local go_sem] max2_int min2_int max_two min_two max_three min_three max_four min_four   -- for this text's walks alone
set_option linter.unusedVariables false
set_option linter.unusedSimpArgs false
def spec_l7Leave.T14 : Bool × List (List Nat × List Nat) := (true, [([], []), ([0], [0]), ([], []), ([], []), ([], []), ([3, 4], [3, 4]), ([5], [5]), ([2, 6], [2, 6]), ([7], [7]), ([8], [8]), ([1, 9], [1, 9]), ([0, 1, 2, 3, 4, 5, 6, 7, 8, 9, 10], []), ([11, 10, 10, 0, 1, 2, 3, 4, 5, 6, 7, 8, 9, 10], [10, 11])])
def spec_l7Leave.B14 : List Nat := [0, 1, 0, 0, 0, 24, 56, 124, 252, 508, 1023, 2047, 4095]
def spec_l7Leave.T15 : Bool × List (List Nat × List Nat) := (true, [([], []), ([0], [0]), ([], []), ([], []), ([], []), ([3, 4], [3, 4]), ([5], [5]), ([2, 6], [2, 6]), ([7], [7]), ([8], [8]), ([1, 9], [1, 9]), ([0, 1, 2, 3, 4, 5, 6, 7, 8, 9, 10], []), ([11, 10, 10, 0, 1, 2, 3, 4, 5, 6, 7, 8, 9, 10], [10, 11])])
def spec_l7Leave.B15 : List Nat := [0, 1, 0, 0, 0, 24, 56, 124, 252, 508, 1023, 2047, 4095]
end Go.Proofs.Ytjgknblneokhlaa.PK

set_option linter.unusedVariables false
set_option linter.unusedSimpArgs false
namespace Go.Proofs.Ytjgknblneokhlaa.PK
open Go.RowKit Go.Proofs.YtjgknblneokhlaaW.PrintWords Go.Proofs.YtjgknblneokhlaaW.PrintLast Go.Proofs.YtjgknblneokhlaaW.PrintMore
def nmA (a b : Nat) : Nat → Nat
  | 0 => 0
  | d + 1 => nmA a b d + if d = a ∨ d = b then 0 else 1
theorem nmA_le (a b : Nat) : ∀ d, nmA a b d ≤ d
  | 0 => Nat.le_refl _
  | d + 1 => by
    have := nmA_le a b d; simp only [nmA]
    split <;> omega
def lvL (a b : Nat) (h : Nat → Int) : Nat → List Int
  | 0 => []
  | i + 1 => if i = a ∨ i = b then lvL a b h i else lvL a b h i ++ [h i]
theorem lvL_len (a b : Nat) (h : Nat → Int) : ∀ i, (lvL a b h i).length = nmA a b i
  | 0 => rfl
  | i + 1 => by
    have ih := lvL_len a b h i; simp only [lvL, nmA]
    split
    · rw [ih]; rfl
    · rw [List.length_append, ih]; rfl
theorem rd_rangeL (h : Nat → Int) (n d : Nat) (hd : d < n) : rd ((List.range n).map h) (d : Int) = h d := by
  rw [rd_lt _ _ (by simp; exact hd)]; simp
def nmT (a b n : Nat) : List Int := (List.range n).map fun (d : Nat) => (nmA a b d : Int)
theorem nmT_rd (a b n d : Nat) (h : d < n) : rd (nmT a b n) (d : Int) = (nmA a b d : Int) := rd_rangeL _ n d h
theorem nmT_len (a b n : Nat) : (nmT a b n).length = n := by simp [nmT]
def skp (p : List Int) (a b : Nat) (x : Int) : Int := if x = a ∨ x = b then (if rd p x = a ∨ rd p x = b then rd p (rd p x) else rd p x) else x
theorem skp_out (p : List Int) (n : Nat) (hp : inR n p) (hi : injR n p) (a b d : Nat) (ha : a < n) (hb : b < n) (hd : d < n) (hab : a ≠ b) (hda : d ≠ a) (hdb : d ≠ b) :
    (skp p a b (rd p (d : Int)) ≠ a ∧ skp p a b (rd p (d : Int)) ≠ b) ∧ 0 ≤ skp p a b (rd p (d : Int)) ∧ skp p a b (rd p (d : Int)) < n := by
  have rd0 := hp.2 d hd; have ra := hp.2 a ha; have rb := hp.2 b hb
  have ia : rd p (d : Int) ≠ rd p (a : Int) := fun z => hda (hi d a hd ha z)
  have ib : rd p (d : Int) ≠ rd p (b : Int) := fun z => hdb (hi d b hd hb z)
  have iab : rd p (a : Int) ≠ rd p (b : Int) := fun z => hab (hi a b ha hb z)
  unfold skp
  by_cases c : rd p (d : Int) = a ∨ rd p (d : Int) = b
  · rw [if_pos c]
    rcases c with c | c
    · rw [c]
      by_cases c2 : rd p (a : Int) = a ∨ rd p (a : Int) = b
      · rw [if_pos c2]
        rcases c2 with c2 | c2
        · exact absurd (c.trans c2.symm) ia
        · rw [c2]
          refine ⟨⟨fun z => ib (c.trans z.symm), fun z => iab (c2.trans z.symm)⟩, rb⟩
      · rw [if_neg c2]
        exact ⟨⟨fun z => c2 (.inl z), fun z => c2 (.inr z)⟩, ra⟩
    · rw [c]
      by_cases c2 : rd p (b : Int) = a ∨ rd p (b : Int) = b
      · rw [if_pos c2]
        rcases c2 with c2 | c2
        · rw [c2]
          refine ⟨⟨fun z => iab (z.trans c2.symm), fun z => ia (c.trans z.symm)⟩, ra⟩
        · exact absurd (c.trans c2.symm) ib
      · rw [if_neg c2]
        exact ⟨⟨fun z => c2 (.inl z), fun z => c2 (.inr z)⟩, rb⟩
  · rw [if_neg c]
    exact ⟨⟨fun z => c (.inl z), fun z => c (.inr z)⟩, rd0⟩
theorem skp_run (F : Nat → Int → Option Int) (p : List Int) (n : Nat) (hp : inR n p) (a b : Nat) (hstop : ∀ x : Int, x ≠ a → x ≠ b → Ev (fun k => F k x) x) (hgo : ∀ x : Int, (x = a ∨ x = b) → ∀ r, Ev (fun k => F k (rd p x)) r → Ev (fun k => F k x) r) (x : Int) (ho : skp p a b x ≠ a ∧ skp p a b x ≠ b) : Ev (fun k => F k x) (skp p a b x) := by
  unfold skp at ho ⊢
  by_cases c : x = a ∨ x = b
  · rw [if_pos c] at ho ⊢
    by_cases c2 : rd p x = a ∨ rd p x = b
    · rw [if_pos c2] at ho ⊢
      exact hgo x c _ (hgo _ c2 _ (hstop _ ho.1 ho.2))
    · rw [if_neg c2] at ho ⊢
      exact hgo x c _ (hstop _ ho.1 ho.2)
  · rw [if_neg c] at ho ⊢
    exact hstop x ho.1 ho.2
def outT (p : List Int) (a b n : Nat) : List Int := lvL a b (fun d => (nmA a b (skp p a b (rd p (d : Int))).toNat : Int)) n
def outF (f : List Int) (a b n : Nat) : List Int := lvL a b (fun d => (nmA a b (rd f (d : Int)).toNat : Int)) n
end Go.Proofs.Ytjgknblneokhlaa.PK
