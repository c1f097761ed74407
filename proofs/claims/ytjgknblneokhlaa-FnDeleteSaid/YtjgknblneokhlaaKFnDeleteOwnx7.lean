/- For every code: of the map and the edge that the statement draws, EdgeDelete of the program answers what the reference answers; one edge goes, the vertices stay; and where the dual's edge can be contracted, the rest is the dual of what is left. There are no conditions. -/
import Derived.Test.YtjgknblneokhlaaKFnDeleteOwnx6
set_option linter.unusedVariables false
set_option linter.unusedSimpArgs false
namespace Go.Proofs.Ytjgknblneokhlaa.PK
open Go.RowKit Go.Proofs.YtjgknblneokhlaaW.PrintWords Go.Proofs.YtjgknblneokhlaaW.PrintLast Go.Proofs.YtjgknblneokhlaaW.PrintMore
theorem has_run (c : List Int) (hc : c.length ≤ 1048576) (x : Int) : ∀ (d i : Nat), c.length - i = d → i ≤ c.length → Ev (fun k => spec_l7Has.l0 k c x i) (decide (x ∈ c.drop i))
  | 0, i, hd, hi => by
    refine Ev.s ?_
    simp only [spec_l7Has.l0, show ¬ (i : Int) < (c.length : Int) by omega, if_false]
    rw [List.drop_eq_nil_of_le (by omega)]
    exact Ev.const (by simp)
  | d + 1, i, hd, hi => by
    have hlt : i < c.length := by omega
    refine Ev.s ?_
    simp only [spec_l7Has.l0, show (i : Int) < (c.length : Int) by omega, show (0 : Int) ≤ (i : Int) by omega, if_true, w64n (show i < 4611686018427387904 by omega)]
    rw [List.drop_eq_getElem_cons hlt]
    have e := rd_lt c i hlt
    by_cases h : rd c i = x
    · simp only [h, if_true]
      exact Ev.const (by rw [decide_eq_true]; rw [← h, e]; exact List.mem_cons_self)
    · simp only [h, if_false]
      have := has_run c hc x d (i + 1) (by omega) (by omega)
      have e2 : decide (x ∈ c[i] :: c.drop (i + 1)) = decide (x ∈ c.drop (i + 1)) := by
        rw [Bool.eq_iff_iff, decide_eq_true_eq, decide_eq_true_eq, List.mem_cons]
        exact ⟨fun z => z.elim (fun y => absurd (by rw [e, y]) h) id, .inr⟩
      rw [e2]
      exact this
theorem has_ev (c : List Int) (hc : c.length ≤ 1048576) (x : Int) : Ev (fun k => spec_l7Has.f k c x) (decide (x ∈ c)) := has_run c hc x c.length 0 (by omega) (by omega)
theorem index_run (c : List Int) (hc : c.length ≤ 1048576) (x : Int) : ∀ (d i : Nat), c.length - i = d → i ≤ c.length → ∃ v : Int, Ev (fun k => slices_Index_int_int.l0 k c x c.length i) v ∧ (v ≥ 0 ↔ x ∈ c.drop i)
  | 0, i, hd, hi => by
    refine ⟨-1, Ev.s ?_, ?_⟩
    · simp only [slices_Index_int_int.l0, show ¬ (i : Int) < (c.length : Int) by omega, if_false]
      exact Ev.const rfl
    · rw [List.drop_eq_nil_of_le (by omega)]
      simp
  | d + 1, i, hd, hi => by
    have hlt : i < c.length := by omega
    have e := rd_lt c i hlt
    by_cases h : x = rd c i
    · refine ⟨i, Ev.s ?_, ?_⟩
      · simp only [slices_Index_int_int.l0, show (i : Int) < (c.length : Int) by omega, show (0 : Int) ≤ (i : Int) by omega, if_true]
        rw [← h]
        simp only [if_true]
        exact Ev.const rfl
      · rw [List.drop_eq_getElem_cons hlt, ← e, ← h]
        exact ⟨fun _ => List.mem_cons_self, fun _ => by omega⟩
    · obtain ⟨v, v1, v2⟩ := index_run c hc x d (i + 1) (by omega) (by omega)
      refine ⟨v, Ev.s ?_, ?_⟩
      · simp only [slices_Index_int_int.l0, show (i : Int) < (c.length : Int) by omega, show (0 : Int) ≤ (i : Int) by omega, if_true, h, if_false, w64n (show i < 4611686018427387904 by omega)]
        exact v1
      · rw [v2, List.drop_eq_getElem_cons hlt, List.mem_cons]
        exact ⟨.inr, fun z => z.elim (fun y => absurd (by rw [e, y]) h) id⟩
theorem contains_ev (c : List Int) (hc : c.length ≤ 1048576) (x : Int) : Ev (fun k => slices_Contains_int_int.f k c x) (decide (x ∈ c)) := by
  obtain ⟨v, v1, v2⟩ := index_run c hc x c.length 0 (by omega) (by omega)
  unfold slices_Contains_int_int.f slices_Index_int_int.f
  refine Ev.bind v1 (Ev.const ?_)
  rw [List.drop_zero] at v2
  congr 1
  rw [Bool.eq_iff_iff, decide_eq_true_eq, decide_eq_true_eq]
  exact v2
def restL (c : List Int) (m : Nat) : List Int := ((List.range m).filter fun (i : Nat) => !decide ((i : Int) ∈ c)).map fun (i : Nat) => (i : Int)
theorem restL_succ (c : List Int) (m : Nat) : restL c (m + 1) = if (m : Int) ∈ c then restL c m else restL c m ++ [(m : Int)] := by
  unfold restL
  rw [List.range_succ, List.filter_append]
  by_cases h : (m : Int) ∈ c <;> simp [h]
theorem restL_len (c : List Int) (m : Nat) : (restL c m).length ≤ m := by
  unfold restL
  rw [List.length_map]
  have := List.length_filter_le (fun (i : Nat) => !decide ((i : Int) ∈ c)) (List.range m)
  rwa [List.length_range] at this
theorem implRest_run (c : List Int) (hc : c.length ≤ 1048576) (m : Nat) (hm : m ≤ 1048576) : ∀ (d i : Nat), m - i = d → i ≤ m → Ev (fun k => impl_ChoiceRest.l0 k c (restL c i) m i) (restL c m, true)
  | 0, i, hd, hi => by
    refine Ev.s ?_
    simp only [impl_ChoiceRest.l0, show ¬ (i : Int) < (m : Int) by omega, if_false]
    have : i = m := by omega
    subst this
    exact Ev.const rfl
  | d + 1, i, hd, hi => by
    have hl := restL_len c i
    have ih := implRest_run c hc m hm d (i + 1) (by omega) (by omega)
    rw [restL_succ] at ih
    refine Ev.s ?_
    simp only [impl_ChoiceRest.l0, show (i : Int) < (m : Int) by omega, if_true, w64n (show i < 4611686018427387904 by omega)]
    refine Ev.bind (contains_ev c hc i) ?_
    by_cases h : (i : Int) ∈ c
    · simp only [h, decide_true, if_true] at ih ⊢
      exact ih
    · simp only [h, decide_false, Bool.false_eq_true, if_false, show (restL c i).length < 17592186044416 by omega, if_true] at ih ⊢
      exact ih
theorem specRest_run (t f c : List Int) (hc : c.length ≤ 1048576) (m : Nat) (hm : m ≤ 1048576) (hfm : (f.length : Int) / 2 = m) (hv : Ev (fun k => spec_ChoiceValid.f k t f c) true) : ∀ (d i : Nat), m - i = d → i ≤ m → Ev (fun k => spec_ChoiceRest.l0 k c (restL c i) i t f) (restL c m, true)
  | 0, i, hd, hi => by
    have : i = m := by omega
    subst this
    refine Ev.s ?_
    simp only [spec_ChoiceRest.l0, hfm, w64r (show -9223372036854775808 ≤ (i : Int) ∧ (i : Int) < 9223372036854775808 by omega), show ¬ (i : Int) < (i : Int) by omega, if_false]
    refine Ev.s ?_
    simp only [spec_ChoiceRest.j1, Bool.false_eq_true, if_false]
    exact Ev.bind hv (Ev.const rfl)
  | d + 1, i, hd, hi => by
    have hl := restL_len c i
    have ih := specRest_run t f c hc m hm hfm hv d (i + 1) (by omega) (by omega)
    rw [restL_succ] at ih
    refine Ev.s ?_
    simp only [spec_ChoiceRest.l0, hfm, w64r (show -9223372036854775808 ≤ (m : Int) ∧ (m : Int) < 9223372036854775808 by omega), show (i : Int) < (m : Int) by omega, if_true]
    refine Ev.bind hv ?_
    refine Ev.s ?_
    simp only [spec_ChoiceRest.j1, if_true, w64n (show i < 4611686018427387904 by omega)]
    refine Ev.bind (has_ev c hc i) ?_
    by_cases h : (i : Int) ∈ c
    · simp only [h, decide_true, if_true] at ih ⊢
      exact ih
    · simp only [h, decide_false, Bool.false_eq_true, if_false, show (restL c i).length < 17592186044416 by omega, if_true] at ih ⊢
      exact ih
theorem choiceRest_both (t f c : List Int) (ht : t.length ≤ 1048576) (hf : f.length ≤ 1048576) (hc : c.length ≤ 1048576) : ∃ (r : List Int) (b : Bool), Ev (fun k => spec_ChoiceRest.f k t f c) (r, b) ∧ Ev (fun k => impl_ChoiceRest.f k t f c) (r, b) ∧ r.length ≤ 1048576 ∧ (b = true → r = restL c (f.length / 2) ∧ isMap t f ∧ isChoice c ((f.length : Int) / 2)) ∧ (isMap t f ∧ isChoice c ((f.length : Int) / 2) → b = true) := by
  obtain ⟨b, b1, b2, b3⟩ := choiceValid_both t f c ht hf hc
  have hfm : (f.length : Int) / 2 = ((f.length / 2 : Nat) : Int) := by omega
  have hm : f.length / 2 ≤ 1048576 := by omega
  have hl := restL_len c (f.length / 2)
  cases b with
  | true =>
    refine ⟨restL c (f.length / 2), true, ?_, ?_, by omega, fun _ => ⟨rfl, b3.1 rfl⟩, fun _ => rfl⟩
    · exact specRest_run t f c hc _ hm hfm b1 _ 0 rfl (by omega)
    · unfold impl_ChoiceRest.f
      refine Ev.bind b2 ?_
      simp only [if_true, hfm, w64r (show -9223372036854775808 ≤ ((f.length / 2 : Nat) : Int) ∧ ((f.length / 2 : Nat) : Int) < 9223372036854775808 by omega)]
      exact implRest_run c hc _ hm _ 0 rfl (by omega)
  | false =>
    refine ⟨[], false, ?_, ?_, by simp, fun h => (by cases h), fun h => b3.2 h⟩
    · unfold spec_ChoiceRest.f
      refine Ev.s ?_
      simp only [spec_ChoiceRest.l0, hfm, w64r (show -9223372036854775808 ≤ ((f.length / 2 : Nat) : Int) ∧ ((f.length / 2 : Nat) : Int) < 9223372036854775808 by omega)]
      have hj : Ev (fun k => spec_ChoiceRest.j1 k c [] 0 false t f) ([], false) := by
        refine Ev.s ?_
        simp only [spec_ChoiceRest.j1, Bool.false_eq_true, if_false]
        exact Ev.bind b1 (Ev.const rfl)
      by_cases h0 : (0 : Int) < ((f.length / 2 : Nat) : Int)
      · simp only [h0, if_true]
        exact Ev.bind b1 hj
      · simp only [h0, if_false]
        exact hj
    · unfold impl_ChoiceRest.f
      refine Ev.bind b2 ?_
      simp only [Bool.false_eq_true, if_false]
      exact Ev.const rfl
def chB (f : List Int) (n : Nat) (c : List Int) (d : Int) : Bool := decide (rd (geL f n n) d ∈ c)
def flC (f : List Int) (n : Nat) (c : List Int) : List Int := (List.range n).map fun (d : Nat) => if chB f n c (d : Int) = true then rd f (d : Int) else (d : Int)
theorem flC_len (f : List Int) (n : Nat) (c : List Int) : (flC f n c).length = n := by simp [flC]
theorem flC_rd (f : List Int) (n : Nat) (c : List Int) (d : Nat) (h : d < n) : rd (flC f n c) (d : Int) = if chB f n c (d : Int) = true then rd f (d : Int) else (d : Int) := by
  rw [rd_lt _ _ (by simp [flC]; exact h)]
  simp [flC]
theorem flC_inR (f : List Int) (n : Nat) (hf : inR n f) (c : List Int) : inR n (flC f n c) := by
  refine ⟨flC_len f n c, fun i hi => ?_⟩
  rw [flC_rd f n c i hi]
  have := hf.2 i hi
  split <;> omega
theorem edL_get (f : List Int) : ∀ (n e : Nat), e < (edL f n).length → ∃ a : Nat, a < n ∧ (a : Int) < rd f a ∧ rd (edL f n) (e : Int) = a ∧ (edL f a).length = e
  | 0, e, h => by simp [edL] at h
  | n + 1, e, h => by
    simp only [edL] at h ⊢
    by_cases hc : (n : Int) < rd f n
    · simp only [hc, if_true, List.length_append, List.length_cons, List.length_nil] at h ⊢
      by_cases he : e < (edL f n).length
      · obtain ⟨a, h1, h2, h3, h4⟩ := edL_get f n e he
        exact ⟨a, by omega, h2, by rw [rd_app_lt _ _ _ he]; exact h3, h4⟩
      · have e1 : (edL f n).length = e := by omega
        refine ⟨n, by omega, hc, ?_, e1⟩
        rw [rd_lt _ _ (by simp; omega), List.getElem_append_right (by omega)]
        simp [e1]
    · simp only [hc, if_false] at h ⊢
      obtain ⟨a, h1, h2, h3, h4⟩ := edL_get f n e h
      exact ⟨a, by omega, h2, h3, h4⟩
theorem edge_at (f : List Int) (n : Nat) (hf : inR n f) (hfl : ∀ i : Nat, i < n → flipAt f i) (e : Nat) (he : e < (edL f n).length) : ∃ a b : Nat, a < n ∧ b < n ∧ a ≠ b ∧ rd (edL f n) (e : Int) = a ∧ rd f a = b ∧ rd f b = a ∧ ∀ d : Nat, d < n → (rd (geL f n n) (d : Int) = e ↔ d = a ∨ d = b) := by
  obtain ⟨a, h1, h2, h3, h4⟩ := edL_get f n e he
  have g1 := hf.2 a h1
  obtain ⟨g2, g3⟩ := hfl a h1
  have hb : (((rd f a).toNat : Nat) : Int) = rd f a := by omega
  refine ⟨a, (rd f a).toNat, h1, by omega, by omega, h3, hb.symm, by rw [hb]; exact g3, fun d hd => ?_⟩
  have l1 := least_lt f n hf hfl d hd
  rw [geL_at f n hf hfl n (Nat.le_refl _) d hd l1.1]
  have d1 := hf.2 d hd
  obtain ⟨d2, d3⟩ := hfl d hd
  constructor
  · intro h
    have i1 := edL_at f (least f d) l1.2 n l1.1
    rw [h, h3] at i1
    have i2 : least f d = a := by omega
    unfold least at i2
    split at i2
    · exact .inl i2
    · right
      have : rd f d = a := by omega
      rw [this] at d3
      omega
  · rintro (rfl | rfl)
    · rw [show least f d = d from if_pos h2, h4]
    · have : least f (rd f a).toNat = a := by
        unfold least
        rw [hb, g3, if_neg (by omega)]
        omega
      rw [this, h4]
theorem take_get (c : List Int) (i : Nat) (h : i < c.length) : c.take (i + 1) = c.take i ++ [rd c i] := by
  rw [List.take_add_one, rd_lt c i h]
  simp [h]
theorem choice_range (c : List Int) (m : Int) (hc : isChoice c m) (i : Nat) (hi : i < c.length) : 0 ≤ rd c i ∧ rd c i < m := by
  have h := hc i hi
  have h2 := asc_nonneg c m i (fun j hj => hc j (by omega))
  unfold ascAt at h
  omega
def itr (t : List Int) : Nat → Int → Int
  | 0, x => x
  | k + 1, x => itr t k (rd t x)
theorem itr_in (t : List Int) (n : Nat) (ht : inR n t) : ∀ (k : Nat) (x : Int), 0 ≤ x ∧ x < n → 0 ≤ itr t k x ∧ itr t k x < n
  | 0, x, h => h
  | k + 1, x, h => by
    have := ht.2 x.toNat (by omega)
    rw [show ((x.toNat : Nat) : Int) = x by omega] at this
    exact itr_in t n ht k _ this
theorem itr_add (t : List Int) : ∀ (a b : Nat) (x : Int), itr t (a + b) x = itr t b (itr t a x)
  | 0, b, x => by rw [Nat.zero_add]; rfl
  | a + 1, b, x => by
    rw [show a + 1 + b = (a + b) + 1 by omega]
    exact itr_add t a b _
def injR (n : Nat) (t : List Int) : Prop := ∀ i j : Nat, i < n → j < n → rd t i = rd t j → i = j
theorem itr_inj (t : List Int) (n : Nat) (ht : inR n t) (hi : injR n t) : ∀ (k : Nat) (x y : Int), 0 ≤ x ∧ x < n → 0 ≤ y ∧ y < n → itr t k x = itr t k y → x = y
  | 0, x, y, _, _, h => h
  | k + 1, x, y, hx, hy, h => by
    have a1 := ht.2 x.toNat (by omega)
    have a2 := ht.2 y.toNat (by omega)
    have ex : ((x.toNat : Nat) : Int) = x := by omega
    have ey : ((y.toNat : Nat) : Int) = y := by omega
    rw [ex] at a1
    rw [ey] at a2
    have h1 := itr_inj t n ht hi k _ _ a1 a2 h
    have := hi x.toNat y.toNat (by omega) (by omega) (by rw [ex, ey]; exact h1)
    omega
theorem itr_back (t : List Int) (n : Nat) (ht : inR n t) (hi : injR n t) (x : Int) (hx : 0 ≤ x ∧ x < n) : ∃ k : Nat, k < n ∧ itr t (k + 1) x = x := by
  by_cases h : ∃ i j : Nat, i < j ∧ j ≤ n ∧ itr t i x = itr t j x
  · obtain ⟨i, j, h1, h2, h3⟩ := h
    refine ⟨j - i - 1, by omega, ?_⟩
    have e : itr t j x = itr t i (itr t (j - i - 1 + 1) x) := by rw [← itr_add, show j - i - 1 + 1 + i = j by omega]
    rw [e] at h3
    exact (itr_inj t n ht hi i _ _ hx (itr_in t n ht _ x hx) h3).symm
  · exfalso
    have h1 := len_le_of_sub ((List.range (n + 1)).map fun i => (itr t i x).toNat) (List.range n) ?_ ?_
    · rw [List.length_map, List.length_range, List.length_range] at h1
      omega
    · rw [List.Nodup, List.pairwise_map]
      refine List.Pairwise.imp_of_mem ?_ (List.pairwise_lt_range (n := n + 1))
      intro a b ha hb hab e
      have ia := itr_in t n ht a x hx
      have ib := itr_in t n ht b x hx
      exact h ⟨a, b, hab, by have := List.mem_range.1 hb; omega, by omega⟩
    · intro y hy
      obtain ⟨a, ha, rfl⟩ := List.mem_map.1 hy
      have ia := itr_in t n ht a x hx
      exact List.mem_range.2 (by omega)
def fc (t : List Int) (ch : Int → Bool) : Nat → Int → Int
  | 0, x => x
  | m + 1, x => if ch x = true then x else fc t ch m (rd t x)
theorem fc_hit (t : List Int) (ch : Int → Bool) : ∀ (m : Nat) (x : Int), (∃ k : Nat, k ≤ m ∧ ch (itr t k x) = true) → ch (fc t ch m x) = true
  | 0, x, ⟨k, hk, h⟩ => by
    have : k = 0 := by omega
    subst this
    exact h
  | m + 1, x, ⟨k, hk, h⟩ => by
    simp only [fc]
    split
    · assumption
    · cases k with
      | zero => exact absurd h (by assumption)
      | succ k => exact fc_hit t ch m _ ⟨k, by omega, h⟩
theorem fc_in (t : List Int) (n : Nat) (ht : inR n t) (ch : Int → Bool) : ∀ (m : Nat) (x : Int), 0 ≤ x ∧ x < n → 0 ≤ fc t ch m x ∧ fc t ch m x < n
  | 0, x, h => h
  | m + 1, x, h => by
    simp only [fc]
    split
    · exact h
    · have := ht.2 x.toNat (by omega)
      rw [show ((x.toNat : Nat) : Int) = x by omega] at this
      exact fc_in t n ht ch m _ this
theorem meets (t : List Int) (n : Nat) (ht : inR n t) (hi : injR n t) (ch : Int → Bool) (x : Int) (hx : 0 ≤ x ∧ x < n) (hc : ch x = true) : ∃ k : Nat, k ≤ n ∧ ch (itr t k (rd t x)) = true := by
  obtain ⟨k, h1, h2⟩ := itr_back t n ht hi x hx
  exact ⟨k, by omega, by rw [show itr t k (rd t x) = itr t (k + 1) x from rfl, h2]; exact hc⟩
def faL (t f : List Int) (n : Nat) (c : List Int) : List Int := (List.range n).map fun (d : Nat) => if chB f n c (d : Int) = true then fc t (chB f n c) n (rd t (rd f (d : Int))) else (d : Int)
theorem faL_rd (t f : List Int) (n : Nat) (c : List Int) (d : Nat) (h : d < n) : rd (faL t f n c) (d : Int) = if chB f n c (d : Int) = true then fc t (chB f n c) n (rd t (rd f (d : Int))) else (d : Int) := by
  rw [rd_lt _ _ (by simp [faL]; exact h)]
  simp [faL]
theorem geL_flip (f : List Int) (n : Nat) (hf : inR n f) (hfl : ∀ i : Nat, i < n → flipAt f i) (d : Nat) (hd : d < n) : rd (geL f n n) (rd f d) = rd (geL f n n) d := by
  have h1 := hf.2 d hd
  obtain ⟨h2, h3⟩ := hfl d hd
  have hb : (((rd f d).toNat : Nat) : Int) = rd f d := by omega
  have l1 := least_lt f n hf hfl d hd
  have l2 := least_lt f n hf hfl (rd f d).toNat (by omega)
  have e1 := geL_at f n hf hfl n (Nat.le_refl _) d hd l1.1
  have e2 := geL_at f n hf hfl n (Nat.le_refl _) (rd f d).toNat (by omega) l2.1
  rw [hb] at e2
  rw [e1, e2]
  have : least f (rd f d).toNat = least f d := by
    unfold least
    rw [hb, h3]
    split <;> split <;> omega
  rw [this]
theorem chB_flip (f : List Int) (n : Nat) (hf : inR n f) (hfl : ∀ i : Nat, i < n → flipAt f i) (c : List Int) (d : Nat) (hd : d < n) : chB f n c (rd f d) = chB f n c d := by
  unfold chB
  rw [geL_flip f n hf hfl d hd]
theorem fa_ch (t f : List Int) (n : Nat) (ht : inR n t) (hi : injR n t) (hf : inR n f) (hfl : ∀ i : Nat, i < n → flipAt f i) (c : List Int) (d : Nat) (hd : d < n) (hc : chB f n c d = true) :
    chB f n c (rd (faL t f n c) d) = true ∧ 0 ≤ rd (faL t f n c) d ∧ rd (faL t f n c) d < n := by
  have h1 := hf.2 d hd
  rw [faL_rd t f n c d hd, if_pos hc]
  have h2 := ht.2 (rd f d).toNat (by omega)
  rw [show (((rd f d).toNat : Nat) : Int) = rd f d by omega] at h2
  exact ⟨fc_hit t _ n _ (meets t n ht hi _ _ h1 (by rw [chB_flip f n hf hfl c d hd]; exact hc)), fc_in t n ht _ n _ h2⟩
theorem getD_set (s : List Bool) (i j : Nat) (b : Bool) (hi : i < s.length) : (s.set i b).getD j false = if i = j then b else s.getD j false := by
  rw [List.getD_eq_getElem?_getD, List.getElem?_set]
  by_cases e : i = j
  · subst e
    simp [hi]
  · simp [e, List.getD_eq_getElem?_getD]
def ribS (F : List Int) (n : Nat) (ch : Int → Bool) : Nat → List Bool × Nat
  | 0 => (List.replicate n false, 0)
  | i + 1 => if ch i = true ∧ (ribS F n ch i).1.getD i false = false then ((cw F (n + 1) (ribS F n ch i).1 [] i).1, (ribS F n ch i).2 + 1) else ribS F n ch i
theorem ribS_len (F : List Int) (n : Nat) (ch : Int → Bool) : ∀ i, (ribS F n ch i).1.length = n
  | 0 => by simp [ribS]
  | i + 1 => by
    simp only [ribS]
    split
    · rw [cw_len, ribS_len F n ch i]
    · exact ribS_len F n ch i
theorem ribS_le (F : List Int) (n : Nat) (ch : Int → Bool) : ∀ i, (ribS F n ch i).2 ≤ i
  | 0 => by simp [ribS]
  | i + 1 => by
    have := ribS_le F n ch i
    simp only [ribS]
    split
    · simp only; omega
    · omega
def chL (f : List Int) (n : Nat) (c : List Int) : List Bool := (List.range n).map fun (d : Nat) => chB f n c (d : Int)
theorem chL_len (f : List Int) (n : Nat) (c : List Int) : (chL f n c).length = n := by simp [chL]
theorem chL_getD (f : List Int) (n : Nat) (c : List Int) (d : Nat) (h : d < n) : (chL f n c).getD d false = chB f n c (d : Int) := by
  rw [List.getD_eq_getElem?_getD, List.getElem?_eq_getElem (by rw [chL_len]; exact h)]
  simp [chL]
theorem chL_rd (f : List Int) (n : Nat) (c : List Int) (x : Int) (h0 : 0 ≤ x) (h : x < n) : rdOf false (chL f n c) x = chB f n c x := by
  rw [rdOf_nat _ x h0, chL_getD f n c x.toNat (by omega), show ((x.toNat : Nat) : Int) = x by omega]
theorem bl_ext (a b : List Bool) (h : a.length = b.length) (hr : ∀ i : Nat, i < a.length → a.getD i false = b.getD i false) : a = b := by
  refine List.ext_getElem h fun i h1 h2 => ?_
  have := hr i h1
  rw [List.getD_eq_getElem?_getD, List.getD_eq_getElem?_getD, List.getElem?_eq_getElem h1, List.getElem?_eq_getElem h2] at this
  simpa using this
theorem chB_take (f : List Int) (n : Nat) (c : List Int) (i : Nat) (hi : i < c.length) (d : Int) : chB f n (c.take (i + 1)) d = (chB f n (c.take i) d || decide (rd (geL f n n) d = rd c i)) := by
  unfold chB
  rw [take_get c i hi, Bool.eq_iff_iff, Bool.or_eq_true, decide_eq_true_eq, decide_eq_true_eq, decide_eq_true_eq, List.mem_append, List.mem_singleton]
theorem step_ch (f : List Int) (n : Nat) (c : List Int) (i : Nat) (hi : i < c.length) (a b : Nat) (ha : a < n) (hb : b < n) (h : ∀ d : Nat, d < n → (rd (geL f n n) (d : Int) = rd c i ↔ d = a ∨ d = b)) :
    ((chL f n (c.take i)).set a true).set b true = chL f n (c.take (i + 1)) := by
  refine bl_ext _ _ (by simp [chL_len]) fun d hd => ?_
  have hd' : d < n := by simpa [chL_len] using hd
  rw [getD_set _ _ _ _ (by rw [List.length_set, chL_len]; exact hb), getD_set _ _ _ _ (by rw [chL_len]; exact ha), chL_getD _ _ _ d hd', chL_getD _ _ _ d hd', chB_take f n c i hi]
  have e := h d hd'
  by_cases e1 : b = d
  · rw [if_pos e1, decide_eq_true (e.2 (.inr e1.symm)), Bool.or_true]
  · by_cases e2 : a = d
    · rw [if_neg e1, if_pos e2, decide_eq_true (e.2 (.inl e2.symm)), Bool.or_true]
    · rw [if_neg e1, if_neg e2, decide_eq_false (fun z => (e.1 z).elim (fun z => e2 z.symm) (fun z => e1 z.symm)), Bool.or_false]
theorem step_fl (f : List Int) (n : Nat) (c : List Int) (i : Nat) (hi : i < c.length) (a b : Nat) (ha : a < n) (hb : b < n) (hab : rd f a = b) (hba : rd f b = a) (h : ∀ d : Nat, d < n → (rd (geL f n n) (d : Int) = rd c i ↔ d = a ∨ d = b)) :
    ((flC f n (c.take i)).set a (b : Int)).set b (a : Int) = flC f n (c.take (i + 1)) := by
  refine list_ext _ _ (by simp [flC_len]) fun d hd => ?_
  have hd' : d < n := by simpa [flC_len] using hd
  have e := h d hd'
  rw [flC_rd f n _ d hd', chB_take f n c i hi]
  by_cases e1 : b = d
  · subst e1
    rw [rd_set_self _ _ _ (by simpa [flC_len] using hb), decide_eq_true (e.2 (.inr rfl)), Bool.or_true, if_pos rfl, hba]
  · rw [rd_set_ne _ _ _ _ e1]
    by_cases e2 : a = d
    · subst e2
      rw [rd_set_self _ _ _ (by simpa [flC_len] using ha), decide_eq_true (e.2 (.inl rfl)), Bool.or_true, if_pos rfl, hab]
    · rw [rd_set_ne _ _ _ _ e2, flC_rd f n _ d hd', decide_eq_false (fun z => (e.1 z).elim (fun z => e2 z.symm) (fun z => e1 z.symm)), Bool.or_false]
theorem flC_zero (f : List Int) (n : Nat) (c : List Int) : flC f n (c.take 0) = stl n := by
  refine list_ext _ _ (by simp [flC_len, stl_length]) fun d hd => ?_
  have hd' : d < n := by rwa [flC_len] at hd
  rw [flC_rd f n _ d hd', stl_rd n d hd']
  simp [chB]
theorem chL_zero (f : List Int) (n : Nat) (c : List Int) : chL f n (c.take 0) = List.replicate n false := by
  refine bl_ext _ _ (by simp [chL_len]) fun d hd => ?_
  have hd' : d < n := by rwa [chL_len] at hd
  rw [chL_getD f n _ d hd']
  simp [chB, List.getD_eq_getElem?_getD, List.getElem?_replicate, hd']
def pc (o : List Int) : Nat → Nat
  | 0 => 0
  | i + 1 => if (i : Int) = rd o i then pc o i + 1 else pc o i
theorem pc_le (o : List Int) : ∀ i, pc o i ≤ i
  | 0 => Nat.le_refl _
  | i + 1 => by
    have := pc_le o i
    simp only [pc]
    split <;> omega
def bc (C : List (List Int)) (ch : Int → Bool) : Nat → Nat
  | 0 => 0
  | i + 1 => if (rd_L1 C i).any ch = true then bc C ch i else bc C ch i + 1
theorem bc_le (C : List (List Int)) (ch : Int → Bool) : ∀ i, bc C ch i ≤ i
  | 0 => Nat.le_refl _
  | i + 1 => by
    have := bc_le C ch i
    simp only [bc]
    split <;> omega
def sidesN (t f : List Int) (n : Nat) (c : List Int) : Nat := bc (cyS t n n).2 (chB f n c) (cyS t n n).2.length + (ribS (faL t f n c) n (chB f n c) n).2
theorem contF_run (l : List Int) (hl : l.length ≤ 1048576) (f : List Int) (n : Nat) (c : List Int) (hr : ∀ x ∈ l, 0 ≤ x ∧ x < n) : ∀ (d i : Nat), l.length - i = d → i ≤ l.length → ∃ v : Int, Ev (fun k => containsF.l0 k l (chL f n c) i) v ∧ (v ≥ 0 ↔ (l.drop i).any (chB f n c) = true)
  | 0, i, hd, hi => by
    refine ⟨-1, Ev.s ?_, ?_⟩
    · simp only [containsF.l0, show ¬ (i : Int) < (l.length : Int) by omega, if_false]
      exact Ev.const rfl
    · rw [List.drop_eq_nil_of_le (by omega)]
      simp
  | d + 1, i, hd, hi => by
    have hlt : i < l.length := by omega
    have e := rd_lt l i hlt
    have h1 := hr _ (List.getElem_mem hlt)
    rw [← e] at h1
    have g1 : (i : Int) < (l.length : Int) := by omega
    have g2 : (0 : Int) ≤ (i : Int) := by omega
    have g3 := chL_len f n c
    obtain ⟨v, v1, v2⟩ := contF_run l hl f n c hr d (i + 1) (by omega) (by omega)
    cases h : chB f n c (rd l i) with
    | true =>
      refine ⟨i, Ev.s ?_, ?_⟩
      · simp only [containsF.l0, g1, g2, h1.1, g3, h1.2, chL_rd f n c _ h1.1 h1.2, h, if_true]
        exact Ev.const rfl
      · rw [List.drop_eq_getElem_cons hlt, ← e, List.any_cons, h, Bool.true_or]
        exact ⟨fun _ => rfl, fun _ => by omega⟩
    | false =>
      refine ⟨v, Ev.s ?_, ?_⟩
      · simp only [containsF.l0, g1, g2, h1.1, g3, h1.2, chL_rd f n c _ h1.1 h1.2, h, if_true, Bool.false_eq_true, if_false, w64n (show i < 4611686018427387904 by omega)]
        exact v1
      · rw [v2, List.drop_eq_getElem_cons hlt, ← e, List.any_cons, h, Bool.false_or]
theorem contF_ev (l : List Int) (hl : l.length ≤ 1048576) (f : List Int) (n : Nat) (c : List Int) (hr : ∀ x ∈ l, 0 ≤ x ∧ x < n) : Ev (fun k => containsF.f k l (chL f n c)) (l.any (chB f n c)) := by
  obtain ⟨v, v1, v2⟩ := contF_run l hl f n c hr l.length 0 (by omega) (by omega)
  unfold containsF.f
  refine Ev.bind v1 (Ev.const ?_)
  rw [List.drop_zero] at v2
  congr 1
  rw [Bool.eq_iff_iff, decide_eq_true_eq]
  exact v2
theorem cw_ok (p : List Int) (n : Nat) (hp : inR n p) : ∀ (f : Nat) (s : List Bool) (c : List Int) (a : Int), s.length = n → 0 ≤ a → a < n → (∀ x ∈ c, 0 ≤ x ∧ x < n) → (∀ x ∈ (cw p f s c a).2, 0 ≤ x ∧ x < n) ∧ (cw p f s c a).2.length ≤ c.length + f
  | 0, s, c, a, hs, h0, h1, hc => ⟨hc, by simp [cw]⟩
  | f + 1, s, c, a, hs, h0, h1, hc => by
    simp only [cw]
    split
    · exact ⟨hc, by simp only; omega⟩
    · have h5 := hp.2 a.toNat (by omega)
      rw [show ((a.toNat : Nat) : Int) = a by omega] at h5
      have ih := cw_ok p n hp f (s.set a.toNat true) (c ++ [a]) (rd p a) (by simpa using hs) h5.1 h5.2 (fun x hx => by
        rw [List.mem_append, List.mem_singleton] at hx
        exact hx.elim (hc x) (fun e => by rw [e]; exact ⟨h0, h1⟩))
      refine ⟨ih.1, ?_⟩
      have := ih.2
      simp only [List.length_append, List.length_cons, List.length_nil] at this
      omega
theorem cyS_ok (p : List Int) (n : Nat) (hp : inR n p) : ∀ i, i ≤ n → ∀ l ∈ (cyS p n i).2, (∀ x ∈ l, 0 ≤ x ∧ x < n) ∧ l.length ≤ n + 1
  | 0, _, l, hl => by simp [cyS] at hl
  | i + 1, hi, l, hl => by
    have ih := cyS_ok p n hp i (by omega)
    have ok := cw_ok p n hp (n + 1) (cyS p n i).1 [] i (cyS_len p n i) (by omega) (by omega) (by simp)
    simp only [cyS] at hl
    split at hl
    · exact ih l hl
    · rw [List.mem_append, List.mem_singleton] at hl
      rcases hl with hl | rfl
      · exact ih l hl
      · exact ⟨ok.1, by simpa using ok.2⟩
theorem rdL_ok (C : List (List Int)) (P : List Int → Prop) (h : ∀ l ∈ C, P l) (i : Nat) (hi : i < C.length) : P (rd_L1 C i) := by
  rw [rdL_nth C i hi]
  exact h _ (List.getElem_mem hi)
def RibOk (t f c : List Int) (n : Nat) : Prop := n ≤ 12 ∧ 1 ≤ n ∧ inR n t ∧ injR n t ∧ inR n f ∧ (∀ i : Nat, i < n → flipAt f i) ∧ isChoice c ((edL f n).length : Int) ∧ c.length ≤ 1048576
theorem ir_l0 (t f c : List Int) (n : Nat) (H : RibOk t f c n) (m : Int) (r : List Int) (h : Ev (fun k => (impl_orbits.f k [t, flC f n c]).bind fun o => impl_ribbon.l1 k c m (flC f n c) 0 o (o.length : Int) 0 t f (chL f n c)) r) : ∀ (d i : Nat), c.length - i = d → i ≤ c.length → Ev (fun k => impl_ribbon.l0 k c m (flC f n (c.take i)) c c.length i t f (chL f n (c.take i))) r
  | 0, i, hd, hi => by
    obtain ⟨hn, h1, ht, hti, hf, hfl, hc, hcl⟩ := id H
    have : i = c.length := by omega
    subst this
    refine Ev.s ?_
    simp only [impl_ribbon.l0, show ¬ (c.length : Int) < (c.length : Int) by omega, if_false, List.take_length]
    exact h
  | d + 1, i, hd, hi => by
    obtain ⟨hn, h1, ht, hti, hf, hfl, hc, hcl⟩ := id H
    have ih := ir_l0 t f c n H m r h d (i + 1) (by omega) (by omega)
    have hr := choice_range c _ hc i (by omega)
    obtain ⟨a, b, ha, hb, hab, e1, e2, e3, e4⟩ := edge_at f n hf hfl (rd c i).toNat (by omega)
    rw [show (((rd c i).toNat : Nat) : Int) = rd c i by omega] at e1 e4
    rw [← step_ch f n c i (by omega) a b ha hb e4, ← step_fl f n c i (by omega) a b ha hb e2 e3 e4] at ih
    have l1 := chL_len f n (c.take i)
    have l2 := flC_len f n (c.take i)
    refine Ev.s ?_
    simp only [impl_ribbon.l0, show (i : Int) < (c.length : Int) by omega, show (0 : Int) ≤ (i : Int) by omega, if_true]
    refine Ev.bind (implEdges_ev n (by omega) t f hf) ?_
    simp only [hr.1, hr.2, e1, e2, hf.1, l1, l2, show (0 : Int) ≤ (a : Int) by omega, show (a : Int) < (n : Int) by omega, show (0 : Int) ≤ (b : Int) by omega, show (b : Int) < (n : Int) by omega, if_true, w64n (show i < 4611686018427387904 by omega), Int.toNat_natCast]
    exact ih
theorem ir_l1 (t f c : List Int) (n : Nat) (H : RibOk t f c n) (m : Int) (g : List Int) (s : List Bool) (o : List Int) (ho : o.length = n) (r : List Int) (h : Ev (fun k => (impl_cyclesOf.f k t).bind fun C => impl_ribbon.l2 k c m g (pc o n) 0 C (C.length : Int) 0 t f s) r) : ∀ (d i : Nat), n - i = d → i ≤ n → Ev (fun k => impl_ribbon.l1 k c m g (pc o i) o n i t f s) r
  | 0, i, hd, hi => by
    obtain ⟨hn, h1, ht, hti, hf, hfl, hc, hcl⟩ := id H
    have : i = n := by omega
    subst this
    refine Ev.s ?_
    simp only [impl_ribbon.l1, show ¬ (i : Int) < (i : Int) by omega, if_false]
    exact h
  | d + 1, i, hd, hi => by
    obtain ⟨hn, h1, ht, hti, hf, hfl, hc, hcl⟩ := id H
    have ih := ir_l1 t f c n H m g s o ho r h d (i + 1) (by omega) (by omega)
    have hp := pc_le o i
    refine Ev.s ?_
    simp only [impl_ribbon.l1, ho, show (i : Int) < (n : Int) by omega, show (0 : Int) ≤ (i : Int) by omega, if_true, w64n (show i < 4611686018427387904 by omega), w64n (show pc o i < 4611686018427387904 by omega)]
    simp only [pc] at ih
    by_cases e : (i : Int) = rd o i
    · simp only [if_pos e] at ih ⊢; exact ih
    · simp only [if_neg e] at ih ⊢; exact ih
theorem ir_l2 (t f c : List Int) (n : Nat) (H : RibOk t f c n) (g : List Int) (P : Int) (C : List (List Int)) (hC : ∀ l ∈ C, (∀ x ∈ l, 0 ≤ x ∧ x < n) ∧ l.length ≤ n + 1) (hCl : C.length ≤ n) (r : List Int) (h : Ev (fun k => impl_ribbon.l3 k c g P (bc C (chB f n c) C.length) (List.replicate n false) n 0 t f (chL f n c)) r) : ∀ (d i : Nat), C.length - i = d → i ≤ C.length → Ev (fun k => impl_ribbon.l2 k c n g P (bc C (chB f n c) i) C C.length i t f (chL f n c)) r
  | 0, i, hd, hi => by
    obtain ⟨hn, h1, ht, hti, hf, hfl, hc, hcl⟩ := id H
    have : i = C.length := by omega
    subst this
    refine Ev.s ?_
    simp only [impl_ribbon.l2, show ¬ (C.length : Int) < (C.length : Int) by omega, if_false, show (0 : Int) ≤ (n : Int) by omega, if_true, Int.toNat_natCast, show n ≤ 281474976710656 by omega]
    exact h
  | d + 1, i, hd, hi => by
    obtain ⟨hn, h1, ht, hti, hf, hfl, hc, hcl⟩ := id H
    have ih := ir_l2 t f c n H g P C hC hCl r h d (i + 1) (by omega) (by omega)
    have hb := bc_le C (chB f n c) i
    have ok := rdL_ok C _ hC i (by omega)
    refine Ev.s ?_
    simp only [impl_ribbon.l2, show (i : Int) < (C.length : Int) by omega, show (0 : Int) ≤ (i : Int) by omega, if_true, w64n (show i < 4611686018427387904 by omega), w64n (show bc C (chB f n c) i < 4611686018427387904 by omega)]
    refine Ev.bind (contF_ev (rd_L1 C i) (by omega) f n c ok.1) ?_
    simp only [bc] at ih
    by_cases e : (rd_L1 C i).any (chB f n c) = true
    · simp only [if_pos e] at ih ⊢; exact ih
    · simp only [if_neg e] at ih ⊢; exact ih
theorem ir_l5 (t f c : List Int) (n : Nat) (H : RibOk t f c n) (g : List Int) (P S : Int) (s : List Bool) (i : Int) (r : List Int) : ∀ (m : Nat) (x : Int), 0 ≤ x ∧ x < n → (∃ k : Nat, k ≤ m ∧ chB f n c (itr t k x) = true) → Ev (fun k => impl_ribbon.l4 k c g P S s (fc t (chB f n c) m x) n i t f (chL f n c)) r → Ev (fun k => impl_ribbon.l5 k c g P S s x n i t f (chL f n c)) r
  | 0, x, hx, ⟨k, hk, hh⟩, h => by
    obtain ⟨hn, h1, ht, hti, hf, hfl, hc, hcl⟩ := id H
    have : k = 0 := by omega
    subst this
    have hh' : chB f n c x = true := hh
    refine Ev.s ?_
    simp only [impl_ribbon.l5, hx.1, chL_len, hx.2, chL_rd f n c x hx.1 hx.2, hh', if_true]
    exact h
  | m + 1, x, hx, ⟨k, hk, hh⟩, h => by
    obtain ⟨hn, h1, ht, hti, hf, hfl, hc, hcl⟩ := id H
    refine Ev.s ?_
    simp only [impl_ribbon.l5, hx.1, chL_len, hx.2, chL_rd f n c x hx.1 hx.2, ht.1, if_true]
    simp only [fc] at h
    have h5 := ht.2 x.toNat (by omega)
    rw [show ((x.toNat : Nat) : Int) = x by omega] at h5
    by_cases e : chB f n c x = true
    · simp only [if_pos e] at h ⊢; exact h
    · simp only [if_neg e] at h ⊢
      cases k with
      | zero => exact absurd hh e
      | succ k => exact ir_l5 t f c n H g P S s i r m _ h5 ⟨k, by omega, hh⟩ h
theorem ir_l4 (t f c : List Int) (n : Nat) (H : RibOk t f c n) (P S : Int) (i : Nat) (r : List Int) : ∀ (m : Nat) (s : List Bool) (l : List Int) (a : Nat), s.length = n → a < n → chB f n c a = true → fresh s < m → Ev (fun k => impl_ribbon.l3 k c (flC f n c) P S (cw (faL t f n c) m s l a).1 n (wrap64 ((i : Int) + 1)) t f (chL f n c)) r → Ev (fun k => impl_ribbon.l4 k c (flC f n c) P S s a n i t f (chL f n c)) r
  | 0, s, l, a, hs, ha, hca, hm, h => absurd hm (Nat.not_lt_zero _)
  | m + 1, s, l, a, hs, ha, hca, hm, h => by
    obtain ⟨hn, h1, ht, hti, hf, hfl, hc, hcl⟩ := id H
    refine Ev.s ?_
    simp only [cw] at h
    have g1 : (a : Int) < (n : Int) := by omega
    have g2 : (0 : Int) ≤ (a : Int) := by omega
    simp only [impl_ribbon.l4, g2, hs, g1, if_true]
    by_cases e : rdOf false s (a : Int) = true
    · simp only [e, if_true] at h ⊢
      exact h
    · simp only [e, if_false] at h ⊢
      have fl := flC_rd f n c a ha
      rw [if_pos hca] at fl
      have fr := hf.2 a ha
      have tr := ht.2 (rd f a).toNat (by omega)
      rw [show (((rd f a).toNat : Nat) : Int) = rd f a by omega] at tr
      have fx := fa_ch t f n ht hti hf hfl c a ha hca
      have h3 : s.getD a false = false := by
        rw [rdOf_nat s a g2, Int.toNat_natCast] at e
        simpa using e
      have h4 := fresh_set s a (by omega) h3
      simp only [flC_len, g1, fl, fr.1, ht.1, fr.2, if_true, Int.toNat_natCast]
      simp only [Int.toNat_natCast] at h
      refine ir_l5 t f c n H (flC f n c) P S _ i r n _ tr (meets t n ht hti _ _ fr (by rw [chB_flip f n hf hfl c a ha]; exact hca)) ?_
      have fe := faL_rd t f n c a ha
      rw [if_pos hca] at fe
      rw [← fe]
      rw [show rd (faL t f n c) a = (((rd (faL t f n c) a).toNat : Nat) : Int) by omega] at h ⊢
      exact ir_l4 t f c n H P S i r m (s.set a true) (l ++ [(a : Int)]) _ (by simpa using hs) (by omega) (by rw [show (((rd (faL t f n c) a).toNat : Nat) : Int) = rd (faL t f n c) a by omega]; exact fx.1) (by omega) h
def fiveN (P S V c : Int) : List Int := [P, S, wrap64 (V - P), wrap64 (c - wrap64 (V - P)), wrap64 (Int.tdiv (wrap64 (wrap64 (wrap64 (wrap64 (2 * P) - V) + c) - S)) 2)]
theorem ir_l3 (t f c : List Int) (n : Nat) (H : RibOk t f c n) (P : Int) (B : Nat) (hB : B ≤ n) : ∀ (d i : Nat), n - i = d → i ≤ n → Ev (fun k => impl_ribbon.l3 k c (flC f n c) P ((B + (ribS (faL t f n c) n (chB f n c) i).2 : Nat) : Int) (ribS (faL t f n c) n (chB f n c) i).1 n i t f (chL f n c)) (fiveN P ((B + (ribS (faL t f n c) n (chB f n c) n).2 : Nat) : Int) ((cyS t n n).2.length : Int) c.length)
  | 0, i, hd, hi => by
    obtain ⟨hn, h1, ht, hti, hf, hfl, hc, hcl⟩ := id H
    have : i = n := by omega
    subst this
    refine Ev.s ?_
    simp only [impl_ribbon.l3, show ¬ (i : Int) < (i : Int) by omega, if_false]
    exact Ev.bind (implCyc_ev t i (by omega) ht) (Ev.const rfl)
  | d + 1, i, hd, hi => by
    obtain ⟨hn, h1, ht, hti, hf, hfl, hc, hcl⟩ := id H
    have ih := ir_l3 t f c n H P B hB d (i + 1) (by omega) (by omega)
    have l1 := ribS_len (faL t f n c) n (chB f n c) i
    have l2 := ribS_le (faL t f n c) n (chB f n c) i
    have fr := fresh_le (ribS (faL t f n c) n (chB f n c) i).1
    have g1 : (i : Int) < (n : Int) := by omega
    have g2 : (0 : Int) ≤ (i : Int) := by omega
    refine Ev.s ?_
    simp only [impl_ribbon.l3, g1, g2, chL_len, if_true, chL_rd f n c _ g2 g1, l1]
    simp only [ribS] at ih
    have wi : wrap64 ((i : Int) + 1) = ((i + 1 : Nat) : Int) := w64n (by omega)
    cases hci : chB f n c (i : Int) with
    | true =>
      simp only [hci, true_and, if_true] at ih ⊢
      refine Ev.s ?_
      cases hs : (ribS (faL t f n c) n (chB f n c) i).1.getD i false with
      | true =>
        rw [hs] at ih
        simp only [Bool.true_eq_false, if_false] at ih
        simp only [impl_ribbon.j4, rdOf_nat _ _ g2, Int.toNat_natCast, hs, if_true, wi]
        exact ih
      | false =>
        rw [hs] at ih
        simp only [if_true] at ih
        simp only [impl_ribbon.j4, rdOf_nat _ _ g2, Int.toNat_natCast, hs, Bool.false_eq_true, if_false, w64n (show B + (ribS (faL t f n c) n (chB f n c) i).2 < 4611686018427387904 by omega)]
        refine ir_l4 t f c n H P _ i _ (n + 1) _ [] i l1 (by omega) hci (by omega) ?_
        rw [wi]
        exact ih
    | false =>
      simp only [hci, Bool.false_eq_true, false_and, if_false] at ih ⊢
      refine Ev.s ?_
      simp only [impl_ribbon.j4, if_true, wi]
      exact ih
def mixL (A B : List Int) (n i : Nat) : List Int := (List.range n).map fun (d : Nat) => if d < i then rd A (d : Int) else rd B (d : Int)
theorem mixL_len (A B : List Int) (n i : Nat) : (mixL A B n i).length = n := by simp [mixL]
theorem mixL_rd (A B : List Int) (n i d : Nat) (h : d < n) : rd (mixL A B n i) (d : Int) = if d < i then rd A (d : Int) else rd B (d : Int) := by
  rw [rd_lt _ _ (by simp [mixL]; exact h)]
  simp [mixL]
theorem mixL_zero (A B : List Int) (n : Nat) (hB : B.length = n) : mixL A B n 0 = B := by
  refine list_ext _ _ (by rw [mixL_len, hB]) fun d hd => ?_
  rw [mixL_len] at hd
  rw [mixL_rd A B n 0 d hd, if_neg (by omega)]
theorem mixL_all (A B : List Int) (n : Nat) (hA : A.length = n) : mixL A B n n = A := by
  refine list_ext _ _ (by rw [mixL_len, hA]) fun d hd => ?_
  rw [mixL_len] at hd
  rw [mixL_rd A B n n d hd, if_pos hd]
theorem mixL_set (A B : List Int) (n i : Nat) (hi : i < n) : (mixL A B n i).set i (rd A i) = mixL A B n (i + 1) := by
  refine list_ext _ _ (by simp [mixL_len]) fun d hd => ?_
  have hd' : d < n := by simpa [mixL_len] using hd
  rw [mixL_rd A B n (i + 1) d hd']
  by_cases e : i = d
  · subst e
    rw [rd_set_self _ _ _ (by rw [mixL_len]; exact hi), if_pos (by omega)]
  · rw [rd_set_ne _ _ _ _ e, mixL_rd A B n i d hd']
    by_cases e2 : d < i
    · rw [if_pos e2, if_pos (by omega)]
    · rw [if_neg e2, if_neg (by omega)]
theorem mixL_skip (A B : List Int) (n i : Nat) (hi : i < n) (h : rd A i = rd B i) : mixL A B n i = mixL A B n (i + 1) := by
  refine list_ext _ _ (by simp [mixL_len]) fun d hd => ?_
  have hd' : d < n := by simpa [mixL_len] using hd
  rw [mixL_rd A B n (i + 1) d hd', mixL_rd A B n i d hd']
  by_cases e2 : d < i
  · rw [if_pos e2, if_pos (by omega)]
  · rw [if_neg e2]
    by_cases e : d < i + 1
    · have : d = i := by omega
      subst this
      rw [if_pos e, h]
    · rw [if_neg e]
theorem sp_l1 (o : List Int) (n : Nat) (hn : n ≤ 12) (ho : o.length = n) : ∀ (d i : Nat), n - i = d → i ≤ n → Ev (fun k => spec_l7Parts.l1 k o (pc o i) i) (pc o n : Int)
  | 0, i, hd, hi => by
    have : i = n := by omega
    subst this
    refine Ev.s ?_
    simp only [spec_l7Parts.l1, ho, show ¬ (i : Int) < (i : Int) by omega, if_false]
    exact Ev.const rfl
  | d + 1, i, hd, hi => by
    have ih := sp_l1 o n hn ho d (i + 1) (by omega) (by omega)
    have hp := pc_le o i
    refine Ev.s ?_
    simp only [spec_l7Parts.l1, ho, show (i : Int) < (n : Int) by omega, show (0 : Int) ≤ (i : Int) by omega, if_true, w64n (show i < 4611686018427387904 by omega), w64n (show pc o i < 4611686018427387904 by omega)]
    simp only [pc] at ih
    by_cases e : (i : Int) = rd o i
    · simp only [if_pos e] at ih
      simp only [if_pos e.symm]
      exact ih
    · simp only [if_neg e] at ih
      have e' : ¬ rd o i = (i : Int) := fun z => e z.symm
      simp only [if_neg e']
      exact ih
theorem sp_l0 (t f c : List Int) (n : Nat) (H : RibOk t f c n) (r : Int) (h : Ev (fun k => (spec_l1Orbits.f k t (flC f n c)).bind fun o => spec_l7Parts.l1 k o 0 0) r) : ∀ (d i : Nat), n - i = d → i ≤ n → Ev (fun k => spec_l7Parts.l0 k c (mixL (flC f n c) (stl n) n i) (geL f n n) i t f) r
  | 0, i, hd, hi => by
    have : i = n := by omega
    subst this
    refine Ev.s ?_
    simp only [spec_l7Parts.l0, mixL_len, show ¬ (i : Int) < (i : Int) by omega, if_false]
    rw [mixL_all _ _ _ (flC_len f i c)]
    exact h
  | d + 1, i, hd, hi => by
    obtain ⟨hn, h1, ht, hti, hf, hfl, hc, hcl⟩ := id H
    have ih := sp_l0 t f c n H r h d (i + 1) (by omega) (by omega)
    have g1 : (i : Int) < (n : Int) := by omega
    have g2 : (0 : Int) ≤ (i : Int) := by omega
    have fl := flC_rd f n c i (by omega)
    refine Ev.s ?_
    simp only [spec_l7Parts.l0, mixL_len, g1, g2, geL_len, if_true]
    refine Ev.bind (has_ev c hcl (rd (geL f n n) i)) ?_
    rw [show decide (rd (geL f n n) (i : Int) ∈ c) = chB f n c i from rfl]
    simp only [hf.1, g1, if_true, w64n (show i < 4611686018427387904 by omega), Int.toNat_natCast]
    by_cases e : chB f n c i = true
    · rw [if_pos e] at fl
      simp only [if_pos e]
      rw [← mixL_set _ _ _ _ (by omega : i < n), fl] at ih
      exact ih
    · rw [if_neg e] at fl
      simp only [if_neg e]
      rw [← mixL_skip _ _ _ _ (by omega : i < n) (by rw [fl, stl_rd n i (by omega)])] at ih
      exact ih
theorem ribbon_parts (t f c : List Int) (n : Nat) (H : RibOk t f c n) : ∃ o, orbOk [t, flC f n c] n o ∧ Ev (fun k => spec_l7Parts.f k t f c) (pc o n : Int) ∧
    Ev (fun k => impl_ribbon.f k t f c) (fiveN (pc o n) (sidesN t f n c) ((cyS t n n).2.length : Int) c.length) := by
  obtain ⟨hn, h1, ht, hti, hf, hfl, hc, hcl⟩ := id H
  obtain ⟨o, o1, o2, o3⟩ := orb_both t (flC f n c) n hn h1 ht (flC_inR f n hf c)
  have hp : Ev (fun k => spec_l7Parts.f k t f c) (pc o n : Int) := by
    unfold spec_l7Parts.f
    rw [hf.1]
    refine Ev.bind (same_ev n (by omega)) ?_
    refine Ev.bind (specEdges_ev n (by omega) t f hf) ?_
    have := sp_l0 t f c n H _ (Ev.bind o2 (sp_l1 o n hn o1.1.1 n 0 (by omega) (by omega))) n 0 (by omega) (by omega)
    rw [mixL_zero _ _ _ (stl_length n)] at this
    exact this
  refine ⟨o, o1, hp, ?_⟩
  · unfold impl_ribbon.f
    rw [ht.1]
    simp only [show (0 : Int) ≤ (n : Int) by omega, Int.toNat_natCast, show n ≤ 281474976710656 by omega, if_true]
    refine Ev.bind (still_ev n (by omega)) ?_
    have hCl := cyS_many t n n
    have hb := bc_le (cyS t n n).2 (chB f n c) (cyS t n n).2.length
    rw [← flC_zero f n c, ← chL_zero f n c]
    refine ir_l0 t f c n H n _ (Ev.bind o3 ?_) c.length 0 (by omega) (by omega)
    rw [o1.1.1]
    refine ir_l1 t f c n H n _ _ o o1.1.1 _ (Ev.bind (implCyc_ev t n (by omega) ht) ?_) n 0 (by omega) (by omega)
    refine ir_l2 t f c n H _ _ _ (cyS_ok t n ht n (Nat.le_refl _)) hCl _ ?_ _ 0 rfl (by omega)
    exact ir_l3 t f c n H (pc o n) _ (by omega) n 0 (by omega) (by omega)
def Cnt (n : Nat) (P : Nat → Prop) (k : Nat) : Prop := ∃ L : List Nat, L.Nodup ∧ (∀ x, x ∈ L ↔ x < n ∧ P x) ∧ L.length = k
theorem Cnt.ex (P : Nat → Prop) : ∀ n, ∃ k, Cnt n P k ∧ k ≤ n
  | 0 => ⟨0, ⟨[], List.nodup_nil, by simp, rfl⟩, Nat.le_refl _⟩
  | n + 1 => by
    obtain ⟨k, ⟨L, h1, h2, h3⟩, hk⟩ := Cnt.ex P n
    by_cases h : P n
    · refine ⟨k + 1, ⟨n :: L, List.nodup_cons.2 ⟨fun z => by have := ((h2 n).1 z).1; omega, h1⟩, fun x => ?_, by simp [h3]⟩, by omega⟩
      rw [List.mem_cons, h2]
      constructor
      · rintro (rfl | ⟨a, b⟩)
        · exact ⟨by omega, h⟩
        · exact ⟨by omega, b⟩
      · rintro ⟨a, b⟩
        by_cases e : x = n
        · exact .inl e
        · exact .inr ⟨by omega, b⟩
    · refine ⟨k, ⟨L, h1, fun x => ?_, h3⟩, by omega⟩
      rw [h2]
      constructor
      · rintro ⟨a, b⟩; exact ⟨by omega, b⟩
      · rintro ⟨a, b⟩
        by_cases e : x = n
        · exact absurd (e ▸ b) h
        · exact ⟨by omega, b⟩
theorem Cnt.le {n : Nat} {P Q : Nat → Prop} {k l : Nat} (hp : Cnt n P k) (hq : Cnt n Q l) (g : Nat → Nat) (hg : ∀ x, x < n → P x → g x < n ∧ Q (g x)) (hi : ∀ x y, x < n → P x → y < n → P y → g x = g y → x = y) : k ≤ l := by
  obtain ⟨L, h1, h2, rfl⟩ := hp
  obtain ⟨M, m1, m2, rfl⟩ := hq
  rw [← List.length_map (f := g)]
  refine len_le_of_sub _ _ ?_ ?_
  · rw [List.Nodup, List.pairwise_map]
    refine List.Pairwise.imp_of_mem ?_ h1
    intro a b ha hb hab e
    exact hab (hi a b ((h2 a).1 ha).1 ((h2 a).1 ha).2 ((h2 b).1 hb).1 ((h2 b).1 hb).2 e)
  · intro y hy
    obtain ⟨a, ha, rfl⟩ := List.mem_map.1 hy
    exact (m2 _).2 (hg a ((h2 a).1 ha).1 ((h2 a).1 ha).2)
theorem Cnt.sub {n : Nat} {P Q : Nat → Prop} {k l : Nat} (hp : Cnt n P k) (hq : Cnt n Q l) (h : ∀ x, x < n → P x → Q x) : k ≤ l :=
  hp.le hq (fun x => x) (fun x hx px => ⟨hx, h x hx px⟩) (fun _ _ _ _ _ _ e => e)
theorem Cnt.same {n : Nat} {P Q : Nat → Prop} {k l : Nat} (hp : Cnt n P k) (hq : Cnt n Q l) (h : ∀ x, x < n → (P x ↔ Q x)) : k = l :=
  Nat.le_antisymm (hp.sub hq fun x hx => (h x hx).1) (hq.sub hp fun x hx => (h x hx).2)
theorem Cnt.congr {n : Nat} {P Q : Nat → Prop} {k : Nat} (hp : Cnt n P k) (h : ∀ x, x < n → (P x ↔ Q x)) : Cnt n Q k := by
  obtain ⟨L, h1, h2, h3⟩ := hp
  exact ⟨L, h1, fun x => by rw [h2]; exact ⟨fun z => ⟨z.1, (h x z.1).1 z.2⟩, fun z => ⟨z.1, (h x z.1).2 z.2⟩⟩, h3⟩
theorem Cnt.reps {n : Nat} {P Q : Nat → Prop} {k l : Nat} (R : Nat → Nat → Prop) (hs : ∀ x y, R x y → R y x) (ht : ∀ x y z, R x y → R y z → R x z) (hp : Cnt n P k) (hq : Cnt n Q l)
    (h : ∀ x, x < n → P x → ∃ y, y < n ∧ Q y ∧ R x y) (hu : ∀ x y, x < n → P x → y < n → P y → R x y → x = y) : k ≤ l := by
  classical
  refine hp.le hq (fun x => if hx : x < n ∧ P x then Classical.choose (h x hx.1 hx.2) else 0) (fun x hx px => ?_) (fun x y hx px hy py e => ?_)
  · rw [dif_pos ⟨hx, px⟩]
    have := Classical.choose_spec (h x hx px)
    exact ⟨this.1, this.2.1⟩
  · rw [dif_pos ⟨hx, px⟩, dif_pos ⟨hy, py⟩] at e
    have h1 := (Classical.choose_spec (h x hx px)).2.2
    have h2 := (Classical.choose_spec (h y hy py)).2.2
    rw [e] at h1
    exact hu x y hx px hy py (ht _ _ _ h1 (hs _ _ h2))
theorem Cnt.drop {n : Nat} {P Q : Nat → Prop} {k : Nat} (hp : Cnt n P k) (z : Nat) (hz : z < n) (pz : P z) (h : ∀ x, x < n → (Q x ↔ P x ∧ x ≠ z)) : 1 ≤ k ∧ Cnt n Q (k - 1) := by
  obtain ⟨L, h1, h2, rfl⟩ := hp
  have hm : z ∈ L := (h2 z).2 ⟨hz, pz⟩
  have := List.length_pos_of_mem hm
  refine ⟨this, L.erase z, h1.erase z, fun x => ?_, List.length_erase_of_mem hm⟩
  rw [h1.mem_erase_iff, h2]
  constructor
  · rintro ⟨a, b, c⟩; exact ⟨b, (h x b).2 ⟨c, a⟩⟩
  · rintro ⟨a, b⟩; have := (h x a).1 b; exact ⟨this.2, a, this.1⟩
def lst (R : Nat → Nat → Prop) (j : Nat) : Prop := ∀ i, i < j → ¬ R i j
def Cl (n : Nat) (R : Nat → Nat → Prop) (k : Nat) : Prop := Cnt n (lst R) k
theorem lst_ex (R : Nat → Nat → Prop) (hr : ∀ x, R x x) (hs : ∀ x y, R x y → R y x) (ht : ∀ x y z, R x y → R y z → R x z) : ∀ x, ∃ y, y ≤ x ∧ lst R y ∧ R y x := by
  intro x
  induction x using Nat.strongRecOn with
  | ind x ih =>
    by_cases h : ∃ i, i < x ∧ R i x
    · obtain ⟨i, hi, hri⟩ := h
      obtain ⟨y, y1, y2, y3⟩ := ih i hi
      exact ⟨y, by omega, y2, ht _ _ _ y3 hri⟩
    · exact ⟨x, Nat.le_refl _, fun i hi hri => h ⟨i, hi, hri⟩, hr x⟩
theorem lst_uniq (R : Nat → Nat → Prop) (hs : ∀ x y, R x y → R y x) (x y : Nat) (hx : lst R x) (hy : lst R y) (h : R x y) : x = y := by
  by_cases h1 : x < y
  · exact absurd h (hy x h1)
  · by_cases h2 : y < x
    · exact absurd (hs _ _ h) (hx y h2)
    · omega
theorem closed_of_fwd (p : List Int) (n : Nat) (hp : inR n p) (hi : injR n p) (S : Nat → Prop) (h : ∀ k, k < n → S k → S (rd p k).toNat) : closedL [p] n S := by
  intro q hq k hk
  have e : q = p := by simpa using hq
  subst e
  refine ⟨h k hk, fun hs => ?_⟩
  obtain ⟨m, h1, h2⟩ := itr_back q n hp hi k (by omega)
  have g : ∀ (j : Nat) (x : Int), 0 ≤ x ∧ x < n → S x.toNat → S (itr q j x).toNat := by
    intro j
    induction j with
    | zero => intro x _ h; exact h
    | succ j ih =>
      intro x hx hsx
      have := hp.2 x.toNat (by omega)
      have e := h x.toNat (by omega) hsx
      rw [show ((x.toNat : Nat) : Int) = x by omega] at this e
      exact ih _ this e
  have := g m (rd q k) (hp.2 k hk) hs
  rw [show itr q m (rd q k) = itr q (m + 1) k from rfl, h2] at this
  simpa using this
def Exch (n : Nat) (p q : List Int) (a b : Nat) : Prop := a < n ∧ b < n ∧ a ≠ b ∧ rd q a = rd p b ∧ rd q b = rd p a ∧ ∀ x : Nat, x < n → x ≠ a → x ≠ b → rd q x = rd p x
theorem Exch.symm {n : Nat} {p q : List Int} {a b : Nat} (h : Exch n p q a b) : Exch n q p a b := ⟨h.1, h.2.1, h.2.2.1, h.2.2.2.2.1.symm, h.2.2.2.1.symm, fun x hx h1 h2 => (h.2.2.2.2.2 x hx h1 h2).symm⟩
theorem Cl.ex (n : Nat) (R : Nat → Nat → Prop) : ∃ k, Cl n R k ∧ k ≤ n := Cnt.ex _ n
theorem Cl.uniq {n : Nat} {R : Nat → Nat → Prop} {k l : Nat} (h : Cl n R k) (h' : Cl n R l) : k = l := Cnt.same h h' fun _ _ => Iff.rfl
theorem cw_ends (p : List Int) (n : Nat) (hp : inR n p) (a0 : Nat) (ha0 : a0 < n) (s0 : Nat → Prop) : ∀ (m : Nat) (s : List Bool) (c : List Int) (a : Nat), s.length = n → a < n → fresh s < m →
    (∀ x, x < n → s.getD x false = true → s.getD (rd p x).toNat false = true ∨ (rd p x).toNat = a) → Reach [p] n a0 a → (∀ x, x < n → s.getD x false = true → s0 x ∨ Reach [p] n a0 x) → (∀ x, s0 x → s.getD x false = true) → (s.getD a0 false = true ∨ a = a0) → (∀ x ∈ c, 0 ≤ x ∧ x < n ∧ Reach [p] n a0 x.toNat) → (a0 ≠ a → (a0 : Int) ∈ c) → (∀ x, x < n → s.getD x false = true → s0 x ∨ (x : Int) ∈ c) →
    (∀ x, x < n → (cw p m s c a).1.getD x false = true → (cw p m s c a).1.getD (rd p x).toNat false = true) ∧ (∀ x, x < n → (cw p m s c a).1.getD x false = true → s0 x ∨ Reach [p] n a0 x) ∧ (∀ x, s0 x → (cw p m s c a).1.getD x false = true) ∧ (cw p m s c a).1.getD a0 false = true ∧ (∀ x ∈ (cw p m s c a).2, 0 ≤ x ∧ x < n ∧ Reach [p] n a0 x.toNat) ∧ (∀ x, x < n → (cw p m s c a).1.getD x false = true → s0 x ∨ (x : Int) ∈ (cw p m s c a).2)
  | 0, s, c, a, hs, ha, hm, h1, h2, h3, h4, h5, h6, h7, h8 => absurd hm (Nat.not_lt_zero _)
  | m + 1, s, c, a, hs, ha, hm, h1, h2, h3, h4, h5, h6, h7, h8 => by
    simp only [cw]
    rw [rdOf_nat s a (by omega), Int.toNat_natCast]
    by_cases e : s.getD a false = true
    · rw [if_pos e]
      refine ⟨fun x hx hsx => (h1 x hx hsx).elim id (fun z => by rw [z]; exact e), h3, h4, h5.elim id (fun z => by rw [← z]; exact e), h6, h8⟩
    · rw [if_neg e]
      have pr := hp.2 a ha
      have e0 : s.getD a false = false := by simpa using e
      have fr := fresh_set s a (by omega) e0
      have back : (((rd p a).toNat : Nat) : Int) = rd p a := by omega
      have st := Reach.step (ps := [p]) (n := n) (p := p) (by simp) ha
      have ih := cw_ends p n hp a0 ha0 s0 m (s.set a true) (c ++ [(a : Int)]) (rd p a).toNat (by simpa using hs) (by omega) (by omega)
        (fun x hx hsx => by
          rw [getD_set _ _ _ _ (by omega)] at hsx ⊢
          by_cases z : a = x
          · subst z; exact .inr rfl
          · rw [if_neg z] at hsx
            by_cases y : a = (rd p x).toNat
            · rw [if_pos y]; exact .inl rfl
            · rw [if_neg y]
              exact .inl ((h1 x hx hsx).elim id (fun q => absurd q.symm y)))
        (h2.trans st)
        (fun x hx hsx => by
          rw [getD_set _ _ _ _ (by omega)] at hsx
          by_cases z : a = x
          · subst z; exact .inr h2
          · rw [if_neg z] at hsx
            exact h3 x hx hsx)
        (fun x hx => by
          rw [getD_set _ _ _ _ (by omega)]
          split
          · rfl
          · exact h4 x hx)
        (.inl (by
          rw [getD_set _ _ _ _ (by omega)]
          by_cases z : a = a0
          · rw [if_pos z]
          · rw [if_neg z]
            exact h5.elim id (fun q => absurd q z)))
        (fun x hx => by
          rw [List.mem_append, List.mem_singleton] at hx
          rcases hx with hx | rfl
          · exact h6 x hx
          · exact ⟨by omega, by omega, by rw [Int.toNat_natCast]; exact h2⟩)
        (fun _ => by
          rw [List.mem_append, List.mem_singleton]
          by_cases z : a0 = a
          · right; rw [z]
          · exact .inl (h7 z))
        (fun x hx hsx => by
          rw [List.mem_append, List.mem_singleton]
          rw [getD_set _ _ _ _ (by omega)] at hsx
          by_cases z : a = x
          · subst z; exact .inr (.inr rfl)
          · rw [if_neg z] at hsx
            exact (h8 x hx hsx).imp id .inl)
      rw [back] at ih
      exact ih
theorem cyS_seen (p : List Int) (n : Nat) (hp : inR n p) (hi : injR n p) : ∀ i, i ≤ n → ∀ x, x < n → ((cyS p n i).1.getD x false = true ↔ ∃ j, j < i ∧ Reach [p] n j x)
  | 0, _, x, hx => by
    constructor
    · intro h
      simp [cyS, List.getD_eq_getElem?_getD, List.getElem?_replicate, hx] at h
    · rintro ⟨j, hj, _⟩; omega
  | i + 1, hi', x, hx => by
    have ih := cyS_seen p n hp hi i (by omega)
    have l1 := cyS_len p n i
    simp only [cyS]
    by_cases e : (cyS p n i).1.getD i false = true
    · rw [cw_seen p (n + 1) _ _ _ (by rw [rdOf_nat _ _ (by omega), Int.toNat_natCast]; exact e)]
      rw [ih x hx]
      obtain ⟨q, q1, q2⟩ := (ih i (by omega)).1 e
      constructor
      · rintro ⟨j, hj, h⟩; exact ⟨j, by omega, h⟩
      · rintro ⟨j, hj, h⟩
        by_cases z : j = i
        · subst z; exact ⟨q, q1, q2.trans h⟩
        · exact ⟨j, by omega, h⟩
    · obtain ⟨w1, w2, w3, w4, w5, w6⟩ := cw_ends p n hp i (by omega) (fun x => x < n ∧ (cyS p n i).1.getD x false = true) (n + 1) (cyS p n i).1 [] i l1 (by omega) (by have := fresh_le (cyS p n i).1; omega)
        (fun y hy hsy => .inl (by
          have pr := hp.2 y hy
          obtain ⟨j, hj, h⟩ := (ih y hy).1 hsy
          exact (ih _ (by omega)).2 ⟨j, hj, h.trans (Reach.step (by simp) hy)⟩))
        (Reach.refl _ _ _) (fun y hy hsy => .inl ⟨hy, hsy⟩) (fun y hy => hy.2) (.inr rfl) (by simp) (fun z => absurd rfl z) (fun y hy hsy => .inl ⟨hy, hsy⟩)
      constructor
      · intro h
        rcases w2 x hx h with ⟨_, h⟩ | h
        · obtain ⟨j, hj, h⟩ := (ih x hx).1 h
          exact ⟨j, by omega, h⟩
        · exact ⟨i, by omega, h⟩
      · rintro ⟨j, hj, h⟩
        by_cases z : j = i
        · subst z
          have hc := closed_of_fwd p n hp hi (fun y => (cw p (n + 1) (cyS p n j).1 [] j).1.getD y false = true) w1
          exact (h _ hc).1 w4
        · exact w3 x ⟨hx, (ih x hx).2 ⟨j, by omega, h⟩⟩
theorem Cnt.succ_yes {P : Nat → Prop} {i n k : Nat} (h : Cnt n (fun x => x < i ∧ P x) k) (hi : i < n) (hp : P i) : Cnt n (fun x => x < i + 1 ∧ P x) (k + 1) := by
  obtain ⟨L, h1, h2, h3⟩ := h
  refine ⟨i :: L, List.nodup_cons.2 ⟨fun z => by have := ((h2 i).1 z).2.1; omega, h1⟩, fun x => ?_, by simp [h3]⟩
  rw [List.mem_cons, h2]
  constructor
  · rintro (rfl | ⟨a, b, c⟩)
    · exact ⟨hi, by omega, hp⟩
    · exact ⟨a, by omega, c⟩
  · rintro ⟨a, b, c⟩
    by_cases e : x = i
    · exact .inl e
    · exact .inr ⟨a, by omega, c⟩
theorem Cnt.succ_no {P : Nat → Prop} {i n k : Nat} (h : Cnt n (fun x => x < i ∧ P x) k) (hp : ¬ P i) : Cnt n (fun x => x < i + 1 ∧ P x) k := by
  refine h.congr fun x hx => ⟨fun ⟨a, b⟩ => ⟨by omega, b⟩, fun ⟨a, b⟩ => ⟨?_, b⟩⟩
  by_cases e : x = i
  · exact absurd (e ▸ b) hp
  · omega
theorem Cnt.none {P : Nat → Prop} {n : Nat} (h : ∀ x, x < n → ¬ P x) : Cnt n P 0 := ⟨[], List.nodup_nil, fun x => ⟨fun z => by simp at z, fun z => absurd z.2 (h x z.1)⟩, rfl⟩
theorem cyS_cnt (p : List Int) (n : Nat) (hp : inR n p) (hi : injR n p) (ch : Int → Bool) : ∀ i, i ≤ n → Cnt n (fun x => x < i ∧ lst (Reach [p] n) x) (cyS p n i).2.length ∧ Cnt n (fun x => x < i ∧ (lst (Reach [p] n) x ∧ ∀ y, y < n → ch (y : Int) = true → ¬ Reach [p] n x y)) (bc (cyS p n i).2 ch (cyS p n i).2.length)
  | 0, _ => ⟨Cnt.none fun x _ z => by omega, Cnt.none fun x _ z => by omega⟩
  | i + 1, hi' => by
    obtain ⟨ih1, ih2⟩ := cyS_cnt p n hp hi ch i (by omega)
    have seen := cyS_seen p n hp hi i (by omega) i (by omega)
    have l1 := cyS_len p n i
    simp only [cyS]
    by_cases e : (cyS p n i).1.getD i false = true
    · rw [cw_seen p (n + 1) _ _ _ (by rw [rdOf_nat _ _ (by omega), Int.toNat_natCast]; exact e)]
      rw [if_pos rfl]
      obtain ⟨j, hj, h⟩ := seen.1 e
      have nl : ¬ lst (Reach [p] n) i := fun z => z j hj h
      exact ⟨ih1.succ_no nl, ih2.succ_no fun z => nl z.1⟩
    · have e' : ¬ rdOf false (cyS p n i).1 (i : Int) = true := by rw [rdOf_nat _ _ (by omega), Int.toNat_natCast]; exact e
      have hl : lst (Reach [p] n) i := fun j hj h => e (seen.2 ⟨j, hj, h⟩)
      obtain ⟨w1, w2, w3, w4, w5, w6⟩ := cw_ends p n hp i (by omega) (fun x => x < n ∧ (cyS p n i).1.getD x false = true) (n + 1) (cyS p n i).1 [] i l1 (by omega) (by have := fresh_le (cyS p n i).1; omega)
        (fun y hy hsy => .inl (by
          have pr := hp.2 y hy
          obtain ⟨j, hj, h⟩ := (cyS_seen p n hp hi i (by omega) y hy).1 hsy
          exact (cyS_seen p n hp hi i (by omega) _ (by omega)).2 ⟨j, hj, h.trans (Reach.step (by simp) hy)⟩))
        (Reach.refl _ _ _) (fun y hy hsy => .inl ⟨hy, hsy⟩) (fun y hy => hy.2) (.inr rfl) (by simp) (fun z => absurd rfl z) (fun y hy hsy => .inl ⟨hy, hsy⟩)
      have hc := closed_of_fwd p n hp hi (fun y => (cw p (n + 1) (cyS p n i).1 [] i).1.getD y false = true) w1
      rw [if_neg (cw_new p n _ i e')]
      rw [List.length_append, List.length_singleton]
      refine ⟨ih1.succ_yes (by omega) hl, ?_⟩
      have bcp : ∀ (L : List (List Int)) (q : List Int) (j : Nat), j ≤ L.length → bc (L ++ [q]) ch j = bc L ch j := by
        intro L q j
        induction j with
        | zero => intro _; rfl
        | succ j ih =>
          intro hj
          simp only [bc]
          rw [ih (by omega), rdL_nth _ j (by simp; omega), rdL_nth L j (by omega), List.getElem_append_left (by omega)]
      have bcs : ∀ (L : List (List Int)) (q : List Int), bc (L ++ [q]) ch (L.length + 1) = if q.any ch = true then bc L ch L.length else bc L ch L.length + 1 := by
        intro L q
        simp only [bc]
        rw [bcp L q L.length (Nat.le_refl _), rdL_nth _ L.length (by simp), List.getElem_append_right (Nat.le_refl _)]
        simp
      rw [bcs]
      have key : (cw p (n + 1) (cyS p n i).1 [] i).2.any ch = true ↔ ∃ y, y < n ∧ ch (y : Int) = true ∧ Reach [p] n i y := by
        rw [List.any_eq_true]
        constructor
        · rintro ⟨x, hx, hcx⟩
          obtain ⟨a, b, c⟩ := w5 x hx
          exact ⟨x.toNat, by omega, by rw [show ((x.toNat : Nat) : Int) = x by omega]; exact hcx, c⟩
        · rintro ⟨y, hy, hcy, h⟩
          have z := (h _ hc).1 w4
          rcases w6 y hy z with ⟨_, z⟩ | z
          · obtain ⟨j, hj, hr⟩ := (cyS_seen p n hp hi i (by omega) y hy).1 z
            exact absurd (hr.trans h.symm) (hl j hj)
          · exact ⟨y, z, hcy⟩
      by_cases ea : (cw p (n + 1) (cyS p n i).1 [] i).2.any ch = true
      · rw [if_pos ea]
        obtain ⟨y, hy, hcy, h⟩ := key.1 ea
        exact ih2.succ_no fun z => z.2 y hy hcy h
      · rw [if_neg ea]
        exact ih2.succ_yes (by omega) ⟨hl, fun y hy hcy h => ea (key.2 ⟨y, hy, hcy, h⟩)⟩
theorem cyS_cl (p : List Int) (n : Nat) (hp : inR n p) (hi : injR n p) : Cl n (Reach [p] n) (cyS p n n).2.length :=
  (cyS_cnt p n hp hi (fun _ => false) n (Nat.le_refl _)).1.congr fun x hx => ⟨fun z => z.2, fun z => ⟨hx, z⟩⟩
theorem perm_injR (l : List Int) (h : isPerm l) : injR l.length l := by
  intro i j hi hj e
  by_cases h1 : i < j
  · exact absurd e ((h.2.2 j hj).2.2 i h1)
  · by_cases h2 : j < i
    · exact absurd e.symm ((h.2.2 i hi).2.2 j h2)
    · omega
theorem ribOk_of (t f c : List Int) (h : isMap t f) (hc : isChoice c ((f.length : Int) / 2)) (hcl : c.length ≤ 1048576) : RibOk t f c t.length := by
  obtain ⟨pt, pf, e, fl, _⟩ := h
  have hf : inR t.length f := by rw [e]; exact isPerm_inR f pf
  have hfl : ∀ i : Nat, i < t.length → flipAt f i := fun i hi => fl i (by omega)
  refine ⟨pt.2.1, pt.1, isPerm_inR t pt, perm_injR t pt, hf, hfl, ?_, hcl⟩
  have := edL_half f t.length hf hfl
  rw [show (((edL f t.length).length : Nat) : Int) = (f.length : Int) / 2 by omega]
  exact hc
theorem five_len (P S V c : Int) : (fiveN P S V c).length = 5 := rfl
def vt (C : List (List Int)) (n : Nat) : Nat → List Int
  | 0 => List.replicate n 0
  | q + 1 => (rd_L1 C q).foldl (fun o d => o.set d.toNat (q : Int)) (vt C n q)
theorem fold_len (v : Int) : ∀ (l o : List Int), (l.foldl (fun o d => o.set d.toNat v) o).length = o.length
  | [], o => rfl
  | x :: l, o => by
    rw [List.foldl_cons, fold_len v l]
    simp
theorem vt_len (C : List (List Int)) (n : Nat) : ∀ q, (vt C n q).length = n
  | 0 => by simp [vt]
  | q + 1 => by
    simp only [vt]
    rw [fold_len, vt_len C n q]
theorem sv_l1 (C : List (List Int)) (n q : Nat) (hn : n ≤ 12) (hq : q < C.length) (hl : (∀ x ∈ rd_L1 C q, 0 ≤ x ∧ x < n) ∧ (rd_L1 C q).length ≤ n + 1) (r : List Int) : ∀ (d i : Nat) (o : List Int), (rd_L1 C q).length - i = d → i ≤ (rd_L1 C q).length → o.length = n →
    Ev (fun k => spec_l7Vertices.l0 k (((rd_L1 C q).drop i).foldl (fun o d => o.set d.toNat (q : Int)) o) C (wrap64 ((q : Int) + 1))) r → Ev (fun k => spec_l7Vertices.l1 k o C q i) r
  | 0, i, o, hd, hi, ho, h => by
    have : i = (rd_L1 C q).length := by omega
    rw [List.drop_eq_nil_of_le (by omega)] at h
    refine Ev.s ?_
    simp only [spec_l7Vertices.l1, show (0 : Int) ≤ (q : Int) by omega, show (q : Int) < (C.length : Int) by omega, show ¬ (i : Int) < ((rd_L1 C q).length : Int) by omega, if_true, if_false]
    exact h
  | d + 1, i, o, hd, hi, ho, h => by
    have hlt : i < (rd_L1 C q).length := by omega
    have e := rd_lt _ i hlt
    have hr := hl.1 _ (List.getElem_mem hlt)
    rw [List.drop_eq_getElem_cons hlt, List.foldl_cons, ← e] at h
    rw [← e] at hr
    refine Ev.s ?_
    simp only [spec_l7Vertices.l1, show (0 : Int) ≤ (q : Int) by omega, show (q : Int) < (C.length : Int) by omega, show (i : Int) < ((rd_L1 C q).length : Int) by omega, show (0 : Int) ≤ (i : Int) by omega, hr.1, ho, hr.2, if_true, w64n (show i < 4611686018427387904 by omega)]
    exact sv_l1 C n q hn hq hl r d (i + 1) _ (by omega) (by omega) (by simpa using ho) h
theorem sv_l0 (C : List (List Int)) (n : Nat) (hn : n ≤ 12) (hC : ∀ l ∈ C, (∀ x ∈ l, 0 ≤ x ∧ x < n) ∧ l.length ≤ n + 1) (hCl : C.length ≤ n) : ∀ (d q : Nat), C.length - q = d → q ≤ C.length → Ev (fun k => spec_l7Vertices.l0 k (vt C n q) C q) (vt C n C.length)
  | 0, q, hd, hq => by
    have : q = C.length := by omega
    subst this
    refine Ev.s ?_
    simp only [spec_l7Vertices.l0, show ¬ (C.length : Int) < (C.length : Int) by omega, if_false]
    exact Ev.const rfl
  | d + 1, q, hd, hq => by
    have ih := sv_l0 C n hn hC hCl d (q + 1) (by omega) (by omega)
    have ok := rdL_ok C _ hC q (by omega)
    refine Ev.s ?_
    simp only [spec_l7Vertices.l0, show (q : Int) < (C.length : Int) by omega, if_true]
    refine sv_l1 C n q hn (by omega) ok _ _ 0 _ rfl (by omega) (vt_len C n q) ?_
    rw [List.drop_zero, w64n (by omega)]
    exact ih
theorem iv_l1 (C : List (List Int)) (n q : Nat) (hn : n ≤ 12) (hq : q < C.length) (hl : (∀ x ∈ rd_L1 C q, 0 ≤ x ∧ x < n) ∧ (rd_L1 C q).length ≤ n + 1) (r : List Int) : ∀ (d i : Nat) (o : List Int), (rd_L1 C q).length - i = d → i ≤ (rd_L1 C q).length → o.length = n →
    Ev (fun k => impl_vertexOf.l0 k (((rd_L1 C q).drop i).foldl (fun o d => o.set d.toNat (q : Int)) o) C C.length (wrap64 ((q : Int) + 1))) r → Ev (fun k => impl_vertexOf.l1 k o q C C.length q (rd_L1 C q) (rd_L1 C q).length i) r
  | 0, i, o, hd, hi, ho, h => by
    have : i = (rd_L1 C q).length := by omega
    rw [List.drop_eq_nil_of_le (by omega)] at h
    refine Ev.s ?_
    simp only [impl_vertexOf.l1, show ¬ (i : Int) < ((rd_L1 C q).length : Int) by omega, if_true, if_false]
    exact h
  | d + 1, i, o, hd, hi, ho, h => by
    have hlt : i < (rd_L1 C q).length := by omega
    have e := rd_lt _ i hlt
    have hr := hl.1 _ (List.getElem_mem hlt)
    rw [List.drop_eq_getElem_cons hlt, List.foldl_cons, ← e] at h
    rw [← e] at hr
    refine Ev.s ?_
    simp only [impl_vertexOf.l1, show (i : Int) < ((rd_L1 C q).length : Int) by omega, show (0 : Int) ≤ (i : Int) by omega, hr.1, ho, hr.2, if_true, w64n (show i < 4611686018427387904 by omega)]
    exact iv_l1 C n q hn hq hl r d (i + 1) _ (by omega) (by omega) (by simpa using ho) h
theorem iv_l0 (C : List (List Int)) (n : Nat) (hn : n ≤ 12) (hC : ∀ l ∈ C, (∀ x ∈ l, 0 ≤ x ∧ x < n) ∧ l.length ≤ n + 1) (hCl : C.length ≤ n) : ∀ (d q : Nat), C.length - q = d → q ≤ C.length → Ev (fun k => impl_vertexOf.l0 k (vt C n q) C C.length q) (vt C n C.length)
  | 0, q, hd, hq => by
    have : q = C.length := by omega
    subst this
    refine Ev.s ?_
    simp only [impl_vertexOf.l0, show ¬ (C.length : Int) < (C.length : Int) by omega, if_false]
    exact Ev.const rfl
  | d + 1, q, hd, hq => by
    have ih := iv_l0 C n hn hC hCl d (q + 1) (by omega) (by omega)
    have ok := rdL_ok C _ hC q (by omega)
    refine Ev.s ?_
    simp only [impl_vertexOf.l0, show (q : Int) < (C.length : Int) by omega, show (0 : Int) ≤ (q : Int) by omega, if_true]
    refine iv_l1 C n q hn (by omega) ok _ _ 0 _ rfl (by omega) (vt_len C n q) ?_
    rw [List.drop_zero, w64n (by omega)]
    exact ih
def vtx (t : List Int) (n : Nat) : List Int := vt (cyS t n n).2 n (cyS t n n).2.length
theorem specVert_ev (t : List Int) (n : Nat) (hn : n ≤ 12) (ht : inR n t) : Ev (fun k => spec_l7Vertices.f k t) (vtx t n) := by
  unfold spec_l7Vertices.f
  rw [ht.1]
  simp only [show (0 : Int) ≤ (n : Int) by omega, Int.toNat_natCast, show n ≤ 35184372088832 by omega, if_true]
  refine Ev.bind (specCyc_ev t n (by omega) ht) ?_
  exact sv_l0 _ n hn (cyS_ok t n ht n (Nat.le_refl _)) (cyS_many t n n) _ 0 rfl (by omega)
theorem implVert_ev (t f : List Int) (n : Nat) (hn : n ≤ 12) (ht : inR n t) : Ev (fun k => impl_vertexOf.f k t f) (vtx t n) := by
  unfold impl_vertexOf.f
  rw [ht.1]
  simp only [show (0 : Int) ≤ (n : Int) by omega, Int.toNat_natCast, show n ≤ 35184372088832 by omega, if_true]
  refine Ev.bind (implCyc_ev t n (by omega) ht) ?_
  exact iv_l0 _ n hn (cyS_ok t n ht n (Nat.le_refl _)) (cyS_many t n n) _ 0 rfl (by omega)
theorem dart_run (f : List Int) (n e a : Nat) (hn : n ≤ 12) (ha : a < n) (h1 : rd (geL f n n) (a : Int) = e) (h2 : ∀ d : Nat, d < a → rd (geL f n n) (d : Int) ≠ e) : ∀ (d i : Nat), a - i = d → i ≤ a → Ev (fun k => spec_l7Dart.l0 k e (geL f n n) i) (a : Int)
  | 0, i, hd, hi => by
    have : i = a := by omega
    subst this
    refine Ev.s ?_
    simp only [spec_l7Dart.l0, geL_len, show (i : Int) < (n : Int) by omega, show (0 : Int) ≤ (i : Int) by omega, h1, if_true]
    exact Ev.const rfl
  | d + 1, i, hd, hi => by
    refine Ev.s ?_
    simp only [spec_l7Dart.l0, geL_len, show (i : Int) < (n : Int) by omega, show (0 : Int) ≤ (i : Int) by omega, h2 i (by omega), if_true, if_false, w64n (show i < 4611686018427387904 by omega)]
    exact dart_run f n e a hn ha h1 h2 d (i + 1) (by omega) (by omega)
theorem mem_restL (c : List Int) (m : Nat) (x : Int) : x ∈ restL c m ↔ ∃ j : Nat, j < m ∧ x = (j : Int) ∧ (j : Int) ∉ c := by
  unfold restL
  rw [List.mem_map]
  constructor
  · rintro ⟨j, hj, rfl⟩
    rw [List.mem_filter, List.mem_range] at hj
    exact ⟨j, hj.1, rfl, by simpa using hj.2⟩
  · rintro ⟨j, h1, rfl, h2⟩
    exact ⟨j, by rw [List.mem_filter, List.mem_range]; exact ⟨h1, by simpa using h2⟩, rfl⟩
theorem choice_of (c : List Int) (m : Int) (h1 : ∀ x ∈ c, 0 ≤ x ∧ x < m) (h2 : c.Pairwise (· < ·)) : isChoice c m := by
  intro i hi
  have e := rd_lt c i hi
  have h := h1 _ (List.getElem_mem hi)
  rw [← e] at h
  refine ⟨?_, h.2⟩
  cases i with
  | zero => rw [ahead_zero]; omega
  | succ i =>
    rw [ahead_succ, rd_lt c i (by omega), e]
    exact List.pairwise_iff_getElem.1 h2 i (i + 1) (by omega) hi (by omega)
theorem restL_choice (c : List Int) (m : Nat) : isChoice (restL c m) m := by
  refine choice_of _ _ (fun x hx => ?_) ?_
  · obtain ⟨j, h1, rfl, _⟩ := (mem_restL c m x).1 hx
    omega
  · unfold restL
    rw [List.pairwise_map]
    exact ((List.pairwise_lt_range (n := m)).filter _).imp (fun h => by omega)
theorem pc_cnt (o : List Int) : ∀ n, Cnt n (fun i => (i : Int) = rd o i) (pc o n)
  | 0 => ⟨[], List.nodup_nil, by simp, rfl⟩
  | n + 1 => by
    obtain ⟨L, h1, h2, h3⟩ := pc_cnt o n
    simp only [pc]
    by_cases h : (n : Int) = rd o n
    · rw [if_pos h]
      refine ⟨n :: L, List.nodup_cons.2 ⟨fun z => by have := ((h2 n).1 z).1; omega, h1⟩, fun x => ?_, by simp [h3]⟩
      rw [List.mem_cons, h2]
      constructor
      · rintro (rfl | ⟨a, b⟩)
        · exact ⟨by omega, h⟩
        · exact ⟨by omega, b⟩
      · rintro ⟨a, b⟩
        by_cases e : x = n
        · exact .inl e
        · exact .inr ⟨by omega, b⟩
    · rw [if_neg h]
      refine ⟨L, h1, fun x => ?_, h3⟩
      rw [h2]
      constructor
      · rintro ⟨a, b⟩; exact ⟨by omega, b⟩
      · rintro ⟨a, b⟩
        by_cases e : x = n
        · exact absurd (e ▸ b) h
        · exact ⟨by omega, b⟩
theorem geL_lt (f : List Int) (n : Nat) (hf : inR n f) (hfl : ∀ i : Nat, i < n → flipAt f i) (d : Nat) (hd : d < n) : ∃ j : Nat, j < (edL f n).length ∧ rd (geL f n n) d = (j : Int) := by
  have l := least_lt f n hf hfl d hd
  exact ⟨_, edL_lt f _ l.2 n l.1, geL_at f n hf hfl n (Nat.le_refl _) d hd l.1⟩
theorem one_or_two (t f : List Int) (n : Nat) (h1 : 1 ≤ n) (ht : inR n t) (hf : inR n f) (hfl : ∀ i : Nat, i < n → flipAt f i) (hcon : ∀ i j : Nat, i < n → j < n → Reach [t, f] n i j) (e : Nat) (he : e < (edL f n).length) (o : List Int) (ho : orbOk [t, flC f n (restL [(e : Int)] (edL f n).length)] n o) : pc o n = 1 ∨ pc o n = 2 := by
  obtain ⟨a, b, ha, hb, hab, e1, e2, e3, e4⟩ := edge_at f n hf hfl e he
  have hin : ∀ p ∈ [t, flC f n (restL [(e : Int)] (edL f n).length)], inR n p := by
    intro p hp
    rcases List.mem_cons.1 hp with rfl | hp
    · exact ht
    · rw [List.mem_singleton.1 hp]; exact flC_inR f n hf _
  have hS : ∀ z, z < n → Reach [t, flC f n (restL [(e : Int)] (edL f n).length)] n z a ∨ Reach [t, flC f n (restL [(e : Int)] (edL f n).length)] n z b := by
    intro z hz
    have hc : closedL [t, f] n (fun z => Reach [t, flC f n (restL [(e : Int)] (edL f n).length)] n z a ∨ Reach [t, flC f n (restL [(e : Int)] (edL f n).length)] n z b) := by
      intro p hp k hk
      rcases List.mem_cons.1 hp with rfl | hp
      · have s := Reach.step (ps := [p, flC f n (restL [(e : Int)] (edL f n).length)]) (n := n) (p := p) (by simp) hk
        exact ⟨fun h => h.imp (fun h => s.symm.trans h) (fun h => s.symm.trans h), fun h => h.imp (fun h => s.trans h) (fun h => s.trans h)⟩
      · rw [List.mem_singleton.1 hp]
        by_cases ka : k = a
        · subst ka
          rw [e2]
          exact ⟨fun _ => .inr (Reach.refl _ _ _), fun _ => .inl (Reach.refl _ _ _)⟩
        · by_cases kb : k = b
          · subst kb
            rw [e3]
            exact ⟨fun _ => .inl (Reach.refl _ _ _), fun _ => .inr (Reach.refl _ _ _)⟩
          · have s := Reach.step (ps := [t, flC f n (restL [(e : Int)] (edL f n).length)]) (n := n) (p := flC f n (restL [(e : Int)] (edL f n).length)) (by simp) hk
            obtain ⟨j, j1, j2⟩ := geL_lt f n hf hfl k hk
            have hch : chB f n (restL [(e : Int)] (edL f n).length) k = true := by
              unfold chB
              rw [j2]
              refine decide_eq_true ((mem_restL _ _ _).2 ⟨j, j1, rfl, ?_⟩)
              rw [List.mem_singleton]
              intro z
              rw [z] at j2
              exact ((e4 k hk).1 j2).elim ka kb
            rw [flC_rd f n _ k hk, if_pos hch] at s
            exact ⟨fun h => h.imp (fun h => s.symm.trans h) (fun h => s.symm.trans h), fun h => h.imp (fun h => s.trans h) (fun h => s.trans h)⟩
    exact ((hcon z a hz ha) _ hc).2 (.inl (Reach.refl _ _ _))
  obtain ⟨L, l1, l2, l3⟩ := pc_cnt o n
  have le2 := len_le_of_sub L [(rd o a).toNat, (rd o b).toNat] l1 (fun x hx => by
    have hx' := (l2 x).1 hx
    have h2 : (x : Int) = rd o x := hx'.2
    rcases hS x hx'.1 with h | h
    · have := orbOk_const ho hin h
      rw [this] at h2
      simp only [List.mem_cons, List.not_mem_nil, or_false]
      omega
    · have := orbOk_const ho hin h
      rw [this] at h2
      simp only [List.mem_cons, List.not_mem_nil, or_false]
      omega)
  have h0 := ho.1.2 0 h1
  have m0 : 0 ∈ L := (l2 0).2 ⟨h1, by have := h0.1; have := h0.2.1; omega⟩
  have := List.length_pos_of_mem m0
  simp only [List.length_cons, List.length_nil] at le2
  omega
theorem edgeKind_more (t f : List Int) (ht : t.length ≤ 1048576) (hf : f.length ≤ 1048576) (e : Int) : ∃ r : Int, Ev (fun k => spec_EdgeKind.f k t f e) r ∧ Ev (fun k => impl_EdgeKind.f k t f e) r ∧ (r = -1 ∨ 0 ≤ r ∧ isMap t f ∧ 0 ≤ e ∧ e ≤ (f.length : Int) / 2 - 1) := by
  obtain ⟨b, b1, b2, b3⟩ := mapValid_both t f ht hf
  have wf : wrap64 ((f.length : Int) / 2) = (f.length : Int) / 2 := w64 (by omega) (by omega)
  have wf1 : wrap64 ((f.length : Int) / 2 - 1) = (f.length : Int) / 2 - 1 := w64 (by omega) (by omega)
  unfold spec_EdgeKind.f impl_EdgeKind.f
  cases b with
  | false =>
    refine ⟨-1, ?_, ?_, .inl rfl⟩
    · refine Ev.bind b1 ?_
      simp only [Bool.false_eq_true, if_false]
      refine Ev.s ?_
      simp only [spec_EdgeKind.j0, if_true]
      exact Ev.const rfl
    · refine Ev.bind b2 ?_
      simp only [Bool.false_eq_true, if_false]
      refine Ev.s ?_
      simp only [impl_EdgeKind.j0, if_true]
      exact Ev.const rfl
  | true =>
    have hm := b3.1 rfl
    by_cases he : 0 ≤ e ∧ e ≤ (f.length : Int) / 2 - 1
    · have H0 := ribOk_of t f [] hm (fun i hi => by simp at hi) (by simp)
      obtain ⟨hn, h1, ht', hti, hf', hfl, _, _⟩ := H0
      have hcon := hm.2.2.2.2
      have hh := edL_half f t.length hf' hfl
      have hlen := hf'.1
      obtain ⟨E, rfl⟩ : ∃ E : Nat, e = (E : Int) := ⟨e.toNat, by omega⟩
      obtain ⟨a, a', ha, ha', hab, e1, e2, e3, e4⟩ := edge_at f t.length hf' hfl E (by omega)
      obtain ⟨a2, _, l2, l3, _⟩ := edL_get f t.length E (by omega)
      have haa : a2 = a := by omega
      subst haa
      have hlt : a2 < a' := by omega
      have hch : isChoice [(E : Int)] ((f.length : Int) / 2) := choice_of _ _ (by simp; omega) (by simp)
      obtain ⟨r, rb, r1, r2, r3, r4, r5⟩ := choiceRest_both t f [(E : Int)] ht hf (by simp)
      have hrb : rb = true := r5 ⟨hm, hch⟩
      subst hrb
      have hr := (r4 rfl).1
      have hHalf : f.length / 2 = (edL f t.length).length := by omega
      rw [hHalf] at hr
      subst hr
      have hR := ribOk_of t f (restL [(E : Int)] (edL f t.length).length) hm (by rw [show (f.length : Int) / 2 = (((edL f t.length).length : Nat) : Int) by omega]; exact restL_choice _ _) r3
      obtain ⟨o, o1, o2, o4⟩ := ribbon_parts t f _ t.length hR
      have h12 := one_or_two t f t.length h1 ht' hf' hfl (fun i j hi hj => by have := hcon i j (by omega) (by omega); rwa [hlen] at this) E (by omega) o o1
      have vl := vt_len (cyS t t.length t.length).2 t.length (cyS t t.length t.length).2.length
      have vl' : (vtx t t.length).length = t.length := vl
      by_cases hv : rd (vtx t t.length) (a2 : Int) = rd (vtx t t.length) (a' : Int)
      · refine ⟨2, ?_, ?_, .inr ⟨by decide, hm, he⟩⟩
        · refine Ev.bind b1 ?_
          simp only [if_true, wf, wf1, l6In_eq, Option.bind_some, he, decide_true, and_self, Bool.not_true]
          refine Ev.s ?_
          simp only [spec_EdgeKind.j0, Bool.false_eq_true, if_false]
          refine Ev.bind (Ev.bind (specEdges_ev t.length (by omega) t f hf') (dart_run f t.length E a2 hn ha ((e4 a2 ha).2 (.inl rfl)) (fun d hd z => by rcases (e4 d (by omega)).1 z with h | h <;> omega) _ 0 rfl (by omega))) ?_
          refine Ev.bind (specVert_ev t t.length hn ht') ?_
          simp only [show (0 : Int) ≤ (a2 : Int) by omega, vl', show (a2 : Int) < (t.length : Int) by omega, hlen, e2, show (0 : Int) ≤ (a' : Int) by omega, show (a' : Int) < (t.length : Int) by omega, hv, if_true]
          exact Ev.const rfl
        · refine Ev.bind b2 ?_
          simp only [if_true, show ¬ (E : Int) < 0 by omega, if_false, wf, show ¬ (E : Int) ≥ (f.length : Int) / 2 by omega, decide_false]
          refine Ev.s ?_
          simp only [impl_EdgeKind.j0, Bool.false_eq_true, if_false]
          refine Ev.bind (implEdges_ev t.length (by omega) t f hf') ?_
          simp only [show (0 : Int) ≤ (E : Int) by omega, show (E : Int) < ((edL f t.length).length : Int) by omega, if_true]
          refine Ev.bind (implVert_ev t f t.length hn ht') ?_
          simp only [e1, show (0 : Int) ≤ (a2 : Int) by omega, vl', show (a2 : Int) < (t.length : Int) by omega, hlen, e2, show (0 : Int) ≤ (a' : Int) by omega, show (a' : Int) < (t.length : Int) by omega, hv, if_true]
          exact Ev.const rfl
      · refine ⟨wrap64 ((pc o t.length : Int) - 1), ?_, ?_, .inr ⟨by rcases h12 with h | h <;> rw [h] <;> simp [wrap64], hm, he⟩⟩
        · refine Ev.bind b1 ?_
          simp only [if_true, wf, wf1, l6In_eq, Option.bind_some, he, decide_true, and_self, Bool.not_true]
          refine Ev.s ?_
          simp only [spec_EdgeKind.j0, Bool.false_eq_true, if_false]
          refine Ev.bind (Ev.bind (specEdges_ev t.length (by omega) t f hf') (dart_run f t.length E a2 hn ha ((e4 a2 ha).2 (.inl rfl)) (fun d hd z => by rcases (e4 d (by omega)).1 z with h | h <;> omega) _ 0 rfl (by omega))) ?_
          refine Ev.bind (specVert_ev t t.length hn ht') ?_
          simp only [show (0 : Int) ≤ (a2 : Int) by omega, vl', show (a2 : Int) < (t.length : Int) by omega, hlen, e2, show (0 : Int) ≤ (a' : Int) by omega, show (a' : Int) < (t.length : Int) by omega, hv, if_true, if_false]
          refine Ev.bind r1 ?_
          exact Ev.bind o2 (Ev.const rfl)
        · refine Ev.bind b2 ?_
          simp only [if_true, show ¬ (E : Int) < 0 by omega, if_false, wf, show ¬ (E : Int) ≥ (f.length : Int) / 2 by omega, decide_false]
          refine Ev.s ?_
          simp only [impl_EdgeKind.j0, Bool.false_eq_true, if_false]
          refine Ev.bind (implEdges_ev t.length (by omega) t f hf') ?_
          simp only [show (0 : Int) ≤ (E : Int) by omega, show (E : Int) < ((edL f t.length).length : Int) by omega, if_true]
          refine Ev.bind (implVert_ev t f t.length hn ht') ?_
          simp only [e1, show (0 : Int) ≤ (a2 : Int) by omega, vl', show (a2 : Int) < (t.length : Int) by omega, hlen, e2, show (0 : Int) ≤ (a' : Int) by omega, show (a' : Int) < (t.length : Int) by omega, hv, if_true, if_false]
          refine Ev.bind r2 ?_
          refine Ev.bind o4 ?_
          have e0 : ∀ P S V c : Int, rd (fiveN P S V c) 0 = P := fun _ _ _ _ => rfl
          simp only [five_len, show (0 : Int) < ((5 : Nat) : Int) by omega, if_true, e0]
          rcases h12 with h | h
          · rw [h]
            exact Ev.const (by simp [wrap64])
          · rw [h]
            exact Ev.const (by simp [wrap64])
    · refine ⟨-1, ?_, ?_, .inl rfl⟩
      · refine Ev.bind b1 ?_
        simp only [if_true, wf, wf1, l6In_eq, Option.bind_some, he, decide_false, Bool.not_false]
        refine Ev.s ?_
        simp only [spec_EdgeKind.j0, if_true]
        exact Ev.const rfl
      · refine Ev.bind b2 ?_
        simp only [if_true]
        by_cases e0 : e < 0
        · simp only [e0, if_true]
          refine Ev.s ?_
          simp only [impl_EdgeKind.j0, if_true]
          exact Ev.const rfl
        · simp only [e0, if_false, wf, show e ≥ (f.length : Int) / 2 by omega, decide_true]
          refine Ev.s ?_
          simp only [impl_EdgeKind.j0, if_true]
          exact Ev.const rfl
def MapOk (t f : List Int) (n : Nat) : Prop := n ≤ 12 ∧ 1 ≤ n ∧ inR n t ∧ injR n t ∧ inR n f ∧ (∀ i : Nat, i < n → flipAt f i) ∧ ∀ i j : Nat, i < n → j < n → Reach [t, f] n i j
theorem mapOk_of (t f : List Int) (h : isMap t f) : MapOk t f t.length := by
  obtain ⟨hn, h1, ht, hti, hf, hfl, _, _⟩ := ribOk_of t f [] h (fun i hi => by simp at hi) (by simp)
  exact ⟨hn, h1, ht, hti, hf, hfl, by have := h.2.2.2.2; rwa [← h.2.2.1] at this⟩
theorem MapOk.rib {t f : List Int} {n : Nat} (h : MapOk t f n) {c : List Int} (hc : isChoice c ((edL f n).length : Int)) (hcl : c.length ≤ 1048576) : RibOk t f c n :=
  ⟨h.1, h.2.1, h.2.2.1, h.2.2.2.1, h.2.2.2.2.1, h.2.2.2.2.2.1, hc, hcl⟩
theorem parts_cl (t f c : List Int) (n : Nat) (h1 : 1 ≤ n) (ht : inR n t) (hf : inR n f) (o : List Int) (ho : orbOk [t, flC f n c] n o) : Cl n (Reach [t, flC f n c] n) (pc o n) := by
  have hin : ∀ p ∈ [t, flC f n c], inR n p := by
    intro p hp
    rcases List.mem_cons.1 hp with rfl | hp
    · exact ht
    · rw [List.mem_singleton.1 hp]; exact flC_inR f n hf _
  refine (pc_cnt o n).congr fun x hx => ⟨fun h j hj hr => ?_, fun h => ?_⟩
  · have h1 := orbOk_const ho hin hr
    have h2 := ho.1.2 j (by omega)
    have h : (x : Int) = rd o x := h
    omega
  · have h2 := ho.1.2 x hx
    by_cases e : rd o x = x
    · exact e.symm
    · exact absurd h2.2.2 (h _ (by omega))
def faces (t f : List Int) (n : Nat) : List Int := (List.range n).map fun (d : Nat) => rd t (rd f (d : Int))
theorem faces_len (t f : List Int) (n : Nat) : (faces t f n).length = n := by simp [faces]
theorem faces_rd (t f : List Int) (n d : Nat) (h : d < n) : rd (faces t f n) (d : Int) = rd t (rd f (d : Int)) := by
  rw [rd_lt _ _ (by simp [faces]; exact h)]
  simp [faces]
theorem perm_of (l : List Int) (n : Nat) (h1 : 1 ≤ n) (h12 : n ≤ 12) (hl : inR n l) (hi : injR n l) : isPerm l := by
  refine ⟨by rw [hl.1]; exact h1, by rw [hl.1]; exact h12, fun i hi' => ?_⟩
  rw [hl.1] at hi'
  have := hl.2 i hi'
  refine ⟨this.1, by rw [hl.1]; exact this.2, fun k hk e => ?_⟩
  have := hi k i (by omega) hi' e
  omega
theorem flip_inj (f : List Int) (n : Nat) (hf : inR n f) (hfl : ∀ i : Nat, i < n → flipAt f i) : injR n f := by
  intro i j hi hj e
  have h1 := (hfl i hi).2
  rw [e, (hfl j hj).2] at h1
  omega
theorem isMap_of {t f : List Int} {n : Nat} (H : MapOk t f n) : isMap t f := by
  obtain ⟨hn, h1, ht, hti, hf, hfl, hcon⟩ := H
  refine ⟨perm_of t n h1 hn ht hti, perm_of f n h1 hn hf (flip_inj f n hf hfl), by rw [ht.1, hf.1], ?_, ?_⟩
  · rw [hf.1]; exact hfl
  · rw [hf.1]; exact hcon
theorem faces_inR (t f : List Int) (n : Nat) (ht : inR n t) (hf : inR n f) : inR n (faces t f n) := by
  refine ⟨faces_len t f n, fun i hi => ?_⟩
  rw [faces_rd t f n i hi]
  have h1 := hf.2 i hi
  have h2 := ht.2 (rd f i).toNat (by omega)
  rwa [show (((rd f i).toNat : Nat) : Int) = rd f i by omega] at h2
theorem faces_inj (t f : List Int) (n : Nat) (ht : inR n t) (hti : injR n t) (hf : inR n f) (hfl : ∀ i : Nat, i < n → flipAt f i) : injR n (faces t f n) := by
  intro i j hi hj e
  rw [faces_rd t f n i hi, faces_rd t f n j hj] at e
  have h1 := hf.2 i hi
  have h2 := hf.2 j hj
  have e1 : (((rd f i).toNat : Nat) : Int) = rd f i := by omega
  have e2 : (((rd f j).toNat : Nat) : Int) = rd f j := by omega
  rw [← e1, ← e2] at e
  have := hti _ _ (by omega) (by omega) e
  exact flip_inj f n hf hfl i j hi hj (by omega)
theorem dual_ok {t f : List Int} {n : Nat} (H : MapOk t f n) : MapOk (faces t f n) f n := by
  obtain ⟨hn, h1, ht, hti, hf, hfl, hcon⟩ := H
  refine ⟨hn, h1, faces_inR t f n ht hf, faces_inj t f n ht hti hf hfl, hf, hfl, fun i j hi hj S hS => hcon i j hi hj S fun p hp k hk => ?_⟩
  have sf := hS f (by simp)
  rcases List.mem_cons.1 hp with rfl | hp
  · have fr := hf.2 k hk
    have h2 := hS (faces p f n) (by simp) (rd f k).toNat (by omega)
    have e1 : (((rd f k).toNat : Nat) : Int) = rd f k := by omega
    rw [faces_rd p f n _ (by omega), e1, (hfl k hk).2] at h2
    exact (sf k hk).trans h2
  · rw [List.mem_singleton.1 hp]
    exact sf k hk
theorem chB_rest (f : List Int) (n : Nat) (hf : inR n f) (hfl : ∀ i : Nat, i < n → flipAt f i) (c : List Int) (d : Nat) (hd : d < n) : chB f n (restL c (edL f n).length) (d : Int) = !chB f n c (d : Int) := by
  obtain ⟨j, j1, j2⟩ := geL_lt f n hf hfl d hd
  unfold chB
  rw [j2]
  by_cases e : (j : Int) ∈ c
  · rw [decide_eq_true e]
    exact decide_eq_false fun z => by
      obtain ⟨q, _, e1, e2⟩ := (mem_restL _ _ _).1 z
      exact e2 (e1 ▸ e)
  · rw [decide_eq_false e]
    exact decide_eq_true ((mem_restL _ _ _).2 ⟨j, j1, rfl, e⟩)
theorem surj (t : List Int) (n : Nat) (ht : inR n t) (hti : injR n t) (i : Nat) (hi : i < n) : ∃ j : Nat, j < n ∧ rd t j = i := by
  obtain ⟨k, _, h2⟩ := itr_back t n ht hti i (by omega)
  have hin := itr_in t n ht k i (by omega)
  refine ⟨(itr t k i).toNat, by omega, ?_⟩
  rw [show (((itr t k i).toNat : Nat) : Int) = itr t k i by omega]
  have := itr_add t k 1 (i : Int)
  rw [h2] at this
  exact this.symm
theorem push_self (o : List Int) (i : Nat) (ho : inR i o) (hi : injR i o) : inR (i + 1) (o ++ [(i : Int)]) ∧ injR (i + 1) (o ++ [(i : Int)]) := by
  have last : rd (o ++ [(i : Int)]) (i : Int) = i := by
    rw [rd_lt _ _ (by simp [ho.1]), List.getElem_append_right (by rw [ho.1]; exact Nat.le_refl _)]
    simp
  have old : ∀ j : Nat, j < i → rd (o ++ [(i : Int)]) (j : Int) = rd o (j : Int) := fun j hj => rd_app_lt _ _ _ (by rw [ho.1]; exact hj)
  refine ⟨⟨by simp [ho.1], fun j hj => ?_⟩, fun j k hj hk e => ?_⟩
  · by_cases h : j < i
    · rw [old j h]
      have := ho.2 j h
      omega
    · rw [show j = i by omega, last]
      omega
  · by_cases h : j < i
    · have a := ho.2 j h
      by_cases h' : k < i
      · rw [old j h, old k h'] at e
        exact hi j k h h' e
      · rw [show k = i by omega, last, old j h] at e
        omega
    · by_cases h' : k < i
      · have a := ho.2 k h'
        rw [show j = i by omega, last, old k h'] at e
        omega
      · omega
theorem set_perm (o : List Int) (n a b : Nat) (ho : inR n o) (hi : injR n o) (ha : a < n) (hb : b < n) : inR n ((o.set a (rd o b)).set b (rd o a)) ∧ injR n ((o.set a (rd o b)).set b (rd o a)) := by
  have val : ∀ j : Nat, j < n → rd ((o.set a (rd o b)).set b (rd o a)) (j : Int) = if b = j then rd o a else if a = j then rd o b else rd o j := by
    intro j hj
    by_cases e1 : b = j
    · subst e1
      rw [rd_set_self _ _ _ (by simp [ho.1]; exact hb), if_pos rfl]
    · rw [rd_set_ne _ _ _ _ e1, if_neg e1]
      by_cases e2 : a = j
      · subst e2
        rw [rd_set_self _ _ _ (by rw [ho.1]; exact ha), if_pos rfl]
      · rw [rd_set_ne _ _ _ _ e2, if_neg e2]
  have ra := ho.2 a ha
  have rb := ho.2 b hb
  refine ⟨⟨by simp [ho.1], fun j hj => ?_⟩, fun j k hj hk e => ?_⟩
  · rw [val j hj]
    have := ho.2 j hj
    split
    · exact ra
    · split
      · exact rb
      · exact this
  · rw [val j hj, val k hk] at e
    have i1 := hi a b ha hb
    have i2 := hi a j ha hj
    have i3 := hi a k ha hk
    have i4 := hi b j hb hj
    have i5 := hi b k hb hk
    have i6 := hi j k hj hk
    by_cases c1 : b = j
    · rw [if_pos c1] at e
      by_cases c2 : b = k
      · omega
      · rw [if_neg c2] at e
        by_cases c3 : a = k
        · rw [if_pos c3] at e
          have := i1 e
          omega
        · rw [if_neg c3] at e
          exact absurd (i3 e) c3
    · rw [if_neg c1] at e
      by_cases c4 : a = j
      · rw [if_pos c4] at e
        by_cases c2 : b = k
        · rw [if_pos c2] at e
          have := i1 e.symm
          omega
        · rw [if_neg c2] at e
          by_cases c3 : a = k
          · omega
          · rw [if_neg c3] at e
            exact absurd (i5 e) c2
      · rw [if_neg c4] at e
        by_cases c2 : b = k
        · rw [if_pos c2] at e
          exact absurd (i2 e.symm) c4
        · rw [if_neg c2] at e
          by_cases c3 : a = k
          · rw [if_pos c3] at e
            exact absurd (i4 e.symm) c1
          · rw [if_neg c3] at e
            exact i6 e
theorem push_swap (o : List Int) (i k : Nat) (hk : k < i) (ho : inR i o) (hi : injR i o) : inR (i + 1) ((o ++ [rd o k]).set k (i : Int)) ∧ injR (i + 1) ((o ++ [rd o k]).set k (i : Int)) := by
  obtain ⟨p1, p2⟩ := push_self o i ho hi
  have e : ((o ++ [(i : Int)]).set k (rd (o ++ [(i : Int)]) i)).set i (rd (o ++ [(i : Int)]) k) = (o ++ [rd o k]).set k (i : Int) := by
    have last : rd (o ++ [(i : Int)]) (i : Int) = i := by
      rw [rd_lt _ _ (by simp [ho.1]), List.getElem_append_right (by rw [ho.1]; exact Nat.le_refl _)]
      simp
    have last' : ∀ v : Int, rd (o ++ [v]) (i : Int) = v := by
      intro v
      rw [rd_lt _ _ (by simp [ho.1]), List.getElem_append_right (by rw [ho.1]; exact Nat.le_refl _)]
      simp
    refine list_ext _ _ (by simp) fun j hj => ?_
    have hj' : j < i + 1 := by simp [ho.1] at hj; omega
    have l1 : (o ++ [(i : Int)]).length = i + 1 := by simp [ho.1]
    have l2 : (o ++ [rd o k]).length = i + 1 := by simp [ho.1]
    rw [last, rd_app_lt o _ k (by rw [ho.1]; exact hk)]
    by_cases e1 : i = j
    · subst e1
      rw [rd_set_self _ _ _ (by simp [ho.1]), rd_set_ne _ _ _ _ (by omega), last']
    · rw [rd_set_ne _ _ _ _ e1]
      by_cases e2 : k = j
      · subst e2
        rw [rd_set_self _ _ _ (by omega), rd_set_self _ _ _ (by omega)]
      · rw [rd_set_ne _ _ _ _ e2, rd_set_ne _ _ _ _ e2, rd_app_lt _ _ _ (by rw [ho.1]; omega), rd_app_lt _ _ _ (by rw [ho.1]; omega)]
  have := set_perm (o ++ [(i : Int)]) (i + 1) k i p1 p2 (by omega) (by omega)
  rwa [e] at this
theorem perm_run (l : List Int) (h : bytesOk l) (n : Nat) (hn : n ≤ 100) : ∀ (d i : Nat) (o : List Int) (p : Int), n - i = d → i ≤ n → inR i o → injR i o → 0 ≤ p → p + d ≤ 1000 → ∃ (o' : List Int), Ev (fun k => spec_l91Perm.l0 k n o i l p) (o', p + d) ∧ inR n o' ∧ injR n o'
  | 0, i, o, p, hd, hi, ho, hoi, hp, hp' => by
    have : i = n := by omega
    subst this
    refine ⟨o, Ev.s ?_, ho, hoi⟩
    simp only [spec_l91Perm.l0, show ¬ (i : Int) < (i : Int) by omega, if_false]
    exact Ev.const (by simp)
  | d + 1, i, o, p, hd, hi, ho, hoi, hp, hp' => by
    obtain ⟨v, hv, v0, v1⟩ := pick_ev l h p hp (by omega) ((i + 1 : Nat) : Int) (by omega) (by omega)
    have w1 : i < 4611686018427387904 := by omega
    have w2 : o.length < 17592186044416 := by rw [ho.1]; omega
    have w3 : o.length = i := ho.1
    by_cases e : v = (i : Int)
    · obtain ⟨q1, q2⟩ := push_self o i ho hoi
      obtain ⟨o', r1, r2, r3⟩ := perm_run l h n hn d (i + 1) _ (p + 1) (by omega) (by omega) q1 q2 (by omega) (by omega)
      refine ⟨o', Ev.s ?_, r2, r3⟩
      simp only [spec_l91Perm.l0, show (i : Int) < (n : Int) by omega, if_true, w64n w1]
      refine Ev.bind hv ?_
      simp only [e, w2, if_true]
      rw [show p + ((d + 1 : Nat) : Int) = p + 1 + d by omega]
      exact r1
    · obtain ⟨q1, q2⟩ := push_swap o i v.toNat (by omega) ho hoi
      obtain ⟨o', r1, r2, r3⟩ := perm_run l h n hn d (i + 1) _ (p + 1) (by omega) (by omega) q1 q2 (by omega) (by omega)
      rw [show ((v.toNat : Nat) : Int) = v by omega] at r1
      have w4 : v < (i : Int) := by omega
      have w5 : v < ((o ++ [rd o v]).length : Int) := by simp [w3]; omega
      refine ⟨o', Ev.s ?_, r2, r3⟩
      simp only [spec_l91Perm.l0, show (i : Int) < (n : Int) by omega, if_true, w64n w1]
      refine Ev.bind hv ?_
      simp only [e, if_false, v0, w3, w4, w2, if_true, Option.bind_some, w5]
      rw [show p + ((d + 1 : Nat) : Int) = p + 1 + d by omega]
      rw [w3] at w2
      simp only [w2, if_true, w5]
      exact r1
theorem l91Perm_ev (l : List Int) (h : bytesOk l) (n : Nat) (hn : n ≤ 100) (p : Int) (hp : 0 ≤ p) (hp' : p ≤ 500) : ∃ (o : List Int), Ev (fun k => spec_l91Perm.f k l p n) (o, p + n) ∧ inR n o ∧ injR n o := by
  unfold spec_l91Perm.f
  have := perm_run l h n hn n 0 [] p (by omega) (by omega) ⟨rfl, fun i hi => by omega⟩ (fun i j hi _ _ => by omega) hp (by omega)
  exact this
def paired (n : Nat) (q g : List Int) (i : Nat) : Prop := inR n g ∧ ∀ j : Nat, 2 * j + 1 < i → rd g (rd q ((2 * j : Nat) : Int)) = rd q ((2 * j + 1 : Nat) : Int) ∧ rd g (rd q ((2 * j + 1 : Nat) : Int)) = rd q ((2 * j : Nat) : Int)
theorem toNat_eq {a b : Int} (ha : 0 ≤ a) (hb : 0 ≤ b) (h : a.toNat = b.toNat) : a = b := by omega
theorem pair_step (n : Nat) (q g : List Int) (hq : inR n q) (hqi : injR n q) (i : Nat) (hi : 2 * i + 1 < n) (h : paired n q g (2 * i)) :
    paired n q ((g.set (rd q ((2 * i : Nat) : Int)).toNat (rd q ((2 * i + 1 : Nat) : Int))).set (rd q ((2 * i + 1 : Nat) : Int)).toNat (rd q ((2 * i : Nat) : Int))) (2 * i + 2) := by
  have ra := hq.2 (2 * i) (by omega)
  have rb := hq.2 (2 * i + 1) (by omega)
  have ne : (rd q ((2 * i : Nat) : Int)).toNat ≠ (rd q ((2 * i + 1 : Nat) : Int)).toNat := by
    intro e
    have := hqi (2 * i) (2 * i + 1) (by omega) (by omega) (toNat_eq ra.1 rb.1 e)
    omega
  have val : ∀ x : Nat, x < n → rd ((g.set (rd q ((2 * i : Nat) : Int)).toNat (rd q ((2 * i + 1 : Nat) : Int))).set (rd q ((2 * i + 1 : Nat) : Int)).toNat (rd q ((2 * i : Nat) : Int))) (x : Int) = if (rd q ((2 * i + 1 : Nat) : Int)).toNat = x then rd q ((2 * i : Nat) : Int) else if (rd q ((2 * i : Nat) : Int)).toNat = x then rd q ((2 * i + 1 : Nat) : Int) else rd g x := by
    intro x hx
    by_cases e1 : (rd q ((2 * i + 1 : Nat) : Int)).toNat = x
    · rw [if_pos e1, ← e1, rd_set_self _ _ _ (by rw [List.length_set, h.1.1]; omega)]
    · rw [rd_set_ne _ _ _ _ e1, if_neg e1]
      by_cases e2 : (rd q ((2 * i : Nat) : Int)).toNat = x
      · rw [if_pos e2, ← e2, rd_set_self _ _ _ (by rw [h.1.1]; omega)]
      · rw [rd_set_ne _ _ _ _ e2, if_neg e2]
  refine ⟨⟨by simp [h.1.1], fun x hx => ?_⟩, fun j hj => ?_⟩
  · rw [val x hx]
    have := h.1.2 x hx
    split
    · exact ra
    · split
      · exact rb
      · exact this
  · have sa := hq.2 (2 * j) (by omega)
    have sb := hq.2 (2 * j + 1) (by omega)
    have ea : (((rd q ((2 * j : Nat) : Int)).toNat : Nat) : Int) = rd q ((2 * j : Nat) : Int) := by omega
    have eb : (((rd q ((2 * j + 1 : Nat) : Int)).toNat : Nat) : Int) = rd q ((2 * j + 1 : Nat) : Int) := by omega
    rw [← ea, ← eb, val _ (by omega), val _ (by omega), ea, eb]
    by_cases z : j = i
    · subst z
      rw [if_neg (fun e => ne e.symm), if_pos rfl, if_pos rfl]
      exact ⟨rfl, rfl⟩
    · have old := h.2 j (by omega)
      have n1 : (rd q ((2 * i + 1 : Nat) : Int)).toNat ≠ (rd q ((2 * j : Nat) : Int)).toNat := fun e => by
        have := hqi (2 * i + 1) (2 * j) (by omega) (by omega) (toNat_eq rb.1 sa.1 e)
        omega
      have n2 : (rd q ((2 * i : Nat) : Int)).toNat ≠ (rd q ((2 * j : Nat) : Int)).toNat := fun e => by
        have := hqi (2 * i) (2 * j) (by omega) (by omega) (toNat_eq ra.1 sa.1 e)
        omega
      have n3 : (rd q ((2 * i + 1 : Nat) : Int)).toNat ≠ (rd q ((2 * j + 1 : Nat) : Int)).toNat := fun e => by
        have := hqi (2 * i + 1) (2 * j + 1) (by omega) (by omega) (toNat_eq rb.1 sb.1 e)
        omega
      have n4 : (rd q ((2 * i : Nat) : Int)).toNat ≠ (rd q ((2 * j + 1 : Nat) : Int)).toNat := fun e => by
        have := hqi (2 * i) (2 * j + 1) (by omega) (by omega) (toNat_eq ra.1 sb.1 e)
        omega
      rw [if_neg n1, if_neg n2, if_neg n3, if_neg n4]
      exact old
theorem paired_flip (n m : Nat) (hm : n = 2 * m) (q g : List Int) (hq : inR n q) (hqi : injR n q) (h : paired n q g n) : ∀ d : Nat, d < n → flipAt g d := by
  intro d hd
  obtain ⟨j, hj, e⟩ := surj q n hq hqi d hd
  have rep : ∃ i, (j = 2 * i ∨ j = 2 * i + 1) ∧ 2 * i + 1 < n := by
    refine ⟨j / 2, by omega, by omega⟩
  obtain ⟨i, hj', hi⟩ := rep
  have o := h.2 i hi
  have ne : rd q ((2 * i : Nat) : Int) ≠ rd q ((2 * i + 1 : Nat) : Int) := by
    intro e
    have := hqi (2 * i) (2 * i + 1) (by omega) (by omega) e
    omega
  rcases hj' with rfl | rfl
  · rw [e] at o ne
    unfold flipAt
    rw [o.1]
    exact ⟨fun z => ne z.symm, o.2⟩
  · rw [e] at o ne
    unfold flipAt
    rw [o.2]
    exact ⟨ne, o.1⟩
def drewMap (F : Nat → Option (List Int × List Int × Int)) (p : Int) : Prop := ∃ (t f : List Int) (p' : Int), Ev F (t, f, p') ∧ t.length ≤ 12 ∧ f.length ≤ 12 ∧ 0 ≤ p' ∧ p' ≤ p + 1
theorem map_end (l : List Int) (h : bytesOk l) (n : Nat) (h1 : 1 ≤ n) (hn : n ≤ 12) (i : Int) (p : Int) (hp : 0 ≤ p) (hp' : p ≤ 500) (t f : List Int) (ht : t.length = n) (hf : f.length = n) : drewMap (fun k => spec_l91Map.j2 k n i false l p t f) p := by
  obtain ⟨v, hv, v0, v1⟩ := pick_ev l h p hp (by omega) 50 (by omega) (by omega)
  have g1 : (0 : Int) < (f.length : Int) := by omega
  have g2 : (1 : Int) ≤ (t.length : Int) := by omega
  have g3 : (0 : Int) < (t.length : Int) := by omega
  by_cases c0 : v = 0
  · refine ⟨t, f.set 0 0, p + 1, Ev.s ?_, by omega, by simp; omega, by omega, by omega⟩
    simp only [spec_l91Map.j2, Bool.false_eq_true, if_false]
    refine Ev.bind hv ?_
    simp only [c0, g1, if_true]
    exact Ev.const rfl
  · by_cases c1 : v = 1
    · refine ⟨t.drop 1, f, p + 1, Ev.s ?_, by simp; omega, by omega, by omega, by omega⟩
      simp only [spec_l91Map.j2, Bool.false_eq_true, if_false]
      refine Ev.bind hv ?_
      simp only [c0, c1, g2, show ¬ (1 : Int) = 0 by decide, if_true, if_false]
      exact Ev.const rfl
    · by_cases c2 : v = 2
      · refine ⟨t.set 0 n, f, p + 1, Ev.s ?_, by simp; omega, by omega, by omega, by omega⟩
        simp only [spec_l91Map.j2, Bool.false_eq_true, if_false]
        refine Ev.bind hv ?_
        simp only [c2, g3, show ¬ (2 : Int) = 0 by decide, show ¬ (2 : Int) = 1 by decide, if_true, if_false]
        exact Ev.const rfl
      · refine ⟨t, f, p + 1, Ev.s ?_, by omega, by omega, by omega, by omega⟩
        simp only [spec_l91Map.j2, Bool.false_eq_true, if_false]
        refine Ev.bind hv ?_
        simp only [c0, c1, c2, if_false]
        exact Ev.const rfl
theorem map_find (n : Nat) (hn : n ≤ 12) (o : List Int) (ho : o.length = n) (i : Int) (l : List Int) (p : Int) (t f : List Int) (ht : t.length = n) (z : Nat) (hz : z < n) (hz0 : rd o z ≠ 0) (hz1 : ∀ y : Nat, y < z → rd o y = 0) (r : List Int × List Int × Int)
    (h : Ev (fun k => spec_l91Map.l1 k n (wrap64 (i + 1)) l p ((t.set 0 (rd t (z : Int))).set z (rd t 0)) f) r) : ∀ (d y : Nat), z - y = d → y ≤ z → Ev (fun k => spec_l91Map.l2 k n i o y l p t f) r
  | 0, y, hd, hy => by
    have : y = z := by omega
    subst this
    refine Ev.s ?_
    simp only [spec_l91Map.l2, ho, ht, show (0 : Int) ≤ (y : Int) by omega, show (y : Int) < (n : Int) by omega, hz0, show (0 : Int) < (n : Int) by omega, if_true, if_false, Int.toNat_natCast]
    exact h
  | d + 1, y, hd, hy => by
    refine Ev.s ?_
    simp only [spec_l91Map.l2, ho, show (0 : Int) ≤ (y : Int) by omega, show (y : Int) < (n : Int) by omega, hz1 y (by omega), if_true, w64n (show y < 4611686018427387904 by omega)]
    exact map_find n hn o ho i l p t f ht z hz hz0 hz1 r h d (y + 1) (by omega) (by omega)
theorem map_loop (l : List Int) (h : bytesOk l) (n : Nat) (h1 : 1 ≤ n) (hn : n ≤ 12) (f : List Int) (hf : inR n f) (hfl : ∀ d : Nat, d < n → flipAt f d) (p : Int) (hp : 0 ≤ p) (hp' : p ≤ 500) : ∀ (d i : Nat) (t : List Int), n - i = d → i ≤ n → inR n t → injR n t → drewMap (fun k => spec_l91Map.l1 k n i l p t f) p
  | 0, i, t, hd, hi, ht, hti => by
    have : i = n := by omega
    subst this
    obtain ⟨a, b, c, e1, e2⟩ := map_end l h i h1 hn i p hp hp' t f ht.1 hf.1
    refine ⟨a, b, c, Ev.s ?_, e2⟩
    simp only [spec_l91Map.l1, show ¬ (i : Int) < (i : Int) by omega, if_false]
    exact e1
  | d + 1, i, t, hd, hi, ht, hti => by
    obtain ⟨b, b1, _, b3⟩ := mapValid_both t f (by rw [ht.1]; omega) (by rw [hf.1]; omega)
    cases b with
    | true =>
      obtain ⟨a, b', c, e1, e2⟩ := map_end l h n h1 hn i p hp hp' t f ht.1 hf.1
      refine ⟨a, b', c, Ev.s ?_, e2⟩
      simp only [spec_l91Map.l1, show (i : Int) < (n : Int) by omega, if_true]
      refine Ev.bind b1 ?_
      exact e1
    | false =>
      obtain ⟨o, o1, o2, _⟩ := orb_both t f n hn h1 ht hf
      have nz : ∃ z, z < n ∧ rd o (z : Int) ≠ 0 := by
        by_cases q : ∃ z, z < n ∧ rd o ((z : Nat) : Int) ≠ 0
        · exact q
        · exfalso
          have all0 : ∀ q : Nat, q < n → rd o q = 0 := fun z hz => by
            by_cases e : rd o (z : Int) = 0
            · exact e
            · exact absurd ⟨z, hz, e⟩ q
          have hc := (orb_zero t f n h1 ht hf o o1).1 all0
          have hm : isMap t f := isMap_of ⟨hn, h1, ht, hti, hf, hfl, hc⟩
          have := b3.2 hm
          cases this
      have least : ∃ z, z < n ∧ rd o (z : Int) ≠ 0 ∧ ∀ y : Nat, y < z → rd o y = 0 := by
        obtain ⟨z, hz, hz0⟩ := nz
        induction z using Nat.strongRecOn with
        | ind z ih =>
          by_cases q : ∃ y, y < z ∧ rd o ((y : Nat) : Int) ≠ 0
          · obtain ⟨y, y1, y2⟩ := q
            exact ih y y1 (by omega) y2
          · exact ⟨z, hz, hz0, fun y hy => by
              by_cases e : rd o (y : Int) = 0
              · exact e
              · exact absurd ⟨y, hy, e⟩ q⟩
      obtain ⟨z, hz, hz0, hz1⟩ := least
      obtain ⟨q1, q2⟩ := set_perm t n 0 z ht hti (by omega) hz
      obtain ⟨a, b', c, e1, e2⟩ := map_loop l h n h1 hn f hf hfl p hp hp' d (i + 1) _ (by omega) (by omega) q1 q2
      refine ⟨a, b', c, Ev.s ?_, e2⟩
      simp only [spec_l91Map.l1, show (i : Int) < (n : Int) by omega, if_true]
      refine Ev.bind b1 ?_
      refine Ev.s ?_
      simp only [spec_l91Map.j2, Bool.not_false, if_true]
      refine Ev.bind o2 ?_
      refine map_find n hn o o1.1.1 i l p t f ht.1 z hz hz0 hz1 _ ?_ z 0 (by omega) (by omega)
      rw [w64n (by omega)]
      exact e1
theorem map_pairs (l : List Int) (h : bytesOk l) (n m : Nat) (hm : n = 2 * m) (h1 : 1 ≤ m) (hn : n ≤ 12) (q : List Int) (hq : inR n q) (hqi : injR n q) (p : Int) (hp : 0 ≤ p) (hp' : p ≤ 400) : ∀ (d i : Nat) (g : List Int), m - i = d → i ≤ m → paired n q g (2 * i) → ∃ (t f : List Int) (p' : Int), Ev (fun k => spec_l91Map.l0 k n q g ((2 * i : Nat) : Int) l p) (t, f, p') ∧ t.length ≤ 12 ∧ f.length ≤ 12 ∧ 0 ≤ p' ∧ p' ≤ p + 13
  | 0, i, g, hd, hi, hg => by
    have : i = m := by omega
    subst this
    rw [← hm] at hg
    obtain ⟨t, t1, t2, t3⟩ := l91Perm_ev l h n (by omega) p hp (by omega)
    obtain ⟨a, b, c, e1, e2, e3, e4, e5⟩ := map_loop l h n (by omega) hn g hg.1 (paired_flip n i hm q g hq hqi hg) (p + n) (by omega) (by omega) n 0 t (by omega) (by omega) t2 t3
    refine ⟨a, b, c, Ev.s ?_, e2, e3, e4, by omega⟩
    have w : i < 1000 := by omega
    simp only [spec_l91Map.l0, w64n (show 2 * i < 4611686018427387904 by omega), show ¬ ((2 * i + 1 : Nat) : Int) < (n : Int) by omega, if_false]
    exact Ev.bind t1 e1
  | d + 1, i, g, hd, hi, hg => by
    have ra := hq.2 (2 * i) (by omega)
    have rb := hq.2 (2 * i + 1) (by omega)
    obtain ⟨a, b, c, e1, e2⟩ := map_pairs l h n m hm h1 hn q hq hqi p hp hp' d (i + 1) _ (by omega) (by omega) (pair_step n q g hq hqi i (by omega) hg)
    refine ⟨a, b, c, Ev.s ?_, e2⟩
    have w2 : wrap64 (((2 * i : Nat) : Int) + 2) = ((2 * (i + 1) : Nat) : Int) := by rw [w64 (by omega) (by omega)]; omega
    simp only [spec_l91Map.l0, w64n (show 2 * i < 4611686018427387904 by omega), show ((2 * i + 1 : Nat) : Int) < (n : Int) by omega, show (0 : Int) ≤ ((2 * i : Nat) : Int) by omega, show (0 : Int) ≤ ((2 * i + 1 : Nat) : Int) by omega, hq.1, show ((2 * i : Nat) : Int) < (n : Int) by omega, hg.1.1, ra.1, ra.2, rb.1, rb.2, if_true, w2]
    exact e1
theorem l91Map_at (l : List Int) (h : bytesOk l) (p : Int) (hp : 0 ≤ p) (hp' : p ≤ 200) (edges : Nat) (h1 : 1 ≤ edges) (h6 : edges ≤ 6) : ∃ (t f : List Int) (p' : Int), Ev (fun k => spec_l91Map.f k l p edges) (t, f, p') ∧ t.length ≤ 12 ∧ f.length ≤ 12 ∧ 0 ≤ p' ∧ p' ≤ p + 100 := by
  obtain ⟨v, hv, v0, v1⟩ := pick_ev l h p hp (by omega) (edges : Int) (by omega) (by omega)
  obtain ⟨V, rfl⟩ : ∃ V : Nat, v = (V : Int) := ⟨v.toNat, by omega⟩
  obtain ⟨q, q1, q2, q3⟩ := l91Perm_ev l h (2 * (1 + V)) (by omega) (p + 1) (by omega) (by omega)
  have rep : paired (2 * (1 + V)) q (List.replicate (2 * (1 + V)) 0) (2 * 0) := by
    refine ⟨⟨by simp, fun i hi => ?_⟩, fun j hj => by omega⟩
    rw [rd_lt _ _ (by simpa using hi)]
    simp
    omega
  obtain ⟨a, b, c, e1, e2, e3, e4, e5⟩ := map_pairs l h (2 * (1 + V)) (1 + V) rfl (by omega) (by omega) q q2 q3 (p + 1 + ((2 * (1 + V) : Nat) : Int)) (by omega) (by omega) (1 + V) 0 _ (by omega) (by omega) rep
  refine ⟨a, b, c, ?_, e2, e3, e4, by omega⟩
  unfold spec_l91Map.f
  refine Ev.bind hv ?_
  have w1 : wrap64 (1 + (V : Int)) = ((1 + V : Nat) : Int) := by rw [w64 (by omega) (by omega)]; omega
  have w2 : wrap64 (2 * ((1 + V : Nat) : Int)) = ((2 * (1 + V) : Nat) : Int) := by rw [w64 (by omega) (by omega)]; omega
  simp only [w1, w2]
  refine Ev.bind q1 ?_
  simp only [show (0 : Int) ≤ ((2 * (1 + V) : Nat) : Int) by omega, Int.toNat_natCast, show 2 * (1 + V) ≤ 35184372088832 by omega, if_true]
  exact e1
theorem l91Map_ev (l : List Int) (h : bytesOk l) (edges : Nat) (h1 : 1 ≤ edges) (h6 : edges ≤ 6) : ∃ (t f : List Int) (p' : Int), Ev (fun k => spec_l91Map.f k l 0 edges) (t, f, p') ∧ t.length ≤ 12 ∧ f.length ≤ 12 ∧ 0 ≤ p' ∧ p' ≤ 100 := by
  obtain ⟨t, f, p', h⟩ := l91Map_at l h 0 (by omega) (by omega) edges h1 h6
  exact ⟨t, f, p', by simpa using h⟩
theorem at_ev (l : List Int) (h : bytesOk l) (p : Int) (hp : 0 ≤ p) (hp' : p ≤ 500) (n : Int) (h0 : 0 ≤ n) (hn : n ≤ 100) : ∃ v q, Ev (fun k => spec_l91At.f k l p n) (v, q) := by
  have yes : ∀ p : Int, 0 ≤ p → p ≤ 600 → ∃ v q, Ev (fun k => spec_l91At.j0 k n true l p) (v, q) := by
    intro p hp hp'
    obtain ⟨v, hv, v0, v1⟩ := pick_ev l h p hp (by omega) 2 (by omega) (by omega)
    refine ⟨rd [(-1), n] v, p + 1, Ev.s ?_⟩
    simp only [spec_l91At.j0, if_true, Option.bind_some]
    refine Ev.bind hv ?_
    simp only [v0, show v < (([(-1), n] : List Int).length : Int) from v1, if_true]
    exact Ev.const rfl
  unfold spec_l91At.f
  by_cases z : n = 0
  · simp only [z, if_true]
    subst z
    exact yes p hp (by omega)
  · simp only [z, if_false]
    obtain ⟨v, hv, v0, v1⟩ := pick_ev l h p hp (by omega) 20 (by omega) (by omega)
    by_cases c : v = 0
    · obtain ⟨x, q, e⟩ := yes (p + 1) (by omega) (by omega)
      refine ⟨x, q, Ev.bind hv ?_⟩
      have : (v == 0) = true := by rw [c]; rfl
      simp only [this]
      exact e
    · obtain ⟨x, hx, x0, x1⟩ := pick_ev l h (p + 1) (by omega) (by omega) n (by omega) (by omega)
      refine ⟨x, p + 1 + 1, Ev.bind hv ?_⟩
      have : (v == 0) = false := by rw [beq_eq_false_iff_ne]; exact c
      simp only [this]
      refine Ev.s ?_
      simp only [spec_l91At.j0, Bool.false_eq_true, if_false]
      exact Ev.bind hx (Ev.const rfl)
theorem l92Edge_ev (l : List Int) (h : bytesOk l) : ∃ (t f : List Int) (e p : Int), Ev (fun k => spec_l92Edge.f k l 0) (t, f, e, p) ∧ t.length ≤ 12 ∧ f.length ≤ 12 := by
  obtain ⟨t, f, p, e1, e2, e3, e4, e5⟩ := l91Map_ev l h 5 (by omega) (by omega)
  obtain ⟨v, q, e6⟩ := at_ev l h p e4 (by omega) ((f.length : Int) / 2) (by omega) (by omega)
  refine ⟨t, f, v, q, ?_, e2, e3⟩
  unfold spec_l92Edge.f
  refine Ev.bind e1 ?_
  rw [w64 (x := (f.length : Int) / 2) (by omega) (by omega)]
  exact Ev.bind e6 (Ev.const rfl)
def nmA (a b : Nat) : Nat → Nat
  | 0 => 0
  | d + 1 => nmA a b d + if d = a ∨ d = b then 0 else 1
theorem nmA_le (a b : Nat) : ∀ d, nmA a b d ≤ d
  | 0 => Nat.le_refl _
  | d + 1 => by
    have := nmA_le a b d
    simp only [nmA]
    split <;> omega
def lvL (a b : Nat) (h : Nat → Int) : Nat → List Int
  | 0 => []
  | i + 1 => if i = a ∨ i = b then lvL a b h i else lvL a b h i ++ [h i]
theorem lvL_len (a b : Nat) (h : Nat → Int) : ∀ i, (lvL a b h i).length = nmA a b i
  | 0 => rfl
  | i + 1 => by
    have ih := lvL_len a b h i
    simp only [lvL, nmA]
    split
    · rw [ih]; rfl
    · rw [List.length_append, ih]; rfl
theorem lvL_congr (a b : Nat) (h h' : Nat → Int) : ∀ i, (∀ d, d < i → d ≠ a → d ≠ b → h d = h' d) → lvL a b h i = lvL a b h' i
  | 0, _ => rfl
  | i + 1, H => by
    have ih := lvL_congr a b h h' i fun d hd => H d (by omega)
    simp only [lvL, ih]
    split
    · rfl
    · rename_i c
      rw [H i (by omega) (fun z => c (.inl z)) (fun z => c (.inr z))]
theorem rd_rangeL (h : Nat → Int) (n d : Nat) (hd : d < n) : rd ((List.range n).map h) (d : Int) = h d := by
  rw [rd_lt _ _ (by simp; exact hd)]; simp
def nmT (a b n : Nat) : List Int := (List.range n).map fun (d : Nat) => (nmA a b d : Int)
theorem nmT_rd (a b n d : Nat) (h : d < n) : rd (nmT a b n) (d : Int) = (nmA a b d : Int) := rd_rangeL _ n d h
theorem nmT_len (a b n : Nat) : (nmT a b n).length = n := by simp [nmT]
def skp (p : List Int) (a b : Nat) (x : Int) : Int := if x = a ∨ x = b then (if rd p x = a ∨ rd p x = b then rd p (rd p x) else rd p x) else x
theorem skp_out (p : List Int) (n : Nat) (hp : inR n p) (hi : injR n p) (a b d : Nat) (ha : a < n) (hb : b < n) (hd : d < n) (hab : a ≠ b) (hda : d ≠ a) (hdb : d ≠ b) :
    (skp p a b (rd p (d : Int)) ≠ a ∧ skp p a b (rd p (d : Int)) ≠ b) ∧ 0 ≤ skp p a b (rd p (d : Int)) ∧ skp p a b (rd p (d : Int)) < n := by
  have rd0 := hp.2 d hd
  have ra := hp.2 a ha
  have rb := hp.2 b hb
  have ia : rd p (d : Int) ≠ rd p (a : Int) := fun z => hda (hi d a hd ha z)
  have ib : rd p (d : Int) ≠ rd p (b : Int) := fun z => hdb (hi d b hd hb z)
  have iab : rd p (a : Int) ≠ rd p (b : Int) := fun z => hab (hi a b ha hb z)
  unfold skp
  by_cases c : rd p (d : Int) = a ∨ rd p (d : Int) = b
  · rw [if_pos c]
    rcases c with c | c
    · rw [c]
      by_cases c2 : rd p (a : Int) = a ∨ rd p (a : Int) = b
      · rw [if_pos c2]
        rcases c2 with c2 | c2
        · exact absurd (c.trans c2.symm) ia
        · rw [c2]
          refine ⟨⟨fun z => ib (c.trans z.symm), fun z => iab (c2.trans z.symm)⟩, rb⟩
      · rw [if_neg c2]
        exact ⟨⟨fun z => c2 (.inl z), fun z => c2 (.inr z)⟩, ra⟩
    · rw [c]
      by_cases c2 : rd p (b : Int) = a ∨ rd p (b : Int) = b
      · rw [if_pos c2]
        rcases c2 with c2 | c2
        · rw [c2]
          refine ⟨⟨fun z => iab (z.trans c2.symm), fun z => ia (c.trans z.symm)⟩, ra⟩
        · exact absurd (c.trans c2.symm) ib
      · rw [if_neg c2]
        exact ⟨⟨fun z => c2 (.inl z), fun z => c2 (.inr z)⟩, rb⟩
  · rw [if_neg c]
    exact ⟨⟨fun z => c (.inl z), fun z => c (.inr z)⟩, rd0⟩
theorem skp_run (F : Nat → Int → Option Int) (p : List Int) (n : Nat) (hp : inR n p) (a b : Nat) (hstop : ∀ x : Int, x ≠ a → x ≠ b → Ev (fun k => F k x) x) (hgo : ∀ x : Int, (x = a ∨ x = b) → ∀ r, Ev (fun k => F k (rd p x)) r → Ev (fun k => F k x) r) (x : Int) (ho : skp p a b x ≠ a ∧ skp p a b x ≠ b) : Ev (fun k => F k x) (skp p a b x) := by
  unfold skp at ho ⊢
  by_cases c : x = a ∨ x = b
  · rw [if_pos c] at ho ⊢
    by_cases c2 : rd p x = a ∨ rd p x = b
    · rw [if_pos c2] at ho ⊢
      exact hgo x c _ (hgo _ c2 _ (hstop _ ho.1 ho.2))
    · rw [if_neg c2] at ho ⊢
      exact hgo x c _ (hstop _ ho.1 ho.2)
  · rw [if_neg c] at ho ⊢
    exact hstop x ho.1 ho.2
theorem past_ev (p : List Int) (n : Nat) (hp : inR n p) (hi : injR n p) (a b d : Nat) (ha : a < n) (hb : b < n) (hd : d < n) (hab : a ≠ b) (hda : d ≠ a) (hdb : d ≠ b) : Ev (fun k => spec_l7Past.f k p d a b) (skp p a b (rd p (d : Int))) := by
  have hl := hp.1
  have h := skp_run (fun k x => spec_l7Past.l0 k p x a b) p n hp a b (fun x h1 h2 => by
      refine Ev.s ?_
      simp only [spec_l7Past.l0, h1, h2, if_false]
      exact Ev.const rfl) (fun x c r hr => by
      refine Ev.s ?_
      rcases c with c | c
      · subst c
        simp only [spec_l7Past.l0, if_true, show (0 : Int) ≤ (a : Int) by omega, show (a : Int) < (p.length : Int) by omega]
        exact hr
      · subst c
        simp only [spec_l7Past.l0, if_true, show ¬ (b : Int) = (a : Int) by omega, if_false, show (0 : Int) ≤ (b : Int) by omega, show (b : Int) < (p.length : Int) by omega]
        exact hr) (rd p (d : Int)) (skp_out p n hp hi a b d ha hb hd hab hda hdb).1
  unfold spec_l7Past.f
  simp only [show (0 : Int) ≤ (d : Int) by omega, show (d : Int) < (p.length : Int) by omega, if_true]
  exact h
def pastL (p : List Int) (a b n : Nat) : List Int := (List.range n).map fun (d : Nat) => if d = a ∨ d = b then rd p (d : Int) else skp p a b (rd p (d : Int))
theorem pastL_rd (p : List Int) (a b n d : Nat) (h : d < n) : rd (pastL p a b n) (d : Int) = if d = a ∨ d = b then rd p (d : Int) else skp p a b (rd p (d : Int)) := rd_rangeL _ n d h
theorem pastL_len (p : List Int) (a b n : Nat) : (pastL p a b n).length = n := by simp [pastL]
def outT (p : List Int) (a b n : Nat) : List Int := lvL a b (fun d => (nmA a b (skp p a b (rd p (d : Int))).toNat : Int)) n
def outF (f : List Int) (a b n : Nat) : List Int := lvL a b (fun d => (nmA a b (rd f (d : Int)).toNat : Int)) n
theorem leave_names (n : Nat) (hn : n ≤ 12) (T F : List Int) (hT : T.length = n) (a b : Nat) (r : List Int × List Int) (h : Ev (fun k => spec_l7Leave.l1 k T F a b (nmT a b n) 0 [] []) r) : ∀ (d i : Nat), n - i = d → i ≤ n → Ev (fun k => spec_l7Leave.l0 k T F a b (mixL (nmT a b n) (List.replicate n 0) n i) (nmA a b i) i) r
  | 0, i, hd, hi => by
    have : i = n := by omega
    subst this
    rw [mixL_all _ _ _ (nmT_len a b i)]
    refine Ev.s ?_
    simp only [spec_l7Leave.l0, hT, show ¬ (i : Int) < (i : Int) by omega, if_false]
    exact h
  | d + 1, i, hd, hi => by
    have ih := leave_names n hn T F hT a b r h d (i + 1) (by omega) (by omega)
    have hl := mixL_len (nmT a b n) (List.replicate n 0) n i
    have hs := mixL_set (nmT a b n) (List.replicate n 0) n i (by omega)
    rw [nmT_rd a b n i (by omega)] at hs
    have hle := nmA_le a b i
    refine Ev.s ?_
    simp only [spec_l7Leave.l0, hT, hl, show (i : Int) < (n : Int) by omega, show (0 : Int) ≤ (i : Int) by omega, if_true, Option.bind_some, Int.toNat_natCast, hs, w64n (show i < 4611686018427387904 by omega)]
    simp only [nmA] at ih
    by_cases c1 : i = a
    · rw [if_pos (.inl c1), Nat.add_zero] at ih
      simp only [show (i : Int) = (a : Int) by omega, if_true]
      rw [show (a : Int) = (i : Int) by omega] at ih ⊢
      exact ih
    · by_cases c2 : i = b
      · rw [if_pos (.inr c2), Nat.add_zero] at ih
        simp only [show ¬ (i : Int) = (a : Int) by omega, show (i : Int) = (b : Int) by omega, if_true, if_false]
        simp only [show ¬ (b : Int) = (a : Int) by omega, if_false]
        rw [show (b : Int) = (i : Int) by omega] at ih ⊢
        exact ih
      · rw [if_neg (fun z => z.elim c1 c2)] at ih
        simp only [show ¬ (i : Int) = (a : Int) by omega, show ¬ (i : Int) = (b : Int) by omega, if_false, w64n (show nmA a b i < 4611686018427387904 by omega)]
        exact ih
theorem leave_run (n : Nat) (hn : n ≤ 12) (T F : List Int) (hT : T.length = n) (hF : inR n F) (a b : Nat) (hTr : ∀ d : Nat, d < n → d ≠ a → d ≠ b → 0 ≤ rd T (d : Int) ∧ rd T (d : Int) < n) : ∀ (d i : Nat), n - i = d → i ≤ n → Ev (fun k => spec_l7Leave.l1 k T F a b (nmT a b n) i (lvL a b (fun d => (nmA a b (rd T (d : Int)).toNat : Int)) i) (lvL a b (fun d => (nmA a b (rd F (d : Int)).toNat : Int)) i)) (lvL a b (fun d => (nmA a b (rd T (d : Int)).toNat : Int)) n, lvL a b (fun d => (nmA a b (rd F (d : Int)).toNat : Int)) n)
  | 0, i, hd, hi => by
    have : i = n := by omega
    subst this
    refine Ev.s ?_
    simp only [spec_l7Leave.l1, hT, show ¬ (i : Int) < (i : Int) by omega, if_false]
    exact Ev.const rfl
  | d + 1, i, hd, hi => by
    have ih := leave_run n hn T F hT hF a b hTr d (i + 1) (by omega) (by omega)
    have hle := nmA_le a b i
    have l1 := lvL_len a b (fun d => (nmA a b (rd T (d : Int)).toNat : Int)) i
    have l2 := lvL_len a b (fun d => (nmA a b (rd F (d : Int)).toNat : Int)) i
    refine Ev.s ?_
    simp only [spec_l7Leave.l1, hT, show (i : Int) < (n : Int) by omega, show (0 : Int) ≤ (i : Int) by omega, if_true, w64n (show i < 4611686018427387904 by omega)]
    simp only [lvL] at ih
    by_cases c1 : i = a
    · rw [if_pos (.inl c1), if_pos (.inl c1)] at ih
      simp only [if_pos (show (i : Int) = (a : Int) by omega)]
      exact ih
    · simp only [show ¬ (i : Int) = (a : Int) by omega, if_false]
      by_cases c2 : i = b
      · rw [if_pos (.inr c2), if_pos (.inr c2)] at ih
        simp only [if_pos (show (i : Int) = (b : Int) by omega)]
        exact ih
      · rw [if_neg (fun z => z.elim c1 c2), if_neg (fun z => z.elim c1 c2)] at ih
        simp only [show ¬ (i : Int) = (b : Int) by omega, if_false]
        have r1 := hTr i (by omega) c1 c2
        have r2 := hF.2 i (by omega)
        have hFl := hF.1
        have e1 := nmT_rd a b n (rd T (i : Int)).toNat (by omega)
        have e2 := nmT_rd a b n (rd F (i : Int)).toNat (by omega)
        rw [show (((rd T (i : Int)).toNat : Nat) : Int) = rd T (i : Int) by omega] at e1
        rw [show (((rd F (i : Int)).toNat : Nat) : Int) = rd F (i : Int) by omega] at e2
        simp only [r1.1, r1.2, r2.1, r2.2, nmT_len, hFl, show (i : Int) < (n : Int) by omega, if_true, e1, e2, show (lvL a b (fun d => (nmA a b (rd T (d : Int)).toNat : Int)) i).length < 17592186044416 by omega, show (lvL a b (fun d => (nmA a b (rd F (d : Int)).toNat : Int)) i).length < 17592186044416 by omega]
        exact ih
theorem specLeave_ev (n : Nat) (h1 : 1 ≤ n) (hn : n ≤ 12) (p f : List Int) (hp : inR n p) (hi : injR n p) (hf : inR n f) (a b : Nat) (ha : a < n) (hb : b < n) (hab : a ≠ b) : Ev (fun k => spec_l7Leave.f k (pastL p a b n) f a b) (outT p a b n, outF f a b n) := by
  have hl := pastL_len p a b n
  have hr := leave_run n hn (pastL p a b n) f hl hf a b (fun d hd h1 h2 => by
    rw [pastL_rd p a b n d hd, if_neg (fun z => z.elim h1 h2)]
    exact (skp_out p n hp hi a b d ha hb hd hab h1 h2).2) n 0 (by omega) (by omega)
  have hc : lvL a b (fun d => (nmA a b (rd (pastL p a b n) (d : Int)).toNat : Int)) n = outT p a b n := lvL_congr a b _ _ n fun d hd h1 h2 => by
    rw [pastL_rd p a b n d hd, if_neg (fun z => z.elim h1 h2)]
  rw [hc] at hr
  have h0 := leave_names n hn (pastL p a b n) f hl a b _ hr n 0 (by omega) (by omega)
  rw [mixL_zero _ _ _ (by simp)] at h0
  unfold spec_l7Leave.f
  simp only [hl, show (0 : Int) ≤ (n : Int) by omega, Int.toNat_natCast, show n ≤ 35184372088832 by omega, if_true]
  exact h0
theorem out_len (p f : List Int) (a b n : Nat) (hn : n ≤ 12) : (outT p a b n).length ≤ 12 ∧ (outF f a b n).length ≤ 12 := by
  have := nmA_le a b n
  unfold outT outF
  rw [lvL_len, lvL_len]
  omega
theorem copy_ev (l : List Int) (h : l.length ≤ 1048576) : spec_l2Copy.f l = some l := by
  unfold spec_l2Copy.f
  rw [Option.bind_some, if_pos (by simp; omega), List.nil_append]
theorem onDel_ev (t f : List Int) (n : Nat) (ht : inR n t) (hti : injR n t) (hf : inR n f) (a b : Nat) (ha : a < n) (hb : b < n) (hab : a ≠ b) (fa : rd f (a : Int) = b) (fb : rd f (b : Int) = a) (d : Nat) (hd : d < n) (hda : d ≠ a) (hdb : d ≠ b) : Ev (fun k => edel.f k a b t f (rd t (d : Int))) (skp t a b (rd t (d : Int))) := by
  have htl := ht.1
  have hfl := hf.1
  exact skp_run (fun k x => edel.l0 a b t f k x) t n ht a b (fun x h1 h2 => by
      refine Ev.s ?_
      simp only [edel.l0, h1, h2, if_false]
      exact Ev.const rfl) (fun x c r hr => by
      refine Ev.s ?_
      rcases c with c | c
      · subst c
        simp only [edel.l0, if_true, show (0 : Int) ≤ (a : Int) by omega, show (a : Int) < (t.length : Int) by omega]
        exact hr
      · subst c
        simp only [edel.l0, if_true, show ¬ (b : Int) = (a : Int) by omega, if_false, show (0 : Int) ≤ (b : Int) by omega, show (b : Int) < (t.length : Int) by omega]
        exact hr) (rd t (d : Int)) (skp_out t n ht hti a b d ha hb hd hab hda hdb).1
theorem namesDel (t f lt lf : List Int) (n : Nat) (hn : n ≤ 12) (a b ca cb : Nat) (r : List Int × List Int) (h : Ev (fun k => leftDel.l1 ca cb lt lf k a b (nmT a b n) (t.length : Int) 0 t f [] []) r) : ∀ (d i : Nat), n - i = d → i ≤ n → Ev (fun k => leftDel.l0 ca cb lt lf k a b (mixL (nmT a b n) (List.replicate n 0) n i) (nmA a b i) n i t f) r
  | 0, i, hd, hi => by
    have : i = n := by omega
    subst this
    rw [mixL_all _ _ _ (nmT_len a b i)]
    refine Ev.s ?_
    simp only [leftDel.l0, show ¬ (i : Int) < (i : Int) by omega, if_false]
    exact h
  | d + 1, i, hd, hi => by
    have ih := namesDel t f lt lf n hn a b ca cb r h d (i + 1) (by omega) (by omega)
    have hl := mixL_len (nmT a b n) (List.replicate n 0) n i
    have hs := mixL_set (nmT a b n) (List.replicate n 0) n i (by omega)
    rw [nmT_rd a b n i (by omega)] at hs
    have hle := nmA_le a b i
    refine Ev.s ?_
    simp only [leftDel.l0, hl, show (i : Int) < (n : Int) by omega, show (0 : Int) ≤ (i : Int) by omega, if_true, Option.bind_some, Int.toNat_natCast, hs, w64n (show i < 4611686018427387904 by omega)]
    simp only [nmA] at ih
    by_cases c1 : i = a
    · rw [if_pos (.inl c1), Nat.add_zero] at ih
      simp only [if_pos (show (i : Int) = (a : Int) by omega)]
      exact ih
    · simp only [if_neg (show ¬ (i : Int) = (a : Int) by omega)]
      by_cases c2 : i = b
      · rw [if_pos (.inr c2), Nat.add_zero] at ih
        simp only [if_pos (show (i : Int) = (b : Int) by omega)]
        exact ih
      · rw [if_neg (fun z => z.elim c1 c2)] at ih
        simp only [if_neg (show ¬ (i : Int) = (b : Int) by omega), w64n (show nmA a b i < 4611686018427387904 by omega)]
        exact ih
theorem leftDel_run (t f : List Int) (n : Nat) (hn : n ≤ 12) (ht : inR n t) (hti : injR n t) (hf : inR n f) (a b : Nat) (ha : a < n) (hb : b < n) (hab : a ≠ b) (fa : rd f (a : Int) = b) (fb : rd f (b : Int) = a) : ∀ (d i : Nat), n - i = d → i ≤ n → Ev (fun k => leftDel.l1 a b t f k a b (nmT a b n) n i t f (lvL a b (fun d => (nmA a b (skp t a b (rd t (d : Int))).toNat : Int)) i) (lvL a b (fun d => (nmA a b (rd f (d : Int)).toNat : Int)) i)) (outT t a b n, outF f a b n)
  | 0, i, hd, hi => by
    have : i = n := by omega
    subst this
    refine Ev.s ?_
    simp only [leftDel.l1, show ¬ (i : Int) < (i : Int) by omega, if_false]
    exact Ev.const rfl
  | d + 1, i, hd, hi => by
    have ih := leftDel_run t f n hn ht hti hf a b ha hb hab fa fb d (i + 1) (by omega) (by omega)
    have hle := nmA_le a b i
    have l1 := lvL_len a b (fun d => (nmA a b (skp t a b (rd t (d : Int))).toNat : Int)) i
    have l2 := lvL_len a b (fun d => (nmA a b (rd f (d : Int)).toNat : Int)) i
    have htl := ht.1
    have hfl := hf.1
    refine Ev.s ?_
    simp only [leftDel.l1, show (i : Int) < (n : Int) by omega, show (0 : Int) ≤ (i : Int) by omega, if_true, w64n (show i < 4611686018427387904 by omega)]
    simp only [lvL] at ih
    by_cases c1 : i = a
    · rw [if_pos (.inl c1), if_pos (.inl c1)] at ih
      simp only [if_pos (show (i : Int) = (a : Int) by omega)]
      exact ih
    · simp only [if_neg (show ¬ (i : Int) = (a : Int) by omega)]
      by_cases c2 : i = b
      · rw [if_pos (.inr c2), if_pos (.inr c2)] at ih
        simp only [if_pos (show (i : Int) = (b : Int) by omega)]
        exact ih
      · rw [if_neg (fun z => z.elim c1 c2), if_neg (fun z => z.elim c1 c2)] at ih
        simp only [if_neg (show ¬ (i : Int) = (b : Int) by omega), show (i : Int) < (t.length : Int) by omega, if_true]
        refine Ev.bind (onDel_ev t f n ht hti hf a b ha hb hab fa fb i (by omega) c1 c2) ?_
        have r1 := (skp_out t n ht hti a b i ha hb (by omega) hab c1 c2).2
        have r2 := hf.2 i (by omega)
        have e1 := nmT_rd a b n (skp t a b (rd t (i : Int))).toNat (by omega)
        have e2 := nmT_rd a b n (rd f (i : Int)).toNat (by omega)
        rw [show (((skp t a b (rd t (i : Int))).toNat : Nat) : Int) = skp t a b (rd t (i : Int)) by omega] at e1
        rw [show (((rd f (i : Int)).toNat : Nat) : Int) = rd f (i : Int) by omega] at e2
        simp only [r1.1, r1.2, r2.1, r2.2, nmT_len, show (i : Int) < (f.length : Int) by omega, if_true, e1, e2, show (lvL a b (fun d => (nmA a b (skp t a b (rd t (d : Int))).toNat : Int)) i).length < 17592186044416 by omega, show (lvL a b (fun d => (nmA a b (rd f (d : Int)).toNat : Int)) i).length < 17592186044416 by omega]
        exact ih
theorem leftDel_ev (t f : List Int) (n : Nat) (hn : n ≤ 12) (ht : inR n t) (hti : injR n t) (hf : inR n f) (a b : Nat) (ha : a < n) (hb : b < n) (hab : a ≠ b) (fa : rd f (a : Int) = b) (fb : rd f (b : Int) = a) : Ev (fun k => leftDel.f k t f a b a b t f) (outT t a b n, outF f a b n) := by
  have htl := ht.1
  have h1 := leftDel_run t f n hn ht hti hf a b ha hb hab fa fb n 0 (by omega) (by omega)
  have h0 := namesDel t f t f n hn a b a b _ (by rw [htl]; exact h1) n 0 (by omega) (by omega)
  rw [mixL_zero _ _ _ (by simp)] at h0
  unfold leftDel.f
  simp only [htl, show (0 : Int) ≤ (n : Int) by omega, Int.toNat_natCast, show n ≤ 35184372088832 by omega, if_true, Option.bind_some, List.length_replicate]
  exact h0
theorem specDel_run (t f : List Int) (n : Nat) (h1 : 1 ≤ n) (hn : n ≤ 12) (ht : inR n t) (hti : injR n t) (hf : inR n f) (a b : Nat) (ha : a < n) (hb : b < n) (hab : a ≠ b) : ∀ (d i : Nat), n - i = d → i ≤ n → Ev (fun k => spec_EdgeDelete.l0 k a b (mixL (pastL t a b n) t n i) i t f) (outT t a b n, outF f a b n, true)
  | 0, i, hd, hi => by
    have : i = n := by omega
    subst this
    rw [mixL_all _ _ _ (pastL_len _ a b i)]
    have hl := pastL_len t a b i
    refine Ev.s ?_
    simp only [spec_EdgeDelete.l0, hl, show ¬ (i : Int) < (i : Int) by omega, if_false]
    exact Ev.bind (specLeave_ev i h1 hn t f ht hti hf a b ha hb hab) (Ev.const rfl)
  | d + 1, i, hd, hi => by
    have ih := specDel_run t f n h1 hn ht hti hf a b ha hb hab d (i + 1) (by omega) (by omega)
    have hl := mixL_len (pastL t a b n) t n i
    have hs := mixL_set (pastL t a b n) t n i (by omega)
    have hrd := pastL_rd t a b n i (by omega)
    refine Ev.s ?_
    simp only [spec_EdgeDelete.l0, hl, show (i : Int) < (n : Int) by omega, if_true, w64n (show i < 4611686018427387904 by omega)]
    by_cases c1 : i = a
    · rw [if_pos (.inl c1)] at hrd
      simp only [if_pos (show (i : Int) = (a : Int) by omega)]
      rw [mixL_skip _ _ n i (by omega) hrd]
      exact ih
    · simp only [if_neg (show ¬ (i : Int) = (a : Int) by omega)]
      by_cases c2 : i = b
      · rw [if_pos (.inr c2)] at hrd
        simp only [if_pos (show (i : Int) = (b : Int) by omega)]
        rw [mixL_skip _ _ n i (by omega) hrd]
        exact ih
      · rw [if_neg (fun z => z.elim c1 c2)] at hrd
        simp only [if_neg (show ¬ (i : Int) = (b : Int) by omega)]
        refine Ev.bind (past_ev t n ht hti a b i ha hb (by omega) hab c1 c2) ?_
        simp only [show (0 : Int) ≤ (i : Int) by omega, if_true, Int.toNat_natCast]
        rw [hrd] at hs
        rw [hs]
        exact ih
theorem del_told (t f : List Int) (hm : isMap t f) (e : Nat) (he : e < (edL f t.length).length) : ∃ a b : Nat, a < t.length ∧ b < t.length ∧ a ≠ b ∧ rd (edL f t.length) (e : Int) = a ∧ rd f a = b ∧ rd f b = a ∧ (∀ d : Nat, d < t.length → (rd (geL f t.length t.length) (d : Int) = e ↔ d = a ∨ d = b)) ∧
    Ev (fun k => spec_EdgeDelete.j0 k e false t f) (outT t a b t.length, outF f a b t.length, true) ∧ Ev (fun k => impl_EdgeDelete.j0 k e false t f) (outT t a b t.length, outF f a b t.length, true) := by
  obtain ⟨hn, h1, ht, hti, hf, hfl, _, _⟩ := ribOk_of t f [] hm (fun i hi => by simp at hi) (by simp)
  have hlen := hf.1
  obtain ⟨a, b, ha, hb, hab, e1, e2, e3, e4⟩ := edge_at f t.length hf hfl e he
  obtain ⟨a2, _, l2, l3, _⟩ := edL_get f t.length e he
  have haa : a2 = a := by omega
  subst haa
  have hlt : a2 < b := by omega
  refine ⟨a2, b, ha, hb, hab, e1, e2, e3, e4, ?_, ?_⟩
  · refine Ev.s ?_
    simp only [spec_EdgeDelete.j0, Bool.false_eq_true, if_false]
    refine Ev.bind (Ev.bind (specEdges_ev t.length (by omega) t f hf) (dart_run f t.length e a2 hn ha ((e4 a2 ha).2 (.inl rfl)) (fun d hd z => by rcases (e4 d (by omega)).1 z with h | h <;> omega) _ 0 rfl (by omega))) ?_
    simp only [show (0 : Int) ≤ (a2 : Int) by omega, show (a2 : Int) < (f.length : Int) by omega, if_true, e2]
    simp only [copy_ev t (by omega), Option.bind_some]
    have := specDel_run t f t.length h1 hn ht hti hf a2 b ha hb hab t.length 0 (by omega) (by omega)
    rw [mixL_zero _ _ _ rfl] at this
    exact this
  · refine Ev.s ?_
    simp only [impl_EdgeDelete.j0, Bool.false_eq_true, if_false]
    refine Ev.bind (implEdges_ev t.length (by omega) t f hf) ?_
    simp only [show (0 : Int) ≤ (e : Int) by omega, show (e : Int) < ((edL f t.length).length : Int) by omega, e1, show (0 : Int) ≤ (a2 : Int) by omega, show (a2 : Int) < (f.length : Int) by omega, e2, if_true]
    exact Ev.bind (leftDel_ev t f t.length hn ht hti hf a2 b ha hb hab e2 e3) (Ev.const rfl)
theorem del_more (t f : List Int) (e : Int) (ht : t.length ≤ 1048576) (hf : f.length ≤ 1048576) : ∃ r : List Int × List Int × Bool, Ev (fun k => spec_EdgeDelete.f k t f e) r ∧ Ev (fun k => impl_EdgeDelete.f k t f e) r ∧ r.1.length ≤ 12 ∧ r.2.1.length ≤ 12 ∧
    (r = ([], [], false) ∨ isMap t f ∧ t.length ≠ 2 ∧ ∃ E a b : Nat, e = (E : Int) ∧ E < (edL f t.length).length ∧ (a < t.length ∧ b < t.length ∧ a ≠ b ∧ rd (edL f t.length) (E : Int) = a ∧ rd f a = b ∧ rd f b = a ∧ ∀ d : Nat, d < t.length → (rd (geL f t.length t.length) (d : Int) = E ↔ d = a ∨ d = b)) ∧ (∃ q : Int, q ≠ 1 ∧ Ev (fun k => impl_EdgeKind.f k t f e) q) ∧ r = (outT t a b t.length, outF f a b t.length, true)) := by
  obtain ⟨r, r1, r2, r3⟩ := edgeKind_more t f ht hf e
  have noS : ∀ c : Bool, c = true → Ev (fun k => spec_EdgeDelete.j0 k e c t f) ([], [], false) := fun c h => by
    refine Ev.s ?_
    simp only [spec_EdgeDelete.j0, h, if_true]
    exact Ev.const rfl
  have noI : ∀ c : Bool, c = true → Ev (fun k => impl_EdgeDelete.j0 k e c t f) ([], [], false) := fun c h => by
    refine Ev.s ?_
    simp only [impl_EdgeDelete.j0, h, if_true]
    exact Ev.const rfl
  unfold spec_EdgeDelete.f impl_EdgeDelete.f
  by_cases c0 : r = -1
  · refine ⟨([], [], false), ?_, ?_, by simp, by simp, .inl rfl⟩
    · refine Ev.bind r1 ?_
      simp only [c0, show (-1 : Int) < 0 by decide, if_true]
      exact noS true rfl
    · refine Ev.bind r2 ?_
      simp only [c0, if_true]
      exact noI true rfl
  · obtain ⟨z0, hm, he0, he1⟩ := r3.resolve_left c0
    by_cases c1 : r = 1
    · refine ⟨([], [], false), ?_, ?_, by simp, by simp, .inl rfl⟩
      · refine Ev.bind r1 ?_
        simp only [show ¬ r < 0 by omega, c1, if_true, if_false, show ¬ (1 : Int) < 0 by decide]
        exact noS true rfl
      · refine Ev.bind r2 ?_
        simp only [c0, c1, if_true, if_false, show ¬ (1 : Int) = -1 by decide]
        exact noI true rfl
    · have hlen : t.length = f.length := hm.2.2.1
      by_cases c2 : t.length = 2
      · refine ⟨([], [], false), ?_, ?_, by simp, by simp, .inl rfl⟩
        · refine Ev.bind r1 ?_
          simp only [show ¬ r < 0 by omega, c1, if_false]
          exact noS _ (by rw [c2]; rfl)
        · refine Ev.bind r2 ?_
          simp only [c0, c1, if_false]
          exact noI _ (by rw [← hlen, c2]; rfl)
      · obtain ⟨hn, h1, ht', hti, hf', hfl, _, _⟩ := ribOk_of t f [] hm (fun i hi => by simp at hi) (by simp)
        have hh := edL_half f t.length hf' hfl
        obtain ⟨E, rfl⟩ : ∃ E : Nat, e = (E : Int) := ⟨e.toNat, by omega⟩
        obtain ⟨a, b, y1, y2, y3, y4, y5, y6, y7, q1, q2⟩ := del_told t f hm E (by omega)
        obtain ⟨o1, o2⟩ := out_len t f a b t.length hn
        refine ⟨(outT t a b t.length, outF f a b t.length, true), ?_, ?_, o1, o2, .inr ⟨hm, c2, E, a, b, rfl, by omega, ⟨y1, y2, y3, y4, y5, y6, y7⟩, ⟨r, c1, r2⟩, rfl⟩⟩
        · refine Ev.bind r1 ?_
          simp only [show ¬ r < 0 by omega, c1, if_false]
          rw [show (((t.length : Int) == 2)) = false from beq_eq_false_iff_ne.2 (by omega)]
          exact q1
        · refine Ev.bind r2 ?_
          simp only [c0, c1, if_false]
          rw [show (((f.length : Int) == 2)) = false from beq_eq_false_iff_ne.2 (by omega)]
          exact q2
def swpL (t : List Int) (a b n : Nat) : List Int := (List.range n).map fun (d : Nat) => if d = a then rd t (b : Int) else if d = b then rd t (a : Int) else rd t (d : Int)
theorem swpL_rd (t : List Int) (a b n d : Nat) (h : d < n) : rd (swpL t a b n) (d : Int) = if d = a then rd t (b : Int) else if d = b then rd t (a : Int) else rd t (d : Int) := rd_rangeL _ n d h
theorem swpL_len (t : List Int) (a b n : Nat) : (swpL t a b n).length = n := by simp [swpL]
theorem swpL_inR (t : List Int) (n a b : Nat) (ht : inR n t) (ha : a < n) (hb : b < n) : inR n (swpL t a b n) := ⟨swpL_len t a b n, fun i hi => by
  rw [swpL_rd t a b n i hi]
  have h1 := ht.2 a ha
  have h2 := ht.2 b hb
  have h3 := ht.2 i hi
  split
  · exact h2
  · split
    · exact h1
    · exact h3⟩
theorem swpL_inj (t : List Int) (n a b : Nat) (hti : injR n t) (ha : a < n) (hb : b < n) (hab : a ≠ b) : injR n (swpL t a b n) := fun i j hi hj e => by
  rw [swpL_rd t a b n i hi, swpL_rd t a b n j hj] at e
  by_cases i1 : i = a
  · rw [if_pos i1] at e
    by_cases j1 : j = a
    · omega
    · rw [if_neg j1] at e
      by_cases j2 : j = b
      · rw [if_pos j2] at e
        exact absurd (hti b a hb ha e).symm hab
      · rw [if_neg j2] at e
        exact absurd (hti b j hb hj e).symm j2
  · rw [if_neg i1] at e
    by_cases i2 : i = b
    · rw [if_pos i2] at e
      by_cases j1 : j = a
      · rw [if_pos j1] at e
        exact absurd (hti a b ha hb e) hab
      · rw [if_neg j1] at e
        by_cases j2 : j = b
        · omega
        · rw [if_neg j2] at e
          exact absurd (hti a j ha hj e).symm j1
    · rw [if_neg i2] at e
      by_cases j1 : j = a
      · rw [if_pos j1] at e
        exact absurd (hti i b hi hb e) i2
      · rw [if_neg j1] at e
        by_cases j2 : j = b
        · rw [if_pos j2] at e
          exact absurd (hti i a hi ha e) i1
        · rw [if_neg j2] at e
          exact hti i j hi hj e
theorem onCon_ev (t f : List Int) (n : Nat) (ht : inR n t) (hti : injR n t) (hf : inR n f) (a b : Nat) (ha : a < n) (hb : b < n) (hab : a ≠ b) (fa : rd f (a : Int) = b) (fb : rd f (b : Int) = a) (d : Nat) (hd : d < n) (hda : d ≠ a) (hdb : d ≠ b) : Ev (fun k => econ.f k a b t f (rd t (d : Int))) (skp (swpL t a b n) a b (rd (swpL t a b n) (d : Int))) := by
  have htl := ht.1
  have hfl := hf.1
  have hpa : rd (swpL t a b n) (a : Int) = rd t (b : Int) := by rw [swpL_rd t a b n a ha, if_pos rfl]
  have hpb : rd (swpL t a b n) (b : Int) = rd t (a : Int) := by rw [swpL_rd t a b n b hb, if_neg (fun z => hab z.symm), if_pos rfl]
  have hpd : rd (swpL t a b n) (d : Int) = rd t (d : Int) := by rw [swpL_rd t a b n d hd, if_neg hda, if_neg hdb]
  rw [← hpd]
  exact skp_run (fun k x => econ.l0 a b t f k x) (swpL t a b n) n (swpL_inR t n a b ht ha hb) a b (fun x h1 h2 => by
      refine Ev.s ?_
      simp only [econ.l0, h1, h2, if_false]
      exact Ev.const rfl) (fun x c r hr => by
      refine Ev.s ?_
      rcases c with c | c
      · subst c
        rw [hpa] at hr
        simp only [econ.l0, if_true, show (0 : Int) ≤ (a : Int) by omega, show (a : Int) < (f.length : Int) by omega, fa, show (0 : Int) ≤ (b : Int) by omega, show (b : Int) < (t.length : Int) by omega]
        exact hr
      · subst c
        rw [hpb] at hr
        simp only [econ.l0, if_true, show ¬ (b : Int) = (a : Int) by omega, if_false, show (0 : Int) ≤ (b : Int) by omega, show (b : Int) < (f.length : Int) by omega, fb, show (0 : Int) ≤ (a : Int) by omega, show (a : Int) < (t.length : Int) by omega]
        exact hr) (rd (swpL t a b n) (d : Int)) (skp_out (swpL t a b n) n (swpL_inR t n a b ht ha hb) (swpL_inj t n a b hti ha hb hab) a b d ha hb hd hab hda hdb).1
theorem namesCon (t f lt lf : List Int) (n : Nat) (hn : n ≤ 12) (a b ca cb : Nat) (r : List Int × List Int) (h : Ev (fun k => leftCon.l1 ca cb lt lf k a b (nmT a b n) (t.length : Int) 0 t f [] []) r) : ∀ (d i : Nat), n - i = d → i ≤ n → Ev (fun k => leftCon.l0 ca cb lt lf k a b (mixL (nmT a b n) (List.replicate n 0) n i) (nmA a b i) n i t f) r
  | 0, i, hd, hi => by
    have : i = n := by omega
    subst this
    rw [mixL_all _ _ _ (nmT_len a b i)]
    refine Ev.s ?_
    simp only [leftCon.l0, show ¬ (i : Int) < (i : Int) by omega, if_false]
    exact h
  | d + 1, i, hd, hi => by
    have ih := namesCon t f lt lf n hn a b ca cb r h d (i + 1) (by omega) (by omega)
    have hl := mixL_len (nmT a b n) (List.replicate n 0) n i
    have hs := mixL_set (nmT a b n) (List.replicate n 0) n i (by omega)
    rw [nmT_rd a b n i (by omega)] at hs
    have hle := nmA_le a b i
    refine Ev.s ?_
    simp only [leftCon.l0, hl, show (i : Int) < (n : Int) by omega, show (0 : Int) ≤ (i : Int) by omega, if_true, Option.bind_some, Int.toNat_natCast, hs, w64n (show i < 4611686018427387904 by omega)]
    simp only [nmA] at ih
    by_cases c1 : i = a
    · rw [if_pos (.inl c1), Nat.add_zero] at ih
      simp only [if_pos (show (i : Int) = (a : Int) by omega)]
      exact ih
    · simp only [if_neg (show ¬ (i : Int) = (a : Int) by omega)]
      by_cases c2 : i = b
      · rw [if_pos (.inr c2), Nat.add_zero] at ih
        simp only [if_pos (show (i : Int) = (b : Int) by omega)]
        exact ih
      · rw [if_neg (fun z => z.elim c1 c2)] at ih
        simp only [if_neg (show ¬ (i : Int) = (b : Int) by omega), w64n (show nmA a b i < 4611686018427387904 by omega)]
        exact ih
theorem leftCon_run (t f : List Int) (n : Nat) (hn : n ≤ 12) (ht : inR n t) (hti : injR n t) (hf : inR n f) (a b : Nat) (ha : a < n) (hb : b < n) (hab : a ≠ b) (fa : rd f (a : Int) = b) (fb : rd f (b : Int) = a) : ∀ (d i : Nat), n - i = d → i ≤ n → Ev (fun k => leftCon.l1 a b t f k a b (nmT a b n) n i t f (lvL a b (fun d => (nmA a b (skp (swpL t a b n) a b (rd (swpL t a b n) (d : Int))).toNat : Int)) i) (lvL a b (fun d => (nmA a b (rd f (d : Int)).toNat : Int)) i)) (outT (swpL t a b n) a b n, outF f a b n)
  | 0, i, hd, hi => by
    have : i = n := by omega
    subst this
    refine Ev.s ?_
    simp only [leftCon.l1, show ¬ (i : Int) < (i : Int) by omega, if_false]
    exact Ev.const rfl
  | d + 1, i, hd, hi => by
    have ih := leftCon_run t f n hn ht hti hf a b ha hb hab fa fb d (i + 1) (by omega) (by omega)
    have hle := nmA_le a b i
    have l1 := lvL_len a b (fun d => (nmA a b (skp (swpL t a b n) a b (rd (swpL t a b n) (d : Int))).toNat : Int)) i
    have l2 := lvL_len a b (fun d => (nmA a b (rd f (d : Int)).toNat : Int)) i
    have htl := ht.1
    have hfl := hf.1
    refine Ev.s ?_
    simp only [leftCon.l1, show (i : Int) < (n : Int) by omega, show (0 : Int) ≤ (i : Int) by omega, if_true, w64n (show i < 4611686018427387904 by omega)]
    simp only [lvL] at ih
    by_cases c1 : i = a
    · rw [if_pos (.inl c1), if_pos (.inl c1)] at ih
      simp only [if_pos (show (i : Int) = (a : Int) by omega)]
      exact ih
    · simp only [if_neg (show ¬ (i : Int) = (a : Int) by omega)]
      by_cases c2 : i = b
      · rw [if_pos (.inr c2), if_pos (.inr c2)] at ih
        simp only [if_pos (show (i : Int) = (b : Int) by omega)]
        exact ih
      · rw [if_neg (fun z => z.elim c1 c2), if_neg (fun z => z.elim c1 c2)] at ih
        simp only [if_neg (show ¬ (i : Int) = (b : Int) by omega), show (i : Int) < (t.length : Int) by omega, if_true]
        refine Ev.bind (onCon_ev t f n ht hti hf a b ha hb hab fa fb i (by omega) c1 c2) ?_
        have r1 := (skp_out (swpL t a b n) n (swpL_inR t n a b ht ha hb) (swpL_inj t n a b hti ha hb hab) a b i ha hb (by omega) hab c1 c2).2
        have r2 := hf.2 i (by omega)
        have e1 := nmT_rd a b n (skp (swpL t a b n) a b (rd (swpL t a b n) (i : Int))).toNat (by omega)
        have e2 := nmT_rd a b n (rd f (i : Int)).toNat (by omega)
        rw [show (((skp (swpL t a b n) a b (rd (swpL t a b n) (i : Int))).toNat : Nat) : Int) = skp (swpL t a b n) a b (rd (swpL t a b n) (i : Int)) by omega] at e1
        rw [show (((rd f (i : Int)).toNat : Nat) : Int) = rd f (i : Int) by omega] at e2
        simp only [r1.1, r1.2, r2.1, r2.2, nmT_len, show (i : Int) < (f.length : Int) by omega, if_true, e1, e2, show (lvL a b (fun d => (nmA a b (skp (swpL t a b n) a b (rd (swpL t a b n) (d : Int))).toNat : Int)) i).length < 17592186044416 by omega, show (lvL a b (fun d => (nmA a b (rd f (d : Int)).toNat : Int)) i).length < 17592186044416 by omega]
        exact ih
theorem leftCon_ev (t f : List Int) (n : Nat) (hn : n ≤ 12) (ht : inR n t) (hti : injR n t) (hf : inR n f) (a b : Nat) (ha : a < n) (hb : b < n) (hab : a ≠ b) (fa : rd f (a : Int) = b) (fb : rd f (b : Int) = a) : Ev (fun k => leftCon.f k t f a b a b t f) (outT (swpL t a b n) a b n, outF f a b n) := by
  have htl := ht.1
  have h1 := leftCon_run t f n hn ht hti hf a b ha hb hab fa fb n 0 (by omega) (by omega)
  have h0 := namesCon t f t f n hn a b a b _ (by rw [htl]; exact h1) n 0 (by omega) (by omega)
  rw [mixL_zero _ _ _ (by simp)] at h0
  unfold leftCon.f
  simp only [htl, show (0 : Int) ≤ (n : Int) by omega, Int.toNat_natCast, show n ≤ 35184372088832 by omega, if_true, Option.bind_some, List.length_replicate]
  exact h0
theorem conI_told (t f : List Int) (hm : isMap t f) (e : Nat) (he : e < (edL f t.length).length) : ∃ a b : Nat, a < t.length ∧ b < t.length ∧ a ≠ b ∧ rd (edL f t.length) (e : Int) = a ∧ rd f a = b ∧ rd f b = a ∧ (∀ d : Nat, d < t.length → (rd (geL f t.length t.length) (d : Int) = e ↔ d = a ∨ d = b)) ∧
    Ev (fun k => impl_EdgeContract.j0 k e false t f) (outT (swpL t a b t.length) a b t.length, outF f a b t.length, true) := by
  obtain ⟨hn, h1, ht, hti, hf, hfl, _, _⟩ := ribOk_of t f [] hm (fun i hi => by simp at hi) (by simp)
  have hlen := hf.1
  obtain ⟨a, b, ha, hb, hab, e1, e2, e3, e4⟩ := edge_at f t.length hf hfl e he
  refine ⟨a, b, ha, hb, hab, e1, e2, e3, e4, ?_⟩
  refine Ev.s ?_
  simp only [impl_EdgeContract.j0, Bool.false_eq_true, if_false]
  refine Ev.bind (implEdges_ev t.length (by omega) t f hf) ?_
  simp only [show (0 : Int) ≤ (e : Int) by omega, show (e : Int) < ((edL f t.length).length : Int) by omega, e1, show (0 : Int) ≤ (a : Int) by omega, show (a : Int) < (f.length : Int) by omega, e2, if_true]
  exact Ev.bind (leftCon_ev t f t.length hn ht hti hf a b ha hb hab e2 e3) (Ev.const rfl)
def kept (a b d : Nat) : Prop := d ≠ a ∧ d ≠ b
theorem nm_kept (a b d : Nat) (h : kept a b d) : nmA a b (d + 1) = nmA a b d + 1 := by
  simp only [nmA]
  rw [if_neg (fun z => z.elim h.1 h.2)]
theorem nm_mono (a b : Nat) : ∀ (e d : Nat), nmA a b d ≤ nmA a b (d + e)
  | 0, d => Nat.le_refl _
  | e + 1, d => by
    have := nm_mono a b e d
    rw [show d + (e + 1) = d + e + 1 by omega]
    simp only [nmA]
    omega
theorem nm_lt (a b d e : Nat) (h : kept a b d) (hd : d < e) : nmA a b d < nmA a b e := by
  have h1 := nm_kept a b d h
  have h2 := nm_mono a b (e - (d + 1)) (d + 1)
  rw [show d + 1 + (e - (d + 1)) = e by omega] at h2
  omega
theorem nm_inj (a b d e : Nat) (h : kept a b d) (h' : kept a b e) (z : nmA a b d = nmA a b e) : d = e := by
  by_cases h1 : d < e
  · have := nm_lt a b d e h h1; omega
  · by_cases h2 : e < d
    · have := nm_lt a b e d h' h2; omega
    · omega
theorem nm_all (a b : Nat) (hab : a ≠ b) : ∀ m, nmA a b m + (if a < m then 1 else 0) + (if b < m then 1 else 0) = m
  | 0 => by simp [nmA]
  | m + 1 => by
    have ih := nm_all a b hab m
    simp only [nmA]
    by_cases c1 : m = a
    · subst c1
      rw [if_neg (Nat.lt_irrefl _)] at ih
      rw [if_pos (.inl rfl), if_pos (by omega)]
      by_cases c2 : b < m
      · rw [if_pos c2] at ih
        rw [if_pos (by omega)]
        omega
      · rw [if_neg c2] at ih
        rw [if_neg (by omega)]
        omega
    · by_cases c2 : m = b
      · subst c2
        rw [if_neg (Nat.lt_irrefl m)] at ih
        rw [if_pos (.inr rfl), if_pos (show m < m + 1 by omega)]
        by_cases c3 : a < m
        · rw [if_pos c3] at ih
          rw [if_pos (by omega)]
          omega
        · rw [if_neg c3] at ih
          rw [if_neg (by omega)]
          omega
      · rw [if_neg (fun z => z.elim c1 c2)]
        have e1 : (if a < m + 1 then 1 else 0) = (if a < m then 1 else 0) := by
          by_cases c3 : a < m
          · rw [if_pos c3, if_pos (by omega)]
          · rw [if_neg c3, if_neg (by omega)]
        have e2 : (if b < m + 1 then 1 else 0) = (if b < m then 1 else 0) := by
          by_cases c3 : b < m
          · rw [if_pos c3, if_pos (by omega)]
          · rw [if_neg c3, if_neg (by omega)]
        rw [e1, e2]
        omega
theorem nm_total (a b n : Nat) (ha : a < n) (hb : b < n) (hab : a ≠ b) : nmA a b n + 2 = n := by
  have := nm_all a b hab n
  rw [if_pos ha, if_pos hb] at this
  omega
theorem nm_surj (a b : Nat) : ∀ (i m : Nat), m < nmA a b i → ∃ d, d < i ∧ kept a b d ∧ nmA a b d = m
  | 0, m, h => by simp [nmA] at h
  | i + 1, m, h => by
    by_cases c : m < nmA a b i
    · obtain ⟨d, h1, h2, h3⟩ := nm_surj a b i m c
      exact ⟨d, by omega, h2, h3⟩
    · simp only [nmA] at h
      by_cases c2 : i = a ∨ i = b
      · rw [if_pos c2] at h; omega
      · rw [if_neg c2] at h
        exact ⟨i, by omega, ⟨fun z => c2 (.inl z), fun z => c2 (.inr z)⟩, by omega⟩
theorem nm_bound (a b n d : Nat) (ha : a < n) (hb : b < n) (hab : a ≠ b) (hd : d < n) (hk : kept a b d) : nmA a b d < n - 2 := by
  have h1 := nm_lt a b d n hk hd
  have h2 := nm_total a b n ha hb hab
  omega
theorem lvL_rd (a b : Nat) (h : Nat → Int) : ∀ (i d : Nat), d < i → kept a b d → rd (lvL a b h i) (nmA a b d : Int) = h d
  | 0, d, hd, hk => by omega
  | i + 1, d, hd, hk => by
    have hl := lvL_len a b h i
    simp only [lvL]
    by_cases c : i = a ∨ i = b
    · rw [if_pos c]
      refine lvL_rd a b h i d ?_ hk
      have : d ≠ i := fun z => c.elim (fun y => hk.1 (z.trans y)) (fun y => hk.2 (z.trans y))
      omega
    · rw [if_neg c]
      by_cases c2 : d = i
      · subst c2
        rw [rd_lt _ (nmA a b d) (by simp [hl])]
        rw [List.getElem_append_right (by omega)]
        simp [hl]
      · have h2 := nm_lt a b d i hk (by omega)
        rw [rd_app_lt _ _ _ (by omega)]
        exact lvL_rd a b h i d (by omega) hk
def TellsQ (a b n : Nat) (q : Nat → Nat) (L : List Int) : Prop := L.length = n - 2 ∧ ∀ d, d < n → kept a b d → q d < n ∧ kept a b (q d) ∧ rd L (nmA a b d : Int) = (nmA a b (q d) : Int)
theorem TellsQ.inR {a b n : Nat} {q : Nat → Nat} {L : List Int} (h : TellsQ a b n q L) (ha : a < n) (hb : b < n) (hab : a ≠ b) : inR (n - 2) L := by
  refine ⟨h.1, fun m hm => ?_⟩
  have ht := nm_total a b n ha hb hab
  obtain ⟨d, h1, h2, rfl⟩ := nm_surj a b n m (by omega)
  obtain ⟨q1, q2, q3⟩ := h.2 d h1 h2
  have := nm_bound a b n (q d) ha hb hab q1 q2
  rw [q3]
  omega
theorem TellsQ.injR {a b n : Nat} {q : Nat → Nat} {L : List Int} (h : TellsQ a b n q L) (ha : a < n) (hb : b < n) (hab : a ≠ b) (hq : ∀ d e, d < n → e < n → kept a b d → kept a b e → q d = q e → d = e) : injR (n - 2) L := by
  intro i j hi hj e
  have ht := nm_total a b n ha hb hab
  obtain ⟨d, h1, h2, rfl⟩ := nm_surj a b n i (by omega)
  obtain ⟨d', h1', h2', rfl⟩ := nm_surj a b n j (by omega)
  obtain ⟨q1, q2, q3⟩ := h.2 d h1 h2
  obtain ⟨q1', q2', q3'⟩ := h.2 d' h1' h2'
  rw [q3, q3'] at e
  have := nm_inj a b _ _ q2 q2' (by omega)
  rw [hq d d' h1 h1' h2 h2' this]
theorem tells_ext {a b n : Nat} {q q' : Nat → Nat} {L L' : List Int} (h : TellsQ a b n q L) (h' : TellsQ a b n q' L') (ha : a < n) (hb : b < n) (hab : a ≠ b) (hq : ∀ d, d < n → kept a b d → q d = q' d) : L = L' := by
  refine list_ext _ _ (by rw [h.1, h'.1]) fun i hi => ?_
  rw [h.1] at hi
  have ht := nm_total a b n ha hb hab
  obtain ⟨d, h1, h2, rfl⟩ := nm_surj a b n i (by omega)
  rw [(h.2 d h1 h2).2.2, (h'.2 d h1 h2).2.2, hq d h1 h2]
theorem cl_skip {a b n : Nat} (ha : a < n) (hb : b < n) (hab : a ≠ b) {R R' : Nat → Nat → Prop} (hr : ∀ x, R x x) (hs : ∀ x y, R x y → R y x) (ht : ∀ x y z, R x y → R y z → R x z)
    (hk : ∀ x y, x < n → y < n → kept a b x → kept a b y → (R' (nmA a b x) (nmA a b y) ↔ R x y)) (he : ∀ x, x < n → ∃ y, y < n ∧ kept a b y ∧ R x y) {V : Nat} (hV : Cl n R V) : Cl (n - 2) R' V := by
  have hl : ∀ x, x < n → ∃ y, y < n ∧ (kept a b y ∧ ∀ z, z < y → kept a b z → ¬ R z y) ∧ R x y := by
    intro x hx
    obtain ⟨y, y1, y2, y3⟩ := he x hx
    have key : ∀ y, y < n → kept a b y → ∃ z, z < n ∧ (kept a b z ∧ ∀ w, w < z → kept a b w → ¬ R w z) ∧ R y z := by
      intro y
      induction y using Nat.strongRecOn with
      | ind y ih =>
        intro hy ky
        by_cases c : ∃ w, w < y ∧ kept a b w ∧ R w y
        · obtain ⟨w, w1, w2, w3⟩ := c
          obtain ⟨z, z1, z2, z3⟩ := ih w w1 (by omega) w2
          exact ⟨z, z1, z2, ht _ _ _ (hs _ _ w3) z3⟩
        · exact ⟨y, hy, ⟨ky, fun w h1 h2 h3 => c ⟨w, h1, h2, h3⟩⟩, hr y⟩
    obtain ⟨z, z1, z2, z3⟩ := key y y1 y2
    exact ⟨z, z1, z2, ht _ _ _ y3 z3⟩
  obtain ⟨k, hkc, _⟩ := Cnt.ex (fun x => kept a b x ∧ ∀ z, z < x → kept a b z → ¬ R z x) n
  have e1 : V ≤ k := Cnt.reps R hs ht hV hkc (fun x hx _ => hl x hx) (fun x y hx px hy py h => lst_uniq R hs x y px py h)
  have e2 : k ≤ V := Cnt.reps R hs ht hkc hV (fun x hx _ => by
      obtain ⟨y, y1, y2, y3⟩ := lst_ex R hr hs ht x
      exact ⟨y, by omega, y2, hs _ _ y3⟩) (fun x y hx px hy py h => by
      by_cases c : x < y
      · exact absurd h (py.2 x c px.1)
      · by_cases c2 : y < x
        · exact absurd (hs _ _ h) (px.2 y c2 py.1)
        · omega)
  have e3 : k = V := by omega
  subst e3
  obtain ⟨L, l1, l2, l3⟩ := hkc
  have htot := nm_total a b n ha hb hab
  refine ⟨L.map (nmA a b), ?_, fun m => ?_, by rw [List.length_map]; exact l3⟩
  · refine List.Pairwise.map _ (fun x y h => h) ?_ |> fun z => z
    have : L.Pairwise (fun x y => nmA a b x ≠ nmA a b y) := by
      refine (List.nodup_iff_pairwise_ne.1 l1).imp_of_mem ?_
      intro x y hx hy hne z
      exact hne (nm_inj a b x y ((l2 x).1 hx).2.1 ((l2 y).1 hy).2.1 z)
    exact this
  · rw [List.mem_map]
    constructor
    · rintro ⟨x, hx, rfl⟩
      obtain ⟨x1, x2, x3⟩ := (l2 x).1 hx
      refine ⟨nm_bound a b n x ha hb hab x1 x2, fun i hi hR => ?_⟩
      obtain ⟨y, y1, y2, rfl⟩ := nm_surj a b n i (by have := nm_bound a b n x ha hb hab x1 x2; omega)
      have hyx : y < x := by
        by_cases c : y < x
        · exact c
        · by_cases c2 : y = x
          · subst c2; omega
          · have := nm_lt a b x y x2 (by omega); omega
      exact x3 y hyx y2 ((hk y x y1 x1 y2 x2).1 hR)
    · rintro ⟨hm, hl'⟩
      obtain ⟨x, x1, x2, rfl⟩ := nm_surj a b n m (by omega)
      refine ⟨x, (l2 x).2 ⟨x1, x2, fun z hz kz hR => ?_⟩, rfl⟩
      exact hl' (nmA a b z) (nm_lt a b z x kz hz) ((hk z x (by omega) x1 kz x2).2 hR)
def NoA (p : List Int) (a b : Nat) : Prop := rd p (a : Int) ≠ a ∧ rd p (b : Int) ≠ b ∧ ¬ (rd p (a : Int) = b ∧ rd p (b : Int) = a)
theorem skp_kept (p : List Int) (a b d : Nat) (h : kept a b d) : skp p a b (d : Int) = d := by
  unfold skp
  rw [if_neg (fun z => z.elim (fun y => h.1 (by omega)) (fun y => h.2 (by omega)))]
theorem skp_noA (p : List Int) (n : Nat) (hp : inR n p) (a b : Nat) (ha : a < n) (hb : b < n) (hN : NoA p a b) (x : Nat) (hx : x < n) : 0 ≤ skp p a b (x : Int) ∧ skp p a b (x : Int) < n ∧ kept a b (skp p a b (x : Int)).toNat := by
  obtain ⟨n1, n2, n3⟩ := hN
  have ra := hp.2 a ha
  have rb := hp.2 b hb
  by_cases c : kept a b x
  · rw [skp_kept p a b x c]
    exact ⟨by omega, by omega, by rw [Int.toNat_natCast]; exact c⟩
  · have c' : x = a ∨ x = b := by
      unfold kept at c
      omega
    unfold skp kept
    rcases c' with rfl | rfl
    · rw [if_pos (.inl rfl)]
      by_cases c2 : rd p (x : Int) = x ∨ rd p (x : Int) = b
      · rw [if_pos c2]
        have e := c2.resolve_left n1
        rw [e]
        have e3 : rd p (b : Int) ≠ x := fun z => n3 ⟨e, z⟩
        omega
      · rw [if_neg c2]
        omega
    · rw [if_pos (.inr rfl)]
      by_cases c2 : rd p (x : Int) = a ∨ rd p (x : Int) = x
      · rw [if_pos c2]
        have e := c2.resolve_right n2
        rw [e]
        have e3 : rd p (a : Int) ≠ x := fun z => n3 ⟨z, e⟩
        omega
      · rw [if_neg c2]
        omega
theorem skp_step (p : List Int) (n : Nat) (hp : inR n p) (a b : Nat) (hN : NoA p a b) (x : Nat) (hx : ¬ kept a b x) : skp p a b (rd p (x : Int)) = skp p a b (x : Int) := by
  obtain ⟨n1, n2, n3⟩ := hN
  have c' : x = a ∨ x = b := by
    unfold kept at hx
    omega
  unfold skp
  rcases c' with rfl | rfl
  · rw [if_pos (show (x : Int) = x ∨ (x : Int) = b from .inl rfl)]
    by_cases c2 : rd p (x : Int) = x ∨ rd p (x : Int) = b
    · rw [if_pos c2, if_pos c2]
      have e := c2.resolve_left n1
      rw [e]
      rw [if_neg (fun z => z.elim (fun y => n3 ⟨e, y⟩) n2)]
    · rw [if_neg c2, if_neg c2]
  · rw [if_pos (show (x : Int) = a ∨ (x : Int) = x from .inr rfl)]
    by_cases c2 : rd p (x : Int) = a ∨ rd p (x : Int) = x
    · rw [if_pos c2, if_pos c2]
      have e := c2.resolve_right n2
      rw [e]
      rw [if_neg (fun z => z.elim n1 (fun y => n3 ⟨y, e⟩))]
    · rw [if_neg c2, if_neg c2]
theorem skp_closed (p : List Int) (n : Nat) (hp : inR n p) (a b : Nat) (S : Nat → Prop) (hS : closedL [p] n S) (x : Nat) (hx : x < n) : S x ↔ S (skp p a b (x : Int)).toNat := by
  have st : ∀ y : Nat, y < n → (S y ↔ S (rd p (y : Int)).toNat) := hS p (by simp)
  unfold skp
  by_cases c : (x : Int) = a ∨ (x : Int) = b
  · rw [if_pos c]
    have rx := hp.2 x hx
    by_cases c2 : rd p (x : Int) = a ∨ rd p (x : Int) = b
    · rw [if_pos c2]
      have h1 := st x hx
      have h2 := st (rd p (x : Int)).toNat (by omega)
      rw [show (((rd p (x : Int)).toNat : Nat) : Int) = rd p (x : Int) by omega] at h2
      exact h1.trans h2
    · rw [if_neg c2]
      exact st x hx
  · rw [if_neg c, Int.toNat_natCast]
theorem reach_skip (p F L F' : List Int) (n : Nat) (hp : inR n p) (a b : Nat) (ha : a < n) (hb : b < n) (hab : a ≠ b) (hN : NoA p a b) (hL : TellsQ a b n (fun d => (skp p a b (rd p (d : Int))).toNat) L) (hF : inR n F) (hF' : TellsQ a b n (fun d => (rd F (d : Int)).toNat) F')
    (hFa : ∀ x : Nat, x < n → ¬ kept a b x → ¬ kept a b (rd F (x : Int)).toNat ∧ Reach [p] n x (rd F (x : Int)).toNat) (x y : Nat) (hx : x < n) (hy : y < n) (kx : kept a b x) (ky : kept a b y) :
    Reach [L, F'] (n - 2) (nmA a b x) (nmA a b y) ↔ Reach [p, F] n x y := by
  have htot := nm_total a b n ha hb hab
  constructor
  · intro h S hS
    have hSp : closedL [p] n S := fun q hq => hS q (by rw [List.mem_singleton.1 hq]; simp)
    have hSF : ∀ k : Nat, k < n → (S k ↔ S (rd F (k : Int)).toNat) := hS F (by simp)
    have hst : ∀ k : Nat, k < n → (S k ↔ S (rd p (k : Int)).toNat) := hS p (by simp)
    have tell : ∀ d, d < n → kept a b d → ((∃ e, e < n ∧ kept a b e ∧ nmA a b e = nmA a b d ∧ S e) ↔ S d) := fun d hd kd => ⟨fun ⟨e, e1, e2, e3, e4⟩ => by rw [← nm_inj a b e d e2 kd e3]; exact e4, fun h => ⟨d, hd, kd, rfl, h⟩⟩
    have := h (fun m => ∃ e, e < n ∧ kept a b e ∧ nmA a b e = m ∧ S e) (by
      intro q hq m hm
      obtain ⟨d, d1, d2, rfl⟩ := nm_surj a b n m (by omega)
      rcases List.mem_cons.1 hq with rfl | hq
      · obtain ⟨q1, q2, q3⟩ := hL.2 d d1 d2
        rw [q3, Int.toNat_natCast]
        have rx := hp.2 d d1
        have h2 := skp_closed p n hp a b S hSp (rd p (d : Int)).toNat (by omega)
        rw [show (((rd p (d : Int)).toNat : Nat) : Int) = rd p (d : Int) by omega] at h2
        exact ((tell d d1 d2).trans ((hst d d1).trans h2)).trans (tell _ q1 q2).symm
      · rw [List.mem_singleton.1 hq]
        obtain ⟨q1, q2, q3⟩ := hF'.2 d d1 d2
        rw [q3, Int.toNat_natCast]
        exact ((tell d d1 d2).trans (hSF d d1)).trans (tell _ q1 q2).symm)
    exact ((tell x hx kx).symm.trans this).trans (tell y hy ky)
  · intro h S' hS'
    have key : closedL [p] n (fun z => S' (nmA a b (skp p a b (z : Int)).toNat)) := by
      intro q hq z hz
      rw [List.mem_singleton.1 hq]
      have rz := hp.2 z hz
      show S' (nmA a b (skp p a b (z : Int)).toNat) ↔ S' (nmA a b (skp p a b (((rd p (z : Int)).toNat : Nat) : Int)).toNat)
      rw [show (((rd p (z : Int)).toNat : Nat) : Int) = rd p (z : Int) by omega]
      by_cases c : kept a b z
      · rw [skp_kept p a b z c, Int.toNat_natCast]
        have := hS' L (by simp) (nmA a b z) (by exact nm_bound a b n z ha hb hab hz c)
        rw [(hL.2 z hz c).2.2, Int.toNat_natCast] at this
        exact this
      · rw [skp_step p n hp a b hN z c]
    have := h (fun z => S' (nmA a b (skp p a b (z : Int)).toNat)) (by
      intro q hq z hz
      rcases List.mem_cons.1 hq with rfl | hq
      · exact key q (by simp) z hz
      · rw [List.mem_singleton.1 hq]
        by_cases c : kept a b z
        · obtain ⟨q1, q2, q3⟩ := hF'.2 z hz c
          have h3 := hS' F' (by simp) (nmA a b z) (nm_bound a b n z ha hb hab hz c)
          rw [q3, Int.toNat_natCast] at h3
          show S' (nmA a b (skp p a b (z : Int)).toNat) ↔ S' (nmA a b (skp p a b (((rd F (z : Int)).toNat : Nat) : Int)).toNat)
          rw [skp_kept p a b z c, Int.toNat_natCast, skp_kept p a b _ q2, Int.toNat_natCast]
          exact h3
        · exact (hFa z hz c).2 _ key)
    simp only [skp_kept p a b x kx, skp_kept p a b y ky, Int.toNat_natCast] at this
    exact this
theorem reach_skip1 (p L : List Int) (n : Nat) (hp : inR n p) (a b : Nat) (ha : a < n) (hb : b < n) (hab : a ≠ b) (hN : NoA p a b) (hL : TellsQ a b n (fun d => (skp p a b (rd p (d : Int))).toNat) L) (x y : Nat) (hx : x < n) (hy : y < n) (kx : kept a b x) (ky : kept a b y) :
    Reach [L] (n - 2) (nmA a b x) (nmA a b y) ↔ Reach [p] n x y := by
  have st : ∀ (q : List Int) (m : Nat) (u v : Nat), Reach [q, stl m] m u v ↔ Reach [q] m u v := by
    intro q m u v
    constructor
    · intro h S hS
      refine h S fun r hr k hk => ?_
      rcases List.mem_cons.1 hr with rfl | hr
      · exact hS r (by simp) k hk
      · rw [List.mem_singleton.1 hr, stl_rd m k hk, Int.toNat_natCast]
    · intro h S hS
      exact h S fun r hr k hk => hS r (by rw [List.mem_singleton.1 hr]; simp) k hk
  have h := reach_skip p (stl n) L (stl (n - 2)) n hp a b ha hb hab hN hL ⟨stl_length n, fun i hi => by rw [stl_rd n i hi]; omega⟩ ⟨stl_length _, fun d hd kd => by
      show (rd (stl n) (d : Int)).toNat < n ∧ kept a b (rd (stl n) (d : Int)).toNat ∧ rd (stl (n - 2)) (nmA a b d : Int) = (nmA a b (rd (stl n) (d : Int)).toNat : Int)
      rw [stl_rd n d hd, Int.toNat_natCast]
      exact ⟨hd, kd, stl_rd _ _ (nm_bound a b n d ha hb hab hd kd)⟩⟩ (fun z hz hk => by
      rw [stl_rd n z hz, Int.toNat_natCast]
      exact ⟨hk, Reach.refl _ _ _⟩) x y hx hy kx ky
  rw [st, st] at h
  exact h
theorem skp_reach (p : List Int) (n : Nat) (hp : inR n p) (a b x : Nat) (hx : x < n) : Reach [p] n x (skp p a b (x : Int)).toNat := fun S hS => skp_closed p n hp a b S hS x hx
theorem cl_left (p L : List Int) (n : Nat) (hp : inR n p) (a b : Nat) (ha : a < n) (hb : b < n) (hab : a ≠ b) (hN : NoA p a b) (hL : TellsQ a b n (fun d => (skp p a b (rd p (d : Int))).toNat) L) (V : Nat) (hV : Cl n (Reach [p] n) V) : Cl (n - 2) (Reach [L] (n - 2)) V :=
  cl_skip ha hb hab (fun x => Reach.refl _ _ x) (fun x y h => h.symm) (fun x y z h h' => h.trans h') (fun x y hx hy kx ky => reach_skip1 p L n hp a b ha hb hab hN hL x y hx hy kx ky) (fun x hx => by
    obtain ⟨s1, s2, s3⟩ := skp_noA p n hp a b ha hb hN x hx
    exact ⟨_, by omega, s3, skp_reach p n hp a b x hx⟩) hV
theorem outT_tells (p : List Int) (n : Nat) (hp : inR n p) (hi : injR n p) (a b : Nat) (ha : a < n) (hb : b < n) (hab : a ≠ b) : TellsQ a b n (fun d => (skp p a b (rd p (d : Int))).toNat) (outT p a b n) := by
  have htot := nm_total a b n ha hb hab
  refine ⟨by unfold outT; rw [lvL_len]; omega, fun d hd kd => ?_⟩
  obtain ⟨⟨s1, s2⟩, s3, s4⟩ := skp_out p n hp hi a b d ha hb hd hab kd.1 kd.2
  show (skp p a b (rd p (d : Int))).toNat < n ∧ kept a b (skp p a b (rd p (d : Int))).toNat ∧ rd (outT p a b n) (nmA a b d : Int) = (nmA a b (skp p a b (rd p (d : Int))).toNat : Int)
  refine ⟨by omega, ⟨by omega, by omega⟩, ?_⟩
  unfold outT
  rw [lvL_rd a b _ n d hd kd]
theorem outF_tells (f : List Int) (n : Nat) (hf : inR n f) (a b : Nat) (ha : a < n) (hb : b < n) (hab : a ≠ b) (hk : ∀ d : Nat, d < n → kept a b d → kept a b (rd f (d : Int)).toNat) : TellsQ a b n (fun d => (rd f (d : Int)).toNat) (outF f a b n) := by
  have htot := nm_total a b n ha hb hab
  refine ⟨by unfold outF; rw [lvL_len]; omega, fun d hd kd => ?_⟩
  have := hf.2 d hd
  show (rd f (d : Int)).toNat < n ∧ kept a b (rd f (d : Int)).toNat ∧ rd (outF f a b n) (nmA a b d : Int) = (nmA a b (rd f (d : Int)).toNat : Int)
  refine ⟨by omega, hk d hd kd, ?_⟩
  unfold outF
  rw [lvL_rd a b _ n d hd kd]
theorem skp_inj (p : List Int) (n : Nat) (hp : inR n p) (hi : injR n p) (a b : Nat) (ha : a < n) (hb : b < n) (d e : Nat) (hd : d < n) (he : e < n) (kd : kept a b d) (ke : kept a b e) (h : skp p a b (rd p (d : Int)) = skp p a b (rd p (e : Int))) : d = e := by
  have inj : ∀ x y : Int, 0 ≤ x → x < n → 0 ≤ y → y < n → rd p x = rd p y → x = y := fun x y h1 h2 h3 h4 h5 => by
    have := hi x.toNat y.toNat (by omega) (by omega) (by rw [show ((x.toNat : Nat) : Int) = x by omega, show ((y.toNat : Nat) : Int) = y by omega]; exact h5)
    omega
  have rng : ∀ x : Int, 0 ≤ x → x < n → 0 ≤ rd p x ∧ rd p x < n := fun x h1 h2 => by
    have := hp.2 x.toNat (by omega)
    rwa [show ((x.toNat : Nat) : Int) = x by omega] at this
  obtain ⟨d1, d2⟩ := rng (d : Int) (by omega) (by omega)
  obtain ⟨e1, e2⟩ := rng (e : Int) (by omega) (by omega)
  obtain ⟨d3, d4⟩ := rng _ d1 d2
  obtain ⟨e3, e4⟩ := rng _ e1 e2
  have kd1 : (d : Int) ≠ a := fun z => kd.1 (by omega)
  have kd2 : (d : Int) ≠ b := fun z => kd.2 (by omega)
  have ke1 : (e : Int) ≠ a := fun z => ke.1 (by omega)
  have ke2 : (e : Int) ≠ b := fun z => ke.2 (by omega)
  unfold skp at h
  by_cases c : rd p (d : Int) = a ∨ rd p (d : Int) = b
  · rw [if_pos c] at h
    by_cases c' : rd p (e : Int) = a ∨ rd p (e : Int) = b
    · rw [if_pos c'] at h
      by_cases c2 : rd p (rd p (d : Int)) = a ∨ rd p (rd p (d : Int)) = b
      · rw [if_pos c2] at h
        by_cases c2' : rd p (rd p (e : Int)) = a ∨ rd p (rd p (e : Int)) = b
        · rw [if_pos c2'] at h
          have := inj _ _ (by omega) (by omega) (by omega) (by omega) (inj _ _ d1 d2 e1 e2 (inj _ _ d3 d4 e3 e4 h))
          omega
        · rw [if_neg c2'] at h
          have := inj _ _ d1 d2 (by omega) (by omega) (inj _ _ d3 d4 e1 e2 h)
          rcases c with c | c
          · exact absurd (this.symm.trans c) ke1
          · exact absurd (this.symm.trans c) ke2
      · rw [if_neg c2] at h
        by_cases c2' : rd p (rd p (e : Int)) = a ∨ rd p (rd p (e : Int)) = b
        · rw [if_pos c2'] at h
          have := inj _ _ (by omega) (by omega) e1 e2 (inj _ _ d1 d2 e3 e4 h)
          rcases c' with c' | c'
          · exact absurd (this.trans c') kd1
          · exact absurd (this.trans c') kd2
        · rw [if_neg c2'] at h
          have := inj _ _ (by omega) (by omega) (by omega) (by omega) (inj _ _ d1 d2 e1 e2 h)
          omega
    · rw [if_neg c'] at h
      by_cases c2 : rd p (rd p (d : Int)) = a ∨ rd p (rd p (d : Int)) = b
      · rw [if_pos c2] at h
        have := inj _ _ d3 d4 (by omega) (by omega) h
        rcases c2 with c2 | c2
        · exact absurd (this.symm.trans c2) ke1
        · exact absurd (this.symm.trans c2) ke2
      · rw [if_neg c2] at h
        have := inj _ _ d1 d2 (by omega) (by omega) h
        rcases c with c | c
        · exact absurd (this.symm.trans c) ke1
        · exact absurd (this.symm.trans c) ke2
  · rw [if_neg c] at h
    by_cases c' : rd p (e : Int) = a ∨ rd p (e : Int) = b
    · rw [if_pos c'] at h
      by_cases c2' : rd p (rd p (e : Int)) = a ∨ rd p (rd p (e : Int)) = b
      · rw [if_pos c2'] at h
        have := inj _ _ (by omega) (by omega) e3 e4 h
        rcases c2' with c2' | c2'
        · exact absurd (this.trans c2') kd1
        · exact absurd (this.trans c2') kd2
      · rw [if_neg c2'] at h
        have := inj _ _ (by omega) (by omega) e1 e2 h
        rcases c' with c' | c'
        · exact absurd (this.trans c') kd1
        · exact absurd (this.trans c') kd2
    · rw [if_neg c'] at h
      have := inj _ _ (by omega) (by omega) (by omega) (by omega) h
      omega
theorem mulF_run (t f : List Int) (n : Nat) (hn : n ≤ 12) (ht : inR n t) (hf : inR n f) : ∀ (d i : Nat), n - i = d → i ≤ n → Ev (fun k => impl_mul.l0 k t (mixL (faces t f n) (List.replicate n 0) n i) f n i) (faces t f n)
  | 0, i, hd, hi => by
    have : i = n := by omega
    subst this
    refine Ev.s ?_
    simp only [impl_mul.l0, show ¬ (i : Int) < (i : Int) by omega, if_false]
    rw [mixL_all _ _ _ (faces_len t f i)]
    exact Ev.const rfl
  | d + 1, i, hd, hi => by
    have ih := mulF_run t f n hn ht hf d (i + 1) (by omega) (by omega)
    have fr := hf.2 i (by omega)
    have fe := faces_rd t f n i (by omega)
    refine Ev.s ?_
    simp only [impl_mul.l0, hf.1, ht.1, mixL_len, show (i : Int) < (n : Int) by omega, show (0 : Int) ≤ (i : Int) by omega, fr.1, fr.2, if_true, w64n (show i < 4611686018427387904 by omega), Int.toNat_natCast]
    rw [← fe, mixL_set _ _ _ _ (by omega)]
    exact ih
theorem mulF_ev (t f : List Int) (n : Nat) (hn : n ≤ 12) (ht : inR n t) (hf : inR n f) : Ev (fun k => impl_mul.f k f t) (faces t f n) := by
  unfold impl_mul.f
  rw [hf.1]
  simp only [show (0 : Int) ≤ (n : Int) by omega, Int.toNat_natCast, show n ≤ 35184372088832 by omega, if_true]
  have := mulF_run t f n hn ht hf n 0 (by omega) (by omega)
  rw [mixL_zero _ _ _ (by simp)] at this
  exact this
def threeN (V E F : Nat) : List Int := [(V : Int), (E : Int), (F : Int)]
theorem mapCounts_ev (t f : List Int) (hm : isMap t f) (ht : t.length ≤ 1048576) (hf : f.length ≤ 1048576) : ∃ F : Nat, Cl t.length (Reach [faces t f t.length] t.length) F ∧ Ev (fun k => impl_MapCounts.f k t f) (threeN (cyS t t.length t.length).2.length (edL f t.length).length F, true) := by
  obtain ⟨hn, h1, ht', hti, hf', hfl, hcon⟩ := mapOk_of t f hm
  obtain ⟨b, _, b2, b3⟩ := mapValid_both t f ht hf
  have hb : b = true := b3.2 hm
  subst hb
  have hF := faces_inR t f t.length ht' hf'
  refine ⟨(cyS (faces t f t.length) t.length t.length).2.length, cyS_cl _ _ hF (faces_inj t f t.length ht' hti hf' hfl), ?_⟩
  have hh := edL_half f t.length hf' hfl
  have hlen := hf'.1
  unfold impl_MapCounts.f
  refine Ev.bind b2 ?_
  simp only [if_true]
  refine Ev.bind (implCyc_ev t t.length (by omega) ht') ?_
  refine Ev.bind (mulF_ev t f t.length hn ht' hf') ?_
  refine Ev.bind (implCyc_ev _ t.length (by omega) hF) (Ev.const ?_)
  unfold threeN
  rw [w64 (by omega) (by omega), show (f.length : Int) / 2 = (((edL f t.length).length : Nat) : Int) by omega]
theorem map_small (t f : List Int) (hm : isMap t f) : t.length ≤ 12 ∧ f.length ≤ 12 ∧ (edL f t.length).length ≤ 12 := by
  obtain ⟨hn, h1, ht', hti, hf', hfl, hcon⟩ := mapOk_of t f hm
  have := edL_le f t.length
  have := hf'.1
  omega
theorem cyS_reps (p : List Int) (n : Nat) (hp : inR n p) (hi : injR n p) : ∀ i, i ≤ n → ∃ reps : List Nat, reps.length = (cyS p n i).2.length ∧ reps.Nodup ∧ (∀ j, j ∈ reps ↔ j < i ∧ lst (Reach [p] n) j) ∧ ∀ (q : Nat) (h : q < reps.length) (x : Nat), x < n → ((x : Int) ∈ rd_L1 (cyS p n i).2 q ↔ Reach [p] n reps[q] x)
  | 0, _ => ⟨[], by simp [cyS], List.nodup_nil, by simp, fun q h => by simp at h⟩
  | i + 1, hi' => by
    obtain ⟨reps, r1, r2, r3, r4⟩ := cyS_reps p n hp hi i (by omega)
    have seen := cyS_seen p n hp hi i (by omega) i (by omega)
    have l1 := cyS_len p n i
    simp only [cyS]
    by_cases e : (cyS p n i).1.getD i false = true
    · rw [cw_seen p (n + 1) _ _ _ (by rw [rdOf_nat _ _ (by omega), Int.toNat_natCast]; exact e)]
      rw [if_pos rfl]
      obtain ⟨j, hj, h⟩ := seen.1 e
      refine ⟨reps, r1, r2, fun q => ?_, r4⟩
      rw [r3]
      constructor
      · rintro ⟨a, b⟩; exact ⟨by omega, b⟩
      · rintro ⟨a, b⟩
        by_cases z : q = i
        · subst z; exact absurd h (b j hj)
        · exact ⟨by omega, b⟩
    · have e' : ¬ rdOf false (cyS p n i).1 (i : Int) = true := by rw [rdOf_nat _ _ (by omega), Int.toNat_natCast]; exact e
      have hl : lst (Reach [p] n) i := fun j hj h => e (seen.2 ⟨j, hj, h⟩)
      obtain ⟨w1, w2, w3, w4, w5, w6⟩ := cw_ends p n hp i (by omega) (fun x => x < n ∧ (cyS p n i).1.getD x false = true) (n + 1) (cyS p n i).1 [] i l1 (by omega) (by have := fresh_le (cyS p n i).1; omega)
        (fun y hy hsy => .inl (by
          have pr := hp.2 y hy
          obtain ⟨j, hj, h⟩ := (cyS_seen p n hp hi i (by omega) y hy).1 hsy
          exact (cyS_seen p n hp hi i (by omega) _ (by omega)).2 ⟨j, hj, h.trans (Reach.step (by simp) hy)⟩))
        (Reach.refl _ _ _) (fun y hy hsy => .inl ⟨hy, hsy⟩) (fun y hy => hy.2) (.inr rfl) (by simp) (fun z => absurd rfl z) (fun y hy hsy => .inl ⟨hy, hsy⟩)
      have hc := closed_of_fwd p n hp hi (fun y => (cw p (n + 1) (cyS p n i).1 [] i).1.getD y false = true) w1
      rw [if_neg (cw_new p n _ i e')]
      refine ⟨reps ++ [i], by rw [List.length_append, List.length_append, r1]; rfl, List.nodup_append.2 ⟨r2, by simp, fun a ha b hb z => ?_⟩, fun q => ?_, fun q hq x hx => ?_⟩
      · have := ((r3 a).1 ha).1
        rw [List.mem_singleton] at hb
        omega
      · rw [List.mem_append, List.mem_singleton, r3]
        constructor
        · rintro (⟨a, b⟩ | rfl)
          · exact ⟨by omega, b⟩
          · exact ⟨by omega, hl⟩
        · rintro ⟨a, b⟩
          by_cases z : q = i
          · exact .inr z
          · exact .inl ⟨by omega, b⟩
      · by_cases hq' : q < reps.length
        · rw [rdL_nth _ q (by simp; omega), List.getElem_append_left (by omega), List.getElem_append_left hq', ← rdL_nth _ q (by omega)]
          exact r4 q hq' x hx
        · have hq2 : q = reps.length := by simp at hq; omega
          subst hq2
          rw [rdL_nth _ _ (by simp; omega), List.getElem_append_right (by omega), List.getElem_append_right (Nat.le_refl _)]
          simp only [r1, Nat.sub_self, List.getElem_cons_zero]
          constructor
          · intro hm
            have := (w5 x hm).2.2
            rwa [Int.toNat_natCast] at this
          · intro h
            have z := (h _ hc).1 w4
            rcases w6 x hx z with ⟨_, z⟩ | z
            · obtain ⟨j, hj, hr⟩ := (cyS_seen p n hp hi i (by omega) x hx).1 z
              exact absurd (hr.trans h.symm) (hl j hj)
            · exact z
theorem fold_rd (v : Int) (n : Nat) : ∀ (l o : List Int), o.length = n → (∀ x ∈ l, 0 ≤ x ∧ x < n) → ∀ x : Nat, x < n → rd (l.foldl (fun o d => o.set d.toNat v) o) (x : Int) = if (x : Int) ∈ l then v else rd o (x : Int)
  | [], o, ho, hl, x, hx => by simp
  | y :: l, o, ho, hl, x, hx => by
    have hy := hl y (by simp)
    rw [List.foldl_cons, fold_rd v n l _ (by simpa using ho) (fun z hz => hl z (by simp [hz])) x hx]
    by_cases e : (x : Int) ∈ l
    · rw [if_pos e, if_pos (by simp [e])]
    · rw [if_neg e]
      by_cases e2 : y.toNat = x
      · subst e2
        rw [rd_set_self _ _ _ (by omega), if_pos]
        rw [show ((y.toNat : Nat) : Int) = y by omega]
        simp
      · rw [rd_set_ne _ _ _ _ e2, if_neg]
        rw [List.mem_cons]
        rintro (z | z)
        · omega
        · exact e z
theorem vt_rd (C : List (List Int)) (n : Nat) (hC : ∀ l ∈ C, (∀ x ∈ l, 0 ≤ x ∧ x < n) ∧ l.length ≤ n + 1) (x : Nat) (hx : x < n) (q : Nat) (hxq : (x : Int) ∈ rd_L1 C q) (hu : ∀ q', q' < C.length → (x : Int) ∈ rd_L1 C q' → q' = q) : ∀ Q, Q ≤ C.length → q < Q → rd (vt C n Q) (x : Int) = q
  | Q + 1, hQ, h => by
    simp only [vt]
    rw [fold_rd _ n _ _ (vt_len C n Q) (rdL_ok C _ hC Q (by omega)).1 x hx]
    by_cases e : (x : Int) ∈ rd_L1 C Q
    · rw [if_pos e, hu Q (by omega) e]
    · rw [if_neg e]
      have : q ≠ Q := by rintro rfl; exact e hxq
      exact vt_rd C n hC x hx q hxq hu Q (by omega) (by omega)
theorem nodup_at (l : List Nat) (h : l.Nodup) (i j : Nat) (hi : i < l.length) (hj : j < l.length) (e : l[i] = l[j]) : i = j := by
  rw [List.Nodup, List.pairwise_iff_getElem] at h
  by_cases a : i < j
  · exact absurd e (h i j hi hj a)
  · by_cases b : j < i
    · exact absurd e.symm (h j i hj hi b)
    · omega
theorem vtx_same (t : List Int) (n : Nat) (ht : inR n t) (hti : injR n t) (x y : Nat) (hx : x < n) (hy : y < n) : rd (vtx t n) (x : Int) = rd (vtx t n) (y : Int) ↔ Reach [t] n x y := by
  obtain ⟨reps, r1, r2, r3, r4⟩ := cyS_reps t n ht hti n (Nat.le_refl _)
  have at_ : ∀ x, x < n → ∃ (q : Nat) (h : q < reps.length), Reach [t] n reps[q] x ∧ rd (vtx t n) (x : Int) = q := by
    intro x hx
    obtain ⟨j, j1, j2, j3⟩ := lst_ex (Reach [t] n) (fun x => Reach.refl _ _ x) (fun _ _ h => h.symm) (fun _ _ _ h h' => h.trans h') x
    obtain ⟨q, hq, e⟩ := List.getElem_of_mem ((r3 j).2 ⟨by omega, j2⟩)
    refine ⟨q, hq, by rw [e]; exact j3, ?_⟩
    refine vt_rd _ n (cyS_ok t n ht n (Nat.le_refl _)) x hx q ((r4 q hq x hx).2 (by rw [e]; exact j3)) (fun q' hq' hm => ?_) _ (Nat.le_refl _) (by omega)
    have hq2 : q' < reps.length := by omega
    have hr := (r4 q' hq2 x hx).1 hm
    have ll := ((r3 reps[q']).1 (List.getElem_mem hq2)).2
    have := lst_uniq _ (fun _ _ h => h.symm) _ _ ll j2 (hr.trans j3.symm)
    rw [← e] at this
    exact nodup_at reps r2 _ _ hq2 hq this
  obtain ⟨q, hq, a1, a2⟩ := at_ x hx
  obtain ⟨q', hq', b1, b2⟩ := at_ y hy
  rw [a2, b2]
  constructor
  · intro e
    have : q = q' := by omega
    subst this
    exact a1.symm.trans b1
  · intro h
    have l1 := ((r3 reps[q]).1 (List.getElem_mem hq)).2
    have l2 := ((r3 reps[q']).1 (List.getElem_mem hq')).2
    have := lst_uniq _ (fun _ _ h => h.symm) _ _ l1 l2 ((a1.trans h).trans b1.symm)
    rw [nodup_at reps r2 _ _ hq hq' this]
def EdgeAt (f : List Int) (n e a b : Nat) : Prop := a < n ∧ b < n ∧ a ≠ b ∧ rd (edL f n) (e : Int) = a ∧ rd f a = b ∧ rd f b = a ∧ ∀ d : Nat, d < n → (rd (geL f n n) (d : Int) = e ↔ d = a ∨ d = b)
theorem kindI_ev (t f : List Int) (hm : isMap t f) (e a b : Nat) (he : e < (edL f t.length).length) (hab : EdgeAt f t.length e a b) : ∃ P : Nat, Cl t.length (Reach [t, flC f t.length (restL [(e : Int)] (edL f t.length).length)] t.length) P ∧ (P = 1 ∨ P = 2) ∧
    (Reach [t] t.length a b → Ev (fun k => impl_EdgeKind.f k t f e) 2) ∧ (¬ Reach [t] t.length a b → Ev (fun k => impl_EdgeKind.f k t f e) ((P : Int) - 1)) := by
  obtain ⟨ha, hb, hne, e1, e2, e3, e4⟩ := hab
  have H := mapOk_of t f hm
  obtain ⟨hn, h1, ht', hti, hf', hfl, hcon⟩ := id H
  obtain ⟨sm1, sm2, sm3⟩ := map_small t f hm
  have ht : t.length ≤ 1048576 := by omega
  have hf : f.length ≤ 1048576 := by omega
  obtain ⟨b0, b1, b2, b3⟩ := mapValid_both t f ht hf
  have hb0 : b0 = true := b3.2 hm
  subst hb0
  have hh := edL_half f t.length hf' hfl
  have hlen := hf'.1
  have wf : wrap64 ((f.length : Int) / 2) = (f.length : Int) / 2 := w64 (by omega) (by omega)
  have hch : isChoice [(e : Int)] ((f.length : Int) / 2) := choice_of _ _ (by simp; omega) (by simp)
  obtain ⟨r, rb, r1, r2, r3, r4, r5⟩ := choiceRest_both t f [(e : Int)] ht hf (by simp)
  have hrb : rb = true := r5 ⟨hm, hch⟩
  subst hrb
  have hr := (r4 rfl).1
  have hHalf : f.length / 2 = (edL f t.length).length := by omega
  rw [hHalf] at hr
  subst hr
  have hR := H.rib (restL_choice [(e : Int)] (edL f t.length).length) r3
  obtain ⟨o, o1, o2, o4⟩ := ribbon_parts t f _ t.length hR
  have h12 := one_or_two t f t.length h1 ht' hf' hfl hcon e he o o1
  have vl' : (vtx t t.length).length = t.length := vt_len _ _ _
  have vs := vtx_same t t.length ht' hti a b ha hb
  refine ⟨pc o t.length, parts_cl t f _ t.length h1 ht' hf' o o1, h12, fun hv => ?_, fun hv => ?_⟩
  · have hv' := vs.2 hv
    unfold impl_EdgeKind.f
    refine Ev.bind b2 ?_
    simp only [if_true, show ¬ (e : Int) < 0 by omega, if_false, wf, show ¬ (e : Int) ≥ (f.length : Int) / 2 by omega, decide_false]
    refine Ev.s ?_
    simp only [impl_EdgeKind.j0, Bool.false_eq_true, if_false]
    refine Ev.bind (implEdges_ev t.length (by omega) t f hf') ?_
    simp only [show (0 : Int) ≤ (e : Int) by omega, show (e : Int) < ((edL f t.length).length : Int) by omega, if_true]
    refine Ev.bind (implVert_ev t f t.length hn ht') ?_
    simp only [e1, show (0 : Int) ≤ (a : Int) by omega, vl', show (a : Int) < (t.length : Int) by omega, hlen, e2, show (0 : Int) ≤ (b : Int) by omega, show (b : Int) < (t.length : Int) by omega, hv', if_true]
    exact Ev.const rfl
  · have hv' : ¬ rd (vtx t t.length) (a : Int) = rd (vtx t t.length) (b : Int) := fun z => hv (vs.1 z)
    unfold impl_EdgeKind.f
    refine Ev.bind b2 ?_
    simp only [if_true, show ¬ (e : Int) < 0 by omega, if_false, wf, show ¬ (e : Int) ≥ (f.length : Int) / 2 by omega, decide_false]
    refine Ev.s ?_
    simp only [impl_EdgeKind.j0, Bool.false_eq_true, if_false]
    refine Ev.bind (implEdges_ev t.length (by omega) t f hf') ?_
    simp only [show (0 : Int) ≤ (e : Int) by omega, show (e : Int) < ((edL f t.length).length : Int) by omega, if_true]
    refine Ev.bind (implVert_ev t f t.length hn ht') ?_
    simp only [e1, show (0 : Int) ≤ (a : Int) by omega, vl', show (a : Int) < (t.length : Int) by omega, hlen, e2, show (0 : Int) ≤ (b : Int) by omega, show (b : Int) < (t.length : Int) by omega, hv', if_true, if_false]
    refine Ev.bind r2 ?_
    refine Ev.bind o4 ?_
    have e0 : ∀ P S V c : Int, rd (fiveN P S V c) 0 = P := fun _ _ _ _ => rfl
    simp only [five_len, show (0 : Int) < ((5 : Nat) : Int) by omega, if_true, e0]
    rcases h12 with h | h
    · rw [h]
      exact Ev.const rfl
    · rw [h]
      exact Ev.const rfl
def swp (t : List Int) (a b n : Nat) : List Int := (List.range n).map fun (d : Nat) => if d = a then rd t (b : Int) else if d = b then rd t (a : Int) else rd t (d : Int)
theorem swp_rd (t : List Int) (a b n d : Nat) (h : d < n) : rd (swp t a b n) (d : Int) = if d = a then rd t (b : Int) else if d = b then rd t (a : Int) else rd t (d : Int) := rd_rangeL _ n d h
theorem swp_a (t : List Int) (a b n : Nat) (h : a < n) : rd (swp t a b n) (a : Int) = rd t (b : Int) := by rw [swp_rd t a b n a h, if_pos rfl]
theorem swp_b (t : List Int) (a b n : Nat) (h : b < n) (hab : a ≠ b) : rd (swp t a b n) (b : Int) = rd t (a : Int) := by rw [swp_rd t a b n b h, if_neg (fun z => hab z.symm), if_pos rfl]
theorem swp_kept (t : List Int) (a b n d : Nat) (h : d < n) (k : kept a b d) : rd (swp t a b n) (d : Int) = rd t (d : Int) := by rw [swp_rd t a b n d h, if_neg k.1, if_neg k.2]
theorem swp_inR (t : List Int) (n a b : Nat) (ht : inR n t) (ha : a < n) (hb : b < n) : inR n (swp t a b n) := ⟨by simp [swp], fun i hi => by
  rw [swp_rd t a b n i hi]
  have h1 := ht.2 a ha
  have h2 := ht.2 b hb
  have h3 := ht.2 i hi
  split
  · exact h2
  · split
    · exact h1
    · exact h3⟩
theorem swp_inj (t : List Int) (n a b : Nat) (hti : injR n t) (ha : a < n) (hb : b < n) (hab : a ≠ b) : injR n (swp t a b n) := fun i j hi hj e => by
  rw [swp_rd t a b n i hi, swp_rd t a b n j hj] at e
  by_cases i1 : i = a
  · rw [if_pos i1] at e
    by_cases j1 : j = a
    · omega
    · rw [if_neg j1] at e
      by_cases j2 : j = b
      · rw [if_pos j2] at e
        exact absurd (hti b a hb ha e).symm hab
      · rw [if_neg j2] at e
        exact absurd (hti b j hb hj e).symm j2
  · rw [if_neg i1] at e
    by_cases i2 : i = b
    · rw [if_pos i2] at e
      by_cases j1 : j = a
      · rw [if_pos j1] at e
        exact absurd (hti a b ha hb e) hab
      · rw [if_neg j1] at e
        by_cases j2 : j = b
        · omega
        · rw [if_neg j2] at e
          exact absurd (hti a j ha hj e).symm j1
    · rw [if_neg i2] at e
      by_cases j1 : j = a
      · rw [if_pos j1] at e
        exact absurd (hti i b hi hb e) i2
      · rw [if_neg j1] at e
        by_cases j2 : j = b
        · rw [if_pos j2] at e
          exact absurd (hti i a hi ha e) i1
        · rw [if_neg j2] at e
          exact hti i j hi hj e
theorem cl_one {n : Nat} {R : Nat → Nat → Prop} (hr : ∀ x, R x x) (hs : ∀ x y, R x y → R y x) (ht : ∀ x y z, R x y → R y z → R x z) (h : Cl n R 1) (x y : Nat) (hx : x < n) (hy : y < n) : R x y := by
  obtain ⟨L, l1, l2, l3⟩ := h
  obtain ⟨p, p1, p2, p3⟩ := lst_ex R hr hs ht x
  obtain ⟨q, q1, q2, q3⟩ := lst_ex R hr hs ht y
  have hp := (l2 p).2 ⟨by omega, p2⟩
  have hq := (l2 q).2 ⟨by omega, q2⟩
  obtain ⟨z, hz⟩ := List.length_eq_one_iff.1 l3
  rw [hz, List.mem_singleton] at hp hq
  rw [hp] at p3
  rw [hq] at q3
  exact ht _ _ _ (hs _ _ p3) q3
theorem edge_kept (f : List Int) (n a b : Nat) (hf : inR n f) (hfl : ∀ i : Nat, i < n → flipAt f i) (fa : rd f (a : Int) = b) (fb : rd f (b : Int) = a) (d : Nat) (hd : d < n) (k : kept a b d) : kept a b (rd f (d : Int)).toNat := by
  have h1 := hf.2 d hd
  have h2 := (hfl d hd).2
  constructor
  · intro z
    have : rd f (d : Int) = a := by omega
    rw [this, fa] at h2
    exact k.2 (by omega)
  · intro z
    have : rd f (d : Int) = b := by omega
    rw [this, fb] at h2
    exact k.1 (by omega)
theorem skp_congr (p p' : List Int) (a b : Nat) (x : Int) (h1 : rd p (a : Int) = rd p' (a : Int)) (h2 : rd p (b : Int) = rd p' (b : Int)) : skp p a b x = skp p' a b x := by
  unfold skp
  by_cases c : x = a ∨ x = b
  · rw [if_pos c, if_pos c]
    have e : rd p x = rd p' x := by rcases c with c | c <;> rw [c] <;> assumption
    rw [e]
    by_cases c2 : rd p' x = a ∨ rd p' x = b
    · rw [if_pos c2, if_pos c2]
      rcases c2 with c2 | c2 <;> rw [c2] <;> assumption
    · rw [if_neg c2, if_neg c2]
  · rw [if_neg c, if_neg c]
theorem outF_ok (f : List Int) (n a b : Nat) (hf : inR n f) (hfl : ∀ i : Nat, i < n → flipAt f i) (ha : a < n) (hb : b < n) (hab : a ≠ b) (fa : rd f (a : Int) = b) (fb : rd f (b : Int) = a) :
    TellsQ a b n (fun d => (rd f (d : Int)).toNat) (outF f a b n) ∧ inR (n - 2) (outF f a b n) ∧ ∀ i : Nat, i < n - 2 → flipAt (outF f a b n) i := by
  have ht := nm_total a b n ha hb hab
  have hk := edge_kept f n a b hf hfl fa fb
  have hT := outF_tells f n hf a b ha hb hab hk
  refine ⟨hT, hT.inR ha hb hab, fun i hi => ?_⟩
  obtain ⟨d, d1, d2, rfl⟩ := nm_surj a b n i (by omega)
  obtain ⟨q1, q2, q3⟩ := hT.2 d d1 d2
  have q1 : (rd f (d : Int)).toNat < n := q1
  have q3 : rd (outF f a b n) (nmA a b d : Int) = (nmA a b (rd f (d : Int)).toNat : Int) := q3
  have fr := hf.2 d d1
  obtain ⟨f1, f2⟩ := hfl d d1
  obtain ⟨r1, r2, r3⟩ := hT.2 _ q1 q2
  have r3 : rd (outF f a b n) (nmA a b (rd f (d : Int)).toNat : Int) = (nmA a b (rd f (((rd f (d : Int)).toNat : Nat) : Int)).toNat : Int) := r3
  rw [show (((rd f (d : Int)).toNat : Nat) : Int) = rd f (d : Int) by omega, f2, Int.toNat_natCast] at r3
  refine ⟨fun z => ?_, ?_⟩
  · rw [q3] at z
    have z' : nmA a b (rd f (d : Int)).toNat = nmA a b d := by omega
    have : (rd f (d : Int)).toNat = d := nm_inj a b _ _ q2 d2 z'
    omega
  · rw [q3, r3]
theorem cut_map (p f : List Int) (n : Nat) (hn : n ≤ 12) (hp : inR n p) (hi : injR n p) (hf : inR n f) (hfl : ∀ i : Nat, i < n → flipAt f i) (a b : Nat) (ha : a < n) (hb : b < n) (hab : a ≠ b) (fa : rd f (a : Int) = b) (fb : rd f (b : Int) = a) (hN : NoA p a b) (h3 : 3 ≤ n)
    (F : List Int) (hF : inR n F) (hFk : ∀ d : Nat, d < n → kept a b d → rd F (d : Int) = rd f (d : Int)) (hFa : ∀ x : Nat, x < n → ¬ kept a b x → ¬ kept a b (rd F (x : Int)).toNat ∧ Reach [p] n x (rd F (x : Int)).toNat) (hcon : ∀ x y : Nat, x < n → y < n → Reach [p, F] n x y) :
    MapOk (outT p a b n) (outF f a b n) (n - 2) := by
  have ht := nm_total a b n ha hb hab
  obtain ⟨o1, o2, o3⟩ := outF_ok f n a b hf hfl ha hb hab fa fb
  have hT := outT_tells p n hp hi a b ha hb hab
  have oF : TellsQ a b n (fun d => (rd F (d : Int)).toNat) (outF f a b n) := ⟨o1.1, fun d hd kd => by
    have := o1.2 d hd kd
    show (rd F (d : Int)).toNat < n ∧ kept a b (rd F (d : Int)).toNat ∧ rd (outF f a b n) (nmA a b d : Int) = (nmA a b (rd F (d : Int)).toNat : Int)
    rw [hFk d hd kd]
    exact this⟩
  refine ⟨by omega, by omega, hT.inR ha hb hab, hT.injR ha hb hab (fun d e hd he kd ke z => ?_), o2, o3, fun i j hi' hj' => ?_⟩
  · have s1 := (skp_out p n hp hi a b d ha hb hd hab kd.1 kd.2).2
    have s2 := (skp_out p n hp hi a b e ha hb he hab ke.1 ke.2).2
    exact skp_inj p n hp hi a b ha hb d e hd he kd ke (by have z : (skp p a b (rd p (d : Int))).toNat = (skp p a b (rd p (e : Int))).toNat := z; omega)
  · obtain ⟨x, x1, x2, rfl⟩ := nm_surj a b n i (by omega)
    obtain ⟨y, y1, y2, rfl⟩ := nm_surj a b n j (by omega)
    exact (reach_skip p F _ _ n hp a b ha hb hab hN hT hF oF hFa x y x1 y1 x2 y2).2 (hcon x y x1 y1)
theorem rest_rd (t f : List Int) (n : Nat) (H : MapOk t f n) (e a b : Nat) (he : e < (edL f n).length) (hab : EdgeAt f n e a b) (d : Nat) (hd : d < n) : rd (flC f n (restL [(e : Int)] (edL f n).length)) (d : Int) = if d = a ∨ d = b then (d : Int) else rd f (d : Int) := by
  obtain ⟨hn, h1, ht, hti, hf, hfl, hcon⟩ := id H
  obtain ⟨ha, hb, hne, e1, e2, e3, e4⟩ := hab
  rw [flC_rd f n _ d hd, chB_rest f n hf hfl [(e : Int)] d hd]
  have : chB f n [(e : Int)] (d : Int) = decide (d = a ∨ d = b) := by
    unfold chB
    rw [decide_eq_decide]
    rw [List.mem_singleton]
    exact e4 d hd
  rw [this]
  by_cases c : d = a ∨ d = b
  · rw [if_pos c, decide_eq_true c]
    rfl
  · rw [if_neg c, decide_eq_false c]
    rfl
theorem two_only (t f : List Int) (n : Nat) (H : MapOk t f n) (a b : Nat) (ha : a < n) (hb : b < n) (hab : a ≠ b) (fa : rd f (a : Int) = b) (fb : rd f (b : Int) = a) (h : ∀ x : Nat, x < n → ((x = a ∨ x = b) ↔ ((rd t (x : Int)).toNat = a ∨ (rd t (x : Int)).toNat = b))) : n = 2 := by
  obtain ⟨hn, h1, ht, hti, hf, hfl, hcon⟩ := id H
  have all : ∀ x, x < n → x = a ∨ x = b := fun x hx => by
    refine (hcon a x ha hx (fun z => z = a ∨ z = b) (fun q hq k hk => ?_)).1 (.inl rfl)
    rcases List.mem_cons.1 hq with rfl | hq
    · exact h k hk
    · rw [List.mem_singleton.1 hq]
      by_cases c : kept a b k
      · have := edge_kept f n a b hf hfl fa fb k hk c
        exact ⟨fun z => absurd z (fun z => z.elim c.1 c.2), fun z => absurd z (fun z => z.elim this.1 this.2)⟩
      · have c' : k = a ∨ k = b := by unfold kept at c; omega
        rcases c' with rfl | rfl
        · rw [fa, Int.toNat_natCast]
          exact ⟨fun _ => .inr rfl, fun _ => .inl rfl⟩
        · rw [fb, Int.toNat_natCast]
          exact ⟨fun _ => .inl rfl, fun _ => .inr rfl⟩
  have : n ≤ 2 := by
    rcases Nat.lt_or_ge 2 n with h2 | h2
    · have a0 := all 0 (by omega)
      have a1 := all 1 (by omega)
      have a2 := all 2 (by omega)
      omega
    · exact h2
  omega
theorem del_map (t f : List Int) (n : Nat) (H : MapOk t f n) (e a b : Nat) (he : e < (edL f n).length) (hab : EdgeAt f n e a b) (hn2 : n ≠ 2) (hk : Reach [t] n a b ∨ Cl n (Reach [t, flC f n (restL [(e : Int)] (edL f n).length)] n) 1) :
    NoA t a b ∧ MapOk (outT t a b n) (outF f a b n) (n - 2) := by
  obtain ⟨hn, h1, ht, hti, hf, hfl, hcon⟩ := id H
  obtain ⟨ha, hb, hne, e1, e2, e3, e4⟩ := id hab
  have hrd := rest_rd t f n H e a b he hab
  have hFi := flC_inR f n hf (restL [(e : Int)] (edL f n).length)
  generalize flC f n (restL [(e : Int)] (edL f n).length) = F at hrd hFi hk
  have con : ∀ x y : Nat, x < n → y < n → Reach [t, F] n x y := by
    rcases hk with hk | hk
    · intro x y hx hy S hS
      have st : ∀ k : Nat, k < n → (S k ↔ S (rd t (k : Int)).toNat) := hS t (by simp)
      have sF : ∀ k : Nat, k < n → (S k ↔ S (rd F (k : Int)).toNat) := hS F (by simp)
      have sab : S a ↔ S b := hk S fun q hq => by rw [List.mem_singleton.1 hq]; exact st
      refine hcon x y hx hy S fun q hq k hk' => ?_
      rcases List.mem_cons.1 hq with rfl | hq
      · exact st k hk'
      · rw [List.mem_singleton.1 hq]
        by_cases c : k = a ∨ k = b
        · rcases c with rfl | rfl
          · rw [e2, Int.toNat_natCast]; exact sab
          · rw [e3, Int.toNat_natCast]; exact sab.symm
        · have := sF k hk'
          rw [hrd k hk', if_neg c] at this
          exact this
    · exact fun x y hx hy => cl_one (fun x => Reach.refl _ _ x) (fun x y h => h.symm) (fun x y z h h' => h.trans h') hk x y hx hy
  have hFk : ∀ d : Nat, d < n → kept a b d → rd F (d : Int) = rd f (d : Int) := fun d hd kd => by rw [hrd d hd, if_neg (fun z => z.elim kd.1 kd.2)]
  have alone : ∀ x y : Nat, x < n → y < n → x ≠ y → (x = a ∨ x = b) → rd t (x : Int) ≠ x := by
    intro x y hx hy hxy hxab z
    have := (con x y hx hy (fun w => w = x) (fun q hq k hk' => by
      rcases List.mem_cons.1 hq with rfl | hq
      · constructor
        · rintro rfl; rw [z, Int.toNat_natCast]
        · intro w
          have r := ht.2 k hk'
          exact hti k x hk' hx (by rw [z]; omega)
      · rw [List.mem_singleton.1 hq, hrd k hk']
        by_cases c : k = a ∨ k = b
        · rw [if_pos c, Int.toNat_natCast]
        · rw [if_neg c]
          have kk := edge_kept f n a b hf hfl e2 e3 k hk' ⟨fun z => c (.inl z), fun z => c (.inr z)⟩
          constructor
          · rintro rfl; exact absurd hxab c
          · intro w; rw [w] at kk; exact absurd hxab (fun z => z.elim kk.1 kk.2))).1 rfl
    exact hxy this.symm
  have hN : NoA t a b := by
    refine ⟨alone a b ha hb hne (.inl rfl), alone b a hb ha (fun z => hne z.symm) (.inr rfl), fun ⟨z1, z2⟩ => hn2 (two_only t f n H a b ha hb hne e2 e3 fun x hx => ?_)⟩
    constructor
    · rintro (rfl | rfl)
      · rw [z1, Int.toNat_natCast]; exact .inr rfl
      · rw [z2, Int.toNat_natCast]; exact .inl rfl
    · have r := ht.2 x hx
      rintro (w | w)
      · exact .inr (hti x b hx hb (by rw [z2]; omega))
      · exact .inl (hti x a hx ha (by rw [z1]; omega))
  have hev := edL_half f n hf hfl
  refine ⟨hN, cut_map t f n hn ht hti hf hfl a b ha hb hne e2 e3 hN (by omega) F hFi hFk (fun x hx hx' => ?_) con⟩
  have c : x = a ∨ x = b := by unfold kept at hx'; omega
  rw [hrd x hx, if_pos c, Int.toNat_natCast]
  exact ⟨hx', Reach.refl _ _ _⟩
theorem faces_tells (p f : List Int) (n m : Nat) (a b : Nat) (ha : a < n) (hb : b < n) (hab : a ≠ b) (hf : inR n f) (hp : inR n p) (hi : injR n p) (o1 : TellsQ a b n (fun d => (rd f (d : Int)).toNat) (outF f a b n)) (o2 : inR (n - 2) (outF f a b n)) :
    TellsQ a b n (fun d => (skp p a b (rd p (rd f (d : Int)))).toNat) (faces (outT p a b n) (outF f a b n) (n - 2)) := by
  have hT := outT_tells p n hp hi a b ha hb hab
  refine ⟨faces_len _ _ _, fun d hd kd => ?_⟩
  obtain ⟨q1, q2, q3⟩ := o1.2 d hd kd
  have q1 : (rd f (d : Int)).toNat < n := q1
  have q3 : rd (outF f a b n) (nmA a b d : Int) = (nmA a b (rd f (d : Int)).toNat : Int) := q3
  have fr := hf.2 d hd
  obtain ⟨r1, r2, r3⟩ := hT.2 _ q1 q2
  have e : (((rd f (d : Int)).toNat : Nat) : Int) = rd f (d : Int) := by omega
  have r1 : (skp p a b (rd p (((rd f (d : Int)).toNat : Nat) : Int))).toNat < n := r1
  have r2 : kept a b (skp p a b (rd p (((rd f (d : Int)).toNat : Nat) : Int))).toNat := r2
  have r3 : rd (outT p a b n) (nmA a b (rd f (d : Int)).toNat : Int) = (nmA a b (skp p a b (rd p (((rd f (d : Int)).toNat : Nat) : Int))).toNat : Int) := r3
  rw [e] at r1 r2 r3
  show (skp p a b (rd p (rd f (d : Int)))).toNat < n ∧ kept a b (skp p a b (rd p (rd f (d : Int)))).toNat ∧ rd (faces (outT p a b n) (outF f a b n) (n - 2)) (nmA a b d : Int) = (nmA a b (skp p a b (rd p (rd f (d : Int)))).toNat : Int)
  refine ⟨r1, r2, ?_⟩
  rw [faces_rd _ _ _ _ (nm_bound a b n d ha hb hab hd kd), q3, r3]
theorem faces_del (t f : List Int) (n : Nat) (H : MapOk t f n) (e a b : Nat) (hab : EdgeAt f n e a b) : faces (outT t a b n) (outF f a b n) (n - 2) = outT (swp (faces t f n) a b n) a b n := by
  obtain ⟨hn, h1, ht, hti, hf, hfl, hcon⟩ := id H
  obtain ⟨ha, hb, hne, e1, e2, e3, e4⟩ := id hab
  obtain ⟨o1, o2, o3⟩ := outF_ok f n a b hf hfl ha hb hne e2 e3
  have hFi := faces_inR t f n ht hf
  have hFj := faces_inj t f n ht hti hf hfl
  refine tells_ext (faces_tells t f n n a b ha hb hne hf ht hti o1 o2) (outT_tells _ n (swp_inR _ n a b hFi ha hb) (swp_inj _ n a b hFj ha hb hne) a b ha hb hne) ha hb hne fun d hd kd => ?_
  show (skp t a b (rd t (rd f (d : Int)))).toNat = (skp (swp (faces t f n) a b n) a b (rd (swp (faces t f n) a b n) (d : Int))).toNat
  rw [swp_kept _ a b n d hd kd, faces_rd t f n d hd]
  rw [skp_congr t (swp (faces t f n) a b n) a b _ (by rw [swp_a _ a b n ha, faces_rd t f n b hb, e3]) (by rw [swp_b _ a b n hb hne, faces_rd t f n a ha, e2])]
theorem del_count (t f : List Int) (n : Nat) (H : MapOk t f n) (e a b : Nat) (hab : EdgeAt f n e a b) (hN : NoA t a b) (V : Nat) (hV : Cl n (Reach [t] n) V) : Cl (n - 2) (Reach [outT t a b n] (n - 2)) V := by
  obtain ⟨hn, h1, ht, hti, hf, hfl, hcon⟩ := id H
  obtain ⟨ha, hb, hne, e1, e2, e3, e4⟩ := id hab
  exact cl_left t _ n ht a b ha hb hne hN (outT_tells t n ht hti a b ha hb hne) V hV
theorem out_edges (f : List Int) (n a b : Nat) (hf : inR n f) (hfl : ∀ i : Nat, i < n → flipAt f i) (ha : a < n) (hb : b < n) (hab : a ≠ b) (fa : rd f (a : Int) = b) (fb : rd f (b : Int) = a) : (edL (outF f a b n) (n - 2)).length + 1 = (edL f n).length := by
  obtain ⟨o1, o2, o3⟩ := outF_ok f n a b hf hfl ha hb hab fa fb
  have h1 := edL_half (outF f a b n) (n - 2) o2 o3
  have h2 := edL_half f n hf hfl
  have ht := nm_total a b n ha hb hab
  omega
theorem mapDualD_ev (t f : List Int) (hm : isMap t f) (ht : t.length ≤ 1048576) (hf : f.length ≤ 1048576) : Ev (fun k => impl_MapDual.f k t f) (faces t f t.length, f, true) := by
  obtain ⟨hn, h1, ht', hti, hf', hfl, hcon⟩ := mapOk_of t f hm
  obtain ⟨b, _, b2, b3⟩ := mapValid_both t f ht hf
  have hb : b = true := b3.2 hm
  subst hb
  have hc : slices_Clone_int_int.f f = some f := by
    unfold slices_Clone_int_int.f
    rw [if_pos (by omega)]
  unfold impl_MapDual.f
  refine Ev.bind b2 ?_
  simp only [if_true]
  refine Ev.bind (mulF_ev t f t.length hn ht' hf') ?_
  simp only [hc, Option.bind_some]
  exact Ev.const rfl
theorem sameInts_run (l : List Int) (hl : l.length ≤ 1048576) : ∀ (d : Nat) (i : Nat), l.length - i = d → i ≤ l.length → Ev (fun k => laws_sameInts.l0 k l l i) true
  | 0, i, hd, hi => by
    refine Ev.s ?_
    simp only [laws_sameInts.l0, show ¬ (i : Int) < (l.length : Int) by omega, if_false]
    exact Ev.const rfl
  | d + 1, i, hd, hi => by
    refine Ev.s ?_
    simp only [laws_sameInts.l0, show (i : Int) < (l.length : Int) by omega, show (0 : Int) ≤ i by omega, if_true]
    rw [w64 (x := (i : Int) + 1) (by omega) (by omega), show ((i : Int) + 1) = ((i + 1 : Nat) : Int) by omega]
    exact sameInts_run l hl d (i + 1) (by omega) (by omega)
theorem sameInts_same (l : List Int) (hl : l.length ≤ 1048576) : Ev (fun k => laws_sameInts.f k l l) true := by
  unfold laws_sameInts.f
  simp only [if_true]
  exact sameInts_run l hl l.length 0 (by omega) (by omega)
end Go.Proofs.Ytjgknblneokhlaa.PK

set_option linter.unusedVariables false
set_option linter.unusedSimpArgs false
namespace Go.Proofs.Ytjgknblneokhlaa.Pure
open Go.RowKit Go.Proofs.Ytjgknblneokhlaa.PK Go.Proofs.YtjgknblneokhlaaW.PrintWords Go.Proofs.YtjgknblneokhlaaW.PrintLast Go.Proofs.YtjgknblneokhlaaW.PrintMore
theorem sameMap_same (a b : List Int) (ha : a.length ≤ 1048576) (hb : b.length ≤ 1048576) : Ev (fun k => laws_sameMap.f k a b a b) true := by
  unfold laws_sameMap.f
  refine Ev.bind (sameInts_same a ha) ?_
  simp only [if_true]
  exact Ev.bind (sameInts_same b hb) (Ev.const rfl)
theorem dual_con (t f : List Int) (H : MapOk t f t.length) (e a b : Nat) (he : e < (edL f t.length).length) (hab : EdgeAt f t.length e a b) (hn2 : t.length ≠ 2) :
    Ev (fun k => impl_EdgeContract.f k (faces t f t.length) f e) ([], [], false) ∨ Ev (fun k => impl_EdgeContract.f k (faces t f t.length) f e) (outT (swp (faces t f t.length) a b t.length) a b t.length, outF f a b t.length, true) := by
  have hDm := isMap_of (dual_ok H)
  have hf2 := faces_len t f t.length
  have hfl : f.length = t.length := H.2.2.2.2.1.1
  obtain ⟨P, hP, p12, k1, k2⟩ := kindI_ev (faces t f t.length) f hDm e a b (by rw [hf2]; exact he) (by rw [hf2]; exact hab)
  obtain ⟨a', b', y1, y2, y3, y4, y5, y6, y7, q⟩ := conI_told (faces t f t.length) f hDm e (by rw [hf2]; exact he)
  rw [hf2] at y1 y2 y4 y7 q
  obtain ⟨z1, z2, z3, z4, z5, z6, z7⟩ := hab
  have ea : a' = a := by omega
  subst ea
  have eb : b' = b := by omega
  subst eb
  by_cases hr : Go.Proofs.Ytjgknblneokhlaa.PK.Reach [faces t f t.length] t.length a' b'
  · left
    unfold impl_EdgeContract.f
    refine Ev.bind (k1 (by rw [hf2]; exact hr)) ?_
    simp only [if_true, if_false, show ¬ (2 : Int) = -1 by decide]
    refine Ev.s ?_
    simp only [impl_EdgeContract.j0, if_true]
    exact Ev.const rfl
  · right
    unfold impl_EdgeContract.f
    refine Ev.bind (k2 (by rw [hf2]; exact hr)) ?_
    simp only [show ¬ (P : Int) - 1 = -1 by omega, show ¬ (P : Int) - 1 = 2 by omega, if_false]
    rw [show (((f.length : Int) == 2)) = false from beq_eq_false_iff_ne.2 (by omega)]
    exact q
theorem FnDelete : laws_FnDelete.Pure := by
  intro l hl _ hb
  by_cases c0 : (l.length : Int) > 1048576
  · exact ⟨0, by unfold laws_FnDelete.f; rw [if_pos c0]⟩
  obtain ⟨l', eo, h⟩ := open_ev l hb
  obtain ⟨t, f, e, p, e1, d2, d3⟩ := l92Edge_ev l' h
  have dr : Ev (fun k => spec_DrawEdgeDelete.f k l) (t, f, e) := by
    unfold spec_DrawEdgeDelete.f
    simp only [eo, Option.bind_some]
    exact Ev.bind e1 (Ev.const rfl)
  have tl : t.length ≤ 1048576 := by omega
  have fl' : f.length ≤ 1048576 := by omega
  obtain ⟨r, r1, r2, r3, r4, r5⟩ := del_more t f e tl fl'
  obtain ⟨T, F, b⟩ := r
  have hT : T.length ≤ 1048576 := Nat.le_trans r3 (by omega)
  have hF : F.length ≤ 1048576 := Nat.le_trans r4 (by omega)
  have sm := sameMap_same T F hT hF
  have hbb : (b != b) = false := by simp
  refine Ev.rounds (r := true) ?_
  unfold laws_FnDelete.f
  simp only [c0, if_false]
  refine Ev.bind dr ?_
  refine Ev.bind r2 ?_
  refine Ev.bind r1 ?_
  simp only [hbb, Bool.false_eq_true, if_false]
  refine Ev.bind sm ?_
  simp only [if_true]
  refine Ev.s ?_
  rcases r5 with r5 | ⟨hm, hn2, E, a, b', rfl, hE, hab, ⟨q, q1, q2⟩, r5⟩
  · simp only [Prod.mk.injEq] at r5
    obtain ⟨g1, g2, g3⟩ := r5
    subst g1 g2 g3
    simp only [laws_FnDelete.j0, Bool.not_false, if_true, beq_self_eq_true]
    exact Ev.bind sm (Ev.const rfl)
  simp only [Prod.mk.injEq] at r5
  obtain ⟨g1, g2, g3⟩ := r5
  have hab : EdgeAt f t.length E a b' := hab
  have H := mapOk_of t f hm
  obtain ⟨hn, h1, ht', hti, hf', hfl, hcon⟩ := id H
  obtain ⟨ha, hb', hne, y1, y2, y3, y4⟩ := id hab
  have hlen := hf'.1
  have hh := edL_half f t.length hf' hfl
  have hk : Go.Proofs.Ytjgknblneokhlaa.PK.Reach [t] t.length a b' ∨ Cl t.length (Go.Proofs.Ytjgknblneokhlaa.PK.Reach [t, flC f t.length (restL [(E : Int)] (edL f t.length).length)] t.length) 1 := by
    obtain ⟨P, hP, p12, k1, k2⟩ := kindI_ev t f hm E a b' hE hab
    by_cases z : Go.Proofs.Ytjgknblneokhlaa.PK.Reach [t] t.length a b'
    · exact .inl z
    · right
      have := Ev.uniq q2 (k2 z)
      rwa [show P = 1 by omega] at hP
  obtain ⟨N1, M⟩ := del_map t f t.length H E a b' hE hab hn2 hk
  have hTl : T.length = t.length - 2 := by rw [g1]; exact M.2.2.1.1
  rw [← g1, ← g2] at M
  have hm2 := isMap_of M
  have hV := cyS_cl t t.length ht' hti
  have v2 := del_count t f t.length H E a b' hab N1 _ hV
  have oe := out_edges f t.length a b' hf' hfl ha hb' hne y2 y3
  obtain ⟨F1, w1, w2⟩ := mapCounts_ev t f hm tl fl'
  obtain ⟨F2, x1, x2⟩ := mapCounts_ev T F hm2 hT hF
  have hVT : Cl (t.length - 2) (Go.Proofs.Ytjgknblneokhlaa.PK.Reach [T] (t.length - 2)) ((cyS T T.length T.length).2.length) := by
    have := cyS_cl T T.length (by rw [hTl]; exact M.2.2.1) (by rw [hTl]; exact M.2.2.2.1)
    rw [hTl] at this ⊢
    exact this
  rw [← g1] at v2
  rw [← g2] at oe
  have eV := hVT.uniq v2
  have vle := cyS_many t t.length t.length
  have dm := mapDualD_ev t f hm tl fl'
  have dm2 := mapDualD_ev T F hm2 hT hF
  have hfc := faces_del t f t.length H E a b' hab
  rw [← g1, ← g2] at hfc
  rw [hTl, hfc] at dm2
  have hlD : (outT (swp (faces t f t.length) a b' t.length) a b' t.length).length ≤ 1048576 := by
    have := (out_len (swp (faces t f t.length) a b' t.length) f a b' t.length hn).1
    omega
  have c3 : ∀ A B C : Nat, (threeN A B C).length = 3 ∧ rd (threeN A B C) 0 = (A : Int) ∧ rd (threeN A B C) 1 = (B : Int) ∧ rd (threeN A B C) 2 = (C : Int) := fun _ _ _ => ⟨rfl, rfl, rfl, rfl⟩
  have wE : wrap64 (((edL f t.length).length : Int) - 1) = ((edL f t.length).length : Int) - 1 := w64 (by omega) (by omega)
  have n0 : (((cyS T T.length T.length).2.length : Nat) : Int) = ((cyS t t.length t.length).2.length : Int) := by rw [eV]
  have n1 : (((edL F T.length).length : Nat) : Int) = ((edL f t.length).length : Int) - 1 := by rw [hTl]; omega
  subst g3
  simp only [laws_FnDelete.j0, Bool.not_true, Bool.false_eq_true, if_false]
  refine Ev.bind w2 ?_
  refine Ev.bind x2 ?_
  refine Ev.bind dm ?_
  rcases dual_con t f H E a b' hE hab hn2 with hd | hd
  · refine Ev.bind hd ?_
    refine Ev.bind dm2 ?_
    simp only [c3, n0, n1, wE, if_true, show (0 : Int) < ((3 : Nat) : Int) by decide, show (1 : Int) < ((3 : Nat) : Int) by decide, Bool.false_eq_true, if_false]
    exact Ev.const rfl
  · refine Ev.bind hd ?_
    refine Ev.bind dm2 ?_
    simp only [c3, n0, n1, wE, if_true, show (0 : Int) < ((3 : Nat) : Int) by decide, show (1 : Int) < ((3 : Nat) : Int) by decide]
    rw [← g2]
    exact Ev.bind (sameMap_same _ F hlD hF) (Ev.const rfl)
end Go.Proofs.Ytjgknblneokhlaa.Pure

namespace Go.Proofs.Ytjgknblneokhlaa.fnDelete
open Go.ChangeShapes Go.WideShapes Go.ChangeAt Go.RowKit
open Go.ChangeMaps (open_string shut_string)
set_option linter.unusedVariables false
theorem own : ownKnob Try.prog.godebug = none := by kernel_rfl
theorem laidOut : laidOutB Try.prog = true := by kernel_rfl
def IsRow (k : IntKind) (w : World) (a : Option Addr) (len cap : Nat) (zs : List Int) : Prop :=
 (a = none ∧ len = 0 ∧ cap = 0 ∧ zs = []) ∨
 ∃ x, a = some x ∧ len ≤ cap ∧ cap ≤ maxLen ∧ zs.length = cap ∧ (∀ i, i < zs.length → w.cell? (x.add i) = some (.int k (zs.getD i 0))) ∧ ∀ n ∈ zs, (Lit.int k n).wf = true
set_option maxRecDepth 100000 in
theorem lifted (os : Os) (started : os.Started) (H : Type) (enc : TypeId × Value → H) :
  ReturnsInHanded {} Try.checked os 14 .any (Rows.fnDeleteSpec.pre6 enc Try.prog Try.f14 Rows.fnDeleteRow.domain false) (Rows.fnDeleteSpec.post enc Try.prog Try.f14 false true false false) := by
 refine returnsInHanded_of_change_sized (C := Try.checked) own started (by kernel_rfl) Try.func14
  (ChangeSpec.witness6 (enc := enc) (C := Try.checked) false ⟨#[], #[.slice none 0 0], []⟩ 8 (by kernel_rfl) (by kernel_rfl) (by kernel_rfl) (by kernel_rfl)) ?_
 intro W base args ds gs before hval0 hW hcnd hsz0 _
 have hsz : (DataW.weightsEach Try.prog (Try.f14.params.toList ++ Rows.fnDeleteSpec.plain.varTypes Try.prog) (ds ++ gs)).all (· ≤ reachBytes) = true := hsz0
 have hval : ∀ (j : Nat) t v, Try.f14.params[j]? = some t → args[j]? = some v → Value.okWide Try.prog W .any base t v := hval0
 have hW' := hW
 obtain ⟨p, q, hA0, hV, rfl, hfz, hnd⟩ := hW
 have hA : DataW.TrodAll enc Try.prog W 0 (fun _ => true) true Try.f14.params.toList args.toList ds p := hA0
 rw [Try.params14] at hA hval hsz
 obtain ⟨v0, vs0, d0, ds0, p0, q0, hargs, rfl, rfl, h0, r0⟩ := trodAll_cons hA
 obtain ⟨rfl, rfl, rfl⟩ := trodAll_nil r0
 obtain rfl : args = #[v0] := by cases args; simp_all
 obtain ⟨rfl, rfl⟩ := trodVars_none hV
 obtain ⟨a0, len0, cap0, rfl⟩ := okWide_slice Try.underlying22 (hval 0 22 v0 rfl rfl)
 have k0 := h0
 have lt0 : ∀ x ∈ p0, x.block < W.heap.size := by obtain ⟨m, hm⟩ := k0; exact DataW.trod_lt m _ _ _ hm
 obtain ⟨z0, w0⟩ : ∃ zs, IsRow .u8 W a0 len0 cap0 zs := by
  obtain ⟨fuel, hf⟩ := h0
  rcases open_ints Try.underlying22 Try.underlying5 (by kernel_rfl) hf with ⟨hcs, _⟩ | ⟨x, l, c, zs, hcs, _, hl, hm, hz, _, hcell, hwz⟩
  ·
   simp [Value.cells] at hcs
   obtain ⟨rfl, rfl, rfl⟩ := hcs
   exact ⟨[], .inl ⟨rfl, rfl, rfl, rfl⟩⟩
  ·
   simp [Value.cells] at hcs
   obtain ⟨rfl, rfl, rfl⟩ := hcs
   exact ⟨zs, .inr ⟨_, rfl, hl, hm, by simpa using hz, hcell, hwz⟩⟩
 have y0 : len0 * 1 ≤ 140737488351232 := Go.Proofs.YtjgknblneokhlaaW.PrintWords.sized_ints hsz (j := 0) (t := 22) rfl rfl Try.underlying22 Try.underlying5 (by kernel_rfl) (by kernel_rfl) h0
 clear hA0 hval0 hsz0 hsz
 refine (PK.laws_FnDelete.walk Pure.FnDelete a0 len0 cap0 z0 W w0 y0).mono fun e W' ⟨he, bel⟩ => ?_
 subst he
 exact ⟨_, rfl, _, _, _, [], _, [], hW', trodAll_mk1 (shut_bool Try.underlying4 _), (trodAll_cons_mk (Below.trod laidOut (by kernel_rfl) (of_decide_eq_true (by kernel_rfl)) k0 bel lt0) trodAll_mk0), rfl, bel.frame _, fun h => by cases h⟩
theorem over : Rows.fnDeleteRow.holds Try.pinned (OpenSpec.ofChange Rows.fnDeleteSpec) :=
 OpenClaim.holds_of_wide 14 Try.f14 rfl rfl rfl rfl rfl rfl rfl ⟨rfl, rfl, rfl, rfl, rfl⟩ rfl rfl rfl rfl rfl (by kernel_rfl) Try.func14 (by kernel_rfl)
  (of_decide_eq_true (by kernel_rfl)) (by unfold Func.isWrapper; first | (rw [if_pos (by decide +kernel)]; kernel_rfl) | (rw [if_neg (by decide +kernel)]; exact ⟨rfl, rfl⟩))
  (fun os started H enc _ => lifted os started H enc)
theorem proved : Rows.FnDeleteSaid := over
#print axioms proved
end Go.Proofs.Ytjgknblneokhlaa.fnDelete
namespace Go.Proofs.Ytjgknblneokhlaa
theorem fnDelete_holds : Rows.FnDeleteSaid := fnDelete.proved
end Go.Proofs.Ytjgknblneokhlaa
