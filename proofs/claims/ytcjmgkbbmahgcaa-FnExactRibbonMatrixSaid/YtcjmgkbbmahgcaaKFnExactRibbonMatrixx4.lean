/- For every map, RibbonMatrix of the program answers what RibbonMatrix of the reference answers, and leaves the map as it was. There are no conditions. -/
import Derived.Test.YtcjmgkbbmahgcaaKFnExactRibbonMatrixx3
set_option linter.unusedVariables false
set_option linter.unusedSimpArgs false
namespace Go.Proofs.Ytcjmgkbbmahgcaa.PE
open Go.RowKit Go.Proofs.YtcjmgkbbmahgcaaW.PrintWords Go.Proofs.YtcjmgkbbmahgcaaW.PrintLast Go.Proofs.YtcjmgkbbmahgcaaW.PrintMore
def stl (n : Nat) : List Int := (List.range n).map fun (i : Nat) => (i : Int)
theorem stl_length (n : Nat) : (stl n).length = n := by simp [stl]
theorem stl_rd (n i : Nat) (h : i < n) : rd (stl n) i = i := by
  rw [rd_lt _ _ (by rw [stl_length]; exact h)]
  simp [stl]
theorem stl_succ (n : Nat) : stl (n + 1) = stl n ++ [(n : Int)] := by simp [stl, List.range_succ]
theorem rd_set_self (l : List Int) (i : Nat) (v : Int) (h : i < l.length) : rd (l.set i v) i = v := by
  rw [rd_lt _ _ (by simpa using h)]; simp
theorem rd_set_ne (l : List Int) (i j : Nat) (v : Int) (h : i ≠ j) : rd (l.set i v) j = rd l j := by
  unfold rd
  rw [Int.toNat_natCast, List.getD_eq_getElem?_getD, List.getD_eq_getElem?_getD, List.getElem?_set_ne h]
theorem list_ext (a b : List Int) (h : a.length = b.length) (hr : ∀ i : Nat, i < a.length → rd a i = rd b i) : a = b := by
  refine List.ext_getElem h fun i h1 h2 => ?_
  have := hr i h1
  rwa [rd_lt a i h1, rd_lt b i h2] at this
theorem same_run (n : Nat) (hn : n ≤ 1048576) : ∀ (d i : Nat), n - i = d → i ≤ n → Ev (fun k => spec_l1Same.l0 k n (stl i) i) (stl n)
  | 0, i, hd, hi => by
    refine Ev.s ?_
    simp only [spec_l1Same.l0, show ¬ (i : Int) < (n : Int) by omega, if_false]
    have : i = n := by omega
    subst this
    exact Ev.const rfl
  | d + 1, i, hd, hi => by
    refine Ev.s ?_
    simp only [spec_l1Same.l0, show (i : Int) < (n : Int) by omega, if_true, stl_length, show i < 17592186044416 by omega]
    rw [w64 (x := (i : Int) + 1) (by omega) (by omega), show ((i : Int) + 1) = ((i + 1 : Nat) : Int) by omega, ← stl_succ]
    exact same_run n hn d (i + 1) (by omega) (by omega)
theorem same_ev (n : Nat) (hn : n ≤ 1048576) : Ev (fun k => spec_l1Same.f k n) (stl n) := by
  unfold spec_l1Same.f
  exact same_run n hn n 0 (by omega) (by omega)
theorem still_run (n : Nat) (hn : n ≤ 1048576) : ∀ (d i : Nat) (l : List Int), n - i = d → i ≤ n → l.length = n → l.take i = (stl n).take i → Ev (fun k => impl_still.l0 k l n i) (stl n)
  | 0, i, l, hd, hi, hl, ht => by
    refine Ev.s ?_
    simp only [impl_still.l0, show ¬ (i : Int) < (n : Int) by omega, if_false]
    have : i = n := by omega
    subst this
    have e : (stl i).take i = stl i := by rw [List.take_of_length_le]; rw [stl_length]; exact Nat.le_refl _
    rw [e, List.take_of_length_le (by omega)] at ht
    exact Ev.const (by rw [ht])
  | d + 1, i, l, hd, hi, hl, ht => by
    have hlt : i < l.length := by omega
    refine Ev.s ?_
    simp only [impl_still.l0, show (i : Int) < (n : Int) by omega, show (0 : Int) ≤ i by omega, show (i : Int) < (l.length : Int) by omega, if_true]
    rw [w64 (x := (i : Int) + 1) (by omega) (by omega), show ((i : Int) + 1) = ((i + 1 : Nat) : Int) by omega, Int.toNat_natCast]
    refine still_run n hn d (i + 1) _ (by omega) (by omega) (by simpa using hl) ?_
    have h2 : i < (stl n).length := by rw [stl_length]; omega
    rw [List.take_succ_eq_append_getElem (by simpa using hlt), List.take_succ_eq_append_getElem h2, List.take_set_of_le (Nat.le_refl _), ht]
    simp [stl]
theorem still_ev (n : Nat) (hn : n ≤ 1048576) : Ev (fun k => impl_still.f k n) (stl n) := by
  unfold impl_still.f
  have h1 : n ≤ 35184372088832 := by omega
  have h2 : (0 : Int) ≤ (n : Int) := by omega
  simp only [Int.toNat_natCast, h1, h2, if_true, Option.bind_some, List.length_replicate]
  exact still_run n hn n 0 _ (by omega) (by omega) (by simp) (by simp)
def inR (n : Nat) (p : List Int) : Prop := p.length = n ∧ ∀ i : Nat, i < n → 0 ≤ rd p i ∧ rd p i < n
def closedL (ps : List (List Int)) (n : Nat) (S : Nat → Prop) : Prop := ∀ p ∈ ps, ∀ k, k < n → (S k ↔ S (rd p k).toNat)
def Reach (ps : List (List Int)) (n : Nat) (i j : Nat) : Prop := ∀ S, closedL ps n S → (S i ↔ S j)
theorem Reach.refl (ps : List (List Int)) (n i : Nat) : Reach ps n i i := fun S _ => Iff.rfl
theorem Reach.symm {ps : List (List Int)} {n i j : Nat} (h : Reach ps n i j) : Reach ps n j i := fun S c => (h S c).symm
theorem Reach.trans {ps : List (List Int)} {n i j k : Nat} (h : Reach ps n i j) (h' : Reach ps n j k) : Reach ps n i k := fun S c => (h S c).trans (h' S c)
theorem Reach.step {ps : List (List Int)} {n : Nat} {p : List Int} (hp : p ∈ ps) {k : Nat} (hk : k < n) : Reach ps n k (rd p k).toNat := fun S c => c p hp k hk
def orbI (ps : List (List Int)) (n : Nat) (o : List Int) : Prop := o.length = n ∧ ∀ i : Nat, i < n → 0 ≤ rd o i ∧ rd o i ≤ i ∧ Reach ps n (rd o i).toNat i
def orbOk (ps : List (List Int)) (n : Nat) (o : List Int) : Prop := orbI ps n o ∧ ∀ p ∈ ps, ∀ i : Nat, i < n → rd o (rd p i) = rd o i
theorem stl_orbI (ps : List (List Int)) (n : Nat) : orbI ps n (stl n) := by
  refine ⟨stl_length n, fun i hi => ?_⟩
  rw [stl_rd n i hi]
  exact ⟨by omega, by omega, by rw [Int.toNat_natCast]; exact Reach.refl _ _ _⟩
theorem orbOk_const {ps : List (List Int)} {n : Nat} {o : List Int} (h : orbOk ps n o) (hp : ∀ p ∈ ps, inR n p) {i j : Nat} (hr : Reach ps n i j) : rd o i = rd o j := by
  have := hr (fun k => rd o k = rd o i) (fun p hp' k hk => by
    have h1 := h.2 p hp' k hk
    have h2 := (hp p hp').2 k hk
    have e : (((rd p k).toNat : Nat) : Int) = rd p k := by omega
    show (rd o k = rd o i) ↔ (rd o (((rd p k).toNat : Nat) : Int) = rd o i)
    rw [e, h1])
  exact (this.1 rfl).symm
theorem orbOk_le {ps : List (List Int)} {n : Nat} {o o' : List Int} (h : orbOk ps n o) (h' : orbI ps n o') (hp : ∀ p ∈ ps, inR n p) {i : Nat} (hi : i < n) : rd o i ≤ rd o' i := by
  obtain ⟨g0, g1, g2⟩ := h'.2 i hi
  have e := orbOk_const h hp g2
  have hlt : (rd o' i).toNat < n := by omega
  have := (h.1.2 _ hlt).2.1
  have e2 : (((rd o' i).toNat : Nat) : Int) = rd o' i := by omega
  omega
theorem mn_le (a b : Int) : mn a b ≤ a ∧ mn a b ≤ b ∧ (mn a b = a ∨ mn a b = b) := by unfold mn; split <;> omega
theorem orbI_put {ps : List (List Int)} {n : Nat} {o : List Int} (h : orbI ps n o) {i : Nat} (hi : i < n) {v : Int} (h0 : 0 ≤ v) (h1 : v ≤ i) (hr : Reach ps n v.toNat i) : orbI ps n (o.set i v) := by
  refine ⟨by simpa using h.1, fun j hj => ?_⟩
  by_cases e : i = j
  · subst e
    rw [rd_set_self _ _ _ (by rw [h.1]; exact hi)]
    exact ⟨h0, h1, hr⟩
  · rw [rd_set_ne _ _ _ _ e]
    exact h.2 j hj
def tot : List Int → Int
  | [] => 0
  | x :: xs => x + tot xs
theorem tot_set : ∀ (l : List Int) (i : Nat) (v : Int), i < l.length → tot (l.set i v) + rd l i = tot l + v
  | [], i, v, h => by simp at h
  | x :: xs, 0, v, h => by simp [tot, rd]; omega
  | x :: xs, i + 1, v, h => by
    have ih := tot_set xs i v (by simpa using h)
    have e : rd (x :: xs) ((i + 1 : Nat) : Int) = rd xs i := by unfold rd; rw [Int.toNat_natCast, Int.toNat_natCast]; rfl
    rw [e]
    simp only [List.set_cons_succ, tot]
    omega
theorem tot_nonneg : ∀ (l : List Int), (∀ i : Nat, i < l.length → 0 ≤ rd l i) → 0 ≤ tot l
  | [], _ => by simp [tot]
  | x :: xs, h => by
    have h0 := h 0 (by simp)
    have e0 : rd (x :: xs) ((0 : Nat) : Int) = x := rfl
    rw [e0] at h0
    have := tot_nonneg xs fun i hi => by
      have := h (i + 1) (by simpa using hi)
      have e : rd (x :: xs) ((i + 1 : Nat) : Int) = rd xs i := by unfold rd; rw [Int.toNat_natCast, Int.toNat_natCast]; rfl
      rwa [e] at this
    simp only [tot]
    omega
theorem rdL_nth (ps : List (List Int)) (q : Nat) (h : q < ps.length) : rd_L1 ps (q : Int) = ps[q] := by
  have e : (q : Int).toNat = q := Int.toNat_natCast q
  unfold rd_L1
  rw [e, List.getD_eq_getElem?_getD, List.getElem?_eq_getElem h]
  rfl
theorem implOrb_in (ps : List (List Int)) (n : Nat) (hn : n ≤ 12) (q : Nat) (hq : q < ps.length) (hL : ps.length ≤ 1048576) (P : List Int) (hP : P ∈ ps) (pl : P.length = n) (pr : ∀ i : Nat, i < n → 0 ≤ rd P i ∧ rd P i < n) : ∀ (d i : Nat) (o : List Int) (g : Bool), n - i = d → i ≤ n → orbI ps n o →
    ∃ (o' : List Int) (g' : Bool), orbI ps n o' ∧ (∀ r, Ev (fun k => impl_orbits.l1 k ps o' g' ps ps.length ((q + 1 : Nat) : Int)) r → Ev (fun k => impl_orbits.l2 k ps o g ps ps.length q P n i) r) ∧ tot o' ≤ tot o ∧
      (g' = true → g = true ∨ tot o' < tot o) ∧ (g' = false → g = false ∧ o' = o ∧ ∀ j : Nat, i ≤ j → j < n → rd o (rd P j) = rd o j)
  | 0, i, o, g, hd, hi, ho => by
    refine ⟨o, g, ho, fun r h => Ev.s ?_, by omega, fun h => .inl h, fun h => ⟨h, rfl, fun j h1 h2 => by omega⟩⟩
    simp only [impl_orbits.l2, show ¬ (i : Int) < (n : Int) by omega, if_false]
    rw [w64 (x := (q : Int) + 1) (by omega) (by omega), show ((q : Int) + 1) = ((q + 1 : Nat) : Int) by omega]
    exact h
  | d + 1, i, o, g, hd, hi, ho => by
    have hlt : i < n := by omega
    have hd1 : n - (i + 1) = d := by omega
    have hw : wrap64 ((i : Int) + 1) = ((i + 1 : Nat) : Int) := by rw [w64 (by omega) (by omega)]; omega
    have hr := pr i hlt
    have hst := Reach.step hP hlt
    have hlen := ho.1
    obtain ⟨t, ht⟩ : ∃ t : Nat, rd P i = t := ⟨(rd P i).toNat, by omega⟩
    rw [ht, Int.toNat_natCast] at hst
    have htn : t < n := by omega
    obtain ⟨i0, i1, i2⟩ := ho.2 i hlt
    obtain ⟨t0, t1, t2⟩ := ho.2 t htn
    obtain ⟨hm1, hm2, hm3⟩ := mn_le (rd o i) (rd o t)
    have g1 : (i : Int) < (n : Int) := by omega
    have g2 : (0 : Int) ≤ (i : Int) := by omega
    have g3 : (0 : Int) ≤ (t : Int) := by omega
    have g4 : (t : Int) < (n : Int) := by omega
    obtain ⟨v, hv⟩ : ∃ v, mn (rd o i) (rd o t) = v := ⟨_, rfl⟩
    rw [hv] at hm1 hm2 hm3
    by_cases hc : rd o i = v ∧ rd o t = v
    · obtain ⟨c1, c2⟩ := hc
      obtain ⟨o', g', a1, a2, a3, a4, a5⟩ := implOrb_in ps n hn q hq hL P hP pl pr d (i + 1) o g hd1 hlt ho
      refine ⟨o', g', a1, fun r h => Ev.s ?_, a3, a4, fun h => ?_⟩
      · simp only [impl_orbits.l2, g1, g2, g3, g4, pl, hlen, ht, hv, if_true, hw]
        simp only [c1, c2, if_true]
        exact a2 r h
      · obtain ⟨b1, b2, b3⟩ := a5 h
        refine ⟨b1, b2, fun j h1 h2 => ?_⟩
        by_cases e : j = i
        · rw [e, ht]; omega
        · exact b3 j (by omega) h2
    · have hv0 : 0 ≤ v := by omega
      have hrv : Reach ps n v.toNat i := by
        rcases hm3 with e | e
        · rw [e]; exact i2
        · rw [e]; exact t2.trans hst.symm
      have ho1 := orbI_put ho hlt hv0 (by omega) hrv
      have ho2 := orbI_put ho1 htn hv0 (by omega) (hrv.trans hst)
      have hd2 : tot ((o.set i v).set t v) < tot o := by
        have z1 := tot_set o i v (by omega)
        have z2 := tot_set (o.set i v) t v (by rw [List.length_set]; omega)
        by_cases e : i = t
        · subst e
          rw [rd_set_self _ _ _ (by omega)] at z2
          omega
        · rw [rd_set_ne _ _ _ _ e] at z2
          omega
      obtain ⟨o', g', a1, a2, a3, a4, a5⟩ := implOrb_in ps n hn q hq hL P hP pl pr d (i + 1) ((o.set i v).set t v) true hd1 hlt ho2
      refine ⟨o', g', a1, fun r h => Ev.s ?_, by omega, fun h => .inr (by omega), fun h => ?_⟩
      · have hgo := a2 r h
        by_cases c1 : rd o i = v
        · have c2 : ¬ rd o t = v := fun e => hc ⟨c1, e⟩
          simp only [impl_orbits.l2, g1, g2, g3, g4, pl, hlen, ht, hv, if_true, hw, Int.toNat_natCast]
          simp only [c1, c2, if_true, if_false]
          exact hgo
        · simp only [impl_orbits.l2, g1, g2, g3, g4, pl, hlen, ht, hv, if_true, hw, Int.toNat_natCast]
          simp only [c1, if_false]
          exact hgo
      · have := (a5 h).1
        cases this
theorem implOrb_pass (ps : List (List Int)) (n : Nat) (hn : n ≤ 12) (hL : ps.length ≤ 1048576) (hp : ∀ p ∈ ps, inR n p) : ∀ (d q : Nat) (o : List Int) (g : Bool), ps.length - q = d → q ≤ ps.length → orbI ps n o →
    ∃ (o' : List Int) (g' : Bool), orbI ps n o' ∧ (∀ r, Ev (fun k => impl_orbits.l0 k ps o' g') r → Ev (fun k => impl_orbits.l1 k ps o g ps ps.length q) r) ∧ tot o' ≤ tot o ∧
      (g' = true → g = true ∨ tot o' < tot o) ∧ (g' = false → g = false ∧ o' = o ∧ ∀ z : Nat, q ≤ z → z < ps.length → ∀ j : Nat, j < n → rd o (rd (rd_L1 ps z) j) = rd o j)
  | 0, q, o, g, hd, hi, ho => by
    refine ⟨o, g, ho, fun r h => Ev.s ?_, by omega, fun h => .inl h, fun h => ⟨h, rfl, fun j h1 h2 => by omega⟩⟩
    simp only [impl_orbits.l1, show ¬ (q : Int) < (ps.length : Int) by omega, if_false]
    exact h
  | d + 1, q, o, g, hd, hi, ho => by
    have hlt : q < ps.length := by omega
    have hd1 : ps.length - (q + 1) = d := by omega
    have hP : rd_L1 ps q ∈ ps := by rw [rdL_nth ps q hlt]; exact List.getElem_mem hlt
    obtain ⟨pl, pr⟩ := hp _ hP
    obtain ⟨o1, b1, c1, c2, c3, c4, c5⟩ := implOrb_in ps n hn q hlt hL _ hP pl pr n 0 o g (by omega) (by omega) ho
    obtain ⟨o2, b2, e1, e2, e3, e4, e5⟩ := implOrb_pass ps n hn hL hp d (q + 1) o1 b1 hd1 hlt c1
    refine ⟨o2, b2, e1, fun r h => Ev.s ?_, by omega, fun h => ?_, fun h => ?_⟩
    · simp only [impl_orbits.l1, show (q : Int) < (ps.length : Int) by omega, show (0 : Int) ≤ (q : Int) by omega, if_true, pl]
      exact c2 r (e2 r h)
    · rcases e4 h with z | z
      · rcases c4 z with y | y
        · exact .inl y
        · exact .inr (by omega)
      · exact .inr (by omega)
    · obtain ⟨f1, f2, f3⟩ := e5 h
      obtain ⟨g1, g2, g3⟩ := c5 f1
      refine ⟨g1, f2.trans g2, fun z hz hz' j hj => ?_⟩
      by_cases e : z = q
      · rw [e]; exact g3 j (by omega) hj
      · have := f3 z (by omega) hz' j hj
        rwa [g2] at this
theorem implOrb_loop (ps : List (List Int)) (n : Nat) (hn : n ≤ 12) (hL : ps.length ≤ 1048576) (hp : ∀ p ∈ ps, inR n p) : ∀ (m : Nat) (o : List Int), tot o ≤ m → orbI ps n o → ∃ o', orbOk ps n o' ∧ Ev (fun k => impl_orbits.l0 k ps o true) o' := by
  intro m
  induction m using Nat.strongRecOn with
  | _ m ih =>
    intro o hm ho
    obtain ⟨o1, g1, c1, c2, c3, c4, c5⟩ := implOrb_pass ps n hn hL hp ps.length 0 o false (by omega) (by omega) ho
    cases g1 with
    | false =>
      obtain ⟨_, e2, e3⟩ := c5 rfl
      refine ⟨o, ⟨ho, fun p hp' i hi => ?_⟩, Ev.s ?_⟩
      · obtain ⟨z, hz, rfl⟩ := List.mem_iff_getElem.1 hp'
        have := e3 z (by omega) hz i hi
        rwa [rdL_nth ps z hz] at this
      · simp only [impl_orbits.l0, if_true]
        refine c2 o (Ev.s ?_)
        simp only [impl_orbits.l0, Bool.false_eq_true, if_false]
        exact Ev.const (by rw [e2])
    | true =>
      have hlt : tot o1 < tot o := by
        rcases c4 rfl with z | z
        · cases z
        · exact z
      have h0 := tot_nonneg o1 fun i hi => (c1.2 i (by rw [← c1.1]; exact hi)).1
      obtain ⟨o', h1, h2⟩ := ih (tot o1).toNat (by omega) o1 (by omega) c1
      refine ⟨o', h1, Ev.s ?_⟩
      simp only [impl_orbits.l0, if_true]
      exact c2 o' h2
theorem implOrb_ev (ps : List (List Int)) (n : Nat) (hn : n ≤ 12) (h0 : 0 < ps.length) (hL : ps.length ≤ 1048576) (hp : ∀ p ∈ ps, inR n p) : ∃ o, orbOk ps n o ∧ Ev (fun k => impl_orbits.f k ps) o := by
  obtain ⟨o, h1, h2⟩ := implOrb_loop ps n hn hL hp (tot (stl n)).toNat (stl n) (by have := tot_nonneg (stl n) (fun i hi => by rw [stl_rd n i (by rwa [stl_length] at hi)]; omega); omega) (stl_orbI ps n)
  refine ⟨o, h1, ?_⟩
  unfold impl_orbits.f
  have hz : (rd_L1 ps 0).length = n := by
    have := rdL_nth ps 0 h0
    rw [show ((0 : Nat) : Int) = 0 from rfl] at this
    rw [this]
    exact (hp _ (List.getElem_mem h0)).1
  simp only [show (0 : Int) < (ps.length : Int) by omega, if_true, hz]
  exact Ev.bind (still_ev n (by omega)) h2
def lag (o g : List Int) : Nat → Nat
  | 0 => 0
  | i + 1 => (if rd o i = rd g i then 0 else 1) + lag o g i
theorem lag_le (o g : List Int) : ∀ i, lag o g i ≤ i
  | 0 => Nat.le_refl _
  | i + 1 => by have := lag_le o g i; simp only [lag]; split <;> omega
theorem lag_zero (o g : List Int) : ∀ n, lag o g n = 0 → ∀ i, i < n → rd o i = rd g i
  | 0, _, i, h => by omega
  | n + 1, hz, i, h => by
    simp only [lag] at hz
    by_cases e : i = n
    · subst e
      by_cases c : rd o i = rd g i
      · exact c
      · rw [if_neg c] at hz; omega
    · exact lag_zero o g n (by omega) i (by omega)
theorem lag_mono (o o' g : List Int) (h : ∀ i : Nat, rd o i = rd g i → rd o' i = rd g i) : ∀ n, lag o' g n ≤ lag o g n
  | 0 => Nat.le_refl _
  | n + 1 => by
    have ih := lag_mono o o' g h n
    simp only [lag]
    by_cases c : rd o n = rd g n
    · rw [if_pos c, if_pos (h n c)]; omega
    · rw [if_neg c]; split <;> omega
theorem lag_lt (o o' g : List Int) (h : ∀ i : Nat, rd o i = rd g i → rd o' i = rd g i) (z : Nat) (hz : rd o z ≠ rd g z) (hz' : rd o' z = rd g z) : ∀ n, z < n → lag o' g n < lag o g n
  | 0, hn => by omega
  | n + 1, hn => by
    simp only [lag]
    by_cases e : z = n
    · subst e
      have := lag_mono o o' g h z
      rw [if_neg hz, if_pos hz']; omega
    · have ih := lag_lt o o' g h z hz hz' n (by omega)
      by_cases c : rd o n = rd g n
      · rw [if_pos c, if_pos (h n c)]; omega
      · rw [if_neg c]; split <;> omega
theorem mn_eq (a b : Int) : mn a b = if a ≤ b then a else b := by unfold mn; split <;> split <;> omega
theorem specOrb_sweep (t f : List Int) (n : Nat) (hn : n ≤ 12) (ht : inR n t) (hf : inR n f) (g : List Int) (hg : orbOk [t, f] n g) (round : Int) : ∀ (d i : Nat) (o : List Int), n - i = d → i ≤ n → orbI [t, f] n o →
    ∃ o', orbI [t, f] n o' ∧ (∀ r, Ev (fun k => spec_l1Orbits.l0 k t f o' (wrap64 (round + 1))) r → Ev (fun k => spec_l1Orbits.l1 k t f o round i) r) ∧ (∀ z : Nat, z < n → rd o z = rd g z → rd o' z = rd g z) ∧
      (∀ j : Nat, i ≤ j → j < n → (rd o j = rd g j ∨ rd o (rd t j) = rd g (rd t j) ∨ rd o (rd f j) = rd g (rd f j)) → rd o' j = rd g j ∧ rd o' (rd t j) = rd g (rd t j) ∧ rd o' (rd f j) = rd g (rd f j))
  | 0, i, o, hd, hi, ho => by
    refine ⟨o, ho, fun r h => Ev.s ?_, fun z _ h => h, fun j h1 h2 => by omega⟩
    simp only [spec_l1Orbits.l1, ht.1, show ¬ (i : Int) < (n : Int) by omega, if_false]
    exact h
  | d + 1, i, o, hd, hi, ho => by
    have hlt : i < n := by omega
    have hd1 : n - (i + 1) = d := by omega
    have hw : wrap64 ((i : Int) + 1) = ((i + 1 : Nat) : Int) := by rw [w64 (by omega) (by omega)]; omega
    have hps : ∀ p ∈ [t, f], inR n p := by intro p hp; simp at hp; rcases hp with rfl | rfl <;> assumption
    have hra := ht.2 i hlt
    have hrb := hf.2 i hlt
    have sta := Reach.step (ps := [t, f]) (p := t) (by simp) hlt
    have stb := Reach.step (ps := [t, f]) (p := f) (by simp) hlt
    have ca := hg.2 t (by simp) i hlt
    have cb := hg.2 f (by simp) i hlt
    obtain ⟨a, hta⟩ : ∃ a : Nat, rd t i = a := ⟨(rd t i).toNat, by omega⟩
    obtain ⟨b, hfb⟩ : ∃ b : Nat, rd f i = b := ⟨(rd f i).toNat, by omega⟩
    rw [hta, Int.toNat_natCast] at sta
    rw [hfb, Int.toNat_natCast] at stb
    rw [hta] at ca
    rw [hfb] at cb
    have han : a < n := by omega
    have hbn : b < n := by omega
    have hlen := ho.1
    obtain ⟨i0, i1, i2⟩ := ho.2 i hlt
    obtain ⟨a0, a1, a2⟩ := ho.2 a han
    obtain ⟨b0, b1, b2⟩ := ho.2 b hbn
    have li := orbOk_le hg ho hps hlt
    have la := orbOk_le hg ho hps han
    have lb := orbOk_le hg ho hps hbn
    obtain ⟨v, hv⟩ : ∃ v, mn (rd o i) (mn (rd o a) (rd o b)) = v := ⟨_, rfl⟩
    have hvm : v ≤ rd o i ∧ v ≤ rd o a ∧ v ≤ rd o b ∧ (v = rd o i ∨ v = rd o a ∨ v = rd o b) := by
      rw [← hv, mn_eq, mn_eq]
      split <;> split at * <;> omega
    have hv0 : 0 ≤ v := by omega
    have hrv : Reach [t, f] n v.toNat i := by
      rcases hvm.2.2.2 with e | e | e
      · rw [e]; exact i2
      · rw [e]; exact a2.trans sta.symm
      · rw [e]; exact b2.trans stb.symm
    have ho1 := orbI_put ho hlt hv0 (by omega) hrv
    have ho2 := orbI_put ho1 han hv0 (by omega) (hrv.trans sta)
    have ho3 := orbI_put ho2 hbn hv0 (by omega) (hrv.trans stb)
    obtain ⟨o3, ho3e⟩ : ∃ o3, ((o.set i v).set a v).set b v = o3 := ⟨_, rfl⟩
    rw [ho3e] at ho3
    have rdo3 : ∀ z : Nat, rd o3 z = if z = i ∨ z = a ∨ z = b then v else rd o z := by
      intro z
      rw [← ho3e]
      by_cases z3 : b = z
      · subst z3; rw [rd_set_self _ _ _ (by simp; omega)]; simp
      · rw [rd_set_ne _ _ _ _ z3]
        by_cases z2 : a = z
        · subst z2; rw [rd_set_self _ _ _ (by simp; omega)]; simp
        · rw [rd_set_ne _ _ _ _ z2]
          by_cases z1 : i = z
          · subst z1; rw [rd_set_self _ _ _ (by omega)]; simp
          · rw [rd_set_ne _ _ _ _ z1, if_neg (by omega)]
    have keep3 : ∀ z : Nat, z < n → rd o z = rd g z → rd o3 z = rd g z := by
      intro z hz e
      have l3 := orbOk_le hg ho3 hps hz
      rw [rdo3 z] at l3 ⊢
      by_cases c : z = i ∨ z = a ∨ z = b
      · rw [if_pos c] at l3 ⊢
        have : v ≤ rd o z := by rcases c with rfl | rfl | rfl <;> omega
        omega
      · rw [if_neg c]; exact e
    obtain ⟨o', c1, c2, c3, c4⟩ := specOrb_sweep t f n hn ht hf g hg round d (i + 1) o3 hd1 hlt ho3
    refine ⟨o', c1, fun r h => Ev.s ?_, fun z hz e => c3 z hz (keep3 z hz e), fun j h1 h2 hj => ?_⟩
    · have hgo := c2 r h
      have g1 : (i : Int) < (n : Int) := by omega
      have g2 : (0 : Int) ≤ (i : Int) := by omega
      have g3 : (0 : Int) ≤ (a : Int) := by omega
      have g4 : (a : Int) < (n : Int) := by omega
      have g5 : (0 : Int) ≤ (b : Int) := by omega
      have g6 : (b : Int) < (n : Int) := by omega
      simp only [spec_l1Orbits.l1, ht.1, hf.1, hlen, g1, g2, g3, g4, g5, g6, hta, hfb, hv, if_true, hw, Int.toNat_natCast, ho3e]
      exact hgo
    · by_cases e : j = i
      · subst e
        have l3 := orbOk_le hg ho3 hps hlt
        have e3 : rd o3 j = v := by rw [rdo3 j, if_pos (.inl rfl)]
        have ea3 : rd o3 a = v := by rw [rdo3 a, if_pos (.inr (.inl rfl))]
        have eb3 : rd o3 b = v := by rw [rdo3 b, if_pos (.inr (.inr rfl))]
        rw [hta, hfb] at hj ⊢
        have hvg : v = rd g j := by
          rcases hj with z | z | z <;> omega
        exact ⟨c3 j hlt (by omega), c3 a han (by omega), c3 b hbn (by omega)⟩
      · refine c4 j (by omega) h2 ?_
        have hta' := ht.2 j h2
        have hfb' := hf.2 j h2
        obtain ⟨a', ha'⟩ : ∃ a' : Nat, rd t j = a' := ⟨(rd t j).toNat, by omega⟩
        obtain ⟨b', hb'⟩ : ∃ b' : Nat, rd f j = b' := ⟨(rd f j).toNat, by omega⟩
        rw [ha', hb'] at hj ⊢
        rcases hj with z | z | z
        · exact .inl (keep3 j h2 z)
        · exact .inr (.inl (keep3 a' (by omega) z))
        · exact .inr (.inr (keep3 b' (by omega) z))
theorem specOrb_loop (t f : List Int) (n : Nat) (hn : n ≤ 12) (ht : inR n t) (hf : inR n f) (g : List Int) (hg : orbOk [t, f] n g) : ∀ (d i : Nat) (o : List Int), n - i = d → i ≤ n → orbI [t, f] n o → lag o g n ≤ d → Ev (fun k => spec_l1Orbits.l0 k t f o i) g
  | 0, i, o, hd, hi, ho, hl => by
    refine Ev.s ?_
    simp only [spec_l1Orbits.l0, ht.1, show ¬ (i : Int) < (n : Int) by omega, if_false]
    have : o = g := list_ext o g (ho.1.trans hg.1.1.symm) fun z hz => lag_zero o g n (by omega) z (by rw [← ho.1]; exact hz)
    exact Ev.const (by rw [this])
  | d + 1, i, o, hd, hi, ho, hl => by
    have hlt : i < n := by omega
    have hd1 : n - (i + 1) = d := by omega
    have hw : wrap64 ((i : Int) + 1) = ((i + 1 : Nat) : Int) := by rw [w64 (by omega) (by omega)]; omega
    have hps : ∀ p ∈ [t, f], inR n p := by intro p hp; simp at hp; rcases hp with rfl | rfl <;> assumption
    obtain ⟨o', c1, c2, c3, c4⟩ := specOrb_sweep t f n hn ht hf g hg i n 0 o (by omega) (by omega) ho
    refine Ev.s ?_
    simp only [spec_l1Orbits.l0, ht.1, show (i : Int) < (n : Int) by omega, if_true]
    refine c2 g ?_
    rw [hw]
    refine specOrb_loop t f n hn ht hf g hg d (i + 1) o' hd1 hlt c1 ?_
    have hout : ∀ z : Nat, ¬ z < n → rd o z = rd o' z := by
      intro z hz
      unfold rd
      rw [Int.toNat_natCast, List.getD_eq_getElem?_getD, List.getD_eq_getElem?_getD, List.getElem?_eq_none (by rw [ho.1]; omega), List.getElem?_eq_none (by rw [c1.1]; omega)]
    have keep : ∀ z : Nat, rd o z = rd g z → rd o' z = rd g z := fun z e => by
      by_cases hz : z < n
      · exact c3 z hz e
      · rw [← hout z hz]; exact e
    by_cases hz : lag o g n = 0
    · have := lag_mono o o' g keep n
      omega
    · -- some point has not its label: some step leads from one that has it to one that has it not
      have hex : ∃ z : Nat, z < n ∧ rd o z ≠ rd g z ∧ rd o' z = rd g z := by
        refine Classical.byContradiction fun hno => ?_
        have hsame : ∀ z : Nat, z < n → (rd o z = rd g z ↔ rd o' z = rd g z) := fun z hz => ⟨keep z, fun e => Classical.byContradiction fun hne => hno ⟨z, hz, hne, e⟩⟩
        have hcl : closedL [t, f] n (fun z => rd o z = rd g z) := by
          intro p hp k hk
          have hr := (hps p hp).2 k hk
          obtain ⟨a, ha⟩ : ∃ a : Nat, rd p k = a := ⟨(rd p k).toNat, by omega⟩
          have han : a < n := by omega
          rw [ha, Int.toNat_natCast]
          show rd o k = rd g k ↔ rd o a = rd g a
          have h4 := c4 k (by omega) hk
          simp at hp
          rcases hp with rfl | rfl
          · rw [ha] at h4
            exact ⟨fun e => (hsame a han).2 (h4 (.inl e)).2.1, fun e => (hsame k hk).2 (h4 (.inr (.inl e))).1⟩
          · rw [ha] at h4
            exact ⟨fun e => (hsame a han).2 (h4 (.inl e)).2.2, fun e => (hsame k hk).2 (h4 (.inr (.inr e))).1⟩
        have hall : ∀ z : Nat, z < n → rd o z = rd g z := by
          intro z hz
          obtain ⟨g0, g1, g2⟩ := hg.1.2 z hz
          have hm : (rd g z).toNat < n := by omega
          have e1 : ((rd g z).toNat : Int) = rd g z := by omega
          have hgm : rd g ((rd g z).toNat : Nat) = rd g z := orbOk_const hg hps g2
          have hom : rd o ((rd g z).toNat : Nat) = rd g ((rd g z).toNat : Nat) := by
            have h1 := orbOk_le hg ho hps hm
            have h2 := (ho.2 _ hm).2.1
            omega
          exact (g2 _ hcl).1 hom
        have : lag o g n = 0 := by
          have hz0 : ∀ m, m ≤ n → lag o g m = 0 := by
            intro m
            induction m with
            | zero => intro _; rfl
            | succ m ih => intro hm; simp only [lag]; rw [if_pos (hall m (by omega)), ih (by omega)]
          exact hz0 n (Nat.le_refl _)
        exact hz this
      obtain ⟨z, z1, z2, z3⟩ := hex
      have := lag_lt o o' g keep z z2 z3 n z1
      omega
theorem orb_both (t f : List Int) (n : Nat) (hn : n ≤ 12) (h1 : 1 ≤ n) (ht : inR n t) (hf : inR n f) : ∃ o, orbOk [t, f] n o ∧ Ev (fun k => spec_l1Orbits.f k t f) o ∧ Ev (fun k => impl_orbits.f k [t, f]) o := by
  have hps : ∀ p ∈ [t, f], inR n p := by intro p hp; simp at hp; rcases hp with rfl | rfl <;> assumption
  obtain ⟨o, ho, he⟩ := implOrb_ev [t, f] n hn (by simp) (by simp) hps
  refine ⟨o, ho, ?_, he⟩
  unfold spec_l1Orbits.f
  rw [ht.1]
  refine Ev.bind (same_ev n (by omega)) ?_
  refine specOrb_loop t f n hn ht hf o ho n 0 (stl n) (by omega) (by omega) (stl_orbI _ n) ?_
  exact lag_le _ _ n
theorem isPerm_inR (l : List Int) (h : isPerm l) : inR l.length l := ⟨rfl, fun i hi => ⟨(h.2.2 i hi).1, (h.2.2 i hi).2.1⟩⟩
end Go.Proofs.Ytcjmgkbbmahgcaa.PE

set_option linter.unusedVariables false
set_option linter.unusedSimpArgs false
namespace Go.Proofs.Ytcjmgkbbmahgcaa.PE
open Go.RowKit Go.Proofs.YtcjmgkbbmahgcaaW.PrintWords Go.Proofs.YtcjmgkbbmahgcaaW.PrintLast Go.Proofs.YtcjmgkbbmahgcaaW.PrintMore
def sm : Nat → (Nat → Int) → Int
  | 0, _ => 0
  | n + 1, g => sm n g + g n
theorem sm_congr (g h : Nat → Int) : ∀ n, (∀ i, i < n → g i = h i) → sm n g = sm n h
  | 0, _ => rfl
  | n + 1, e => by
    simp only [sm]
    rw [sm_congr g h n fun i hi => e i (by omega), e n (by omega)]
theorem sm_shift (g : Nat → Int) : ∀ n, sm (n + 1) g = g 0 + sm n (fun i => g (i + 1))
  | 0 => by simp [sm]
  | n + 1 => by
    rw [sm, sm_shift g n, sm]
    omega
theorem sm_mul (a : Int) (g : Nat → Int) : ∀ n, a * sm n g = sm n (fun i => a * g i)
  | 0 => by simp [sm]
  | n + 1 => by
    simp only [sm]
    rw [Int.mul_add, sm_mul a g n]
theorem sm_add (g h : Nat → Int) : ∀ n, sm n g + sm n h = sm n (fun i => g i + h i)
  | 0 => by simp [sm]
  | n + 1 => by
    simp only [sm]
    rw [← sm_add g h n]
    omega
theorem sm_zero : ∀ n, sm n (fun _ => 0) = 0
  | 0 => rfl
  | n + 1 => by simp [sm, sm_zero n]
theorem sm_comm (g : Nat → Nat → Int) (m : Nat) : ∀ n, sm n (fun i => sm m (fun j => g i j)) = sm m (fun j => sm n (fun i => g i j))
  | 0 => by simp [sm, sm_zero]
  | n + 1 => by
    simp only [sm]
    rw [sm_comm g m n, sm_add]
def sgn : Nat → Int
  | 0 => 1
  | n + 1 => -sgn n
def skip (i a : Nat) : Nat := if a < i then a else a + 1
theorem skip_zero (i : Nat) : skip (i + 1) 0 = 0 := by simp [skip]
theorem skip_succ (i a : Nat) : skip (i + 1) (a + 1) = skip i a + 1 := by
  unfold skip
  by_cases h : a < i
  · rw [if_pos h, if_pos (by omega)]
  · rw [if_neg h, if_neg (by omega)]
def dR : Nat → (Nat → Nat → Int) → Int
  | 0, _ => 1
  | n + 1, M => sm (n + 1) fun j => sgn j * M 0 j * dR n fun a b => M (a + 1) (skip j b)
def dC : Nat → (Nat → Nat → Int) → Int
  | 0, _ => 1
  | n + 1, M => sm (n + 1) fun i => sgn i * M i 0 * dC n fun a b => M (skip i a) (b + 1)
theorem skip_lt (i a n : Nat) (h : a < n) : skip i a < n + 1 := by unfold skip; split <;> omega
theorem dR_congr : ∀ n (M N : Nat → Nat → Int), (∀ a b, a < n → b < n → M a b = N a b) → dR n M = dR n N
  | 0, _, _, _ => rfl
  | n + 1, M, N, h => by
    simp only [dR]
    refine sm_congr _ _ _ fun j hj => ?_
    rw [h 0 j (by omega) hj, dR_congr n _ _ fun a b ha hb => h (a + 1) (skip j b) (by omega) (skip_lt j b n hb)]
theorem dC_congr : ∀ n (M N : Nat → Nat → Int), (∀ a b, a < n → b < n → M a b = N a b) → dC n M = dC n N
  | 0, _, _, _ => rfl
  | n + 1, M, N, h => by
    simp only [dC]
    refine sm_congr _ _ _ fun j hj => ?_
    rw [h j 0 hj (by omega), dC_congr n _ _ fun a b ha hb => h (skip j a) (b + 1) (skip_lt j a n ha) (by omega)]
theorem det_same : ∀ n, (∀ M, dR n M = dC n M) ∧ (∀ M, dR (n + 1) M = dC (n + 1) M)
  | 0 => ⟨fun _ => rfl, fun M => by simp [dR, dC, sm]⟩
  | n + 1 => by
    obtain ⟨h0, h1⟩ := det_same n
    refine ⟨h1, fun M => ?_⟩
    have eR : dR (n + 2) M = M 0 0 * dR (n + 1) (fun a b => M (a + 1) (b + 1)) + sm (n + 1) (fun j => sm (n + 1) fun i => -(sgn j * sgn i) * (M 0 (j + 1) * M (i + 1) 0) * dR n fun a b => M (skip i a + 1) (skip j b + 1)) := by
      rw [dR, sm_shift]
      congr 1
      · simp only [sgn, Int.one_mul]
        congr 1
      · refine sm_congr _ _ _ fun j hj => ?_
        rw [h1, dC, sm_mul]
        refine sm_congr _ _ _ fun i hi => ?_
        simp only [skip_zero, skip_succ, sgn]
        rw [← h0]
        simp only [Int.neg_mul, Int.mul_assoc, Int.mul_neg, Int.mul_left_comm]
    have eC : dC (n + 2) M = M 0 0 * dC (n + 1) (fun a b => M (a + 1) (b + 1)) + sm (n + 1) (fun i => sm (n + 1) fun j => -(sgn j * sgn i) * (M 0 (j + 1) * M (i + 1) 0) * dR n fun a b => M (skip i a + 1) (skip j b + 1)) := by
      rw [dC, sm_shift]
      congr 1
      · simp only [sgn, Int.one_mul]
        congr 1
      · refine sm_congr _ _ _ fun i hi => ?_
        rw [← h1, dR, sm_mul]
        refine sm_congr _ _ _ fun j hj => ?_
        simp only [skip_zero, skip_succ, sgn]
        simp only [Int.neg_mul, Int.mul_assoc, Int.mul_neg, Int.mul_left_comm]
    rw [eR, eC, h1, sm_comm]
theorem wrap_mod (x : Int) : ∃ k : Int, wrap64 x = x + k * 18446744073709551616 := by
  unfold wrap64
  refine ⟨-((x + 9223372036854775808) / 18446744073709551616), ?_⟩
  omega
theorem wrap_add_mul (x k : Int) : wrap64 (x + k * 18446744073709551616) = wrap64 x := by
  unfold wrap64
  omega
theorem wrap_step (s a b d : Int) : wrap64 (wrap64 s + wrap64 (wrap64 (a * b) * wrap64 d)) = wrap64 (s + a * b * d) := by
  obtain ⟨k1, e1⟩ := wrap_mod s
  obtain ⟨k2, e2⟩ := wrap_mod (a * b)
  obtain ⟨k3, e3⟩ := wrap_mod d
  obtain ⟨k4, e4⟩ := wrap_mod (wrap64 (a * b) * wrap64 d)
  rw [e4, e1, e2, e3]
  have : s + k1 * 18446744073709551616 + ((a * b + k2 * 18446744073709551616) * (d + k3 * 18446744073709551616) + k4 * 18446744073709551616) = (s + a * b * d) + (k1 + (a * b) * k3 + k2 * d + k2 * k3 * 18446744073709551616 + k4) * 18446744073709551616 := by
    simp only [Int.add_mul, Int.mul_add, Int.mul_assoc, Int.mul_comm 18446744073709551616]
    have c1 : k2 * (18446744073709551616 * d) = k2 * (d * 18446744073709551616) := by rw [Int.mul_comm d]
    simp only [Int.mul_comm d, Int.mul_left_comm]
    omega
  rw [this, wrap_add_mul]
end Go.Proofs.Ytcjmgkbbmahgcaa.PE

set_option linter.unusedVariables false
set_option linter.unusedSimpArgs false
namespace Go.Proofs.Ytcjmgkbbmahgcaa.PE
open Go.RowKit Go.Proofs.YtcjmgkbbmahgcaaW.PrintWords Go.Proofs.YtcjmgkbbmahgcaaW.PrintLast Go.Proofs.YtcjmgkbbmahgcaaW.PrintMore
def sq (T : List (List Int)) (m : Nat) : Prop := T.length = m ∧ ∀ i : Nat, i < m → (rd_L1 T (i : Int)).length = m
def ent (T : List (List Int)) (a b : Nat) : Int := rd (rd_L1 T (a : Int)) (b : Int)
theorem ll_rd (L : List (List Int)) (i : Nat) (h : i < L.length) : rd_L1 L (i : Int) = L[i] := by
  unfold rd_L1
  rw [Int.toNat_natCast, List.getD_eq_getElem?_getD, List.getElem?_eq_getElem h]
  rfl
theorem ll_app_lt (L M : List (List Int)) (i : Nat) (h : i < L.length) : rd_L1 (L ++ M) (i : Int) = rd_L1 L (i : Int) := by
  rw [ll_rd _ i (by simp; omega), ll_rd L i h, List.getElem_append_left h]
theorem ll_app_at (L : List (List Int)) (x : List Int) : rd_L1 (L ++ [x]) (L.length : Int) = x := by
  rw [ll_rd _ _ (by simp), List.getElem_append_right (Nat.le_refl _)]
  simp
theorem rd_drop (l : List Int) (a b : Nat) : rd (l.drop a) (b : Int) = rd l ((a + b : Nat) : Int) := by
  unfold rd
  rw [Int.toNat_natCast, Int.toNat_natCast, List.getD_eq_getElem?_getD, List.getD_eq_getElem?_getD, List.getElem?_drop]
def del (l : List Int) (c : Nat) : List Int := ([] ++ l.take c) ++ l.drop (c + 1)
theorem del_len (l : List Int) (c : Nat) (h : c < l.length) : (del l c).length + 1 = l.length := by
  simp only [del, List.nil_append, List.length_append, List.length_take, List.length_drop]
  omega
theorem del_rd (l : List Int) (c b : Nat) (hc : c < l.length) : rd (del l c) (b : Int) = rd l ((skip c b : Nat) : Int) := by
  unfold rd del skip
  rw [Int.toNat_natCast, Int.toNat_natCast, List.getD_eq_getElem?_getD, List.getD_eq_getElem?_getD, List.nil_append, List.getElem?_append, List.length_take]
  by_cases h : b < c
  · rw [if_pos h, if_pos (by omega), List.getElem?_take, if_pos h]
  · rw [if_neg h, if_neg (by omega), List.getElem?_drop]
    congr 2
    omega
def mR (T : List (List Int)) (c : Nat) : Nat → List (List Int)
  | 0 => []
  | r + 1 => mR T c r ++ [del (rd_L1 T ((r + 1 : Nat) : Int)) c]
theorem mR_len (T : List (List Int)) (c : Nat) : ∀ r, (mR T c r).length = r
  | 0 => rfl
  | r + 1 => by simp [mR, mR_len T c r]
theorem mR_row (T : List (List Int)) (c : Nat) : ∀ r a, a < r → rd_L1 (mR T c r) (a : Int) = del (rd_L1 T ((a + 1 : Nat) : Int)) c
  | r + 1, a, h => by
    simp only [mR]
    by_cases e : a < r
    · rw [ll_app_lt _ _ _ (by rw [mR_len]; exact e)]
      exact mR_row T c r a e
    · have : a = r := by omega
      subst this
      have := ll_app_at (mR T c a) (del (rd_L1 T ((a + 1 : Nat) : Int)) c)
      rwa [mR_len] at this
def mC (T : List (List Int)) (i : Nat) : Nat → List (List Int)
  | 0 => []
  | r + 1 => if r = i then mC T i r else mC T i r ++ [(rd_L1 T (r : Int)).drop 1]
theorem mC_len (T : List (List Int)) (i : Nat) : ∀ r, (mC T i r).length = if r ≤ i then r else r - 1
  | 0 => by simp [mC]
  | r + 1 => by
    have ih := mC_len T i r
    simp only [mC]
    by_cases e : r = i
    · subst e
      rw [if_pos rfl, ih, if_pos (Nat.le_refl _), if_neg (by omega)]
      omega
    · rw [if_neg e, List.length_append, ih, List.length_singleton]
      by_cases e2 : r ≤ i
      · rw [if_pos e2, if_pos (by omega)]
      · rw [if_neg e2, if_neg (by omega)]
        omega
theorem mC_row (T : List (List Int)) (i : Nat) : ∀ r a, a < (mC T i r).length → rd_L1 (mC T i r) (a : Int) = (rd_L1 T ((skip i a : Nat) : Int)).drop 1
  | 0, a, h => by simp [mC] at h
  | r + 1, a, h => by
    have hl := mC_len T i r
    simp only [mC] at h ⊢
    by_cases e : r = i
    · rw [if_pos e] at h ⊢
      exact mC_row T i r a h
    · rw [if_neg e] at h ⊢
      by_cases e2 : a < (mC T i r).length
      · rw [ll_app_lt _ _ _ e2]
        exact mC_row T i r a e2
      · have ha : a = (mC T i r).length := by simp at h; omega
        rw [ha, ll_app_at, hl]
        unfold skip
        by_cases c : r ≤ i
        · rw [if_pos c, if_pos (by omega)]
        · rw [if_neg c, if_neg (by omega), show r - 1 + 1 = r by omega]
theorem wrap_zero : wrap64 0 = 0 := w64 (by omega) (by omega)
theorem sgn_val : ∀ j, sgn j = 1 ∨ sgn j = -1
  | 0 => .inl rfl
  | j + 1 => by
    rcases sgn_val j with h | h
    · right; simp [sgn, h]
    · left; simp [sgn, h]
theorem sgn_wrap (j : Nat) : wrap64 (-sgn j) = sgn (j + 1) := by
  rcases sgn_val j with h | h
  · simp only [sgn, h]; exact w64 (by omega) (by omega)
  · simp only [sgn, h]; exact w64 (by omega) (by omega)
def tR (T : List (List Int)) (m j : Nat) : Int := sgn j * ent T 0 j * dR m fun a b => ent T (a + 1) (skip j b)
def tC (T : List (List Int)) (m i : Nat) : Int := sgn i * ent T i 0 * dC m fun a b => ent T (skip i a) (b + 1)
theorem specDet_rows (T : List (List Int)) (m : Nat) (hm : m ≤ 12) (hT : sq T (m + 1)) (j : Nat) (hj : j < m + 1) (x3 x4 : Int) (r : Int) (h : Ev (fun k => (spec_l7Det.f k (mR T j m)).bind fun t => spec_l7Det.l0 k T (wrap64 (x3 + wrap64 (wrap64 (x4 * ent T 0 j) * t))) (wrap64 (-x4)) (wrap64 ((j : Int) + 1))) r) : ∀ (d q : Nat), m - q = d → q ≤ m → Ev (fun k => spec_l7Det.l1 k T x3 x4 j (mR T j q) ((q + 1 : Nat) : Int)) r
  | 0, q, hd, hq => by
    have : q = m := by omega
    subst this
    have l0 := hT.2 0 (by omega)
    refine Ev.s ?_
    simp only [spec_l7Det.l1, hT.1, show ¬ ((q + 1 : Nat) : Int) < ((q + 1 : Nat) : Int) by omega, show (0 : Int) < ((q + 1 : Nat) : Int) by omega, show (0 : Int) ≤ (j : Int) by omega, if_true, if_false]
    rw [show ((0 : Nat) : Int) = 0 from rfl] at l0
    simp only [l0, show (j : Int) < ((q + 1 : Nat) : Int) by omega, if_true]
    exact h
  | d + 1, q, hd, hq => by
    have ih := specDet_rows T m hm hT j hj x3 x4 r h d (q + 1) (by omega) (by omega)
    have l1 := hT.2 (q + 1) (by omega)
    have wj : j < 4611686018427387904 := by omega
    have wq : q + 1 < 4611686018427387904 := by omega
    have g1 : ([] : List Int).length + ((rd_L1 T ((q + 1 : Nat) : Int)).take j).length < 17592186044416 := by rw [List.length_nil, List.length_take]; omega
    have g2 : ([] ++ (rd_L1 T ((q + 1 : Nat) : Int)).take j).length + ((rd_L1 T ((q + 1 : Nat) : Int)).drop (j + 1)).length < 17592186044416 := by rw [List.nil_append, List.length_take, List.length_drop]; omega
    have g3 : (mR T j q).length < 5864062014805 := by rw [mR_len]; omega
    refine Ev.s ?_
    simp only [spec_l7Det.l1, hT.1, show ((q + 1 : Nat) : Int) < ((m + 1 : Nat) : Int) by omega, show (0 : Int) ≤ ((q + 1 : Nat) : Int) by omega, show (0 : Int) ≤ (j : Int) by omega, l1, show (j : Int) ≤ ((m + 1 : Nat) : Int) by omega, if_true, Int.toNat_natCast, spec_l2Copy.f, Option.bind_some, g1, w64n wj, show (0 : Int) ≤ ((j + 1 : Nat) : Int) by omega, show ((j + 1 : Nat) : Int) ≤ ((m + 1 : Nat) : Int) by omega, g2, g3, w64n wq]
    exact ih
theorem specDet_ev : ∀ (m : Nat) (T : List (List Int)), m ≤ 12 → sq T m → Ev (fun k => spec_l7Det.f k T) (wrap64 (dR m (ent T)))
  | 0, T, hm, hT => by
    refine Ev.s ?_
    simp only [spec_l7Det.f, hT.1, show ((0 : Nat) : Int) = 0 from rfl, if_true]
    exact Ev.const (by show some 1 = some (wrap64 1); rw [w64 (by omega) (by omega)])
  | m + 1, T, hm, hT => by
    have run : ∀ (d j : Nat), m + 1 - j = d → j ≤ m + 1 → Ev (fun k => spec_l7Det.l0 k T (wrap64 (sm j (tR T m))) (sgn j) j) (wrap64 (sm (m + 1) (tR T m))) := by
      intro d
      induction d with
      | zero =>
        intro j hd hj
        have : j = m + 1 := by omega
        subst this
        refine Ev.s ?_
        simp only [spec_l7Det.l0, hT.1, show ¬ ((m + 1 : Nat) : Int) < ((m + 1 : Nat) : Int) by omega, if_false]
        exact Ev.const rfl
      | succ d ih =>
        intro j hd hj
        have ih' := ih (j + 1) (by omega) (by omega)
        have l0 := hT.2 0 (by omega)
        rw [show ((0 : Nat) : Int) = 0 from rfl] at l0
        have wj : j < 4611686018427387904 := by omega
        refine Ev.s ?_
        simp only [spec_l7Det.l0, hT.1, show (j : Int) < ((m + 1 : Nat) : Int) by omega, show (0 : Int) < ((m + 1 : Nat) : Int) by omega, show (0 : Int) ≤ (j : Int) by omega, l0, if_true, sgn_wrap, w64n wj]
        have e0 : ent T 0 j = rd (rd_L1 T 0) (j : Int) := rfl
        by_cases z : rd (rd_L1 T 0) (j : Int) = 0
        · simp only [z, if_true]
          have : sm (j + 1) (tR T m) = sm j (tR T m) := by
            simp only [sm, tR, e0, z]
            simp
          rw [this] at ih'
          exact ih'
        · simp only [z, if_false]
          refine specDet_rows T m (by omega) hT j (by omega) _ _ _ ?_ m 0 (by omega) (by omega)
          have hsq : sq (mR T j m) m := by
            refine ⟨mR_len T j m, fun i hi => ?_⟩
            rw [mR_row T j m i hi]
            have := hT.2 (i + 1) (by omega)
            have := del_len (rd_L1 T ((i + 1 : Nat) : Int)) j (by omega)
            omega
          refine Ev.bind (specDet_ev m (mR T j m) (by omega) hsq) ?_
          have ed : dR m (ent (mR T j m)) = dR m fun a b => ent T (a + 1) (skip j b) := dR_congr m _ _ fun a b ha hb => by
            have := hT.2 (a + 1) (by omega)
            unfold ent
            rw [mR_row T j m a ha, del_rd _ _ _ (by omega)]
          rw [ed, wrap_step, sgn_wrap, w64n wj]
          exact ih'
    have := run (m + 1) 0 (by omega) (by omega)
    simp only [sm, wrap_zero, sgn] at this
    refine Ev.s ?_
    simp only [spec_l7Det.f, hT.1, show ¬ ((m + 1 : Nat) : Int) = 0 by omega, if_false]
    exact this
theorem implDet_rows (T : List (List Int)) (m : Nat) (hm : m ≤ 12) (hT : sq T (m + 1)) (i : Nat) (hi : i < m + 1) (x3 x4 : Int) (r : Int) (h : Ev (fun k => (impl_determinant.f k (mC T i (m + 1))).bind fun t => impl_determinant.l0 k T (wrap64 (x3 + wrap64 (wrap64 (x4 * ent T i 0) * t))) (wrap64 (-x4)) T ((m + 1 : Nat) : Int) (wrap64 ((i : Int) + 1))) r) : ∀ (d q : Nat), m + 1 - q = d → q ≤ m + 1 → Ev (fun k => impl_determinant.l1 k T x3 x4 i (rd_L1 T (i : Int)) (mC T i q) T ((m + 1 : Nat) : Int) i T ((m + 1 : Nat) : Int) q) r
  | 0, q, hd, hq => by
    have : q = m + 1 := by omega
    subst this
    have l0 := hT.2 i hi
    refine Ev.s ?_
    simp only [impl_determinant.l1, show ¬ ((m + 1 : Nat) : Int) < ((m + 1 : Nat) : Int) by omega, if_false, l0, show (0 : Int) < ((m + 1 : Nat) : Int) by omega, if_true]
    exact h
  | d + 1, q, hd, hq => by
    have ih := implDet_rows T m hm hT i hi x3 x4 r h d (q + 1) (by omega) (by omega)
    have l1 := hT.2 q (by omega)
    have wq : q < 4611686018427387904 := by omega
    have hl := mC_len T i q
    have g3 : (mC T i q).length < 5864062014805 := by
      rw [hl]
      split <;> omega
    refine Ev.s ?_
    simp only [impl_determinant.l1, hT.1, show (q : Int) < ((m + 1 : Nat) : Int) by omega, show (0 : Int) ≤ (q : Int) by omega, if_true, w64n wq]
    simp only [mC] at ih
    by_cases e : q = i
    · subst e
      rw [if_pos rfl] at ih
      simp only [if_true]
      exact ih
    · rw [if_neg e] at ih
      simp only [show ¬ (q : Int) = (i : Int) by omega, if_false, l1, show (1 : Int) ≤ ((m + 1 : Nat) : Int) by omega, g3, if_true]
      exact ih
theorem implDet_ev : ∀ (m : Nat) (T : List (List Int)), m ≤ 12 → sq T m → Ev (fun k => impl_determinant.f k T) (wrap64 (dC m (ent T)))
  | 0, T, hm, hT => by
    refine Ev.s ?_
    simp only [impl_determinant.f, hT.1, show ((0 : Nat) : Int) = 0 from rfl, if_true]
    exact Ev.const (by show some 1 = some (wrap64 1); rw [w64 (by omega) (by omega)])
  | m + 1, T, hm, hT => by
    have run : ∀ (d j : Nat), m + 1 - j = d → j ≤ m + 1 → Ev (fun k => impl_determinant.l0 k T (wrap64 (sm j (tC T m))) (sgn j) T ((m + 1 : Nat) : Int) j) (wrap64 (sm (m + 1) (tC T m))) := by
      intro d
      induction d with
      | zero =>
        intro j hd hj
        have : j = m + 1 := by omega
        subst this
        refine Ev.s ?_
        simp only [impl_determinant.l0, show ¬ ((m + 1 : Nat) : Int) < ((m + 1 : Nat) : Int) by omega, if_false]
        exact Ev.const rfl
      | succ d ih =>
        intro j hd hj
        have ih' := ih (j + 1) (by omega) (by omega)
        have l0 := hT.2 j (by omega)
        have wj : j < 4611686018427387904 := by omega
        refine Ev.s ?_
        simp only [impl_determinant.l0, hT.1, show (j : Int) < ((m + 1 : Nat) : Int) by omega, show (0 : Int) < ((m + 1 : Nat) : Int) by omega, show (0 : Int) ≤ (j : Int) by omega, l0, if_true, sgn_wrap, w64n wj]
        have e0 : ent T j 0 = rd (rd_L1 T (j : Int)) 0 := rfl
        by_cases z : rd (rd_L1 T (j : Int)) 0 = 0
        · simp only [z, if_true]
          have : sm (j + 1) (tC T m) = sm j (tC T m) := by
            simp only [sm, tC, e0, z]
            simp
          rw [this] at ih'
          exact ih'
        · simp only [z, if_false]
          refine implDet_rows T m (by omega) hT j (by omega) _ _ _ ?_ (m + 1) 0 (by omega) (by omega)
          have hl : (mC T j (m + 1)).length = m := by
            rw [mC_len, if_neg (by omega)]
            omega
          have hsq : sq (mC T j (m + 1)) m := by
            refine ⟨hl, fun i hi => ?_⟩
            rw [mC_row T j (m + 1) i (by omega), List.length_drop]
            have := hT.2 (skip j i) (skip_lt j i m hi)
            omega
          refine Ev.bind (implDet_ev m (mC T j (m + 1)) (by omega) hsq) ?_
          have ed : dC m (ent (mC T j (m + 1))) = dC m fun a b => ent T (skip j a) (b + 1) := dC_congr m _ _ fun a b ha hb => by
            unfold ent
            rw [mC_row T j (m + 1) a (by omega), rd_drop, Nat.add_comm 1 b]
          rw [ed, wrap_step, sgn_wrap, w64n wj]
          exact ih'
    have := run (m + 1) 0 (by omega) (by omega)
    simp only [sm, wrap_zero, sgn] at this
    refine Ev.s ?_
    simp only [impl_determinant.f, hT.1, show ¬ ((m + 1 : Nat) : Int) = 0 by omega, if_false]
    exact this
end Go.Proofs.Ytcjmgkbbmahgcaa.PE

set_option linter.unusedVariables false
set_option linter.unusedSimpArgs false
namespace Go.Proofs.Ytcjmgkbbmahgcaa.PE
open Go.RowKit Go.Proofs.YtcjmgkbbmahgcaaW.PrintWords Go.Proofs.YtcjmgkbbmahgcaaW.PrintLast Go.Proofs.YtcjmgkbbmahgcaaW.PrintMore
def cw (p : List Int) : Nat → List Bool → List Int → Int → List Bool × List Int
  | 0, s, c, a => (s, c)
  | f + 1, s, c, a => if rdOf false s a = true then (s, c) else cw p f (s.set a.toNat true) (c ++ [a]) (rd p a)
def fresh (s : List Bool) : Nat := s.countP (fun b => !b)
def cyS (p : List Int) (n : Nat) : Nat → List Bool × List (List Int)
  | 0 => (List.replicate n false, [])
  | i + 1 =>
    let q := cw p (n + 1) (cyS p n i).1 [] i
    (q.1, if q.2 = [] then (cyS p n i).2 else (cyS p n i).2 ++ [q.2])
theorem fresh_set : ∀ (s : List Bool) (i : Nat), i < s.length → s.getD i false = false → fresh (s.set i true) + 1 = fresh s
  | b :: s, 0, _, h => by
    simp only [List.getD_cons_zero] at h
    subst h
    simp [fresh]
  | b :: s, i + 1, hi, h => by
    simp only [List.getD_cons_succ] at h
    have ih := fresh_set s i (by simpa using hi) h
    simp only [fresh, List.set_cons_succ, List.countP_cons] at ih ⊢
    omega
theorem rdOf_nat (s : List Bool) (a : Int) (h0 : 0 ≤ a) : rdOf false s a = s.getD a.toNat false := by
  unfold rdOf
  rfl
theorem cw_len (p : List Int) : ∀ (f : Nat) (s : List Bool) (c : List Int) (a : Int), (cw p f s c a).1.length = s.length
  | 0, s, c, a => rfl
  | f + 1, s, c, a => by
    simp only [cw]
    split
    · rfl
    · rw [cw_len p f]; simp
theorem spec_cw (p : List Int) (n : Nat) (hn : n ≤ 1048576) (hp : inR n p) (L : List (List Int)) (hL : L.length ≤ 1048576) (i : Int) (r : List (List Int)) : ∀ (f : Nat) (s : List Bool) (c : List Int) (a : Int), s.length = n → 0 ≤ a → a < n → fresh s < f → c.length + fresh s ≤ 1048577 →
    Ev (fun k => spec_l1Cycles.l0 k p (L ++ [(cw p f s c a).2]) (cw p f s c a).1 (wrap64 (i + 1))) r → Ev (fun k => spec_l1Cycles.l1 k p L s i c a) r
  | 0, s, c, a, hs, h0, h1, hf, hc, h => absurd hf (Nat.not_lt_zero _)
  | f + 1, s, c, a, hs, h0, h1, hf, hc, h => by
    refine Ev.s ?_
    simp only [cw] at h
    have hL' : L.length < 5864062014805 := by omega
    have hc' : c.length < 17592186044416 := by omega
    simp only [spec_l1Cycles.l1, h0, hs, h1, hp.1, hL', hc', if_true]
    by_cases e : rdOf false s a = true
    · simp only [e, if_true] at h ⊢
      exact h
    · simp only [e, if_false] at h ⊢
      have h3 : s.getD a.toNat false = false := by rw [← rdOf_nat s a h0]; simpa using e
      have h4 := fresh_set s a.toNat (by omega) h3
      have h5 := hp.2 a.toNat (by omega)
      rw [show ((a.toNat : Nat) : Int) = a by omega] at h5
      exact spec_cw p n hn hp L hL i r f _ _ _ (by simpa using hs) h5.1 h5.2 (by omega) (by simp only [List.length_append, List.length_cons, List.length_nil]; omega) h
theorem impl_cw (p : List Int) (n : Nat) (hn : n ≤ 1048576) (hp : inR n p) (L : List (List Int)) (hL : L.length ≤ 1048576) (m i : Int) (r : List (List Int)) : ∀ (f : Nat) (s : List Bool) (c : List Int) (a : Int), s.length = n → 0 ≤ a → a < n → fresh s < f → c.length + fresh s ≤ 1048577 →
    Ev (fun k => impl_cyclesOf.l0 k p (if (cw p f s c a).2 = [] then L else L ++ [(cw p f s c a).2]) (cw p f s c a).1 m (wrap64 (i + 1))) r → Ev (fun k => impl_cyclesOf.l1 k p L s c a m i) r
  | 0, s, c, a, hs, h0, h1, hf, hc, h => absurd hf (Nat.not_lt_zero _)
  | f + 1, s, c, a, hs, h0, h1, hf, hc, h => by
    refine Ev.s ?_
    simp only [cw] at h
    have hL' : L.length < 5864062014805 := by omega
    have hc' : c.length < 17592186044416 := by omega
    simp only [impl_cyclesOf.l1, h0, hs, h1, hp.1, hL', hc', if_true]
    by_cases e : rdOf false s a = true
    · simp only [e, if_true] at h ⊢
      cases c with
      | nil => simpa using h
      | cons b c => simpa using h
    · simp only [e, if_false] at h ⊢
      have h3 : s.getD a.toNat false = false := by rw [← rdOf_nat s a h0]; simpa using e
      have h4 := fresh_set s a.toNat (by omega) h3
      have h5 := hp.2 a.toNat (by omega)
      rw [show ((a.toNat : Nat) : Int) = a by omega] at h5
      exact impl_cw p n hn hp L hL m i r f _ _ _ (by simpa using hs) h5.1 h5.2 (by omega) (by simp only [List.length_append, List.length_cons, List.length_nil]; omega) h
theorem fresh_le (s : List Bool) : fresh s ≤ s.length := List.countP_le_length
theorem cyS_len (p : List Int) (n : Nat) : ∀ i, (cyS p n i).1.length = n
  | 0 => by simp [cyS]
  | i + 1 => by simp only [cyS]; rw [cw_len, cyS_len p n i]
theorem cyS_many (p : List Int) (n : Nat) : ∀ i, (cyS p n i).2.length ≤ i
  | 0 => by simp [cyS]
  | i + 1 => by
    have ih := cyS_many p n i
    simp only [cyS]
    split
    · omega
    · simp only [List.length_append, List.length_cons, List.length_nil]; omega
theorem cw_seen (p : List Int) (f : Nat) (s : List Bool) (c : List Int) (a : Int) (h : rdOf false s a = true) : cw p f s c a = (s, c) := by
  cases f with
  | zero => rfl
  | succ f => simp only [cw, h, if_true]
theorem cw_more (p : List Int) : ∀ (f : Nat) (s : List Bool) (c : List Int) (a : Int), c.length ≤ (cw p f s c a).2.length
  | 0, s, c, a => Nat.le_refl _
  | f + 1, s, c, a => by
    simp only [cw]
    split
    · exact Nat.le_refl _
    · have := cw_more p f (s.set a.toNat true) (c ++ [a]) (rd p a)
      simp only [List.length_append, List.length_cons, List.length_nil] at this
      omega
theorem cw_new (p : List Int) (f : Nat) (s : List Bool) (a : Int) (h : ¬ rdOf false s a = true) : (cw p (f + 1) s [] a).2 ≠ [] := by
  simp only [cw, h, Bool.false_eq_true, if_false]
  intro e
  have := cw_more p f (s.set a.toNat true) ([] ++ [a]) (rd p a)
  rw [e] at this
  simp at this
theorem specCyc_run (p : List Int) (n : Nat) (hn : n ≤ 1048575) (hp : inR n p) : ∀ (d i : Nat), n - i = d → i ≤ n → Ev (fun k => spec_l1Cycles.l0 k p (cyS p n i).2 (cyS p n i).1 i) (cyS p n n).2
  | 0, i, hd, hi => by
    have : i = n := by omega
    subst this
    refine Ev.s ?_
    simp only [spec_l1Cycles.l0, hp.1, show ¬ (i : Int) < (i : Int) by omega, if_false]
    exact Ev.const rfl
  | d + 1, i, hd, hi => by
    have ih := specCyc_run p n hn hp d (i + 1) (by omega) (by omega)
    have hl := cyS_len p n i
    have hm := cyS_many p n i
    have hf := fresh_le (cyS p n i).1
    have h1 : (i : Int) < (n : Int) := by omega
    have h0 : (0 : Int) ≤ (i : Int) := by omega
    refine Ev.s ?_
    simp only [spec_l1Cycles.l0, hp.1, hl, h1, h0, if_true]
    by_cases e : rdOf false (cyS p n i).1 (i : Int) = true
    · simp only [e, if_true]
      rw [w64n (by omega)]
      simp only [cyS, cw_seen p (n + 1) (cyS p n i).1 [] i e, if_true] at ih
      exact ih
    · simp only [e, if_false]
      refine spec_cw p n (by omega) hp _ (by omega) i _ (n + 1) _ _ _ hl h0 h1 (by omega) (by simp only [List.length_nil]; omega) ?_
      rw [w64n (by omega)]
      simp only [cyS, cw_new p n (cyS p n i).1 i e, if_false] at ih
      exact ih
theorem implCyc_run (p : List Int) (n : Nat) (hn : n ≤ 1048575) (hp : inR n p) : ∀ (d i : Nat), n - i = d → i ≤ n → Ev (fun k => impl_cyclesOf.l0 k p (cyS p n i).2 (cyS p n i).1 n i) (cyS p n n).2
  | 0, i, hd, hi => by
    have : i = n := by omega
    subst this
    refine Ev.s ?_
    simp only [impl_cyclesOf.l0, show ¬ (i : Int) < (i : Int) by omega, if_false]
    exact Ev.const rfl
  | d + 1, i, hd, hi => by
    have ih := implCyc_run p n hn hp d (i + 1) (by omega) (by omega)
    have hl := cyS_len p n i
    have hm := cyS_many p n i
    have hf := fresh_le (cyS p n i).1
    have h1 : (i : Int) < (n : Int) := by omega
    have h0 : (0 : Int) ≤ (i : Int) := by omega
    refine Ev.s ?_
    simp only [impl_cyclesOf.l0, h1, if_true]
    refine impl_cw p n (by omega) hp _ (by omega) n i _ (n + 1) _ _ _ hl h0 h1 (by omega) (by simp only [List.length_nil]; omega) ?_
    rw [w64n (by omega)]
    simp only [cyS] at ih
    exact ih
theorem specCyc_ev (p : List Int) (n : Nat) (hn : n ≤ 1048575) (hp : inR n p) : Ev (fun k => spec_l1Cycles.f k p) (cyS p n n).2 := by
  unfold spec_l1Cycles.f
  have h1 : n ≤ 281474976710656 := by omega
  have h2 : (0 : Int) ≤ (n : Int) := by omega
  simp only [hp.1, Int.toNat_natCast, h1, h2, if_true]
  exact specCyc_run p n hn hp n 0 (by omega) (by omega)
theorem implCyc_ev (p : List Int) (n : Nat) (hn : n ≤ 1048575) (hp : inR n p) : Ev (fun k => impl_cyclesOf.f k p) (cyS p n n).2 := by
  unfold impl_cyclesOf.f
  have h1 : n ≤ 281474976710656 := by omega
  have h2 : (0 : Int) ≤ (n : Int) := by omega
  simp only [hp.1, Int.toNat_natCast, h1, h2, if_true]
  exact implCyc_run p n hn hp n 0 (by omega) (by omega)
end Go.Proofs.Ytcjmgkbbmahgcaa.PE

set_option linter.unusedVariables false
set_option linter.unusedSimpArgs false
namespace Go.Proofs.Ytcjmgkbbmahgcaa.PE
open Go.RowKit Go.Proofs.YtcjmgkbbmahgcaaW.PrintWords Go.Proofs.YtcjmgkbbmahgcaaW.PrintLast Go.Proofs.YtcjmgkbbmahgcaaW.PrintMore
theorem cw_ok (p : List Int) (n : Nat) (hp : inR n p) : ∀ (f : Nat) (s : List Bool) (c : List Int) (a : Int), s.length = n → 0 ≤ a → a < n → (∀ x ∈ c, 0 ≤ x ∧ x < n) → (∀ x ∈ (cw p f s c a).2, 0 ≤ x ∧ x < n) ∧ (cw p f s c a).2.length ≤ c.length + f
  | 0, s, c, a, hs, h0, h1, hc => ⟨hc, by simp [cw]⟩
  | f + 1, s, c, a, hs, h0, h1, hc => by
    simp only [cw]
    split
    · exact ⟨hc, by simp only; omega⟩
    · have h5 := hp.2 a.toNat (by omega)
      rw [show ((a.toNat : Nat) : Int) = a by omega] at h5
      have ih := cw_ok p n hp f (s.set a.toNat true) (c ++ [a]) (rd p a) (by simpa using hs) h5.1 h5.2 (fun x hx => by
        rw [List.mem_append, List.mem_singleton] at hx
        exact hx.elim (hc x) (fun e => by rw [e]; exact ⟨h0, h1⟩))
      refine ⟨ih.1, ?_⟩
      have := ih.2
      simp only [List.length_append, List.length_cons, List.length_nil] at this
      omega
theorem cyS_ok (p : List Int) (n : Nat) (hp : inR n p) : ∀ i, i ≤ n → ∀ l ∈ (cyS p n i).2, (∀ x ∈ l, 0 ≤ x ∧ x < n) ∧ l.length ≤ n + 1
  | 0, _, l, hl => by simp [cyS] at hl
  | i + 1, hi, l, hl => by
    have ih := cyS_ok p n hp i (by omega)
    have ok := cw_ok p n hp (n + 1) (cyS p n i).1 [] i (cyS_len p n i) (by omega) (by omega) (by simp)
    simp only [cyS] at hl
    split at hl
    · exact ih l hl
    · rw [List.mem_append, List.mem_singleton] at hl
      rcases hl with hl | rfl
      · exact ih l hl
      · exact ⟨ok.1, by simpa using ok.2⟩
theorem rdL_ok (C : List (List Int)) (P : List Int → Prop) (h : ∀ l ∈ C, P l) (i : Nat) (hi : i < C.length) : P (rd_L1 C i) := by
  rw [rdL_nth C i hi]
  exact h _ (List.getElem_mem hi)
def vt (C : List (List Int)) (n : Nat) : Nat → List Int
  | 0 => List.replicate n 0
  | q + 1 => (rd_L1 C q).foldl (fun o d => o.set d.toNat (q : Int)) (vt C n q)
theorem fold_len (v : Int) : ∀ (l o : List Int), (l.foldl (fun o d => o.set d.toNat v) o).length = o.length
  | [], o => rfl
  | x :: l, o => by
    rw [List.foldl_cons, fold_len v l]
    simp
theorem vt_len (C : List (List Int)) (n : Nat) : ∀ q, (vt C n q).length = n
  | 0 => by simp [vt]
  | q + 1 => by
    simp only [vt]
    rw [fold_len, vt_len C n q]
theorem sv_l1 (C : List (List Int)) (n q : Nat) (hn : n ≤ 12) (hq : q < C.length) (hl : (∀ x ∈ rd_L1 C q, 0 ≤ x ∧ x < n) ∧ (rd_L1 C q).length ≤ n + 1) (r : List Int) : ∀ (d i : Nat) (o : List Int), (rd_L1 C q).length - i = d → i ≤ (rd_L1 C q).length → o.length = n →
    Ev (fun k => spec_l7Vertices.l0 k (((rd_L1 C q).drop i).foldl (fun o d => o.set d.toNat (q : Int)) o) C (wrap64 ((q : Int) + 1))) r → Ev (fun k => spec_l7Vertices.l1 k o C q i) r
  | 0, i, o, hd, hi, ho, h => by
    have : i = (rd_L1 C q).length := by omega
    rw [List.drop_eq_nil_of_le (by omega)] at h
    refine Ev.s ?_
    simp only [spec_l7Vertices.l1, show (0 : Int) ≤ (q : Int) by omega, show (q : Int) < (C.length : Int) by omega, show ¬ (i : Int) < ((rd_L1 C q).length : Int) by omega, if_true, if_false]
    exact h
  | d + 1, i, o, hd, hi, ho, h => by
    have hlt : i < (rd_L1 C q).length := by omega
    have e := rd_lt _ i hlt
    have hr := hl.1 _ (List.getElem_mem hlt)
    rw [List.drop_eq_getElem_cons hlt, List.foldl_cons, ← e] at h
    rw [← e] at hr
    refine Ev.s ?_
    simp only [spec_l7Vertices.l1, show (0 : Int) ≤ (q : Int) by omega, show (q : Int) < (C.length : Int) by omega, show (i : Int) < ((rd_L1 C q).length : Int) by omega, show (0 : Int) ≤ (i : Int) by omega, hr.1, ho, hr.2, if_true, w64n (show i < 4611686018427387904 by omega)]
    exact sv_l1 C n q hn hq hl r d (i + 1) _ (by omega) (by omega) (by simpa using ho) h
theorem sv_l0 (C : List (List Int)) (n : Nat) (hn : n ≤ 12) (hC : ∀ l ∈ C, (∀ x ∈ l, 0 ≤ x ∧ x < n) ∧ l.length ≤ n + 1) (hCl : C.length ≤ n) : ∀ (d q : Nat), C.length - q = d → q ≤ C.length → Ev (fun k => spec_l7Vertices.l0 k (vt C n q) C q) (vt C n C.length)
  | 0, q, hd, hq => by
    have : q = C.length := by omega
    subst this
    refine Ev.s ?_
    simp only [spec_l7Vertices.l0, show ¬ (C.length : Int) < (C.length : Int) by omega, if_false]
    exact Ev.const rfl
  | d + 1, q, hd, hq => by
    have ih := sv_l0 C n hn hC hCl d (q + 1) (by omega) (by omega)
    have ok := rdL_ok C _ hC q (by omega)
    refine Ev.s ?_
    simp only [spec_l7Vertices.l0, show (q : Int) < (C.length : Int) by omega, if_true]
    refine sv_l1 C n q hn (by omega) ok _ _ 0 _ rfl (by omega) (vt_len C n q) ?_
    rw [List.drop_zero, w64n (by omega)]
    exact ih
theorem iv_l1 (C : List (List Int)) (n q : Nat) (hn : n ≤ 12) (hq : q < C.length) (hl : (∀ x ∈ rd_L1 C q, 0 ≤ x ∧ x < n) ∧ (rd_L1 C q).length ≤ n + 1) (r : List Int) : ∀ (d i : Nat) (o : List Int), (rd_L1 C q).length - i = d → i ≤ (rd_L1 C q).length → o.length = n →
    Ev (fun k => impl_vertexOf.l0 k (((rd_L1 C q).drop i).foldl (fun o d => o.set d.toNat (q : Int)) o) C C.length (wrap64 ((q : Int) + 1))) r → Ev (fun k => impl_vertexOf.l1 k o q C C.length q (rd_L1 C q) (rd_L1 C q).length i) r
  | 0, i, o, hd, hi, ho, h => by
    have : i = (rd_L1 C q).length := by omega
    rw [List.drop_eq_nil_of_le (by omega)] at h
    refine Ev.s ?_
    simp only [impl_vertexOf.l1, show ¬ (i : Int) < ((rd_L1 C q).length : Int) by omega, if_true, if_false]
    exact h
  | d + 1, i, o, hd, hi, ho, h => by
    have hlt : i < (rd_L1 C q).length := by omega
    have e := rd_lt _ i hlt
    have hr := hl.1 _ (List.getElem_mem hlt)
    rw [List.drop_eq_getElem_cons hlt, List.foldl_cons, ← e] at h
    rw [← e] at hr
    refine Ev.s ?_
    simp only [impl_vertexOf.l1, show (i : Int) < ((rd_L1 C q).length : Int) by omega, show (0 : Int) ≤ (i : Int) by omega, hr.1, ho, hr.2, if_true, w64n (show i < 4611686018427387904 by omega)]
    exact iv_l1 C n q hn hq hl r d (i + 1) _ (by omega) (by omega) (by simpa using ho) h
theorem iv_l0 (C : List (List Int)) (n : Nat) (hn : n ≤ 12) (hC : ∀ l ∈ C, (∀ x ∈ l, 0 ≤ x ∧ x < n) ∧ l.length ≤ n + 1) (hCl : C.length ≤ n) : ∀ (d q : Nat), C.length - q = d → q ≤ C.length → Ev (fun k => impl_vertexOf.l0 k (vt C n q) C C.length q) (vt C n C.length)
  | 0, q, hd, hq => by
    have : q = C.length := by omega
    subst this
    refine Ev.s ?_
    simp only [impl_vertexOf.l0, show ¬ (C.length : Int) < (C.length : Int) by omega, if_false]
    exact Ev.const rfl
  | d + 1, q, hd, hq => by
    have ih := iv_l0 C n hn hC hCl d (q + 1) (by omega) (by omega)
    have ok := rdL_ok C _ hC q (by omega)
    refine Ev.s ?_
    simp only [impl_vertexOf.l0, show (q : Int) < (C.length : Int) by omega, show (0 : Int) ≤ (q : Int) by omega, if_true]
    refine iv_l1 C n q hn (by omega) ok _ _ 0 _ rfl (by omega) (vt_len C n q) ?_
    rw [List.drop_zero, w64n (by omega)]
    exact ih
def vtx (t : List Int) (n : Nat) : List Int := vt (cyS t n n).2 n (cyS t n n).2.length
theorem specVert_ev (t : List Int) (n : Nat) (hn : n ≤ 12) (ht : inR n t) : Ev (fun k => spec_l7Vertices.f k t) (vtx t n) := by
  unfold spec_l7Vertices.f
  rw [ht.1]
  simp only [show (0 : Int) ≤ (n : Int) by omega, Int.toNat_natCast, show n ≤ 35184372088832 by omega, if_true]
  refine Ev.bind (specCyc_ev t n (by omega) ht) ?_
  exact sv_l0 _ n hn (cyS_ok t n ht n (Nat.le_refl _)) (cyS_many t n n) _ 0 rfl (by omega)
theorem implVert_ev (t f : List Int) (n : Nat) (hn : n ≤ 12) (ht : inR n t) : Ev (fun k => impl_vertexOf.f k t f) (vtx t n) := by
  unfold impl_vertexOf.f
  rw [ht.1]
  simp only [show (0 : Int) ≤ (n : Int) by omega, Int.toNat_natCast, show n ≤ 35184372088832 by omega, if_true]
  refine Ev.bind (implCyc_ev t n (by omega) ht) ?_
  exact iv_l0 _ n hn (cyS_ok t n ht n (Nat.le_refl _)) (cyS_many t n n) _ 0 rfl (by omega)
theorem fold_rd (v : Int) (n : Nat) : ∀ (l o : List Int), o.length = n → (∀ x ∈ l, 0 ≤ x ∧ x < n) → ∀ x : Nat, x < n → rd (l.foldl (fun o d => o.set d.toNat v) o) (x : Int) = if (x : Int) ∈ l then v else rd o (x : Int)
  | [], o, ho, hl, x, hx => by simp
  | y :: l, o, ho, hl, x, hx => by
    have hy := hl y (by simp)
    rw [List.foldl_cons, fold_rd v n l _ (by simpa using ho) (fun z hz => hl z (by simp [hz])) x hx]
    by_cases e : (x : Int) ∈ l
    · rw [if_pos e, if_pos (by simp [e])]
    · rw [if_neg e]
      by_cases e2 : y.toNat = x
      · subst e2
        rw [rd_set_self _ _ _ (by omega), if_pos]
        rw [show ((y.toNat : Nat) : Int) = y by omega]
        simp
      · rw [rd_set_ne _ _ _ _ e2, if_neg]
        rw [List.mem_cons]
        rintro (z | z)
        · omega
        · exact e z
theorem vt_range (C : List (List Int)) (n : Nat) (hC : ∀ l ∈ C, (∀ x ∈ l, 0 ≤ x ∧ x < n) ∧ l.length ≤ n + 1) (x : Nat) (hx : x < n) : ∀ Q, Q ≤ C.length → 0 ≤ rd (vt C n Q) (x : Int) ∧ (rd (vt C n Q) (x : Int) < Q ∨ rd (vt C n Q) (x : Int) = 0)
  | 0, _ => by
    have : rd (vt C n 0) (x : Int) = 0 := by
      simp only [vt]
      rw [rd_lt _ _ (by simpa using hx)]
      simp
    omega
  | Q + 1, hQ => by
    have ih := vt_range C n hC x hx Q (by omega)
    simp only [vt]
    rw [fold_rd _ n _ _ (vt_len C n Q) (rdL_ok C _ hC Q (by omega)).1 x hx]
    split <;> omega
theorem cyS_next (p : List Int) (n i : Nat) (e : ¬ rdOf false (cyS p n i).1 (i : Int) = true) : (cyS p n (i + 1)).2.length = (cyS p n i).2.length + 1 := by
  simp only [cyS]
  rw [if_neg (cw_new p n _ i e)]
  simp
theorem cyS_one (p : List Int) (n : Nat) (h1 : 1 ≤ n) : ∀ i, 1 ≤ i → 1 ≤ (cyS p n i).2.length
  | 1, _ => by
    have this : ¬ rdOf false (cyS p n 0).1 ((0 : Nat) : Int) = true := by
      show ¬ rdOf false (List.replicate n false) ((0 : Nat) : Int) = true
      rw [rdOf_nat _ _ (by omega), Int.toNat_natCast, List.getD_eq_getElem?_getD, List.getElem?_replicate, if_pos (show 0 < n by omega)]
      simp
    have h := cyS_next p n 0 this
    show 1 ≤ (cyS p n (0 + 1)).2.length
    omega
  | i + 2, _ => by
    have ih := cyS_one p n h1 (i + 1) (by omega)
    rw [cyS]
    simp only
    split
    · exact ih
    · simp
theorem vtx_len (t : List Int) (n : Nat) : (vtx t n).length = n := vt_len _ n _
theorem vtx_range (t : List Int) (n : Nat) (h1 : 1 ≤ n) (ht : inR n t) (x : Nat) (hx : x < n) : 0 ≤ rd (vtx t n) (x : Int) ∧ rd (vtx t n) (x : Int) < ((cyS t n n).2.length : Int) := by
  have := vt_range _ n (cyS_ok t n ht n (Nat.le_refl _)) x hx (cyS t n n).2.length (Nat.le_refl _)
  have h0 := cyS_one t n h1 n h1
  unfold vtx
  omega
end Go.Proofs.Ytcjmgkbbmahgcaa.PE

set_option linter.unusedVariables false
set_option linter.unusedSimpArgs false
namespace Go.Proofs.Ytcjmgkbbmahgcaa.PE
open Go.RowKit Go.Proofs.YtcjmgkbbmahgcaaW.PrintWords Go.Proofs.YtcjmgkbbmahgcaaW.PrintLast Go.Proofs.YtcjmgkbbmahgcaaW.PrintMore
def flipAt (f : List Int) (i : Nat) : Prop := rd f i ≠ i ∧ rd f (rd f i) = i
def isMap (t f : List Int) : Prop := isPerm t ∧ isPerm f ∧ t.length = f.length ∧ (∀ i : Nat, i < f.length → flipAt f i) ∧ ∀ i j : Nat, i < f.length → j < f.length → Reach [t, f] f.length i j
def maxF : List Int → Int → Int
  | [], m => m
  | x :: xs, m => maxF xs (mx m x)
theorem maxF_zero : ∀ (l : List Int) (m : Int), 0 ≤ m → (∀ x ∈ l, 0 ≤ x) → 0 ≤ maxF l m ∧ (maxF l m = 0 ↔ m = 0 ∧ ∀ x ∈ l, x = 0)
  | [], m, hm, _ => by simp [maxF, hm]
  | x :: xs, m, hm, hx => by
    have hx0 := hx x (by simp)
    have hmx : 0 ≤ mx m x ∧ (mx m x = 0 ↔ m = 0 ∧ x = 0) := by unfold mx; split <;> omega
    obtain ⟨h1, h2⟩ := maxF_zero xs (mx m x) hmx.1 fun y hy => hx y (by simp [hy])
    refine ⟨h1, ?_⟩
    simp only [maxF, h2, hmx.2, List.mem_cons, forall_eq_or_imp, and_assoc]
theorem max_run (l : List Int) (hl : l.length ≤ 1048576) : ∀ (d i : Nat) (m : Int), l.length - i = d → i ≤ l.length → Ev (fun k => slices_Max_int_int.l0 k l m i) (maxF (l.drop i) m)
  | 0, i, m, hd, hi => by
    refine Ev.s ?_
    simp only [slices_Max_int_int.l0, show ¬ (i : Int) < (l.length : Int) by omega, if_false]
    rw [List.drop_eq_nil_of_le (by omega)]
    exact Ev.const rfl
  | d + 1, i, m, hd, hi => by
    have hlt : i < l.length := by omega
    refine Ev.s ?_
    simp only [slices_Max_int_int.l0, show (i : Int) < (l.length : Int) by omega, show (0 : Int) ≤ (i : Int) by omega, if_true]
    rw [w64 (x := (i : Int) + 1) (by omega) (by omega), show ((i : Int) + 1) = ((i + 1 : Nat) : Int) by omega, List.drop_eq_getElem_cons hlt, rd_lt l i hlt]
    exact max_run l hl d (i + 1) _ (by omega) (by omega)
theorem max_ev (l : List Int) (hl : l.length ≤ 1048576) (h1 : 1 ≤ l.length) (h0 : ∀ x ∈ l, 0 ≤ x) : ∃ m, Ev (fun k => slices_Max_int_int.f k l) m ∧ (m = 0 ↔ ∀ x ∈ l, x = 0) := by
  cases l with
  | nil => simp at h1
  | cons x xs =>
    refine ⟨maxF xs x, ?_, ?_⟩
    · unfold slices_Max_int_int.f
      simp only [show ¬ (((x :: xs).length : Nat) : Int) < 1 by omega, show (0 : Int) < (((x :: xs).length : Nat) : Int) by omega, if_true, if_false]
      exact max_run (x :: xs) hl _ 1 x rfl h1
    · rw [(maxF_zero xs x (h0 x (by simp)) fun y hy => h0 y (by simp [hy])).2]
      simp
theorem specFlip_run (t f : List Int) (hf : isPerm f) : ∀ (d i : Nat), f.length - i = d → i ≤ f.length →
    ((∀ q : Nat, i ≤ q → q < f.length → flipAt f q) → ∀ r, Ev (fun k => (spec_l1Orbits.f k t f).bind fun o => spec_MapValid.l1 k o 0) r → Ev (fun k => spec_MapValid.l0 k i t f) r) ∧ (¬ (∀ q : Nat, i ≤ q → q < f.length → flipAt f q) → Ev (fun k => spec_MapValid.l0 k i t f) false)
  | 0, i, hd, hi => by
    refine ⟨fun _ r h => Ev.s ?_, fun h => absurd (fun q h1 h2 => by omega) h⟩
    simp only [spec_MapValid.l0, show ¬ (i : Int) < (f.length : Int) by omega, if_false]
    exact h
  | d + 1, i, hd, hi => by
    have hlt : i < f.length := by omega
    have hl12 := hf.2.1
    have hr := (isPerm_inR f hf).2 i hlt
    have ih := specFlip_run t f hf d (i + 1) (by omega) (by omega)
    have hw : wrap64 ((i : Int) + 1) = ((i + 1 : Nat) : Int) := by rw [w64 (by omega) (by omega)]; omega
    have g1 : (i : Int) < (f.length : Int) := by omega
    have g2 : (0 : Int) ≤ (i : Int) := by omega
    by_cases c1 : rd f i = i
    · refine ⟨fun h => absurd c1 (h i (Nat.le_refl _) hlt).1, fun h => Ev.s ?_⟩
      simp only [spec_MapValid.l0, g1, g2, c1, if_true]
      exact Ev.const rfl
    · by_cases c2 : rd f (rd f i) = i
      · refine ⟨fun h r hr' => Ev.s ?_, fun h => Ev.s ?_⟩
        · simp only [spec_MapValid.l0, g1, g2, c1, c2, hr.1, hr.2, if_true, if_false, hw]
          exact ih.1 (fun q h1 h2 => h q (by omega) h2) r hr'
        · simp only [spec_MapValid.l0, g1, g2, c1, c2, hr.1, hr.2, if_true, if_false, hw]
          refine ih.2 fun h' => h fun q h1 h2 => ?_
          by_cases e : q = i
          · rw [e]; exact ⟨c1, c2⟩
          · exact h' q (by omega) h2
      · refine ⟨fun h => absurd (h i (Nat.le_refl _) hlt).2 c2, fun h => Ev.s ?_⟩
        simp only [spec_MapValid.l0, g1, g2, c1, c2, hr.1, hr.2, if_true, if_false]
        exact Ev.const rfl
theorem implFlip_run (t f : List Int) (hf : isPerm f) : ∀ (d i : Nat), f.length - i = d → i ≤ f.length →
    ((∀ q : Nat, i ≤ q → q < f.length → flipAt f q) → ∀ r, Ev (fun k => (impl_orbits.f k [t, f]).bind fun o => (slices_Max_int_int.f k o).bind fun m => some (m == 0)) r → Ev (fun k => impl_MapValid.l0 k f f.length i t f) r) ∧ (¬ (∀ q : Nat, i ≤ q → q < f.length → flipAt f q) → Ev (fun k => impl_MapValid.l0 k f f.length i t f) false)
  | 0, i, hd, hi => by
    refine ⟨fun _ r h => Ev.s ?_, fun h => absurd (fun q h1 h2 => by omega) h⟩
    simp only [impl_MapValid.l0, show ¬ (i : Int) < (f.length : Int) by omega, if_false]
    exact h
  | d + 1, i, hd, hi => by
    have hlt : i < f.length := by omega
    have hl12 := hf.2.1
    have hr := (isPerm_inR f hf).2 i hlt
    have ih := implFlip_run t f hf d (i + 1) (by omega) (by omega)
    have hw : wrap64 ((i : Int) + 1) = ((i + 1 : Nat) : Int) := by rw [w64 (by omega) (by omega)]; omega
    have g1 : (i : Int) < (f.length : Int) := by omega
    have g2 : (0 : Int) ≤ (i : Int) := by omega
    by_cases c1 : rd f i = i
    · refine ⟨fun h => absurd c1 (h i (Nat.le_refl _) hlt).1, fun h => Ev.s ?_⟩
      simp only [impl_MapValid.l0, g1, g2, c1, if_true]
      exact Ev.const rfl
    · by_cases c2 : rd f (rd f i) = i
      · refine ⟨fun h r hr' => Ev.s ?_, fun h => Ev.s ?_⟩
        · simp only [impl_MapValid.l0, g1, g2, c1, c2, hr.1, hr.2, if_true, if_false, hw]
          exact ih.1 (fun q h1 h2 => h q (by omega) h2) r hr'
        · simp only [impl_MapValid.l0, g1, g2, c1, c2, hr.1, hr.2, if_true, if_false, hw]
          refine ih.2 fun h' => h fun q h1 h2 => ?_
          by_cases e : q = i
          · rw [e]; exact ⟨c1, c2⟩
          · exact h' q (by omega) h2
      · refine ⟨fun h => absurd (h i (Nat.le_refl _) hlt).2 c2, fun h => Ev.s ?_⟩
        simp only [impl_MapValid.l0, g1, g2, c1, c2, hr.1, hr.2, if_true, if_false]
        exact Ev.const rfl
theorem zero_run (o : List Int) (hl : o.length ≤ 1048576) : ∀ (d i : Nat), o.length - i = d → i ≤ o.length →
    ((∀ q : Nat, i ≤ q → q < o.length → rd o q = 0) → Ev (fun k => spec_MapValid.l1 k o i) true) ∧ (¬ (∀ q : Nat, i ≤ q → q < o.length → rd o q = 0) → Ev (fun k => spec_MapValid.l1 k o i) false)
  | 0, i, hd, hi => by
    refine ⟨fun _ => Ev.s ?_, fun h => absurd (fun q h1 h2 => by omega) h⟩
    simp only [spec_MapValid.l1, show ¬ (i : Int) < (o.length : Int) by omega, if_false]
    exact Ev.const rfl
  | d + 1, i, hd, hi => by
    have hlt : i < o.length := by omega
    have ih := zero_run o hl d (i + 1) (by omega) (by omega)
    have hw : wrap64 ((i : Int) + 1) = ((i + 1 : Nat) : Int) := by rw [w64 (by omega) (by omega)]; omega
    have g1 : (i : Int) < (o.length : Int) := by omega
    have g2 : (0 : Int) ≤ (i : Int) := by omega
    by_cases c : rd o i = 0
    · refine ⟨fun h => Ev.s ?_, fun h => Ev.s ?_⟩
      · simp only [spec_MapValid.l1, g1, g2, c, if_true, hw]
        exact ih.1 fun q h1 h2 => h q (by omega) h2
      · simp only [spec_MapValid.l1, g1, g2, c, if_true, hw]
        refine ih.2 fun h' => h fun q h1 h2 => ?_
        by_cases e : q = i
        · rw [e]; exact c
        · exact h' q (by omega) h2
    · refine ⟨fun h => absurd (h i (Nat.le_refl _) hlt) c, fun h => Ev.s ?_⟩
      simp only [spec_MapValid.l1, g1, g2, c, if_true, if_false]
      exact Ev.const rfl
theorem orb_zero (t f : List Int) (n : Nat) (h1 : 1 ≤ n) (ht : inR n t) (hf : inR n f) (o : List Int) (ho : orbOk [t, f] n o) : (∀ q : Nat, q < n → rd o q = 0) ↔ ∀ i j : Nat, i < n → j < n → Reach [t, f] n i j := by
  have hps : ∀ p ∈ [t, f], inR n p := by intro p hp; simp at hp; rcases hp with rfl | rfl <;> assumption
  constructor
  · intro h i j hi hj
    have e1 := (ho.1.2 i hi).2.2
    have e2 := (ho.1.2 j hj).2.2
    rw [h i hi] at e1
    rw [h j hj] at e2
    exact e1.symm.trans e2
  · intro h q hq
    have := orbOk_const ho hps (h q 0 hq (by omega))
    have h0 := ho.1.2 0 (by omega)
    omega
theorem mapValid_both (t f : List Int) (ht : t.length ≤ 1048576) (hf : f.length ≤ 1048576) : ∃ b : Bool, Ev (fun k => spec_MapValid.f k t f) b ∧ Ev (fun k => impl_MapValid.f k t f) b ∧ (b = true ↔ isMap t f) := by
  obtain ⟨bt, t1, t2, t3⟩ := permValid_both t ht
  obtain ⟨bf, f1, f2, f3⟩ := permValid_both f hf
  have hb : ∀ b : Bool, (∃ c : Bool, Ev (fun k => spec_l1Both.f k t f) c ∧ (c = true ↔ isPerm t ∧ isPerm f ∧ t.length = f.length)) := fun _ => by
    unfold spec_l1Both.f
    cases bt with
    | false => exact ⟨false, Ev.bind t1 (Ev.const rfl), ⟨fun h => (by cases h), fun h => absurd (t3.2 h.1) (by decide)⟩⟩
    | true =>
      cases bf with
      | false => exact ⟨false, Ev.bind t1 (by simp only [if_true]; exact Ev.bind f1 (Ev.const rfl)), ⟨fun h => (by cases h), fun h => absurd (f3.2 h.2.1) (by decide)⟩⟩
      | true => exact ⟨((t.length : Int) == (f.length : Int)), Ev.bind t1 (by simp only [if_true]; exact Ev.bind f1 (Ev.const rfl)), ⟨fun h => ⟨t3.1 rfl, f3.1 rfl, by have := beq_iff_eq.1 h; omega⟩, fun h => by rw [beq_iff_eq]; omega⟩⟩
  obtain ⟨c, c1, c2⟩ := hb true
  by_cases hall : isPerm t ∧ isPerm f ∧ t.length = f.length
  · obtain ⟨pt, pf, hlen⟩ := hall
    have hc : c = true := c2.2 ⟨pt, pf, hlen⟩
    subst hc
    have hbt : bt = true := t3.2 pt
    have hbf : bf = true := f3.2 pf
    subst hbt; subst hbf
    have hne : (((t.length : Int)) != (f.length : Int)) = false := by rw [bne_eq_false_iff_eq]; omega
    have hrt : inR f.length t := by have := isPerm_inR t pt; rwa [hlen] at this
    have hrf := isPerm_inR f pf
    obtain ⟨o, o1, o2, o3⟩ := orb_both t f f.length pf.2.1 pf.1 hrt hrf
    have hS : ∀ r, Ev (fun k => spec_MapValid.l0 k 0 t f) r → Ev (fun k => spec_MapValid.f k t f) r := fun r h => by
      unfold spec_MapValid.f
      refine Ev.bind c1 ?_
      simp only [if_true]
      exact h
    have hI : ∀ r, Ev (fun k => impl_MapValid.l0 k f f.length 0 t f) r → Ev (fun k => impl_MapValid.f k t f) r := fun r h => by
      unfold impl_MapValid.f
      refine Ev.bind t2 ?_
      simp only [if_true]
      refine Ev.bind f2 ?_
      simp only [if_true, hne]
      refine Ev.s ?_
      simp only [impl_MapValid.j0, Bool.false_eq_true, if_false]
      exact h
    have sF := specFlip_run t f pf f.length 0 (by omega) (by omega)
    have iF := implFlip_run t f pf f.length 0 (by omega) (by omega)
    by_cases hfl : ∀ q : Nat, 0 ≤ q → q < f.length → flipAt f q
    · have zr := zero_run o (by rw [o1.1.1]; omega) o.length 0 (by omega) (by omega)
      have oz := orb_zero t f f.length pf.1 hrt hrf o o1
      obtain ⟨m, m1, m2⟩ := max_ev o (by rw [o1.1.1]; omega) (by rw [o1.1.1]; exact pf.1) (fun x hx => by
        obtain ⟨i, hi, rfl⟩ := List.mem_iff_getElem.1 hx
        have := (o1.1.2 i (by rw [← o1.1.1]; exact hi)).1
        rwa [rd_lt o i hi] at this)
      have hmz : m = 0 ↔ ∀ q : Nat, 0 ≤ q → q < o.length → rd o q = 0 := by
        rw [m2]
        constructor
        · intro h q _ hq
          rw [rd_lt o q hq]
          exact h _ (List.getElem_mem hq)
        · intro h x hx
          obtain ⟨i, hi, rfl⟩ := List.mem_iff_getElem.1 hx
          have := h i (by omega) hi
          rwa [rd_lt o i hi] at this
      by_cases hz : ∀ q : Nat, 0 ≤ q → q < o.length → rd o q = 0
      · refine ⟨true, hS _ (sF.1 hfl _ (Ev.bind o2 (zr.1 hz))), hI _ (iF.1 hfl _ (Ev.bind o3 (Ev.bind m1 (Ev.const ?_)))), ?_⟩
        · rw [hmz.2 hz]; rfl
        · refine ⟨fun _ => ⟨pt, pf, hlen, fun i hi => hfl i (by omega) hi, oz.1 fun q hq => hz q (by omega) (by rw [o1.1.1]; exact hq)⟩, fun _ => rfl⟩
      · refine ⟨false, hS _ (sF.1 hfl _ (Ev.bind o2 (zr.2 hz))), hI _ (iF.1 hfl _ (Ev.bind o3 (Ev.bind m1 (Ev.const ?_)))), ?_⟩
        · have : ¬ m = 0 := fun e => hz (hmz.1 e)
          simp [this]
        · exact ⟨fun h => (by cases h), fun h => absurd (fun q _ hq => oz.2 h.2.2.2.2 q (by rw [← o1.1.1]; exact hq)) hz⟩
    · exact ⟨false, hS _ (sF.2 hfl), hI _ (iF.2 hfl), ⟨fun h => (by cases h), fun h => absurd (fun q _ hq => h.2.2.2.1 q hq) hfl⟩⟩
  · have hc : c = false := by
      cases c with
      | false => rfl
      | true => exact absurd (c2.1 rfl) hall
    subst hc
    refine ⟨false, ?_, ?_, ⟨fun h => (by cases h), fun h => absurd ⟨h.1, h.2.1, h.2.2.1⟩ hall⟩⟩
    · unfold spec_MapValid.f
      exact Ev.bind c1 (Ev.const rfl)
    · have hj : Ev (fun k => impl_MapValid.j0 k true t f) false := by
        refine Ev.s ?_
        simp only [impl_MapValid.j0, if_true]
        exact Ev.const rfl
      unfold impl_MapValid.f
      refine Ev.bind t2 ?_
      cases bt with
      | false => simp only [Bool.false_eq_true, if_false]; exact hj
      | true =>
        simp only [if_true]
        refine Ev.bind f2 ?_
        cases bf with
        | false => simp only [Bool.false_eq_true, if_false]; exact hj
        | true =>
          have hne : (((t.length : Int)) != (f.length : Int)) = true := by
            rw [bne_iff_ne]
            intro e
            exact hall ⟨t3.1 rfl, f3.1 rfl, by omega⟩
          simp only [if_true, hne]
          exact hj
end Go.Proofs.Ytcjmgkbbmahgcaa.PE

set_option linter.unusedVariables false
set_option linter.unusedSimpArgs false
namespace Go.Proofs.Ytcjmgkbbmahgcaa.PE
open Go.RowKit Go.Proofs.YtcjmgkbbmahgcaaW.PrintWords Go.Proofs.YtcjmgkbbmahgcaaW.PrintLast Go.Proofs.YtcjmgkbbmahgcaaW.PrintMore
def ctv (A f : List Int) (v j : Int) (e : Nat) : Int := if rd A (e : Int) = v ∧ ¬ rd A (rd f (e : Int)) = v then (if j = v then 1 else if j = rd A (rd f (e : Int)) then -1 else 0) else 0
def SS (A f : List Int) (d : Nat) (v j : Int) : Int := sm d (ctv A f v j)
theorem ctv_small (A f : List Int) (v j : Int) (e : Nat) : -1 ≤ ctv A f v j e ∧ ctv A f v j e ≤ 1 := by
  unfold ctv
  split
  · split
    · omega
    · split <;> omega
  · omega
theorem SS_small (A f : List Int) (v j : Int) : ∀ d : Nat, -(d : Int) ≤ SS A f d v j ∧ SS A f d v j ≤ d
  | 0 => by simp [SS, sm]
  | d + 1 => by
    have ih := SS_small A f v j d
    have h := ctv_small A f v j d
    simp only [SS, sm] at ih ⊢
    omega
def rowS (A f : List Int) (o m d : Nat) (v : Int) : List Int := (List.range m).map fun (j : Nat) => SS A f d v ((o + j : Nat) : Int)
theorem rowS_len (A f : List Int) (o m d : Nat) (v : Int) : (rowS A f o m d v).length = m := by simp [rowS]
theorem rowS_rd (A f : List Int) (o m d : Nat) (v : Int) (j : Nat) (h : j < m) : rd (rowS A f o m d v) (j : Int) = SS A f d v ((o + j : Nat) : Int) := by
  rw [rd_lt _ _ (by rw [rowS_len]; exact h)]
  simp [rowS]
theorem rowS_zero (A f : List Int) (o m : Nat) (v : Int) : rowS A f o m 0 v = List.replicate m 0 := by
  refine list_ext _ _ (by simp [rowS_len]) fun j hj => ?_
  rw [rowS_len] at hj
  rw [rowS_rd _ _ _ _ _ _ j hj, rd_lt _ _ (by simpa using hj)]
  simp [SS, sm]
theorem rowS_no (A f : List Int) (o m d : Nat) (v : Int) (h : ¬ (rd A (d : Int) = v ∧ ¬ rd A (rd f (d : Int)) = v)) : rowS A f o m (d + 1) v = rowS A f o m d v := by
  refine list_ext _ _ (by simp [rowS_len]) fun j hj => ?_
  rw [rowS_len] at hj
  rw [rowS_rd _ _ _ _ _ _ j hj, rowS_rd _ _ _ _ _ _ j hj]
  simp only [SS, sm]
  rw [show ctv A f v ((o + j : Nat) : Int) d = 0 by unfold ctv; rw [if_neg h]]
  omega
theorem rowS_one (A f : List Int) (o m d a : Nat) (ha : a < m) (h1 : rd A (d : Int) = ((o + a : Nat) : Int)) (hx : ¬ rd A (rd f (d : Int)) = ((o + a : Nat) : Int)) (hout : ∀ b : Nat, b < m → rd A (rd f (d : Int)) ≠ ((o + b : Nat) : Int)) :
    (rowS A f o m d ((o + a : Nat) : Int)).set a (SS A f d ((o + a : Nat) : Int) ((o + a : Nat) : Int) + 1) = rowS A f o m (d + 1) ((o + a : Nat) : Int) := by
  refine list_ext _ _ (by simp [rowS_len]) fun j hj => ?_
  have hj' : j < m := by simpa [rowS_len] using hj
  rw [rowS_rd _ _ _ _ _ _ j hj']
  simp only [SS, sm]
  by_cases e : a = j
  · subst e
    rw [rd_set_self _ _ _ (by rw [rowS_len]; exact ha)]
    have : ctv A f ((o + a : Nat) : Int) ((o + a : Nat) : Int) d = 1 := by
      unfold ctv
      rw [if_pos ⟨h1, hx⟩, if_pos rfl]
    rw [this]
  · rw [rd_set_ne _ _ _ _ e, rowS_rd _ _ _ _ _ _ j hj']
    have : ctv A f ((o + a : Nat) : Int) ((o + j : Nat) : Int) d = 0 := by
      unfold ctv
      rw [if_pos ⟨h1, hx⟩, if_neg (by omega), if_neg (fun z => hout j hj' z.symm)]
    rw [this]
    simp only [SS]
    omega
theorem rowS_two (A f : List Int) (o m d a b : Nat) (ha : a < m) (hb : b < m) (hab : a ≠ b) (h1 : rd A (d : Int) = ((o + a : Nat) : Int)) (h2 : rd A (rd f (d : Int)) = ((o + b : Nat) : Int)) :
    ((rowS A f o m d ((o + a : Nat) : Int)).set a (SS A f d ((o + a : Nat) : Int) ((o + a : Nat) : Int) + 1)).set b (SS A f d ((o + a : Nat) : Int) ((o + b : Nat) : Int) - 1) = rowS A f o m (d + 1) ((o + a : Nat) : Int) := by
  have hx : ¬ rd A (rd f (d : Int)) = ((o + a : Nat) : Int) := by omega
  refine list_ext _ _ (by simp [rowS_len]) fun j hj => ?_
  have hj' : j < m := by simpa [rowS_len] using hj
  rw [rowS_rd _ _ _ _ _ _ j hj']
  simp only [SS, sm]
  by_cases e2 : b = j
  · subst e2
    rw [rd_set_self _ _ _ (by simp [rowS_len]; exact hb)]
    have : ctv A f ((o + a : Nat) : Int) ((o + b : Nat) : Int) d = -1 := by
      unfold ctv
      rw [if_pos ⟨h1, hx⟩, if_neg (by omega), if_pos h2.symm]
    rw [this]
    omega
  · rw [rd_set_ne _ _ _ _ e2]
    by_cases e : a = j
    · subst e
      rw [rd_set_self _ _ _ (by rw [rowS_len]; exact ha)]
      have : ctv A f ((o + a : Nat) : Int) ((o + a : Nat) : Int) d = 1 := by
        unfold ctv
        rw [if_pos ⟨h1, hx⟩, if_pos rfl]
      rw [this]
    · rw [rd_set_ne _ _ _ _ e, rowS_rd _ _ _ _ _ _ j hj']
      have : ctv A f ((o + a : Nat) : Int) ((o + j : Nat) : Int) d = 0 := by
        unfold ctv
        rw [if_pos ⟨h1, hx⟩, if_neg (by omega), if_neg (by omega)]
      rw [this]
      simp only [SS]
      omega
def tabS (A f : List Int) (nv n : Nat) : Nat → List (List Int)
  | 0 => []
  | i + 1 => tabS A f nv n i ++ [(rowS A f 0 nv n ((i + 1 : Nat) : Int)).drop 1]
theorem tabS_len (A f : List Int) (nv n : Nat) : ∀ i, (tabS A f nv n i).length = i
  | 0 => rfl
  | i + 1 => by simp [tabS, tabS_len A f nv n i]
theorem tabS_row (A f : List Int) (nv n : Nat) : ∀ i a, a < i → rd_L1 (tabS A f nv n i) (a : Int) = (rowS A f 0 nv n ((a + 1 : Nat) : Int)).drop 1
  | i + 1, a, h => by
    simp only [tabS]
    by_cases e : a < i
    · rw [ll_app_lt _ _ _ (by rw [tabS_len]; exact e)]
      exact tabS_row A f nv n i a e
    · have : a = i := by omega
      subst this
      have := ll_app_at (tabS A f nv n a) ((rowS A f 0 nv n ((a + 1 : Nat) : Int)).drop 1)
      rwa [tabS_len] at this
def Num (A f : List Int) (n nv : Nat) : Prop := n ≤ 12 ∧ 1 ≤ nv ∧ nv ≤ n ∧ inR n f ∧ A.length = n ∧ ∀ i : Nat, i < n → 0 ≤ rd A (i : Int) ∧ rd A (i : Int) < nv
theorem Num.far {A f : List Int} {n nv : Nat} (H : Num A f n nv) (i : Nat) (hi : i < n) : 0 ≤ rd A (rd f (i : Int)) ∧ rd A (rd f (i : Int)) < nv := by
  have fr := H.2.2.2.1.2 i hi
  have := H.2.2.2.2.2 (rd f i).toNat (by omega)
  rwa [show (((rd f i).toNat : Nat) : Int) = rd f i by omega] at this
theorem sr_l1 (t A f : List Int) (n nv : Nat) (H : Num A f n nv) (T : List (List Int)) (hT : T.length ≤ 100) (v : Nat) (hv : v < nv) (r : Int) (h : Ev (fun k => spec_RibbonMatrix.l0 k A nv (T ++ [(rowS A f 0 nv n (v : Int)).drop 1]) ((v + 1 : Nat) : Int) t f) r) : ∀ (e d : Nat), n - d = e → d ≤ n → Ev (fun k => spec_RibbonMatrix.l1 k A nv T v (rowS A f 0 nv d (v : Int)) d t f) r
  | 0, d, he, hd => by
    obtain ⟨hn, h1, h2, hf, hA, hr⟩ := id H
    have : d = n := by omega
    subst this
    refine Ev.s ?_
    simp only [spec_RibbonMatrix.l1, hA, show ¬ (d : Int) < (d : Int) by omega, if_false, rowS_len, show (1 : Int) ≤ (nv : Int) by omega, show T.length < 5864062014805 by omega, if_true, w64n (show v < 4611686018427387904 by omega)]
    exact h
  | e + 1, d, he, hd => by
    obtain ⟨hn, h1, h2, hf, hA, hr⟩ := id H
    have ih := sr_l1 t A f n nv H T hT v hv r h e (d + 1) (by omega) (by omega)
    have fr := hf.2 d (by omega)
    have fa := H.far d (by omega)
    have wd : d < 4611686018427387904 := by omega
    have sv := SS_small A f (v : Int) (v : Int) d
    have wv : -9223372036854775808 ≤ SS A f d (v : Int) (v : Int) + 1 ∧ SS A f d (v : Int) (v : Int) + 1 < 9223372036854775808 := by omega
    have rv := rowS_rd A f 0 nv d (v : Int) v hv
    rw [Nat.zero_add] at rv
    refine Ev.s ?_
    simp only [spec_RibbonMatrix.l1, hA, show (d : Int) < (n : Int) by omega, show (0 : Int) ≤ (d : Int) by omega, hf.1, fr.1, fr.2, if_true, w64n wd]
    by_cases c1 : rd A (d : Int) = (v : Int)
    · by_cases c2 : rd A (rd f (d : Int)) = (v : Int)
      · rw [rowS_no A f 0 nv d v (fun z => z.2 c2)] at ih
        simp only [c1, c2, if_true]
        exact ih
      · obtain ⟨b, hb⟩ : ∃ b : Nat, rd A (rd f (d : Int)) = ((0 + b : Nat) : Int) := ⟨(rd A (rd f (d : Int))).toNat, by omega⟩
        have two := rowS_two A f 0 nv d v b hv (by omega) (by omega) (by rw [Nat.zero_add]; exact c1) hb
        rw [Nat.zero_add, Nat.zero_add] at two
        rw [Nat.zero_add] at hb
        have sb := SS_small A f (v : Int) (b : Int) d
        have wb : -9223372036854775808 ≤ SS A f d (v : Int) (b : Int) - 1 ∧ SS A f d (v : Int) (b : Int) - 1 < 9223372036854775808 := by omega
        have rb := rowS_rd A f 0 nv d (v : Int) b (by omega)
        rw [Nat.zero_add] at rb
        have rset : rd ((rowS A f 0 nv d (v : Int)).set v (SS A f d (v : Int) (v : Int) + 1)) (b : Int) = SS A f d (v : Int) (b : Int) := by
          rw [rd_set_ne _ _ _ _ (by omega), rb]
        rw [← two] at ih
        have nvb : ¬ (b : Int) = (v : Int) := by omega
        simp only [c1, hb, nvb, if_true, if_false, rowS_len, List.length_set, show (0 : Int) ≤ (v : Int) by omega, show (v : Int) < (nv : Int) by omega, Option.bind_some, rv, w64r wv, Int.toNat_natCast, show (0 : Int) ≤ (b : Int) by omega, show (b : Int) < (nv : Int) by omega, rset, w64r wb]
        exact ih
    · rw [rowS_no A f 0 nv d v (fun z => c1 z.1)] at ih
      simp only [c1, if_false]
      exact ih
theorem sr_l0 (t A f : List Int) (n nv : Nat) (H : Num A f n nv) (r : Int) (h : Ev (fun k => spec_l7Det.f k (tabS A f nv n (nv - 1))) r) : ∀ (e i : Nat), nv - 1 - i = e → i ≤ nv - 1 → Ev (fun k => spec_RibbonMatrix.l0 k A nv (tabS A f nv n i) ((i + 1 : Nat) : Int) t f) r
  | 0, i, he, hi => by
    obtain ⟨hn, h1, h2, hf, hA, hr⟩ := id H
    have : i = nv - 1 := by omega
    subst this
    refine Ev.s ?_
    simp only [spec_RibbonMatrix.l0, show ¬ ((nv - 1 + 1 : Nat) : Int) < (nv : Int) by omega, if_false]
    exact Ev.bind h (Ev.const rfl)
  | e + 1, i, he, hi => by
    obtain ⟨hn, h1, h2, hf, hA, hr⟩ := id H
    have ih := sr_l0 t A f n nv H r h e (i + 1) (by omega) (by omega)
    simp only [tabS] at ih
    refine Ev.s ?_
    simp only [spec_RibbonMatrix.l0, show ((i + 1 : Nat) : Int) < (nv : Int) by omega, show (0 : Int) ≤ (nv : Int) by omega, Int.toNat_natCast, show nv ≤ 35184372088832 by omega, if_true]
    rw [← rowS_zero A f 0 nv ((i + 1 : Nat) : Int)]
    exact sr_l1 t A f n nv H _ (by rw [tabS_len]; omega) (i + 1) (by omega) r ih n 0 (by omega) (by omega)
def tabT (A f : List Int) (N d : Nat) : List (List Int) := (List.range N).map fun (i : Nat) => rowS A f 1 N d ((1 + i : Nat) : Int)
theorem tabT_len (A f : List Int) (N d : Nat) : (tabT A f N d).length = N := by simp [tabT]
theorem tabT_row (A f : List Int) (N d i : Nat) (h : i < N) : rd_L1 (tabT A f N d) (i : Int) = rowS A f 1 N d ((1 + i : Nat) : Int) := by
  rw [ll_rd _ i (by rw [tabT_len]; exact h)]
  simp [tabT]
theorem ll_ext (a b : List (List Int)) (h : a.length = b.length) (hr : ∀ i : Nat, i < a.length → rd_L1 a (i : Int) = rd_L1 b (i : Int)) : a = b := by
  refine List.ext_getElem h fun i h1 h2 => ?_
  have := hr i h1
  rwa [ll_rd a i h1, ll_rd b i h2] at this
theorem ll_set_self (L : List (List Int)) (i : Nat) (x : List Int) (h : i < L.length) : rd_L1 (L.set i x) (i : Int) = x := by
  rw [ll_rd _ _ (by simpa using h), List.getElem_set_self]
theorem ll_set_ne (L : List (List Int)) (i j : Nat) (x : List Int) (h : i ≠ j) (hj : j < L.length) : rd_L1 (L.set i x) (j : Int) = rd_L1 L (j : Int) := by
  rw [ll_rd _ _ (by simpa using hj), ll_rd L j hj, List.getElem_set_ne h]
theorem tabT_set (A f : List Int) (N d a : Nat) (ha : a < N) (h1 : rd A (d : Int) = ((1 + a : Nat) : Int)) (x : List Int) (hx : x = rowS A f 1 N (d + 1) ((1 + a : Nat) : Int)) : (tabT A f N d).set a x = tabT A f N (d + 1) := by
  refine ll_ext _ _ (by simp [tabT_len]) fun i hi => ?_
  have hi' : i < N := by simpa [tabT_len] using hi
  rw [tabT_row A f N (d + 1) i hi']
  by_cases e : a = i
  · subst e
    rw [ll_set_self _ _ _ (by rw [tabT_len]; exact ha), hx]
  · rw [ll_set_ne _ _ _ _ e (by rw [tabT_len]; exact hi'), tabT_row A f N d i hi', rowS_no A f 1 N d _ (fun z => by omega)]
theorem tabT_no (A f : List Int) (N d : Nat) (h : ∀ i : Nat, i < N → ¬ (rd A (d : Int) = ((1 + i : Nat) : Int) ∧ ¬ rd A (rd f (d : Int)) = ((1 + i : Nat) : Int))) : tabT A f N (d + 1) = tabT A f N d := by
  refine ll_ext _ _ (by simp [tabT_len]) fun i hi => ?_
  rw [tabT_len] at hi
  rw [tabT_row A f N (d + 1) i hi, tabT_row A f N d i hi, rowS_no A f 1 N d _ (h i hi)]
theorem tab_same (A f : List Int) (N n : Nat) : tabS A f (N + 1) n N = tabT A f N n := by
  refine ll_ext _ _ (by rw [tabS_len, tabT_len]) fun i hi => ?_
  rw [tabS_len] at hi
  rw [tabS_row A f (N + 1) n N i hi, tabT_row A f N n i hi]
  refine list_ext _ _ (by simp [rowS_len]) fun j hj => ?_
  have hj' : j < N := by simpa [rowS_len] using hj
  rw [rd_drop, rowS_rd _ _ _ _ _ _ (1 + j) (by omega), rowS_rd _ _ _ _ _ _ j hj', Nat.zero_add, Nat.add_comm 1 i]
theorem im_l1 (A f : List Int) (n N : Nat) (H : Num A f n (N + 1)) (r : Int) (h : Ev (fun k => impl_determinant.f k (tabT A f N n)) r) : ∀ (e d : Nat), n - d = e → d ≤ n → Ev (fun k => impl_RibbonMatrix.l1 k A (tabT A f N d) f n d) r
  | 0, d, he, hd => by
    have : d = n := by omega
    subst this
    refine Ev.s ?_
    simp only [impl_RibbonMatrix.l1, show ¬ (d : Int) < (d : Int) by omega, if_false]
    exact Ev.bind h (Ev.const rfl)
  | e + 1, d, he, hd => by
    obtain ⟨hn, h1, h2, hf, hA, hr⟩ := id H
    have ih := im_l1 A f n N H r h e (d + 1) (by omega) (by omega)
    have fr := hf.2 d (by omega)
    have ra := hr d (by omega)
    have fa := H.far d (by omega)
    have wd : d < 4611686018427387904 := by omega
    have w1 : -9223372036854775808 ≤ rd A (d : Int) - 1 ∧ rd A (d : Int) - 1 < 9223372036854775808 := by omega
    have w2 : -9223372036854775808 ≤ rd A (rd f (d : Int)) - 1 ∧ rd A (rd f (d : Int)) - 1 < 9223372036854775808 := by omega
    refine Ev.s ?_
    simp only [impl_RibbonMatrix.l1, hf.1, hA, show (d : Int) < (n : Int) by omega, show (0 : Int) ≤ (d : Int) by omega, fr.1, fr.2, if_true, w64r w1, w64r w2]
    by_cases c0 : rd A (d : Int) - 1 ≥ 0
    · simp only [c0, if_true]
      obtain ⟨a, ha⟩ : ∃ a : Nat, rd A (d : Int) = ((1 + a : Nat) : Int) := ⟨(rd A (d : Int) - 1).toNat, by omega⟩
      have ea : rd A (d : Int) - 1 = (a : Int) := by omega
      rw [ea]
      by_cases c1 : rd A (rd f (d : Int)) = rd A (d : Int)
      · have : (((a : Int)) != (rd A (rd f (d : Int)) - 1)) = false := by
          rw [bne_eq_false_iff_eq]; omega
        rw [this]
        refine Ev.s ?_
        simp only [impl_RibbonMatrix.j2, Bool.false_eq_true, if_false, w64n wd]
        rw [tabT_no A f N d (fun i hi z => z.2 (by omega))] at ih
        exact ih
      · have : (((a : Int)) != (rd A (rd f (d : Int)) - 1)) = true := by
          rw [bne_iff_ne]; omega
        rw [this]
        have tr := tabT_row A f N d a (by omega)
        have rr := rowS_rd A f 1 N d ((1 + a : Nat) : Int) a (by omega)
        have sv := SS_small A f ((1 + a : Nat) : Int) ((1 + a : Nat) : Int) d
        have wv : -9223372036854775808 ≤ SS A f d ((1 + a : Nat) : Int) ((1 + a : Nat) : Int) + 1 ∧ SS A f d ((1 + a : Nat) : Int) ((1 + a : Nat) : Int) + 1 < 9223372036854775808 := by omega
        refine Ev.s ?_
        simp only [impl_RibbonMatrix.j2, if_true, show (0 : Int) ≤ (a : Int) by omega, tabT_len, show (a : Int) < (N : Int) by omega, tr, rowS_len, rr, w64r wv, Option.bind_some, Int.toNat_natCast, w64n wd]
        by_cases c2 : rd A (rd f (d : Int)) - 1 ≥ 0
        · obtain ⟨b, hb⟩ : ∃ b : Nat, rd A (rd f (d : Int)) = ((1 + b : Nat) : Int) := ⟨(rd A (rd f (d : Int)) - 1).toNat, by omega⟩
          have eb : rd A (rd f (d : Int)) - 1 = (b : Int) := by omega
          have two := rowS_two A f 1 N d a b (by omega) (by omega) (by omega) ha hb
          have rb := rowS_rd A f 1 N d ((1 + a : Nat) : Int) b (by omega)
          have sb := SS_small A f ((1 + a : Nat) : Int) ((1 + b : Nat) : Int) d
          have wb : -9223372036854775808 ≤ SS A f d ((1 + a : Nat) : Int) ((1 + b : Nat) : Int) - 1 ∧ SS A f d ((1 + a : Nat) : Int) ((1 + b : Nat) : Int) - 1 < 9223372036854775808 := by omega
          have ls := ll_set_self (tabT A f N d) a ((rowS A f 1 N d ((1 + a : Nat) : Int)).set a (SS A f d ((1 + a : Nat) : Int) ((1 + a : Nat) : Int) + 1)) (by rw [tabT_len]; omega)
          have rset : rd ((rowS A f 1 N d ((1 + a : Nat) : Int)).set a (SS A f d ((1 + a : Nat) : Int) ((1 + a : Nat) : Int) + 1)) (b : Int) = SS A f d ((1 + a : Nat) : Int) ((1 + b : Nat) : Int) := by
            rw [rd_set_ne _ _ _ _ (by omega), rb]
          rw [eb] at c2 ⊢
          simp only [c2, if_true, show (0 : Int) ≤ (b : Int) by omega, ls, List.length_set, rowS_len, show (b : Int) < (N : Int) by omega, rset, w64r wb, Int.toNat_natCast]
          rw [two, List.set_set, tabT_set A f N d a (by omega) ha _ rfl]
          exact ih
        · simp only [c2, if_false]
          rw [rowS_one A f 1 N d a (by omega) ha (by omega) (fun b hb => by omega), tabT_set A f N d a (by omega) ha _ rfl]
          exact ih
    · simp only [c0, if_false]
      refine Ev.s ?_
      simp only [impl_RibbonMatrix.j2, Bool.false_eq_true, if_false, w64n wd]
      rw [tabT_no A f N d (fun i hi z => by omega)] at ih
      exact ih
def tabM (N k : Nat) : List (List Int) := (List.range N).map fun (i : Nat) => if i < k then List.replicate N 0 else []
theorem tabM_len (N k : Nat) : (tabM N k).length = N := by simp [tabM]
theorem tabM_row (N k i : Nat) (h : i < N) : rd_L1 (tabM N k) (i : Int) = if i < k then List.replicate N 0 else [] := by
  rw [ll_rd _ i (by rw [tabM_len]; exact h)]
  simp [tabM]
theorem im_l0 (t A f : List Int) (n N : Nat) (H : Num A f n (N + 1)) (r : Int) (h : Ev (fun k => impl_RibbonMatrix.l1 k A (tabT A f N 0) f n 0) r) : ∀ (e i : Nat), N - i = e → i ≤ N → Ev (fun k => impl_RibbonMatrix.l0 k A N (tabM N i) N i t f) r
  | 0, i, he, hi => by
    obtain ⟨hn, h1, h2, hf, hA, hr⟩ := id H
    have : i = N := by omega
    subst this
    have e : tabM i i = tabT A f i 0 := by
      refine ll_ext _ _ (by rw [tabM_len, tabT_len]) fun q hq => ?_
      rw [tabM_len] at hq
      rw [tabM_row i i q hq, if_pos hq, tabT_row A f i 0 q hq, rowS_zero]
    refine Ev.s ?_
    simp only [impl_RibbonMatrix.l0, show ¬ (i : Int) < (i : Int) by omega, if_false, hf.1]
    rw [e]
    exact h
  | e + 1, i, he, hi => by
    obtain ⟨hn, h1, h2, hf, hA, hr⟩ := id H
    have ih := im_l0 t A f n N H r h e (i + 1) (by omega) (by omega)
    have st : (tabM N i).set i (List.replicate N 0) = tabM N (i + 1) := by
      refine ll_ext _ _ (by simp [tabM_len]) fun q hq => ?_
      have hq' : q < N := by simpa [tabM_len] using hq
      rw [tabM_row N (i + 1) q hq']
      by_cases z : i = q
      · subst z
        rw [ll_set_self _ _ _ (by rw [tabM_len]; exact hq'), if_pos (by omega)]
      · rw [ll_set_ne _ _ _ _ z (by rw [tabM_len]; exact hq'), tabM_row N i q hq']
        by_cases y : q < i
        · rw [if_pos y, if_pos (by omega)]
        · rw [if_neg y, if_neg (by omega)]
    refine Ev.s ?_
    simp only [impl_RibbonMatrix.l0, show (i : Int) < (N : Int) by omega, show (0 : Int) ≤ (N : Int) by omega, Int.toNat_natCast, show N ≤ 35184372088832 by omega, show (0 : Int) ≤ (i : Int) by omega, tabM_len, if_true, w64n (show i < 4611686018427387904 by omega), st]
    exact ih
theorem ribbonMatrix_both (t f : List Int) (ht : t.length ≤ 1048576) (hf : f.length ≤ 1048576) : ∃ r : Int, Ev (fun k => spec_RibbonMatrix.f k t f) r ∧ Ev (fun k => impl_RibbonMatrix.f k t f) r := by
  obtain ⟨b, b1, b2, b3⟩ := mapValid_both t f ht hf
  unfold spec_RibbonMatrix.f impl_RibbonMatrix.f
  cases b with
  | false =>
    refine ⟨-1, ?_, ?_⟩
    · refine Ev.bind b1 ?_
      simp only [Bool.false_eq_true, if_false]
      exact Ev.const rfl
    · refine Ev.bind b2 ?_
      simp only [Bool.false_eq_true, if_false]
      exact Ev.const rfl
  | true =>
    obtain ⟨pt, pf, e, fl, _⟩ := b3.1 rfl
    have ht' := isPerm_inR t pt
    have hf' : inR t.length f := by rw [e]; exact isPerm_inR f pf
    have hn : t.length ≤ 12 := pt.2.1
    have h1 : 1 ≤ t.length := pt.1
    have hl := vtx_len t t.length
    have hr := fun i hi => vtx_range t t.length h1 ht' i hi
    have hmany := cyS_many t t.length t.length
    have hone := cyS_one t t.length h1 t.length h1
    obtain ⟨N, hN⟩ : ∃ N, (cyS t t.length t.length).2.length = N + 1 := ⟨_, (Nat.sub_add_cancel hone).symm⟩
    have H : Num (vtx t t.length) f t.length (N + 1) := ⟨hn, by omega, by omega, hf', hl, fun i hi => by have := hr i hi; rwa [hN] at this⟩
    have sqT : sq (tabT (vtx t t.length) f N t.length) N := ⟨tabT_len _ _ _ _, fun i hi => by rw [tabT_row _ _ _ _ i hi, rowS_len]⟩
    have dS := specDet_ev N _ (by omega) sqT
    have dI := implDet_ev N _ (by omega) sqT
    rw [← (det_same N).1] at dI
    refine ⟨wrap64 (dR N (ent (tabT (vtx t t.length) f N t.length))), ?_, ?_⟩
    rotate_left
    · refine Ev.bind b2 ?_
      simp only [if_true]
      refine Ev.bind (implCyc_ev t t.length (by omega) ht') ?_
      refine Ev.bind (implVert_ev t f t.length hn ht') ?_
      have wN : wrap64 (((cyS t t.length t.length).2.length : Int) - 1) = (N : Int) := by rw [hN, w64 (by omega) (by omega)]; omega
      have e0 : List.replicate N ([] : List Int) = tabM N 0 := by
        refine ll_ext _ _ (by simp [tabM_len]) fun q hq => ?_
        have hq' : q < N := by simpa using hq
        rw [tabM_row N 0 q hq', if_neg (by omega), ll_rd _ _ hq]
        simp
      simp only [wN, show (0 : Int) ≤ (N : Int) by omega, Int.toNat_natCast, show N ≤ 11728124029610 by omega, if_true, Option.bind_some, e0, tabM_len]
      exact im_l0 t _ f t.length N H _ (im_l1 _ f t.length N H _ dI t.length 0 (by omega) (by omega)) N 0 (by omega) (by omega)
    · refine Ev.bind b1 ?_
      simp only [if_true]
      refine Ev.bind (specVert_ev t t.length hn ht') ?_
      refine Ev.bind (specCyc_ev t t.length (by omega) ht') ?_
      rw [hN]
      have := sr_l0 t (vtx t t.length) f t.length (N + 1) H _ (by rw [Nat.add_sub_cancel, tab_same]; exact dS) (N + 1 - 1) 0 (by omega) (by omega)
      exact this
end Go.Proofs.Ytcjmgkbbmahgcaa.PE

set_option linter.unusedVariables false
set_option linter.unusedSimpArgs false
namespace Go.Proofs.Ytcjmgkbbmahgcaa.PE
open Go.RowKit Go.Proofs.YtcjmgkbbmahgcaaW.PrintWords Go.Proofs.YtcjmgkbbmahgcaaW.PrintLast Go.Proofs.YtcjmgkbbmahgcaaW.PrintMore
theorem szMap_cases (t f : List Int) (ht : t.length ≤ maxLen) (hf : f.length ≤ maxLen) : ∃ s, laws_szMap.f t f 1048576 = some s ∧ (s < 0 ∨ t.length ≤ 1048576 ∧ f.length ≤ 1048576 ∧ ¬ s < 0) := by
  unfold maxLen at ht hf
  have h1 : wrap64 (1048576 - (t.length : Int)) = 1048576 - (t.length : Int) := w64 (by omega) (by omega)
  by_cases c1 : (1048576 - (t.length : Int)) < 0
  · refine ⟨-1, ?_, .inl (by decide)⟩
    unfold laws_szMap.f laws_szIntS.f
    simp [h1, c1]
  · have h2 : wrap64 (1048576 - (t.length : Int) - (f.length : Int)) = 1048576 - (t.length : Int) - (f.length : Int) := w64 (by omega) (by omega)
    by_cases c2 : (1048576 - (t.length : Int) - (f.length : Int)) < 0
    · refine ⟨-1, ?_, .inl (by decide)⟩
      unfold laws_szMap.f laws_szIntS.f
      simp [h1, c1, h2, c2]
    · refine ⟨1048576 - (t.length : Int) - (f.length : Int), ?_, .inr ⟨by omega, by omega, c2⟩⟩
      unfold laws_szMap.f laws_szIntS.f
      simp [h1, c1, h2, c2]
theorem toMap_ev (t f : List Int) (ht : t.length ≤ 1048576) (hf : f.length ≤ 1048576) : Ev (fun k => laws_toMap.f k t f) (t, f) := by
  unfold laws_toMap.f
  refine Ev.bind (toIntS_ev t ht) ?_
  exact Ev.bind (toIntS_ev f hf) (Ev.const rfl)
end Go.Proofs.Ytcjmgkbbmahgcaa.PE

set_option linter.unusedVariables false
set_option linter.unusedSimpArgs false
namespace Go.Proofs.Ytcjmgkbbmahgcaa.PE
open Go.RowKit Go.Proofs.YtcjmgkbbmahgcaaW.PrintWords Go.Proofs.YtcjmgkbbmahgcaaW.PrintLast Go.Proofs.YtcjmgkbbmahgcaaW.PrintMore
theorem eqMap_same (t f : List Int) (ht : t.length ≤ 1048576) (hf : f.length ≤ 1048576) : Ev (fun k => laws_eqMap.f k t f t f) true := by
  unfold laws_eqMap.f
  refine Ev.bind (eqIntS_same t ht) ?_
  simp only [if_true]
  exact Ev.bind (eqIntS_same f hf) (Ev.const rfl)
end Go.Proofs.Ytcjmgkbbmahgcaa.PE

set_option linter.unusedVariables false
set_option linter.unusedSimpArgs false
namespace Go.Proofs.Ytcjmgkbbmahgcaa.Pure
open Go.RowKit Go.Proofs.Ytcjmgkbbmahgcaa.PE Go.Proofs.YtcjmgkbbmahgcaaW.PrintWords Go.Proofs.YtcjmgkbbmahgcaaW.PrintLast Go.Proofs.YtcjmgkbbmahgcaaW.PrintMore
theorem FnExactRibbonMatrix : laws_FnExactRibbonMatrix.Pure := by
  intro t f ht _ hf _
  obtain ⟨s, hs, h0 | ⟨ht', hf', h0⟩⟩ := szMap_cases t f ht hf
  · refine ⟨0, ?_⟩
    unfold laws_FnExactRibbonMatrix.f
    rw [hs, Option.bind_some, if_pos h0]
  · obtain ⟨r, e1, e2⟩ := ribbonMatrix_both t f ht' hf'
    refine Ev.rounds (r := true) ?_
    unfold laws_FnExactRibbonMatrix.f
    simp only [hs, Option.bind_some, h0, if_false]
    refine Ev.bind (toMap_ev t f ht' hf') ?_
    refine Ev.bind e1 ?_
    refine Ev.bind (toMap_ev t f ht' hf') ?_
    refine Ev.bind e2 ?_
    simp only [if_true]
    refine Ev.bind (toMap_ev t f ht' hf') ?_
    refine Ev.bind (eqMap_same t f ht' hf') ?_
    simp only [if_true]
    exact Ev.const rfl
end Go.Proofs.Ytcjmgkbbmahgcaa.Pure
