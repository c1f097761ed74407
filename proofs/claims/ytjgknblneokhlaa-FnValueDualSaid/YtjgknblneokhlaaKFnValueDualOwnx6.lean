/- For every code: of the map and the three numbers that the statement draws, RibbonValue of the program answers what the reference answers; on the sphere the dual map's value is the value with x and y exchanged; with 1, 1, 1 the value is the number of choices; with 0, 0 that of the spanning trees. There are no conditions. -/
import Derived.Test.YtjgknblneokhlaaKFnValueDualOwnx5
set_option linter.unusedVariables false
set_option linter.unusedSimpArgs false
namespace Go.Proofs.Ytjgknblneokhlaa.PK
open Go.RowKit Go.Proofs.YtjgknblneokhlaaW.PrintWords Go.Proofs.YtjgknblneokhlaaW.PrintLast Go.Proofs.YtjgknblneokhlaaW.PrintMore
theorem cw_ends (p : List Int) (n : Nat) (hp : inR n p) (a0 : Nat) (ha0 : a0 < n) (s0 : Nat → Prop) : ∀ (m : Nat) (s : List Bool) (c : List Int) (a : Nat), s.length = n → a < n → fresh s < m →
    (∀ x, x < n → s.getD x false = true → s.getD (rd p x).toNat false = true ∨ (rd p x).toNat = a) → Reach [p] n a0 a → (∀ x, x < n → s.getD x false = true → s0 x ∨ Reach [p] n a0 x) → (∀ x, s0 x → s.getD x false = true) → (s.getD a0 false = true ∨ a = a0) → (∀ x ∈ c, 0 ≤ x ∧ x < n ∧ Reach [p] n a0 x.toNat) → (a0 ≠ a → (a0 : Int) ∈ c) → (∀ x, x < n → s.getD x false = true → s0 x ∨ (x : Int) ∈ c) →
    (∀ x, x < n → (cw p m s c a).1.getD x false = true → (cw p m s c a).1.getD (rd p x).toNat false = true) ∧ (∀ x, x < n → (cw p m s c a).1.getD x false = true → s0 x ∨ Reach [p] n a0 x) ∧ (∀ x, s0 x → (cw p m s c a).1.getD x false = true) ∧ (cw p m s c a).1.getD a0 false = true ∧ (∀ x ∈ (cw p m s c a).2, 0 ≤ x ∧ x < n ∧ Reach [p] n a0 x.toNat) ∧ (∀ x, x < n → (cw p m s c a).1.getD x false = true → s0 x ∨ (x : Int) ∈ (cw p m s c a).2)
  | 0, s, c, a, hs, ha, hm, h1, h2, h3, h4, h5, h6, h7, h8 => absurd hm (Nat.not_lt_zero _)
  | m + 1, s, c, a, hs, ha, hm, h1, h2, h3, h4, h5, h6, h7, h8 => by
    simp only [cw]
    rw [rdOf_nat s a (by omega), Int.toNat_natCast]
    by_cases e : s.getD a false = true
    · rw [if_pos e]
      refine ⟨fun x hx hsx => (h1 x hx hsx).elim id (fun z => by rw [z]; exact e), h3, h4, h5.elim id (fun z => by rw [← z]; exact e), h6, h8⟩
    · rw [if_neg e]
      have pr := hp.2 a ha
      have e0 : s.getD a false = false := by simpa using e
      have fr := fresh_set s a (by omega) e0
      have back : (((rd p a).toNat : Nat) : Int) = rd p a := by omega
      have st := Reach.step (ps := [p]) (n := n) (p := p) (by simp) ha
      have ih := cw_ends p n hp a0 ha0 s0 m (s.set a true) (c ++ [(a : Int)]) (rd p a).toNat (by simpa using hs) (by omega) (by omega)
        (fun x hx hsx => by
          rw [getD_set _ _ _ _ (by omega)] at hsx ⊢
          by_cases z : a = x
          · subst z; exact .inr rfl
          · rw [if_neg z] at hsx
            by_cases y : a = (rd p x).toNat
            · rw [if_pos y]; exact .inl rfl
            · rw [if_neg y]
              exact .inl ((h1 x hx hsx).elim id (fun q => absurd q.symm y)))
        (h2.trans st)
        (fun x hx hsx => by
          rw [getD_set _ _ _ _ (by omega)] at hsx
          by_cases z : a = x
          · subst z; exact .inr h2
          · rw [if_neg z] at hsx
            exact h3 x hx hsx)
        (fun x hx => by
          rw [getD_set _ _ _ _ (by omega)]
          split
          · rfl
          · exact h4 x hx)
        (.inl (by
          rw [getD_set _ _ _ _ (by omega)]
          by_cases z : a = a0
          · rw [if_pos z]
          · rw [if_neg z]
            exact h5.elim id (fun q => absurd q z)))
        (fun x hx => by
          rw [List.mem_append, List.mem_singleton] at hx
          rcases hx with hx | rfl
          · exact h6 x hx
          · exact ⟨by omega, by omega, by rw [Int.toNat_natCast]; exact h2⟩)
        (fun _ => by
          rw [List.mem_append, List.mem_singleton]
          by_cases z : a0 = a
          · right; rw [z]
          · exact .inl (h7 z))
        (fun x hx hsx => by
          rw [List.mem_append, List.mem_singleton]
          rw [getD_set _ _ _ _ (by omega)] at hsx
          by_cases z : a = x
          · subst z; exact .inr (.inr rfl)
          · rw [if_neg z] at hsx
            exact (h8 x hx hsx).imp id .inl)
      rw [back] at ih
      exact ih
theorem cyS_seen (p : List Int) (n : Nat) (hp : inR n p) (hi : injR n p) : ∀ i, i ≤ n → ∀ x, x < n → ((cyS p n i).1.getD x false = true ↔ ∃ j, j < i ∧ Reach [p] n j x)
  | 0, _, x, hx => by
    constructor
    · intro h
      simp [cyS, List.getD_eq_getElem?_getD, List.getElem?_replicate, hx] at h
    · rintro ⟨j, hj, _⟩; omega
  | i + 1, hi', x, hx => by
    have ih := cyS_seen p n hp hi i (by omega)
    have l1 := cyS_len p n i
    simp only [cyS]
    by_cases e : (cyS p n i).1.getD i false = true
    · rw [cw_seen p (n + 1) _ _ _ (by rw [rdOf_nat _ _ (by omega), Int.toNat_natCast]; exact e)]
      rw [ih x hx]
      obtain ⟨q, q1, q2⟩ := (ih i (by omega)).1 e
      constructor
      · rintro ⟨j, hj, h⟩; exact ⟨j, by omega, h⟩
      · rintro ⟨j, hj, h⟩
        by_cases z : j = i
        · subst z; exact ⟨q, q1, q2.trans h⟩
        · exact ⟨j, by omega, h⟩
    · obtain ⟨w1, w2, w3, w4, w5, w6⟩ := cw_ends p n hp i (by omega) (fun x => x < n ∧ (cyS p n i).1.getD x false = true) (n + 1) (cyS p n i).1 [] i l1 (by omega) (by have := fresh_le (cyS p n i).1; omega)
        (fun y hy hsy => .inl (by
          have pr := hp.2 y hy
          obtain ⟨j, hj, h⟩ := (ih y hy).1 hsy
          exact (ih _ (by omega)).2 ⟨j, hj, h.trans (Reach.step (by simp) hy)⟩))
        (Reach.refl _ _ _) (fun y hy hsy => .inl ⟨hy, hsy⟩) (fun y hy => hy.2) (.inr rfl) (by simp) (fun z => absurd rfl z) (fun y hy hsy => .inl ⟨hy, hsy⟩)
      constructor
      · intro h
        rcases w2 x hx h with ⟨_, h⟩ | h
        · obtain ⟨j, hj, h⟩ := (ih x hx).1 h
          exact ⟨j, by omega, h⟩
        · exact ⟨i, by omega, h⟩
      · rintro ⟨j, hj, h⟩
        by_cases z : j = i
        · subst z
          have hc := closed_of_fwd p n hp hi (fun y => (cw p (n + 1) (cyS p n j).1 [] j).1.getD y false = true) w1
          exact (h _ hc).1 w4
        · exact w3 x ⟨hx, (ih x hx).2 ⟨j, by omega, h⟩⟩
theorem Cnt.succ_yes {P : Nat → Prop} {i n k : Nat} (h : Cnt n (fun x => x < i ∧ P x) k) (hi : i < n) (hp : P i) : Cnt n (fun x => x < i + 1 ∧ P x) (k + 1) := by
  obtain ⟨L, h1, h2, h3⟩ := h
  refine ⟨i :: L, List.nodup_cons.2 ⟨fun z => by have := ((h2 i).1 z).2.1; omega, h1⟩, fun x => ?_, by simp [h3]⟩
  rw [List.mem_cons, h2]
  constructor
  · rintro (rfl | ⟨a, b, c⟩)
    · exact ⟨hi, by omega, hp⟩
    · exact ⟨a, by omega, c⟩
  · rintro ⟨a, b, c⟩
    by_cases e : x = i
    · exact .inl e
    · exact .inr ⟨a, by omega, c⟩
theorem Cnt.succ_no {P : Nat → Prop} {i n k : Nat} (h : Cnt n (fun x => x < i ∧ P x) k) (hp : ¬ P i) : Cnt n (fun x => x < i + 1 ∧ P x) k := by
  refine h.congr fun x hx => ⟨fun ⟨a, b⟩ => ⟨by omega, b⟩, fun ⟨a, b⟩ => ⟨?_, b⟩⟩
  by_cases e : x = i
  · exact absurd (e ▸ b) hp
  · omega
theorem Cnt.none {P : Nat → Prop} {n : Nat} (h : ∀ x, x < n → ¬ P x) : Cnt n P 0 := ⟨[], List.nodup_nil, fun x => ⟨fun z => by simp at z, fun z => absurd z.2 (h x z.1)⟩, rfl⟩
theorem cyS_cnt (p : List Int) (n : Nat) (hp : inR n p) (hi : injR n p) (ch : Int → Bool) : ∀ i, i ≤ n → Cnt n (fun x => x < i ∧ lst (Reach [p] n) x) (cyS p n i).2.length ∧ Cnt n (fun x => x < i ∧ (lst (Reach [p] n) x ∧ ∀ y, y < n → ch (y : Int) = true → ¬ Reach [p] n x y)) (bc (cyS p n i).2 ch (cyS p n i).2.length)
  | 0, _ => ⟨Cnt.none fun x _ z => by omega, Cnt.none fun x _ z => by omega⟩
  | i + 1, hi' => by
    obtain ⟨ih1, ih2⟩ := cyS_cnt p n hp hi ch i (by omega)
    have seen := cyS_seen p n hp hi i (by omega) i (by omega)
    have l1 := cyS_len p n i
    simp only [cyS]
    by_cases e : (cyS p n i).1.getD i false = true
    · rw [cw_seen p (n + 1) _ _ _ (by rw [rdOf_nat _ _ (by omega), Int.toNat_natCast]; exact e)]
      rw [if_pos rfl]
      obtain ⟨j, hj, h⟩ := seen.1 e
      have nl : ¬ lst (Reach [p] n) i := fun z => z j hj h
      exact ⟨ih1.succ_no nl, ih2.succ_no fun z => nl z.1⟩
    · have e' : ¬ rdOf false (cyS p n i).1 (i : Int) = true := by rw [rdOf_nat _ _ (by omega), Int.toNat_natCast]; exact e
      have hl : lst (Reach [p] n) i := fun j hj h => e (seen.2 ⟨j, hj, h⟩)
      obtain ⟨w1, w2, w3, w4, w5, w6⟩ := cw_ends p n hp i (by omega) (fun x => x < n ∧ (cyS p n i).1.getD x false = true) (n + 1) (cyS p n i).1 [] i l1 (by omega) (by have := fresh_le (cyS p n i).1; omega)
        (fun y hy hsy => .inl (by
          have pr := hp.2 y hy
          obtain ⟨j, hj, h⟩ := (cyS_seen p n hp hi i (by omega) y hy).1 hsy
          exact (cyS_seen p n hp hi i (by omega) _ (by omega)).2 ⟨j, hj, h.trans (Reach.step (by simp) hy)⟩))
        (Reach.refl _ _ _) (fun y hy hsy => .inl ⟨hy, hsy⟩) (fun y hy => hy.2) (.inr rfl) (by simp) (fun z => absurd rfl z) (fun y hy hsy => .inl ⟨hy, hsy⟩)
      have hc := closed_of_fwd p n hp hi (fun y => (cw p (n + 1) (cyS p n i).1 [] i).1.getD y false = true) w1
      rw [if_neg (cw_new p n _ i e')]
      rw [List.length_append, List.length_singleton]
      refine ⟨ih1.succ_yes (by omega) hl, ?_⟩
      have bcp : ∀ (L : List (List Int)) (q : List Int) (j : Nat), j ≤ L.length → bc (L ++ [q]) ch j = bc L ch j := by
        intro L q j
        induction j with
        | zero => intro _; rfl
        | succ j ih =>
          intro hj
          simp only [bc]
          rw [ih (by omega), rdL_nth _ j (by simp; omega), rdL_nth L j (by omega), List.getElem_append_left (by omega)]
      have bcs : ∀ (L : List (List Int)) (q : List Int), bc (L ++ [q]) ch (L.length + 1) = if q.any ch = true then bc L ch L.length else bc L ch L.length + 1 := by
        intro L q
        simp only [bc]
        rw [bcp L q L.length (Nat.le_refl _), rdL_nth _ L.length (by simp), List.getElem_append_right (Nat.le_refl _)]
        simp
      rw [bcs]
      have key : (cw p (n + 1) (cyS p n i).1 [] i).2.any ch = true ↔ ∃ y, y < n ∧ ch (y : Int) = true ∧ Reach [p] n i y := by
        rw [List.any_eq_true]
        constructor
        · rintro ⟨x, hx, hcx⟩
          obtain ⟨a, b, c⟩ := w5 x hx
          exact ⟨x.toNat, by omega, by rw [show ((x.toNat : Nat) : Int) = x by omega]; exact hcx, c⟩
        · rintro ⟨y, hy, hcy, h⟩
          have z := (h _ hc).1 w4
          rcases w6 y hy z with ⟨_, z⟩ | z
          · obtain ⟨j, hj, hr⟩ := (cyS_seen p n hp hi i (by omega) y hy).1 z
            exact absurd (hr.trans h.symm) (hl j hj)
          · exact ⟨y, z, hcy⟩
      by_cases ea : (cw p (n + 1) (cyS p n i).1 [] i).2.any ch = true
      · rw [if_pos ea]
        obtain ⟨y, hy, hcy, h⟩ := key.1 ea
        exact ih2.succ_no fun z => z.2 y hy hcy h
      · rw [if_neg ea]
        exact ih2.succ_yes (by omega) ⟨hl, fun y hy hcy h => ea (key.2 ⟨y, hy, hcy, h⟩)⟩
theorem cyS_cl (p : List Int) (n : Nat) (hp : inR n p) (hi : injR n p) : Cl n (Reach [p] n) (cyS p n n).2.length :=
  (cyS_cnt p n hp hi (fun _ => false) n (Nat.le_refl _)).1.congr fun x hx => ⟨fun z => z.2, fun z => ⟨hx, z⟩⟩
def sgL (t f : List Int) (n : Nat) (c : List Int) : List Int := (List.range n).map fun (d : Nat) => rd t (rd (flC f n c) (d : Int))
theorem sgL_len (t f : List Int) (n : Nat) (c : List Int) : (sgL t f n c).length = n := by simp [sgL]
theorem sgL_rd (t f : List Int) (n : Nat) (c : List Int) (d : Nat) (h : d < n) : rd (sgL t f n c) (d : Int) = rd t (rd (flC f n c) (d : Int)) := by
  rw [rd_lt _ _ (by simp [sgL]; exact h)]
  simp [sgL]
theorem sgL_inR (t f : List Int) (n : Nat) (ht : inR n t) (hf : inR n f) (c : List Int) : inR n (sgL t f n c) := by
  refine ⟨sgL_len t f n c, fun i hi => ?_⟩
  rw [sgL_rd t f n c i hi]
  have h1 := (flC_inR f n hf c).2 i hi
  have h2 := ht.2 (rd (flC f n c) i).toNat (by omega)
  rwa [show (((rd (flC f n c) i).toNat : Nat) : Int) = rd (flC f n c) i by omega] at h2
theorem flC_inj (f : List Int) (n : Nat) (hf : inR n f) (hfl : ∀ i : Nat, i < n → flipAt f i) (c : List Int) : injR n (flC f n c) := by
  have inv : ∀ i : Nat, i < n → rd (flC f n c) (rd (flC f n c) i) = i := by
    intro i hi
    have h1 := hf.2 i hi
    have h3 := chB_flip f n hf hfl c i hi
    rw [flC_rd f n c i hi]
    by_cases e : chB f n c i = true
    · rw [if_pos e]
      have := flC_rd f n c (rd f i).toNat (by omega)
      rw [show (((rd f i).toNat : Nat) : Int) = rd f i by omega, h3, if_pos e] at this
      rw [this, (hfl i hi).2]
    · rw [if_neg e, flC_rd f n c i hi, if_neg e]
  intro i j hi hj e
  have := inv i hi
  rw [e, inv j hj] at this
  omega
theorem sgL_inj (t f : List Int) (n : Nat) (ht : inR n t) (hti : injR n t) (hf : inR n f) (hfl : ∀ i : Nat, i < n → flipAt f i) (c : List Int) : injR n (sgL t f n c) := by
  intro i j hi hj e
  rw [sgL_rd t f n c i hi, sgL_rd t f n c j hj] at e
  have h1 := (flC_inR f n hf c).2 i hi
  have h2 := (flC_inR f n hf c).2 j hj
  have e1 : (((rd (flC f n c) i).toNat : Nat) : Int) = rd (flC f n c) i := by omega
  have e2 : (((rd (flC f n c) j).toNat : Nat) : Int) = rd (flC f n c) j := by omega
  rw [← e1, ← e2] at e
  have := hti _ _ (by omega) (by omega) e
  exact flC_inj f n hf hfl c i j hi hj (by omega)
theorem fc_more (t : List Int) (ch : Int → Bool) : ∀ (m : Nat) (x : Int), (∃ k, k ≤ m ∧ ch (itr t k x) = true) → fc t ch (m + 1) x = fc t ch m x
  | 0, x, ⟨k, hk, h⟩ => by
    have : k = 0 := by omega
    subst this
    have h' : ch x = true := h
    simp [fc, h']
  | m + 1, x, ⟨k, hk, h⟩ => by
    rw [fc]
    conv => rhs; rw [fc]
    by_cases e : ch x = true
    · rw [if_pos e, if_pos e]
    · rw [if_neg e, if_neg e]
      cases k with
      | zero => exact absurd h e
      | succ k => exact fc_more t ch m _ ⟨k, by omega, h⟩
theorem fc_none (t : List Int) (ch : Int → Bool) : ∀ (m : Nat) (x : Int), (∀ k, k ≤ m → ch (itr t k x) = false) → ch (fc t ch m x) = false
  | 0, x, h => h 0 (Nat.le_refl _)
  | m + 1, x, h => by
    have h0 : ch x = false := h 0 (by omega)
    simp only [fc, h0, Bool.false_eq_true, if_false]
    exact fc_none t ch m _ fun k hk => h (k + 1) (by omega)
theorem fc_reach (t f : List Int) (n : Nat) (ht : inR n t) (hf : inR n f) (c : List Int) : ∀ (m : Nat) (x : Int), 0 ≤ x ∧ x < n → Reach [sgL t f n c] n x.toNat (fc t (chB f n c) m x).toNat
  | 0, x, hx => Reach.refl _ _ _
  | m + 1, x, hx => by
    simp only [fc]
    split
    · exact Reach.refl _ _ _
    · rename_i e
      have ex : ((x.toNat : Nat) : Int) = x := by omega
      have tr := ht.2 x.toNat (by omega)
      have st := Reach.step (ps := [sgL t f n c]) (n := n) (p := sgL t f n c) (by simp) (k := x.toNat) (by omega)
      rw [sgL_rd t f n c _ (by omega), flC_rd f n c _ (by omega), ex, if_neg e] at st
      rw [ex] at tr
      exact st.trans (fc_reach t f n ht hf c m _ tr)
theorem ribS_seen (t f c : List Int) (n : Nat) (H : RibOk t f c n) : ∀ i, i ≤ n → (∀ x, x < n → ((ribS (faL t f n c) n (chB f n c) i).1.getD x false = true ↔ chB f n c (x : Int) = true ∧ ∃ j : Nat, j < i ∧ chB f n c (j : Int) = true ∧ Reach [sgL t f n c] n j x)) ∧
    Cnt n (fun x => x < i ∧ (chB f n c (x : Int) = true ∧ ∀ j : Nat, j < x → chB f n c (j : Int) = true → ¬ Reach [sgL t f n c] n j x)) (ribS (faL t f n c) n (chB f n c) i).2
  | 0, _ => by
    refine ⟨fun x hx => ⟨fun h => ?_, fun ⟨_, j, hj, _⟩ => by omega⟩, Cnt.none fun x _ z => by omega⟩
    simp [ribS, List.getD_eq_getElem?_getD, List.getElem?_replicate, hx] at h
  | i + 1, hi => by
    obtain ⟨hn, h1, ht, hti, hf, hfl, hc, hcl⟩ := id H
    obtain ⟨ih1, ih2⟩ := ribS_seen t f c n H i (by omega)
    have l1 := ribS_len (faL t f n c) n (chB f n c) i
    simp only [ribS]
    by_cases e : chB f n c (i : Int) = true ∧ (ribS (faL t f n c) n (chB f n c) i).1.getD i false = false
    · rw [if_pos e]
      have hFin := faL_inR t f n ht hf c
      have F1 : ∀ x : Nat, x < n → chB f n c (x : Int) = true → chB f n c (rd (faL t f n c) x) = true ∧ Reach [sgL t f n c] n x (rd (faL t f n c) x).toNat := by
        intro x hx hcx
        have a1 := fa_ch t f n ht hti hf hfl c x hx hcx
        refine ⟨a1.1, ?_⟩
        have fr := hf.2 x hx
        have tr := ht.2 (rd f x).toNat (by omega)
        rw [show (((rd f x).toNat : Nat) : Int) = rd f x by omega] at tr
        have st := Reach.step (ps := [sgL t f n c]) (n := n) (p := sgL t f n c) (by simp) hx
        rw [sgL_rd t f n c x hx, flC_rd f n c x hx, if_pos hcx] at st
        have := faL_rd t f n c x hx
        rw [if_pos hcx] at this
        rw [this]
        exact st.trans (fc_reach t f n ht hf c n _ tr)
      -- the walk stays within chosen darts; its ends
      have al := cw_alike (faL t f n c) n (chB f n c) (fun d hd hcd => fa_ch t f n ht hti hf hfl c d hd hcd) (n + 1) i (ribS (faL t f n c) n (chB f n c) i).1 (ribS (faL t f n c) n (chB f n c) i).1 [] [] (by omega) e.1 l1 l1 (fun _ _ _ => rfl)
      obtain ⟨w1, w2, w3, w4, w5, w6⟩ := cw_ends (faL t f n c) n hFin i (by omega) (fun x => x < n ∧ (ribS (faL t f n c) n (chB f n c) i).1.getD x false = true) (n + 1) (ribS (faL t f n c) n (chB f n c) i).1 [] i l1 (by omega) (by have := fresh_le (ribS (faL t f n c) n (chB f n c) i).1; omega)
        (fun y hy hsy => .inl (by
          have pr := hFin.2 y hy
          obtain ⟨hcy, j, hj, hcj, h⟩ := (ih1 y hy).1 hsy
          have a1 := F1 y hy hcy
          exact (ih1 _ (by omega)).2 ⟨by rw [show (((rd (faL t f n c) y).toNat : Nat) : Int) = rd (faL t f n c) y by omega]; exact a1.1, j, hj, hcj, h.trans a1.2⟩))
        (Reach.refl _ _ _) (fun y hy hsy => .inl ⟨hy, hsy⟩) (fun y hy => hy.2) (.inr rfl) (by simp) (fun z => absurd rfl z) (fun y hy hsy => .inl ⟨hy, hsy⟩)
      -- what the sides' permutation reaches from a chosen dart along chosen darts of a set led into itself
      have hc' := closed_of_fwd (sgL t f n c) n (sgL_inR t f n ht hf c) (sgL_inj t f n ht hti hf hfl c) (fun y => chB f n c (fc t (chB f n c) n (y : Int)) = true ∧ (cw (faL t f n c) (n + 1) (ribS (faL t f n c) n (chB f n c) i).1 [] i).1.getD (fc t (chB f n c) n (y : Int)).toNat false = true) (fun y hy ⟨g1, g2⟩ => by
        have sr := (sgL_inR t f n ht hf c).2 y hy
        rw [show (((rd (sgL t f n c) y).toNat : Nat) : Int) = rd (sgL t f n c) y by omega, sgL_rd t f n c y hy, flC_rd f n c y hy]
        by_cases hcy : chB f n c (y : Int) = true
        · rw [if_pos hcy]
          have e1 : fc t (chB f n c) n (y : Int) = y := by
            cases n with
            | zero => omega
            | succ n => simp only [fc, hcy, if_true]
          rw [e1, Int.toNat_natCast] at g2
          have := faL_rd t f n c y hy
          rw [if_pos hcy] at this
          rw [← this]
          exact ⟨(F1 y hy hcy).1, w1 y hy g2⟩
        · rw [if_neg hcy]
          have hits : ∃ k, k ≤ n ∧ chB f n c (itr t k (y : Int)) = true := by
            by_cases hh : ∃ k, k ≤ n ∧ chB f n c (itr t k (y : Int)) = true
            · exact hh
            · have := fc_none t (chB f n c) n (y : Int) (fun k hk => by
                cases hb : chB f n c (itr t k (y : Int)) with
                | true => exact absurd ⟨k, hk, hb⟩ hh
                | false => rfl)
              rw [this] at g1
              cases g1
          obtain ⟨k, hk, hk2⟩ := hits
          cases k with
          | zero => exact absurd hk2 hcy
          | succ k =>
            have e1 : fc t (chB f n c) n (y : Int) = fc t (chB f n c) n (rd t y) := by
              rw [← fc_more t (chB f n c) n (y : Int) ⟨k + 1, hk, hk2⟩]
              simp only [fc, hcy, Bool.false_eq_true, if_false]
            rw [← e1]
            exact ⟨g1, g2⟩)
      have fci : ∀ x : Nat, x < n → chB f n c (x : Int) = true → fc t (chB f n c) n (x : Int) = x := by
        intro x hx hcx
        cases n with
        | zero => omega
        | succ n => simp only [fc, hcx, if_true]
      constructor
      · intro x hx
        constructor
        · intro h
          have hcx : chB f n c (x : Int) = true := by
            cases hb : chB f n c (x : Int) with
            | true => rfl
            | false =>
              have z := (al.2 x hx hb).1
              rw [z] at h
              have := ((ih1 x hx).1 h).1
              rw [hb] at this
              cases this
          refine ⟨hcx, ?_⟩
          rcases w2 x hx h with ⟨_, h⟩ | h
          · obtain ⟨_, j, hj, hcj, hr⟩ := (ih1 x hx).1 h
            exact ⟨j, by omega, hcj, hr⟩
          · refine ⟨i, by omega, e.1, ?_⟩
            -- along the sides' first returns, the sides' permutation reaches
            have hcl : closedL [faL t f n c] n (fun y => chB f n c (y : Int) = true → True) := fun _ _ _ _ => ⟨fun _ _ => trivial, fun _ _ => trivial⟩
            have hz : closedL [faL t f n c] n (fun y => Reach [sgL t f n c] n i y) := by
              intro p hp k hk
              rw [List.mem_singleton.1 hp]
              by_cases hck : chB f n c (k : Int) = true
              · exact ⟨fun h => h.trans (F1 k hk hck).2, fun h => h.trans (F1 k hk hck).2.symm⟩
              · rw [faL_rd t f n c k hk, if_neg hck, Int.toNat_natCast]
            exact (h _ hz).1 (Reach.refl _ _ _)
        · rintro ⟨hcx, j, hj, hcj, hr⟩
          by_cases z : j = i
          · subst z
            have h0 := (hr _ hc').1 ⟨by rw [fci j (by omega) hcj]; exact hcj, by rw [fci j (by omega) hcj, Int.toNat_natCast]; exact w4⟩
            rw [fci x hx hcx, Int.toNat_natCast] at h0
            exact h0.2
          · exact w3 x ⟨hx, (ih1 x hx).2 ⟨hcx, j, by omega, hcj, hr⟩⟩
      · refine ih2.succ_yes (by omega) ⟨e.1, fun j hj hcj hr => ?_⟩
        have := (ih1 i (by omega)).2 ⟨e.1, j, hj, hcj, hr⟩
        rw [e.2] at this
        cases this
    · rw [if_neg e]
      constructor
      · intro x hx
        rw [ih1 x hx]
        constructor
        · rintro ⟨a, j, hj, b, d⟩; exact ⟨a, j, by omega, b, d⟩
        · rintro ⟨a, j, hj, b, d⟩
          refine ⟨a, ?_⟩
          by_cases z : j = i
          · subst z
            have hs : (ribS (faL t f n c) n (chB f n c) j).1.getD j false = true := by
              cases hb : (ribS (faL t f n c) n (chB f n c) j).1.getD j false with
              | true => rfl
              | false => exact absurd ⟨b, hb⟩ e
            obtain ⟨_, q, q1, q2, q3⟩ := (ih1 j (by omega)).1 hs
            exact ⟨q, q1, q2, q3.trans d⟩
          · exact ⟨j, by omega, b, d⟩
      · refine ih2.succ_no fun z => e ⟨z.1, ?_⟩
        cases hb : (ribS (faL t f n c) n (chB f n c) i).1.getD i false with
        | false => rfl
        | true =>
          obtain ⟨_, q, q1, q2, q3⟩ := (ih1 i (by omega)).1 hb
          exact absurd q3 (z.2 q q1 q2)
theorem Cnt.union {n : Nat} {P Q : Nat → Prop} {k l : Nat} (hp : Cnt n P k) (hq : Cnt n Q l) (h : ∀ x, x < n → P x → ¬ Q x) : Cnt n (fun x => P x ∨ Q x) (k + l) := by
  obtain ⟨L, h1, h2, h3⟩ := hp
  obtain ⟨M, m1, m2, m3⟩ := hq
  refine ⟨L ++ M, List.nodup_append.2 ⟨h1, m1, fun a ha b hb e => ?_⟩, fun x => ?_, by rw [List.length_append, h3, m3]⟩
  · subst e
    exact h a ((h2 a).1 ha).1 ((h2 a).1 ha).2 ((m2 a).1 hb).2
  · rw [List.mem_append, h2, m2]
    constructor
    · rintro (⟨a, b⟩ | ⟨a, b⟩)
      · exact ⟨a, .inl b⟩
      · exact ⟨a, .inr b⟩
    · rintro ⟨a, b | b⟩
      · exact .inl ⟨a, b⟩
      · exact .inr ⟨a, b⟩
theorem sides_cl (t f c : List Int) (n : Nat) (H : RibOk t f c n) : Cl n (Reach [sgL t f n c] n) (sidesN t f n c) := by
  obtain ⟨hn, h1, ht, hti, hf, hfl, hc, hcl⟩ := id H
  have q1 := (cyS_cnt t n ht hti (chB f n c) n (Nat.le_refl _)).2
  have q2 := (ribS_seen t f c n H n (Nat.le_refl _)).2
  -- along a bare cycle both permutations are one
  have bareC : ∀ x, x < n → (∀ y, y < n → chB f n c (y : Int) = true → ¬ Reach [t] n x y) → closedL [sgL t f n c] n (fun z => z < n ∧ Reach [t] n x z) := by
    intro x hx hb
    refine closed_of_fwd _ n (sgL_inR t f n ht hf c) (sgL_inj t f n ht hti hf hfl c) _ fun k hk ⟨_, hr⟩ => ?_
    have hck : ¬ chB f n c (k : Int) = true := fun z => hb k hk z hr
    have tr := ht.2 k hk
    rw [sgL_rd t f n c k hk, flC_rd f n c k hk, if_neg hck]
    exact ⟨by omega, hr.trans (Reach.step (by simp) hk)⟩
  have u := q1.union q2 (fun x hx a b => (a.2.2 x hx b.2.1) (Reach.refl _ _ _))
  obtain ⟨K, hK, _⟩ := Cl.ex n (Reach [sgL t f n c] n)
  have sy : ∀ x y, Reach [sgL t f n c] n x y → Reach [sgL t f n c] n y x := fun x y h => h.symm
  have tr : ∀ x y z, Reach [sgL t f n c] n x y → Reach [sgL t f n c] n y z → Reach [sgL t f n c] n x z := fun x y z h h' => h.trans h'
  have a1 := Cnt.reps _ sy tr hK u (fun x hx hlx => by
    by_cases hh : ∃ y, y < n ∧ chB f n c (y : Int) = true ∧ Reach [sgL t f n c] n x y
    · obtain ⟨y, hy, hcy, hr⟩ := hh
      -- the least chosen one of the class
      have : ∀ y, y < n → chB f n c (y : Int) = true → Reach [sgL t f n c] n x y → ∃ z, z < n ∧ (chB f n c (z : Int) = true ∧ ∀ j : Nat, j < z → chB f n c (j : Int) = true → ¬ Reach [sgL t f n c] n j z) ∧ Reach [sgL t f n c] n x z := by
        intro y
        induction y using Nat.strongRecOn with
        | ind y ih =>
          intro hy hcy hr
          by_cases g : ∃ j, j < y ∧ chB f n c ((j : Nat) : Int) = true ∧ Reach [sgL t f n c] n j y
          · obtain ⟨j, j1, j2, j3⟩ := g
            exact ih j j1 (by omega) j2 (hr.trans j3.symm)
          · exact ⟨y, hy, ⟨hcy, fun j hj hcj hrj => g ⟨j, hj, hcj, hrj⟩⟩, hr⟩
      obtain ⟨z, z1, z2, z3⟩ := this y hy hcy hr
      exact ⟨z, z1, .inr ⟨z1, z2⟩, z3⟩
    · -- no chosen one: the class is a bare cycle
      obtain ⟨y, y1, y2, y3⟩ := lst_ex (Reach [t] n) (fun x => Reach.refl _ _ x) (fun _ _ h => h.symm) (fun _ _ _ h h' => h.trans h') x
      have hcS : closedL [t] n (fun z => z < n ∧ Reach [sgL t f n c] n x z) := by
        refine closed_of_fwd t n ht hti _ fun k hk ⟨_, hr⟩ => ?_
        have hck : ¬ chB f n c (k : Int) = true := fun z => hh ⟨k, hk, z, hr⟩
        have st := Reach.step (ps := [sgL t f n c]) (n := n) (p := sgL t f n c) (by simp) hk
        rw [sgL_rd t f n c k hk, flC_rd f n c k hk, if_neg hck] at st
        have tr := ht.2 k hk
        exact ⟨by omega, hr.trans st⟩
      have hxy := (y3 _ hcS).2 ⟨hx, Reach.refl _ _ _⟩
      refine ⟨y, hxy.1, .inl ⟨hxy.1, y2, fun z hz hcz hrz => ?_⟩, hxy.2⟩
      have := (hrz _ hcS).1 hxy
      exact hh ⟨z, hz, hcz, this.2⟩) (fun x y hx hlx hy hly h => lst_uniq _ sy x y hlx hly h)
  have a2 := Cnt.reps _ sy tr u hK (fun x hx _ => by
    obtain ⟨y, y1, y2, y3⟩ := lst_ex (Reach [sgL t f n c] n) (fun x => Reach.refl _ _ x) sy tr x
    exact ⟨y, by omega, y2, sy _ _ y3⟩) (fun x y hx hpx hy hpy h => by
    rcases hpx with ⟨_, px1, px2⟩ | ⟨_, px1, px2⟩
    · have hcB := bareC x hx px2
      have hxy := (h _ hcB).1 ⟨hx, Reach.refl _ _ _⟩
      rcases hpy with ⟨_, py1, py2⟩ | ⟨_, py1, py2⟩
      · exact lst_uniq _ (fun _ _ h => h.symm) x y px1 py1 hxy.2
      · exact absurd hxy.2 (px2 y hy py1)
    · rcases hpy with ⟨_, py1, py2⟩ | ⟨_, py1, py2⟩
      · have hcB := bareC y hy py2
        have hxy := (h _ hcB).2 ⟨hy, Reach.refl _ _ _⟩
        exact absurd hxy.2 (py2 x hx px1)
      · by_cases g1 : x < y
        · exact absurd h (py2 x g1 px1)
        · by_cases g2 : y < x
          · exact absurd h.symm (px2 y g2 py1)
          · omega)
  have : K = sidesN t f n c := Nat.le_antisymm a1 a2
  rw [← this]
  exact hK
def vt (C : List (List Int)) (n : Nat) : Nat → List Int
  | 0 => List.replicate n 0
  | q + 1 => (rd_L1 C q).foldl (fun o d => o.set d.toNat (q : Int)) (vt C n q)
theorem mem_restL (c : List Int) (m : Nat) (x : Int) : x ∈ restL c m ↔ ∃ j : Nat, j < m ∧ x = (j : Int) ∧ (j : Int) ∉ c := by
  unfold restL
  rw [List.mem_map]
  constructor
  · rintro ⟨j, hj, rfl⟩
    rw [List.mem_filter, List.mem_range] at hj
    exact ⟨j, hj.1, rfl, by simpa using hj.2⟩
  · rintro ⟨j, h1, rfl, h2⟩
    exact ⟨j, by rw [List.mem_filter, List.mem_range]; exact ⟨h1, by simpa using h2⟩, rfl⟩
theorem choice_of (c : List Int) (m : Int) (h1 : ∀ x ∈ c, 0 ≤ x ∧ x < m) (h2 : c.Pairwise (· < ·)) : isChoice c m := by
  intro i hi
  have e := rd_lt c i hi
  have h := h1 _ (List.getElem_mem hi)
  rw [← e] at h
  refine ⟨?_, h.2⟩
  cases i with
  | zero => rw [ahead_zero]; omega
  | succ i =>
    rw [ahead_succ, rd_lt c i (by omega), e]
    exact List.pairwise_iff_getElem.1 h2 i (i + 1) (by omega) hi (by omega)
theorem restL_choice (c : List Int) (m : Nat) : isChoice (restL c m) m := by
  refine choice_of _ _ (fun x hx => ?_) ?_
  · obtain ⟨j, h1, rfl, _⟩ := (mem_restL c m x).1 hx
    omega
  · unfold restL
    rw [List.pairwise_map]
    exact ((List.pairwise_lt_range (n := m)).filter _).imp (fun h => by omega)
theorem pc_cnt (o : List Int) : ∀ n, Cnt n (fun i => (i : Int) = rd o i) (pc o n)
  | 0 => ⟨[], List.nodup_nil, by simp, rfl⟩
  | n + 1 => by
    obtain ⟨L, h1, h2, h3⟩ := pc_cnt o n
    simp only [pc]
    by_cases h : (n : Int) = rd o n
    · rw [if_pos h]
      refine ⟨n :: L, List.nodup_cons.2 ⟨fun z => by have := ((h2 n).1 z).1; omega, h1⟩, fun x => ?_, by simp [h3]⟩
      rw [List.mem_cons, h2]
      constructor
      · rintro (rfl | ⟨a, b⟩)
        · exact ⟨by omega, h⟩
        · exact ⟨by omega, b⟩
      · rintro ⟨a, b⟩
        by_cases e : x = n
        · exact .inl e
        · exact .inr ⟨by omega, b⟩
    · rw [if_neg h]
      refine ⟨L, h1, fun x => ?_, h3⟩
      rw [h2]
      constructor
      · rintro ⟨a, b⟩; exact ⟨by omega, b⟩
      · rintro ⟨a, b⟩
        by_cases e : x = n
        · exact absurd (e ▸ b) h
        · exact ⟨by omega, b⟩
theorem geL_lt (f : List Int) (n : Nat) (hf : inR n f) (hfl : ∀ i : Nat, i < n → flipAt f i) (d : Nat) (hd : d < n) : ∃ j : Nat, j < (edL f n).length ∧ rd (geL f n n) d = (j : Int) := by
  have l := least_lt f n hf hfl d hd
  exact ⟨_, edL_lt f _ l.2 n l.1, geL_at f n hf hfl n (Nat.le_refl _) d hd l.1⟩
def MapOk (t f : List Int) (n : Nat) : Prop := n ≤ 12 ∧ 1 ≤ n ∧ inR n t ∧ injR n t ∧ inR n f ∧ (∀ i : Nat, i < n → flipAt f i) ∧ ∀ i j : Nat, i < n → j < n → Reach [t, f] n i j
theorem mapOk_of (t f : List Int) (h : isMap t f) : MapOk t f t.length := by
  obtain ⟨hn, h1, ht, hti, hf, hfl, _, _⟩ := ribOk_of t f [] h (fun i hi => by simp at hi) (by simp)
  exact ⟨hn, h1, ht, hti, hf, hfl, by have := h.2.2.2.2; rwa [← h.2.2.1] at this⟩
theorem MapOk.rib {t f : List Int} {n : Nat} (h : MapOk t f n) {c : List Int} (hc : isChoice c ((edL f n).length : Int)) (hcl : c.length ≤ 1048576) : RibOk t f c n :=
  ⟨h.1, h.2.1, h.2.2.1, h.2.2.2.1, h.2.2.2.2.1, h.2.2.2.2.2.1, hc, hcl⟩
theorem parts_cl (t f c : List Int) (n : Nat) (h1 : 1 ≤ n) (ht : inR n t) (hf : inR n f) (o : List Int) (ho : orbOk [t, flC f n c] n o) : Cl n (Reach [t, flC f n c] n) (pc o n) := by
  have hin : ∀ p ∈ [t, flC f n c], inR n p := by
    intro p hp
    rcases List.mem_cons.1 hp with rfl | hp
    · exact ht
    · rw [List.mem_singleton.1 hp]; exact flC_inR f n hf _
  refine (pc_cnt o n).congr fun x hx => ⟨fun h j hj hr => ?_, fun h => ?_⟩
  · have h1 := orbOk_const ho hin hr
    have h2 := ho.1.2 j (by omega)
    have h : (x : Int) = rd o x := h
    omega
  · have h2 := ho.1.2 x hx
    by_cases e : rd o x = x
    · exact e.symm
    · exact absurd h2.2.2 (h _ (by omega))
theorem sg_flC (t f c : List Int) (n : Nat) (hf : inR n f) (x y : Nat) (h : Reach [sgL t f n c] n x y) : Reach [t, flC f n c] n x y := by
  intro S hS
  refine h S fun p hp k hk => ?_
  rw [List.mem_singleton.1 hp, sgL_rd t f n c k hk]
  have fr := (flC_inR f n hf c).2 k hk
  have h1 := hS (flC f n c) (by simp) k hk
  have h2 := hS t (by simp) (rd (flC f n c) k).toNat (by omega)
  rw [show (((rd (flC f n c) k).toNat : Nat) : Int) = rd (flC f n c) k by omega] at h2
  exact h1.trans h2
theorem add_edge (t f : List Int) (n : Nat) (H : MapOk t f n) (c : List Int) (e : Nat) (he : e < (edL f n).length) (hec : (e : Int) ∉ c) (a b : Nat) (ha : a < n) (hb : b < n) (hab : a ≠ b) (e2 : rd f a = b) (e3 : rd f b = a) (e4 : ∀ d : Nat, d < n → (rd (geL f n n) (d : Int) = e ↔ d = a ∨ d = b))
    (P S P' S' : Nat) (hP : Cl n (Reach [t, flC f n c] n) P) (hS : Cl n (Reach [sgL t f n c] n) S) (hP' : Cl n (Reach [t, flC f n (c ++ [(e : Int)])] n) P') (hS' : Cl n (Reach [sgL t f n (c ++ [(e : Int)])] n) S') :
    (Reach [t, flC f n c] n a b → P' = P) ∧ (¬ Reach [t, flC f n c] n a b → P' + 1 = P) ∧ (¬ Reach [sgL t f n c] n a b → S' + 1 = S) ∧ (Reach [sgL t f n c] n a b → S' = S + 1) := by
  obtain ⟨hn, h1, ht, hti, hf, hfl, hcon⟩ := id H
  have chA : ∀ d : Nat, d < n → chB f n (c ++ [(e : Int)]) (d : Int) = (chB f n c (d : Int) || decide (d = a ∨ d = b)) := by
    intro d hd
    unfold chB
    rw [Bool.eq_iff_iff, Bool.or_eq_true, decide_eq_true_eq, decide_eq_true_eq, decide_eq_true_eq, List.mem_append, List.mem_singleton, e4 d hd]
  have un : ∀ d : Nat, d < n → d = a ∨ d = b → chB f n c (d : Int) = false := by
    intro d hd h
    unfold chB
    rw [(e4 d hd).2 h]
    exact decide_eq_false hec
  have fa : rd (flC f n c) a = a := by rw [flC_rd f n c a ha, un a ha (.inl rfl)]; simp
  have fb : rd (flC f n c) b = b := by rw [flC_rd f n c b hb, un b hb (.inr rfl)]; simp
  have fa' : rd (flC f n (c ++ [(e : Int)])) a = b := by rw [flC_rd f n _ a ha, chA a ha]; simp [e2]
  have fb' : rd (flC f n (c ++ [(e : Int)])) b = a := by rw [flC_rd f n _ b hb, chA b hb]; simp [e3]
  have fo : ∀ d : Nat, d < n → d ≠ a → d ≠ b → rd (flC f n (c ++ [(e : Int)])) d = rd (flC f n c) d := by
    intro d hd ka kb
    rw [flC_rd f n _ d hd, flC_rd f n _ d hd, chA d hd]
    simp [ka, kb]
  have rel : ∀ x y, Reach [t, flC f n (c ++ [(e : Int)])] n x y ↔ Reach [t, flC f n c] n x y ∨ (Reach [t, flC f n c] n x a ∧ Reach [t, flC f n c] n b y) ∨ (Reach [t, flC f n c] n x b ∧ Reach [t, flC f n c] n a y) := by
    have up : ∀ x y, Reach [t, flC f n c] n x y → Reach [t, flC f n (c ++ [(e : Int)])] n x y := by
      intro x y h S hS
      refine h S fun p hp k hk => ?_
      rcases List.mem_cons.1 hp with rfl | hp
      · exact hS p (by simp) k hk
      · rw [List.mem_singleton.1 hp]
        by_cases ka : k = a
        · subst ka; rw [fa, Int.toNat_natCast]
        · by_cases kb : k = b
          · subst kb; rw [fb, Int.toNat_natCast]
          · rw [← fo k hk ka kb]
            exact hS _ (by simp) k hk
    have uab : Reach [t, flC f n (c ++ [(e : Int)])] n a b := by
      have := Reach.step (ps := [t, flC f n (c ++ [(e : Int)])]) (n := n) (p := flC f n (c ++ [(e : Int)])) (by simp) ha
      rwa [fa', Int.toNat_natCast] at this
    intro x y
    constructor
    · intro h
      refine (h (fun z => Reach [t, flC f n c] n x z ∨ (Reach [t, flC f n c] n x a ∧ Reach [t, flC f n c] n b z) ∨ (Reach [t, flC f n c] n x b ∧ Reach [t, flC f n c] n a z)) ?_).1 (.inl (Reach.refl _ _ _))
      intro p hp k hk
      rcases List.mem_cons.1 hp with rfl | hp
      · have s := Reach.step (ps := [p, flC f n c]) (n := n) (p := p) (by simp) hk
        constructor
        · rintro (z | ⟨z1, z2⟩ | ⟨z1, z2⟩)
          · exact .inl (z.trans s)
          · exact .inr (.inl ⟨z1, z2.trans s⟩)
          · exact .inr (.inr ⟨z1, z2.trans s⟩)
        · rintro (z | ⟨z1, z2⟩ | ⟨z1, z2⟩)
          · exact .inl (z.trans s.symm)
          · exact .inr (.inl ⟨z1, z2.trans s.symm⟩)
          · exact .inr (.inr ⟨z1, z2.trans s.symm⟩)
      · rw [List.mem_singleton.1 hp]
        by_cases ka : k = a
        · subst ka
          rw [fa', Int.toNat_natCast]
          constructor
          · rintro (z | ⟨z1, z2⟩ | ⟨z1, z2⟩)
            · exact .inr (.inl ⟨z, Reach.refl _ _ _⟩)
            · exact .inr (.inl ⟨z1, Reach.refl _ _ _⟩)
            · exact .inl z1
          · rintro (z | ⟨z1, z2⟩ | ⟨z1, z2⟩)
            · exact .inr (.inr ⟨z, Reach.refl _ _ _⟩)
            · exact .inl z1
            · exact .inr (.inr ⟨z1, Reach.refl _ _ _⟩)
        · by_cases kb : k = b
          · subst kb
            rw [fb', Int.toNat_natCast]
            constructor
            · rintro (z | ⟨z1, z2⟩ | ⟨z1, z2⟩)
              · exact .inr (.inr ⟨z, Reach.refl _ _ _⟩)
              · exact .inl z1
              · exact .inr (.inr ⟨z1, Reach.refl _ _ _⟩)
            · rintro (z | ⟨z1, z2⟩ | ⟨z1, z2⟩)
              · exact .inr (.inl ⟨z, Reach.refl _ _ _⟩)
              · exact .inr (.inl ⟨z1, Reach.refl _ _ _⟩)
              · exact .inl z1
          · have s := Reach.step (ps := [t, flC f n c]) (n := n) (p := flC f n c) (by simp) hk
            rw [fo k hk ka kb]
            constructor
            · rintro (z | ⟨z1, z2⟩ | ⟨z1, z2⟩)
              · exact .inl (z.trans s)
              · exact .inr (.inl ⟨z1, z2.trans s⟩)
              · exact .inr (.inr ⟨z1, z2.trans s⟩)
            · rintro (z | ⟨z1, z2⟩ | ⟨z1, z2⟩)
              · exact .inl (z.trans s.symm)
              · exact .inr (.inl ⟨z1, z2.trans s.symm⟩)
              · exact .inr (.inr ⟨z1, z2.trans s.symm⟩)
    · rintro (z | ⟨z1, z2⟩ | ⟨z1, z2⟩)
      · exact up _ _ z
      · exact (up _ _ z1).trans (uab.trans (up _ _ z2))
      · exact (up _ _ z1).trans (uab.symm.trans (up _ _ z2))
  have ex : Exch n (sgL t f n c) (sgL t f n (c ++ [(e : Int)])) a b := by
    refine ⟨ha, hb, hab, ?_, ?_, fun x hx ka kb => ?_⟩
    · rw [sgL_rd t f n _ a ha, sgL_rd t f n _ b hb, fa', fb]
    · rw [sgL_rd t f n _ a ha, sgL_rd t f n _ b hb, fb', fa]
    · rw [sgL_rd t f n _ x hx, sgL_rd t f n _ x hx, fo x hx ka kb]
  have xc := exch_count (sgL_inR t f n ht hf c) (sgL_inR t f n ht hf _) (sgL_inj t f n ht hti hf hfl c) (sgL_inj t f n ht hti hf hfl _) ex hS hS'
  refine ⟨fun h => ?_, fun h => ?_, xc.1, xc.2⟩
  · refine Cnt.same hP' hP fun x hx => ?_
    have : ∀ i, Reach [t, flC f n (c ++ [(e : Int)])] n i x ↔ Reach [t, flC f n c] n i x := fun i => by
      rw [rel]
      exact ⟨fun z => z.elim id (fun z => z.elim (fun z => z.1.trans (h.trans z.2)) (fun z => z.1.trans (h.symm.trans z.2))), .inl⟩
    exact ⟨fun z i hi hr => z i hi ((this i).2 hr), fun z i hi hr => z i hi ((this i).1 hr)⟩
  · have := Cl.merge (S := Reach [t, flC f n (c ++ [(e : Int)])] n) (fun x => Reach.refl _ _ x) (fun _ _ h => h.symm) (fun _ _ _ h h' => h.trans h') hP a b ha hb h rel
    have u := Cl.uniq hP' this.2
    omega
def Gen (t f : List Int) (n : Nat) (c : List Int) (K g : Nat) : Prop := ∃ P S V, Cl n (Reach [t, flC f n c] n) P ∧ Cl n (Reach [sgL t f n c] n) S ∧ Cl n (Reach [t] n) V ∧ 2 * P + K = V + S + 2 * g ∧ V ≤ K + P
theorem flC_nil (f : List Int) (n : Nat) : flC f n [] = stl n := by
  have := flC_zero f n []
  simpa using this
theorem gen_nil (t f : List Int) (n : Nat) (H : MapOk t f n) : Gen t f n [] 0 0 := by
  obtain ⟨hn, h1, ht, hti, hf, hfl, hcon⟩ := id H
  obtain ⟨V, hV, _⟩ := Cl.ex n (Reach [t] n)
  have e1 : ∀ x y, Reach [t, flC f n []] n x y ↔ Reach [t] n x y := by
    intro x y
    constructor
    · intro h S hS
      refine h S fun p hp k hk => ?_
      rcases List.mem_cons.1 hp with rfl | hp
      · exact hS p (by simp) k hk
      · rw [List.mem_singleton.1 hp, flC_nil, stl_rd n k hk, Int.toNat_natCast]
    · intro h S hS
      exact h S fun p hp k hk => by rw [List.mem_singleton.1 hp]; exact hS t (by simp) k hk
  have e2 : sgL t f n [] = t := by
    refine list_ext _ _ (by rw [sgL_len, ht.1]) fun d hd => ?_
    rw [sgL_len] at hd
    rw [sgL_rd t f n [] d hd, flC_nil, stl_rd n d hd]
  refine ⟨V, V, V, ?_, by rw [e2]; exact hV, hV, by omega, by omega⟩
  exact Cnt.congr hV fun x hx => ⟨fun z i hi hr => z i hi ((e1 i x).1 hr), fun z i hi hr => z i hi ((e1 i x).2 hr)⟩
theorem gen_step (t f : List Int) (n : Nat) (H : MapOk t f n) (c : List Int) (K g : Nat) (hG : Gen t f n c K g) (e : Nat) (he : e < (edL f n).length) (hec : (e : Int) ∉ c) : ∃ g', g ≤ g' ∧ Gen t f n (c ++ [(e : Int)]) (K + 1) g' := by
  obtain ⟨hn, h1, ht, hti, hf, hfl, hcon⟩ := id H
  obtain ⟨P, S, V, hP, hS, hV, g1, g2⟩ := hG
  obtain ⟨a, b, ha, hb, hab, _, e2, e3, e4⟩ := edge_at f n hf hfl e he
  obtain ⟨P', hP', _⟩ := Cl.ex n (Reach [t, flC f n (c ++ [(e : Int)])] n)
  obtain ⟨S', hS', _⟩ := Cl.ex n (Reach [sgL t f n (c ++ [(e : Int)])] n)
  obtain ⟨x1, x2, x3, x4⟩ := add_edge t f n H c e he hec a b ha hb hab e2 e3 e4 P S P' S' hP hS hP' hS'
  by_cases r : Reach [t, flC f n c] n a b
  · have p1 := x1 r
    by_cases q : Reach [sgL t f n c] n a b
    · have s1 := x4 q
      exact ⟨g, Nat.le_refl _, P', S', V, hP', hS', hV, by omega, by omega⟩
    · have s1 := x3 q
      exact ⟨g + 1, by omega, P', S', V, hP', hS', hV, by omega, by omega⟩
  · have p1 := x2 r
    have s1 := x3 fun q => r (sg_flC t f c n hf a b q)
    exact ⟨g, Nat.le_refl _, P', S', V, hP', hS', hV, by omega, by omega⟩
theorem gen_run (t f : List Int) (n : Nat) (H : MapOk t f n) : ∀ (L c : List Int) (K g : Nat), Gen t f n c K g → L.Nodup → (∀ x ∈ L, 0 ≤ x ∧ x < (edL f n).length ∧ x ∉ c) → ∃ g', g ≤ g' ∧ Gen t f n (c ++ L) (K + L.length) g'
  | [], c, K, g, hG, _, _ => ⟨g, Nat.le_refl _, by simpa using hG⟩
  | x :: L, c, K, g, hG, hN, hL => by
    obtain ⟨n1, n2⟩ := List.nodup_cons.1 hN
    have hx := hL x (by simp)
    have ex : ((x.toNat : Nat) : Int) = x := by omega
    obtain ⟨g1, l1, G1⟩ := gen_step t f n H c K g hG x.toNat (by omega) (by rw [ex]; exact hx.2.2)
    rw [ex] at G1
    obtain ⟨g2, l2, G2⟩ := gen_run t f n H L (c ++ [x]) (K + 1) g1 G1 n2 (fun y hy => by
      have := hL y (by simp [hy])
      refine ⟨this.1, this.2.1, fun z => ?_⟩
      rw [List.mem_append, List.mem_singleton] at z
      exact z.elim this.2.2 (fun z => n1 (z ▸ hy)))
    refine ⟨g2, by omega, ?_⟩
    rw [List.append_assoc, List.singleton_append] at G2
    rw [List.length_cons, show K + (L.length + 1) = K + 1 + L.length by omega]
    exact G2
theorem gen_uniq {t f : List Int} {n : Nat} {c : List Int} {K g P S V : Nat} (hG : Gen t f n c K g) (hP : Cl n (Reach [t, flC f n c] n) P) (hS : Cl n (Reach [sgL t f n c] n) S) (hV : Cl n (Reach [t] n) V) : 2 * P + K = V + S + 2 * g ∧ V ≤ K + P := by
  obtain ⟨P', S', V', p, s, v, h1, h2⟩ := hG
  rw [Cl.uniq hP p, Cl.uniq hS s, Cl.uniq hV v]
  exact ⟨h1, h2⟩
theorem choice_nodup (c : List Int) (m : Int) (hc : isChoice c m) : c.Nodup := by
  rw [List.Nodup, List.pairwise_iff_getElem]
  intro i j hi hj hij e
  have := asc_mono c m hc j i hj hij
  rw [rd_lt c i hi, rd_lt c j hj, e] at this
  omega
theorem choice_mem (c : List Int) (m : Int) (hc : isChoice c m) (x : Int) (hx : x ∈ c) : 0 ≤ x ∧ x < m := by
  obtain ⟨i, hi, rfl⟩ := List.getElem_of_mem hx
  have := choice_range c m hc i hi
  rwa [rd_lt c i hi] at this
def faces (t f : List Int) (n : Nat) : List Int := (List.range n).map fun (d : Nat) => rd t (rd f (d : Int))
theorem faces_len (t f : List Int) (n : Nat) : (faces t f n).length = n := by simp [faces]
theorem faces_rd (t f : List Int) (n d : Nat) (h : d < n) : rd (faces t f n) (d : Int) = rd t (rd f (d : Int)) := by
  rw [rd_lt _ _ (by simp [faces]; exact h)]
  simp [faces]
theorem flC_all (f : List Int) (n : Nat) (hf : inR n f) (hfl : ∀ i : Nat, i < n → flipAt f i) (c : List Int) (hc : ∀ j : Nat, j < (edL f n).length → (j : Int) ∈ c) : flC f n c = f := by
  refine list_ext _ _ (by rw [flC_len, hf.1]) fun d hd => ?_
  rw [flC_len] at hd
  obtain ⟨j, j1, j2⟩ := geL_lt f n hf hfl d hd
  have : chB f n c (d : Int) = true := by
    unfold chB
    rw [j2]
    exact decide_eq_true (hc j j1)
  rw [flC_rd f n c d hd, if_pos this]
theorem sgL_all (t f : List Int) (n : Nat) (c : List Int) (h : flC f n c = f) : sgL t f n c = faces t f n := by
  unfold sgL faces
  rw [h]
theorem rest_count (c : List Int) (m : Nat) (hc : isChoice c m) : (restL c m).length + c.length = m := by
  have h1 := len_le_of_sub ((restL c m).map Int.toNat ++ c.map Int.toNat) (List.range m) ?_ ?_
  · have h2 := len_le_of_sub (List.range m) ((restL c m).map Int.toNat ++ c.map Int.toNat) List.nodup_range ?_
    · simp only [List.length_append, List.length_map, List.length_range] at h1 h2
      omega
    · intro x hx
      rw [List.mem_range] at hx
      rw [List.mem_append, List.mem_map, List.mem_map]
      by_cases e : (x : Int) ∈ c
      · exact .inr ⟨_, e, by omega⟩
      · exact .inl ⟨x, (mem_restL c m _).2 ⟨x, hx, rfl, e⟩, by omega⟩
  · have inj : ∀ L : List Int, L.Nodup → (∀ x ∈ L, 0 ≤ x) → (L.map Int.toNat).Nodup := by
      intro L hL h0
      rw [List.Nodup, List.pairwise_map]
      refine List.Pairwise.imp_of_mem ?_ hL
      intro a b ha hb hab e
      have := h0 a ha
      have := h0 b hb
      omega
    refine List.nodup_append.2 ⟨inj _ (choice_nodup _ _ (restL_choice c m)) (fun x hx => (choice_mem _ _ (restL_choice c m) x hx).1), inj _ (choice_nodup _ _ hc) (fun x hx => (choice_mem _ _ hc x hx).1), ?_⟩
    intro a ha b hb e
    obtain ⟨x, hx, rfl⟩ := List.mem_map.1 ha
    obtain ⟨y, hy, rfl⟩ := List.mem_map.1 hb
    obtain ⟨j, j1, rfl, j2⟩ := (mem_restL c m x).1 hx
    have := (choice_mem _ _ hc y hy).1
    exact j2 (by rw [show (j : Int) = y by omega]; exact hy)
  · intro x hx
    rw [List.mem_append, List.mem_map, List.mem_map] at hx
    rw [List.mem_range]
    rcases hx with ⟨y, hy, rfl⟩ | ⟨y, hy, rfl⟩
    · have := choice_mem _ _ (restL_choice c m) y hy
      omega
    · have := choice_mem _ _ hc y hy
      omega
theorem five_math (t f c : List Int) (n : Nat) (H : MapOk t f n) (hc : isChoice c ((edL f n).length : Int)) (P S V F : Nat) (hP : Cl n (Reach [t, flC f n c] n) P) (hS : Cl n (Reach [sgL t f n c] n) S) (hV : Cl n (Reach [t] n) V) (hF : Cl n (Reach [faces t f n] n) F) :
    ∃ g G : Nat, 2 * P + c.length = V + S + 2 * g ∧ V ≤ c.length + P ∧ g ≤ G ∧ 2 + (edL f n).length = V + F + 2 * G := by
  obtain ⟨hn, h1, ht, hti, hf, hfl, hcon⟩ := id H
  obtain ⟨g, _, G1⟩ := gen_run t f n H c [] 0 0 (gen_nil t f n H) (choice_nodup _ _ hc) (fun x hx => by have := choice_mem _ _ hc x hx; exact ⟨this.1, this.2, by simp⟩)
  rw [List.nil_append, Nat.zero_add] at G1
  obtain ⟨u1, u2⟩ := gen_uniq G1 hP hS hV
  obtain ⟨G, l2, G2⟩ := gen_run t f n H (restL c (edL f n).length) c c.length g G1 (choice_nodup _ _ (restL_choice _ _)) (fun x hx => by
    have := choice_mem _ _ (restL_choice c (edL f n).length) x hx
    obtain ⟨j, _, rfl, j2⟩ := (mem_restL _ _ x).1 hx
    exact ⟨this.1, this.2, j2⟩)
  have ea : flC f n (c ++ restL c (edL f n).length) = f := flC_all f n hf hfl _ fun j hj => by
    rw [List.mem_append]
    by_cases e : (j : Int) ∈ c
    · exact .inl e
    · exact .inr ((mem_restL _ _ _).2 ⟨j, hj, rfl, e⟩)
  have cnt := rest_count c (edL f n).length hc
  have one : Cl n (Reach [t, flC f n (c ++ restL c (edL f n).length)] n) 1 := by
    rw [ea]
    refine ⟨[0], by simp, fun x => ?_, rfl⟩
    rw [List.mem_singleton]
    constructor
    · rintro rfl
      exact ⟨by omega, fun i hi _ => by omega⟩
    · rintro ⟨hx, hl⟩
      by_cases e : x = 0
      · exact e
      · exact absurd (hcon 0 x (by omega) hx) (hl 0 (by omega))
  obtain ⟨v1, v2⟩ := gen_uniq G2 one (by rw [sgL_all t f n _ ea]; exact hF) hV
  exact ⟨g, G, u1, u2, l2, by omega⟩
theorem perm_of (l : List Int) (n : Nat) (h1 : 1 ≤ n) (h12 : n ≤ 12) (hl : inR n l) (hi : injR n l) : isPerm l := by
  refine ⟨by rw [hl.1]; exact h1, by rw [hl.1]; exact h12, fun i hi' => ?_⟩
  rw [hl.1] at hi'
  have := hl.2 i hi'
  refine ⟨this.1, by rw [hl.1]; exact this.2, fun k hk e => ?_⟩
  have := hi k i (by omega) hi' e
  omega
theorem flip_inj (f : List Int) (n : Nat) (hf : inR n f) (hfl : ∀ i : Nat, i < n → flipAt f i) : injR n f := by
  intro i j hi hj e
  have h1 := (hfl i hi).2
  rw [e, (hfl j hj).2] at h1
  omega
theorem isMap_of {t f : List Int} {n : Nat} (H : MapOk t f n) : isMap t f := by
  obtain ⟨hn, h1, ht, hti, hf, hfl, hcon⟩ := H
  refine ⟨perm_of t n h1 hn ht hti, perm_of f n h1 hn hf (flip_inj f n hf hfl), by rw [ht.1, hf.1], ?_, ?_⟩
  · rw [hf.1]; exact hfl
  · rw [hf.1]; exact hcon
theorem faces_inR (t f : List Int) (n : Nat) (ht : inR n t) (hf : inR n f) : inR n (faces t f n) := by
  refine ⟨faces_len t f n, fun i hi => ?_⟩
  rw [faces_rd t f n i hi]
  have h1 := hf.2 i hi
  have h2 := ht.2 (rd f i).toNat (by omega)
  rwa [show (((rd f i).toNat : Nat) : Int) = rd f i by omega] at h2
theorem faces_inj (t f : List Int) (n : Nat) (ht : inR n t) (hti : injR n t) (hf : inR n f) (hfl : ∀ i : Nat, i < n → flipAt f i) : injR n (faces t f n) := by
  intro i j hi hj e
  rw [faces_rd t f n i hi, faces_rd t f n j hj] at e
  have h1 := hf.2 i hi
  have h2 := hf.2 j hj
  have e1 : (((rd f i).toNat : Nat) : Int) = rd f i := by omega
  have e2 : (((rd f j).toNat : Nat) : Int) = rd f j := by omega
  rw [← e1, ← e2] at e
  have := hti _ _ (by omega) (by omega) e
  exact flip_inj f n hf hfl i j hi hj (by omega)
theorem dual_ok {t f : List Int} {n : Nat} (H : MapOk t f n) : MapOk (faces t f n) f n := by
  obtain ⟨hn, h1, ht, hti, hf, hfl, hcon⟩ := H
  refine ⟨hn, h1, faces_inR t f n ht hf, faces_inj t f n ht hti hf hfl, hf, hfl, fun i j hi hj S hS => hcon i j hi hj S fun p hp k hk => ?_⟩
  have sf := hS f (by simp)
  rcases List.mem_cons.1 hp with rfl | hp
  · have fr := hf.2 k hk
    have h2 := hS (faces p f n) (by simp) (rd f k).toNat (by omega)
    have e1 : (((rd f k).toNat : Nat) : Int) = rd f k := by omega
    rw [faces_rd p f n _ (by omega), e1, (hfl k hk).2] at h2
    exact (sf k hk).trans h2
  · rw [List.mem_singleton.1 hp]
    exact sf k hk
theorem chB_rest (f : List Int) (n : Nat) (hf : inR n f) (hfl : ∀ i : Nat, i < n → flipAt f i) (c : List Int) (d : Nat) (hd : d < n) : chB f n (restL c (edL f n).length) (d : Int) = !chB f n c (d : Int) := by
  obtain ⟨j, j1, j2⟩ := geL_lt f n hf hfl d hd
  unfold chB
  rw [j2]
  by_cases e : (j : Int) ∈ c
  · rw [decide_eq_true e]
    exact decide_eq_false fun z => by
      obtain ⟨q, _, e1, e2⟩ := (mem_restL _ _ _).1 z
      exact e2 (e1 ▸ e)
  · rw [decide_eq_false e]
    exact decide_eq_true ((mem_restL _ _ _).2 ⟨j, j1, rfl, e⟩)
theorem dual_sg (t f : List Int) (n : Nat) (H : MapOk t f n) (c : List Int) : sgL (faces t f n) f n (restL c (edL f n).length) = sgL t f n c := by
  obtain ⟨hn, h1, ht, hti, hf, hfl, hcon⟩ := H
  refine list_ext _ _ (by rw [sgL_len, sgL_len]) fun d hd => ?_
  rw [sgL_len] at hd
  have fr := hf.2 d hd
  have e1 : (((rd f d).toNat : Nat) : Int) = rd f d := by omega
  rw [sgL_rd _ f n _ d hd, sgL_rd t f n c d hd, flC_rd f n _ d hd, flC_rd f n c d hd, chB_rest f n hf hfl c d hd]
  cases chB f n c (d : Int) with
  | true =>
    simp only [Bool.not_true, Bool.false_eq_true, if_false, if_true]
    rw [faces_rd t f n d hd]
  | false =>
    simp only [Bool.not_false, Bool.false_eq_true, if_false, if_true]
    rw [← e1, faces_rd t f n _ (by omega), e1, (hfl d hd).2]
theorem surj (t : List Int) (n : Nat) (ht : inR n t) (hti : injR n t) (i : Nat) (hi : i < n) : ∃ j : Nat, j < n ∧ rd t j = i := by
  obtain ⟨k, _, h2⟩ := itr_back t n ht hti i (by omega)
  have hin := itr_in t n ht k i (by omega)
  refine ⟨(itr t k i).toNat, by omega, ?_⟩
  rw [show (((itr t k i).toNat : Nat) : Int) = itr t k i by omega]
  have := itr_add t k 1 (i : Int)
  rw [h2] at this
  exact this.symm
theorem mulF_run (t f : List Int) (n : Nat) (hn : n ≤ 12) (ht : inR n t) (hf : inR n f) : ∀ (d i : Nat), n - i = d → i ≤ n → Ev (fun k => impl_mul.l0 k t (mixL (faces t f n) (List.replicate n 0) n i) f n i) (faces t f n)
  | 0, i, hd, hi => by
    have : i = n := by omega
    subst this
    refine Ev.s ?_
    simp only [impl_mul.l0, show ¬ (i : Int) < (i : Int) by omega, if_false]
    rw [mixL_all _ _ _ (faces_len t f i)]
    exact Ev.const rfl
  | d + 1, i, hd, hi => by
    have ih := mulF_run t f n hn ht hf d (i + 1) (by omega) (by omega)
    have fr := hf.2 i (by omega)
    have fe := faces_rd t f n i (by omega)
    refine Ev.s ?_
    simp only [impl_mul.l0, hf.1, ht.1, mixL_len, show (i : Int) < (n : Int) by omega, show (0 : Int) ≤ (i : Int) by omega, fr.1, fr.2, if_true, w64n (show i < 4611686018427387904 by omega), Int.toNat_natCast]
    rw [← fe, mixL_set _ _ _ _ (by omega)]
    exact ih
theorem mulF_ev (t f : List Int) (n : Nat) (hn : n ≤ 12) (ht : inR n t) (hf : inR n f) : Ev (fun k => impl_mul.f k f t) (faces t f n) := by
  unfold impl_mul.f
  rw [hf.1]
  simp only [show (0 : Int) ≤ (n : Int) by omega, Int.toNat_natCast, show n ≤ 35184372088832 by omega, if_true]
  have := mulF_run t f n hn ht hf n 0 (by omega) (by omega)
  rw [mixL_zero _ _ _ (by simp)] at this
  exact this
def threeN (V E F : Nat) : List Int := [(V : Int), (E : Int), (F : Int)]
theorem mapCounts_ev (t f : List Int) (hm : isMap t f) (ht : t.length ≤ 1048576) (hf : f.length ≤ 1048576) : ∃ F : Nat, Cl t.length (Reach [faces t f t.length] t.length) F ∧ Ev (fun k => impl_MapCounts.f k t f) (threeN (cyS t t.length t.length).2.length (edL f t.length).length F, true) := by
  obtain ⟨hn, h1, ht', hti, hf', hfl, hcon⟩ := mapOk_of t f hm
  obtain ⟨b, _, b2, b3⟩ := mapValid_both t f ht hf
  have hb : b = true := b3.2 hm
  subst hb
  have hF := faces_inR t f t.length ht' hf'
  refine ⟨(cyS (faces t f t.length) t.length t.length).2.length, cyS_cl _ _ hF (faces_inj t f t.length ht' hti hf' hfl), ?_⟩
  have hh := edL_half f t.length hf' hfl
  have hlen := hf'.1
  unfold impl_MapCounts.f
  refine Ev.bind b2 ?_
  simp only [if_true]
  refine Ev.bind (implCyc_ev t t.length (by omega) ht') ?_
  refine Ev.bind (mulF_ev t f t.length hn ht' hf') ?_
  refine Ev.bind (implCyc_ev _ t.length (by omega) hF) (Ev.const ?_)
  unfold threeN
  rw [w64 (by omega) (by omega), show (f.length : Int) / 2 = (((edL f t.length).length : Nat) : Int) by omega]
theorem choice_half (t f c : List Int) (hm : isMap t f) : isChoice c ((f.length : Int) / 2) ↔ isChoice c ((edL f t.length).length : Int) := by
  obtain ⟨hn, h1, ht', hti, hf', hfl, hcon⟩ := mapOk_of t f hm
  have hh := edL_half f t.length hf' hfl
  have hlen := hf'.1
  rw [show (f.length : Int) / 2 = (((edL f t.length).length : Nat) : Int) by omega]
theorem five_ev (t f c : List Int) (hm : isMap t f) (hc : isChoice c ((edL f t.length).length : Int)) (hcl : c.length ≤ 1048576) : ∃ P S : Nat, Cl t.length (Reach [t, flC f t.length c] t.length) P ∧ Cl t.length (Reach [sgL t f t.length c] t.length) S ∧ Ev (fun k => spec_l7Counts.f k t f c) (fiveN P S ((cyS t t.length t.length).2.length : Int) c.length) ∧ Ev (fun k => impl_ribbon.f k t f c) (fiveN P S ((cyS t t.length t.length).2.length : Int) c.length) := by
  have H := mapOk_of t f hm
  obtain ⟨hn, h1, ht', hti, hf', hfl, hcon⟩ := id H
  have hR := H.rib hc hcl
  obtain ⟨o, o1, _, h2, h3⟩ := ribbon_both t f c t.length hR
  exact ⟨_, _, parts_cl t f c t.length h1 ht' hf' o o1, sides_cl t f c t.length hR, h2, h3⟩
def sumB : Nat → ((Nat → Bool) → Int) → Int
  | 0, F => F (fun _ => false)
  | E + 1, F => sumB E (fun s => F (fun j => if j = E then false else s j)) + sumB E (fun s => F (fun j => if j = E then true else s j))
def lstS (s : Nat → Bool) : Nat → List Int
  | 0 => []
  | E + 1 => if s E = true then lstS s E ++ [(E : Int)] else lstS s E
theorem lstS_congr (s s' : Nat → Bool) : ∀ E, (∀ j, j < E → s j = s' j) → lstS s E = lstS s' E
  | 0, _ => rfl
  | E + 1, h => by
    simp only [lstS, h E (by omega), lstS_congr s s' E fun j hj => h j (by omega)]
theorem sumB_congr : ∀ (E : Nat) (F G : (Nat → Bool) → Int), (∀ s, (∀ j, E ≤ j → s j = false) → F s = G s) → sumB E F = sumB E G
  | 0, F, G, h => h _ fun _ _ => rfl
  | E + 1, F, G, h => by
    simp only [sumB]
    congr 1
    · refine sumB_congr E _ _ fun s hs => h _ fun j hj => ?_
      by_cases z : j = E
      · rw [if_pos z]
      · rw [if_neg z]; exact hs j (by omega)
    · refine sumB_congr E _ _ fun s hs => h _ fun j hj => ?_
      rw [if_neg (by omega)]; exact hs j (by omega)
theorem sum_vall : ∀ (E : Nat) (F : List Int → Int), ((vallE E).map F).sum = sumB E (fun s => F (lstS s E))
  | 0, F => by simp [vallE, sumB, lstS]
  | E + 1, F => by
    simp only [vallE, List.map_append, List.sum_append, List.map_map, sumB]
    congr 1
    · rw [sum_vall E F]
      refine sumB_congr E _ _ fun s _ => ?_
      simp only [lstS, if_true, Bool.false_eq_true, if_false]
      rw [lstS_congr s _ E fun j hj => ?_]
      rw [if_neg (by omega)]
    · rw [sum_vall E]
      refine sumB_congr E _ _ fun s _ => ?_
      simp only [lstS, if_true, Function.comp]
      rw [lstS_congr s _ E fun j hj => ?_]
      rw [if_neg (by omega)]
theorem mem_lstS (s : Nat → Bool) : ∀ (E : Nat) (x : Int), x ∈ lstS s E ↔ ∃ j : Nat, j < E ∧ s j = true ∧ x = j
  | 0, x => by simp [lstS]
  | E + 1, x => by
    have ih := mem_lstS s E x
    simp only [lstS]
    by_cases h : s E = true
    · rw [if_pos h, List.mem_append, ih, List.mem_singleton]
      constructor
      · rintro (⟨j, a, b, c⟩ | z)
        · exact ⟨j, by omega, b, c⟩
        · exact ⟨E, by omega, h, z⟩
      · rintro ⟨j, a, b, c⟩
        by_cases z : j = E
        · exact .inr (by rw [c, z])
        · exact .inl ⟨j, by omega, b, c⟩
    · rw [if_neg h, ih]
      constructor
      · rintro ⟨j, a, b, c⟩; exact ⟨j, by omega, b, c⟩
      · rintro ⟨j, a, b, c⟩
        refine ⟨j, ?_, b, c⟩
        by_cases z : j = E
        · rw [z] at b; exact absurd b h
        · omega
theorem lstS_choice (s : Nat → Bool) (E : Nat) : isChoice (lstS s E) (E : Int) := by
  refine choice_of _ _ (fun x hx => ?_) ?_
  · obtain ⟨j, a, b, c⟩ := (mem_lstS s E x).1 hx
    omega
  · induction E with
    | zero => exact List.Pairwise.nil
    | succ E ih =>
      simp only [lstS]
      by_cases h : s E = true
      · rw [if_pos h]
        refine List.pairwise_append.2 ⟨ih, by simp, fun a ha b hb => ?_⟩
        obtain ⟨j, a1, _, a3⟩ := (mem_lstS s E a).1 ha
        have := List.mem_singleton.1 hb
        omega
      · rw [if_neg h]; exact ih
theorem lstS_len (s : Nat → Bool) : ∀ E, (lstS s E).length ≤ E
  | 0 => Nat.le_refl _
  | E + 1 => by
    have := lstS_len s E
    simp only [lstS]
    split <;> simp <;> omega
noncomputable def clN (n : Nat) (R : Nat → Nat → Prop) : Nat := Classical.choose (Cl.ex n R)
theorem clN_cl (n : Nat) (R : Nat → Nat → Prop) : Cl n R (clN n R) := (Classical.choose_spec (Cl.ex n R)).1
theorem Cl.eq {n : Nat} {R : Nat → Nat → Prop} {k : Nat} (h : Cl n R k) : clN n R = k := (clN_cl n R).uniq h
noncomputable def pN (t f : List Int) (n : Nat) (c : List Int) : Nat := clN n (Reach [t, flC f n c] n)
noncomputable def sN (t f : List Int) (n : Nat) (c : List Int) : Nat := clN n (Reach [sgL t f n c] n)
noncomputable def vN (t : List Int) (n : Nat) : Nat := clN n (Reach [t] n)
noncomputable def tmV (t f : List Int) (n : Nat) (X Y Z : Int) (c : List Int) : Int :=
  X ^ (pN t f n c - 1) * Y ^ (c.length + pN t f n c - vN t n) * Z ^ ((2 * pN t f n c + c.length - vN t n - sN t f n c) / 2)
noncomputable def valS (t f : List Int) (n : Nat) (X Y Z : Int) : Int := sumB (edL f n).length fun s => tmV t f n X Y Z (lstS s (edL f n).length)
theorem nums (t f : List Int) (n : Nat) (H : MapOk t f n) (c : List Int) (hc : isChoice c ((edL f n).length : Int)) :
    ∃ g G : Nat, 2 * pN t f n c + c.length = vN t n + sN t f n c + 2 * g ∧ vN t n ≤ c.length + pN t f n c ∧ g ≤ G ∧ 2 + (edL f n).length = vN t n + vN (faces t f n) n + 2 * G :=
  five_math t f c n H hc _ _ _ _ (clN_cl _ _) (clN_cl _ _) (clN_cl _ _) (clN_cl _ _)
theorem Cl.coarse {n : Nat} {R S : Nat → Nat → Prop} {k l : Nat} (h : Cl n R k) (h' : Cl n S l) (hs : ∀ x y, R x y → S x y) : l ≤ k :=
  Cnt.sub h' h fun x _ hx i hi hr => hx i hi (hs i x hr)
theorem Cl.pos {n : Nat} {R : Nat → Nat → Prop} {k : Nat} (h : Cl n R k) (hn : 1 ≤ n) : 1 ≤ k := by
  obtain ⟨L, _, h2, h3⟩ := h
  have : (0 : Nat) ∈ L := (h2 0).2 ⟨by omega, fun i hi => by omega⟩
  have := List.length_pos_of_mem this
  omega
theorem reach_wide (t F : List Int) (n x y : Nat) (h : Reach [t] n x y) : Reach [t, F] n x y := fun S hS => h S fun p hp => by
  rw [List.mem_singleton.1 hp]
  exact hS t (by simp)
theorem nums_small (t f : List Int) (n : Nat) (H : MapOk t f n) (hE : (edL f n).length ≤ 6) (c : List Int) (hc : isChoice c ((edL f n).length : Int)) (hcl : c.length ≤ (edL f n).length) :
    1 ≤ pN t f n c ∧ pN t f n c ≤ vN t n ∧ vN t n ≤ (edL f n).length + 1 ∧ 1 ≤ sN t f n c := by
  obtain ⟨hn, h1, ht, hti, hf, hfl, hcon⟩ := id H
  have p1 := (clN_cl n (Reach [t, flC f n c] n)).pos h1
  have s1 := (clN_cl n (Reach [sgL t f n c] n)).pos h1
  have pv := (clN_cl n (Reach [t] n)).coarse (clN_cl n (Reach [t, flC f n c] n)) (fun x y h => reach_wide t _ n x y h)
  obtain ⟨g, G, _, _, _, h4⟩ := nums t f n H c hc
  have w1 := (clN_cl n (Reach [faces t f n] n)).pos h1
  unfold vN at h4
  exact ⟨p1, pv, by unfold vN; omega, s1⟩
theorem pow_small (x : Int) (h0 : 0 ≤ x) (h3 : x ≤ 3) : ∀ n : Nat, 0 ≤ x ^ n ∧ x ^ n ≤ 3 ^ n
  | 0 => by simp
  | n + 1 => by
    obtain ⟨a, b⟩ := pow_small x h0 h3 n
    rw [Int.pow_succ, Int.pow_succ]
    exact ⟨Int.mul_nonneg a h0, Int.mul_le_mul b h3 h0 (by omega)⟩
theorem pow_six (x : Int) (h0 : 0 ≤ x) (h3 : x ≤ 3) (n : Nat) (hn : n ≤ 6) : 0 ≤ x ^ n ∧ x ^ n ≤ 729 := by
  obtain ⟨a, b⟩ := pow_small x h0 h3 n
  refine ⟨a, Int.le_trans b ?_⟩
  have : n = 0 ∨ n = 1 ∨ n = 2 ∨ n = 3 ∨ n = 4 ∨ n = 5 ∨ n = 6 := by omega
  rcases this with rfl | rfl | rfl | rfl | rfl | rfl | rfl <;> decide
theorem power_eq (x : Int) (h0 : 0 ≤ x) (h3 : x ≤ 3) (n : Nat) (hn : n ≤ 6) : ∀ (d i : Nat), n - i = d → i ≤ n → Ev (fun k => impl_power.l0 k x (x ^ i) n i) (x ^ n)
  | 0, i, hd, hi => by
    have : i = n := by omega
    subst this
    refine Ev.s ?_
    simp only [impl_power.l0, show ¬ (i : Int) < (i : Int) by omega, if_false]
    exact Ev.const rfl
  | d + 1, i, hd, hi => by
    have := power_eq x h0 h3 n hn d (i + 1) (by omega) (by omega)
    obtain ⟨q1, q2⟩ := pow_six x h0 h3 (i + 1) (by omega)
    refine Ev.s ?_
    simp only [impl_power.l0, show (i : Int) < (n : Int) by omega, if_true, w64n (show i < 4611686018427387904 by omega)]
    rw [show x ^ i * x = x ^ (i + 1) from (Int.pow_succ x i).symm, w64 (by omega) (by omega)]
    exact this
theorem power_ev (x : Int) (h0 : 0 ≤ x) (h3 : x ≤ 3) (n : Nat) (hn : n ≤ 6) : Ev (fun k => impl_power.f k x (n : Int)) (x ^ n) := by
  unfold impl_power.f
  have := power_eq x h0 h3 n hn n 0 (by omega) (by omega)
  rwa [Int.pow_zero] at this
theorem mul_small (a b c : Int) (a0 : 0 ≤ a) (a1 : a ≤ 729) (b0 : 0 ≤ b) (b1 : b ≤ 729) (c0 : 0 ≤ c) (c1 : c ≤ 729) : 0 ≤ a * b ∧ a * b ≤ 531441 ∧ 0 ≤ a * b * c ∧ a * b * c ≤ 387420489 := by
  have h1 := Int.mul_nonneg a0 b0
  have h2 : a * b ≤ 729 * 729 := Int.mul_le_mul a1 b1 b0 (by decide)
  have h3 := Int.mul_nonneg h1 c0
  have h4 : a * b * c ≤ 531441 * 729 := Int.mul_le_mul (by omega) c1 c0 (by decide)
  exact ⟨h1, by omega, h3, by omega⟩
theorem exps (t f : List Int) (n : Nat) (H : MapOk t f n) (c : List Int) (hc : isChoice c ((edL f n).length : Int)) (hcl : c.length ≤ (edL f n).length) :
    pN t f n c - 1 ≤ 6 ∧ c.length + pN t f n c - vN t n ≤ 6 ∧ (2 * pN t f n c + c.length - vN t n - sN t f n c) / 2 ≤ 6 := by
  have hh := edL_half f n H.2.2.2.2.1 H.2.2.2.2.2.1
  have hn := H.1
  obtain ⟨g, G, n1, n2, n3, n4⟩ := nums t f n H c hc
  obtain ⟨m1, m2, m3, m4⟩ := nums_small t f n H (by omega) c hc hcl
  exact ⟨by omega, by omega, by omega⟩
theorem tmV_small (t f : List Int) (n : Nat) (H : MapOk t f n) (X Y Z : Int) (x0 : 0 ≤ X) (x3 : X ≤ 3) (y0 : 0 ≤ Y) (y3 : Y ≤ 3) (z0 : 0 ≤ Z) (z3 : Z ≤ 3) (c : List Int) (hc : isChoice c ((edL f n).length : Int)) (hcl : c.length ≤ (edL f n).length) : 0 ≤ tmV t f n X Y Z c ∧ tmV t f n X Y Z c ≤ 387420489 := by
  obtain ⟨e1, e2, e3⟩ := exps t f n H c hc hcl
  obtain ⟨a0, a1⟩ := pow_six X x0 x3 _ e1
  obtain ⟨b0, b1⟩ := pow_six Y y0 y3 _ e2
  obtain ⟨c0, c1⟩ := pow_six Z z0 z3 _ e3
  obtain ⟨_, _, m3, m4⟩ := mul_small _ _ _ a0 a1 b0 b1 c0 c1
  exact ⟨m3, m4⟩
theorem five_3 (P S V c : Int) : rd (fiveN P S V c) 3 = wrap64 (c - wrap64 (V - P)) := rfl
theorem five_4 (P S V c : Int) : rd (fiveN P S V c) 4 = wrap64 (Int.tdiv (wrap64 (wrap64 (wrap64 (wrap64 (2 * P) - V) + c) - S)) 2) := rfl
theorem five_nums (P S V c g E : Nat) (hE : E ≤ 6) (hc : c ≤ E) (m1 : 2 * P + c = V + S + 2 * g) (m2 : V ≤ c + P) (s1 : 1 ≤ P) (s2 : P ≤ V) (s3 : V ≤ E + 1) (s4 : 1 ≤ S) :
    wrap64 ((P : Int) - 1) = ((P - 1 : Nat) : Int) ∧ rd (fiveN P S V c) 3 = ((c + P - V : Nat) : Int) ∧ rd (fiveN P S V c) 4 = (((2 * P + c - V - S) / 2 : Nat) : Int) := by
  have z : (2 * P + c - V - S) / 2 = g := by omega
  refine ⟨?_, ?_, ?_⟩
  · rw [w64 (by omega) (by omega)]; omega
  · rw [five_3, w64 (x := (V : Int) - P) (by omega) (by omega), w64 (by omega) (by omega)]
    omega
  · rw [z, five_4, w64 (x := 2 * (P : Int)) (by omega) (by omega), w64 (x := 2 * (P : Int) - V) (by omega) (by omega), w64 (x := 2 * (P : Int) - V + c) (by omega) (by omega), w64 (x := 2 * (P : Int) - V + c - S) (by omega) (by omega)]
    rw [show 2 * (P : Int) - V + c - S = (g : Int) * 2 by omega, Int.mul_tdiv_cancel _ (by decide), w64 (by omega) (by omega)]
theorem three_w (x A B C : Int) (h0 : 0 ≤ x) (h1 : x ≤ 64 * 387420489) (a0 : 0 ≤ A) (a1 : A ≤ 729) (b0 : 0 ≤ B) (b1 : B ≤ 729) (c0 : 0 ≤ C) (c1 : C ≤ 729) : wrap64 (x + wrap64 (wrap64 (A * B) * C)) = x + A * B * C := by
  obtain ⟨k1, k2, k3, k4⟩ := mul_small A B C a0 a1 b0 b1 c0 c1
  rw [w64 (x := A * B) (by omega) (by omega), w64 (x := A * B * C) (by omega) (by omega), w64 (by omega) (by omega)]
theorem tell_ev (t f : List Int) (hm : isMap t f) (X Y Z : Int) (x0 : 0 ≤ X) (x3 : X ≤ 3) (y0 : 0 ≤ Y) (y3 : Y ≤ 3) (z0 : 0 ≤ Z) (z3 : Z ≤ 3) (c : List Int) (hc : isChoice c ((edL f t.length).length : Int)) (hcl : c.length ≤ (edL f t.length).length) (x : Int) (h0 : 0 ≤ x) (h1 : x ≤ 64 * 387420489) :
    Ev (fun k => vtell.f k c t f x X Y Z) (x + tmV t f t.length X Y Z c) := by
  have H := mapOk_of t f hm
  obtain ⟨hn, n1, ht', hti, hf', hfl, hcon⟩ := id H
  have hh := edL_half f t.length hf' hfl
  obtain ⟨P, S, hP, hS, _, g2⟩ := five_ev t f c hm hc (by omega)
  have eP : pN t f t.length c = P := hP.eq
  have eS : sN t f t.length c = S := hS.eq
  have eV : vN t t.length = (cyS t t.length t.length).2.length := (cyS_cl t t.length ht' hti).eq
  obtain ⟨e1, e2, e3⟩ := exps t f t.length H c hc hcl
  obtain ⟨g, G, m1, m2, m3, m4⟩ := nums t f t.length H c hc
  obtain ⟨s1, s2, s3, s4⟩ := nums_small t f t.length H (by omega) c hc hcl
  obtain ⟨a0, a1⟩ := pow_six X x0 x3 _ e1
  obtain ⟨p0, p1⟩ := pow_six Y y0 y3 _ e2
  obtain ⟨c0, c1⟩ := pow_six Z z0 z3 _ e3
  rw [eP, eS, eV] at m1
  rw [eP, eV] at m2
  rw [eP] at s1
  rw [eP, eV] at s2
  rw [eV] at s3
  rw [eS] at s4
  unfold tmV
  simp only [eP, eS, eV] at e1 e2 e3 a0 a1 p0 p1 c0 c1 ⊢
  generalize (cyS t t.length t.length).2.length = V at *
  obtain ⟨w1, w2, w3⟩ := five_nums P S V c.length g (edL f t.length).length (by omega) hcl m1 m2 s1 s2 s3 s4
  have l5 : (fiveN P S V c.length).length = 5 := rfl
  unfold vtell.f
  refine Ev.bind g2 ?_
  simp only [l5, five_zero, show (0 : Int) < ((5 : Nat) : Int) by decide, show (3 : Int) < ((5 : Nat) : Int) by decide, show (4 : Int) < ((5 : Nat) : Int) by decide, if_true, w1, w2, w3]
  refine Ev.bind (power_ev X x0 x3 _ e1) ?_
  refine Ev.bind (power_ev Y y0 y3 _ e2) ?_
  refine Ev.bind (power_ev Z z0 z3 _ e3) ?_
  exact Ev.const (congrArg some (three_w _ _ _ _ h0 h1 a0 a1 p0 p1 c0 c1))
theorem vallE_choice (E : Nat) : ∀ c ∈ vallE E, isChoice c (E : Int) ∧ c.length ≤ E := by
  intro c hc
  have : ∃ s, c = lstS s E := by
    induction E generalizing c with
    | zero =>
      simp only [vallE, List.mem_singleton] at hc
      exact ⟨fun _ => false, by rw [hc]; rfl⟩
    | succ E ih =>
      simp only [vallE, List.mem_append, List.mem_map] at hc
      rcases hc with h | ⟨c', h, rfl⟩
      · obtain ⟨s, rfl⟩ := ih c h
        refine ⟨fun j => if j = E then false else s j, ?_⟩
        simp only [lstS, if_true, Bool.false_eq_true, if_false]
        exact lstS_congr _ _ _ fun j hj => by rw [if_neg (by omega)]
      · obtain ⟨s, rfl⟩ := ih c' h
        refine ⟨fun j => if j = E then true else s j, ?_⟩
        simp only [lstS, if_true]
        congr 1
        exact lstS_congr _ _ _ fun j hj => by rw [if_neg (by omega)]
  obtain ⟨s, rfl⟩ := this
  exact ⟨lstS_choice s E, lstS_len s E⟩
theorem drop_sum (L : List Int) (s : Nat) (h : s < L.length) : (L.drop s).sum = L[s] + (L.drop (s + 1)).sum := by
  rw [List.drop_eq_getElem_cons h, List.sum_cons]
theorem le_step (s : Nat) (x B : Int) (hB : 0 ≤ B) (h : s ≤ 64) (h1 : x ≤ (s : Int) * B) : x ≤ 64 * B := by
  have : (s : Int) * B ≤ 64 * B := Int.mul_le_mul_of_nonneg_right (by omega) hB
  exact Int.le_trans h1 this
theorem step_le (s : Nat) (x B y : Int) (h1 : x ≤ (s : Int) * B) (h2 : y ≤ B) : x + y ≤ ((s + 1 : Nat) : Int) * B := by
  have : ((s + 1 : Nat) : Int) * B = (s : Int) * B + B := by
    rw [Int.natCast_succ, Int.add_mul, Int.one_mul]
  rw [this]
  exact Int.add_le_add h1 h2
theorem vfacts (N s d l : Nat) (hd : N - s = d + 1) (hs : s ≤ N) (hN : l = N) (h64 : N ≤ 64) : (s : Int) < (N : Int) ∧ s < l ∧ s ≤ 64 ∧ s < N ∧ N - (s + 1) = d ∧ s + 1 ≤ N ∧ s + 1 < 4611686018427387904 ∧ s < 4611686018427387904 := by
  refine ⟨?_, ?_, ?_, ?_, ?_, ?_, ?_, ?_⟩ <;> omega
theorem vzero (N s : Nat) (hd : N - s = 0) (hs : s ≤ N) : s = N := by omega
theorem vrunI (t f : List Int) (X Y Z : Int) (E : Nat) (hfE : (f.length : Int) / 2 = (E : Int)) (B : Int) (hB : 0 ≤ B) (T : List Int → Int) (L : List (List Int)) (N : Nat) (hN : L.length = N) (hN64 : N ≤ 64)
    (hT : ∀ c ∈ L, 0 ≤ T c ∧ T c ≤ B ∧ ∀ x, 0 ≤ x → x ≤ 64 * B → Ev (fun k => vtell.f k c t f x X Y Z) (x + T c))
    (hc : ∀ s : Nat, s < N → vch.l1 30 [] (s : Int) 0 (E : Int) = some (L.getD s [])) : ∀ (d s : Nat), N - s = d → s ≤ N → ∀ x : Int, 0 ≤ x → x ≤ (s : Int) * B → Ev (fun k => vch.l0 k t f X Y Z x s (N : Int)) (x + ((L.map T).drop s).sum)
  | 0, s, hd, hs, x, h0, h1 => by
    have hsN : s = N := vzero N s hd hs
    subst hsN
    have : (L.map T).drop s = [] := List.drop_eq_nil_of_le (by simp [hN])
    rw [this]
    refine Ev.s ?_
    simp only [vch.l0, show ¬ (s : Int) < (s : Int) by omega, if_false, List.sum_nil, Int.add_zero]
    exact Ev.const rfl
  | d + 1, s, hd, hs, x, h0, h1 => by
    obtain ⟨hlt, hsl, hs64, hsN, hd1, hs1, hb1, hb2⟩ := vfacts N s d L.length hd hs hN hN64
    have hg : L.getD s [] = L[s] := by simp [List.getD, hsl]
    obtain ⟨b1, b2, b3⟩ := hT _ (List.getElem_mem hsl)
    have e1 : Ev (fun k => vch.l1 k [] (s : Int) 0 (E : Int)) (L[s]) := by
      rw [← hg]
      exact Ev.of (fun k => vch.mono_l1 k _ _ _ _) (hc s hsN)
    have hT' := b3 x h0 (le_step s x B hB hs64 h1)
    have hw : wrap64 ((s : Int) + 1) = ((s + 1 : Nat) : Int) := w64n hb2
    have ih := vrunI t f X Y Z E hfE B hB T L N hN hN64 hT hc d (s + 1) hd1 hs1 (x + T (L[s])) (Int.add_nonneg h0 b1) (step_le s x B _ h1 b2)
    have hd' := drop_sum (L.map T) s (by simp [hsl])
    rw [List.getElem_map] at hd'
    rw [hd', ← Int.add_assoc]
    refine Ev.s ?_
    simp only [vch.l0, hlt, hfE, if_true]
    refine Ev.bind e1 ?_
    refine Ev.bind hT' ?_
    simp only [hw]
    exact ih
theorem valI_ev (t f : List Int) (hm : isMap t f) (X Y Z : Int) (x0 : 0 ≤ X) (x3 : X ≤ 3) (y0 : 0 ≤ Y) (y3 : Y ≤ 3) (z0 : 0 ≤ Z) (z3 : Z ≤ 3) : Ev (fun k => impl_RibbonValue.f k t f X Y Z) (valS t f t.length X Y Z) := by
  have H := mapOk_of t f hm
  obtain ⟨hn, n1, ht', hti, hf', hfl, hcon⟩ := id H
  have hh := edL_half f t.length hf' hfl
  have hlen := hf'.1
  have hfl12 : f.length ≤ 12 := by omega
  obtain ⟨b, _, b2, b3⟩ := mapValid_both t f (by omega) (by omega)
  have hb : b = true := b3.2 hm
  subst hb
  obtain ⟨E, hE⟩ : ∃ E : Nat, E = f.length / 2 := ⟨_, rfl⟩
  have hE6 : E ≤ 6 := by omega
  obtain ⟨hp, hp2⟩ := vpow E hE6
  obtain ⟨_, hl, hc⟩ := vchk E hE6
  have hEe : (edL f t.length).length = E := by omega
  have := vrunI t f X Y Z E (by omega) 387420489 (by decide) (tmV t f t.length X Y Z) (vallE E) (2 ^ E) hl hp2 (fun c hc' => by
    obtain ⟨q1, q2⟩ := vallE_choice E c hc'
    rw [← hEe] at q1 q2
    obtain ⟨b1, b2⟩ := tmV_small t f t.length H X Y Z x0 x3 y0 y3 z0 z3 c q1 q2
    exact ⟨b1, b2, fun x h0 h1 => tell_ev t f hm X Y Z x0 x3 y0 y3 z0 z3 c q1 q2 x h0 h1⟩) (fun s hs => (hc s hs).1) (2 ^ E) 0 (Nat.sub_zero _) (Nat.zero_le _) 0 (Int.le_refl 0) (by rw [show ((0 : Nat) : Int) = 0 from rfl, Int.zero_mul]; exact Int.le_refl 0)
  rw [List.drop_zero, sum_vall, Int.zero_add] at this
  unfold valS
  rw [hEe]
  unfold impl_RibbonValue.f
  refine Ev.bind b2 ?_
  simp only [if_true, show ¬ X < 0 by omega, show ¬ X > 3 by omega, show ¬ Y < 0 by omega, show ¬ Y > 3 by omega, show ¬ Z < 0 by omega, show ¬ Z > 3 by omega, if_false, hfl12, ← hE, hp]
  exact this
theorem xor_nonneg (a b : Int) (ha : 0 ≤ a) (hb : 0 ≤ b) (ha' : a < 9223372036854775808) (hb' : b < 9223372036854775808) : 0 ≤ Go.bits .xor .i64 a b := by
  obtain ⟨n, rfl⟩ := Int.eq_ofNat_of_zero_le ha
  obtain ⟨m, rfl⟩ := Int.eq_ofNat_of_zero_le hb
  have hn : n % 2 ^ 64 = n := Nat.mod_eq_of_lt (by omega)
  have hm : m % 2 ^ 64 = m := Nat.mod_eq_of_lt (by omega)
  have hx : n ^^^ m < 2 ^ 63 := Nat.xor_lt_two_pow (by omega) (by omega)
  have e : Go.bits .xor .i64 (n : Int) (m : Int) = IntKind.i64.wrap ((n ^^^ m : Nat) : Int) := by
    simp only [Go.bits, BitVec.ofInt_natCast]
    show IntKind.i64.wrap (((BitVec.ofNat 64 n ^^^ BitVec.ofNat 64 m).toNat : Nat) : Int) = _
    rw [BitVec.toNat_xor, BitVec.toNat_ofNat, BitVec.toNat_ofNat, hn, hm]
  rw [e, IntKind.wrap_i64]
  omega
def bytesOk (l : List Int) : Prop := l.length ≤ 2000 ∧ ∀ x ∈ l, 0 ≤ x ∧ x ≤ 255
theorem rd_byte (l : List Int) (h : bytesOk l) (i : Int) : 0 ≤ rd l i ∧ rd l i ≤ 255 := by
  unfold rd
  by_cases hi : i.toNat < l.length
  · rw [List.getD_eq_getElem?_getD, List.getElem?_eq_getElem hi]
    exact h.2 _ (List.getElem_mem hi)
  · rw [List.getD_eq_getElem?_getD, List.getElem?_eq_none (by omega)]
    decide
theorem pick_ev (l : List Int) (h : bytesOk l) (p : Int) (hp : 0 ≤ p) (hp' : p ≤ 1000000) (n : Int) (hn : 1 ≤ n) (hn' : n ≤ 1000000) : ∃ v, Ev (fun k => spec_l6Rd_pick.f k l p n) (v, p + 1) ∧ 0 ≤ v ∧ v < n := by
  have w0 : wrap64 (p + 1) = p + 1 := w64 (by omega) (by omega)
  have w1 : wrap64 (p + 1 - 1) = p := by rw [w64 (by omega) (by omega)]; omega
  have hl := h.1
  unfold spec_l6Rd_pick.f
  simp only [show ¬ n < 1 by omega, if_false, w0]
  by_cases hz : l.length = 0
  · refine ⟨0, Ev.s ?_, by omega, by omega⟩
    have : (((l.length : Int)) == 0) = true := by simp [hz]
    simp only [this, spec_l6Rd_pick.j0, if_true]
    exact Ev.const rfl
  · have hb : (((l.length : Int)) == 0) = false := by rw [beq_eq_false_iff_ne]; omega
    have hn0 : ¬ n = 0 := by omega
    by_cases hlt : p < (l.length : Int)
    · have hr := rd_byte l h p
      have wr : wrap64 (rd l p) = rd l p := w64 (by omega) (by omega)
      refine ⟨Int.tmod (rd l p) n, Ev.s ?_, Int.tmod_nonneg _ (by omega), Int.tmod_lt_of_pos _ (by omega)⟩
      simp only [hb, spec_l6Rd_pick.j0, w1, hlt, hp, hn0, wr, Bool.false_eq_true, if_true, if_false]
      exact Ev.const rfl
    · have hl0 : ¬ (l.length : Int) = 0 := by omega
      have wk : wrap64 (p * 7) = p * 7 := w64 (by omega) (by omega)
      have wk3 : wrap64 (p * 7 + 3) = p * 7 + 3 := w64 (by omega) (by omega)
      have t1 := Int.tmod_nonneg (a := p) (l.length : Int) hp
      have t2 := Int.tmod_lt_of_pos p (b := (l.length : Int)) (by omega)
      have t3 := Int.tmod_nonneg (a := p * 7 + 3) (l.length : Int) (by omega)
      have t4 := Int.tmod_lt_of_pos (p * 7 + 3) (b := (l.length : Int)) (by omega)
      have r1 := rd_byte l h (Int.tmod p (l.length : Int))
      have r2 := rd_byte l h (Int.tmod (p * 7 + 3) (l.length : Int))
      have d1 : 0 ≤ Int.tdiv p (l.length : Int) := Int.tdiv_nonneg hp (by omega)
      have d2 : Int.tdiv p (l.length : Int) ≤ p := Int.tdiv_le_self _ hp
      obtain ⟨X, hX, hX0, hX1⟩ : ∃ X, (wrap64 ((wrap64 ((wrap64 ((wrap64 ((wrap64 (rd l (Int.tmod p (l.length : Int)))) * 131)) + (wrap64 ((wrap64 (rd l (Int.tmod (p * 7 + 3) (l.length : Int)))) * 1117)))) + (wrap64 (p * 29)))) + (wrap64 ((wrap64 (Int.tdiv p (l.length : Int))) * 53)))) = X ∧ 0 ≤ X ∧ X < 4611686018427387904 := by
        refine ⟨_, rfl, ?_, ?_⟩
        all_goals
          generalize rd l (Int.tmod p (l.length : Int)) = a at *
          generalize rd l (Int.tmod (p * 7 + 3) (l.length : Int)) = b at *
          generalize Int.tdiv p (l.length : Int) = c at *
          rw [w64 (x := a) (by omega) (by omega), w64 (x := b) (by omega) (by omega), w64 (x := a * 131) (by omega) (by omega), w64 (x := b * 1117) (by omega) (by omega), w64 (x := a * 131 + b * 1117) (by omega) (by omega), w64 (x := p * 29) (by omega) (by omega), w64 (x := a * 131 + b * 1117 + p * 29) (by omega) (by omega), w64 (x := c) (by omega) (by omega), w64 (x := c * 53) (by omega) (by omega), w64 (x := a * 131 + b * 1117 + p * 29 + c * 53) (by omega) (by omega)]
          omega
      have hd : 0 ≤ wrap64 (Int.tdiv X 64) ∧ wrap64 (Int.tdiv X 64) < 9223372036854775808 := by
        have := Int.tdiv_nonneg hX0 (show (0 : Int) ≤ 64 by decide)
        have := Int.tdiv_le_self 64 hX0
        rw [w64 (by omega) (by omega)]
        omega
      have hx := xor_nonneg X (wrap64 (Int.tdiv X 64)) hX0 hd.1 (by omega) hd.2
      refine ⟨Int.tmod (Go.bits .xor .i64 X (wrap64 (Int.tdiv X 64))) n, Ev.s ?_, Int.tmod_nonneg _ hx, Int.tmod_lt_of_pos _ (by omega)⟩
      simp only [hb, spec_l6Rd_pick.j0, w1, hlt, hl0, wk, wk3, t1, t2, t3, t4, hn0, hX, Bool.false_eq_true, if_true, if_false]
      exact Ev.const rfl
theorem open_ev (l : List Int) (hb : ∀ x ∈ l, (Lit.int .u8 x).wf = true) : ∃ l', spec_l6Open.f l = some (l', 0) ∧ bytesOk l' := by
  have hb' : ∀ x ∈ l, 0 ≤ x ∧ x ≤ 255 := by
    intro x hx
    have := hb x hx
    simp only [Lit.wf, IntKind.min, IntKind.max, IntKind.signed, IntKind.bits, Bool.and_eq_true, decide_eq_true_eq, Bool.false_eq_true, if_false] at this
    omega
  unfold spec_l6Open.f
  by_cases h : (l.length : Int) > 2000
  · refine ⟨l.take 2000, ?_, ?_, fun x hx => hb' x (List.mem_of_mem_take hx)⟩
    · rw [if_pos h, if_pos (by omega)]
    · rw [List.length_take]; omega
  · exact ⟨l, by rw [if_neg h], by omega, hb'⟩
theorem push_self (o : List Int) (i : Nat) (ho : inR i o) (hi : injR i o) : inR (i + 1) (o ++ [(i : Int)]) ∧ injR (i + 1) (o ++ [(i : Int)]) := by
  have last : rd (o ++ [(i : Int)]) (i : Int) = i := by
    rw [rd_lt _ _ (by simp [ho.1]), List.getElem_append_right (by rw [ho.1]; exact Nat.le_refl _)]
    simp
  have old : ∀ j : Nat, j < i → rd (o ++ [(i : Int)]) (j : Int) = rd o (j : Int) := fun j hj => rd_app_lt _ _ _ (by rw [ho.1]; exact hj)
  refine ⟨⟨by simp [ho.1], fun j hj => ?_⟩, fun j k hj hk e => ?_⟩
  · by_cases h : j < i
    · rw [old j h]
      have := ho.2 j h
      omega
    · rw [show j = i by omega, last]
      omega
  · by_cases h : j < i
    · have a := ho.2 j h
      by_cases h' : k < i
      · rw [old j h, old k h'] at e
        exact hi j k h h' e
      · rw [show k = i by omega, last, old j h] at e
        omega
    · by_cases h' : k < i
      · have a := ho.2 k h'
        rw [show j = i by omega, last, old k h'] at e
        omega
      · omega
theorem set_perm (o : List Int) (n a b : Nat) (ho : inR n o) (hi : injR n o) (ha : a < n) (hb : b < n) : inR n ((o.set a (rd o b)).set b (rd o a)) ∧ injR n ((o.set a (rd o b)).set b (rd o a)) := by
  have val : ∀ j : Nat, j < n → rd ((o.set a (rd o b)).set b (rd o a)) (j : Int) = if b = j then rd o a else if a = j then rd o b else rd o j := by
    intro j hj
    by_cases e1 : b = j
    · subst e1
      rw [rd_set_self _ _ _ (by simp [ho.1]; exact hb), if_pos rfl]
    · rw [rd_set_ne _ _ _ _ e1, if_neg e1]
      by_cases e2 : a = j
      · subst e2
        rw [rd_set_self _ _ _ (by rw [ho.1]; exact ha), if_pos rfl]
      · rw [rd_set_ne _ _ _ _ e2, if_neg e2]
  have ra := ho.2 a ha
  have rb := ho.2 b hb
  refine ⟨⟨by simp [ho.1], fun j hj => ?_⟩, fun j k hj hk e => ?_⟩
  · rw [val j hj]
    have := ho.2 j hj
    split
    · exact ra
    · split
      · exact rb
      · exact this
  · rw [val j hj, val k hk] at e
    have i1 := hi a b ha hb
    have i2 := hi a j ha hj
    have i3 := hi a k ha hk
    have i4 := hi b j hb hj
    have i5 := hi b k hb hk
    have i6 := hi j k hj hk
    by_cases c1 : b = j
    · rw [if_pos c1] at e
      by_cases c2 : b = k
      · omega
      · rw [if_neg c2] at e
        by_cases c3 : a = k
        · rw [if_pos c3] at e
          have := i1 e
          omega
        · rw [if_neg c3] at e
          exact absurd (i3 e) c3
    · rw [if_neg c1] at e
      by_cases c4 : a = j
      · rw [if_pos c4] at e
        by_cases c2 : b = k
        · rw [if_pos c2] at e
          have := i1 e.symm
          omega
        · rw [if_neg c2] at e
          by_cases c3 : a = k
          · omega
          · rw [if_neg c3] at e
            exact absurd (i5 e) c2
      · rw [if_neg c4] at e
        by_cases c2 : b = k
        · rw [if_pos c2] at e
          exact absurd (i2 e.symm) c4
        · rw [if_neg c2] at e
          by_cases c3 : a = k
          · rw [if_pos c3] at e
            exact absurd (i4 e.symm) c1
          · rw [if_neg c3] at e
            exact i6 e
theorem push_swap (o : List Int) (i k : Nat) (hk : k < i) (ho : inR i o) (hi : injR i o) : inR (i + 1) ((o ++ [rd o k]).set k (i : Int)) ∧ injR (i + 1) ((o ++ [rd o k]).set k (i : Int)) := by
  obtain ⟨p1, p2⟩ := push_self o i ho hi
  have e : ((o ++ [(i : Int)]).set k (rd (o ++ [(i : Int)]) i)).set i (rd (o ++ [(i : Int)]) k) = (o ++ [rd o k]).set k (i : Int) := by
    have last : rd (o ++ [(i : Int)]) (i : Int) = i := by
      rw [rd_lt _ _ (by simp [ho.1]), List.getElem_append_right (by rw [ho.1]; exact Nat.le_refl _)]
      simp
    have last' : ∀ v : Int, rd (o ++ [v]) (i : Int) = v := by
      intro v
      rw [rd_lt _ _ (by simp [ho.1]), List.getElem_append_right (by rw [ho.1]; exact Nat.le_refl _)]
      simp
    refine list_ext _ _ (by simp) fun j hj => ?_
    have hj' : j < i + 1 := by simp [ho.1] at hj; omega
    have l1 : (o ++ [(i : Int)]).length = i + 1 := by simp [ho.1]
    have l2 : (o ++ [rd o k]).length = i + 1 := by simp [ho.1]
    rw [last, rd_app_lt o _ k (by rw [ho.1]; exact hk)]
    by_cases e1 : i = j
    · subst e1
      rw [rd_set_self _ _ _ (by simp [ho.1]), rd_set_ne _ _ _ _ (by omega), last']
    · rw [rd_set_ne _ _ _ _ e1]
      by_cases e2 : k = j
      · subst e2
        rw [rd_set_self _ _ _ (by omega), rd_set_self _ _ _ (by omega)]
      · rw [rd_set_ne _ _ _ _ e2, rd_set_ne _ _ _ _ e2, rd_app_lt _ _ _ (by rw [ho.1]; omega), rd_app_lt _ _ _ (by rw [ho.1]; omega)]
  have := set_perm (o ++ [(i : Int)]) (i + 1) k i p1 p2 (by omega) (by omega)
  rwa [e] at this
theorem perm_run (l : List Int) (h : bytesOk l) (n : Nat) (hn : n ≤ 100) : ∀ (d i : Nat) (o : List Int) (p : Int), n - i = d → i ≤ n → inR i o → injR i o → 0 ≤ p → p + d ≤ 1000 → ∃ (o' : List Int), Ev (fun k => spec_l91Perm.l0 k n o i l p) (o', p + d) ∧ inR n o' ∧ injR n o'
  | 0, i, o, p, hd, hi, ho, hoi, hp, hp' => by
    have : i = n := by omega
    subst this
    refine ⟨o, Ev.s ?_, ho, hoi⟩
    simp only [spec_l91Perm.l0, show ¬ (i : Int) < (i : Int) by omega, if_false]
    exact Ev.const (by simp)
  | d + 1, i, o, p, hd, hi, ho, hoi, hp, hp' => by
    obtain ⟨v, hv, v0, v1⟩ := pick_ev l h p hp (by omega) ((i + 1 : Nat) : Int) (by omega) (by omega)
    have w1 : i < 4611686018427387904 := by omega
    have w2 : o.length < 17592186044416 := by rw [ho.1]; omega
    have w3 : o.length = i := ho.1
    by_cases e : v = (i : Int)
    · obtain ⟨q1, q2⟩ := push_self o i ho hoi
      obtain ⟨o', r1, r2, r3⟩ := perm_run l h n hn d (i + 1) _ (p + 1) (by omega) (by omega) q1 q2 (by omega) (by omega)
      refine ⟨o', Ev.s ?_, r2, r3⟩
      simp only [spec_l91Perm.l0, show (i : Int) < (n : Int) by omega, if_true, w64n w1]
      refine Ev.bind hv ?_
      simp only [e, w2, if_true]
      rw [show p + ((d + 1 : Nat) : Int) = p + 1 + d by omega]
      exact r1
    · obtain ⟨q1, q2⟩ := push_swap o i v.toNat (by omega) ho hoi
      obtain ⟨o', r1, r2, r3⟩ := perm_run l h n hn d (i + 1) _ (p + 1) (by omega) (by omega) q1 q2 (by omega) (by omega)
      rw [show ((v.toNat : Nat) : Int) = v by omega] at r1
      have w4 : v < (i : Int) := by omega
      have w5 : v < ((o ++ [rd o v]).length : Int) := by simp [w3]; omega
      refine ⟨o', Ev.s ?_, r2, r3⟩
      simp only [spec_l91Perm.l0, show (i : Int) < (n : Int) by omega, if_true, w64n w1]
      refine Ev.bind hv ?_
      simp only [e, if_false, v0, w3, w4, w2, if_true, Option.bind_some, w5]
      rw [show p + ((d + 1 : Nat) : Int) = p + 1 + d by omega]
      rw [w3] at w2
      simp only [w2, if_true, w5]
      exact r1
theorem l91Perm_ev (l : List Int) (h : bytesOk l) (n : Nat) (hn : n ≤ 100) (p : Int) (hp : 0 ≤ p) (hp' : p ≤ 500) : ∃ (o : List Int), Ev (fun k => spec_l91Perm.f k l p n) (o, p + n) ∧ inR n o ∧ injR n o := by
  unfold spec_l91Perm.f
  have := perm_run l h n hn n 0 [] p (by omega) (by omega) ⟨rfl, fun i hi => by omega⟩ (fun i j hi _ _ => by omega) hp (by omega)
  exact this
def paired (n : Nat) (q g : List Int) (i : Nat) : Prop := inR n g ∧ ∀ j : Nat, 2 * j + 1 < i → rd g (rd q ((2 * j : Nat) : Int)) = rd q ((2 * j + 1 : Nat) : Int) ∧ rd g (rd q ((2 * j + 1 : Nat) : Int)) = rd q ((2 * j : Nat) : Int)
theorem toNat_eq {a b : Int} (ha : 0 ≤ a) (hb : 0 ≤ b) (h : a.toNat = b.toNat) : a = b := by omega
theorem pair_step (n : Nat) (q g : List Int) (hq : inR n q) (hqi : injR n q) (i : Nat) (hi : 2 * i + 1 < n) (h : paired n q g (2 * i)) :
    paired n q ((g.set (rd q ((2 * i : Nat) : Int)).toNat (rd q ((2 * i + 1 : Nat) : Int))).set (rd q ((2 * i + 1 : Nat) : Int)).toNat (rd q ((2 * i : Nat) : Int))) (2 * i + 2) := by
  have ra := hq.2 (2 * i) (by omega)
  have rb := hq.2 (2 * i + 1) (by omega)
  have ne : (rd q ((2 * i : Nat) : Int)).toNat ≠ (rd q ((2 * i + 1 : Nat) : Int)).toNat := by
    intro e
    have := hqi (2 * i) (2 * i + 1) (by omega) (by omega) (toNat_eq ra.1 rb.1 e)
    omega
  have val : ∀ x : Nat, x < n → rd ((g.set (rd q ((2 * i : Nat) : Int)).toNat (rd q ((2 * i + 1 : Nat) : Int))).set (rd q ((2 * i + 1 : Nat) : Int)).toNat (rd q ((2 * i : Nat) : Int))) (x : Int) = if (rd q ((2 * i + 1 : Nat) : Int)).toNat = x then rd q ((2 * i : Nat) : Int) else if (rd q ((2 * i : Nat) : Int)).toNat = x then rd q ((2 * i + 1 : Nat) : Int) else rd g x := by
    intro x hx
    by_cases e1 : (rd q ((2 * i + 1 : Nat) : Int)).toNat = x
    · rw [if_pos e1, ← e1, rd_set_self _ _ _ (by rw [List.length_set, h.1.1]; omega)]
    · rw [rd_set_ne _ _ _ _ e1, if_neg e1]
      by_cases e2 : (rd q ((2 * i : Nat) : Int)).toNat = x
      · rw [if_pos e2, ← e2, rd_set_self _ _ _ (by rw [h.1.1]; omega)]
      · rw [rd_set_ne _ _ _ _ e2, if_neg e2]
  refine ⟨⟨by simp [h.1.1], fun x hx => ?_⟩, fun j hj => ?_⟩
  · rw [val x hx]
    have := h.1.2 x hx
    split
    · exact ra
    · split
      · exact rb
      · exact this
  · have sa := hq.2 (2 * j) (by omega)
    have sb := hq.2 (2 * j + 1) (by omega)
    have ea : (((rd q ((2 * j : Nat) : Int)).toNat : Nat) : Int) = rd q ((2 * j : Nat) : Int) := by omega
    have eb : (((rd q ((2 * j + 1 : Nat) : Int)).toNat : Nat) : Int) = rd q ((2 * j + 1 : Nat) : Int) := by omega
    rw [← ea, ← eb, val _ (by omega), val _ (by omega), ea, eb]
    by_cases z : j = i
    · subst z
      rw [if_neg (fun e => ne e.symm), if_pos rfl, if_pos rfl]
      exact ⟨rfl, rfl⟩
    · have old := h.2 j (by omega)
      have n1 : (rd q ((2 * i + 1 : Nat) : Int)).toNat ≠ (rd q ((2 * j : Nat) : Int)).toNat := fun e => by
        have := hqi (2 * i + 1) (2 * j) (by omega) (by omega) (toNat_eq rb.1 sa.1 e)
        omega
      have n2 : (rd q ((2 * i : Nat) : Int)).toNat ≠ (rd q ((2 * j : Nat) : Int)).toNat := fun e => by
        have := hqi (2 * i) (2 * j) (by omega) (by omega) (toNat_eq ra.1 sa.1 e)
        omega
      have n3 : (rd q ((2 * i + 1 : Nat) : Int)).toNat ≠ (rd q ((2 * j + 1 : Nat) : Int)).toNat := fun e => by
        have := hqi (2 * i + 1) (2 * j + 1) (by omega) (by omega) (toNat_eq rb.1 sb.1 e)
        omega
      have n4 : (rd q ((2 * i : Nat) : Int)).toNat ≠ (rd q ((2 * j + 1 : Nat) : Int)).toNat := fun e => by
        have := hqi (2 * i) (2 * j + 1) (by omega) (by omega) (toNat_eq ra.1 sb.1 e)
        omega
      rw [if_neg n1, if_neg n2, if_neg n3, if_neg n4]
      exact old
theorem paired_flip (n m : Nat) (hm : n = 2 * m) (q g : List Int) (hq : inR n q) (hqi : injR n q) (h : paired n q g n) : ∀ d : Nat, d < n → flipAt g d := by
  intro d hd
  obtain ⟨j, hj, e⟩ := surj q n hq hqi d hd
  have rep : ∃ i, (j = 2 * i ∨ j = 2 * i + 1) ∧ 2 * i + 1 < n := by
    refine ⟨j / 2, by omega, by omega⟩
  obtain ⟨i, hj', hi⟩ := rep
  have o := h.2 i hi
  have ne : rd q ((2 * i : Nat) : Int) ≠ rd q ((2 * i + 1 : Nat) : Int) := by
    intro e
    have := hqi (2 * i) (2 * i + 1) (by omega) (by omega) e
    omega
  rcases hj' with rfl | rfl
  · rw [e] at o ne
    unfold flipAt
    rw [o.1]
    exact ⟨fun z => ne z.symm, o.2⟩
  · rw [e] at o ne
    unfold flipAt
    rw [o.2]
    exact ⟨ne, o.1⟩
def drewMap (F : Nat → Option (List Int × List Int × Int)) (p : Int) : Prop := ∃ (t f : List Int) (p' : Int), Ev F (t, f, p') ∧ t.length ≤ 12 ∧ f.length ≤ 12 ∧ 0 ≤ p' ∧ p' ≤ p + 1
theorem map_end (l : List Int) (h : bytesOk l) (n : Nat) (h1 : 1 ≤ n) (hn : n ≤ 12) (i : Int) (p : Int) (hp : 0 ≤ p) (hp' : p ≤ 500) (t f : List Int) (ht : t.length = n) (hf : f.length = n) : drewMap (fun k => spec_l91Map.j2 k n i false l p t f) p := by
  obtain ⟨v, hv, v0, v1⟩ := pick_ev l h p hp (by omega) 50 (by omega) (by omega)
  have g1 : (0 : Int) < (f.length : Int) := by omega
  have g2 : (1 : Int) ≤ (t.length : Int) := by omega
  have g3 : (0 : Int) < (t.length : Int) := by omega
  by_cases c0 : v = 0
  · refine ⟨t, f.set 0 0, p + 1, Ev.s ?_, by omega, by simp; omega, by omega, by omega⟩
    simp only [spec_l91Map.j2, Bool.false_eq_true, if_false]
    refine Ev.bind hv ?_
    simp only [c0, g1, if_true]
    exact Ev.const rfl
  · by_cases c1 : v = 1
    · refine ⟨t.drop 1, f, p + 1, Ev.s ?_, by simp; omega, by omega, by omega, by omega⟩
      simp only [spec_l91Map.j2, Bool.false_eq_true, if_false]
      refine Ev.bind hv ?_
      simp only [c0, c1, g2, show ¬ (1 : Int) = 0 by decide, if_true, if_false]
      exact Ev.const rfl
    · by_cases c2 : v = 2
      · refine ⟨t.set 0 n, f, p + 1, Ev.s ?_, by simp; omega, by omega, by omega, by omega⟩
        simp only [spec_l91Map.j2, Bool.false_eq_true, if_false]
        refine Ev.bind hv ?_
        simp only [c2, g3, show ¬ (2 : Int) = 0 by decide, show ¬ (2 : Int) = 1 by decide, if_true, if_false]
        exact Ev.const rfl
      · refine ⟨t, f, p + 1, Ev.s ?_, by omega, by omega, by omega, by omega⟩
        simp only [spec_l91Map.j2, Bool.false_eq_true, if_false]
        refine Ev.bind hv ?_
        simp only [c0, c1, c2, if_false]
        exact Ev.const rfl
theorem map_find (n : Nat) (hn : n ≤ 12) (o : List Int) (ho : o.length = n) (i : Int) (l : List Int) (p : Int) (t f : List Int) (ht : t.length = n) (z : Nat) (hz : z < n) (hz0 : rd o z ≠ 0) (hz1 : ∀ y : Nat, y < z → rd o y = 0) (r : List Int × List Int × Int)
    (h : Ev (fun k => spec_l91Map.l1 k n (wrap64 (i + 1)) l p ((t.set 0 (rd t (z : Int))).set z (rd t 0)) f) r) : ∀ (d y : Nat), z - y = d → y ≤ z → Ev (fun k => spec_l91Map.l2 k n i o y l p t f) r
  | 0, y, hd, hy => by
    have : y = z := by omega
    subst this
    refine Ev.s ?_
    simp only [spec_l91Map.l2, ho, ht, show (0 : Int) ≤ (y : Int) by omega, show (y : Int) < (n : Int) by omega, hz0, show (0 : Int) < (n : Int) by omega, if_true, if_false, Int.toNat_natCast]
    exact h
  | d + 1, y, hd, hy => by
    refine Ev.s ?_
    simp only [spec_l91Map.l2, ho, show (0 : Int) ≤ (y : Int) by omega, show (y : Int) < (n : Int) by omega, hz1 y (by omega), if_true, w64n (show y < 4611686018427387904 by omega)]
    exact map_find n hn o ho i l p t f ht z hz hz0 hz1 r h d (y + 1) (by omega) (by omega)
theorem map_loop (l : List Int) (h : bytesOk l) (n : Nat) (h1 : 1 ≤ n) (hn : n ≤ 12) (f : List Int) (hf : inR n f) (hfl : ∀ d : Nat, d < n → flipAt f d) (p : Int) (hp : 0 ≤ p) (hp' : p ≤ 500) : ∀ (d i : Nat) (t : List Int), n - i = d → i ≤ n → inR n t → injR n t → drewMap (fun k => spec_l91Map.l1 k n i l p t f) p
  | 0, i, t, hd, hi, ht, hti => by
    have : i = n := by omega
    subst this
    obtain ⟨a, b, c, e1, e2⟩ := map_end l h i h1 hn i p hp hp' t f ht.1 hf.1
    refine ⟨a, b, c, Ev.s ?_, e2⟩
    simp only [spec_l91Map.l1, show ¬ (i : Int) < (i : Int) by omega, if_false]
    exact e1
  | d + 1, i, t, hd, hi, ht, hti => by
    obtain ⟨b, b1, _, b3⟩ := mapValid_both t f (by rw [ht.1]; omega) (by rw [hf.1]; omega)
    cases b with
    | true =>
      obtain ⟨a, b', c, e1, e2⟩ := map_end l h n h1 hn i p hp hp' t f ht.1 hf.1
      refine ⟨a, b', c, Ev.s ?_, e2⟩
      simp only [spec_l91Map.l1, show (i : Int) < (n : Int) by omega, if_true]
      refine Ev.bind b1 ?_
      exact e1
    | false =>
      obtain ⟨o, o1, o2, _⟩ := orb_both t f n hn h1 ht hf
      have nz : ∃ z, z < n ∧ rd o (z : Int) ≠ 0 := by
        by_cases q : ∃ z, z < n ∧ rd o ((z : Nat) : Int) ≠ 0
        · exact q
        · exfalso
          have all0 : ∀ q : Nat, q < n → rd o q = 0 := fun z hz => by
            by_cases e : rd o (z : Int) = 0
            · exact e
            · exact absurd ⟨z, hz, e⟩ q
          have hc := (orb_zero t f n h1 ht hf o o1).1 all0
          have hm : isMap t f := isMap_of ⟨hn, h1, ht, hti, hf, hfl, hc⟩
          have := b3.2 hm
          cases this
      have least : ∃ z, z < n ∧ rd o (z : Int) ≠ 0 ∧ ∀ y : Nat, y < z → rd o y = 0 := by
        obtain ⟨z, hz, hz0⟩ := nz
        induction z using Nat.strongRecOn with
        | ind z ih =>
          by_cases q : ∃ y, y < z ∧ rd o ((y : Nat) : Int) ≠ 0
          · obtain ⟨y, y1, y2⟩ := q
            exact ih y y1 (by omega) y2
          · exact ⟨z, hz, hz0, fun y hy => by
              by_cases e : rd o (y : Int) = 0
              · exact e
              · exact absurd ⟨y, hy, e⟩ q⟩
      obtain ⟨z, hz, hz0, hz1⟩ := least
      obtain ⟨q1, q2⟩ := set_perm t n 0 z ht hti (by omega) hz
      obtain ⟨a, b', c, e1, e2⟩ := map_loop l h n h1 hn f hf hfl p hp hp' d (i + 1) _ (by omega) (by omega) q1 q2
      refine ⟨a, b', c, Ev.s ?_, e2⟩
      simp only [spec_l91Map.l1, show (i : Int) < (n : Int) by omega, if_true]
      refine Ev.bind b1 ?_
      refine Ev.s ?_
      simp only [spec_l91Map.j2, Bool.not_false, if_true]
      refine Ev.bind o2 ?_
      refine map_find n hn o o1.1.1 i l p t f ht.1 z hz hz0 hz1 _ ?_ z 0 (by omega) (by omega)
      rw [w64n (by omega)]
      exact e1
theorem map_pairs (l : List Int) (h : bytesOk l) (n m : Nat) (hm : n = 2 * m) (h1 : 1 ≤ m) (hn : n ≤ 12) (q : List Int) (hq : inR n q) (hqi : injR n q) (p : Int) (hp : 0 ≤ p) (hp' : p ≤ 400) : ∀ (d i : Nat) (g : List Int), m - i = d → i ≤ m → paired n q g (2 * i) → ∃ (t f : List Int) (p' : Int), Ev (fun k => spec_l91Map.l0 k n q g ((2 * i : Nat) : Int) l p) (t, f, p') ∧ t.length ≤ 12 ∧ f.length ≤ 12 ∧ 0 ≤ p' ∧ p' ≤ p + 13
  | 0, i, g, hd, hi, hg => by
    have : i = m := by omega
    subst this
    rw [← hm] at hg
    obtain ⟨t, t1, t2, t3⟩ := l91Perm_ev l h n (by omega) p hp (by omega)
    obtain ⟨a, b, c, e1, e2, e3, e4, e5⟩ := map_loop l h n (by omega) hn g hg.1 (paired_flip n i hm q g hq hqi hg) (p + n) (by omega) (by omega) n 0 t (by omega) (by omega) t2 t3
    refine ⟨a, b, c, Ev.s ?_, e2, e3, e4, by omega⟩
    have w : i < 1000 := by omega
    simp only [spec_l91Map.l0, w64n (show 2 * i < 4611686018427387904 by omega), show ¬ ((2 * i + 1 : Nat) : Int) < (n : Int) by omega, if_false]
    exact Ev.bind t1 e1
  | d + 1, i, g, hd, hi, hg => by
    have ra := hq.2 (2 * i) (by omega)
    have rb := hq.2 (2 * i + 1) (by omega)
    obtain ⟨a, b, c, e1, e2⟩ := map_pairs l h n m hm h1 hn q hq hqi p hp hp' d (i + 1) _ (by omega) (by omega) (pair_step n q g hq hqi i (by omega) hg)
    refine ⟨a, b, c, Ev.s ?_, e2⟩
    have w2 : wrap64 (((2 * i : Nat) : Int) + 2) = ((2 * (i + 1) : Nat) : Int) := by rw [w64 (by omega) (by omega)]; omega
    simp only [spec_l91Map.l0, w64n (show 2 * i < 4611686018427387904 by omega), show ((2 * i + 1 : Nat) : Int) < (n : Int) by omega, show (0 : Int) ≤ ((2 * i : Nat) : Int) by omega, show (0 : Int) ≤ ((2 * i + 1 : Nat) : Int) by omega, hq.1, show ((2 * i : Nat) : Int) < (n : Int) by omega, hg.1.1, ra.1, ra.2, rb.1, rb.2, if_true, w2]
    exact e1
theorem l91Map_at (l : List Int) (h : bytesOk l) (p : Int) (hp : 0 ≤ p) (hp' : p ≤ 200) (edges : Nat) (h1 : 1 ≤ edges) (h6 : edges ≤ 6) : ∃ (t f : List Int) (p' : Int), Ev (fun k => spec_l91Map.f k l p edges) (t, f, p') ∧ t.length ≤ 12 ∧ f.length ≤ 12 ∧ 0 ≤ p' ∧ p' ≤ p + 100 := by
  obtain ⟨v, hv, v0, v1⟩ := pick_ev l h p hp (by omega) (edges : Int) (by omega) (by omega)
  obtain ⟨V, rfl⟩ : ∃ V : Nat, v = (V : Int) := ⟨v.toNat, by omega⟩
  obtain ⟨q, q1, q2, q3⟩ := l91Perm_ev l h (2 * (1 + V)) (by omega) (p + 1) (by omega) (by omega)
  have rep : paired (2 * (1 + V)) q (List.replicate (2 * (1 + V)) 0) (2 * 0) := by
    refine ⟨⟨by simp, fun i hi => ?_⟩, fun j hj => by omega⟩
    rw [rd_lt _ _ (by simpa using hi)]
    simp
    omega
  obtain ⟨a, b, c, e1, e2, e3, e4, e5⟩ := map_pairs l h (2 * (1 + V)) (1 + V) rfl (by omega) (by omega) q q2 q3 (p + 1 + ((2 * (1 + V) : Nat) : Int)) (by omega) (by omega) (1 + V) 0 _ (by omega) (by omega) rep
  refine ⟨a, b, c, ?_, e2, e3, e4, by omega⟩
  unfold spec_l91Map.f
  refine Ev.bind hv ?_
  have w1 : wrap64 (1 + (V : Int)) = ((1 + V : Nat) : Int) := by rw [w64 (by omega) (by omega)]; omega
  have w2 : wrap64 (2 * ((1 + V : Nat) : Int)) = ((2 * (1 + V) : Nat) : Int) := by rw [w64 (by omega) (by omega)]; omega
  simp only [w1, w2]
  refine Ev.bind q1 ?_
  simp only [show (0 : Int) ≤ ((2 * (1 + V) : Nat) : Int) by omega, Int.toNat_natCast, show 2 * (1 + V) ≤ 35184372088832 by omega, if_true]
  exact e1
theorem l91Map_ev (l : List Int) (h : bytesOk l) (edges : Nat) (h1 : 1 ≤ edges) (h6 : edges ≤ 6) : ∃ (t f : List Int) (p' : Int), Ev (fun k => spec_l91Map.f k l 0 edges) (t, f, p') ∧ t.length ≤ 12 ∧ f.length ≤ 12 ∧ 0 ≤ p' ∧ p' ≤ 100 := by
  obtain ⟨t, f, p', h⟩ := l91Map_at l h 0 (by omega) (by omega) edges h1 h6
  exact ⟨t, f, p', by simpa using h⟩
theorem drawVal_ev (l : List Int) (hb : ∀ x ∈ l, (Lit.int .u8 x).wf = true) : ∃ (t f : List Int) (X Y Z : Int), Ev (fun k => spec_DrawRibbonValue.f k l) (t, f, X, Y, Z) ∧ t.length ≤ 12 ∧ f.length ≤ 12 := by
  obtain ⟨l', eo, h⟩ := open_ev l hb
  obtain ⟨t, f, p, e1, e2, e3, e4, e5⟩ := l91Map_ev l' h 4 (by omega) (by omega)
  obtain ⟨v1, q1, _, _⟩ := pick_ev l' h p e4 (by omega) 4 (by omega) (by omega)
  obtain ⟨v2, q2, _, _⟩ := pick_ev l' h (p + 1) (by omega) (by omega) 20 (by omega) (by omega)
  obtain ⟨v3, q3, _, _⟩ := pick_ev l' h (p + 1 + 1) (by omega) (by omega) 4 (by omega) (by omega)
  obtain ⟨v4, q4, _, _⟩ := pick_ev l' h (p + 1 + 1 + 1) (by omega) (by omega) 20 (by omega) (by omega)
  obtain ⟨v5, q5, _, _⟩ := pick_ev l' h (p + 1 + 1 + 1 + 1) (by omega) (by omega) 4 (by omega) (by omega)
  refine ⟨t, f, wrap64 (v1 + wrap64 (wrap64 (Int.tdiv v2 19) * 4)), wrap64 (v3 - wrap64 (wrap64 (Int.tdiv v4 19) * 4)), v5, ?_, e2, e3⟩
  unfold spec_DrawRibbonValue.f
  simp only [eo, Option.bind_some]
  refine Ev.bind e1 ?_
  refine Ev.bind q1 ?_
  refine Ev.bind q2 ?_
  refine Ev.bind q3 ?_
  refine Ev.bind q4 ?_
  refine Ev.bind q5 ?_
  exact Ev.const rfl
theorem valI_or (t f : List Int) (X Y Z : Int) (ht : t.length ≤ 12) (hf : f.length ≤ 12) : Ev (fun k => impl_RibbonValue.f k t f X Y Z) (-1) ∨ isMap t f ∧ 0 ≤ X ∧ X ≤ 3 ∧ 0 ≤ Y ∧ Y ≤ 3 ∧ 0 ≤ Z ∧ Z ≤ 3 := by
  obtain ⟨b, _, b2, b3⟩ := mapValid_both t f (by omega) (by omega)
  cases b with
  | false =>
    left
    unfold impl_RibbonValue.f
    refine Ev.bind b2 ?_
    simp only [Bool.false_eq_true, if_false]
    exact Ev.const rfl
  | true =>
    have hm := b3.1 rfl
    by_cases x0 : X < 0
    · left
      unfold impl_RibbonValue.f
      refine Ev.bind b2 ?_
      simp only [if_true, x0]
      exact Ev.const rfl
    by_cases x3 : X > 3
    · left
      unfold impl_RibbonValue.f
      refine Ev.bind b2 ?_
      simp only [if_true, x0, x3, if_false]
      exact Ev.const rfl
    by_cases y0 : Y < 0
    · left
      unfold impl_RibbonValue.f
      refine Ev.bind b2 ?_
      simp only [if_true, x0, x3, y0, if_false]
      exact Ev.const rfl
    by_cases y3 : Y > 3
    · left
      unfold impl_RibbonValue.f
      refine Ev.bind b2 ?_
      simp only [if_true, x0, x3, y0, y3, if_false]
      exact Ev.const rfl
    by_cases z0 : Z < 0
    · left
      unfold impl_RibbonValue.f
      refine Ev.bind b2 ?_
      simp only [if_true, x0, x3, y0, y3, z0, if_false]
      exact Ev.const rfl
    by_cases z3 : Z > 3
    · left
      unfold impl_RibbonValue.f
      refine Ev.bind b2 ?_
      simp only [if_true, x0, x3, y0, y3, z0, z3, if_false]
      exact Ev.const rfl
    exact .inr ⟨hm, by omega, by omega, by omega, by omega, by omega, by omega⟩
theorem faces_faces (t f : List Int) (n : Nat) (H : MapOk t f n) : faces (faces t f n) f n = t := by
  obtain ⟨hn, h1, ht, hti, hf, hfl, hcon⟩ := H
  refine list_ext _ _ (by rw [faces_len, ht.1]) fun d hd => ?_
  rw [faces_len] at hd
  have fr := hf.2 d hd
  have e1 : (((rd f d).toNat : Nat) : Int) = rd f d := by omega
  rw [faces_rd _ f n d hd, ← e1, faces_rd t f n _ (by omega), e1, (hfl d hd).2]
def tallE : Nat → List (List Int)
  | 0 => [[]]
  | n + 1 => tallE n ++ (tallE n).map (fun c => c ++ [(n : Int)])
theorem tchk_list : (List.range 7).all (fun (E : Nat) => decide (spec_l7All.f 300 (E : Int) = some (tallE E)) && decide ((tallE E).length = 2 ^ E)) = true := by decide +kernel
theorem tchk_bits : (List.range 7).all (fun (E : Nat) => (List.range (2 ^ E)).all fun (s : Nat) => decide (tch.l1 30 [] (s : Int) 0 (E : Int) = some ((tallE E).getD s [])) && decide (((tallE E).getD s []).length ≤ 20)) = true := by decide +kernel
theorem tchk (E : Nat) (h : E ≤ 6) : spec_l7All.f 300 (E : Int) = some (tallE E) ∧ (tallE E).length = 2 ^ E ∧ ∀ s : Nat, s < 2 ^ E → tch.l1 30 [] (s : Int) 0 (E : Int) = some ((tallE E).getD s []) ∧ ((tallE E).getD s []).length ≤ 20 := by
  have h1 := List.all_eq_true.1 tchk_list E (List.mem_range.2 (by omega))
  have h2 := List.all_eq_true.1 tchk_bits E (List.mem_range.2 (by omega))
  simp only [Bool.and_eq_true, decide_eq_true_eq] at h1
  refine ⟨h1.1, h1.2, fun s hs => ?_⟩
  have h3 := List.all_eq_true.1 h2 s (List.mem_range.2 hs)
  simp only [Bool.and_eq_true, decide_eq_true_eq] at h3
  exact h3
theorem tpow (E : Nat) (h : E ≤ 6) : wrap64 ((2 : Int) ^ E) = ((2 ^ E : Nat) : Int) ∧ 2 ^ E ≤ 64 := by
  have : E = 0 ∨ E = 1 ∨ E = 2 ∨ E = 3 ∨ E = 4 ∨ E = 5 ∨ E = 6 := by omega
  rcases this with rfl | rfl | rfl | rfl | rfl | rfl | rfl <;> exact ⟨by decide +kernel, by decide⟩
def cplB (E : Nat) (s : Nat → Bool) : Nat → Bool := fun j => if j < E then !s j else s j
theorem cplB_succ (E : Nat) (b : Bool) (s : Nat → Bool) : cplB (E + 1) (fun j => if j = E then b else s j) = fun j => if j = E then !b else cplB E s j := by
  funext j
  show (if j < E + 1 then !(if j = E then b else s j) else (if j = E then b else s j)) = if j = E then !b else (if j < E then !s j else s j)
  by_cases z : j = E
  · rw [if_pos (by omega : j < E + 1), if_pos z, if_pos z]
  · rw [if_neg z, if_neg z]
    by_cases y : j < E
    · rw [if_pos y, if_pos (by omega)]
    · rw [if_neg y, if_neg (by omega)]
theorem sumB_cpl : ∀ (E : Nat) (F : (Nat → Bool) → Int), sumB E (fun s => F (cplB E s)) = sumB E F
  | 0, F => by
    show F (cplB 0 fun _ => false) = F fun _ => false
    congr 1
  | E + 1, F => by
    have h1 := sumB_cpl E (fun s => F (fun j => if j = E then true else s j))
    have h2 := sumB_cpl E (fun s => F (fun j => if j = E then false else s j))
    simp only [sumB, cplB_succ, Bool.not_false, Bool.not_true]
    rw [h1, h2, Int.add_comm]
theorem rest_lst (s : Nat → Bool) (E : Nat) : ∀ m, m ≤ E → restL (lstS s E) m = lstS (cplB E s) m
  | 0, _ => rfl
  | m + 1, hm => by
    have ih := rest_lst s E m (by omega)
    have hmem : (m : Int) ∈ lstS s E ↔ s m = true := by
      rw [mem_lstS]
      constructor
      · rintro ⟨j, a, b, c⟩
        rwa [show m = j by omega]
      · intro h
        exact ⟨m, by omega, h, rfl⟩
    have hc : cplB E s m = !s m := by unfold cplB; rw [if_pos (by omega)]
    rw [restL_succ, ih]
    simp only [lstS, hc]
    by_cases h : s m = true
    · rw [if_pos (hmem.2 h), h]
      simp
    · rw [if_neg (fun z => h (hmem.1 z))]
      have h' : s m = false := by cases q : s m with | true => exact absurd q h | false => rfl
      rw [h']
      simp
theorem cpl_len (s : Nat → Bool) (E : Nat) : ∀ m, m ≤ E → (lstS s m).length + (lstS (cplB E s) m).length = m
  | 0, _ => rfl
  | m + 1, hm => by
    have ih := cpl_len s E m (by omega)
    have hc : cplB E s m = !s m := by unfold cplB; rw [if_pos (by omega)]
    simp only [lstS, hc]
    cases s m with
    | true => simp; omega
    | false => simp; omega
theorem dual_nums (t f : List Int) (n : Nat) (H : MapOk t f n) (hG : 2 + (edL f n).length = vN t n + vN (faces t f n) n) (s : Nat → Bool) (X Y Z : Int) :
    tmV (faces t f n) f n Y X Z (lstS (cplB (edL f n).length s) (edL f n).length) = tmV t f n X Y Z (lstS s (edL f n).length) := by
  have hc := lstS_choice s (edL f n).length
  have hc' := lstS_choice (cplB (edL f n).length s) (edL f n).length
  have hl := cpl_len s (edL f n).length (edL f n).length (Nat.le_refl _)
  have hr := rest_lst s (edL f n).length (edL f n).length (Nat.le_refl _)
  obtain ⟨g, G, a1, a2, a3, a4⟩ := nums t f n H _ hc
  obtain ⟨g', G', b1, b2, b3, b4⟩ := nums (faces t f n) f n (dual_ok H) _ hc'
  rw [faces_faces t f n H] at b4
  have hS : sN (faces t f n) f n (lstS (cplB (edL f n).length s) (edL f n).length) = sN t f n (lstS s (edL f n).length) := by
    unfold sN
    rw [← hr, dual_sg t f n H]
  have p1 := (clN_cl n (Reach [t, flC f n (lstS s (edL f n).length)] n)).pos H.2.1
  have p2 := (clN_cl n (Reach [faces t f n, flC f n (lstS (cplB (edL f n).length s) (edL f n).length)] n)).pos H.2.1
  change 1 ≤ pN t f n (lstS s (edL f n).length) at p1
  change 1 ≤ pN (faces t f n) f n (lstS (cplB (edL f n).length s) (edL f n).length) at p2
  unfold tmV
  rw [hS] at b1 ⊢
  generalize (lstS s (edL f n).length).length = A at *
  generalize (lstS (cplB (edL f n).length s) (edL f n).length).length = B at *
  generalize pN t f n (lstS s (edL f n).length) = P at *
  generalize pN (faces t f n) f n (lstS (cplB (edL f n).length s) (edL f n).length) = Q at *
  generalize sN t f n (lstS s (edL f n).length) = S at *
  have e1 : Q - 1 = A + P - vN t n := by omega
  have e2 : B + Q - vN (faces t f n) n = P - 1 := by omega
  have e3 : (2 * Q + B - vN (faces t f n) n - S) / 2 = 0 := by omega
  have e4 : (2 * P + A - vN t n - S) / 2 = 0 := by omega
  rw [e1, e2, e3, e4, Int.mul_comm (Y ^ (A + P - vN t n))]
theorem val_dual (t f : List Int) (n : Nat) (H : MapOk t f n) (hG : 2 + (edL f n).length = vN t n + vN (faces t f n) n) (X Y Z : Int) : valS (faces t f n) f n Y X Z = valS t f n X Y Z := by
  unfold valS
  rw [← sumB_cpl (edL f n).length (fun s => tmV (faces t f n) f n Y X Z (lstS s (edL f n).length))]
  exact sumB_congr _ _ _ fun s _ => dual_nums t f n H hG s X Y Z
theorem sumB_one : ∀ E : Nat, sumB E (fun _ => 1) = ((2 ^ E : Nat) : Int)
  | 0 => rfl
  | E + 1 => by
    simp only [sumB]
    rw [sumB_one E, Nat.pow_succ]
    omega
theorem val_ones (t f : List Int) (n : Nat) : valS t f n 1 1 1 = ((2 ^ (edL f n).length : Nat) : Int) := by
  unfold valS
  rw [← sumB_one]
  refine sumB_congr _ _ _ fun s _ => ?_
  unfold tmV
  simp only [Int.one_pow, Int.mul_one]
theorem term_zero (t f : List Int) (n : Nat) (H : MapOk t f n) (Z : Int) (c : List Int) (hc : isChoice c ((edL f n).length : Int)) :
    tmV t f n 0 0 Z c = if pN t f n c = 1 ∧ c.length + 1 = vN t n then 1 else 0 := by
  obtain ⟨g, G, a1, a2, a3, a4⟩ := nums t f n H c hc
  have p1 := (clN_cl n (Reach [t, flC f n c] n)).pos H.2.1
  have s1 := (clN_cl n (Reach [sgL t f n c] n)).pos H.2.1
  change 1 ≤ pN t f n c at p1
  change 1 ≤ sN t f n c at s1
  unfold tmV
  by_cases h : pN t f n c = 1 ∧ c.length + 1 = vN t n
  · obtain ⟨h1, h2⟩ := h
    rw [if_pos ⟨h1, h2⟩, show pN t f n c - 1 = 0 by omega, show c.length + pN t f n c - vN t n = 0 by omega, show (2 * pN t f n c + c.length - vN t n - sN t f n c) / 2 = 0 by omega]
    simp
  · rw [if_neg h]
    by_cases h1 : pN t f n c = 1
    · have : ∃ k, c.length + pN t f n c - vN t n = k + 1 := ⟨c.length + pN t f n c - vN t n - 1, by omega⟩
      obtain ⟨k, hk⟩ := this
      rw [hk, Int.pow_succ]
      simp
    · have : ∃ k, pN t f n c - 1 = k + 1 := ⟨pN t f n c - 2, by omega⟩
      obtain ⟨k, hk⟩ := this
      rw [hk, Int.pow_succ]
      simp
theorem tree_ev (t f : List Int) (hm : isMap t f) (c : List Int) (hc : isChoice c ((edL f t.length).length : Int)) (hcl : c.length ≤ (edL f t.length).length) :
    Ev (fun k => impl_ChoiceTree.f k t f c) (decide (pN t f t.length c = 1 ∧ c.length + 1 = vN t t.length)) := by
  have H := mapOk_of t f hm
  obtain ⟨hn, n1, ht', hti, hf', hfl, hcon⟩ := id H
  have hh := edL_half f t.length hf' hfl
  have hlen := hf'.1
  obtain ⟨P, S, hP, hS, _, g2⟩ := five_ev t f c hm hc (by omega)
  have eP : pN t f t.length c = P := hP.eq
  have eV : vN t t.length = (cyS t t.length t.length).2.length := (cyS_cl t t.length ht' hti).eq
  have pn : P ≤ t.length := by
    obtain ⟨q, hq, hk⟩ := Cl.ex t.length (Reach [t, flC f t.length c] t.length)
    rw [Cl.uniq hP hq]
    exact hk
  have vn := cyS_many t t.length t.length
  obtain ⟨b, _, v2, v3⟩ := choiceValid_both t f c (by omega) (by omega) (by omega)
  have hb : b = true := v3.2 ⟨hm, (choice_half t f c hm).2 hc⟩
  subst hb
  rw [eP, eV]
  generalize (cyS t t.length t.length).2.length = V at *
  have l5 : (fiveN P S V c.length).length = 5 := rfl
  have w1 : wrap64 ((V : Int) - P) = (V : Int) - P := w64 (by omega) (by omega)
  have w2 : wrap64 ((c.length : Int) - ((V : Int) - P)) = (c.length : Int) - ((V : Int) - P) := w64 (by omega) (by omega)
  unfold impl_ChoiceTree.f
  refine Ev.bind v2 ?_
  simp only [if_true]
  refine Ev.bind g2 ?_
  simp only [l5, show rd (fiveN P S V c.length) 0 = (P : Int) from rfl, show rd (fiveN P S V c.length) 3 = wrap64 ((c.length : Int) - wrap64 ((V : Int) - P)) from rfl, w1, w2, show (0 : Int) < ((5 : Nat) : Int) by decide, show (3 : Int) < ((5 : Nat) : Int) by decide, if_true]
  by_cases hp : (P : Int) = 1
  · simp only [hp, if_true]
    refine Ev.const ?_
    congr 1
    have : P = 1 := by omega
    subst this
    refine decide_eq_decide.2 ⟨fun h => ⟨rfl, by omega⟩, fun h => by omega⟩
  · simp only [hp, if_false]
    refine Ev.const ?_
    congr 1
    exact (decide_eq_false fun h => hp (by omega)).symm
theorem trunI (t f : List Int) (E : Nat) (hfE : (f.length : Int) / 2 = (E : Int)) (T : List Int → Bool) (L : List (List Int)) (N : Nat) (hN : L.length = N) (hN64 : N ≤ 64)
    (hT : ∀ c ∈ L, Ev (fun k => impl_ChoiceTree.f k t f c) (T c))
    (hc : ∀ s : Nat, s < N → tch.l1 30 [] (s : Int) 0 (E : Int) = some (L.getD s [])) : ∀ (d s : Nat), N - s = d → s ≤ N → ∀ x : Int, 0 ≤ x → x ≤ (s : Int) * 1 → Ev (fun k => tch.l0 k t f x s (N : Int)) (x + ((L.map fun c => if T c = true then (1 : Int) else 0).drop s).sum)
  | 0, s, hd, hs, x, h0, h1 => by
    have hsN : s = N := vzero N s hd hs
    subst hsN
    have : (L.map fun c => if T c = true then (1 : Int) else 0).drop s = [] := List.drop_eq_nil_of_le (by simp [hN])
    rw [this]
    refine Ev.s ?_
    simp only [tch.l0, show ¬ (s : Int) < (s : Int) by omega, if_false, List.sum_nil, Int.add_zero]
    exact Ev.const rfl
  | d + 1, s, hd, hs, x, h0, h1 => by
    obtain ⟨hlt, hsl, hs64, hsN, hd1, hs1, hb1, hb2⟩ := vfacts N s d L.length hd hs hN hN64
    have hg : L.getD s [] = L[s] := by simp [List.getD, hsl]
    have hT' := hT _ (List.getElem_mem hsl)
    have e1 : Ev (fun k => tch.l1 k [] (s : Int) 0 (E : Int)) (L[s]) := by
      rw [← hg]
      exact Ev.of (fun k => tch.mono_l1 k _ _ _ _) (hc s hsN)
    have hw : wrap64 ((s : Int) + 1) = ((s + 1 : Nat) : Int) := w64n hb2
    have hd' := drop_sum (L.map fun c => if T c = true then (1 : Int) else 0) s (by simp [hsl])
    rw [List.getElem_map] at hd'
    rw [hd', ← Int.add_assoc]
    have hx := le_step s x 1 (by decide) hs64 h1
    refine Ev.s ?_
    simp only [tch.l0, hlt, hfE, if_true]
    refine Ev.bind e1 ?_
    refine Ev.bind hT' ?_
    cases hb : T (L[s]) with
    | true =>
      have ih := trunI t f E hfE T L N hN hN64 hT hc d (s + 1) hd1 hs1 (x + 1) (Int.add_nonneg h0 (by decide)) (step_le s x 1 1 h1 (by decide))
      simp only [hw, if_true, w64 (x := x + 1) (by omega) (by omega)]
      exact ih
    | false =>
      have ih := trunI t f E hfE T L N hN hN64 hT hc d (s + 1) hd1 hs1 (x + 0) (Int.add_nonneg h0 (by decide)) (step_le s x 1 0 h1 (by decide))
      simp only [hw, Bool.false_eq_true, if_false]
      simp only [Int.add_zero] at ih ⊢
      exact ih
theorem tall_vall : ∀ E, tallE E = vallE E
  | 0 => rfl
  | E + 1 => by simp only [tallE, vallE, tall_vall E]
theorem treesI_ev (t f : List Int) (hm : isMap t f) (Z : Int) : Ev (fun k => impl_RibbonTrees.f k t f) (valS t f t.length 0 0 Z) := by
  have H := mapOk_of t f hm
  obtain ⟨hn, n1, ht', hti, hf', hfl, hcon⟩ := id H
  have hh := edL_half f t.length hf' hfl
  have hlen := hf'.1
  have hfl12 : f.length ≤ 12 := by omega
  obtain ⟨b, _, b2, b3⟩ := mapValid_both t f (by omega) (by omega)
  have hb : b = true := b3.2 hm
  subst hb
  obtain ⟨E, hE⟩ : ∃ E : Nat, E = f.length / 2 := ⟨_, rfl⟩
  have hE6 : E ≤ 6 := by omega
  obtain ⟨hp, hp2⟩ := tpow E hE6
  obtain ⟨_, hl, hc⟩ := tchk E hE6
  have hEe : (edL f t.length).length = E := by omega
  have := trunI t f E (by omega) (fun c => decide (pN t f t.length c = 1 ∧ c.length + 1 = vN t t.length)) (tallE E) (2 ^ E) hl hp2 (fun c hc' => by
    rw [tall_vall] at hc'
    obtain ⟨q1, q2⟩ := vallE_choice E c hc'
    rw [← hEe] at q1 q2
    exact tree_ev t f hm c q1 q2) (fun s hs => (hc s hs).1) (2 ^ E) 0 (Nat.sub_zero _) (Nat.zero_le _) 0 (Int.le_refl 0) (by rw [show ((0 : Nat) : Int) = 0 from rfl, Int.zero_mul]; exact Int.le_refl 0)
  rw [List.drop_zero, tall_vall, sum_vall, Int.zero_add] at this
  have hv : valS t f t.length 0 0 Z = sumB E fun s => if decide (pN t f t.length (lstS s E) = 1 ∧ (lstS s E).length + 1 = vN t t.length) = true then (1 : Int) else 0 := by
    unfold valS
    rw [hEe]
    refine sumB_congr _ _ _ fun s _ => ?_
    have q := lstS_choice s E
    rw [← hEe] at q
    rw [hEe] at q
    rw [term_zero t f t.length H Z (lstS s E) (by rw [hEe]; exact q)]
    simp only [decide_eq_true_eq]
  rw [hv]
  unfold impl_RibbonTrees.f
  refine Ev.bind b2 ?_
  simp only [if_true, hfl12, ← hE, hp]
  exact this
theorem mapDualD_ev (t f : List Int) (hm : isMap t f) (ht : t.length ≤ 1048576) (hf : f.length ≤ 1048576) : Ev (fun k => impl_MapDual.f k t f) (faces t f t.length, f, true) := by
  obtain ⟨hn, h1, ht', hti, hf', hfl, hcon⟩ := mapOk_of t f hm
  obtain ⟨b, _, b2, b3⟩ := mapValid_both t f ht hf
  have hb : b = true := b3.2 hm
  subst hb
  have hc : slices_Clone_int_int.f f = some f := by
    unfold slices_Clone_int_int.f
    rw [if_pos (by omega)]
  unfold impl_MapDual.f
  refine Ev.bind b2 ?_
  simp only [if_true]
  refine Ev.bind (mulF_ev t f t.length hn ht' hf') ?_
  simp only [hc, Option.bind_some]
  exact Ev.const rfl
theorem Cl.le {n : Nat} {R : Nat → Nat → Prop} {k : Nat} (h : Cl n R k) : k ≤ n := by
  obtain ⟨l, h1, h2⟩ := Cl.ex n R
  rw [h.uniq h1]
  exact h2
theorem genusI_ev (t f : List Int) (hm : isMap t f) (ht : t.length ≤ 1048576) (hf : f.length ≤ 1048576) (V F G : Nat) (hV : Cl t.length (Reach [t] t.length) V) (hF : Cl t.length (Reach [faces t f t.length] t.length) F) (hG : 2 + (edL f t.length).length = V + F + 2 * G) : Ev (fun k => impl_MapGenus.f k t f) (G : Int) := by
  have H := mapOk_of t f hm
  obtain ⟨hn, h1, ht', hti, hf', hfl, hcon⟩ := id H
  obtain ⟨b, _, b2, b3⟩ := mapValid_both t f ht hf
  have hb : b = true := b3.2 hm
  subst hb
  have hFi := faces_inR t f t.length ht' hf'
  have hV' := hV.uniq (cyS_cl t t.length ht' hti)
  have hF' := hF.uniq (cyS_cl _ _ hFi (faces_inj t f t.length ht' hti hf' hfl))
  have v1 := hV.le
  have v2 := hF.le
  have hh := edL_half f t.length hf' hfl
  have hlen := hf'.1
  unfold impl_MapGenus.f
  refine Ev.bind b2 ?_
  simp only [if_true]
  refine Ev.bind (a := (G : Int)) ?_ (Ev.const rfl)
  unfold impl_genusOf.f
  refine Ev.bind (implCyc_ev t t.length (by omega) ht') ?_
  refine Ev.bind (mulF_ev t f t.length hn ht' hf') ?_
  refine Ev.bind (implCyc_ev _ t.length (by omega) hFi) (Ev.const ?_)
  rw [← hV', ← hF']
  congr 1
  rw [w64 (x := 2 - (V : Int)) (by omega) (by omega), w64 (x := (f.length : Int) / 2) (by omega) (by omega), w64 (x := 2 - (V : Int) + (f.length : Int) / 2) (by omega) (by omega), w64 (x := 2 - (V : Int) + (f.length : Int) / 2 - F) (by omega) (by omega)]
  rw [show 2 - (V : Int) + (f.length : Int) / 2 - F = (G : Int) * 2 by omega, Int.mul_tdiv_cancel _ (by decide), w64 (by omega) (by omega)]
end Go.Proofs.Ytjgknblneokhlaa.PK

set_option linter.unusedVariables false
set_option linter.unusedSimpArgs false
namespace Go.Proofs.Ytjgknblneokhlaa.Pure
open Go.RowKit Go.Proofs.Ytjgknblneokhlaa.PK Go.Proofs.YtjgknblneokhlaaW.PrintWords Go.Proofs.YtjgknblneokhlaaW.PrintLast Go.Proofs.YtjgknblneokhlaaW.PrintMore
theorem power_loop (t f T F : List Int) (X Y Z o : Int) (V E W : Nat) (hE : E ≤ 6)
    (he : Ev (fun k => laws_FnValueDual.l0 k X Y Z o (threeN V E W) true true ((2 ^ E : Nat) : Int) (E : Int) t f T F) true) : ∀ (d i : Nat), E - i = d → i ≤ E → Ev (fun k => laws_FnValueDual.l0 k X Y Z o (threeN V E W) true true ((2 ^ i : Nat) : Int) (i : Int) t f T F) true
  | 0, i, hd, hi => by
    have : i = E := by omega
    rw [this]
    exact he
  | d + 1, i, hd, hi => by
    have ih := power_loop t f T F X Y Z o V E W hE he d (i + 1) (by omega) (by omega)
    have hp : 2 ^ i ≤ 64 := by
      have : 2 ^ i ≤ 2 ^ 6 := Nat.pow_le_pow_right (by omega) (by omega)
      omega
    have l3 : (threeN V E W).length = 3 := rfl
    have r1 : rd (threeN V E W) 1 = (E : Int) := rfl
    refine Ev.s ?_
    simp only [laws_FnValueDual.l0, l3, r1, show (1 : Int) < ((3 : Nat) : Int) by decide, if_true, show (i : Int) < (E : Int) by omega]
    rw [Nat.pow_succ] at ih
    generalize 2 ^ i = m at hp ih ⊢
    rw [w64 (x := 2 * (m : Int)) (by omega) (by omega), w64 (x := (i : Int) + 1) (by omega) (by omega)]
    rw [show 2 * (m : Int) = ((m * 2 : Nat) : Int) by omega, show (i : Int) + 1 = ((i + 1 : Nat) : Int) by omega]
    exact ih
theorem FnValueDual : laws_FnValueDual.Pure := by
  intro l hl _ hb
  by_cases c0 : (l.length : Int) > 1048576
  · exact ⟨0, by unfold laws_FnValueDual.f; rw [if_pos c0]⟩
  obtain ⟨t, f, X, Y, Z, dr, d2, d3⟩ := drawVal_ev l hb
  obtain ⟨r, r1, r2⟩ := ribbonValue_both t f X Y Z (by omega) (by omega)
  refine Ev.rounds (r := true) ?_
  unfold laws_FnValueDual.f
  simp only [c0, if_false]
  refine Ev.bind dr ?_
  refine Ev.bind r2 ?_
  refine Ev.bind r1 ?_
  simp only [if_true]
  refine Ev.s ?_
  by_cases hr : r < 0
  · simp only [laws_FnValueDual.j0, decide_eq_true hr, if_true, beq_self_eq_true]
    exact Ev.const rfl
  rcases valI_or t f X Y Z d2 d3 with h | ⟨hm, x0, x3, y0, y3, z0, z3⟩
  · exact absurd (Ev.uniq r2 h) (by omega)
  have er := Ev.uniq r2 (valI_ev t f hm X Y Z x0 x3 y0 y3 z0 z3)
  have H := mapOk_of t f hm
  obtain ⟨hn, h1, ht', hti, hf', hfl, hcon⟩ := id H
  have hh := edL_half f t.length hf' hfl
  have eV : Cl t.length (Go.Proofs.Ytjgknblneokhlaa.PK.Reach [t] t.length) (cyS t t.length t.length).2.length := cyS_cl t t.length ht' hti
  obtain ⟨F, w1, w2⟩ := mapCounts_ev t f hm (by omega) (by omega)
  have dm := mapDualD_ev t f hm (by omega) (by omega)
  obtain ⟨g, G, n1, n2, n3, n4⟩ := nums t f t.length H [] (fun i hi => by simp at hi)
  rw [show vN t t.length = (cyS t t.length t.length).2.length from eV.eq, show vN (faces t f t.length) t.length = F from w1.eq] at n4
  have gI := genusI_ev t f hm (by omega) (by omega) _ F G eV w1 n4
  have v1 := valI_ev t f hm 1 1 1 (by decide) (by decide) (by decide) (by decide) (by decide) (by decide)
  rw [val_ones] at v1
  have v0 := valI_ev t f hm 0 0 Z (by decide) (by decide) (by decide) (by decide) z0 z3
  have vt := treesI_ev t f hm Z
  simp only [laws_FnValueDual.j0, decide_eq_false hr, Bool.false_eq_true, if_false]
  refine Ev.bind w2 ?_
  refine Ev.bind dm ?_
  refine power_loop t f _ _ X Y Z r _ (edL f t.length).length F (by omega) ?_ (edL f t.length).length 0 (by omega) (by omega)
  have l3 : (threeN (cyS t t.length t.length).2.length (edL f t.length).length F).length = 3 := rfl
  have q1 : rd (threeN (cyS t t.length t.length).2.length (edL f t.length).length F) 1 = ((edL f t.length).length : Int) := rfl
  refine Ev.s ?_
  simp only [laws_FnValueDual.l0, l3, q1, show (1 : Int) < ((3 : Nat) : Int) by decide, if_true, show ¬ ((edL f t.length).length : Int) < ((edL f t.length).length : Int) by omega, if_false]
  refine Ev.bind gI ?_
  by_cases hG : (G : Int) > 0
  · simp only [hG, if_true]
    refine Ev.bind v1 ?_
    simp only [if_true]
    refine Ev.bind v0 ?_
    refine Ev.bind vt ?_
    simp only [beq_self_eq_true]
    exact Ev.const rfl
  · simp only [hG, if_false]
    have hD := dual_ok H
    have hmD := isMap_of hD
    have hlD := faces_len t f t.length
    have vd := valI_ev (faces t f t.length) f hmD Y X Z y0 y3 x0 x3 z0 z3
    rw [hlD, val_dual t f t.length H (by rw [show vN t t.length = (cyS t t.length t.length).2.length from eV.eq, show vN (faces t f t.length) t.length = F from w1.eq]; omega), ← er] at vd
    refine Ev.bind vd ?_
    simp only [if_true]
    refine Ev.bind v1 ?_
    simp only [if_true]
    refine Ev.bind v0 ?_
    refine Ev.bind vt ?_
    simp only [beq_self_eq_true]
    exact Ev.const rfl
end Go.Proofs.Ytjgknblneokhlaa.Pure

namespace Go.Proofs.Ytjgknblneokhlaa.fnValueDual
open Go.ChangeShapes Go.WideShapes Go.ChangeAt Go.RowKit
open Go.ChangeMaps (open_string shut_string)
set_option linter.unusedVariables false
theorem own : ownKnob Try.prog.godebug = none := by kernel_rfl
theorem laidOut : laidOutB Try.prog = true := by kernel_rfl
def IsRow (k : IntKind) (w : World) (a : Option Addr) (len cap : Nat) (zs : List Int) : Prop :=
 (a = none ∧ len = 0 ∧ cap = 0 ∧ zs = []) ∨
 ∃ x, a = some x ∧ len ≤ cap ∧ cap ≤ maxLen ∧ zs.length = cap ∧ (∀ i, i < zs.length → w.cell? (x.add i) = some (.int k (zs.getD i 0))) ∧ ∀ n ∈ zs, (Lit.int k n).wf = true
set_option maxRecDepth 100000 in
theorem lifted (os : Os) (started : os.Started) (H : Type) (enc : TypeId × Value → H) :
  ReturnsInHanded {} Try.checked os 8 .any (Rows.fnValueDualSpec.pre6 enc Try.prog Try.f8 Rows.fnValueDualRow.domain false) (Rows.fnValueDualSpec.post enc Try.prog Try.f8 false true false false) := by
 refine returnsInHanded_of_change_sized (C := Try.checked) own started (by kernel_rfl) Try.func8
  (ChangeSpec.witness6 (enc := enc) (C := Try.checked) false ⟨#[], #[.slice none 0 0], []⟩ 8 (by kernel_rfl) (by kernel_rfl) (by kernel_rfl) (by kernel_rfl)) ?_
 intro W base args ds gs before hval0 hW hcnd hsz0 _
 have hsz : (DataW.weightsEach Try.prog (Try.f8.params.toList ++ Rows.fnValueDualSpec.plain.varTypes Try.prog) (ds ++ gs)).all (· ≤ reachBytes) = true := hsz0
 have hval : ∀ (j : Nat) t v, Try.f8.params[j]? = some t → args[j]? = some v → Value.okWide Try.prog W .any base t v := hval0
 have hW' := hW
 obtain ⟨p, q, hA0, hV, rfl, hfz, hnd⟩ := hW
 have hA : DataW.TrodAll enc Try.prog W 0 (fun _ => true) true Try.f8.params.toList args.toList ds p := hA0
 rw [Try.params8] at hA hval hsz
 obtain ⟨v0, vs0, d0, ds0, p0, q0, hargs, rfl, rfl, h0, r0⟩ := trodAll_cons hA
 obtain ⟨rfl, rfl, rfl⟩ := trodAll_nil r0
 obtain rfl : args = #[v0] := by cases args; simp_all
 obtain ⟨rfl, rfl⟩ := trodVars_none hV
 obtain ⟨a0, len0, cap0, rfl⟩ := okWide_slice Try.underlying22 (hval 0 22 v0 rfl rfl)
 have k0 := h0
 have lt0 : ∀ x ∈ p0, x.block < W.heap.size := by obtain ⟨m, hm⟩ := k0; exact DataW.trod_lt m _ _ _ hm
 obtain ⟨z0, w0⟩ : ∃ zs, IsRow .u8 W a0 len0 cap0 zs := by
  obtain ⟨fuel, hf⟩ := h0
  rcases open_ints Try.underlying22 Try.underlying5 (by kernel_rfl) hf with ⟨hcs, _⟩ | ⟨x, l, c, zs, hcs, _, hl, hm, hz, _, hcell, hwz⟩
  ·
   simp [Value.cells] at hcs
   obtain ⟨rfl, rfl, rfl⟩ := hcs
   exact ⟨[], .inl ⟨rfl, rfl, rfl, rfl⟩⟩
  ·
   simp [Value.cells] at hcs
   obtain ⟨rfl, rfl, rfl⟩ := hcs
   exact ⟨zs, .inr ⟨_, rfl, hl, hm, by simpa using hz, hcell, hwz⟩⟩
 have y0 : len0 * 1 ≤ 140737488351232 := Go.Proofs.YtjgknblneokhlaaW.PrintWords.sized_ints hsz (j := 0) (t := 22) rfl rfl Try.underlying22 Try.underlying5 (by kernel_rfl) (by kernel_rfl) h0
 clear hA0 hval0 hsz0 hsz
 refine (PK.laws_FnValueDual.walk Pure.FnValueDual a0 len0 cap0 z0 W w0 y0).mono fun e W' ⟨he, bel⟩ => ?_
 subst he
 exact ⟨_, rfl, _, _, _, [], _, [], hW', trodAll_mk1 (shut_bool Try.underlying4 _), (trodAll_cons_mk (Below.trod laidOut (by kernel_rfl) (of_decide_eq_true (by kernel_rfl)) k0 bel lt0) trodAll_mk0), rfl, bel.frame _, fun h => by cases h⟩
theorem over : Rows.fnValueDualRow.holds Try.pinned (OpenSpec.ofChange Rows.fnValueDualSpec) :=
 OpenClaim.holds_of_wide 8 Try.f8 rfl rfl rfl rfl rfl rfl rfl ⟨rfl, rfl, rfl, rfl, rfl⟩ rfl rfl rfl rfl rfl (by kernel_rfl) Try.func8 (by kernel_rfl)
  (of_decide_eq_true (by kernel_rfl)) (by unfold Func.isWrapper; first | (rw [if_pos (by decide +kernel)]; kernel_rfl) | (rw [if_neg (by decide +kernel)]; exact ⟨rfl, rfl⟩))
  (fun os started H enc _ => lifted os started H enc)
theorem proved : Rows.FnValueDualSaid := over
#print axioms proved
end Go.Proofs.Ytjgknblneokhlaa.fnValueDual
namespace Go.Proofs.Ytjgknblneokhlaa
theorem fnValueDual_holds : Rows.FnValueDualSaid := fnValueDual.proved
end Go.Proofs.Ytjgknblneokhlaa
