/- For every list of bytes, the law FnDegrees answers true: of the map that it draws, MapDegrees of the program answers what the reference answers; a valid map's degrees are as many as its vertices, the dual's as many as its faces, and either's sum is twice the edges. There are no conditions. -/
import Derived.Test.YtggghijamfmenaaKFnDegreesOwnx3
set_option linter.unusedVariables false
set_option linter.unusedSimpArgs false
namespace Go.Proofs.Ytggghijamfmenaa.PA
open Go.RowKit Go.Proofs.YtggghijamfmenaaW.PrintWords Go.Proofs.YtggghijamfmenaaW.PrintLast Go.Proofs.YtggghijamfmenaaW.PrintMore
theorem push_self (o : List Int) (i : Nat) (ho : inR i o) (hi : injR i o) : inR (i + 1) (o ++ [(i : Int)]) ∧ injR (i + 1) (o ++ [(i : Int)]) := by
  have last : rd (o ++ [(i : Int)]) (i : Int) = i := by
    rw [rd_lt _ _ (by simp [ho.1]), List.getElem_append_right (by rw [ho.1]; exact Nat.le_refl _)]
    simp
  have old : ∀ j : Nat, j < i → rd (o ++ [(i : Int)]) (j : Int) = rd o (j : Int) := fun j hj => rd_app_lt _ _ _ (by rw [ho.1]; exact hj)
  refine ⟨⟨by simp [ho.1], fun j hj => ?_⟩, fun j k hj hk e => ?_⟩
  · by_cases h : j < i
    · rw [old j h]
      have := ho.2 j h
      omega
    · rw [show j = i by omega, last]
      omega
  · by_cases h : j < i
    · have a := ho.2 j h
      by_cases h' : k < i
      · rw [old j h, old k h'] at e
        exact hi j k h h' e
      · rw [show k = i by omega, last, old j h] at e
        omega
    · by_cases h' : k < i
      · have a := ho.2 k h'
        rw [show j = i by omega, last, old k h'] at e
        omega
      · omega
theorem set_perm (o : List Int) (n a b : Nat) (ho : inR n o) (hi : injR n o) (ha : a < n) (hb : b < n) : inR n ((o.set a (rd o b)).set b (rd o a)) ∧ injR n ((o.set a (rd o b)).set b (rd o a)) := by
  have val : ∀ j : Nat, j < n → rd ((o.set a (rd o b)).set b (rd o a)) (j : Int) = if b = j then rd o a else if a = j then rd o b else rd o j := by
    intro j hj
    by_cases e1 : b = j
    · subst e1
      rw [rd_set_self _ _ _ (by simp [ho.1]; exact hb), if_pos rfl]
    · rw [rd_set_ne _ _ _ _ e1, if_neg e1]
      by_cases e2 : a = j
      · subst e2
        rw [rd_set_self _ _ _ (by rw [ho.1]; exact ha), if_pos rfl]
      · rw [rd_set_ne _ _ _ _ e2, if_neg e2]
  have ra := ho.2 a ha
  have rb := ho.2 b hb
  refine ⟨⟨by simp [ho.1], fun j hj => ?_⟩, fun j k hj hk e => ?_⟩
  · rw [val j hj]
    have := ho.2 j hj
    split
    · exact ra
    · split
      · exact rb
      · exact this
  · rw [val j hj, val k hk] at e
    have i1 := hi a b ha hb
    have i2 := hi a j ha hj
    have i3 := hi a k ha hk
    have i4 := hi b j hb hj
    have i5 := hi b k hb hk
    have i6 := hi j k hj hk
    by_cases c1 : b = j
    · rw [if_pos c1] at e
      by_cases c2 : b = k
      · omega
      · rw [if_neg c2] at e
        by_cases c3 : a = k
        · rw [if_pos c3] at e
          have := i1 e
          omega
        · rw [if_neg c3] at e
          exact absurd (i3 e) c3
    · rw [if_neg c1] at e
      by_cases c4 : a = j
      · rw [if_pos c4] at e
        by_cases c2 : b = k
        · rw [if_pos c2] at e
          have := i1 e.symm
          omega
        · rw [if_neg c2] at e
          by_cases c3 : a = k
          · omega
          · rw [if_neg c3] at e
            exact absurd (i5 e) c2
      · rw [if_neg c4] at e
        by_cases c2 : b = k
        · rw [if_pos c2] at e
          exact absurd (i2 e.symm) c4
        · rw [if_neg c2] at e
          by_cases c3 : a = k
          · rw [if_pos c3] at e
            exact absurd (i4 e.symm) c1
          · rw [if_neg c3] at e
            exact i6 e
theorem push_swap (o : List Int) (i k : Nat) (hk : k < i) (ho : inR i o) (hi : injR i o) : inR (i + 1) ((o ++ [rd o k]).set k (i : Int)) ∧ injR (i + 1) ((o ++ [rd o k]).set k (i : Int)) := by
  obtain ⟨p1, p2⟩ := push_self o i ho hi
  have e : ((o ++ [(i : Int)]).set k (rd (o ++ [(i : Int)]) i)).set i (rd (o ++ [(i : Int)]) k) = (o ++ [rd o k]).set k (i : Int) := by
    have last : rd (o ++ [(i : Int)]) (i : Int) = i := by
      rw [rd_lt _ _ (by simp [ho.1]), List.getElem_append_right (by rw [ho.1]; exact Nat.le_refl _)]
      simp
    have last' : ∀ v : Int, rd (o ++ [v]) (i : Int) = v := by
      intro v
      rw [rd_lt _ _ (by simp [ho.1]), List.getElem_append_right (by rw [ho.1]; exact Nat.le_refl _)]
      simp
    refine list_ext _ _ (by simp) fun j hj => ?_
    have hj' : j < i + 1 := by simp [ho.1] at hj; omega
    have l1 : (o ++ [(i : Int)]).length = i + 1 := by simp [ho.1]
    have l2 : (o ++ [rd o k]).length = i + 1 := by simp [ho.1]
    rw [last, rd_app_lt o _ k (by rw [ho.1]; exact hk)]
    by_cases e1 : i = j
    · subst e1
      rw [rd_set_self _ _ _ (by simp [ho.1]), rd_set_ne _ _ _ _ (by omega), last']
    · rw [rd_set_ne _ _ _ _ e1]
      by_cases e2 : k = j
      · subst e2
        rw [rd_set_self _ _ _ (by omega), rd_set_self _ _ _ (by omega)]
      · rw [rd_set_ne _ _ _ _ e2, rd_set_ne _ _ _ _ e2, rd_app_lt _ _ _ (by rw [ho.1]; omega), rd_app_lt _ _ _ (by rw [ho.1]; omega)]
  have := set_perm (o ++ [(i : Int)]) (i + 1) k i p1 p2 (by omega) (by omega)
  rwa [e] at this
theorem perm_run (l : List Int) (h : bytesOk l) (n : Nat) (hn : n ≤ 100) : ∀ (d i : Nat) (o : List Int) (p : Int), n - i = d → i ≤ n → inR i o → injR i o → 0 ≤ p → p + d ≤ 1000 → ∃ (o' : List Int), Ev (fun k => spec_l91Perm.l0 k n o i l p) (o', p + d) ∧ inR n o' ∧ injR n o'
  | 0, i, o, p, hd, hi, ho, hoi, hp, hp' => by
    have : i = n := by omega
    subst this
    refine ⟨o, Ev.s ?_, ho, hoi⟩
    simp only [spec_l91Perm.l0, show ¬ (i : Int) < (i : Int) by omega, if_false]
    exact Ev.const (by simp)
  | d + 1, i, o, p, hd, hi, ho, hoi, hp, hp' => by
    obtain ⟨v, hv, v0, v1⟩ := pick_ev l h p hp (by omega) ((i + 1 : Nat) : Int) (by omega) (by omega)
    have w1 : i < 4611686018427387904 := by omega
    have w2 : o.length < 17592186044416 := by rw [ho.1]; omega
    have w3 : o.length = i := ho.1
    by_cases e : v = (i : Int)
    · obtain ⟨q1, q2⟩ := push_self o i ho hoi
      obtain ⟨o', r1, r2, r3⟩ := perm_run l h n hn d (i + 1) _ (p + 1) (by omega) (by omega) q1 q2 (by omega) (by omega)
      refine ⟨o', Ev.s ?_, r2, r3⟩
      simp only [spec_l91Perm.l0, show (i : Int) < (n : Int) by omega, if_true, w64n w1]
      refine Ev.bind hv ?_
      simp only [e, w2, if_true]
      rw [show p + ((d + 1 : Nat) : Int) = p + 1 + d by omega]
      exact r1
    · obtain ⟨q1, q2⟩ := push_swap o i v.toNat (by omega) ho hoi
      obtain ⟨o', r1, r2, r3⟩ := perm_run l h n hn d (i + 1) _ (p + 1) (by omega) (by omega) q1 q2 (by omega) (by omega)
      rw [show ((v.toNat : Nat) : Int) = v by omega] at r1
      have w4 : v < (i : Int) := by omega
      have w5 : v < ((o ++ [rd o v]).length : Int) := by simp [w3]; omega
      refine ⟨o', Ev.s ?_, r2, r3⟩
      simp only [spec_l91Perm.l0, show (i : Int) < (n : Int) by omega, if_true, w64n w1]
      refine Ev.bind hv ?_
      simp only [e, if_false, v0, w3, w4, w2, if_true, Option.bind_some, w5]
      rw [show p + ((d + 1 : Nat) : Int) = p + 1 + d by omega]
      rw [w3] at w2
      simp only [w2, if_true, w5]
      exact r1
theorem l91Perm_ev (l : List Int) (h : bytesOk l) (n : Nat) (hn : n ≤ 100) (p : Int) (hp : 0 ≤ p) (hp' : p ≤ 500) : ∃ (o : List Int), Ev (fun k => spec_l91Perm.f k l p n) (o, p + n) ∧ inR n o ∧ injR n o := by
  unfold spec_l91Perm.f
  have := perm_run l h n hn n 0 [] p (by omega) (by omega) ⟨rfl, fun i hi => by omega⟩ (fun i j hi _ _ => by omega) hp (by omega)
  exact this
def paired (n : Nat) (q g : List Int) (i : Nat) : Prop := inR n g ∧ ∀ j : Nat, 2 * j + 1 < i → rd g (rd q ((2 * j : Nat) : Int)) = rd q ((2 * j + 1 : Nat) : Int) ∧ rd g (rd q ((2 * j + 1 : Nat) : Int)) = rd q ((2 * j : Nat) : Int)
theorem toNat_eq {a b : Int} (ha : 0 ≤ a) (hb : 0 ≤ b) (h : a.toNat = b.toNat) : a = b := by omega
theorem pair_step (n : Nat) (q g : List Int) (hq : inR n q) (hqi : injR n q) (i : Nat) (hi : 2 * i + 1 < n) (h : paired n q g (2 * i)) :
    paired n q ((g.set (rd q ((2 * i : Nat) : Int)).toNat (rd q ((2 * i + 1 : Nat) : Int))).set (rd q ((2 * i + 1 : Nat) : Int)).toNat (rd q ((2 * i : Nat) : Int))) (2 * i + 2) := by
  have ra := hq.2 (2 * i) (by omega)
  have rb := hq.2 (2 * i + 1) (by omega)
  have ne : (rd q ((2 * i : Nat) : Int)).toNat ≠ (rd q ((2 * i + 1 : Nat) : Int)).toNat := by
    intro e
    have := hqi (2 * i) (2 * i + 1) (by omega) (by omega) (toNat_eq ra.1 rb.1 e)
    omega
  have val : ∀ x : Nat, x < n → rd ((g.set (rd q ((2 * i : Nat) : Int)).toNat (rd q ((2 * i + 1 : Nat) : Int))).set (rd q ((2 * i + 1 : Nat) : Int)).toNat (rd q ((2 * i : Nat) : Int))) (x : Int) = if (rd q ((2 * i + 1 : Nat) : Int)).toNat = x then rd q ((2 * i : Nat) : Int) else if (rd q ((2 * i : Nat) : Int)).toNat = x then rd q ((2 * i + 1 : Nat) : Int) else rd g x := by
    intro x hx
    by_cases e1 : (rd q ((2 * i + 1 : Nat) : Int)).toNat = x
    · rw [if_pos e1, ← e1, rd_set_self _ _ _ (by rw [List.length_set, h.1.1]; omega)]
    · rw [rd_set_ne _ _ _ _ e1, if_neg e1]
      by_cases e2 : (rd q ((2 * i : Nat) : Int)).toNat = x
      · rw [if_pos e2, ← e2, rd_set_self _ _ _ (by rw [h.1.1]; omega)]
      · rw [rd_set_ne _ _ _ _ e2, if_neg e2]
  refine ⟨⟨by simp [h.1.1], fun x hx => ?_⟩, fun j hj => ?_⟩
  · rw [val x hx]
    have := h.1.2 x hx
    split
    · exact ra
    · split
      · exact rb
      · exact this
  · have sa := hq.2 (2 * j) (by omega)
    have sb := hq.2 (2 * j + 1) (by omega)
    have ea : (((rd q ((2 * j : Nat) : Int)).toNat : Nat) : Int) = rd q ((2 * j : Nat) : Int) := by omega
    have eb : (((rd q ((2 * j + 1 : Nat) : Int)).toNat : Nat) : Int) = rd q ((2 * j + 1 : Nat) : Int) := by omega
    rw [← ea, ← eb, val _ (by omega), val _ (by omega), ea, eb]
    by_cases z : j = i
    · subst z
      rw [if_neg (fun e => ne e.symm), if_pos rfl, if_pos rfl]
      exact ⟨rfl, rfl⟩
    · have old := h.2 j (by omega)
      have n1 : (rd q ((2 * i + 1 : Nat) : Int)).toNat ≠ (rd q ((2 * j : Nat) : Int)).toNat := fun e => by
        have := hqi (2 * i + 1) (2 * j) (by omega) (by omega) (toNat_eq rb.1 sa.1 e)
        omega
      have n2 : (rd q ((2 * i : Nat) : Int)).toNat ≠ (rd q ((2 * j : Nat) : Int)).toNat := fun e => by
        have := hqi (2 * i) (2 * j) (by omega) (by omega) (toNat_eq ra.1 sa.1 e)
        omega
      have n3 : (rd q ((2 * i + 1 : Nat) : Int)).toNat ≠ (rd q ((2 * j + 1 : Nat) : Int)).toNat := fun e => by
        have := hqi (2 * i + 1) (2 * j + 1) (by omega) (by omega) (toNat_eq rb.1 sb.1 e)
        omega
      have n4 : (rd q ((2 * i : Nat) : Int)).toNat ≠ (rd q ((2 * j + 1 : Nat) : Int)).toNat := fun e => by
        have := hqi (2 * i) (2 * j + 1) (by omega) (by omega) (toNat_eq ra.1 sb.1 e)
        omega
      rw [if_neg n1, if_neg n2, if_neg n3, if_neg n4]
      exact old
theorem paired_flip (n m : Nat) (hm : n = 2 * m) (q g : List Int) (hq : inR n q) (hqi : injR n q) (h : paired n q g n) : ∀ d : Nat, d < n → flipAt g d := by
  intro d hd
  obtain ⟨j, hj, e⟩ := surj q n hq hqi d hd
  have rep : ∃ i, (j = 2 * i ∨ j = 2 * i + 1) ∧ 2 * i + 1 < n := by
    refine ⟨j / 2, by omega, by omega⟩
  obtain ⟨i, hj', hi⟩ := rep
  have o := h.2 i hi
  have ne : rd q ((2 * i : Nat) : Int) ≠ rd q ((2 * i + 1 : Nat) : Int) := by
    intro e
    have := hqi (2 * i) (2 * i + 1) (by omega) (by omega) e
    omega
  rcases hj' with rfl | rfl
  · rw [e] at o ne
    unfold flipAt
    rw [o.1]
    exact ⟨fun z => ne z.symm, o.2⟩
  · rw [e] at o ne
    unfold flipAt
    rw [o.2]
    exact ⟨ne, o.1⟩
def drewMap (F : Nat → Option (List Int × List Int × Int)) (p : Int) : Prop := ∃ (t f : List Int) (p' : Int), Ev F (t, f, p') ∧ t.length ≤ 12 ∧ f.length ≤ 12 ∧ 0 ≤ p' ∧ p' ≤ p + 1
theorem map_end (l : List Int) (h : bytesOk l) (n : Nat) (h1 : 1 ≤ n) (hn : n ≤ 12) (i : Int) (p : Int) (hp : 0 ≤ p) (hp' : p ≤ 500) (t f : List Int) (ht : t.length = n) (hf : f.length = n) : drewMap (fun k => spec_l91Map.j2 k n i false l p t f) p := by
  obtain ⟨v, hv, v0, v1⟩ := pick_ev l h p hp (by omega) 50 (by omega) (by omega)
  have g1 : (0 : Int) < (f.length : Int) := by omega
  have g2 : (1 : Int) ≤ (t.length : Int) := by omega
  have g3 : (0 : Int) < (t.length : Int) := by omega
  by_cases c0 : v = 0
  · refine ⟨t, f.set 0 0, p + 1, Ev.s ?_, by omega, by simp; omega, by omega, by omega⟩
    simp only [spec_l91Map.j2, Bool.false_eq_true, if_false]
    refine Ev.bind hv ?_
    simp only [c0, g1, if_true]
    exact Ev.const rfl
  · by_cases c1 : v = 1
    · refine ⟨t.drop 1, f, p + 1, Ev.s ?_, by simp; omega, by omega, by omega, by omega⟩
      simp only [spec_l91Map.j2, Bool.false_eq_true, if_false]
      refine Ev.bind hv ?_
      simp only [c0, c1, g2, show ¬ (1 : Int) = 0 by decide, if_true, if_false]
      exact Ev.const rfl
    · by_cases c2 : v = 2
      · refine ⟨t.set 0 n, f, p + 1, Ev.s ?_, by simp; omega, by omega, by omega, by omega⟩
        simp only [spec_l91Map.j2, Bool.false_eq_true, if_false]
        refine Ev.bind hv ?_
        simp only [c2, g3, show ¬ (2 : Int) = 0 by decide, show ¬ (2 : Int) = 1 by decide, if_true, if_false]
        exact Ev.const rfl
      · refine ⟨t, f, p + 1, Ev.s ?_, by omega, by omega, by omega, by omega⟩
        simp only [spec_l91Map.j2, Bool.false_eq_true, if_false]
        refine Ev.bind hv ?_
        simp only [c0, c1, c2, if_false]
        exact Ev.const rfl
theorem map_find (n : Nat) (hn : n ≤ 12) (o : List Int) (ho : o.length = n) (i : Int) (l : List Int) (p : Int) (t f : List Int) (ht : t.length = n) (z : Nat) (hz : z < n) (hz0 : rd o z ≠ 0) (hz1 : ∀ y : Nat, y < z → rd o y = 0) (r : List Int × List Int × Int)
    (h : Ev (fun k => spec_l91Map.l1 k n (wrap64 (i + 1)) l p ((t.set 0 (rd t (z : Int))).set z (rd t 0)) f) r) : ∀ (d y : Nat), z - y = d → y ≤ z → Ev (fun k => spec_l91Map.l2 k n i o y l p t f) r
  | 0, y, hd, hy => by
    have : y = z := by omega
    subst this
    refine Ev.s ?_
    simp only [spec_l91Map.l2, ho, ht, show (0 : Int) ≤ (y : Int) by omega, show (y : Int) < (n : Int) by omega, hz0, show (0 : Int) < (n : Int) by omega, if_true, if_false, Int.toNat_natCast]
    exact h
  | d + 1, y, hd, hy => by
    refine Ev.s ?_
    simp only [spec_l91Map.l2, ho, show (0 : Int) ≤ (y : Int) by omega, show (y : Int) < (n : Int) by omega, hz1 y (by omega), if_true, w64n (show y < 4611686018427387904 by omega)]
    exact map_find n hn o ho i l p t f ht z hz hz0 hz1 r h d (y + 1) (by omega) (by omega)
theorem map_loop (l : List Int) (h : bytesOk l) (n : Nat) (h1 : 1 ≤ n) (hn : n ≤ 12) (f : List Int) (hf : inR n f) (hfl : ∀ d : Nat, d < n → flipAt f d) (p : Int) (hp : 0 ≤ p) (hp' : p ≤ 500) : ∀ (d i : Nat) (t : List Int), n - i = d → i ≤ n → inR n t → injR n t → drewMap (fun k => spec_l91Map.l1 k n i l p t f) p
  | 0, i, t, hd, hi, ht, hti => by
    have : i = n := by omega
    subst this
    obtain ⟨a, b, c, e1, e2⟩ := map_end l h i h1 hn i p hp hp' t f ht.1 hf.1
    refine ⟨a, b, c, Ev.s ?_, e2⟩
    simp only [spec_l91Map.l1, show ¬ (i : Int) < (i : Int) by omega, if_false]
    exact e1
  | d + 1, i, t, hd, hi, ht, hti => by
    obtain ⟨b, b1, _, b3⟩ := mapValid_both t f (by rw [ht.1]; omega) (by rw [hf.1]; omega)
    cases b with
    | true =>
      obtain ⟨a, b', c, e1, e2⟩ := map_end l h n h1 hn i p hp hp' t f ht.1 hf.1
      refine ⟨a, b', c, Ev.s ?_, e2⟩
      simp only [spec_l91Map.l1, show (i : Int) < (n : Int) by omega, if_true]
      refine Ev.bind b1 ?_
      exact e1
    | false =>
      obtain ⟨o, o1, o2, _⟩ := orb_both t f n hn h1 ht hf
      have nz : ∃ z, z < n ∧ rd o (z : Int) ≠ 0 := by
        by_cases q : ∃ z, z < n ∧ rd o ((z : Nat) : Int) ≠ 0
        · exact q
        · exfalso
          have all0 : ∀ q : Nat, q < n → rd o q = 0 := fun z hz => by
            by_cases e : rd o (z : Int) = 0
            · exact e
            · exact absurd ⟨z, hz, e⟩ q
          have hc := (orb_zero t f n h1 ht hf o o1).1 all0
          have hm : isMap t f := isMap_of ⟨hn, h1, ht, hti, hf, hfl, hc⟩
          have := b3.2 hm
          cases this
      have least : ∃ z, z < n ∧ rd o (z : Int) ≠ 0 ∧ ∀ y : Nat, y < z → rd o y = 0 := by
        obtain ⟨z, hz, hz0⟩ := nz
        induction z using Nat.strongRecOn with
        | ind z ih =>
          by_cases q : ∃ y, y < z ∧ rd o ((y : Nat) : Int) ≠ 0
          · obtain ⟨y, y1, y2⟩ := q
            exact ih y y1 (by omega) y2
          · exact ⟨z, hz, hz0, fun y hy => by
              by_cases e : rd o (y : Int) = 0
              · exact e
              · exact absurd ⟨y, hy, e⟩ q⟩
      obtain ⟨z, hz, hz0, hz1⟩ := least
      obtain ⟨q1, q2⟩ := set_perm t n 0 z ht hti (by omega) hz
      obtain ⟨a, b', c, e1, e2⟩ := map_loop l h n h1 hn f hf hfl p hp hp' d (i + 1) _ (by omega) (by omega) q1 q2
      refine ⟨a, b', c, Ev.s ?_, e2⟩
      simp only [spec_l91Map.l1, show (i : Int) < (n : Int) by omega, if_true]
      refine Ev.bind b1 ?_
      refine Ev.s ?_
      simp only [spec_l91Map.j2, Bool.not_false, if_true]
      refine Ev.bind o2 ?_
      refine map_find n hn o o1.1.1 i l p t f ht.1 z hz hz0 hz1 _ ?_ z 0 (by omega) (by omega)
      rw [w64n (by omega)]
      exact e1
theorem map_pairs (l : List Int) (h : bytesOk l) (n m : Nat) (hm : n = 2 * m) (h1 : 1 ≤ m) (hn : n ≤ 12) (q : List Int) (hq : inR n q) (hqi : injR n q) (p : Int) (hp : 0 ≤ p) (hp' : p ≤ 400) : ∀ (d i : Nat) (g : List Int), m - i = d → i ≤ m → paired n q g (2 * i) → ∃ (t f : List Int) (p' : Int), Ev (fun k => spec_l91Map.l0 k n q g ((2 * i : Nat) : Int) l p) (t, f, p') ∧ t.length ≤ 12 ∧ f.length ≤ 12 ∧ 0 ≤ p' ∧ p' ≤ p + 13
  | 0, i, g, hd, hi, hg => by
    have : i = m := by omega
    subst this
    rw [← hm] at hg
    obtain ⟨t, t1, t2, t3⟩ := l91Perm_ev l h n (by omega) p hp (by omega)
    obtain ⟨a, b, c, e1, e2, e3, e4, e5⟩ := map_loop l h n (by omega) hn g hg.1 (paired_flip n i hm q g hq hqi hg) (p + n) (by omega) (by omega) n 0 t (by omega) (by omega) t2 t3
    refine ⟨a, b, c, Ev.s ?_, e2, e3, e4, by omega⟩
    have w : i < 1000 := by omega
    simp only [spec_l91Map.l0, w64n (show 2 * i < 4611686018427387904 by omega), show ¬ ((2 * i + 1 : Nat) : Int) < (n : Int) by omega, if_false]
    exact Ev.bind t1 e1
  | d + 1, i, g, hd, hi, hg => by
    have ra := hq.2 (2 * i) (by omega)
    have rb := hq.2 (2 * i + 1) (by omega)
    obtain ⟨a, b, c, e1, e2⟩ := map_pairs l h n m hm h1 hn q hq hqi p hp hp' d (i + 1) _ (by omega) (by omega) (pair_step n q g hq hqi i (by omega) hg)
    refine ⟨a, b, c, Ev.s ?_, e2⟩
    have w2 : wrap64 (((2 * i : Nat) : Int) + 2) = ((2 * (i + 1) : Nat) : Int) := by rw [w64 (by omega) (by omega)]; omega
    simp only [spec_l91Map.l0, w64n (show 2 * i < 4611686018427387904 by omega), show ((2 * i + 1 : Nat) : Int) < (n : Int) by omega, show (0 : Int) ≤ ((2 * i : Nat) : Int) by omega, show (0 : Int) ≤ ((2 * i + 1 : Nat) : Int) by omega, hq.1, show ((2 * i : Nat) : Int) < (n : Int) by omega, hg.1.1, ra.1, ra.2, rb.1, rb.2, if_true, w2]
    exact e1
theorem l91Map_at (l : List Int) (h : bytesOk l) (p : Int) (hp : 0 ≤ p) (hp' : p ≤ 200) (edges : Nat) (h1 : 1 ≤ edges) (h6 : edges ≤ 6) : ∃ (t f : List Int) (p' : Int), Ev (fun k => spec_l91Map.f k l p edges) (t, f, p') ∧ t.length ≤ 12 ∧ f.length ≤ 12 ∧ 0 ≤ p' ∧ p' ≤ p + 100 := by
  obtain ⟨v, hv, v0, v1⟩ := pick_ev l h p hp (by omega) (edges : Int) (by omega) (by omega)
  obtain ⟨V, rfl⟩ : ∃ V : Nat, v = (V : Int) := ⟨v.toNat, by omega⟩
  obtain ⟨q, q1, q2, q3⟩ := l91Perm_ev l h (2 * (1 + V)) (by omega) (p + 1) (by omega) (by omega)
  have rep : paired (2 * (1 + V)) q (List.replicate (2 * (1 + V)) 0) (2 * 0) := by
    refine ⟨⟨by simp, fun i hi => ?_⟩, fun j hj => by omega⟩
    rw [rd_lt _ _ (by simpa using hi)]
    simp
    omega
  obtain ⟨a, b, c, e1, e2, e3, e4, e5⟩ := map_pairs l h (2 * (1 + V)) (1 + V) rfl (by omega) (by omega) q q2 q3 (p + 1 + ((2 * (1 + V) : Nat) : Int)) (by omega) (by omega) (1 + V) 0 _ (by omega) (by omega) rep
  refine ⟨a, b, c, ?_, e2, e3, e4, by omega⟩
  unfold spec_l91Map.f
  refine Ev.bind hv ?_
  have w1 : wrap64 (1 + (V : Int)) = ((1 + V : Nat) : Int) := by rw [w64 (by omega) (by omega)]; omega
  have w2 : wrap64 (2 * ((1 + V : Nat) : Int)) = ((2 * (1 + V) : Nat) : Int) := by rw [w64 (by omega) (by omega)]; omega
  simp only [w1, w2]
  refine Ev.bind q1 ?_
  simp only [show (0 : Int) ≤ ((2 * (1 + V) : Nat) : Int) by omega, Int.toNat_natCast, show 2 * (1 + V) ≤ 35184372088832 by omega, if_true]
  exact e1
theorem l91Map_ev (l : List Int) (h : bytesOk l) (edges : Nat) (h1 : 1 ≤ edges) (h6 : edges ≤ 6) : ∃ (t f : List Int) (p' : Int), Ev (fun k => spec_l91Map.f k l 0 edges) (t, f, p') ∧ t.length ≤ 12 ∧ f.length ≤ 12 ∧ 0 ≤ p' ∧ p' ≤ 100 := by
  obtain ⟨t, f, p', h⟩ := l91Map_at l h 0 (by omega) (by omega) edges h1 h6
  exact ⟨t, f, p', by simpa using h⟩
end Go.Proofs.Ytggghijamfmenaa.PA

set_option linter.unusedVariables false
set_option linter.unusedSimpArgs false
namespace Go.Proofs.Ytggghijamfmenaa.Pure
open Go.RowKit Go.Proofs.Ytggghijamfmenaa.PA Go.Proofs.YtggghijamfmenaaW.PrintWords Go.Proofs.YtggghijamfmenaaW.PrintLast Go.Proofs.YtggghijamfmenaaW.PrintMore
def sm : List Int → Int
  | [] => 0
  | x :: l => x + sm l
theorem sm_perm {a b : List Int} (h : a.Perm b) : sm a = sm b := by
  induction h with
  | nil => rfl
  | cons x _ ih => simp only [sm, ih]
  | swap x y l => simp only [sm]; omega
  | trans _ _ h1 h2 => exact h1.trans h2
theorem sm_app : ∀ (a b : List Int), sm (a ++ b) = sm a + sm b
  | [], b => by simp [sm]
  | x :: a, b => by simp only [List.cons_append, sm, sm_app a b]; omega
theorem sm_bound : ∀ (l : List Int), (∀ x ∈ l, 0 ≤ x ∧ x ≤ 12) → 0 ≤ sm l ∧ sm l ≤ 12 * (l.length : Int)
  | [], _ => by simp [sm]
  | x :: l, h => by
    have ih := sm_bound l fun y hy => h y (by simp [hy])
    have hx := h x (by simp)
    simp only [sm, List.length_cons]
    omega
theorem sumOf_run (l : List Int) (hl : l.length ≤ 1000) (h : ∀ x ∈ l, 0 ≤ x ∧ x ≤ 12) : ∀ (d i : Nat), l.length - i = d → i ≤ l.length → Ev (fun k => laws_sumOf.l0 k l (sm (l.take i)) (i : Int)) (sm l)
  | 0, i, hd, hi => by
    have e : i = l.length := by omega
    subst e
    rw [List.take_length]
    refine Ev.s ?_
    simp only [laws_sumOf.l0, show ¬ (l.length : Int) < (l.length : Int) by omega, if_false]
    exact Ev.const rfl
  | d + 1, i, hd, hi => by
    have hlt : i < l.length := by omega
    have ih := sumOf_run l hl h d (i + 1) (by omega) (by omega)
    have b := sm_bound (l.take i) fun x hx => h x (List.mem_of_mem_take hx)
    have hb := h l[i] (List.getElem_mem hlt)
    have ht : (l.take i).length = i := by simp; omega
    rw [ht] at b
    rw [List.take_succ_eq_append_getElem hlt, sm_app] at ih
    simp only [sm] at ih
    refine Ev.s ?_
    simp only [laws_sumOf.l0, show (i : Int) < (l.length : Int) by omega, show (0 : Int) ≤ (i : Int) by omega, if_true, w64n (show i < 4611686018427387904 by omega)]
    rw [rd_lt l i hlt, w64 (x := sm (l.take i) + l[i]) (by omega) (by omega)]
    rw [show sm (l.take i) + (l[i] + 0) = sm (l.take i) + l[i] by omega] at ih
    exact ih
theorem sumOf_ev (l : List Int) (hl : l.length ≤ 1000) (h : ∀ x ∈ l, 0 ≤ x ∧ x ≤ 12) : Ev (fun k => laws_sumOf.f k l) (sm l) := by
  unfold laws_sumOf.f
  exact sumOf_run l hl h l.length 0 (by omega) (by omega)
theorem cw_sum (p : List Int) (n : Nat) (hp : inR n p) : ∀ (f : Nat) (s : List Bool) (c : List Int) (a : Int), s.length = n → 0 ≤ a → a < n → (cw p f s c a).2.length + fresh (cw p f s c a).1 = c.length + fresh s
  | 0, s, c, a, hs, h0, h1 => rfl
  | f + 1, s, c, a, hs, h0, h1 => by
    simp only [cw]
    by_cases e : rdOf false s a = true
    · simp only [e, if_true]
    · simp only [e, Bool.false_eq_true, if_false]
      have h3 : s.getD a.toNat false = false := by rw [← rdOf_nat s a h0]; simpa using e
      have h4 := fresh_set s a.toNat (by omega) h3
      have h5 := hp.2 a.toNat (by omega)
      rw [show ((a.toNat : Nat) : Int) = a by omega] at h5
      have ih := cw_sum p n hp f (s.set a.toNat true) (c ++ [a]) (rd p a) (by simpa using hs) h5.1 h5.2
      rw [List.length_append, List.length_singleton] at ih
      omega
theorem cyS_sum (p : List Int) (n : Nat) (hp : inR n p) : ∀ i, i ≤ n → sm (lensL (cyS p n i).2) + (fresh (cyS p n i).1 : Int) = n
  | 0, _ => by
    have : (List.replicate n false).countP (fun b => !b) = n := by rw [List.countP_replicate]; simp
    simp [cyS, lensL, sm, fresh, this]
  | i + 1, hi => by
    have ih := cyS_sum p n hp i (by omega)
    have hb := cw_sum p n hp (n + 1) (cyS p n i).1 [] i (cyS_len p n i) (by omega) (by omega)
    rw [List.length_nil, Nat.zero_add] at hb
    simp only [cyS]
    by_cases e : (cw p (n + 1) (cyS p n i).1 [] (i : Int)).2 = []
    · rw [if_pos e]
      rw [e, List.length_nil] at hb
      omega
    · rw [if_neg e]
      unfold lensL at ih ⊢
      rw [List.map_append, sm_app]
      simp only [List.map_cons, List.map_nil, sm]
      omega
theorem lens_sum (p : List Int) (n : Nat) (hp : inR n p) (hi : injR n p) : sm (lensL (cyS p n n).2) = n := by
  have h := cyS_sum p n hp n (Nat.le_refl _)
  have hl := cyS_len p n n
  have hf : fresh (cyS p n n).1 = 0 := by
    unfold fresh
    rw [List.countP_eq_zero]
    intro b hb
    obtain ⟨i, hi', rfl⟩ := List.mem_iff_getElem.1 hb
    have := (cyS_seen p n hp hi n (Nat.le_refl _) i (by omega)).2 ⟨i, by omega, Reach.refl _ _ _⟩
    rw [List.getD_eq_getElem?_getD, List.getElem?_eq_getElem hi', Option.getD_some] at this
    rw [this]
    decide
  omega
theorem type_told (p : List Int) (n : Nat) (hn : n ≤ 12) (hp : inR n p) (hi : injR n p) : (tlL (cyS p n n).2 n).length = (cyS p n n).2.length ∧ Ev (fun k => laws_sumOf.f k (tlL (cyS p n n).2 n)) (n : Int) := by
  have hCb := cyS_bound p n hp n (Nat.le_refl _)
  have hCm := cyS_many p n n
  have hpm := tlL_perm (cyS p n n).2 n hCb
  have hlen : (tlL (cyS p n n).2 n).length = (cyS p n n).2.length := by rw [hpm.length_eq]; simp [lensL]
  refine ⟨hlen, ?_⟩
  have := sumOf_ev (tlL (cyS p n n).2 n) (by omega) fun x hx => by
    obtain ⟨l, _, h1, h2, e⟩ := (tlL_mem _ x n).1 hx
    omega
  rwa [sm_perm hpm, lens_sum p n hp hi] at this
theorem mulL_faces (t f : List Int) (n : Nat) : mulL f t n = faces t f n := by
  refine list_ext _ _ (by rw [mulL_length, faces_len]) fun i hi => ?_
  rw [mulL_length] at hi
  rw [mulL_rd f t n i hi, faces_rd t f n i hi]
theorem degrees_ev (t f : List Int) (n : Nat) (H : MapOk t f n) : Ev (fun k => impl_MapDegrees.f k t f) (tlL (cyS t n n).2 n, true) ∧ Ev (fun k => spec_MapDegrees.f k t f) (tlL (cyS t n n).2 n, true) := by
  have hm := isMap_of H
  obtain ⟨hn, h1, ht, hti, hf, hfl, hcon⟩ := id H
  have htl := ht.1
  have hfl' := hf.1
  obtain ⟨b, b1, b2, b3⟩ := mapValid_both t f (by omega) (by omega)
  have hb : b = true := b3.2 hm
  subst hb
  constructor
  · unfold impl_MapDegrees.f
    refine Ev.bind b2 ?_
    simp only [if_true]
    exact Ev.bind (typeOf_ev t n hn h1 ht) (Ev.const rfl)
  · unfold spec_MapDegrees.f
    refine Ev.bind b1 ?_
    simp only [if_true]
    exact Ev.bind (l1Type_ev t n hn ht) (Ev.const rfl)
theorem r3 (a b c : Int) : rd [a, b, c] 0 = a ∧ rd [a, b, c] 1 = b ∧ rd [a, b, c] 2 = c ∧ ([a, b, c] : List Int).length = 3 := ⟨rfl, rfl, rfl, rfl⟩
theorem FnDegrees : laws_FnDegrees.Pure := by
  intro l hl _ hb
  by_cases c0 : (l.length : Int) > 1048576
  · exact ⟨0, by unfold laws_FnDegrees.f; rw [if_pos c0]⟩
  obtain ⟨l', e0, hbytes⟩ := open_ev l hb
  obtain ⟨t, f, p, d1, d2, d3, _, _⟩ := l91Map_ev l' hbytes 5 (by omega) (by omega)
  have hdraw : Ev (fun k => spec_DrawMapDegrees.f k l) (t, f) := by
    unfold spec_DrawMapDegrees.f
    simp only [e0, Option.bind_some]
    exact Ev.bind d1 (Ev.const rfl)
  refine Ev.rounds (r := true) ?_
  unfold laws_FnDegrees.f
  simp only [c0, if_false]
  refine Ev.bind hdraw ?_
  obtain ⟨b, b1, b2, b3⟩ := mapValid_both t f (by omega) (by omega)
  cases b with
  | false =>
    have i1 : Ev (fun k => impl_MapDegrees.f k t f) ([], false) := by
      unfold impl_MapDegrees.f
      refine Ev.bind b2 ?_
      simp only [Bool.false_eq_true, if_false]
      exact Ev.const rfl
    have s1 : Ev (fun k => spec_MapDegrees.f k t f) ([], false) := by
      unfold spec_MapDegrees.f
      refine Ev.bind b1 ?_
      simp only [Bool.false_eq_true, if_false]
      exact Ev.const rfl
    have hs := sameInts_same [] (by simp)
    refine Ev.bind i1 ?_
    refine Ev.bind s1 ?_
    simp only [bne_self_eq_false, Bool.false_eq_true, if_false]
    refine Ev.bind hs ?_
    simp only [if_true]
    refine Ev.s ?_
    simp only [laws_FnDegrees.j0, Bool.not_false, if_true, beq_self_eq_true]
    exact Ev.bind hs (Ev.const rfl)
  | true =>
    have hm := b3.1 rfl
    have H := mapOk_of t f hm
    obtain ⟨hn, h1, ht, hti, hf, hfl, hcon⟩ := id H
    have hD := dual_ok H
    have hFi := faces_inR t f t.length ht hf
    have hFj := faces_inj t f t.length ht hti hf hfl
    obtain ⟨i1, s1⟩ := degrees_ev t f t.length H
    obtain ⟨i2, _⟩ := degrees_ev (faces t f t.length) f t.length hD
    obtain ⟨z1, z2⟩ := type_told t t.length hn ht hti
    obtain ⟨z3, z4⟩ := type_told (faces t f t.length) t.length hn hFi hFj
    have hCm := cyS_many t t.length t.length
    have heven := kE_half f t.length hf hfl
    have hfn := hf.1
    have hs := sameInts_same (tlL (cyS t t.length t.length).2 t.length) (by omega)
    have hc : slices_Clone_int_int.f f = some f := by
      unfold slices_Clone_int_int.f
      rw [if_pos (by omega)]
    have hmul : Ev (fun k => impl_mul.f k f t) (faces t f t.length) := by
      have := implMul_ev t.length (by omega) f t hf ht
      rwa [mulL_faces] at this
    have cnt : Ev (fun k => impl_MapCounts.f k t f) ([((cyS t t.length t.length).2.length : Int), wrap64 ((f.length : Int) / 2), ((cyS (faces t f t.length) t.length t.length).2.length : Int)], true) := by
      unfold impl_MapCounts.f
      refine Ev.bind b2 ?_
      simp only [if_true]
      refine Ev.bind (implCyc_ev t t.length (by omega) ht) ?_
      refine Ev.bind hmul ?_
      exact Ev.bind (implCyc_ev _ t.length (by omega) hFi) (Ev.const rfl)
    have dual : Ev (fun k => impl_MapDual.f k t f) (faces t f t.length, f, true) := by
      unfold impl_MapDual.f
      refine Ev.bind b2 ?_
      simp only [if_true]
      refine Ev.bind hmul ?_
      simp only [hc, Option.bind_some]
      exact Ev.const rfl
    refine Ev.bind i1 ?_
    refine Ev.bind s1 ?_
    simp only [bne_self_eq_false, Bool.false_eq_true, if_false]
    refine Ev.bind hs ?_
    simp only [if_true, Bool.not_true]
    refine Ev.s ?_
    simp only [laws_FnDegrees.j0, Bool.false_eq_true, if_false]
    refine Ev.bind cnt ?_
    refine Ev.bind dual ?_
    refine Ev.bind i2 ?_
    have w2 : wrap64 ((f.length : Int) / 2) = (f.length : Int) / 2 := w64 (by omega) (by omega)
    have w3 : wrap64 (2 * ((f.length : Int) / 2)) = (t.length : Int) := by rw [w64 (by omega) (by omega)]; omega
    simp only [if_true]
    refine Ev.bind z2 ?_
    simp only [w2, (r3 _ _ _).1, (r3 _ _ _).2.1, (r3 _ _ _).2.2.1, (r3 _ _ _).2.2.2, w3, z1, z3, show (0 : Int) < ((3 : Nat) : Int) by decide, show (1 : Int) < ((3 : Nat) : Int) by decide, show (2 : Int) < ((3 : Nat) : Int) by decide, if_true]
    refine Ev.bind z4 ?_
    exact Ev.const (by simp)
end Go.Proofs.Ytggghijamfmenaa.Pure

namespace Go.Proofs.Ytggghijamfmenaa.fnDegrees
open Go.ChangeShapes Go.WideShapes Go.ChangeAt Go.RowKit
open Go.ChangeMaps (open_string shut_string)
set_option linter.unusedVariables false
theorem own : ownKnob Try.prog.godebug = none := by kernel_rfl
theorem laidOut : laidOutB Try.prog = true := by kernel_rfl
def IsRow (k : IntKind) (w : World) (a : Option Addr) (len cap : Nat) (zs : List Int) : Prop :=
 (a = none ∧ len = 0 ∧ cap = 0 ∧ zs = []) ∨
 ∃ x, a = some x ∧ len ≤ cap ∧ cap ≤ maxLen ∧ zs.length = cap ∧ (∀ i, i < zs.length → w.cell? (x.add i) = some (.int k (zs.getD i 0))) ∧ ∀ n ∈ zs, (Lit.int k n).wf = true
set_option maxRecDepth 100000 in
theorem lifted (os : Os) (started : os.Started) (H : Type) (enc : TypeId × Value → H) :
  ReturnsInHanded {} Try.checked os 6 .any (Rows.fnDegreesSpec.pre6 enc Try.prog Try.f6 Rows.fnDegreesRow.domain false) (Rows.fnDegreesSpec.post enc Try.prog Try.f6 false true false false) := by
 refine returnsInHanded_of_change_sized (C := Try.checked) own started (by kernel_rfl) Try.func6
  (ChangeSpec.witness6 (enc := enc) (C := Try.checked) false ⟨#[], #[.slice none 0 0], []⟩ 8 (by kernel_rfl) (by kernel_rfl) (by kernel_rfl) (by kernel_rfl)) ?_
 intro W base args ds gs before hval0 hW hcnd hsz0 _
 have hsz : (DataW.weightsEach Try.prog (Try.f6.params.toList ++ Rows.fnDegreesSpec.plain.varTypes Try.prog) (ds ++ gs)).all (· ≤ reachBytes) = true := hsz0
 have hval : ∀ (j : Nat) t v, Try.f6.params[j]? = some t → args[j]? = some v → Value.okWide Try.prog W .any base t v := hval0
 have hW' := hW
 obtain ⟨p, q, hA0, hV, rfl, hfz, hnd⟩ := hW
 have hA : DataW.TrodAll enc Try.prog W 0 (fun _ => true) true Try.f6.params.toList args.toList ds p := hA0
 rw [Try.params6] at hA hval hsz
 obtain ⟨v0, vs0, d0, ds0, p0, q0, hargs, rfl, rfl, h0, r0⟩ := trodAll_cons hA
 obtain ⟨rfl, rfl, rfl⟩ := trodAll_nil r0
 obtain rfl : args = #[v0] := by cases args; simp_all
 obtain ⟨rfl, rfl⟩ := trodVars_none hV
 obtain ⟨a0, len0, cap0, rfl⟩ := okWide_slice Try.underlying22 (hval 0 22 v0 rfl rfl)
 have k0 := h0
 have lt0 : ∀ x ∈ p0, x.block < W.heap.size := by obtain ⟨m, hm⟩ := k0; exact DataW.trod_lt m _ _ _ hm
 obtain ⟨z0, w0⟩ : ∃ zs, IsRow .u8 W a0 len0 cap0 zs := by
  obtain ⟨fuel, hf⟩ := h0
  rcases open_ints Try.underlying22 Try.underlying5 (by kernel_rfl) hf with ⟨hcs, _⟩ | ⟨x, l, c, zs, hcs, _, hl, hm, hz, _, hcell, hwz⟩
  ·
   simp [Value.cells] at hcs
   obtain ⟨rfl, rfl, rfl⟩ := hcs
   exact ⟨[], .inl ⟨rfl, rfl, rfl, rfl⟩⟩
  ·
   simp [Value.cells] at hcs
   obtain ⟨rfl, rfl, rfl⟩ := hcs
   exact ⟨zs, .inr ⟨_, rfl, hl, hm, by simpa using hz, hcell, hwz⟩⟩
 have y0 : len0 * 1 ≤ 140737488351232 := Go.Proofs.YtggghijamfmenaaW.PrintWords.sized_ints hsz (j := 0) (t := 22) rfl rfl Try.underlying22 Try.underlying5 (by kernel_rfl) (by kernel_rfl) h0
 clear hA0 hval0 hsz0 hsz
 refine (PA.laws_FnDegrees.walk Pure.FnDegrees a0 len0 cap0 z0 W w0 y0).mono fun e W' ⟨he, bel⟩ => ?_
 subst he
 exact ⟨_, rfl, _, _, _, [], _, [], hW', trodAll_mk1 (shut_bool Try.underlying4 _), (trodAll_cons_mk (Below.trod laidOut (by kernel_rfl) (of_decide_eq_true (by kernel_rfl)) k0 bel lt0) trodAll_mk0), rfl, bel.frame _, fun h => by cases h⟩
theorem over : Rows.fnDegreesRow.holds Try.pinned (OpenSpec.ofChange Rows.fnDegreesSpec) :=
 OpenClaim.holds_of_wide 6 Try.f6 rfl rfl rfl rfl rfl rfl rfl ⟨rfl, rfl, rfl, rfl, rfl⟩ rfl rfl rfl rfl rfl (by kernel_rfl) Try.func6 (by kernel_rfl)
  (of_decide_eq_true (by kernel_rfl)) (by unfold Func.isWrapper; first | (rw [if_pos (by decide +kernel)]; kernel_rfl) | (rw [if_neg (by decide +kernel)]; exact ⟨rfl, rfl⟩))
  (fun os started H enc _ => lifted os started H enc)
theorem proved : Rows.FnDegreesSaid := over
#print axioms proved
end Go.Proofs.Ytggghijamfmenaa.fnDegrees
namespace Go.Proofs.Ytggghijamfmenaa
theorem fnDegrees_holds : Rows.FnDegreesSaid := fnDegrees.proved
end Go.Proofs.Ytggghijamfmenaa
