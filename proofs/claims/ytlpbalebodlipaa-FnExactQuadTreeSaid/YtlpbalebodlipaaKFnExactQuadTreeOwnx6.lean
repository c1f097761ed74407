/- A part of the proof of FnExactQuadTree. There are no conditions. -/
import Derived.Test.YtlpbalebodlipaaKFnExactQuadTreeOwnx5
set_option linter.unusedVariables false
set_option linter.unusedSimpArgs false
namespace Go.Proofs.Ytlpbalebodlipaa.PL
open Go.RowKit Go.Proofs.YtlpbalebodlipaaW.PrintWords Go.Proofs.YtlpbalebodlipaaW.PrintLast Go.Proofs.YtlpbalebodlipaaW.PrintMore
theorem len_le_of_sub : ∀ (a b : List Nat), a.Nodup → (∀ x ∈ a, x ∈ b) → a.length ≤ b.length
  | [], b, _, _ => Nat.zero_le _
  | x :: a, b, hn, h => by
    have hx := h x (by simp)
    obtain ⟨hxa, hna⟩ := List.nodup_cons.1 hn
    have ih := len_le_of_sub a (b.erase x) hna fun y hy => (List.mem_erase_of_ne (by rintro rfl; exact hxa hy)).2 (h y (by simp [hy]))
    rw [List.length_erase_of_mem hx] at ih
    have := List.length_pos_of_mem hx
    simp only [List.length_cons]
    omega
def itr (t : List Int) : Nat → Int → Int
  | 0, x => x
  | k + 1, x => itr t k (rd t x)
theorem itr_in (t : List Int) (n : Nat) (ht : inR n t) : ∀ (k : Nat) (x : Int), 0 ≤ x ∧ x < n → 0 ≤ itr t k x ∧ itr t k x < n
  | 0, x, h => h
  | k + 1, x, h => by
    have := ht.2 x.toNat (by omega)
    rw [show ((x.toNat : Nat) : Int) = x by omega] at this
    exact itr_in t n ht k _ this
theorem itr_add (t : List Int) : ∀ (a b : Nat) (x : Int), itr t (a + b) x = itr t b (itr t a x)
  | 0, b, x => by rw [Nat.zero_add]; rfl
  | a + 1, b, x => by
    rw [show a + 1 + b = (a + b) + 1 by omega]
    exact itr_add t a b _
def injR (n : Nat) (t : List Int) : Prop := ∀ i j : Nat, i < n → j < n → rd t i = rd t j → i = j
theorem itr_inj (t : List Int) (n : Nat) (ht : inR n t) (hi : injR n t) : ∀ (k : Nat) (x y : Int), 0 ≤ x ∧ x < n → 0 ≤ y ∧ y < n → itr t k x = itr t k y → x = y
  | 0, x, y, _, _, h => h
  | k + 1, x, y, hx, hy, h => by
    have a1 := ht.2 x.toNat (by omega)
    have a2 := ht.2 y.toNat (by omega)
    have ex : ((x.toNat : Nat) : Int) = x := by omega
    have ey : ((y.toNat : Nat) : Int) = y := by omega
    rw [ex] at a1
    rw [ey] at a2
    have h1 := itr_inj t n ht hi k _ _ a1 a2 h
    have := hi x.toNat y.toNat (by omega) (by omega) (by rw [ex, ey]; exact h1)
    omega
theorem itr_back (t : List Int) (n : Nat) (ht : inR n t) (hi : injR n t) (x : Int) (hx : 0 ≤ x ∧ x < n) : ∃ k : Nat, k < n ∧ itr t (k + 1) x = x := by
  by_cases h : ∃ i j : Nat, i < j ∧ j ≤ n ∧ itr t i x = itr t j x
  · obtain ⟨i, j, h1, h2, h3⟩ := h
    refine ⟨j - i - 1, by omega, ?_⟩
    have e : itr t j x = itr t i (itr t (j - i - 1 + 1) x) := by rw [← itr_add, show j - i - 1 + 1 + i = j by omega]
    rw [e] at h3
    exact (itr_inj t n ht hi i _ _ hx (itr_in t n ht _ x hx) h3).symm
  · exfalso
    have h1 := len_le_of_sub ((List.range (n + 1)).map fun i => (itr t i x).toNat) (List.range n) ?_ ?_
    · rw [List.length_map, List.length_range, List.length_range] at h1
      omega
    · rw [List.Nodup, List.pairwise_map]
      refine List.Pairwise.imp_of_mem ?_ (List.pairwise_lt_range (n := n + 1))
      intro a b ha hb hab e
      have ia := itr_in t n ht a x hx
      have ib := itr_in t n ht b x hx
      exact h ⟨a, b, hab, by have := List.mem_range.1 hb; omega, by omega⟩
    · intro y hy
      obtain ⟨a, ha, rfl⟩ := List.mem_map.1 hy
      have ia := itr_in t n ht a x hx
      exact List.mem_range.2 (by omega)
def Cnt (n : Nat) (P : Nat → Prop) (k : Nat) : Prop := ∃ L : List Nat, L.Nodup ∧ (∀ x, x ∈ L ↔ x < n ∧ P x) ∧ L.length = k
theorem Cnt.ex (P : Nat → Prop) : ∀ n, ∃ k, Cnt n P k ∧ k ≤ n
  | 0 => ⟨0, ⟨[], List.nodup_nil, by simp, rfl⟩, Nat.le_refl _⟩
  | n + 1 => by
    obtain ⟨k, ⟨L, h1, h2, h3⟩, hk⟩ := Cnt.ex P n
    by_cases h : P n
    · refine ⟨k + 1, ⟨n :: L, List.nodup_cons.2 ⟨fun z => by have := ((h2 n).1 z).1; omega, h1⟩, fun x => ?_, by simp [h3]⟩, by omega⟩
      rw [List.mem_cons, h2]
      constructor
      · rintro (rfl | ⟨a, b⟩)
        · exact ⟨by omega, h⟩
        · exact ⟨by omega, b⟩
      · rintro ⟨a, b⟩
        by_cases e : x = n
        · exact .inl e
        · exact .inr ⟨by omega, b⟩
    · refine ⟨k, ⟨L, h1, fun x => ?_, h3⟩, by omega⟩
      rw [h2]
      constructor
      · rintro ⟨a, b⟩; exact ⟨by omega, b⟩
      · rintro ⟨a, b⟩
        by_cases e : x = n
        · exact absurd (e ▸ b) h
        · exact ⟨by omega, b⟩
theorem Cnt.le {n : Nat} {P Q : Nat → Prop} {k l : Nat} (hp : Cnt n P k) (hq : Cnt n Q l) (g : Nat → Nat) (hg : ∀ x, x < n → P x → g x < n ∧ Q (g x)) (hi : ∀ x y, x < n → P x → y < n → P y → g x = g y → x = y) : k ≤ l := by
  obtain ⟨L, h1, h2, rfl⟩ := hp
  obtain ⟨M, m1, m2, rfl⟩ := hq
  rw [← List.length_map (f := g)]
  refine len_le_of_sub _ _ ?_ ?_
  · rw [List.Nodup, List.pairwise_map]
    refine List.Pairwise.imp_of_mem ?_ h1
    intro a b ha hb hab e
    exact hab (hi a b ((h2 a).1 ha).1 ((h2 a).1 ha).2 ((h2 b).1 hb).1 ((h2 b).1 hb).2 e)
  · intro y hy
    obtain ⟨a, ha, rfl⟩ := List.mem_map.1 hy
    exact (m2 _).2 (hg a ((h2 a).1 ha).1 ((h2 a).1 ha).2)
theorem Cnt.sub {n : Nat} {P Q : Nat → Prop} {k l : Nat} (hp : Cnt n P k) (hq : Cnt n Q l) (h : ∀ x, x < n → P x → Q x) : k ≤ l :=
  hp.le hq (fun x => x) (fun x hx px => ⟨hx, h x hx px⟩) (fun _ _ _ _ _ _ e => e)
theorem Cnt.same {n : Nat} {P Q : Nat → Prop} {k l : Nat} (hp : Cnt n P k) (hq : Cnt n Q l) (h : ∀ x, x < n → (P x ↔ Q x)) : k = l :=
  Nat.le_antisymm (hp.sub hq fun x hx => (h x hx).1) (hq.sub hp fun x hx => (h x hx).2)
theorem Cnt.congr {n : Nat} {P Q : Nat → Prop} {k : Nat} (hp : Cnt n P k) (h : ∀ x, x < n → (P x ↔ Q x)) : Cnt n Q k := by
  obtain ⟨L, h1, h2, h3⟩ := hp
  exact ⟨L, h1, fun x => by rw [h2]; exact ⟨fun z => ⟨z.1, (h x z.1).1 z.2⟩, fun z => ⟨z.1, (h x z.1).2 z.2⟩⟩, h3⟩
theorem Cnt.reps {n : Nat} {P Q : Nat → Prop} {k l : Nat} (R : Nat → Nat → Prop) (hs : ∀ x y, R x y → R y x) (ht : ∀ x y z, R x y → R y z → R x z) (hp : Cnt n P k) (hq : Cnt n Q l)
    (h : ∀ x, x < n → P x → ∃ y, y < n ∧ Q y ∧ R x y) (hu : ∀ x y, x < n → P x → y < n → P y → R x y → x = y) : k ≤ l := by
  classical
  refine hp.le hq (fun x => if hx : x < n ∧ P x then Classical.choose (h x hx.1 hx.2) else 0) (fun x hx px => ?_) (fun x y hx px hy py e => ?_)
  · rw [dif_pos ⟨hx, px⟩]
    have := Classical.choose_spec (h x hx px)
    exact ⟨this.1, this.2.1⟩
  · rw [dif_pos ⟨hx, px⟩, dif_pos ⟨hy, py⟩] at e
    have h1 := (Classical.choose_spec (h x hx px)).2.2
    have h2 := (Classical.choose_spec (h y hy py)).2.2
    rw [e] at h1
    exact hu x y hx px hy py (ht _ _ _ h1 (hs _ _ h2))
theorem Cnt.drop {n : Nat} {P Q : Nat → Prop} {k : Nat} (hp : Cnt n P k) (z : Nat) (hz : z < n) (pz : P z) (h : ∀ x, x < n → (Q x ↔ P x ∧ x ≠ z)) : 1 ≤ k ∧ Cnt n Q (k - 1) := by
  obtain ⟨L, h1, h2, rfl⟩ := hp
  have hm : z ∈ L := (h2 z).2 ⟨hz, pz⟩
  have := List.length_pos_of_mem hm
  refine ⟨this, L.erase z, h1.erase z, fun x => ?_, List.length_erase_of_mem hm⟩
  rw [h1.mem_erase_iff, h2]
  constructor
  · rintro ⟨a, b, c⟩; exact ⟨b, (h x b).2 ⟨c, a⟩⟩
  · rintro ⟨a, b⟩; have := (h x a).1 b; exact ⟨this.2, a, this.1⟩
def lst (R : Nat → Nat → Prop) (j : Nat) : Prop := ∀ i, i < j → ¬ R i j
def Cl (n : Nat) (R : Nat → Nat → Prop) (k : Nat) : Prop := Cnt n (lst R) k
theorem lst_ex (R : Nat → Nat → Prop) (hr : ∀ x, R x x) (hs : ∀ x y, R x y → R y x) (ht : ∀ x y z, R x y → R y z → R x z) : ∀ x, ∃ y, y ≤ x ∧ lst R y ∧ R y x := by
  intro x
  induction x using Nat.strongRecOn with
  | ind x ih =>
    by_cases h : ∃ i, i < x ∧ R i x
    · obtain ⟨i, hi, hri⟩ := h
      obtain ⟨y, y1, y2, y3⟩ := ih i hi
      exact ⟨y, by omega, y2, ht _ _ _ y3 hri⟩
    · exact ⟨x, Nat.le_refl _, fun i hi hri => h ⟨i, hi, hri⟩, hr x⟩
theorem lst_uniq (R : Nat → Nat → Prop) (hs : ∀ x y, R x y → R y x) (x y : Nat) (hx : lst R x) (hy : lst R y) (h : R x y) : x = y := by
  by_cases h1 : x < y
  · exact absurd h (hy x h1)
  · by_cases h2 : y < x
    · exact absurd (hs _ _ h) (hx y h2)
    · omega
theorem Cl.merge {n : Nat} {R S : Nat → Nat → Prop} {k : Nat} (hr : ∀ x, R x x) (hs : ∀ x y, R x y → R y x) (ht : ∀ x y z, R x y → R y z → R x z) (hk : Cl n R k) (a b : Nat) (ha : a < n) (hb : b < n) (hab : ¬ R a b)
    (hS : ∀ x y, S x y ↔ R x y ∨ (R x a ∧ R b y) ∨ (R x b ∧ R a y)) : 1 ≤ k ∧ Cl n S (k - 1) := by
  obtain ⟨p, p1, p2, p3⟩ := lst_ex R hr hs ht a
  obtain ⟨q, q1, q2, q3⟩ := lst_ex R hr hs ht b
  have hpq : p ≠ q := by rintro rfl; exact hab (ht _ _ _ (hs _ _ p3) q3)
  have key : ∀ (p q a b : Nat), p < q → lst R p → lst R q → R p a → R q b → q < n → ¬ R a b → (∀ x y, S x y ↔ R x y ∨ (R x a ∧ R b y) ∨ (R x b ∧ R a y)) → 1 ≤ k ∧ Cl n S (k - 1) := by
    intro p q a b hlt p2 q2 p3 q3 hq hab hS
    refine Cnt.drop hk q hq q2 fun x hx => ⟨fun h => ⟨fun i hi z => h i hi ((hS _ _).2 (.inl z)), ?_⟩, fun ⟨h1, h2⟩ i hi z => ?_⟩
    · rintro rfl
      exact h p hlt ((hS _ _).2 (.inr (.inl ⟨p3, hs _ _ q3⟩)))
    · rcases (hS _ _).1 z with z | ⟨z1, z2⟩ | ⟨z1, z2⟩
      · exact h1 i hi z
      · exact h2 (lst_uniq R hs x q h1 q2 (ht _ _ _ (hs _ _ z2) (hs _ _ q3)))
      · have e := lst_uniq R hs x p h1 p2 (ht _ _ _ (hs _ _ z2) (hs _ _ p3))
        subst e
        exact q2 i (by omega) (ht _ _ _ z1 (hs _ _ q3))
  rcases Nat.lt_or_gt_of_ne hpq with h | h
  · exact key p q a b h p2 q2 p3 q3 (by omega) hab hS
  · exact key q p b a h q2 p2 q3 p3 (by omega) (fun z => hab (hs _ _ z)) (fun x y => by rw [hS]; exact ⟨fun z => z.elim .inl (fun z => .inr (z.elim .inr .inl)), fun z => z.elim .inl (fun z => .inr (z.elim .inr .inl))⟩)
theorem closed_of_fwd (p : List Int) (n : Nat) (hp : inR n p) (hi : injR n p) (S : Nat → Prop) (h : ∀ k, k < n → S k → S (rd p k).toNat) : closedL [p] n S := by
  intro q hq k hk
  have e : q = p := by simpa using hq
  subst e
  refine ⟨h k hk, fun hs => ?_⟩
  obtain ⟨m, h1, h2⟩ := itr_back q n hp hi k (by omega)
  have g : ∀ (j : Nat) (x : Int), 0 ≤ x ∧ x < n → S x.toNat → S (itr q j x).toNat := by
    intro j
    induction j with
    | zero => intro x _ h; exact h
    | succ j ih =>
      intro x hx hsx
      have := hp.2 x.toNat (by omega)
      have e := h x.toNat (by omega) hsx
      rw [show ((x.toNat : Nat) : Int) = x by omega] at this e
      exact ih _ this e
  have := g m (rd q k) (hp.2 k hk) hs
  rw [show itr q m (rd q k) = itr q (m + 1) k from rfl, h2] at this
  simpa using this
theorem itr_reach (ps : List (List Int)) (p : List Int) (n : Nat) (hp : inR n p) (hm : p ∈ ps) : ∀ (k : Nat) (x : Int), 0 ≤ x ∧ x < n → Reach ps n x.toNat (itr p k x).toNat
  | 0, x, h => Reach.refl _ _ _
  | k + 1, x, h => by
    have h1 := hp.2 x.toNat (by omega)
    have h2 := Reach.step (ps := ps) (n := n) hm (k := x.toNat) (by omega)
    rw [show ((x.toNat : Nat) : Int) = x by omega] at h1 h2
    exact h2.trans (itr_reach ps p n hp hm k _ h1)
theorem reach_itr (p : List Int) (n : Nat) (hp : inR n p) (hi : injR n p) (a b : Nat) (ha : a < n) (h : Reach [p] n a b) : ∃ k : Nat, itr p k (rd p a) = b := by
  have hc := closed_of_fwd p n hp hi (fun x => ∃ k : Nat, itr p k (rd p a) = x) (fun k hk ⟨m, hm⟩ => ⟨m + 1, by
    rw [itr_add p m 1, hm]
    have := hp.2 k hk
    show rd p k = _
    omega⟩)
  obtain ⟨m, h1, h2⟩ := itr_back p n hp hi a (by omega)
  exact (h _ hc).1 ⟨m, h2⟩
theorem first_itr (p : List Int) (x : Int) (b : Int) (k : Nat) (h : itr p k x = b) : ∃ m, m ≤ k ∧ itr p m x = b ∧ ∀ j, j < m → itr p j x ≠ b := by
  induction k using Nat.strongRecOn with
  | ind k ih =>
    by_cases e : ∃ j, j < k ∧ itr p j x = b
    · obtain ⟨j, h1, h2⟩ := e
      obtain ⟨m, m1, m2, m3⟩ := ih j h1 h2
      exact ⟨m, by omega, m2, m3⟩
    · exact ⟨k, Nat.le_refl _, h, fun j hj z => e ⟨j, hj, z⟩⟩
def Exch (n : Nat) (p q : List Int) (a b : Nat) : Prop := a < n ∧ b < n ∧ a ≠ b ∧ rd q a = rd p b ∧ rd q b = rd p a ∧ ∀ x : Nat, x < n → x ≠ a → x ≠ b → rd q x = rd p x
theorem Exch.symm {n : Nat} {p q : List Int} {a b : Nat} (h : Exch n p q a b) : Exch n q p a b := ⟨h.1, h.2.1, h.2.2.1, h.2.2.2.2.1.symm, h.2.2.2.1.symm, fun x hx h1 h2 => (h.2.2.2.2.2 x hx h1 h2).symm⟩
theorem exch_join {n : Nat} {p q : List Int} {a b : Nat} (hp : inR n p) (hq : inR n q) (ip : injR n p) (iq : injR n q) (h : Exch n p q a b) (hab : ¬ Reach [p] n a b) : Reach [q] n a b := by
  obtain ⟨ha, hb, hne, e1, e2, e3⟩ := h
  obtain ⟨k, hk⟩ := reach_itr p n hp ip b b hb (Reach.refl _ _ _)
  obtain ⟨m, m1, m2, m3⟩ := first_itr p (rd p b) b k hk
  have pb := hp.2 b hb
  have run : ∀ j, j ≤ m → Reach [q] n a (itr p j (rd p b)).toNat := by
    intro j
    induction j with
    | zero =>
      intro _
      have := Reach.step (ps := [q]) (n := n) (p := q) (by simp) ha
      rw [e1] at this
      exact this
    | succ j ih =>
      intro hj
      have h1 := ih (by omega)
      have h2 := itr_in p n hp j _ pb
      have h3 := m3 j (by omega)
      have h4 : (itr p j (rd p b)).toNat ≠ a := by
        intro e
        apply hab
        have z := itr_reach [p] p n hp (by simp) (j + 1) (b : Int) (by omega)
        rw [show itr p (j + 1) (b : Int) = itr p j (rd p b) from rfl, e] at z
        exact z.symm
      have s := Reach.step (ps := [q]) (n := n) (p := q) (by simp) (k := (itr p j (rd p b)).toNat) (by omega)
      rw [e3 _ (by omega) h4 (by omega), show (((itr p j (rd p b)).toNat : Nat) : Int) = itr p j (rd p b) by omega] at s
      rw [itr_add p j 1]
      exact h1.trans s
  have := run m (Nat.le_refl _)
  rw [m2] at this
  exact this
theorem exch_split {n : Nat} {p q : List Int} {a b : Nat} (hp : inR n p) (hq : inR n q) (ip : injR n p) (iq : injR n q) (h : Exch n p q a b) (hab : Reach [p] n a b) : ¬ Reach [q] n a b := by
  obtain ⟨ha, hb, hne, e1, e2, e3⟩ := h
  obtain ⟨k, hk⟩ := reach_itr p n hp ip b a hb hab.symm
  obtain ⟨m, m1, m2, m3⟩ := first_itr p (rd p b) a k hk
  have pb := hp.2 b hb
  have nb : ∀ j, j ≤ m → itr p j (rd p b) ≠ b := by
    intro j hj e
    by_cases ej : j = m
    · rw [ej, m2] at e
      omega
    · have : itr p (m - j - 1) (rd p b) = a := by
        have z : itr p m (rd p b) = itr p (m - j - 1) (rd p (itr p j (rd p b))) := by
          rw [show m = j + (1 + (m - j - 1)) by omega, itr_add, itr_add p 1]
          rw [show j + (1 + (m - j - 1)) - j - 1 = m - j - 1 by omega]
          rfl
        rw [e, m2] at z
        exact z.symm
      exact m3 (m - j - 1) (by omega) this
  have hc := closed_of_fwd q n hq iq (fun x => ∃ j, j ≤ m ∧ itr p j (rd p b) = x) (fun x hx ⟨j, hj, hjx⟩ => by
    have qx := hq.2 x hx
    by_cases ex : x = a
    · subst ex
      exact ⟨0, by omega, by rw [e1]; show rd p b = _; omega⟩
    · have hxb : x ≠ b := by
        intro e
        exact nb j hj (by rw [hjx, e])
      have jm : j ≠ m := by
        rintro rfl
        rw [m2] at hjx
        omega
      refine ⟨j + 1, by omega, ?_⟩
      rw [itr_add p j 1, hjx, e3 x hx ex hxb]
      have := hp.2 x hx
      show rd p x = _
      omega)
  intro hr
  obtain ⟨j, hj, hjb⟩ := (hr _ hc).1 ⟨m, Nat.le_refl _, m2⟩
  exact nb j hj hjb
theorem Cl.ex (n : Nat) (R : Nat → Nat → Prop) : ∃ k, Cl n R k ∧ k ≤ n := Cnt.ex _ n
theorem Cl.uniq {n : Nat} {R : Nat → Nat → Prop} {k l : Nat} (h : Cl n R k) (h' : Cl n R l) : k = l := Cnt.same h h' fun _ _ => Iff.rfl
theorem exch_rel {n : Nat} {p q : List Int} {a b : Nat} (hp : inR n p) (hq : inR n q) (ip : injR n p) (iq : injR n q) (h : Exch n p q a b) (hab : ¬ Reach [p] n a b) (x y : Nat) :
    Reach [q] n x y ↔ Reach [p] n x y ∨ (Reach [p] n x a ∧ Reach [p] n b y) ∨ (Reach [p] n x b ∧ Reach [p] n a y) := by
  have hj := exch_join hp hq ip iq h hab
  obtain ⟨ha, hb, hne, e1, e2, e3⟩ := h
  have up : ∀ x y, Reach [p] n x y → Reach [q] n x y := by
    intro x y hr S hS
    refine hr S fun r hr' k hk => ?_
    have : r = p := by simpa using hr'
    subst this
    have sq := hS q (by simp)
    by_cases ka : k = a
    · subst ka
      have z := sq b hb
      rw [e2] at z
      exact (hj S hS).trans z
    · by_cases kb : k = b
      · subst kb
        have z := sq a ha
        rw [e1] at z
        exact (hj S hS).symm.trans z
      · have z := sq k hk
        rw [e3 k hk ka kb] at z
        exact z
  constructor
  · intro hr
    have hc : closedL [q] n (fun z => Reach [p] n x z ∨ (Reach [p] n x a ∧ Reach [p] n b z) ∨ (Reach [p] n x b ∧ Reach [p] n a z)) := by
      refine closed_of_fwd q n hq iq _ fun k hk hz => ?_
      have stp : ∀ z, z < n → Reach [p] n z (rd p z).toNat := fun z hz => Reach.step (by simp) hz
      by_cases ka : k = a
      · subst ka
        rw [e1]
        rcases hz with z | ⟨z1, z2⟩ | ⟨z1, z2⟩
        · exact .inr (.inl ⟨z, stp b hb⟩)
        · exact .inr (.inl ⟨z1, stp b hb⟩)
        · exact .inl (z1.trans (stp b hb))
      · by_cases kb : k = b
        · subst kb
          rw [e2]
          rcases hz with z | ⟨z1, z2⟩ | ⟨z1, z2⟩
          · exact .inr (.inr ⟨z, stp a ha⟩)
          · exact .inl (z1.trans (stp a ha))
          · exact .inr (.inr ⟨z1, stp a ha⟩)
        · rw [e3 k hk ka kb]
          have s := stp k hk
          rcases hz with z | ⟨z1, z2⟩ | ⟨z1, z2⟩
          · exact .inl (z.trans s)
          · exact .inr (.inl ⟨z1, z2.trans s⟩)
          · exact .inr (.inr ⟨z1, z2.trans s⟩)
    exact (hr _ hc).1 (.inl (Reach.refl _ _ _))
  · rintro (z | ⟨z1, z2⟩ | ⟨z1, z2⟩)
    · exact up _ _ z
    · exact (up _ _ z1).trans (hj.trans (up _ _ z2))
    · exact (up _ _ z1).trans (hj.symm.trans (up _ _ z2))
theorem exch_count {n : Nat} {p q : List Int} {a b k l : Nat} (hp : inR n p) (hq : inR n q) (ip : injR n p) (iq : injR n q) (h : Exch n p q a b) (hk : Cl n (Reach [p] n) k) (hl : Cl n (Reach [q] n) l) :
    (¬ Reach [p] n a b → l + 1 = k) ∧ (Reach [p] n a b → l = k + 1) := by
  have sy : ∀ p : List Int, ∀ x y, Reach [p] n x y → Reach [p] n y x := fun p x y h => h.symm
  have tr : ∀ p : List Int, ∀ x y z, Reach [p] n x y → Reach [p] n y z → Reach [p] n x z := fun p x y z h h' => h.trans h'
  constructor
  · intro hab
    have := Cl.merge (S := Reach [q] n) (fun x => Reach.refl _ _ x) (sy p) (tr p) hk a b h.1 h.2.1 hab (exch_rel hp hq ip iq h hab)
    have e := Cl.uniq hl this.2
    omega
  · intro hab
    have hab' := exch_split hp hq ip iq h hab
    have := Cl.merge (S := Reach [p] n) (fun x => Reach.refl _ _ x) (sy q) (tr q) hl a b h.1 h.2.1 hab' (exch_rel hq hp iq ip h.symm hab')
    have e := Cl.uniq hk this.2
    omega
def it (f : Nat → Nat) : Nat → Nat → Nat
  | 0, x => x
  | k + 1, x => it f k (f x)
theorem it_add (f : Nat → Nat) : ∀ a b x, it f (a + b) x = it f b (it f a x)
  | 0, b, x => by rw [Nat.zero_add]; rfl
  | a + 1, b, x => by rw [show a + 1 + b = (a + b) + 1 by omega]; exact it_add f a b _
theorem it_succ (f : Nat → Nat) (k x : Nat) : it f (k + 1) x = f (it f k x) := it_add f k 1 x
structure Qd (n : Nat) (τ φ l : Nat → Nat) : Prop where
  tr : ∀ x, x < n → τ x < n
  fr : ∀ x, x < n → φ x < n
  ti : ∀ x y, x < n → y < n → τ x = τ y → x = y
  ff : ∀ x, x < n → φ (φ x) = x
  lt : ∀ x, x < n → l (τ x) = l x
  st : ∀ x, x < n → l x = l (φ x) + 1 ∨ l (φ x) = l x + 1
  four : ∀ x, x < n → τ (φ (τ (φ (τ (φ (τ (φ x))))))) = x
  dn : ∀ x, x < n → 0 < l x → ∃ k, l (φ (it τ k x)) + 1 = l x
  db : ∀ x, x < n → 0 < l x → ∃ y, y < n ∧ l (φ y) + 1 = l y ∧ ∃ k, it τ k y = x
  pt : ∀ x y, x < n → y < n → l x = 0 → l y = 0 → ∃ k, it τ k x = y
inductive FN (τ φ l : Nat → Nat) : Nat → Nat → Prop
  | here {x} : l (φ x) + 1 = l x → FN τ φ l x x
  | more {x y} : l (φ x) = l x + 1 → FN τ φ l (τ x) y → FN τ φ l x y
def Mt (τ φ l : Nat → Nat) (c : Nat) : Nat :=
  if l (φ c) = l c + 1 then τ (φ c) else if l (τ (φ (τ (φ c)))) = l c then τ (φ (τ (φ c))) else τ (φ (τ (φ (τ (φ c)))))
inductive Run (τ φ l : Nat → Nat) (k : Nat) : Nat → Nat → Prop
  | one {a b} : FN τ φ l (Mt τ φ l (τ a)) b → Run τ φ l k a b
  | cons {a b c} : FN τ φ l (Mt τ φ l (τ a)) c → k ≤ l c → Run τ φ l k c b → Run τ φ l k a b
theorem Run.weak {τ φ l : Nat → Nat} {k k' a b : Nat} (h : Run τ φ l k' a b) (hk : k ≤ k') : Run τ φ l k a b := by
  induction h with
  | one h => exact .one h
  | cons h1 h2 _ ih => exact .cons h1 (Nat.le_trans hk h2) ih
theorem Run.app {τ φ l : Nat → Nat} {k a b c : Nat} (h : Run τ φ l k a b) (hb : k ≤ l b) (h' : Run τ φ l k b c) : Run τ φ l k a c := by
  induction h with
  | one h => exact .cons h hb h'
  | cons h1 h2 _ ih => exact .cons h1 h2 (ih hb h')
section
variable {n : Nat} {τ φ l : Nat → Nat} (Q : Qd n τ φ l)
include Q
theorem Qd.itr {x : Nat} (hx : x < n) : ∀ k, it τ k x < n
  | 0 => hx
  | k + 1 => by rw [it_succ]; exact Q.tr _ (Qd.itr hx k)
theorem Qd.itl {x : Nat} (hx : x < n) : ∀ k, l (it τ k x) = l x
  | 0 => rfl
  | k + 1 => by rw [it_succ, Q.lt _ (Q.itr hx k)]; exact Qd.itl hx k
theorem Qd.fn_in {x y : Nat} (hx : x < n) (h : FN τ φ l x y) : y < n ∧ l y = l x ∧ l (φ y) + 1 = l y ∧ ∃ j, it τ j x = y ∧ ∀ i, i < j → l (φ (it τ i x)) = l x + 1 := by
  induction h with
  | here h => exact ⟨hx, rfl, h, 0, rfl, fun i hi => absurd hi (by omega)⟩
  | more h _ ih =>
    obtain ⟨a, b, c, j, j1, j2⟩ := ih (Q.tr _ hx)
    have e := Q.lt _ hx
    refine ⟨a, by omega, c, j + 1, j1, fun i hi => ?_⟩
    cases i with
    | zero => exact h
    | succ i => have := j2 i (by omega); rw [e] at this; exact this
theorem Qd.fn_ex {x : Nat} (hx : x < n) (h : 0 < l x) : ∃ y, FN τ φ l x y := by
  obtain ⟨k, hk⟩ := Q.dn x hx h
  revert x
  induction k with
  | zero => intro x hx h hk; exact ⟨x, .here hk⟩
  | succ k ih =>
    intro x hx h hk
    rcases Q.st x hx with e | e
    · exact ⟨x, .here e.symm⟩
    · have e' := Q.lt x hx
      obtain ⟨y, hy⟩ := ih (Q.tr x hx) (by omega) (by rw [e']; exact hk)
      exact ⟨y, .more e hy⟩
omit Q in
theorem FN.uniq {x y y' : Nat} (h : FN τ φ l x y) (h' : FN τ φ l x y') : y = y' := by
  induction h with
  | here h =>
    cases h' with
    | here _ => rfl
    | more h2 _ => omega
  | more h _ ih =>
    cases h' with
    | here h2 => omega
    | more _ h2 => exact ih h2
theorem Qd.face {e h : Nat} (hh : h < n) (he : e = τ h) : τ (φ (τ (φ (τ (φ e))))) = φ h := by
  have hen : e < n := he ▸ Q.tr h hh
  have f4 := Q.four e hen
  have b1 := Q.tr _ (Q.fr e hen)
  have b2 := Q.tr _ (Q.fr _ b1)
  have b3 := Q.tr _ (Q.fr _ b2)
  have := Q.ti _ _ (Q.fr _ b3) hh (f4.trans he)
  rw [← this, Q.ff _ b3]
theorem Qd.next {e h : Nat} (hh : h < n) (he : e = τ h) (uh : l (φ h) = l h + 1) (ue : l (φ e) = l e + 1)
    (C : ∀ z, z < n → l (φ z) + 1 = l z → l z = l e + 2 → ∃ b, FN τ φ l (φ z) b ∧ Run τ φ l (l z) z b) : Run τ φ l (l e + 2) (φ e) (φ h) := by
  have hen : e < n := he ▸ Q.tr h hh
  have F := Q.face hh he
  have lh : l h = l e := by rw [he, Q.lt h hh]
  have p1 := Q.fr e hen
  have q1 := Q.tr _ p1
  have p2 := Q.fr _ q1
  have q2 := Q.tr _ p2
  have p3 := Q.fr _ q2
  have q3 := Q.tr _ p3
  have l1 : l (τ (φ e)) = l e + 1 := by rw [Q.lt _ p1]; exact ue
  have l2 : l (φ (τ (φ e))) = l (τ (φ (τ (φ e)))) := (Q.lt _ p2).symm
  have l3 : l (φ (τ (φ (τ (φ e))))) = l (τ (φ (τ (φ (τ (φ e)))))) := (Q.lt _ p3).symm
  have l4 : l (τ (φ (τ (φ (τ (φ e)))))) = l e + 1 := by rw [F, uh, lh]
  have s1 := Q.st _ q1
  have s2 := Q.st _ q2
  have gd : FN τ φ l (φ h) (φ h) := .here (by rw [Q.ff h hh, uh])
  by_cases c : l (φ (τ (φ e))) = l (τ (φ e)) + 1
  · have em : Mt τ φ l (τ (φ e)) = τ (φ (τ (φ e))) := by unfold Mt; rw [if_pos c]
    have lz : l (τ (φ (τ (φ e)))) = l e + 2 := by omega
    have dz : l (φ (τ (φ (τ (φ e))))) + 1 = l (τ (φ (τ (φ e)))) := by omega
    obtain ⟨b, b1, b2⟩ := C _ q2 dz lz
    have eb : b = φ h := by
      cases b1 with
      | here h2 => rw [Q.ff _ q2] at h2; omega
      | more _ h2 => rw [F] at h2; exact h2.uniq gd
    subst eb
    rw [lz] at b2
    exact .cons (by rw [em]; exact .here dz) (by omega) b2
  · have em : Mt τ φ l (τ (φ e)) = φ h := by
      unfold Mt
      rw [if_neg c, if_pos (by rw [F, uh, lh, l1]), F]
    exact .one (by rw [em]; exact gd)
theorem Qd.way (L : Nat) (hL : ∀ x, x < n → l x ≤ L) : ∀ (d : Nat) (z : Nat), z < n → l (φ z) + 1 = l z → 2 ≤ l z → L - l z = d → ∃ b, FN τ φ l (φ z) b ∧ Run τ φ l (l z) z b := by
  intro d
  induction d using Nat.strongRecOn with
  | ind d ihd =>
    intro z hz dz kz ed
    have main : ∀ (j y e : Nat), y < n → l (φ y) + 1 = l y → it τ j y = e → l (φ e) = l e + 1 → l e + 1 = l z → ∃ b, FN τ φ l e b ∧ Run τ φ l (l z) (φ e) b := by
      intro j
      induction j with
      | zero => intro y e hy dy ej ue le; subst ej; exact absurd ue (by show ¬ l (φ y) = l y + 1; omega)
      | succ j ih =>
        intro y e hy dy ej ue le
        rw [it_succ] at ej
        have hh := Q.itr hy j
        generalize hhe : it τ j y = h at ej hh
        have F := Q.face hh ej.symm
        have lh : l h = l e := by rw [← ej, Q.lt h hh]
        have hen : e < n := ej ▸ Q.tr h hh
        rcases Q.st h hh with dh | uh
        · obtain ⟨b, hb⟩ := Q.fn_ex hen (by omega)
          refine ⟨b, hb, .one ?_⟩
          have p1 := Q.fr e hen
          have q1 := Q.tr _ p1
          have p2 := Q.fr _ q1
          have q2 := Q.tr _ p2
          have p3 := Q.fr _ q2
          have q3 := Q.tr _ p3
          have l1 : l (τ (φ e)) = l e + 1 := by rw [Q.lt _ p1]; exact ue
          have l2 : l (φ (τ (φ e))) = l (τ (φ (τ (φ e)))) := (Q.lt _ p2).symm
          have l3 : l (φ (τ (φ (τ (φ e))))) = l (τ (φ (τ (φ (τ (φ e)))))) := (Q.lt _ p3).symm
          have l4 : l (τ (φ (τ (φ (τ (φ e)))))) + 1 = l e := by rw [F]; omega
          have s1 := Q.st _ q1
          have s2 := Q.st _ q2
          have em : Mt τ φ l (τ (φ e)) = e := by
            unfold Mt
            rw [if_neg (by omega), if_neg (by omega)]
            exact Q.four e hen
          rw [em]
          exact hb
        · obtain ⟨b, b1, b2⟩ := ih y h hy dy hhe uh (by omega)
          have fb : FN τ φ l e b := by
            cases b1 with
            | here h2 => omega
            | more _ h2 => rw [ej] at h2; exact h2
          refine ⟨b, fb, ?_⟩
          have N := Q.next hh ej.symm uh ue fun z' hz' dz' lz' => ihd (L - l z') (by have := hL z' hz'; omega) z' hz' dz' (by omega) rfl
          exact (N.weak (by omega)).app (by omega) b2
    have pz := Q.fr z hz
    obtain ⟨y, hy, dy, j, hj⟩ := Q.db (φ z) pz (by omega)
    have r := main j y (φ z) hy dy hj (by rw [Q.ff z hz]; omega) (by omega)
    rw [Q.ff z hz] at r
    exact r
theorem Qd.way' {z : Nat} (hz : z < n) (dz : l (φ z) + 1 = l z) (kz : 2 ≤ l z) : ∃ b, FN τ φ l (φ z) b ∧ Run τ φ l (l z) z b := by
  have hm : ∀ m, ∃ L, ∀ x, x < m → l x ≤ L := by
    intro m
    induction m with
    | zero => exact ⟨0, fun x hx => absurd hx (by omega)⟩
    | succ m ih =>
      obtain ⟨L, h⟩ := ih
      refine ⟨L + l m, fun x hx => ?_⟩
      by_cases e : x = m
      · subst e; omega
      · have := h x (by omega); omega
  obtain ⟨L, hL⟩ := hm n
  exact Q.way L hL _ z hz dz kz rfl
theorem Qd.next' {e h : Nat} (hh : h < n) (he : e = τ h) (uh : l (φ h) = l h + 1) (ue : l (φ e) = l e + 1) : Run τ φ l (l e + 2) (φ e) (φ h) :=
  Q.next hh he uh ue fun z hz dz lz => Q.way' hz dz (by omega)
theorem Qd.mate {a : Nat} (ha : a < n) (da : l (φ a) + 1 = l a) : ∃ w, w < n ∧ l (φ w) + 1 = l w ∧ Mt τ φ l (τ a) = τ w ∧ Mt τ φ l (τ w) = τ a ∧ 0 < l w := by
  have hc := Q.tr a ha
  have F := Q.face ha (e := τ a) rfl
  have f4 := Q.four _ hc
  have lc := Q.lt a ha
  generalize hce : τ a = c at *
  have p1 := Q.fr c hc
  have q1 := Q.tr _ p1
  have p2 := Q.fr _ q1
  have q2 := Q.tr _ p2
  have p3 := Q.fr _ q2
  have q3 := Q.tr _ p3
  have p4 := Q.fr _ q3
  have l1 : l (φ c) = l (τ (φ c)) := (Q.lt _ p1).symm
  have l2 : l (φ (τ (φ c))) = l (τ (φ (τ (φ c)))) := (Q.lt _ p2).symm
  have l3 : l (φ (τ (φ (τ (φ c))))) = l (τ (φ (τ (φ (τ (φ c)))))) := (Q.lt _ p3).symm
  have l4 : l (φ (τ (φ (τ (φ (τ (φ c))))))) = l c := by rw [← Q.lt _ p4, f4]
  have l5 : l (τ (φ (τ (φ (τ (φ c)))))) + 1 = l c := by rw [F]; omega
  have s1 := Q.st _ hc
  have s2 := Q.st _ q1
  have s3 := Q.st _ q2
  by_cases c1 : l (φ c) = l c + 1
  · refine ⟨φ c, p1, by rw [Q.ff c hc]; omega, by unfold Mt; rw [if_pos c1], ?_, by omega⟩
    unfold Mt
    rw [if_neg (by omega), if_neg (by omega), f4]
  · by_cases c2 : l (τ (φ (τ (φ c)))) = l c
    · refine ⟨φ (τ (φ c)), p2, by rw [Q.ff _ q1]; omega, by unfold Mt; rw [if_neg c1, if_pos c2], ?_, by omega⟩
      unfold Mt
      rw [if_neg (by omega), if_pos (by rw [f4]; omega), f4]
    · refine ⟨φ (τ (φ (τ (φ c)))), p3, by rw [Q.ff _ q2]; omega, by unfold Mt; rw [if_neg c1, if_neg c2], ?_, by omega⟩
      unfold Mt
      rw [if_pos (by omega), f4]
end
end Go.Proofs.Ytlpbalebodlipaa.PL

set_option linter.unusedVariables false
set_option linter.unusedSimpArgs false
namespace Go.Proofs.Ytlpbalebodlipaa.PL
open Go.RowKit Go.Proofs.YtlpbalebodlipaaW.PrintWords Go.Proofs.YtlpbalebodlipaaW.PrintLast Go.Proofs.YtlpbalebodlipaaW.PrintMore
open Classical in
noncomputable def nx (τ φ l : Nat → Nat) (x : Nat) : Nat := if h : ∃ y, FN τ φ l x y then Classical.choose h else x
theorem FN.nx {τ φ l : Nat → Nat} {x y : Nat} (h : FN τ φ l x y) : nx τ φ l x = y := by
  unfold Go.Proofs.Ytlpbalebodlipaa.PL.nx
  have hx : ∃ y, FN τ φ l x y := ⟨y, h⟩
  rw [dif_pos hx]
  exact (Classical.choose_spec hx).uniq h
noncomputable def wkS (τ φ l : Nat → Nat) (a : Nat) : Nat := nx τ φ l (Mt τ φ l (τ a))
def Dn (n : Nat) (φ l : Nat → Nat) (a : Nat) : Prop := a < n ∧ l (φ a) + 1 = l a
def dnL (n : Nat) (φ l : Nat → Nat) : List Nat := (List.range n).filter fun a => decide (l (φ a) + 1 = l a)
theorem dnL_mem (n : Nat) (φ l : Nat → Nat) (a : Nat) : a ∈ dnL n φ l ↔ Dn n φ l a := by
  unfold dnL Dn
  rw [List.mem_filter, List.mem_range, decide_eq_true_eq]
theorem nodup_filter' {p : Nat → Bool} : ∀ {L : List Nat}, L.Nodup → (L.filter p).Nodup := fun h => h.filter p
theorem nodup_map' {f : Nat → Nat} : ∀ {L : List Nat}, L.Nodup → (∀ x ∈ L, ∀ y ∈ L, f x = f y → x = y) → (L.map f).Nodup
  | [], _, _ => by simp
  | a :: L, h, hf => by
    rw [List.nodup_cons] at h
    rw [List.map_cons, List.nodup_cons]
    refine ⟨fun hm => ?_, nodup_map' h.2 fun x hx y hy => hf x (by simp [hx]) y (by simp [hy])⟩
    obtain ⟨x, hx, e⟩ := List.mem_map.1 hm
    exact h.1 (hf x (by simp [hx]) a (by simp) e ▸ hx)
section
variable {n : Nat} {τ φ l : Nat → Nat} (Q : Qd n τ φ l)
include Q
theorem Qd.it_inj {x y : Nat} (hx : x < n) (hy : y < n) : ∀ k, it τ k x = it τ k y → x = y
  | 0, h => h
  | k + 1, h => by
    rw [it_succ, it_succ] at h
    exact Qd.it_inj hx hy k (Q.ti _ _ (Q.itr hx k) (Q.itr hy k) h)
theorem Qd.wk_ok {a : Nat} (ha : Dn n φ l a) : Dn n φ l (wkS τ φ l a) ∧ FN τ φ l (Mt τ φ l (τ a)) (wkS τ φ l a) ∧ l (wkS τ φ l a) = l (Mt τ φ l (τ a)) := by
  obtain ⟨w, w1, w2, w3, w4, w5⟩ := Q.mate ha.1 ha.2
  have hw := Q.tr w w1
  have lw := Q.lt w w1
  obtain ⟨y, hy⟩ := Q.fn_ex hw (by omega)
  have e : wkS τ φ l a = y := by unfold wkS; rw [w3]; exact hy.nx
  obtain ⟨b1, b2, b3, _⟩ := Q.fn_in hw hy
  rw [e, w3]
  exact ⟨⟨b1, b3⟩, hy, b2⟩
theorem Qd.wk_inj {a b : Nat} (ha : Dn n φ l a) (hb : Dn n φ l b) (h : wkS τ φ l a = wkS τ φ l b) : a = b := by
  obtain ⟨w, w1, w2, w3, w4, w5⟩ := Q.mate ha.1 ha.2
  obtain ⟨v, v1, v2, v3, v4, v5⟩ := Q.mate hb.1 hb.2
  obtain ⟨_, fa, _⟩ := Q.wk_ok ha
  obtain ⟨_, fb, _⟩ := Q.wk_ok hb
  rw [w3] at fa
  rw [v3] at fb
  have hw := Q.tr w w1
  have hv := Q.tr v v1
  obtain ⟨_, _, _, j, j1, j2⟩ := Q.fn_in hw fa
  obtain ⟨_, _, _, i, i1, i2⟩ := Q.fn_in hv fb
  have key : ∀ (w v j i : Nat), w < n → v < n → l (φ w) + 1 = l w → j ≤ i → it τ j (τ w) = it τ i (τ v) → (∀ q, q < i → l (φ (it τ q (τ v))) = l (τ v) + 1) → w = v := by
    intro w v j i hw hv dw hji e up
    have hw' := Q.tr w hw
    have hv' := Q.tr v hv
    rw [show i = (i - j) + j by omega, it_add] at e
    have e2 := Q.it_inj hw' (Q.itr hv' _) _ e
    cases hm : i - j with
    | zero => rw [hm] at e2; exact Q.ti _ _ hw hv e2
    | succ m =>
      rw [hm, it_succ] at e2
      have e3 := Q.ti _ _ hw (Q.itr hv' m) e2
      have u := up m (by omega)
      have lv := Q.itl hv' m
      rw [← e3] at u lv
      omega
  have ewv : w = v := by
    by_cases hji : j ≤ i
    · exact key w v j i w1 v1 w2 hji (by rw [j1, i1, h]) i2
    · exact (key v w i j v1 w1 v2 (by omega) (by rw [j1, i1, h]) j2).symm
  subst ewv
  exact Q.ti _ _ ha.1 hb.1 (w4.symm.trans v4)
theorem Qd.wk_it {a : Nat} (ha : Dn n φ l a) : ∀ k, Dn n φ l (it (wkS τ φ l) k a)
  | 0 => ha
  | k + 1 => by rw [it_succ]; exact (Q.wk_ok (Qd.wk_it ha k)).1
theorem Qd.wk_itinj {a b : Nat} (ha : Dn n φ l a) (hb : Dn n φ l b) : ∀ k, it (wkS τ φ l) k a = it (wkS τ φ l) k b → a = b
  | 0, h => h
  | k + 1, h => by
    rw [it_succ, it_succ] at h
    exact Qd.wk_itinj ha hb k (Q.wk_inj (Q.wk_it ha k) (Q.wk_it hb k) h)
theorem Qd.run_it {k a b : Nat} (ha : Dn n φ l a) (h : Run τ φ l k a b) : ∃ m, it (wkS τ φ l) (m + 1) a = b ∧ ∀ i, 1 ≤ i → i ≤ m → k ≤ l (it (wkS τ φ l) i a) := by
  induction h with
  | one h => exact ⟨0, h.nx, fun i h1 h2 => absurd h1 (by omega)⟩
  | cons h1 h2 _ ih =>
    have e : wkS τ φ l _ = _ := h1.nx
    obtain ⟨m, m1, m2⟩ := ih (e ▸ (Q.wk_ok ha).1)
    refine ⟨m + 1, ?_, fun i i1 i2 => ?_⟩
    · show it (wkS τ φ l) (m + 1) (wkS τ φ l _) = _
      rw [e]; exact m1
    · cases i with
      | zero => omega
      | succ i =>
        show _ ≤ l (it (wkS τ φ l) i (wkS τ φ l _))
        rw [e]
        by_cases hi : i = 0
        · subst hi; exact h2
        · exact m2 i (by omega) (by omega)
theorem Qd.round {a : Nat} (ha : Dn n φ l a) : ∃ p, 1 ≤ p ∧ it (wkS τ φ l) p a = a := by
  by_cases h : ∃ i j, i < j ∧ it (wkS τ φ l) i a = it (wkS τ φ l) j a
  · obtain ⟨i, j, hij, e⟩ := h
    refine ⟨j - i, by omega, ?_⟩
    rw [show j = (j - i) + i by omega, it_add] at e
    exact (Q.wk_itinj ha (Q.wk_it ha _) i e).symm
  · exfalso
    have := len_le_of_sub ((List.range (n + 1)).map fun i => it (wkS τ φ l) i a) (List.range n)
      (nodup_map' List.nodup_range fun x hx y hy e => by
        by_cases h1 : x < y
        · exact absurd ⟨x, y, h1, e⟩ h
        · by_cases h2 : y < x
          · exact absurd ⟨y, x, h2, e.symm⟩ h
          · omega)
      fun x hx => by
        obtain ⟨i, _, rfl⟩ := List.mem_map.1 hx
        exact List.mem_range.2 (Q.wk_it ha i).1
    simp at this
    omega
omit Q in
theorem rounds_it {f : Nat → Nat} {a p : Nat} (hp : it f p a = a) : ∀ m, it f (p * m) a = a
  | 0 => rfl
  | m + 1 => by rw [Nat.mul_succ, it_add, rounds_it hp m, hp]
theorem Qd.sym {a b : Nat} (ha : Dn n φ l a) (h : ∃ i, it (wkS τ φ l) i a = b) : ∃ i, it (wkS τ φ l) i b = a := by
  obtain ⟨i, hi⟩ := h
  obtain ⟨p, p1, p2⟩ := Q.round ha
  have le : i ≤ p * i := Nat.le_mul_of_pos_left i p1
  refine ⟨p * i - i, ?_⟩
  rw [← hi, ← it_add, show i + (p * i - i) = p * i by omega]
  exact rounds_it p2 i
omit Q in
theorem conn_trans {f : Nat → Nat} {a b c : Nat} (h : ∃ i, it f i a = b) (h' : ∃ i, it f i b = c) : ∃ i, it f i a = c := by
  obtain ⟨i, rfl⟩ := h
  obtain ⟨j, rfl⟩ := h'
  exact ⟨i + j, it_add f i j a⟩
theorem Qd.low : ∀ (m a : Nat), Dn n φ l a → l a = m → ∃ p, Dn n φ l p ∧ l p = 1 ∧ ∃ i, it (wkS τ φ l) i a = p
  | 0, a, ha, e => by have := ha.2; omega
  | 1, a, ha, e => ⟨a, ha, e, 0, rfl⟩
  | m + 2, a, ha, e => by
    obtain ⟨b, b1, b2⟩ := Q.way' ha.1 ha.2 (by omega)
    obtain ⟨c1, c2, c3, _⟩ := Q.fn_in (Q.fr a ha.1) b1
    have d := ha.2
    obtain ⟨p, p1, p2, p3⟩ := Qd.low (m + 1) b ⟨c1, c3⟩ (by omega)
    obtain ⟨i, i1, _⟩ := Q.run_it ha b2
    exact ⟨p, p1, p2, conn_trans ⟨i + 1, i1⟩ p3⟩
theorem Qd.zero_up {e : Nat} (he : e < n) (h : l e = 0) : l (φ e) = l e + 1 := by
  rcases Q.st e he with x | x <;> omega
theorem Qd.ones : ∀ (k e : Nat), e < n → l e = 0 → ∃ i, it (wkS τ φ l) i (φ (it τ k e)) = φ e
  | 0, e, he, h => ⟨0, rfl⟩
  | k + 1, e, he, h => by
    have e1 := Q.tr e he
    have l1 := Q.lt e he
    have u := Q.zero_up he h
    have u1 := Q.zero_up e1 (by omega)
    have N := Q.next' he rfl u u1
    obtain ⟨m, m1, _⟩ := Q.run_it (show Dn n φ l (φ (τ e)) from ⟨Q.fr _ e1, by rw [Q.ff _ e1]; omega⟩) N
    exact conn_trans (Qd.ones k (τ e) e1 (by omega)) ⟨m + 1, m1⟩
theorem Qd.all {a b : Nat} (ha : Dn n φ l a) (hb : Dn n φ l b) : ∃ i, it (wkS τ φ l) i a = b := by
  obtain ⟨p, p1, p2, p3⟩ := Q.low _ a ha rfl
  obtain ⟨q, q1, q2, q3⟩ := Q.low _ b hb rfl
  refine conn_trans p3 (conn_trans ?_ (Q.sym hb q3))
  have dp := p1.2
  have dq := q1.2
  obtain ⟨k, hk⟩ := Q.pt (φ q) (φ p) (Q.fr q q1.1) (Q.fr p p1.1) (by omega) (by omega)
  have := Q.ones k (φ q) (Q.fr q q1.1) (by omega)
  rw [hk, Q.ff p p1.1, Q.ff q q1.1] at this
  exact this
theorem Qd.half : 2 * (dnL n φ l).length = n := by
  have nd : (dnL n φ l).Nodup := nodup_filter' List.nodup_range
  have nu : ((List.range n).filter fun a => ! decide (l (φ a) + 1 = l a)).Nodup := nodup_filter' List.nodup_range
  have mu : ∀ x, x ∈ (List.range n).filter (fun a => ! decide (l (φ a) + 1 = l a)) ↔ x < n ∧ l (φ x) = l x + 1 := by
    intro x
    rw [List.mem_filter, List.mem_range]
    constructor
    · rintro ⟨h1, h2⟩
      have h2 : ¬ (l (φ x) + 1 = l x) := by simpa using h2
      rcases Q.st x h1 with e | e
      · omega
      · exact ⟨h1, e⟩
    · rintro ⟨h1, h2⟩
      have : ¬ (l (φ x) + 1 = l x) := by omega
      exact ⟨h1, by simpa using this⟩
  have e1 := len_le_of_sub ((dnL n φ l).map φ) _ (nodup_map' nd fun x hx y hy e => by
      have hx := ((dnL_mem n φ l x).1 hx).1
      have hy := ((dnL_mem n φ l y).1 hy).1
      rw [← Q.ff x hx, e, Q.ff y hy]) (fun x hx => by
      obtain ⟨y, hy, rfl⟩ := List.mem_map.1 hx
      obtain ⟨h1, h2⟩ := (dnL_mem n φ l y).1 hy
      exact (mu _).2 ⟨Q.fr y h1, by rw [Q.ff y h1]; omega⟩)
  have e2 := len_le_of_sub (((List.range n).filter fun a => ! decide (l (φ a) + 1 = l a)).map φ) (dnL n φ l) (nodup_map' nu fun x hx y hy e => by
      have hx := ((mu x).1 hx).1
      have hy := ((mu y).1 hy).1
      rw [← Q.ff x hx, e, Q.ff y hy]) (fun x hx => by
      obtain ⟨y, hy, rfl⟩ := List.mem_map.1 hx
      obtain ⟨h1, h2⟩ := (mu y).1 hy
      exact (dnL_mem n φ l _).2 ⟨Q.fr y h1, by rw [Q.ff y h1]; omega⟩)
  rw [List.length_map] at e1 e2
  have e3 : ∀ (L : List Nat) (p : Nat → Bool), (L.filter p).length + (L.filter fun a => ! p a).length = L.length := by
    intro L p
    induction L with
    | nil => rfl
    | cons x L ih =>
      simp only [List.filter_cons]
      cases p x <;> simp <;> omega
  have := e3 (List.range n) fun a => decide (l (φ a) + 1 = l a)
  rw [List.length_range] at this
  unfold dnL at *
  omega
theorem Qd.once {a : Nat} (ha : Dn n φ l a) (i j : Nat) (hij : i < j) (hj : 2 * j < n) : it (wkS τ φ l) i a ≠ it (wkS τ φ l) j a := by
  intro e
  rw [show j = (j - i) + i by omega, it_add] at e
  have e := Q.wk_itinj ha (Q.wk_it ha _) i e
  have hp : it (wkS τ φ l) (j - i) a = a := e.symm
  have hb : ∀ b, Dn n φ l b → ∃ q, q < j - i ∧ it (wkS τ φ l) q a = b := by
    intro b hb
    obtain ⟨m, hm⟩ := Q.all ha hb
    refine ⟨m % (j - i), Nat.mod_lt _ (by omega), ?_⟩
    rw [← hm]
    conv => rhs; rw [← Nat.div_add_mod m (j - i)]
    rw [it_add, rounds_it hp]
  have := len_le_of_sub (dnL n φ l) ((List.range (j - i)).map fun q => it (wkS τ φ l) q a) (nodup_filter' List.nodup_range) fun x hx => by
    obtain ⟨q, q1, q2⟩ := hb x ((dnL_mem n φ l x).1 hx)
    exact List.mem_map.2 ⟨q, List.mem_range.2 q1, q2⟩
  rw [List.length_map, List.length_range] at this
  have h2 := Q.half
  omega
end
end Go.Proofs.Ytlpbalebodlipaa.PL

set_option linter.unusedVariables false
set_option linter.unusedSimpArgs false
namespace Go.Proofs.Ytlpbalebodlipaa.PL
open Go.RowKit Go.Proofs.YtlpbalebodlipaaW.PrintWords Go.Proofs.YtlpbalebodlipaaW.PrintLast Go.Proofs.YtlpbalebodlipaaW.PrintMore
def flipAt (f : List Int) (i : Nat) : Prop := rd f i ≠ i ∧ rd f (rd f i) = i
def isMap (t f : List Int) : Prop := isPerm t ∧ isPerm f ∧ t.length = f.length ∧ (∀ i : Nat, i < f.length → flipAt f i) ∧ ∀ i j : Nat, i < f.length → j < f.length → Reach [t, f] f.length i j
def maxF : List Int → Int → Int
  | [], m => m
  | x :: xs, m => maxF xs (mx m x)
theorem maxF_zero : ∀ (l : List Int) (m : Int), 0 ≤ m → (∀ x ∈ l, 0 ≤ x) → 0 ≤ maxF l m ∧ (maxF l m = 0 ↔ m = 0 ∧ ∀ x ∈ l, x = 0)
  | [], m, hm, _ => by simp [maxF, hm]
  | x :: xs, m, hm, hx => by
    have hx0 := hx x (by simp)
    have hmx : 0 ≤ mx m x ∧ (mx m x = 0 ↔ m = 0 ∧ x = 0) := by unfold mx; split <;> omega
    obtain ⟨h1, h2⟩ := maxF_zero xs (mx m x) hmx.1 fun y hy => hx y (by simp [hy])
    refine ⟨h1, ?_⟩
    simp only [maxF, h2, hmx.2, List.mem_cons, forall_eq_or_imp, and_assoc]
theorem max_run (l : List Int) (hl : l.length ≤ 1048576) : ∀ (d i : Nat) (m : Int), l.length - i = d → i ≤ l.length → Ev (fun k => slices_Max_int_int.l0 k l m i) (maxF (l.drop i) m)
  | 0, i, m, hd, hi => by
    refine Ev.s ?_
    simp only [slices_Max_int_int.l0, show ¬ (i : Int) < (l.length : Int) by omega, if_false]
    rw [List.drop_eq_nil_of_le (by omega)]
    exact Ev.const rfl
  | d + 1, i, m, hd, hi => by
    have hlt : i < l.length := by omega
    refine Ev.s ?_
    simp only [slices_Max_int_int.l0, show (i : Int) < (l.length : Int) by omega, show (0 : Int) ≤ (i : Int) by omega, if_true]
    rw [w64 (x := (i : Int) + 1) (by omega) (by omega), show ((i : Int) + 1) = ((i + 1 : Nat) : Int) by omega, List.drop_eq_getElem_cons hlt, rd_lt l i hlt]
    exact max_run l hl d (i + 1) _ (by omega) (by omega)
theorem max_ev (l : List Int) (hl : l.length ≤ 1048576) (h1 : 1 ≤ l.length) (h0 : ∀ x ∈ l, 0 ≤ x) : ∃ m, Ev (fun k => slices_Max_int_int.f k l) m ∧ (m = 0 ↔ ∀ x ∈ l, x = 0) := by
  cases l with
  | nil => simp at h1
  | cons x xs =>
    refine ⟨maxF xs x, ?_, ?_⟩
    · unfold slices_Max_int_int.f
      simp only [show ¬ (((x :: xs).length : Nat) : Int) < 1 by omega, show (0 : Int) < (((x :: xs).length : Nat) : Int) by omega, if_true, if_false]
      exact max_run (x :: xs) hl _ 1 x rfl h1
    · rw [(maxF_zero xs x (h0 x (by simp)) fun y hy => h0 y (by simp [hy])).2]
      simp
theorem specFlip_run (t f : List Int) (hf : isPerm f) : ∀ (d i : Nat), f.length - i = d → i ≤ f.length →
    ((∀ q : Nat, i ≤ q → q < f.length → flipAt f q) → ∀ r, Ev (fun k => (spec_l1Orbits.f k t f).bind fun o => spec_MapValid.l1 k o 0) r → Ev (fun k => spec_MapValid.l0 k i t f) r) ∧ (¬ (∀ q : Nat, i ≤ q → q < f.length → flipAt f q) → Ev (fun k => spec_MapValid.l0 k i t f) false)
  | 0, i, hd, hi => by
    refine ⟨fun _ r h => Ev.s ?_, fun h => absurd (fun q h1 h2 => by omega) h⟩
    simp only [spec_MapValid.l0, show ¬ (i : Int) < (f.length : Int) by omega, if_false]
    exact h
  | d + 1, i, hd, hi => by
    have hlt : i < f.length := by omega
    have hl12 := hf.2.1
    have hr := (isPerm_inR f hf).2 i hlt
    have ih := specFlip_run t f hf d (i + 1) (by omega) (by omega)
    have hw : wrap64 ((i : Int) + 1) = ((i + 1 : Nat) : Int) := by rw [w64 (by omega) (by omega)]; omega
    have g1 : (i : Int) < (f.length : Int) := by omega
    have g2 : (0 : Int) ≤ (i : Int) := by omega
    by_cases c1 : rd f i = i
    · refine ⟨fun h => absurd c1 (h i (Nat.le_refl _) hlt).1, fun h => Ev.s ?_⟩
      simp only [spec_MapValid.l0, g1, g2, c1, if_true]
      exact Ev.const rfl
    · by_cases c2 : rd f (rd f i) = i
      · refine ⟨fun h r hr' => Ev.s ?_, fun h => Ev.s ?_⟩
        · simp only [spec_MapValid.l0, g1, g2, c1, c2, hr.1, hr.2, if_true, if_false, hw]
          exact ih.1 (fun q h1 h2 => h q (by omega) h2) r hr'
        · simp only [spec_MapValid.l0, g1, g2, c1, c2, hr.1, hr.2, if_true, if_false, hw]
          refine ih.2 fun h' => h fun q h1 h2 => ?_
          by_cases e : q = i
          · rw [e]; exact ⟨c1, c2⟩
          · exact h' q (by omega) h2
      · refine ⟨fun h => absurd (h i (Nat.le_refl _) hlt).2 c2, fun h => Ev.s ?_⟩
        simp only [spec_MapValid.l0, g1, g2, c1, c2, hr.1, hr.2, if_true, if_false]
        exact Ev.const rfl
theorem implFlip_run (t f : List Int) (hf : isPerm f) : ∀ (d i : Nat), f.length - i = d → i ≤ f.length →
    ((∀ q : Nat, i ≤ q → q < f.length → flipAt f q) → ∀ r, Ev (fun k => (impl_orbits.f k [t, f]).bind fun o => (slices_Max_int_int.f k o).bind fun m => some (m == 0)) r → Ev (fun k => impl_MapValid.l0 k f f.length i t f) r) ∧ (¬ (∀ q : Nat, i ≤ q → q < f.length → flipAt f q) → Ev (fun k => impl_MapValid.l0 k f f.length i t f) false)
  | 0, i, hd, hi => by
    refine ⟨fun _ r h => Ev.s ?_, fun h => absurd (fun q h1 h2 => by omega) h⟩
    simp only [impl_MapValid.l0, show ¬ (i : Int) < (f.length : Int) by omega, if_false]
    exact h
  | d + 1, i, hd, hi => by
    have hlt : i < f.length := by omega
    have hl12 := hf.2.1
    have hr := (isPerm_inR f hf).2 i hlt
    have ih := implFlip_run t f hf d (i + 1) (by omega) (by omega)
    have hw : wrap64 ((i : Int) + 1) = ((i + 1 : Nat) : Int) := by rw [w64 (by omega) (by omega)]; omega
    have g1 : (i : Int) < (f.length : Int) := by omega
    have g2 : (0 : Int) ≤ (i : Int) := by omega
    by_cases c1 : rd f i = i
    · refine ⟨fun h => absurd c1 (h i (Nat.le_refl _) hlt).1, fun h => Ev.s ?_⟩
      simp only [impl_MapValid.l0, g1, g2, c1, if_true]
      exact Ev.const rfl
    · by_cases c2 : rd f (rd f i) = i
      · refine ⟨fun h r hr' => Ev.s ?_, fun h => Ev.s ?_⟩
        · simp only [impl_MapValid.l0, g1, g2, c1, c2, hr.1, hr.2, if_true, if_false, hw]
          exact ih.1 (fun q h1 h2 => h q (by omega) h2) r hr'
        · simp only [impl_MapValid.l0, g1, g2, c1, c2, hr.1, hr.2, if_true, if_false, hw]
          refine ih.2 fun h' => h fun q h1 h2 => ?_
          by_cases e : q = i
          · rw [e]; exact ⟨c1, c2⟩
          · exact h' q (by omega) h2
      · refine ⟨fun h => absurd (h i (Nat.le_refl _) hlt).2 c2, fun h => Ev.s ?_⟩
        simp only [impl_MapValid.l0, g1, g2, c1, c2, hr.1, hr.2, if_true, if_false]
        exact Ev.const rfl
theorem zero_run (o : List Int) (hl : o.length ≤ 1048576) : ∀ (d i : Nat), o.length - i = d → i ≤ o.length →
    ((∀ q : Nat, i ≤ q → q < o.length → rd o q = 0) → Ev (fun k => spec_MapValid.l1 k o i) true) ∧ (¬ (∀ q : Nat, i ≤ q → q < o.length → rd o q = 0) → Ev (fun k => spec_MapValid.l1 k o i) false)
  | 0, i, hd, hi => by
    refine ⟨fun _ => Ev.s ?_, fun h => absurd (fun q h1 h2 => by omega) h⟩
    simp only [spec_MapValid.l1, show ¬ (i : Int) < (o.length : Int) by omega, if_false]
    exact Ev.const rfl
  | d + 1, i, hd, hi => by
    have hlt : i < o.length := by omega
    have ih := zero_run o hl d (i + 1) (by omega) (by omega)
    have hw : wrap64 ((i : Int) + 1) = ((i + 1 : Nat) : Int) := by rw [w64 (by omega) (by omega)]; omega
    have g1 : (i : Int) < (o.length : Int) := by omega
    have g2 : (0 : Int) ≤ (i : Int) := by omega
    by_cases c : rd o i = 0
    · refine ⟨fun h => Ev.s ?_, fun h => Ev.s ?_⟩
      · simp only [spec_MapValid.l1, g1, g2, c, if_true, hw]
        exact ih.1 fun q h1 h2 => h q (by omega) h2
      · simp only [spec_MapValid.l1, g1, g2, c, if_true, hw]
        refine ih.2 fun h' => h fun q h1 h2 => ?_
        by_cases e : q = i
        · rw [e]; exact c
        · exact h' q (by omega) h2
    · refine ⟨fun h => absurd (h i (Nat.le_refl _) hlt) c, fun h => Ev.s ?_⟩
      simp only [spec_MapValid.l1, g1, g2, c, if_true, if_false]
      exact Ev.const rfl
theorem orb_zero (t f : List Int) (n : Nat) (h1 : 1 ≤ n) (ht : inR n t) (hf : inR n f) (o : List Int) (ho : orbOk [t, f] n o) : (∀ q : Nat, q < n → rd o q = 0) ↔ ∀ i j : Nat, i < n → j < n → Reach [t, f] n i j := by
  have hps : ∀ p ∈ [t, f], inR n p := by intro p hp; simp at hp; rcases hp with rfl | rfl <;> assumption
  constructor
  · intro h i j hi hj
    have e1 := (ho.1.2 i hi).2.2
    have e2 := (ho.1.2 j hj).2.2
    rw [h i hi] at e1
    rw [h j hj] at e2
    exact e1.symm.trans e2
  · intro h q hq
    have := orbOk_const ho hps (h q 0 hq (by omega))
    have h0 := ho.1.2 0 (by omega)
    omega
theorem mapValid_both (t f : List Int) (ht : t.length ≤ 1048576) (hf : f.length ≤ 1048576) : ∃ b : Bool, Ev (fun k => spec_MapValid.f k t f) b ∧ Ev (fun k => impl_MapValid.f k t f) b ∧ (b = true ↔ isMap t f) := by
  obtain ⟨bt, t1, t2, t3⟩ := permValid_both t ht
  obtain ⟨bf, f1, f2, f3⟩ := permValid_both f hf
  have hb : ∀ b : Bool, (∃ c : Bool, Ev (fun k => spec_l1Both.f k t f) c ∧ (c = true ↔ isPerm t ∧ isPerm f ∧ t.length = f.length)) := fun _ => by
    unfold spec_l1Both.f
    cases bt with
    | false => exact ⟨false, Ev.bind t1 (Ev.const rfl), ⟨fun h => (by cases h), fun h => absurd (t3.2 h.1) (by decide)⟩⟩
    | true =>
      cases bf with
      | false => exact ⟨false, Ev.bind t1 (by simp only [if_true]; exact Ev.bind f1 (Ev.const rfl)), ⟨fun h => (by cases h), fun h => absurd (f3.2 h.2.1) (by decide)⟩⟩
      | true => exact ⟨((t.length : Int) == (f.length : Int)), Ev.bind t1 (by simp only [if_true]; exact Ev.bind f1 (Ev.const rfl)), ⟨fun h => ⟨t3.1 rfl, f3.1 rfl, by have := beq_iff_eq.1 h; omega⟩, fun h => by rw [beq_iff_eq]; omega⟩⟩
  obtain ⟨c, c1, c2⟩ := hb true
  by_cases hall : isPerm t ∧ isPerm f ∧ t.length = f.length
  · obtain ⟨pt, pf, hlen⟩ := hall
    have hc : c = true := c2.2 ⟨pt, pf, hlen⟩
    subst hc
    have hbt : bt = true := t3.2 pt
    have hbf : bf = true := f3.2 pf
    subst hbt; subst hbf
    have hne : (((t.length : Int)) != (f.length : Int)) = false := by rw [bne_eq_false_iff_eq]; omega
    have hrt : inR f.length t := by have := isPerm_inR t pt; rwa [hlen] at this
    have hrf := isPerm_inR f pf
    obtain ⟨o, o1, o2, o3⟩ := orb_both t f f.length pf.2.1 pf.1 hrt hrf
    have hS : ∀ r, Ev (fun k => spec_MapValid.l0 k 0 t f) r → Ev (fun k => spec_MapValid.f k t f) r := fun r h => by
      unfold spec_MapValid.f
      refine Ev.bind c1 ?_
      simp only [if_true]
      exact h
    have hI : ∀ r, Ev (fun k => impl_MapValid.l0 k f f.length 0 t f) r → Ev (fun k => impl_MapValid.f k t f) r := fun r h => by
      unfold impl_MapValid.f
      refine Ev.bind t2 ?_
      simp only [if_true]
      refine Ev.bind f2 ?_
      simp only [if_true, hne]
      refine Ev.s ?_
      simp only [impl_MapValid.j0, Bool.false_eq_true, if_false]
      exact h
    have sF := specFlip_run t f pf f.length 0 (by omega) (by omega)
    have iF := implFlip_run t f pf f.length 0 (by omega) (by omega)
    by_cases hfl : ∀ q : Nat, 0 ≤ q → q < f.length → flipAt f q
    · have zr := zero_run o (by rw [o1.1.1]; omega) o.length 0 (by omega) (by omega)
      have oz := orb_zero t f f.length pf.1 hrt hrf o o1
      obtain ⟨m, m1, m2⟩ := max_ev o (by rw [o1.1.1]; omega) (by rw [o1.1.1]; exact pf.1) (fun x hx => by
        obtain ⟨i, hi, rfl⟩ := List.mem_iff_getElem.1 hx
        have := (o1.1.2 i (by rw [← o1.1.1]; exact hi)).1
        rwa [rd_lt o i hi] at this)
      have hmz : m = 0 ↔ ∀ q : Nat, 0 ≤ q → q < o.length → rd o q = 0 := by
        rw [m2]
        constructor
        · intro h q _ hq
          rw [rd_lt o q hq]
          exact h _ (List.getElem_mem hq)
        · intro h x hx
          obtain ⟨i, hi, rfl⟩ := List.mem_iff_getElem.1 hx
          have := h i (by omega) hi
          rwa [rd_lt o i hi] at this
      by_cases hz : ∀ q : Nat, 0 ≤ q → q < o.length → rd o q = 0
      · refine ⟨true, hS _ (sF.1 hfl _ (Ev.bind o2 (zr.1 hz))), hI _ (iF.1 hfl _ (Ev.bind o3 (Ev.bind m1 (Ev.const ?_)))), ?_⟩
        · rw [hmz.2 hz]; rfl
        · refine ⟨fun _ => ⟨pt, pf, hlen, fun i hi => hfl i (by omega) hi, oz.1 fun q hq => hz q (by omega) (by rw [o1.1.1]; exact hq)⟩, fun _ => rfl⟩
      · refine ⟨false, hS _ (sF.1 hfl _ (Ev.bind o2 (zr.2 hz))), hI _ (iF.1 hfl _ (Ev.bind o3 (Ev.bind m1 (Ev.const ?_)))), ?_⟩
        · have : ¬ m = 0 := fun e => hz (hmz.1 e)
          simp [this]
        · exact ⟨fun h => (by cases h), fun h => absurd (fun q _ hq => oz.2 h.2.2.2.2 q (by rw [← o1.1.1]; exact hq)) hz⟩
    · exact ⟨false, hS _ (sF.2 hfl), hI _ (iF.2 hfl), ⟨fun h => (by cases h), fun h => absurd (fun q _ hq => h.2.2.2.1 q hq) hfl⟩⟩
  · have hc : c = false := by
      cases c with
      | false => rfl
      | true => exact absurd (c2.1 rfl) hall
    subst hc
    refine ⟨false, ?_, ?_, ⟨fun h => (by cases h), fun h => absurd ⟨h.1, h.2.1, h.2.2.1⟩ hall⟩⟩
    · unfold spec_MapValid.f
      exact Ev.bind c1 (Ev.const rfl)
    · have hj : Ev (fun k => impl_MapValid.j0 k true t f) false := by
        refine Ev.s ?_
        simp only [impl_MapValid.j0, if_true]
        exact Ev.const rfl
      unfold impl_MapValid.f
      refine Ev.bind t2 ?_
      cases bt with
      | false => simp only [Bool.false_eq_true, if_false]; exact hj
      | true =>
        simp only [if_true]
        refine Ev.bind f2 ?_
        cases bf with
        | false => simp only [Bool.false_eq_true, if_false]; exact hj
        | true =>
          have hne : (((t.length : Int)) != (f.length : Int)) = true := by
            rw [bne_iff_ne]
            intro e
            exact hall ⟨t3.1 rfl, f3.1 rfl, by omega⟩
          simp only [if_true, hne]
          exact hj
theorem rd_range (h : Nat → Int) (n d : Nat) (hd : d < n) : rd ((List.range n).map h) (d : Int) = h d := by
  rw [rd_lt _ _ (by simp; exact hd)]; simp
def cmpL (t p : List Int) (n : Nat) : List Int := (List.range n).map fun (d : Nat) => rd t (rd p (d : Int))
theorem cmpL_rd (t p : List Int) (n d : Nat) (h : d < n) : rd (cmpL t p n) (d : Int) = rd t (rd p (d : Int)) := rd_range _ n d h
theorem cmpL_inR (t p : List Int) (n : Nat) (ht : inR n t) (hp : inR n p) : inR n (cmpL t p n) := ⟨by simp [cmpL], fun i hi => by
  rw [cmpL_rd _ _ _ _ hi]
  have h1 := hp.2 i hi
  have h2 := ht.2 (rd p i).toNat (by omega)
  rwa [show ((rd p i).toNat : Int) = rd p i by omega] at h2⟩
theorem cmpL_inj (t p : List Int) (n : Nat) (ht : inR n t) (hti : injR n t) (hp : inR n p) (hpi : injR n p) : injR n (cmpL t p n) := fun i j hi hj e => by
  rw [cmpL_rd _ _ _ _ hi, cmpL_rd _ _ _ _ hj] at e
  have h1 := hp.2 i hi
  have h2 := hp.2 j hj
  refine hpi i j hi hj ?_
  have := hti (rd p i).toNat (rd p j).toNat (by omega) (by omega) (by rw [show ((rd p i).toNat : Int) = rd p i by omega, show ((rd p j).toNat : Int) = rd p j by omega]; exact e)
  omega
def fpL (f : List Int) (n m : Nat) : List Int := (List.range n).map fun (d : Nat) => if d < m ∨ rd f (d : Int) < (m : Int) then rd f (d : Int) else (d : Int)
theorem fpL_rd (f : List Int) (n m d : Nat) (h : d < n) : rd (fpL f n m) (d : Int) = if d < m ∨ rd f (d : Int) < (m : Int) then rd f (d : Int) else (d : Int) := rd_range _ n d h
theorem fpL_inR (f : List Int) (n m : Nat) (hf : inR n f) : inR n (fpL f n m) := ⟨by simp [fpL], fun i hi => by
  rw [fpL_rd _ _ _ _ hi]
  have := hf.2 i hi
  split <;> omega⟩
theorem fpL_inj (f : List Int) (n m : Nat) (hf : inR n f) (hfl : ∀ i : Nat, i < n → flipAt f i) : injR n (fpL f n m) := fun i j hi hj e => by
  have back : ∀ d : Nat, d < n → rd (fpL f n m) (rd (fpL f n m) (d : Int)) = d := by
    intro d hd
    have h1 := hf.2 d hd
    have h2 := (hfl d hd).2
    obtain ⟨b, hb⟩ : ∃ b : Nat, rd f d = b := ⟨(rd f d).toNat, by omega⟩
    rw [fpL_rd _ _ _ d hd, hb]
    rw [hb] at h1 h2
    by_cases c : d < m ∨ (b : Int) < (m : Int)
    · rw [if_pos c, fpL_rd _ _ _ b (by omega), h2, if_pos (by omega)]
    · rw [if_neg c, fpL_rd _ _ _ d hd, hb, if_neg c]
  have := congrArg (rd (fpL f n m)) e
  rw [back i hi, back j hj] at this
  omega
def kE (f : List Int) : Nat → Nat
  | 0 => 0
  | m + 1 => if (m : Int) < rd f (m : Int) then kE f m + 1 else kE f m
def keepGo (f : List Int) : Nat → Nat
  | 0 => 0
  | m + 1 => if rd f (m : Int) < (m : Int) then keepGo f m + 1 else keepGo f m
theorem kE_cnt (f : List Int) (n : Nat) : ∀ m, m ≤ n → Cnt n (fun d => d < m ∧ (d : Int) < rd f (d : Int)) (kE f m)
  | 0, _ => ⟨[], List.nodup_nil, fun x => by simp, rfl⟩
  | m + 1, hm => by
    obtain ⟨L, h1, h2, h3⟩ := kE_cnt f n m (by omega)
    simp only [kE]
    by_cases c : (m : Int) < rd f (m : Int)
    · rw [if_pos c]
      refine ⟨m :: L, List.nodup_cons.2 ⟨fun z => by have := ((h2 m).1 z).2.1; omega, h1⟩, fun x => ?_, by simp [h3]⟩
      rw [List.mem_cons, h2]
      constructor
      · rintro (rfl | ⟨a, b, b'⟩)
        · exact ⟨by omega, by omega, c⟩
        · exact ⟨a, by omega, b'⟩
      · rintro ⟨a, b, b'⟩
        by_cases e : x = m
        · exact .inl e
        · exact .inr ⟨a, by omega, b'⟩
    · rw [if_neg c]
      refine ⟨L, h1, fun x => ?_, h3⟩
      rw [h2]
      constructor
      · rintro ⟨a, b, b'⟩; exact ⟨a, by omega, b'⟩
      · rintro ⟨a, b, b'⟩
        by_cases e : x = m
        · subst e; exact absurd b' c
        · exact ⟨a, by omega, b'⟩
theorem kG_cnt (f : List Int) (n : Nat) : ∀ m, m ≤ n → Cnt n (fun d => d < m ∧ rd f (d : Int) < (d : Int)) (keepGo f m)
  | 0, _ => ⟨[], List.nodup_nil, fun x => by simp, rfl⟩
  | m + 1, hm => by
    obtain ⟨L, h1, h2, h3⟩ := kG_cnt f n m (by omega)
    simp only [keepGo]
    by_cases c : rd f (m : Int) < (m : Int)
    · rw [if_pos c]
      refine ⟨m :: L, List.nodup_cons.2 ⟨fun z => by have := ((h2 m).1 z).2.1; omega, h1⟩, fun x => ?_, by simp [h3]⟩
      rw [List.mem_cons, h2]
      constructor
      · rintro (rfl | ⟨a, b, b'⟩)
        · exact ⟨by omega, by omega, c⟩
        · exact ⟨a, by omega, b'⟩
      · rintro ⟨a, b, b'⟩
        by_cases e : x = m
        · exact .inl e
        · exact .inr ⟨a, by omega, b'⟩
    · rw [if_neg c]
      refine ⟨L, h1, fun x => ?_, h3⟩
      rw [h2]
      constructor
      · rintro ⟨a, b, b'⟩; exact ⟨a, by omega, b'⟩
      · rintro ⟨a, b, b'⟩
        by_cases e : x = m
        · subst e; exact absurd b' c
        · exact ⟨a, by omega, b'⟩
theorem kEG (f : List Int) (n : Nat) (hfl : ∀ i : Nat, i < n → flipAt f i) : ∀ m, m ≤ n → kE f m + keepGo f m = m
  | 0, _ => rfl
  | m + 1, hm => by
    have ih := kEG f n hfl m (by omega)
    have hne := (hfl m (by omega)).1
    simp only [kE, keepGo]
    split <;> split <;> omega
theorem kE_half (f : List Int) (n : Nat) (hf : inR n f) (hfl : ∀ i : Nat, i < n → flipAt f i) : 2 * kE f n = n := by
  have h1 := kEG f n hfl n (Nat.le_refl _)
  have c1 := kE_cnt f n n (Nat.le_refl _)
  have c2 := kG_cnt f n n (Nat.le_refl _)
  have fin : ∀ x y : Nat, x < n → y < n → (rd f x).toNat = (rd f y).toNat → x = y := fun x y hx hy e => by
    have r1 := hf.2 x hx
    have r2 := hf.2 y hy
    have e1 := (hfl x hx).2
    have e2 := (hfl y hy).2
    rw [show rd f x = rd f y by omega, e2] at e1
    omega
  have cast : ∀ x : Nat, x < n → ((rd f x).toNat : Int) = rd f x := fun x hx => by have := hf.2 x hx; omega
  have l1 := c1.le c2 (fun d => (rd f d).toNat) (fun x hx hp => by
    have r1 := hf.2 x hx
    refine ⟨by omega, by omega, ?_⟩
    rw [cast x hx, (hfl x hx).2]
    exact hp.2) (fun x y hx _ hy _ e => fin x y hx hy e)
  have l2 := c2.le c1 (fun d => (rd f d).toNat) (fun x hx hp => by
    have r1 := hf.2 x hx
    refine ⟨by omega, by omega, ?_⟩
    rw [cast x hx, (hfl x hx).2]
    exact hp.2) (fun x y hx _ hy _ e => fin x y hx hy e)
  omega
theorem cmp_reach (t p : List Int) (n : Nat) (hp : inR n p) (x y : Nat) (h : Reach [cmpL t p n] n x y) : Reach [t, p] n x y := by
  intro S hS
  refine h S fun q hq k hk => ?_
  rw [List.mem_singleton.1 hq, cmpL_rd t p n k hk]
  have fr := hp.2 k hk
  have h1 := hS p (by simp) k hk
  have h2 := hS t (by simp) (rd p k).toNat (by omega)
  rw [show (((rd p k).toNat : Nat) : Int) = rd p k by omega] at h2
  exact h1.trans h2
theorem euler_run (t f : List Int) (n : Nat) (ht : inR n t) (hti : injR n t) (hf : inR n f) (hfl : ∀ i : Nat, i < n → flipAt f i) : ∀ m, m ≤ n →
    ∃ P V S g, Cl n (Reach [t, fpL f n m] n) P ∧ Cl n (Reach [t] n) V ∧ Cl n (Reach [cmpL t (fpL f n m) n] n) S ∧ 2 * P + kE f m = V + S + 2 * g
  | 0, _ => by
    obtain ⟨V, hV, _⟩ := Cl.ex n (Reach [t] n)
    have e0 : ∀ k : Nat, k < n → rd (fpL f n 0) (k : Int) = k := fun k hk => by
      rw [fpL_rd _ _ _ _ hk, if_neg]
      have := hf.2 k hk
      omega
    have e1 : ∀ x y, Reach [t, fpL f n 0] n x y ↔ Reach [t] n x y := by
      intro x y
      constructor
      · intro h S hS
        refine h S fun p hp k hk => ?_
        rcases List.mem_cons.1 hp with rfl | hp
        · exact hS p (by simp) k hk
        · rw [List.mem_singleton.1 hp, e0 k hk, Int.toNat_natCast]
      · intro h S hS
        exact h S fun p hp k hk => by rw [List.mem_singleton.1 hp]; exact hS t (by simp) k hk
    have e2 : cmpL t (fpL f n 0) n = t := by
      refine list_ext _ _ (by simp [cmpL, ht.1]) fun d hd => ?_
      have hd' : d < n := by simpa [cmpL] using hd
      rw [cmpL_rd _ _ _ _ hd', e0 d hd']
    exact ⟨V, V, V, 0, Cnt.congr hV fun x hx => ⟨fun z i hi hr => z i hi ((e1 i x).1 hr), fun z i hi hr => z i hi ((e1 i x).2 hr)⟩, hV, by rw [e2]; exact hV, by simp only [kE]; omega⟩
  | m + 1, hm => by
    obtain ⟨P, V, S, g, hP, hV, hS, hE⟩ := euler_run t f n ht hti hf hfl m (by omega)
    have hmn : m < n := by omega
    have fm := hf.2 m hmn
    have fl := hfl m hmn
    obtain ⟨b, hb⟩ : ∃ b : Nat, rd f m = b := ⟨(rd f m).toNat, by omega⟩
    rw [hb] at fm
    have fl1 : (b : Int) ≠ m := by have := fl.1; rwa [hb] at this
    have fl2 : rd f b = m := by have := fl.2; rwa [hb] at this
    have hbn : b < n := by omega
    have inv : ∀ d : Nat, d < n → rd f d = m → d = b := fun d hd e => by
      have := (hfl d hd).2
      rw [e, hb] at this
      omega
    by_cases c : b < m
    · have e : fpL f n (m + 1) = fpL f n m := by
        refine list_ext _ _ (by simp [fpL]) fun d hd => ?_
        have hd' : d < n := by simpa [fpL] using hd
        have hfd := hf.2 d hd'
        rw [fpL_rd _ _ _ _ hd', fpL_rd _ _ _ _ hd']
        by_cases c1 : d < m ∨ rd f d < m
        · rw [if_pos c1, if_pos (by omega)]
        · by_cases c2 : d = m
          · subst c2; exact absurd (.inr (by omega)) c1
          · by_cases c3 : rd f d = m
            · exact absurd (inv d hd' c3) (by omega)
            · rw [if_neg c1, if_neg (by omega)]
      rw [e]
      refine ⟨P, V, S, g, hP, hV, hS, ?_⟩
      simp only [kE]
      rw [if_neg (by omega)]; exact hE
    · have hab : m ≠ b := by omega
      obtain ⟨P', hP', _⟩ := Cl.ex n (Reach [t, fpL f n (m + 1)] n)
      obtain ⟨S', hS', _⟩ := Cl.ex n (Reach [cmpL t (fpL f n (m + 1)) n] n)
      have p0 := fpL_inR f n m hf
      have p1 := fpL_inR f n (m + 1) hf
      have pa : rd (fpL f n m) (m : Int) = m := by rw [fpL_rd _ _ _ _ hmn, if_neg (by omega)]
      have pb : rd (fpL f n m) (b : Int) = b := by rw [fpL_rd _ _ _ _ hbn, if_neg (by omega)]
      have qa : rd (fpL f n (m + 1)) (m : Int) = b := by rw [fpL_rd _ _ _ _ hmn, if_pos (by omega), hb]
      have qb : rd (fpL f n (m + 1)) (b : Int) = m := by rw [fpL_rd _ _ _ _ hbn, if_pos (by omega), fl2]
      have qx : ∀ x : Nat, x < n → x ≠ m → x ≠ b → rd (fpL f n (m + 1)) (x : Int) = rd (fpL f n m) (x : Int) := fun x hx h1 h2 => by
        rw [fpL_rd _ _ _ _ hx, fpL_rd _ _ _ _ hx]
        have hne : rd f x ≠ m := fun e => h2 (inv x hx e)
        by_cases c1 : x < m ∨ rd f x < m
        · rw [if_pos c1, if_pos (by omega)]
        · rw [if_neg c1, if_neg (by omega)]
      have ex : Exch n (cmpL t (fpL f n m) n) (cmpL t (fpL f n (m + 1)) n) m b := by
        refine ⟨hmn, hbn, hab, ?_, ?_, fun x hx h1 h2 => ?_⟩
        · rw [cmpL_rd _ _ _ _ hmn, cmpL_rd _ _ _ _ hbn, qa, pb]
        · rw [cmpL_rd _ _ _ _ hmn, cmpL_rd _ _ _ _ hbn, qb, pa]
        · rw [cmpL_rd _ _ _ _ hx, cmpL_rd _ _ _ _ hx, qx x hx h1 h2]
      obtain ⟨s1, s2⟩ := exch_count (cmpL_inR t _ n ht p0) (cmpL_inR t _ n ht p1) (cmpL_inj t _ n ht hti p0 (fpL_inj f n m hf hfl)) (cmpL_inj t _ n ht hti p1 (fpL_inj f n (m + 1) hf hfl)) ex hS hS'
      have up : ∀ x y, Reach [t, fpL f n m] n x y → Reach [t, fpL f n (m + 1)] n x y := by
        intro x y h T hT
        refine h T fun p hp k hk => ?_
        rcases List.mem_cons.1 hp with rfl | hp
        · exact hT p (by simp) k hk
        · rw [List.mem_singleton.1 hp]
          by_cases k1 : k = m
          · subst k1; rw [pa, Int.toNat_natCast]
          · by_cases k2 : k = b
            · subst k2; rw [pb, Int.toNat_natCast]
            · rw [← qx k hk k1 k2]
              exact hT _ (by simp) k hk
      have hj : Reach [t, fpL f n (m + 1)] n m b := by
        have := Reach.step (ps := [t, fpL f n (m + 1)]) (p := fpL f n (m + 1)) (by simp) hmn
        rwa [qa, Int.toNat_natCast] at this
      have rel : ∀ x y, Reach [t, fpL f n (m + 1)] n x y ↔ Reach [t, fpL f n m] n x y ∨ (Reach [t, fpL f n m] n x m ∧ Reach [t, fpL f n m] n b y) ∨ (Reach [t, fpL f n m] n x b ∧ Reach [t, fpL f n m] n m y) := by
        intro x y
        constructor
        · intro h
          have hcl : closedL [t, fpL f n (m + 1)] n (fun z => Reach [t, fpL f n m] n x z ∨ (Reach [t, fpL f n m] n x m ∧ Reach [t, fpL f n m] n b z) ∨ (Reach [t, fpL f n m] n x b ∧ Reach [t, fpL f n m] n m z)) := by
            have same : ∀ k k' : Nat, Reach [t, fpL f n m] n k k' → ((Reach [t, fpL f n m] n x k ∨ (Reach [t, fpL f n m] n x m ∧ Reach [t, fpL f n m] n b k) ∨ (Reach [t, fpL f n m] n x b ∧ Reach [t, fpL f n m] n m k)) ↔ (Reach [t, fpL f n m] n x k' ∨ (Reach [t, fpL f n m] n x m ∧ Reach [t, fpL f n m] n b k') ∨ (Reach [t, fpL f n m] n x b ∧ Reach [t, fpL f n m] n m k'))) := fun k k' hr =>
              ⟨fun z => z.elim (fun z => .inl (z.trans hr)) fun z => z.elim (fun z => .inr (.inl ⟨z.1, z.2.trans hr⟩)) fun z => .inr (.inr ⟨z.1, z.2.trans hr⟩),
               fun z => z.elim (fun z => .inl (z.trans hr.symm)) fun z => z.elim (fun z => .inr (.inl ⟨z.1, z.2.trans hr.symm⟩)) fun z => .inr (.inr ⟨z.1, z.2.trans hr.symm⟩)⟩
            intro p hp k hk
            rcases List.mem_cons.1 hp with rfl | hp
            · exact same _ _ (Reach.step (by simp) hk)
            · rw [List.mem_singleton.1 hp]
              by_cases k1 : k = m
              · subst k1
                rw [qa, Int.toNat_natCast]
                constructor
                · rintro (z | z | z)
                  · exact .inr (.inl ⟨z, Reach.refl _ _ _⟩)
                  · exact .inr (.inl ⟨z.1, Reach.refl _ _ _⟩)
                  · exact .inl z.1
                · rintro (z | z | z)
                  · exact .inr (.inr ⟨z, Reach.refl _ _ _⟩)
                  · exact .inl z.1
                  · exact .inr (.inr ⟨z.1, Reach.refl _ _ _⟩)
              · by_cases k2 : k = b
                · subst k2
                  rw [qb, Int.toNat_natCast]
                  constructor
                  · rintro (z | z | z)
                    · exact .inr (.inr ⟨z, Reach.refl _ _ _⟩)
                    · exact .inl z.1
                    · exact .inr (.inr ⟨z.1, Reach.refl _ _ _⟩)
                  · rintro (z | z | z)
                    · exact .inr (.inl ⟨z, Reach.refl _ _ _⟩)
                    · exact .inr (.inl ⟨z.1, Reach.refl _ _ _⟩)
                    · exact .inl z.1
                · rw [qx k hk k1 k2]
                  exact same _ _ (Reach.step (by simp) hk)
          exact (h _ hcl).1 (.inl (Reach.refl _ _ _))
        · rintro (z | z | z)
          · exact up _ _ z
          · exact (up _ _ z.1).trans (hj.trans (up _ _ z.2))
          · exact (up _ _ z.1).trans (hj.symm.trans (up _ _ z.2))
      have hk : kE f (m + 1) = kE f m + 1 := by
        simp only [kE]
        rw [if_pos (by omega)]
      by_cases r : Reach [t, fpL f n m] n m b
      · have hPP : P' = P := Cl.uniq hP' (Cnt.congr hP fun x hx => ⟨fun z i hi hr => z i hi (by
          rcases (rel i x).1 hr with q | q | q
          · exact q
          · exact q.1.trans (r.trans q.2)
          · exact q.1.trans (r.symm.trans q.2)), fun z i hi hr => z i hi (up _ _ hr)⟩)
        by_cases q : Reach [cmpL t (fpL f n m) n] n m b
        · have := s2 q
          exact ⟨P', V, S', g, hP', hV, hS', by omega⟩
        · have := s1 q
          exact ⟨P', V, S', g + 1, hP', hV, hS', by omega⟩
      · have q : ¬ Reach [cmpL t (fpL f n m) n] n m b := fun q => r (cmp_reach t _ n p0 m b q)
        have h1 := s1 q
        obtain ⟨h2, h3⟩ := Cl.merge (S := Reach [t, fpL f n (m + 1)] n) (fun x => Reach.refl _ _ x) (fun _ _ h => h.symm) (fun _ _ _ h h' => h.trans h') hP m b hmn hbn r rel
        have := Cl.uniq hP' h3
        exact ⟨P', V, S', g, hP', hV, hS', by omega⟩
theorem euler (t f : List Int) (n : Nat) (ht : inR n t) (hti : injR n t) (hf : inR n f) (hfl : ∀ i : Nat, i < n → flipAt f i) (P V S : Nat) (hP : Cl n (Reach [t, f] n) P) (hV : Cl n (Reach [t] n) V) (hS : Cl n (Reach [cmpL t f n] n) S) :
    ∃ K g, 2 * K = n ∧ 2 * P + K = V + S + 2 * g := by
  obtain ⟨P', V', S', g, h1, h2, h3, h4⟩ := euler_run t f n ht hti hf hfl n (Nat.le_refl _)
  have e : fpL f n n = f := by
    refine list_ext _ _ (by simp [fpL, hf.1]) fun d hd => ?_
    have hd' : d < n := by simpa [fpL] using hd
    rw [fpL_rd _ _ _ _ hd', if_pos (by omega)]
  rw [e] at h1 h3
  rw [Cl.uniq hP h1, Cl.uniq hV h2, Cl.uniq hS h3]
  exact ⟨kE f n, g, kE_half f n hf hfl, h4⟩
def fx (f : List Int) (n : Nat) (ch : Nat → Bool) : List Int := (List.range n).map fun (d : Nat) => if ch d = true then rd f (d : Int) else (d : Int)
theorem fx_rd (f : List Int) (n : Nat) (ch : Nat → Bool) (d : Nat) (h : d < n) : rd (fx f n ch) (d : Int) = if ch d = true then rd f (d : Int) else (d : Int) := rd_range _ n d h
theorem fx_inR (f : List Int) (n : Nat) (ch : Nat → Bool) (hf : inR n f) : inR n (fx f n ch) := ⟨by simp [fx], fun i hi => by
  rw [fx_rd f n ch i hi]
  have := hf.2 i hi
  split <;> omega⟩
def invB (f : List Int) (n : Nat) (ch : Nat → Bool) : Prop := ∀ d : Nat, d < n → ch (rd f (d : Int)).toNat = ch d
theorem fx_inj (f : List Int) (n : Nat) (ch : Nat → Bool) (hf : inR n f) (hfl : ∀ i : Nat, i < n → flipAt f i) (hi : invB f n ch) : injR n (fx f n ch) := fun i j h1 h2 e => by
  rw [fx_rd f n ch i h1, fx_rd f n ch j h2] at e
  have a1 := hf.2 i h1
  have a2 := hf.2 j h2
  have b1 := hi i h1
  have b2 := hi j h2
  have f1 := (hfl i h1).2
  have f2 := (hfl j h2).2
  by_cases c1 : ch i = true <;> by_cases c2 : ch j = true
  · rw [if_pos c1, if_pos c2] at e
    rw [e] at f1
    omega
  · rw [if_pos c1, if_neg c2] at e
    rw [e, Int.toNat_natCast] at b1
    exact absurd (b1.trans c1) c2
  · rw [if_neg c1, if_pos c2] at e
    rw [← e, Int.toNat_natCast] at b2
    exact absurd (b2.trans c2) c1
  · rw [if_neg c1, if_neg c2] at e
    omega
section
variable (t f : List Int) (n : Nat) (ht : inR n t) (hti : injR n t) (hf : inR n f) (hfl : ∀ i : Nat, i < n → flipAt f i)
include ht hti hf hfl
theorem add_pair (ch ch' : Nat → Bool) (hi : invB f n ch) (hi' : invB f n ch') (a b : Nat) (ha : a < n) (hb : b < n) (e2 : rd f a = b) (ua : ch a = false) (hch : ∀ d : Nat, d < n → ch' d = (ch d || decide (d = a ∨ d = b)))
    (P S P' S' : Nat) (hP : Cl n (Reach [t, fx f n ch] n) P) (hS : Cl n (Reach [cmpL t (fx f n ch) n] n) S) (hP' : Cl n (Reach [t, fx f n ch'] n) P') (hS' : Cl n (Reach [cmpL t (fx f n ch') n] n) S') :
    (Reach [t, fx f n ch] n a b → P' = P) ∧ (¬ Reach [t, fx f n ch] n a b → P' + 1 = P) ∧ (¬ Reach [cmpL t (fx f n ch) n] n a b → S' + 1 = S) ∧ (Reach [cmpL t (fx f n ch) n] n a b → S' = S + 1) := by
  have e3 : rd f b = a := by rw [← e2]; exact (hfl a ha).2
  have hab : a ≠ b := fun e => (hfl a ha).1 (by rw [e2, e])
  have ub : ch b = false := by
    have := hi a ha
    rw [e2, Int.toNat_natCast] at this
    rw [this, ua]
  have fa : rd (fx f n ch) a = a := by rw [fx_rd f n ch a ha, ua]; simp
  have fb : rd (fx f n ch) b = b := by rw [fx_rd f n ch b hb, ub]; simp
  have fa' : rd (fx f n ch') a = b := by rw [fx_rd f n _ a ha, hch a ha]; simp [e2]
  have fb' : rd (fx f n ch') b = a := by rw [fx_rd f n _ b hb, hch b hb]; simp [e3]
  have fo : ∀ d : Nat, d < n → d ≠ a → d ≠ b → rd (fx f n ch') d = rd (fx f n ch) d := by
    intro d hd ka kb
    rw [fx_rd f n _ d hd, fx_rd f n _ d hd, hch d hd]
    simp [ka, kb]
  have rel : ∀ x y, Reach [t, fx f n ch'] n x y ↔ Reach [t, fx f n ch] n x y ∨ (Reach [t, fx f n ch] n x a ∧ Reach [t, fx f n ch] n b y) ∨ (Reach [t, fx f n ch] n x b ∧ Reach [t, fx f n ch] n a y) := by
    have up : ∀ x y, Reach [t, fx f n ch] n x y → Reach [t, fx f n ch'] n x y := by
      intro x y h S hS
      refine h S fun p hp k hk => ?_
      rcases List.mem_cons.1 hp with rfl | hp
      · exact hS p (by simp) k hk
      · rw [List.mem_singleton.1 hp]
        by_cases ka : k = a
        · subst ka; rw [fa, Int.toNat_natCast]
        · by_cases kb : k = b
          · subst kb; rw [fb, Int.toNat_natCast]
          · rw [← fo k hk ka kb]
            exact hS _ (by simp) k hk
    have uab : Reach [t, fx f n ch'] n a b := by
      have := Reach.step (ps := [t, fx f n ch']) (n := n) (p := fx f n ch') (by simp) ha
      rwa [fa', Int.toNat_natCast] at this
    intro x y
    constructor
    · intro h
      refine (h (fun z => Reach [t, fx f n ch] n x z ∨ (Reach [t, fx f n ch] n x a ∧ Reach [t, fx f n ch] n b z) ∨ (Reach [t, fx f n ch] n x b ∧ Reach [t, fx f n ch] n a z)) ?_).1 (.inl (Reach.refl _ _ _))
      intro p hp k hk
      rcases List.mem_cons.1 hp with rfl | hp
      · have s := Reach.step (ps := [p, fx f n ch]) (n := n) (p := p) (by simp) hk
        constructor
        · rintro (z | ⟨z1, z2⟩ | ⟨z1, z2⟩)
          · exact .inl (z.trans s)
          · exact .inr (.inl ⟨z1, z2.trans s⟩)
          · exact .inr (.inr ⟨z1, z2.trans s⟩)
        · rintro (z | ⟨z1, z2⟩ | ⟨z1, z2⟩)
          · exact .inl (z.trans s.symm)
          · exact .inr (.inl ⟨z1, z2.trans s.symm⟩)
          · exact .inr (.inr ⟨z1, z2.trans s.symm⟩)
      · rw [List.mem_singleton.1 hp]
        by_cases ka : k = a
        · subst ka
          rw [fa', Int.toNat_natCast]
          constructor
          · rintro (z | ⟨z1, z2⟩ | ⟨z1, z2⟩)
            · exact .inr (.inl ⟨z, Reach.refl _ _ _⟩)
            · exact .inr (.inl ⟨z1, Reach.refl _ _ _⟩)
            · exact .inl z1
          · rintro (z | ⟨z1, z2⟩ | ⟨z1, z2⟩)
            · exact .inr (.inr ⟨z, Reach.refl _ _ _⟩)
            · exact .inl z1
            · exact .inr (.inr ⟨z1, Reach.refl _ _ _⟩)
        · by_cases kb : k = b
          · subst kb
            rw [fb', Int.toNat_natCast]
            constructor
            · rintro (z | ⟨z1, z2⟩ | ⟨z1, z2⟩)
              · exact .inr (.inr ⟨z, Reach.refl _ _ _⟩)
              · exact .inl z1
              · exact .inr (.inr ⟨z1, Reach.refl _ _ _⟩)
            · rintro (z | ⟨z1, z2⟩ | ⟨z1, z2⟩)
              · exact .inr (.inl ⟨z, Reach.refl _ _ _⟩)
              · exact .inr (.inl ⟨z1, Reach.refl _ _ _⟩)
              · exact .inl z1
          · have s := Reach.step (ps := [t, fx f n ch]) (n := n) (p := fx f n ch) (by simp) hk
            rw [fo k hk ka kb]
            constructor
            · rintro (z | ⟨z1, z2⟩ | ⟨z1, z2⟩)
              · exact .inl (z.trans s)
              · exact .inr (.inl ⟨z1, z2.trans s⟩)
              · exact .inr (.inr ⟨z1, z2.trans s⟩)
            · rintro (z | ⟨z1, z2⟩ | ⟨z1, z2⟩)
              · exact .inl (z.trans s.symm)
              · exact .inr (.inl ⟨z1, z2.trans s.symm⟩)
              · exact .inr (.inr ⟨z1, z2.trans s.symm⟩)
    · rintro (z | ⟨z1, z2⟩ | ⟨z1, z2⟩)
      · exact up _ _ z
      · exact (up _ _ z1).trans (uab.trans (up _ _ z2))
      · exact (up _ _ z1).trans (uab.symm.trans (up _ _ z2))
  have ex : Exch n (cmpL t (fx f n ch) n) (cmpL t (fx f n ch') n) a b := by
    refine ⟨ha, hb, hab, ?_, ?_, fun x hx ka kb => ?_⟩
    · rw [cmpL_rd t _ n a ha, cmpL_rd t _ n b hb, fa', fb]
    · rw [cmpL_rd t _ n a ha, cmpL_rd t _ n b hb, fb', fa]
    · rw [cmpL_rd t _ n x hx, cmpL_rd t _ n x hx, fo x hx ka kb]
  have xc := exch_count (cmpL_inR t _ n ht (fx_inR f n ch hf)) (cmpL_inR t _ n ht (fx_inR f n ch' hf)) (cmpL_inj t _ n ht hti (fx_inR f n ch hf) (fx_inj f n ch hf hfl hi)) (cmpL_inj t _ n ht hti (fx_inR f n ch' hf) (fx_inj f n ch' hf hfl hi')) ex hS hS'
  refine ⟨fun h => ?_, fun h => ?_, xc.1, xc.2⟩
  · refine Cnt.same hP' hP fun x hx => ?_
    have : ∀ i, Reach [t, fx f n ch'] n i x ↔ Reach [t, fx f n ch] n i x := fun i => by
      rw [rel]
      exact ⟨fun z => z.elim id (fun z => z.elim (fun z => z.1.trans (h.trans z.2)) (fun z => z.1.trans (h.symm.trans z.2))), .inl⟩
    exact ⟨fun z i hi hr => z i hi ((this i).2 hr), fun z i hi hr => z i hi ((this i).1 hr)⟩
  · have := Cl.merge (S := Reach [t, fx f n ch'] n) (fun x => Reach.refl _ _ x) (fun _ _ h => h.symm) (fun _ _ _ h h' => h.trans h') hP a b ha hb h rel
    have u := Cl.uniq hP' this.2
    omega
theorem genus_bound : ∀ (m : Nat) (ch : Nat → Bool), invB f n ch → Cnt n (fun d => ch d = true) (2 * m) → ∀ P S V, Cl n (Reach [t, fx f n ch] n) P → Cl n (Reach [cmpL t (fx f n ch) n] n) S → Cl n (Reach [t] n) V → V + S ≤ 2 * P + m
  | 0, ch, hi, hc, P, S, V, hP, hS, hV => by
    have none : ∀ d, d < n → ¬ ch d = true := fun d hd h => by
      obtain ⟨L, l1, l2, l3⟩ := hc
      have := (l2 d).2 ⟨hd, h⟩
      rw [List.length_eq_zero_iff.1 l3] at this
      simp at this
    have ef : fx f n ch = stl n := by
      unfold fx stl
      refine List.map_congr_left fun d hd => ?_
      rw [if_neg (none d (List.mem_range.1 hd))]
    have et : cmpL t (fx f n ch) n = t := by
      refine list_ext _ _ (by rw [(cmpL_inR t _ n ht (fx_inR f n ch hf)).1, ht.1]) fun i hi => ?_
      rw [(cmpL_inR t _ n ht (fx_inR f n ch hf)).1] at hi
      rw [cmpL_rd t _ n i hi, ef, stl_rd n i hi]
    rw [et] at hS
    have e1 := Cl.uniq hS hV
    have e2 : P = V := Cnt.same hP hV fun x hx => by
      have : ∀ i, Reach [t, fx f n ch] n i x ↔ Reach [t] n i x := fun i => by
        constructor
        · intro h S hS
          refine h S fun p hp k hk => ?_
          rcases List.mem_cons.1 hp with rfl | hp
          · exact hS p (by simp) k hk
          · rw [List.mem_singleton.1 hp, ef, stl_rd n k hk, Int.toNat_natCast]
        · exact fun h S hS => h S fun p hp k hk => hS p (by rw [List.mem_singleton.1 hp]; simp) k hk
      exact ⟨fun z i hi hr => z i hi ((this i).2 hr), fun z i hi hr => z i hi ((this i).1 hr)⟩
    omega
  | m + 1, ch, hi, hc, P, S, V, hP, hS, hV => by
    obtain ⟨a, ha, ca⟩ : ∃ a, a < n ∧ ch a = true := by
      obtain ⟨L, l1, l2, l3⟩ := hc
      have : 0 < L.length := by omega
      have := (l2 L[0]).1 (List.getElem_mem this)
      exact ⟨_, this⟩
    have fa := hf.2 a ha
    have fi := hfl a ha
    obtain ⟨b, eb⟩ : ∃ b : Nat, rd f (a : Int) = b := ⟨(rd f (a : Int)).toNat, by omega⟩
    have hb : b < n := by omega
    have hab : a ≠ b := fun e => fi.1 (by rw [eb, e])
    have e3 : rd f (b : Int) = a := by rw [← eb]; exact fi.2
    have cb : ch b = true := by have := hi a ha; rw [eb, Int.toNat_natCast] at this; rw [this, ca]
    let ch0 : Nat → Bool := fun d => ch d && !decide (d = a ∨ d = b)
    have hi0 : invB f n ch0 := fun d hd => by
      have fd := hf.2 d hd
      have gd := hfl d hd
      show (ch (rd f (d : Int)).toNat && !decide ((rd f (d : Int)).toNat = a ∨ (rd f (d : Int)).toNat = b)) = (ch d && !decide (d = a ∨ d = b))
      rw [hi d hd]
      have : ((rd f (d : Int)).toNat = a ∨ (rd f (d : Int)).toNat = b) ↔ (d = a ∨ d = b) := by
        have en : (((rd f (d : Int)).toNat : Nat) : Int) = rd f (d : Int) := by omega
        constructor
        · rintro (h | h)
          · rw [h] at en; have g2 := gd.2; rw [← en, eb] at g2; right; omega
          · rw [h] at en; have g2 := gd.2; rw [← en, e3] at g2; left; omega
        · rintro (rfl | rfl)
          · right; rw [eb, Int.toNat_natCast]
          · left; rw [e3, Int.toNat_natCast]
      simp only [this]
    have c0 : Cnt n (fun d => ch0 d = true) (2 * m) := by
      have h1 := (hc.drop (Q := fun d => ch d = true ∧ d ≠ a) a ha ca fun x _ => Iff.rfl).2
      have h2 := (h1.drop (Q := fun d => (ch d = true ∧ d ≠ a) ∧ d ≠ b) b hb ⟨cb, fun e => hab e.symm⟩ fun x _ => Iff.rfl).2
      rw [show 2 * (m + 1) - 1 - 1 = 2 * m by omega] at h2
      refine h2.congr fun x hx => ?_
      show _ ↔ (ch x && !decide (x = a ∨ x = b)) = true
      simp only [Bool.and_eq_true, Bool.not_eq_true', decide_eq_false_iff_not, not_or, and_assoc]
    obtain ⟨P0, hP0, _⟩ := Cl.ex n (Reach [t, fx f n ch0] n)
    obtain ⟨S0, hS0, _⟩ := Cl.ex n (Reach [cmpL t (fx f n ch0) n] n)
    have ih := genus_bound m ch0 hi0 c0 P0 S0 V hP0 hS0 hV
    obtain ⟨q1, q2, q3, q4⟩ := add_pair t f n ht hti hf hfl ch0 ch hi0 hi a b ha hb eb (by show (ch a && !decide (a = a ∨ a = b)) = false; simp) (fun d hd => by
      show ch d = ((ch d && !decide (d = a ∨ d = b)) || decide (d = a ∨ d = b))
      by_cases h : d = a ∨ d = b
      · rw [decide_eq_true h]
        rcases h with rfl | rfl
        · simp [ca]
        · simp [cb]
      · rw [decide_eq_false h]; simp) P0 S0 P S hP0 hS0 hP hS
    by_cases r : Reach [t, fx f n ch0] n a b
    · have := q1 r
      by_cases r2 : Reach [cmpL t (fx f n ch0) n] n a b
      · have := q4 r2; omega
      · have := q3 r2; omega
    · have := q2 r
      have r2 : ¬ Reach [cmpL t (fx f n ch0) n] n a b := fun h => r (cmp_reach t _ n (fx_inR f n ch0 hf) a b h)
      have := q3 r2
      omega
theorem split_bound : ∀ (m : Nat) (ch : Nat → Bool), invB f n ch → Cnt n (fun d => ch d = false) (2 * m) → ∀ S F, Cl n (Reach [cmpL t (fx f n ch) n] n) S → Cl n (Reach [cmpL t f n] n) F → F ≤ S + m
  | 0, ch, hi, hc, S, F, hS, hF => by
    have all : ∀ d, d < n → ch d = true := fun d hd => by
      cases h : ch d with
      | true => rfl
      | false =>
        obtain ⟨L, l1, l2, l3⟩ := hc
        have := (l2 d).2 ⟨hd, h⟩
        rw [List.length_eq_zero_iff.1 l3] at this
        simp at this
    have ef : fx f n ch = f := list_ext _ _ (by rw [(fx_inR f n ch hf).1, hf.1]) fun i hi => by
      rw [(fx_inR f n ch hf).1] at hi
      rw [fx_rd f n ch i hi, if_pos (all i hi)]
    rw [ef] at hS
    have := Cl.uniq hS hF
    omega
  | m + 1, ch, hi, hc, S, F, hS, hF => by
    obtain ⟨a, ha, ca⟩ : ∃ a, a < n ∧ ch a = false := by
      obtain ⟨L, l1, l2, l3⟩ := hc
      have : 0 < L.length := by omega
      have := (l2 L[0]).1 (List.getElem_mem this)
      exact ⟨_, this⟩
    have fa := hf.2 a ha
    have fi := hfl a ha
    obtain ⟨b, eb⟩ : ∃ b : Nat, rd f (a : Int) = b := ⟨(rd f (a : Int)).toNat, by omega⟩
    have hb : b < n := by omega
    have hab : a ≠ b := fun e => fi.1 (by rw [eb, e])
    have e3 : rd f (b : Int) = a := by rw [← eb]; exact fi.2
    have cb : ch b = false := by have := hi a ha; rw [eb, Int.toNat_natCast] at this; rw [this, ca]
    let ch1 : Nat → Bool := fun d => ch d || decide (d = a ∨ d = b)
    have hi1 : invB f n ch1 := fun d hd => by
      have fd := hf.2 d hd
      have gd := hfl d hd
      show (ch (rd f (d : Int)).toNat || decide ((rd f (d : Int)).toNat = a ∨ (rd f (d : Int)).toNat = b)) = (ch d || decide (d = a ∨ d = b))
      rw [hi d hd]
      have : ((rd f (d : Int)).toNat = a ∨ (rd f (d : Int)).toNat = b) ↔ (d = a ∨ d = b) := by
        have en : (((rd f (d : Int)).toNat : Nat) : Int) = rd f (d : Int) := by omega
        constructor
        · rintro (h | h)
          · rw [h] at en; have g2 := gd.2; rw [← en, eb] at g2; right; omega
          · rw [h] at en; have g2 := gd.2; rw [← en, e3] at g2; left; omega
        · rintro (rfl | rfl)
          · right; rw [eb, Int.toNat_natCast]
          · left; rw [e3, Int.toNat_natCast]
      simp only [this]
    have c0 : Cnt n (fun d => ch1 d = false) (2 * m) := by
      have h1 := (hc.drop (Q := fun d => ch d = false ∧ d ≠ a) a ha ca fun x _ => Iff.rfl).2
      have h2 := (h1.drop (Q := fun d => (ch d = false ∧ d ≠ a) ∧ d ≠ b) b hb ⟨cb, fun e => hab e.symm⟩ fun x _ => Iff.rfl).2
      rw [show 2 * (m + 1) - 1 - 1 = 2 * m by omega] at h2
      refine h2.congr fun x hx => ?_
      show _ ↔ (ch x || decide (x = a ∨ x = b)) = false
      simp only [Bool.or_eq_false_iff, decide_eq_false_iff_not, not_or, and_assoc]
    obtain ⟨P0, hP0, _⟩ := Cl.ex n (Reach [t, fx f n ch] n)
    obtain ⟨P1, hP1, _⟩ := Cl.ex n (Reach [t, fx f n ch1] n)
    obtain ⟨S1, hS1, _⟩ := Cl.ex n (Reach [cmpL t (fx f n ch1) n] n)
    have ih := split_bound m ch1 hi1 c0 S1 F hS1 hF
    obtain ⟨q1, q2, q3, q4⟩ := add_pair t f n ht hti hf hfl ch ch1 hi hi1 a b ha hb eb ca (fun d hd => rfl) P0 S P1 S1 hP0 hS hP1 hS1
    by_cases r2 : Reach [cmpL t (fx f n ch) n] n a b
    · have := q4 r2; omega
    · have := q3 r2; omega
theorem plane_none (h1 : 1 ≤ n) (bad : Nat → Bool) (hi : invB f n bad) (hcon : ∀ i j : Nat, i < n → j < n → Reach [t, fx f n (fun d => !bad d)] n i j)
    (heven : ∀ x, x < n → bad x = true → ∃ y, y < n ∧ y ≠ x ∧ bad y = true ∧ Reach [cmpL t f n] n x y) (V F : Nat) (hV : Cl n (Reach [t] n) V) (hF : Cl n (Reach [cmpL t f n] n) F) (hE : 2 * V + 2 * F = 4 + n) : ∀ x, x < n → bad x = false := by
  classical
  intro x0 hx0
  cases hbx : bad x0 with
  | false => rfl
  | true =>
  exfalso
  have hiA : invB f n (fun d => !bad d) := fun d hd => by show (!bad _) = !bad d; rw [hi d hd]
  obtain ⟨B, hB, _⟩ := Cnt.ex (fun d => bad d = true) n
  obtain ⟨A, hA, _⟩ := Cnt.ex (fun d => (!bad d) = true) n
  -- both are even
  have pairs : ∀ (p : Nat → Bool), invB f n p → ∀ k, Cnt n (fun d => p d = true) k → k % 2 = 0 := by
    intro p hp k
    induction k using Nat.strongRecOn generalizing p with
    | ind k ih =>
      intro hk
      by_cases h0 : k = 0
      · subst h0; rfl
      · obtain ⟨a, ha, ca⟩ : ∃ a, a < n ∧ p a = true := by
          obtain ⟨L, l1, l2, l3⟩ := hk
          have : 0 < L.length := by omega
          have := (l2 L[0]).1 (List.getElem_mem this)
          exact ⟨_, this⟩
        have fa := hf.2 a ha
        have fi := hfl a ha
        obtain ⟨b, eb⟩ : ∃ b : Nat, rd f (a : Int) = b := ⟨(rd f (a : Int)).toNat, by omega⟩
        have hb : b < n := by omega
        have hab : a ≠ b := fun e => fi.1 (by rw [eb, e])
        have e3 : rd f (b : Int) = a := by rw [← eb]; exact fi.2
        have cb : p b = true := by have := hp a ha; rw [eb, Int.toNat_natCast] at this; rw [this, ca]
        have h1 := hk.drop (Q := fun d => p d = true ∧ d ≠ a) a ha ca fun x _ => Iff.rfl
        have h2 := h1.2.drop (Q := fun d => (p d = true ∧ d ≠ a) ∧ d ≠ b) b hb ⟨cb, fun e => hab e.symm⟩ fun x _ => Iff.rfl
        have := ih (k - 1 - 1) (by omega) (fun d => p d && !decide (d = a ∨ d = b)) (fun d hd => by
          have fd := hf.2 d hd
          have gd := hfl d hd
          show (p (rd f (d : Int)).toNat && !decide ((rd f (d : Int)).toNat = a ∨ (rd f (d : Int)).toNat = b)) = (p d && !decide (d = a ∨ d = b))
          rw [hp d hd]
          have : ((rd f (d : Int)).toNat = a ∨ (rd f (d : Int)).toNat = b) ↔ (d = a ∨ d = b) := by
            have en : (((rd f (d : Int)).toNat : Nat) : Int) = rd f (d : Int) := by omega
            constructor
            · rintro (h | h)
              · rw [h] at en; have g2 := gd.2; rw [← en, eb] at g2; right; omega
              · rw [h] at en; have g2 := gd.2; rw [← en, e3] at g2; left; omega
            · rintro (rfl | rfl)
              · right; rw [eb, Int.toNat_natCast]
              · left; rw [e3, Int.toNat_natCast]
          simp only [this]) (h2.2.congr fun x hx => by
            show _ ↔ (p x && !decide (x = a ∨ x = b)) = true
            simp only [Bool.and_eq_true, Bool.not_eq_true', decide_eq_false_iff_not, not_or, and_assoc])
        omega
  have eB := pairs bad hi B hB
  have eA := pairs _ hiA A hA
  have tot : A + B = n := by
    obtain ⟨L, l1, l2, l3⟩ := hA
    obtain ⟨M, m1, m2, m3⟩ := hB
    have a1 := len_le_of_sub (L ++ M) (List.range n) (List.nodup_append.2 ⟨l1, m1, fun a ha b hb e => by
      have x1 := ((l2 a).1 ha).2
      have x2 := ((m2 b).1 hb).2
      rw [e, x2] at x1
      cases x1⟩) (fun x hx => by
      rcases List.mem_append.1 hx with h | h
      · exact List.mem_range.2 ((l2 x).1 h).1
      · exact List.mem_range.2 ((m2 x).1 h).1)
    have a2 := len_le_of_sub (List.range n) (L ++ M) List.nodup_range (fun x hx => by
      have hx := List.mem_range.1 hx
      refine List.mem_append.2 ?_
      cases h : bad x with
      | true => exact .inr ((m2 x).2 ⟨hx, h⟩)
      | false => exact .inl ((l2 x).2 ⟨hx, by show (!bad x) = true; rw [h]; rfl⟩))
    rw [List.length_append, List.length_range] at a1 a2
    omega
  have hP : Cl n (Reach [t, fx f n (fun d => !bad d)] n) 1 := ⟨[0], by simp, fun x => by
    rw [List.mem_singleton]
    constructor
    · rintro rfl; exact ⟨by omega, fun i hi => absurd hi (by omega)⟩
    · rintro ⟨h1, h2⟩
      by_cases e : x = 0
      · exact e
      · exact absurd (hcon 0 x (by omega) h1) (h2 0 (by omega)), rfl⟩
  obtain ⟨S, hS, _⟩ := Cl.ex n (Reach [cmpL t (fx f n (fun d => !bad d)) n] n)
  have g1 := genus_bound t f n ht hti hf hfl (A / 2) _ hiA (by rw [show 2 * (A / 2) = A by omega]; exact hA) 1 S V hP hS hV
  have g2 := split_bound t f n ht hti hf hfl (B / 2) _ hiA (by
    rw [show 2 * (B / 2) = B by omega]
    exact hB.congr fun x hx => by cases bad x <;> simp) S F hS hF
  -- the faces that no bad edge meets, and one more
  let R := Reach [cmpL t f n] n
  let R' := Reach [cmpL t (fx f n (fun d => !bad d)) n] n
  have pR := cmpL_inR t f n ht hf
  have iR := cmpL_inj t f n ht hti hf (fun i j h1 h2 e => by
    have f1 := (hfl i h1).2
    have f2 := (hfl j h2).2
    rw [e] at f1
    omega)
  have pR' := cmpL_inR t _ n ht (fx_inR f n (fun d => !bad d) hf)
  have iR' := cmpL_inj t _ n ht hti (fx_inR f n (fun d => !bad d) hf) (fx_inj f n _ hf hfl hiA)
  have good : ∀ x, x < n → bad x = false → rd (cmpL t (fx f n (fun d => !bad d)) n) (x : Int) = rd (cmpL t f n) (x : Int) := fun x hx h => by
    rw [cmpL_rd t _ n x hx, cmpL_rd t _ n x hx, fx_rd f n _ x hx]
    simp [h]
  have iso : ∀ x, x < n → (∀ z, z < n → R x z → bad z = false) → ∀ z, (R' x z ↔ R x z) := by
    intro x hx hg z
    constructor
    · intro h
      exact (h _ (closed_of_fwd _ n pR' iR' (fun z => R x z) fun k hk hz => by
        rw [good k hk (hg k hk hz)]
        exact hz.trans (Reach.step (by simp) hk))).1 (Reach.refl _ _ _)
    · intro h
      exact ((h _ (closed_of_fwd _ n pR iR (fun z => R' x z ∧ R x z) fun k hk hz => by
        have e := good k hk (hg k hk hz.2)
        have s1 := Reach.step (ps := [cmpL t f n]) (n := n) (p := cmpL t f n) (by simp) hk
        have s2 := Reach.step (ps := [cmpL t (fx f n (fun d => !bad d)) n]) (n := n) (p := cmpL t (fx f n (fun d => !bad d)) n) (by simp) hk
        rw [e] at s2
        exact ⟨hz.1.trans s2, hz.2.trans s1⟩)).1 ⟨Reach.refl _ _ _, Reach.refl _ _ _⟩).1
  obtain ⟨I, hI, _⟩ := Cnt.ex (fun x => lst R x ∧ ∀ z, z < n → R x z → bad z = false) n
  obtain ⟨N, hN, _⟩ := Cnt.ex (fun x => lst R x ∧ ∃ z, z < n ∧ R x z ∧ bad z = true) n
  have c1 : I + 1 ≤ S := by
    obtain ⟨q, q1, q2, q3⟩ := lst_ex R' (fun x => Reach.refl _ _ x) (fun _ _ h => h.symm) (fun _ _ _ h h' => h.trans h') x0
    have hd := Cnt.drop (Q := fun x => lst R' x ∧ x ≠ q) hS q (by omega) q2 fun x _ => Iff.rfl
    have := hI.sub hd.2 fun x hx hh => by
      have ix := iso x hx hh.2
      refine ⟨fun i hi hr => hh.1 i hi ?_, fun e => ?_⟩
      · exact ((ix i).1 hr.symm).symm
      · subst e
        have := hh.2 x0 hx0 ((ix x0).1 q3)
        rw [hbx] at this
        cases this
    omega
  have c2 : F ≤ I + N := by
    obtain ⟨L, l1, l2, l3⟩ := hI
    obtain ⟨M, m1, m2, m3⟩ := hN
    obtain ⟨K, k1, k2, k3⟩ := hF
    have := len_le_of_sub K (L ++ M) k1 fun x hx => by
      obtain ⟨h1, h2⟩ := (k2 x).1 hx
      refine List.mem_append.2 ?_
      by_cases h : ∃ z, z < n ∧ R x z ∧ bad z = true
      · exact .inr ((m2 x).2 ⟨h1, h2, h⟩)
      · refine .inl ((l2 x).2 ⟨h1, h2, fun z hz hr => ?_⟩)
        cases hb : bad z with
        | false => rfl
        | true => exact absurd ⟨z, hz, hr, hb⟩ h
    rw [List.length_append] at this
    omega
  have c3 : 2 * N ≤ B := by
    obtain ⟨M, m1, m2, m3⟩ := hN
    obtain ⟨L, l1, l2, l3⟩ := hB
    have ch : ∀ x, ∃ y z, x ∈ M → (y < n ∧ z < n ∧ y ≠ z ∧ bad y = true ∧ bad z = true ∧ R x y ∧ R x z) := fun x => by
      by_cases hx : x ∈ M
      · obtain ⟨h1, h2, y, y1, y2, y3⟩ := (m2 x).1 hx
        obtain ⟨z, z1, z2, z3, z4⟩ := heven y y1 y3
        exact ⟨y, z, fun _ => ⟨y1, z1, fun e => z2 e.symm, y3, z3, y2, y2.trans z4⟩⟩
      · exact ⟨0, 0, fun h => absurd h hx⟩
    let g1 := fun x => Classical.choose (ch x)
    let g2 := fun x => Classical.choose (Classical.choose_spec (ch x))
    have gs : ∀ x, x ∈ M → (g1 x < n ∧ g2 x < n ∧ g1 x ≠ g2 x ∧ bad (g1 x) = true ∧ bad (g2 x) = true ∧ R x (g1 x) ∧ R x (g2 x)) := fun x => Classical.choose_spec (Classical.choose_spec (ch x))
    have un : ∀ x y, x ∈ M → y ∈ M → R x y → x = y := fun x y hx hy h => lst_uniq R (fun _ _ h => h.symm) x y ((m2 x).1 hx).2.1 ((m2 y).1 hy).2.1 h
    have nm : ∀ (g : Nat → Nat), (∀ x, x ∈ M → R x (g x)) → (M.map g).Nodup := by
      intro g hg
      rw [List.Nodup, List.pairwise_map]
      refine List.Pairwise.imp_of_mem ?_ m1
      intro a b ha hb hab e
      have r1 := hg a ha
      have r2 := hg b hb
      rw [e] at r1
      exact hab (un a b ha hb (r1.trans r2.symm))
    have := len_le_of_sub (M.map g1 ++ M.map g2) L (List.nodup_append.2 ⟨nm g1 fun x hx => (gs x hx).2.2.2.2.2.1, nm g2 fun x hx => (gs x hx).2.2.2.2.2.2, fun a ha b hb e => by
      obtain ⟨x, hx, rfl⟩ := List.mem_map.1 ha
      obtain ⟨y, hy, rfl⟩ := List.mem_map.1 hb
      have r1 := (gs x hx).2.2.2.2.2.1
      have r2 := (gs y hy).2.2.2.2.2.2
      rw [e] at r1
      have := un x y hx hy (r1.trans r2.symm)
      subst this
      exact (gs x hx).2.2.1 e⟩) (fun z hz => by
      rcases List.mem_append.1 hz with h | h
      · obtain ⟨x, hx, rfl⟩ := List.mem_map.1 h
        exact (l2 _).2 ⟨(gs x hx).1, (gs x hx).2.2.2.1⟩
      · obtain ⟨x, hx, rfl⟩ := List.mem_map.1 h
        exact (l2 _).2 ⟨(gs x hx).2.1, (gs x hx).2.2.2.2.1⟩)
    rw [List.length_append, List.length_map, List.length_map] at this
    omega
  omega
end
def cw (p : List Int) : Nat → List Bool → List Int → Int → List Bool × List Int
  | 0, s, c, a => (s, c)
  | f + 1, s, c, a => if rdOf false s a = true then (s, c) else cw p f (s.set a.toNat true) (c ++ [a]) (rd p a)
def fresh (s : List Bool) : Nat := s.countP (fun b => !b)
def cyS (p : List Int) (n : Nat) : Nat → List Bool × List (List Int)
  | 0 => (List.replicate n false, [])
  | i + 1 =>
    let q := cw p (n + 1) (cyS p n i).1 [] i
    (q.1, if q.2 = [] then (cyS p n i).2 else (cyS p n i).2 ++ [q.2])
theorem fresh_set : ∀ (s : List Bool) (i : Nat), i < s.length → s.getD i false = false → fresh (s.set i true) + 1 = fresh s
  | b :: s, 0, _, h => by
    simp only [List.getD_cons_zero] at h
    subst h
    simp [fresh]
  | b :: s, i + 1, hi, h => by
    simp only [List.getD_cons_succ] at h
    have ih := fresh_set s i (by simpa using hi) h
    simp only [fresh, List.set_cons_succ, List.countP_cons] at ih ⊢
    omega
theorem rdOf_nat (s : List Bool) (a : Int) (h0 : 0 ≤ a) : rdOf false s a = s.getD a.toNat false := by
  unfold rdOf
  rfl
theorem cw_len (p : List Int) : ∀ (f : Nat) (s : List Bool) (c : List Int) (a : Int), (cw p f s c a).1.length = s.length
  | 0, s, c, a => rfl
  | f + 1, s, c, a => by
    simp only [cw]
    split
    · rfl
    · rw [cw_len p f]; simp
theorem spec_cw (p : List Int) (n : Nat) (hn : n ≤ 1048576) (hp : inR n p) (L : List (List Int)) (hL : L.length ≤ 1048576) (i : Int) (r : List (List Int)) : ∀ (f : Nat) (s : List Bool) (c : List Int) (a : Int), s.length = n → 0 ≤ a → a < n → fresh s < f → c.length + fresh s ≤ 1048577 →
    Ev (fun k => spec_l1Cycles.l0 k p (L ++ [(cw p f s c a).2]) (cw p f s c a).1 (wrap64 (i + 1))) r → Ev (fun k => spec_l1Cycles.l1 k p L s i c a) r
  | 0, s, c, a, hs, h0, h1, hf, hc, h => absurd hf (Nat.not_lt_zero _)
  | f + 1, s, c, a, hs, h0, h1, hf, hc, h => by
    refine Ev.s ?_
    simp only [cw] at h
    have hL' : L.length < 5864062014805 := by omega
    have hc' : c.length < 17592186044416 := by omega
    simp only [spec_l1Cycles.l1, h0, hs, h1, hp.1, hL', hc', if_true]
    by_cases e : rdOf false s a = true
    · simp only [e, if_true] at h ⊢
      exact h
    · simp only [e, if_false] at h ⊢
      have h3 : s.getD a.toNat false = false := by rw [← rdOf_nat s a h0]; simpa using e
      have h4 := fresh_set s a.toNat (by omega) h3
      have h5 := hp.2 a.toNat (by omega)
      rw [show ((a.toNat : Nat) : Int) = a by omega] at h5
      exact spec_cw p n hn hp L hL i r f _ _ _ (by simpa using hs) h5.1 h5.2 (by omega) (by simp only [List.length_append, List.length_cons, List.length_nil]; omega) h
theorem impl_cw (p : List Int) (n : Nat) (hn : n ≤ 1048576) (hp : inR n p) (L : List (List Int)) (hL : L.length ≤ 1048576) (m i : Int) (r : List (List Int)) : ∀ (f : Nat) (s : List Bool) (c : List Int) (a : Int), s.length = n → 0 ≤ a → a < n → fresh s < f → c.length + fresh s ≤ 1048577 →
    Ev (fun k => impl_cyclesOf.l0 k p (if (cw p f s c a).2 = [] then L else L ++ [(cw p f s c a).2]) (cw p f s c a).1 m (wrap64 (i + 1))) r → Ev (fun k => impl_cyclesOf.l1 k p L s c a m i) r
  | 0, s, c, a, hs, h0, h1, hf, hc, h => absurd hf (Nat.not_lt_zero _)
  | f + 1, s, c, a, hs, h0, h1, hf, hc, h => by
    refine Ev.s ?_
    simp only [cw] at h
    have hL' : L.length < 5864062014805 := by omega
    have hc' : c.length < 17592186044416 := by omega
    simp only [impl_cyclesOf.l1, h0, hs, h1, hp.1, hL', hc', if_true]
    by_cases e : rdOf false s a = true
    · simp only [e, if_true] at h ⊢
      cases c with
      | nil => simpa using h
      | cons b c => simpa using h
    · simp only [e, if_false] at h ⊢
      have h3 : s.getD a.toNat false = false := by rw [← rdOf_nat s a h0]; simpa using e
      have h4 := fresh_set s a.toNat (by omega) h3
      have h5 := hp.2 a.toNat (by omega)
      rw [show ((a.toNat : Nat) : Int) = a by omega] at h5
      exact impl_cw p n hn hp L hL m i r f _ _ _ (by simpa using hs) h5.1 h5.2 (by omega) (by simp only [List.length_append, List.length_cons, List.length_nil]; omega) h
theorem fresh_le (s : List Bool) : fresh s ≤ s.length := List.countP_le_length
theorem cyS_len (p : List Int) (n : Nat) : ∀ i, (cyS p n i).1.length = n
  | 0 => by simp [cyS]
  | i + 1 => by simp only [cyS]; rw [cw_len, cyS_len p n i]
theorem cyS_many (p : List Int) (n : Nat) : ∀ i, (cyS p n i).2.length ≤ i
  | 0 => by simp [cyS]
  | i + 1 => by
    have ih := cyS_many p n i
    simp only [cyS]
    split
    · omega
    · simp only [List.length_append, List.length_cons, List.length_nil]; omega
theorem cw_seen (p : List Int) (f : Nat) (s : List Bool) (c : List Int) (a : Int) (h : rdOf false s a = true) : cw p f s c a = (s, c) := by
  cases f with
  | zero => rfl
  | succ f => simp only [cw, h, if_true]
theorem cw_more (p : List Int) : ∀ (f : Nat) (s : List Bool) (c : List Int) (a : Int), c.length ≤ (cw p f s c a).2.length
  | 0, s, c, a => Nat.le_refl _
  | f + 1, s, c, a => by
    simp only [cw]
    split
    · exact Nat.le_refl _
    · have := cw_more p f (s.set a.toNat true) (c ++ [a]) (rd p a)
      simp only [List.length_append, List.length_cons, List.length_nil] at this
      omega
theorem cw_new (p : List Int) (f : Nat) (s : List Bool) (a : Int) (h : ¬ rdOf false s a = true) : (cw p (f + 1) s [] a).2 ≠ [] := by
  simp only [cw, h, Bool.false_eq_true, if_false]
  intro e
  have := cw_more p f (s.set a.toNat true) ([] ++ [a]) (rd p a)
  rw [e] at this
  simp at this
theorem specCyc_run (p : List Int) (n : Nat) (hn : n ≤ 1048575) (hp : inR n p) : ∀ (d i : Nat), n - i = d → i ≤ n → Ev (fun k => spec_l1Cycles.l0 k p (cyS p n i).2 (cyS p n i).1 i) (cyS p n n).2
  | 0, i, hd, hi => by
    have : i = n := by omega
    subst this
    refine Ev.s ?_
    simp only [spec_l1Cycles.l0, hp.1, show ¬ (i : Int) < (i : Int) by omega, if_false]
    exact Ev.const rfl
  | d + 1, i, hd, hi => by
    have ih := specCyc_run p n hn hp d (i + 1) (by omega) (by omega)
    have hl := cyS_len p n i
    have hm := cyS_many p n i
    have hf := fresh_le (cyS p n i).1
    have h1 : (i : Int) < (n : Int) := by omega
    have h0 : (0 : Int) ≤ (i : Int) := by omega
    refine Ev.s ?_
    simp only [spec_l1Cycles.l0, hp.1, hl, h1, h0, if_true]
    by_cases e : rdOf false (cyS p n i).1 (i : Int) = true
    · simp only [e, if_true]
      rw [w64n (by omega)]
      simp only [cyS, cw_seen p (n + 1) (cyS p n i).1 [] i e, if_true] at ih
      exact ih
    · simp only [e, if_false]
      refine spec_cw p n (by omega) hp _ (by omega) i _ (n + 1) _ _ _ hl h0 h1 (by omega) (by simp only [List.length_nil]; omega) ?_
      rw [w64n (by omega)]
      simp only [cyS, cw_new p n (cyS p n i).1 i e, if_false] at ih
      exact ih
theorem implCyc_run (p : List Int) (n : Nat) (hn : n ≤ 1048575) (hp : inR n p) : ∀ (d i : Nat), n - i = d → i ≤ n → Ev (fun k => impl_cyclesOf.l0 k p (cyS p n i).2 (cyS p n i).1 n i) (cyS p n n).2
  | 0, i, hd, hi => by
    have : i = n := by omega
    subst this
    refine Ev.s ?_
    simp only [impl_cyclesOf.l0, show ¬ (i : Int) < (i : Int) by omega, if_false]
    exact Ev.const rfl
  | d + 1, i, hd, hi => by
    have ih := implCyc_run p n hn hp d (i + 1) (by omega) (by omega)
    have hl := cyS_len p n i
    have hm := cyS_many p n i
    have hf := fresh_le (cyS p n i).1
    have h1 : (i : Int) < (n : Int) := by omega
    have h0 : (0 : Int) ≤ (i : Int) := by omega
    refine Ev.s ?_
    simp only [impl_cyclesOf.l0, h1, if_true]
    refine impl_cw p n (by omega) hp _ (by omega) n i _ (n + 1) _ _ _ hl h0 h1 (by omega) (by simp only [List.length_nil]; omega) ?_
    rw [w64n (by omega)]
    simp only [cyS] at ih
    exact ih
theorem specCyc_ev (p : List Int) (n : Nat) (hn : n ≤ 1048575) (hp : inR n p) : Ev (fun k => spec_l1Cycles.f k p) (cyS p n n).2 := by
  unfold spec_l1Cycles.f
  have h1 : n ≤ 281474976710656 := by omega
  have h2 : (0 : Int) ≤ (n : Int) := by omega
  simp only [hp.1, Int.toNat_natCast, h1, h2, if_true]
  exact specCyc_run p n hn hp n 0 (by omega) (by omega)
theorem implCyc_ev (p : List Int) (n : Nat) (hn : n ≤ 1048575) (hp : inR n p) : Ev (fun k => impl_cyclesOf.f k p) (cyS p n n).2 := by
  unfold impl_cyclesOf.f
  have h1 : n ≤ 281474976710656 := by omega
  have h2 : (0 : Int) ≤ (n : Int) := by omega
  simp only [hp.1, Int.toNat_natCast, h1, h2, if_true]
  exact implCyc_run p n hn hp n 0 (by omega) (by omega)
theorem getD_set (s : List Bool) (i j : Nat) (b : Bool) (hi : i < s.length) : (s.set i b).getD j false = if i = j then b else s.getD j false := by
  rw [List.getD_eq_getElem?_getD, List.getElem?_set]
  by_cases e : i = j
  · subst e
    simp [hi]
  · simp [e, List.getD_eq_getElem?_getD]
theorem cw_ends (p : List Int) (n : Nat) (hp : inR n p) (a0 : Nat) (ha0 : a0 < n) (s0 : Nat → Prop) : ∀ (m : Nat) (s : List Bool) (c : List Int) (a : Nat), s.length = n → a < n → fresh s < m →
    (∀ x, x < n → s.getD x false = true → s.getD (rd p x).toNat false = true ∨ (rd p x).toNat = a) → Reach [p] n a0 a → (∀ x, x < n → s.getD x false = true → s0 x ∨ Reach [p] n a0 x) → (∀ x, s0 x → s.getD x false = true) → (s.getD a0 false = true ∨ a = a0) → (∀ x ∈ c, 0 ≤ x ∧ x < n ∧ Reach [p] n a0 x.toNat) → (a0 ≠ a → (a0 : Int) ∈ c) → (∀ x, x < n → s.getD x false = true → s0 x ∨ (x : Int) ∈ c) →
    (∀ x, x < n → (cw p m s c a).1.getD x false = true → (cw p m s c a).1.getD (rd p x).toNat false = true) ∧ (∀ x, x < n → (cw p m s c a).1.getD x false = true → s0 x ∨ Reach [p] n a0 x) ∧ (∀ x, s0 x → (cw p m s c a).1.getD x false = true) ∧ (cw p m s c a).1.getD a0 false = true ∧ (∀ x ∈ (cw p m s c a).2, 0 ≤ x ∧ x < n ∧ Reach [p] n a0 x.toNat) ∧ (∀ x, x < n → (cw p m s c a).1.getD x false = true → s0 x ∨ (x : Int) ∈ (cw p m s c a).2)
  | 0, s, c, a, hs, ha, hm, h1, h2, h3, h4, h5, h6, h7, h8 => absurd hm (Nat.not_lt_zero _)
  | m + 1, s, c, a, hs, ha, hm, h1, h2, h3, h4, h5, h6, h7, h8 => by
    simp only [cw]
    rw [rdOf_nat s a (by omega), Int.toNat_natCast]
    by_cases e : s.getD a false = true
    · rw [if_pos e]
      refine ⟨fun x hx hsx => (h1 x hx hsx).elim id (fun z => by rw [z]; exact e), h3, h4, h5.elim id (fun z => by rw [← z]; exact e), h6, h8⟩
    · rw [if_neg e]
      have pr := hp.2 a ha
      have e0 : s.getD a false = false := by simpa using e
      have fr := fresh_set s a (by omega) e0
      have back : (((rd p a).toNat : Nat) : Int) = rd p a := by omega
      have st := Reach.step (ps := [p]) (n := n) (p := p) (by simp) ha
      have ih := cw_ends p n hp a0 ha0 s0 m (s.set a true) (c ++ [(a : Int)]) (rd p a).toNat (by simpa using hs) (by omega) (by omega)
        (fun x hx hsx => by
          rw [getD_set _ _ _ _ (by omega)] at hsx ⊢
          by_cases z : a = x
          · subst z; exact .inr rfl
          · rw [if_neg z] at hsx
            by_cases y : a = (rd p x).toNat
            · rw [if_pos y]; exact .inl rfl
            · rw [if_neg y]
              exact .inl ((h1 x hx hsx).elim id (fun q => absurd q.symm y)))
        (h2.trans st)
        (fun x hx hsx => by
          rw [getD_set _ _ _ _ (by omega)] at hsx
          by_cases z : a = x
          · subst z; exact .inr h2
          · rw [if_neg z] at hsx
            exact h3 x hx hsx)
        (fun x hx => by
          rw [getD_set _ _ _ _ (by omega)]
          split
          · rfl
          · exact h4 x hx)
        (.inl (by
          rw [getD_set _ _ _ _ (by omega)]
          by_cases z : a = a0
          · rw [if_pos z]
          · rw [if_neg z]
            exact h5.elim id (fun q => absurd q z)))
        (fun x hx => by
          rw [List.mem_append, List.mem_singleton] at hx
          rcases hx with hx | rfl
          · exact h6 x hx
          · exact ⟨by omega, by omega, by rw [Int.toNat_natCast]; exact h2⟩)
        (fun _ => by
          rw [List.mem_append, List.mem_singleton]
          by_cases z : a0 = a
          · right; rw [z]
          · exact .inl (h7 z))
        (fun x hx hsx => by
          rw [List.mem_append, List.mem_singleton]
          rw [getD_set _ _ _ _ (by omega)] at hsx
          by_cases z : a = x
          · subst z; exact .inr (.inr rfl)
          · rw [if_neg z] at hsx
            exact (h8 x hx hsx).imp id .inl)
      rw [back] at ih
      exact ih
theorem cyS_seen (p : List Int) (n : Nat) (hp : inR n p) (hi : injR n p) : ∀ i, i ≤ n → ∀ x, x < n → ((cyS p n i).1.getD x false = true ↔ ∃ j, j < i ∧ Reach [p] n j x)
  | 0, _, x, hx => by
    constructor
    · intro h
      simp [cyS, List.getD_eq_getElem?_getD, List.getElem?_replicate, hx] at h
    · rintro ⟨j, hj, _⟩; omega
  | i + 1, hi', x, hx => by
    have ih := cyS_seen p n hp hi i (by omega)
    have l1 := cyS_len p n i
    simp only [cyS]
    by_cases e : (cyS p n i).1.getD i false = true
    · rw [cw_seen p (n + 1) _ _ _ (by rw [rdOf_nat _ _ (by omega), Int.toNat_natCast]; exact e)]
      rw [ih x hx]
      obtain ⟨q, q1, q2⟩ := (ih i (by omega)).1 e
      constructor
      · rintro ⟨j, hj, h⟩; exact ⟨j, by omega, h⟩
      · rintro ⟨j, hj, h⟩
        by_cases z : j = i
        · subst z; exact ⟨q, q1, q2.trans h⟩
        · exact ⟨j, by omega, h⟩
    · obtain ⟨w1, w2, w3, w4, w5, w6⟩ := cw_ends p n hp i (by omega) (fun x => x < n ∧ (cyS p n i).1.getD x false = true) (n + 1) (cyS p n i).1 [] i l1 (by omega) (by have := fresh_le (cyS p n i).1; omega)
        (fun y hy hsy => .inl (by
          have pr := hp.2 y hy
          obtain ⟨j, hj, h⟩ := (ih y hy).1 hsy
          exact (ih _ (by omega)).2 ⟨j, hj, h.trans (Reach.step (by simp) hy)⟩))
        (Reach.refl _ _ _) (fun y hy hsy => .inl ⟨hy, hsy⟩) (fun y hy => hy.2) (.inr rfl) (by simp) (fun z => absurd rfl z) (fun y hy hsy => .inl ⟨hy, hsy⟩)
      constructor
      · intro h
        rcases w2 x hx h with ⟨_, h⟩ | h
        · obtain ⟨j, hj, h⟩ := (ih x hx).1 h
          exact ⟨j, by omega, h⟩
        · exact ⟨i, by omega, h⟩
      · rintro ⟨j, hj, h⟩
        by_cases z : j = i
        · subst z
          have hc := closed_of_fwd p n hp hi (fun y => (cw p (n + 1) (cyS p n j).1 [] j).1.getD y false = true) w1
          exact (h _ hc).1 w4
        · exact w3 x ⟨hx, (ih x hx).2 ⟨j, by omega, h⟩⟩
theorem Cnt.none {P : Nat → Prop} {n : Nat} (h : ∀ x, x < n → ¬ P x) : Cnt n P 0 := ⟨[], List.nodup_nil, fun x => ⟨fun z => by simp at z, fun z => absurd z.2 (h x z.1)⟩, rfl⟩
theorem cyS_reps (p : List Int) (n : Nat) (hp : inR n p) (hi : injR n p) : ∀ i, i ≤ n → ∃ reps : List Nat, reps.length = (cyS p n i).2.length ∧ reps.Nodup ∧ (∀ j, j ∈ reps ↔ j < i ∧ lst (Reach [p] n) j) ∧ ∀ (q : Nat) (h : q < reps.length) (x : Nat), x < n → ((x : Int) ∈ rd_L1 (cyS p n i).2 q ↔ Reach [p] n reps[q] x)
  | 0, _ => ⟨[], by simp [cyS], List.nodup_nil, by simp, fun q h => by simp at h⟩
  | i + 1, hi' => by
    obtain ⟨reps, r1, r2, r3, r4⟩ := cyS_reps p n hp hi i (by omega)
    have seen := cyS_seen p n hp hi i (by omega) i (by omega)
    have l1 := cyS_len p n i
    simp only [cyS]
    by_cases e : (cyS p n i).1.getD i false = true
    · rw [cw_seen p (n + 1) _ _ _ (by rw [rdOf_nat _ _ (by omega), Int.toNat_natCast]; exact e)]
      rw [if_pos rfl]
      obtain ⟨j, hj, h⟩ := seen.1 e
      refine ⟨reps, r1, r2, fun q => ?_, r4⟩
      rw [r3]
      constructor
      · rintro ⟨a, b⟩; exact ⟨by omega, b⟩
      · rintro ⟨a, b⟩
        by_cases z : q = i
        · subst z; exact absurd h (b j hj)
        · exact ⟨by omega, b⟩
    · have e' : ¬ rdOf false (cyS p n i).1 (i : Int) = true := by rw [rdOf_nat _ _ (by omega), Int.toNat_natCast]; exact e
      have hl : lst (Reach [p] n) i := fun j hj h => e (seen.2 ⟨j, hj, h⟩)
      obtain ⟨w1, w2, w3, w4, w5, w6⟩ := cw_ends p n hp i (by omega) (fun x => x < n ∧ (cyS p n i).1.getD x false = true) (n + 1) (cyS p n i).1 [] i l1 (by omega) (by have := fresh_le (cyS p n i).1; omega)
        (fun y hy hsy => .inl (by
          have pr := hp.2 y hy
          obtain ⟨j, hj, h⟩ := (cyS_seen p n hp hi i (by omega) y hy).1 hsy
          exact (cyS_seen p n hp hi i (by omega) _ (by omega)).2 ⟨j, hj, h.trans (Reach.step (by simp) hy)⟩))
        (Reach.refl _ _ _) (fun y hy hsy => .inl ⟨hy, hsy⟩) (fun y hy => hy.2) (.inr rfl) (by simp) (fun z => absurd rfl z) (fun y hy hsy => .inl ⟨hy, hsy⟩)
      have hc := closed_of_fwd p n hp hi (fun y => (cw p (n + 1) (cyS p n i).1 [] i).1.getD y false = true) w1
      rw [if_neg (cw_new p n _ i e')]
      refine ⟨reps ++ [i], by rw [List.length_append, List.length_append, r1]; rfl, List.nodup_append.2 ⟨r2, by simp, fun a ha b hb z => ?_⟩, fun q => ?_, fun q hq x hx => ?_⟩
      · have := ((r3 a).1 ha).1
        rw [List.mem_singleton] at hb
        omega
      · rw [List.mem_append, List.mem_singleton, r3]
        constructor
        · rintro (⟨a, b⟩ | rfl)
          · exact ⟨by omega, b⟩
          · exact ⟨by omega, hl⟩
        · rintro ⟨a, b⟩
          by_cases z : q = i
          · exact .inr z
          · exact .inl ⟨by omega, b⟩
      · by_cases hq' : q < reps.length
        · rw [rdL_nth _ q (by simp; omega), List.getElem_append_left (by omega), List.getElem_append_left hq', ← rdL_nth _ q (by omega)]
          exact r4 q hq' x hx
        · have hq2 : q = reps.length := by simp at hq; omega
          subst hq2
          rw [rdL_nth _ _ (by simp; omega), List.getElem_append_right (by omega), List.getElem_append_right (Nat.le_refl _)]
          simp only [r1, Nat.sub_self, List.getElem_cons_zero]
          constructor
          · intro hm
            have := (w5 x hm).2.2
            rwa [Int.toNat_natCast] at this
          · intro h
            have z := (h _ hc).1 w4
            rcases w6 x hx z with ⟨_, z⟩ | z
            · obtain ⟨j, hj, hr⟩ := (cyS_seen p n hp hi i (by omega) x hx).1 z
              exact absurd (hr.trans h.symm) (hl j hj)
            · exact z
theorem cyS_cl (p : List Int) (n : Nat) (hp : inR n p) (hi : injR n p) : Cl n (Reach [p] n) (cyS p n n).2.length := by
  obtain ⟨reps, r1, r2, r3, _⟩ := cyS_reps p n hp hi n (Nat.le_refl _)
  exact ⟨reps, r2, r3, r1⟩
theorem cw_path (p : List Int) (n : Nat) (hp : inR n p) : ∀ (f : Nat) (s : List Bool) (c : List Int) (a : Int), s.length = n → 0 ≤ a → a < n → fresh s < f →
    ∃ m, (cw p f s c a).2 = c ++ (List.range m).map (fun k => itr p k a) ∧ (∀ k, k < m → rdOf false s (itr p k a) = false) ∧ (∀ i j, i < j → j < m → itr p i a ≠ itr p j a) ∧ (rdOf false s (itr p m a) = true ∨ ∃ k, k < m ∧ itr p m a = itr p k a)
  | 0, s, c, a, hs, h0, h1, hf => absurd hf (Nat.not_lt_zero _)
  | f + 1, s, c, a, hs, h0, h1, hf => by
    simp only [cw]
    by_cases e : rdOf false s a = true
    · rw [if_pos e]
      exact ⟨0, by simp, fun k hk => absurd hk (by omega), fun i j _ hj => absurd hj (by omega), .inl e⟩
    · rw [if_neg e]
      have e0 : rdOf false s a = false := by simpa using e
      have e1 : s.getD a.toNat false = false := by rw [← rdOf_nat s a h0]; exact e0
      have fr := fresh_set s a.toNat (by omega) e1
      have pr := hp.2 a.toNat (by omega)
      have ea : ((a.toNat : Nat) : Int) = a := by omega
      rw [ea] at pr
      obtain ⟨m, m1, m2, m3, m4⟩ := cw_path p n hp f (s.set a.toNat true) (c ++ [a]) (rd p a) (by simpa using hs) pr.1 pr.2 (by omega)
      have look : ∀ k, rdOf false (s.set a.toNat true) (itr p k (rd p a)) = if a = itr p k (rd p a) then true else rdOf false s (itr p k (rd p a)) := fun k => by
        have r := itr_in p n hp k _ pr
        rw [rdOf_nat _ _ r.1, rdOf_nat _ _ r.1, getD_set _ _ _ _ (by omega)]
        by_cases q : a = itr p k (rd p a)
        · rw [if_pos q, if_pos (by omega)]
        · rw [if_neg q, if_neg (by omega)]
      refine ⟨m + 1, ?_, fun k hk => ?_, fun i j hij hj => ?_, ?_⟩
      · rw [m1, List.range_succ_eq_map, List.map_cons, List.map_map, List.append_assoc]
        rfl
      · cases k with
        | zero => exact e0
        | succ k =>
          have := m2 k (by omega)
          rw [look k] at this
          show rdOf false s (itr p k (rd p a)) = false
          by_cases q : a = itr p k (rd p a)
          · rw [if_pos q] at this; cases this
          · rw [if_neg q] at this; exact this
      · obtain ⟨j, rfl⟩ : ∃ j', j = j' + 1 := ⟨j - 1, by omega⟩
        cases i with
        | zero =>
          have := m2 j (by omega)
          rw [look j] at this
          intro q
          rw [if_pos (show a = itr p j (rd p a) from q)] at this
          cases this
        | succ i => exact m3 i j (by omega) (by omega)
      · rcases m4 with h | ⟨k, hk, h⟩
        · rw [look m] at h
          by_cases q : a = itr p m (rd p a)
          · exact .inr ⟨0, by omega, q.symm⟩
          · rw [if_neg q] at h
            exact .inl h
        · exact .inr ⟨k + 1, by omega, h⟩
theorem cyS_path (p : List Int) (n : Nat) (hp : inR n p) (hi : injR n p) : ∀ i, i ≤ n → ∀ l ∈ (cyS p n i).2, ∃ a : Nat, a < n ∧ l = (List.range l.length).map (fun k => itr p k (a : Int)) ∧ itr p l.length (a : Int) = a ∧ ∀ i j, i < j → j < l.length → itr p i (a : Int) ≠ itr p j (a : Int)
  | 0, _, l, hl => by simp [cyS] at hl
  | i + 1, h, l, hl => by
    have ih := cyS_path p n hp hi i (by omega)
    have len := cyS_len p n i
    have fl := fresh_le (cyS p n i).1
    obtain ⟨m, m1, m2, m3, m4⟩ := cw_path p n hp (n + 1) (cyS p n i).1 [] (i : Int) len (by omega) (by omega) (by omega)
    rw [List.nil_append] at m1
    simp only [cyS] at hl
    by_cases e : (cw p (n + 1) (cyS p n i).1 [] (i : Int)).2 = []
    · rw [if_pos e] at hl
      exact ih l hl
    · rw [if_neg e] at hl
      rcases List.mem_append.1 hl with hl | hl
      · exact ih l hl
      · have el := List.mem_singleton.1 hl
        have ell : l.length = m := by rw [el, m1]; simp
        have mp : 0 < m := by
          rcases Nat.eq_zero_or_pos m with z | z
          · exact absurd (by rw [m1, z]; rfl) e
          · exact z
        refine ⟨i, by omega, by rw [ell, ← m1, ← el], ?_, fun x y hxy hy => m3 x y hxy (by omega)⟩
        rw [ell]
        have ii : (0 : Int) ≤ (i : Int) ∧ (i : Int) < n := by omega
        rcases m4 with h4 | ⟨k, hk, h4⟩
        · exfalso
          have r := itr_in p n hp m (i : Int) ii
          rw [rdOf_nat _ _ r.1] at h4
          obtain ⟨j, j1, j2⟩ := (cyS_seen p n hp hi i (by omega) _ (by omega)).1 h4
          have z := itr_reach [p] p n hp (by simp) m (i : Int) ii
          rw [Int.toNat_natCast] at z
          have := (cyS_seen p n hp hi i (by omega) i (by omega)).2 ⟨j, j1, j2.trans z.symm⟩
          have q := m2 0 mp
          rw [show itr p 0 (i : Int) = i from rfl, rdOf_nat _ _ (by omega), Int.toNat_natCast, this] at q
          cases q
        · rw [show m = (m - k) + k by omega, itr_add] at h4
          have h5 := itr_inj p n hp hi k _ _ (itr_in p n hp (m - k) (i : Int) ii) ii h4
          by_cases k0 : k = 0
          · subst k0; exact h5
          · exact absurd h5.symm (m3 0 (m - k) (by omega) (by omega))
theorem cyS_cover (p : List Int) (n : Nat) (hp : inR n p) (hi : injR n p) (x : Nat) (hx : x < n) : ∃ l ∈ (cyS p n n).2, (x : Int) ∈ l := by
  obtain ⟨reps, r1, r2, r3, r4⟩ := cyS_reps p n hp hi n (Nat.le_refl _)
  obtain ⟨y, y1, y2, y3⟩ := lst_ex (Reach [p] n) (fun x => Reach.refl _ _ x) (fun _ _ h => h.symm) (fun _ _ _ h h' => h.trans h') x
  obtain ⟨q, hq, e⟩ := List.mem_iff_getElem.1 ((r3 y).2 ⟨by omega, y2⟩)
  have := (r4 q hq x hx).2 (by rw [e]; exact y3)
  have hq' : q < (cyS p n n).2.length := by omega
  have el : rd_L1 (cyS p n n).2 (q : Int) = (cyS p n n).2[q] := by
    unfold rd_L1
    rw [Int.toNat_natCast]
    simp [List.getD, hq']
  rw [el] at this
  exact ⟨_, List.getElem_mem hq', this⟩
theorem four_path (p : List Int) (n : Nat) (hp : inR n p) (hi : injR n p) (h4 : ∀ l ∈ (cyS p n n).2, l.length = 4) :
    (∀ l ∈ (cyS p n n).2, ∃ a : Nat, a < n ∧ l = [(a : Int), rd p a, rd p (rd p a), rd p (rd p (rd p a))]) ∧
    ∀ x : Nat, x < n → rd p (rd p (rd p (rd p (x : Int)))) = x ∧ rd p (x : Int) ≠ x ∧ rd p (rd p (x : Int)) ≠ x ∧ rd p (rd p (rd p (x : Int))) ≠ x := by
  constructor
  · intro l hl
    obtain ⟨a, a1, a2, _, _⟩ := cyS_path p n hp hi n (Nat.le_refl _) l hl
    refine ⟨a, a1, ?_⟩
    rw [a2, h4 l hl]
    rfl
  · intro x hx
    obtain ⟨l, hl, hxl⟩ := cyS_cover p n hp hi x hx
    obtain ⟨a, a1, a2, a3, a4⟩ := cyS_path p n hp hi n (Nat.le_refl _) l hl
    rw [a2] at hxl
    obtain ⟨k, hk, ek⟩ := List.mem_map.1 hxl
    have hk := List.mem_range.1 hk
    rw [h4 l hl] at a3 hk
    have aa : (0 : Int) ≤ (a : Int) ∧ (a : Int) < n := by omega
    have com : ∀ m, itr p m (x : Int) = itr p k (itr p m (a : Int)) := fun m => by rw [← ek, ← itr_add, ← itr_add, Nat.add_comm]
    have ne : ∀ m, 0 < m → m < 4 → itr p m (x : Int) ≠ x := fun m m0 m1 e => by
      rw [com m, ← ek] at e
      exact a4 0 m m0 (by rw [h4 l hl]; exact m1) (itr_inj p n hp hi k _ _ (itr_in p n hp m _ aa) aa e).symm
    refine ⟨?_, ne 1 (by omega) (by omega), ne 2 (by omega) (by omega), ne 3 (by omega) (by omega)⟩
    have := com 4
    rw [a3, ek] at this
    exact this
def MapK (t f : List Int) (n : Nat) : Prop := n ≤ 12 ∧ 1 ≤ n ∧ inR n t ∧ injR n t ∧ inR n f ∧ (∀ i : Nat, i < n → flipAt f i) ∧ ∀ i j : Nat, i < n → j < n → Reach [t, f] n i j
def FarOk (t f : List Int) (n a : Nat) (g : List Int)  : Prop := (g.length = n) ∧ (∀ x : Nat, x < n → 0 ≤ rd g x ∧ rd g x < n) ∧ (rd g a = 0) ∧ (∀ x : Nat, x < n → rd g (rd t x) = rd g x) ∧ (∀ x : Nat, x < n → rd g x ≤ rd g (rd f x) + 1) ∧ (∀ x : Nat, x < n → rd g x = 0 → Reach [t] n x a) ∧ (∀ x : Nat, x < n → 0 < rd g x → ∃ y : Nat, y < n ∧ Reach [t] n y x ∧ rd g (rd f y) + 1 = rd g x)
theorem FarOk.len {t f : List Int} {n a : Nat} {g : List Int}  (h : FarOk t f n a g) : g.length = n := h.1
theorem FarOk.rng {t f : List Int} {n a : Nat} {g : List Int}  (h : FarOk t f n a g) : ∀ x : Nat, x < n → 0 ≤ rd g x ∧ rd g x < n := h.2.1
theorem FarOk.start {t f : List Int} {n a : Nat} {g : List Int}  (h : FarOk t f n a g) : rd g a = 0 := h.2.2.1
theorem FarOk.turn {t f : List Int} {n a : Nat} {g : List Int}  (h : FarOk t f n a g) : ∀ x : Nat, x < n → rd g (rd t x) = rd g x := h.2.2.2.1
theorem FarOk.flip {t f : List Int} {n a : Nat} {g : List Int}  (h : FarOk t f n a g) : ∀ x : Nat, x < n → rd g x ≤ rd g (rd f x) + 1 := h.2.2.2.2.1
theorem FarOk.zero {t f : List Int} {n a : Nat} {g : List Int}  (h : FarOk t f n a g) : ∀ x : Nat, x < n → rd g x = 0 → Reach [t] n x a := h.2.2.2.2.2.1
theorem FarOk.back {t f : List Int} {n a : Nat} {g : List Int}  (h : FarOk t f n a g) : ∀ x : Nat, x < n → 0 < rd g x → ∃ y : Nat, y < n ∧ Reach [t] n y x ∧ rd g (rd f y) + 1 = rd g x := h.2.2.2.2.2.2
theorem reach_const {t : List Int} {n : Nat} (ht : inR n t) (hi : injR n t) (g : List Int) (h : ∀ x : Nat, x < n → rd g (rd t x) = rd g x) {x y : Nat} (hr : Reach [t] n x y) : rd g x = rd g y := by
  have hc : closedL [t] n (fun z => rd g z = rd g y) := closed_of_fwd t n ht hi _ fun k hk e => by
    have h1 := ht.2 k hk
    have h2 := h k hk
    rw [show ((rd t k).toNat : Int) = rd t k by omega]
    exact h2.trans e
  exact (hr _ hc).2 rfl
theorem rd_put (l : List Int) (i j : Nat) (v : Int) (h : i < l.length) : rd (l.set i v) j = if j = i then v else rd l j := by
  by_cases e : j = i
  · subst e; rw [if_pos rfl, rd_set_self _ _ _ h]
  · rw [if_neg e, rd_set_ne _ _ _ _ (fun z => e z.symm)]
theorem rd_rep (n : Nat) (v : Int) (z : Nat) (h : z < n) : rd (List.replicate n v) z = v := by
  unfold rd; rw [Int.toNat_natCast, List.getD_eq_getElem?_getD, List.getElem?_replicate, if_pos h]; rfl
theorem lag_rep_lt (ys : List Int) (n c : Nat) (v : Int) (hl : ys.length = n) (hc : c < n) (hne : rd ys c ≠ v) : lag (ys.set c v) (List.replicate n v) n < lag ys (List.replicate n v) n := by
  refine lag_lt ys (ys.set c v) (List.replicate n v) (fun i h => ?_) c ?_ ?_ n hc
  · rw [rd_put _ _ _ _ (by omega)]
    by_cases e : i = c
    · rw [if_pos e, e, rd_rep n v c hc]
    · rw [if_neg e]; exact h
  · rw [rd_rep n v c hc]; exact hne
  · rw [rd_rep n v c hc, rd_put _ _ _ _ (by omega), if_pos rfl]
theorem at_run (t : List Int) (n : Nat) (hn : n ≤ 12) (ht : inR n t) (hi : injR n t) (v : Int) (hv : 0 ≤ v) (d : Nat) (xs : List Int) (hneg : ∀ z : Nat, z < n → Reach [t] n d z → rd xs z < 0) :
    ∀ (m : Nat) (ys : List Int) (c : Nat) (S : Nat → Prop), lag ys (List.replicate n v) n ≤ m → ys.length = n → c < n → Reach [t] n d c →
      (∀ z : Nat, z < n → S z → rd ys z = v ∧ Reach [t] n d z ∧ (S (rd t z).toNat ∨ rd t z = c)) → (∀ z : Nat, z < n → ¬ S z → rd ys z = rd xs z) → (S d ∨ c = d) →
      ∃ r, Ev (fun k => dfar.at k t v ys c) r ∧ r.length = n ∧ ∀ z : Nat, z < n → (Reach [t] n d z → rd r z = v) ∧ (¬ Reach [t] n d z → rd r z = rd xs z) := by
  intro m
  induction m with
  | zero =>
    intro ys c S hm hl hc hr hS hN hd
    have hnn : ¬ rd ys c < 0 := by
      have h0 := lag_zero ys (List.replicate n v) n (by omega) c hc
      rw [h0, rd_rep n v c hc]; omega
    have hSc : S c := Classical.byContradiction fun z => by
      have h1 := hN c hc z
      have h2 := hneg c hc hr
      omega
    have hcl : closedL [t] n S := closed_of_fwd t n ht hi S fun k hk hk' => by
      rcases (hS k hk hk').2.2 with e | e
      · exact e
      · rw [e, Int.toNat_natCast]; exact hSc
    have hSd : S d := by rcases hd with e | e; exact e; rw [← e]; exact hSc
    refine ⟨ys, Ev.s ?_, hl, fun z hz => ⟨fun h => (hS z hz ((h S hcl).1 hSd)).1, fun h => hN z hz fun hs => h (hS z hz hs).2.1⟩⟩
    simp only [dfar.at, hl, show (0 : Int) ≤ (c : Int) by omega, show (c : Int) < (n : Int) by omega, hnn, if_true, if_false]
    exact Ev.const rfl
  | succ m ih =>
    intro ys c S hm hl hc hr hS hN hd
    by_cases hneg' : rd ys c < 0
    · have hSc : ¬ S c := fun z => by
        have := (hS c hc z).1
        omega
      have htc := ht.2 c hc
      obtain ⟨c', hc'⟩ : ∃ c' : Nat, rd t c = c' := ⟨(rd t c).toNat, by omega⟩
      have hc'n : c' < n := by omega
      have hstep := Reach.step (ps := [t]) (p := t) (by simp) hc
      rw [hc', Int.toNat_natCast] at hstep
      have hlag := lag_rep_lt ys n c v hl hc (by omega)
      obtain ⟨r, e1, e2, e3⟩ := ih (ys.set c v) c' (fun z => S z ∨ z = c) (by omega) (by simp [hl]) hc'n (hr.trans hstep)
        (fun z hz hs => by
          rw [rd_put _ _ _ _ (by omega)]
          by_cases e : z = c
          · subst e; rw [if_pos rfl]; exact ⟨rfl, hr, .inr hc'⟩
          · rw [if_neg e]
            have hs' : S z := hs.resolve_right e
            obtain ⟨s1, s2, s3⟩ := hS z hz hs'
            refine ⟨s1, s2, .inl ?_⟩
            rcases s3 with s3 | s3
            · exact .inl s3
            · rw [s3, Int.toNat_natCast]; exact .inr rfl)
        (fun z hz hs => by
          rw [rd_put _ _ _ _ (by omega), if_neg (fun e => hs (.inr e))]
          exact hN z hz fun e => hs (.inl e))
        (by rcases hd with e | e; exact .inl (.inl e); exact .inl (.inr e.symm))
      refine ⟨r, Ev.s ?_, e2, e3⟩
      simp only [dfar.at, hl, ht.1, show (0 : Int) ≤ (c : Int) by omega, show (c : Int) < (n : Int) by omega, hneg', if_true, Int.toNat_natCast, hc']
      exact e1
    · have hSc : S c := Classical.byContradiction fun z => by
        have h1 := hN c hc z
        have h2 := hneg c hc hr
        omega
      have hcl : closedL [t] n S := closed_of_fwd t n ht hi S fun k hk hk' => by
        rcases (hS k hk hk').2.2 with e | e
        · exact e
        · rw [e, Int.toNat_natCast]; exact hSc
      have hSd : S d := by rcases hd with e | e; exact e; rw [← e]; exact hSc
      refine ⟨ys, Ev.s ?_, hl, fun z hz => ⟨fun h => (hS z hz ((h S hcl).1 hSd)).1, fun h => hN z hz fun hs => h (hS z hz hs).2.1⟩⟩
      simp only [dfar.at, hl, show (0 : Int) ≤ (c : Int) by omega, show (c : Int) < (n : Int) by omega, hneg', if_true, if_false]
      exact Ev.const rfl
def LevI (t f : List Int) (n a : Nat) (xs : List Int) (L : Nat)  : Prop := (xs.length = n) ∧ (∀ x : Nat, x < n → -1 ≤ rd xs x ∧ rd xs x ≤ L) ∧ (rd xs a = 0) ∧ (∀ x : Nat, x < n → rd xs (rd t x) = rd xs x) ∧ (∀ x : Nat, x < n → rd xs x = 0 → Reach [t] n x a) ∧ (∀ x : Nat, x < n → 0 < rd xs x → ∃ y : Nat, y < n ∧ Reach [t] n y x ∧ rd xs (rd f y) + 1 = rd xs x)
theorem LevI.len {t f : List Int} {n a : Nat} {xs : List Int} {L : Nat}  (h : LevI t f n a xs L) : xs.length = n := h.1
theorem LevI.rng {t f : List Int} {n a : Nat} {xs : List Int} {L : Nat}  (h : LevI t f n a xs L) : ∀ x : Nat, x < n → -1 ≤ rd xs x ∧ rd xs x ≤ L := h.2.1
theorem LevI.start {t f : List Int} {n a : Nat} {xs : List Int} {L : Nat}  (h : LevI t f n a xs L) : rd xs a = 0 := h.2.2.1
theorem LevI.turn {t f : List Int} {n a : Nat} {xs : List Int} {L : Nat}  (h : LevI t f n a xs L) : ∀ x : Nat, x < n → rd xs (rd t x) = rd xs x := h.2.2.2.1
theorem LevI.zero {t f : List Int} {n a : Nat} {xs : List Int} {L : Nat}  (h : LevI t f n a xs L) : ∀ x : Nat, x < n → rd xs x = 0 → Reach [t] n x a := h.2.2.2.2.1
theorem LevI.back {t f : List Int} {n a : Nat} {xs : List Int} {L : Nat}  (h : LevI t f n a xs L) : ∀ x : Nat, x < n → 0 < rd xs x → ∃ y : Nat, y < n ∧ Reach [t] n y x ∧ rd xs (rd f y) + 1 = rd xs x := h.2.2.2.2.2
theorem at_lev (t f : List Int) (n : Nat) (hn : n ≤ 12) (ht : inR n t) (hi : injR n t) (hf : inR n f) (a : Nat) (xs : List Int) (L : Nat) (hL : 1 ≤ L) (h : LevI t f n a xs L) (e d : Nat) (he : e < n) (hd : d < n) (hfe : rd f e = d) (hfd : rd f d = e) (hed : rd xs d + 1 = L) :
    ∃ r, Ev (fun k => dfar.at k t (L : Int) xs (e : Int)) r ∧ LevI t f n a r L ∧ 0 ≤ rd r e ∧ (∀ z : Nat, z < n → 0 ≤ rd xs z → rd r z = rd xs z) ∧ ∀ z : Nat, z < n → rd r z = L ∨ rd r z = rd xs z := by
  by_cases hneg : rd xs e < 0
  · have hall : ∀ z : Nat, z < n → Reach [t] n e z → rd xs z < 0 := fun z hz hr => by
      have := reach_const ht hi xs h.turn hr
      omega
    obtain ⟨r, e1, e2, e3⟩ := at_run t n hn ht hi L (by omega) e xs hall _ xs e (fun _ => False) (Nat.le_refl _) h.len he (Reach.refl _ _ _) (fun z _ hs => hs.elim) (fun z _ _ => rfl) (.inr rfl)
    have keep : ∀ z : Nat, z < n → 0 ≤ rd xs z → rd r z = rd xs z := fun z hz h0 => (e3 z hz).2 fun hr => by
      have := hall z hz hr
      omega
    have ha0 := h.start
    have hxl := h.len
    have hxa : ∀ z : Nat, z < n → rd r z = L ∨ rd r z = rd xs z := fun z hz => by
      by_cases hr : Reach [t] n e z
      · exact .inl ((e3 z hz).1 hr)
      · exact .inr ((e3 z hz).2 hr)
    refine ⟨r, e1, ⟨e2, fun x hx => ?_, ?_, fun x hx => ?_, fun x hx h0 => ?_, fun x hx h0 => ?_⟩, ?_, keep, hxa⟩
    · rcases hxa x hx with q | q
      · omega
      · rw [q]; exact h.rng x hx
    · by_cases han : a < n
      · rw [keep a han (by omega)]; exact h.start
      · unfold rd at ha0 ⊢
        rw [Int.toNat_natCast, List.getD_eq_getElem?_getD, List.getElem?_eq_none (by omega)] at ha0 ⊢
        exact ha0
    · have htx := ht.2 x hx
      obtain ⟨c, hc⟩ : ∃ c : Nat, rd t x = c := ⟨(rd t x).toNat, by omega⟩
      have hstep := Reach.step (ps := [t]) (p := t) (by simp) hx
      have htu := h.turn x hx
      rw [hc, Int.toNat_natCast] at hstep
      rw [hc] at htu ⊢
      by_cases hr : Reach [t] n e x
      · rw [(e3 x hx).1 hr, (e3 c (by omega)).1 (hr.trans hstep)]
      · rw [(e3 x hx).2 hr, (e3 c (by omega)).2 (fun q => hr (q.trans hstep.symm))]; exact htu
    · rcases hxa x hx with q | q
      · omega
      · rw [q] at h0; exact h.zero x hx h0
    · by_cases hr : Reach [t] n e x
      · refine ⟨e, he, hr, ?_⟩
        rw [hfe, keep d hd (by omega), (e3 x hx).1 hr]; exact hed
      · have q := (e3 x hx).2 hr
        rw [q] at h0 ⊢
        obtain ⟨y, y1, y2, y3⟩ := h.back x hx h0
        have hfy := hf.2 y y1
        refine ⟨y, y1, y2, ?_⟩
        obtain ⟨c, hc⟩ : ∃ c : Nat, rd f y = c := ⟨(rd f y).toNat, by omega⟩
        rw [hc] at y3 ⊢
        rw [keep c (by omega) (by omega)]; exact y3
    · rw [(e3 e he).1 (Reach.refl _ _ _)]; omega
  · refine ⟨xs, Ev.s ?_, h, by omega, fun z _ _ => rfl, fun z _ => .inr rfl⟩
    simp only [dfar.at, h.len, show (0 : Int) ≤ (e : Int) by omega, show (e : Int) < (n : Int) by omega, hneg, if_true, if_false]
    exact Ev.const rfl
theorem l2_run (t f : List Int) (n : Nat) (hn : n ≤ 12) (ht : inR n t) (hi : injR n t) (hf : inR n f) (hfl : ∀ i : Nat, i < n → flipAt f i) (a L : Nat) (hLn : L ≤ 12) :
    ∀ (d i : Nat) (xs : List Int), n - i = d → i ≤ n → LevI t f n a xs (L + 1) → (∀ x : Nat, x < n → 0 ≤ rd xs x → (rd xs x < L ∨ rd xs x = L ∧ x < i) → 0 ≤ rd xs (rd f x) ∧ rd xs (rd f x) ≤ rd xs x + 1) →
      ∃ r, Ev (fun k => dfar.l2 k t f (L : Int) xs (i : Int)) r ∧ LevI t f n a r (L + 1) ∧ ∀ x : Nat, x < n → 0 ≤ rd r x → rd r x < ((L + 1 : Nat) : Int) → 0 ≤ rd r (rd f x) ∧ rd r (rd f x) ≤ rd r x + 1
  | 0, i, xs, hd, hi', h, hE => by
    refine ⟨xs, Ev.s ?_, h, fun x hx h0 h1 => hE x hx h0 (by omega)⟩
    simp only [dfar.l2, hf.1, show ¬ (i : Int) < (n : Int) by omega, if_false]
    exact Ev.const rfl
  | d + 1, i, xs, hd, hi', h, hE => by
    have hlt : i < n := by omega
    have hfi := hf.2 i hlt
    obtain ⟨e, he⟩ : ∃ e : Nat, rd f i = e := ⟨(rd f i).toNat, by omega⟩
    have hen : e < n := by omega
    have hfe : rd f e = i := by have := (hfl i hlt).2; rwa [he] at this
    have g1 : (i : Int) < (n : Int) := by omega
    have g2 : (0 : Int) ≤ (i : Int) := by omega
    by_cases c : rd xs i = L
    · obtain ⟨r, e1, e2, e3, e4, e5⟩ := at_lev t f n hn ht hi hf a xs (L + 1) (by omega) h e i hen hlt hfe he (by omega)
      obtain ⟨r', f1, f2, f3⟩ := l2_run t f n hn ht hi hf hfl a L hLn d (i + 1) r (by omega) (by omega) e2 (fun x hx h0 hc => by
        have hfx := hf.2 x hx
        obtain ⟨q, hq⟩ : ∃ q : Nat, rd f x = q := ⟨(rd f x).toNat, by omega⟩
        by_cases hxi : x = i
        · subst hxi
          rw [he]
          have hb := (e2.rng e hen).2
          have hk := e4 x hx (by omega)
          exact ⟨e3, by omega⟩
        · have hx0 : 0 ≤ rd xs x := by
            rcases e5 x hx with w | w
            · omega
            · rw [← w]; exact h0
          have hv := e4 x hx hx0
          rw [hv] at h0 hc
          have := hE x hx hx0 (by omega)
          rw [hq] at this ⊢
          rw [e4 q (by omega) this.1, hv]; exact this)
      refine ⟨r', Ev.s ?_, f2, f3⟩
      simp only [dfar.l2, hf.1, h.len, g1, g2, c, he, if_true, show wrap64 ((L : Int) + 1) = ((L + 1 : Nat) : Int) from w64n (by omega)]
      refine Ev.bind e1 ?_
      rw [w64n (by omega)]
      exact f1
    · obtain ⟨r', f1, f2, f3⟩ := l2_run t f n hn ht hi hf hfl a L hLn d (i + 1) xs (by omega) (by omega) h (fun x hx h0 hc => hE x hx h0 (by
        rcases hc with hc | hc
        · exact .inl hc
        · refine .inr ⟨hc.1, ?_⟩
          have : x ≠ i := fun e => c (by rw [← e]; exact hc.1)
          omega))
      refine ⟨r', Ev.s ?_, f2, f3⟩
      simp only [dfar.l2, hf.1, h.len, g1, g2, c, if_true, if_false]
      rw [w64n (by omega)]
      exact f1
theorem l1_run (t f : List Int) (n : Nat) (hn : n ≤ 12) (ht : inR n t) (hi : injR n t) (hf : inR n f) (hfl : ∀ i : Nat, i < n → flipAt f i) (a : Nat) :
    ∀ (d L : Nat) (xs : List Int), n - L = d → L ≤ n → LevI t f n a xs L → (∀ x : Nat, x < n → 0 ≤ rd xs x → rd xs x < L → 0 ≤ rd xs (rd f x) ∧ rd xs (rd f x) ≤ rd xs x + 1) →
      ∃ r, Ev (fun k => dfar.l1 k t f xs (L : Int)) r ∧ LevI t f n a r n ∧ ∀ x : Nat, x < n → 0 ≤ rd r x → rd r x < (n : Int) → 0 ≤ rd r (rd f x) ∧ rd r (rd f x) ≤ rd r x + 1
  | 0, L, xs, hd, hL, h, hE => by
    have : L = n := by omega
    subst this
    refine ⟨xs, Ev.s ?_, h, hE⟩
    simp only [dfar.l1, ht.1, show ¬ (L : Int) < (L : Int) by omega, if_false]
    exact Ev.const rfl
  | d + 1, L, xs, hd, hL, h, hE => by
    have h' : LevI t f n a xs (L + 1) := ⟨h.len, fun x hx => ⟨(h.rng x hx).1, by have := (h.rng x hx).2; omega⟩, h.start, h.turn, h.zero, h.back⟩
    obtain ⟨r, e1, e2, e3⟩ := l2_run t f n hn ht hi hf hfl a L (by omega) n 0 xs (by omega) (by omega) h' (fun x hx h0 hc => hE x hx h0 (by omega))
    obtain ⟨r', f1, f2, f3⟩ := l1_run t f n hn ht hi hf hfl a d (L + 1) r (by omega) (by omega) e2 e3
    refine ⟨r', Ev.s ?_, f2, f3⟩
    simp only [dfar.l1, ht.1, show (L : Int) < (n : Int) by omega, if_true]
    refine Ev.bind e1 ?_
    rw [w64n (by omega)]
    exact f1
theorem lev_far (t f : List Int) (n : Nat) (H : MapK t f n) (a : Nat) (ha : a < n) (xs : List Int) (h : LevI t f n a xs n) (hE : ∀ x : Nat, x < n → 0 ≤ rd xs x → rd xs x < (n : Int) → 0 ≤ rd xs (rd f x) ∧ rd xs (rd f x) ≤ rd xs x + 1) : FarOk t f n a xs := by
  obtain ⟨hn, h1, ht, hi, hf, hfl, hcon⟩ := H
  have lt : ∀ x : Nat, x < n → rd xs x < n := by
    intro x hx
    refine Classical.byContradiction fun hno => ?_
    have hb := h.rng x hx
    have hx' : rd xs x = n := by omega
    have chain : ∀ d j : Nat, n - j = d → j ≤ n → ∃ y : Nat, y < n ∧ rd xs y = j := by
      intro d
      induction d with
      | zero => intro j hj hjn; exact ⟨x, hx, by omega⟩
      | succ d ih =>
        intro j hj hjn
        obtain ⟨y, y1, y2⟩ := ih (j + 1) (by omega) (by omega)
        obtain ⟨z, z1, z2, z3⟩ := h.back y y1 (by omega)
        have hfz := hf.2 z z1
        refine ⟨(rd f z).toNat, by omega, ?_⟩
        rw [show ((rd f z).toNat : Int) = rd f z by omega]
        omega
    have hex : ∀ j : Nat, ∃ y : Nat, j ≤ n → y < n ∧ rd xs y = j := fun j => by
      by_cases hj : j ≤ n
      · obtain ⟨y, q⟩ := chain _ j rfl hj
        exact ⟨y, fun _ => q⟩
      · exact ⟨0, fun q => absurd q hj⟩
    have hc1 : Cnt (n + 1) (fun j => j < n + 1) (n + 1) := ⟨List.range (n + 1), List.nodup_range, fun y => by simp, by simp⟩
    have hc2 : Cnt (n + 1) (fun j => j < n) n := ⟨List.range n, List.nodup_range, fun y => by simp; omega, by simp⟩
    have := Cnt.le hc1 hc2 (fun j => Classical.choose (hex j)) (fun j hj _ => by
      have q := Classical.choose_spec (hex j) (by omega)
      exact ⟨by omega, q.1⟩) (fun i j hi' _ hj _ e => by
      have q1 := (Classical.choose_spec (hex i) (by omega)).2
      have q2 := (Classical.choose_spec (hex j) (by omega)).2
      have e' : Classical.choose (hex i) = Classical.choose (hex j) := e
      rw [e', q2] at q1
      omega)
    omega
  have hcl : closedL [t, f] n (fun z => 0 ≤ rd xs z) := by
    intro p hp k hk
    simp at hp
    rcases hp with rfl | rfl
    · have h1 := ht.2 k hk
      have h2 := h.turn k hk
      show 0 ≤ rd xs k ↔ 0 ≤ rd xs ((rd p k).toNat : Nat)
      rw [show ((rd p k).toNat : Int) = rd p k by omega, h2]
    · have h1 := hf.2 k hk
      have h2 := (hfl k hk).2
      show 0 ≤ rd xs k ↔ 0 ≤ rd xs ((rd p k).toNat : Nat)
      constructor
      · intro q
        rw [show ((rd p k).toNat : Int) = rd p k by omega]
        exact (hE k hk q (lt k hk)).1
      · intro q
        have := (hE _ (show (rd p k).toNat < n by omega) q (lt _ (by omega))).1
        rw [show ((rd p k).toNat : Int) = rd p k by omega, h2] at this
        exact this
  have pos : ∀ x : Nat, x < n → 0 ≤ rd xs x := fun x hx => (hcon a x ha hx _ hcl).1 (by show 0 ≤ rd xs a; rw [h.start]; omega)
  refine ⟨h.len, fun x hx => ⟨pos x hx, lt x hx⟩, h.start, h.turn, fun x hx => ?_, h.zero, h.back⟩
  have hfx := hf.2 x hx
  have hff := (hfl x hx).2
  have q := (hE (rd f x).toNat (by omega) (pos _ (by omega)) (lt _ (by omega))).2
  rw [show ((rd f x).toNat : Int) = rd f x by omega, hff] at q
  exact q
theorem l0_run (n : Nat) (hn : n ≤ 12) : ∀ (d i : Nat) (xs : List Int), n - i = d → i ≤ n → xs.length = n → (∀ z : Nat, z < i → rd xs z = -1) → ∃ r, Ev (fun k => dfar.l0 k xs (i : Int) (n : Int)) r ∧ r.length = n ∧ ∀ z : Nat, z < n → rd r z = -1
  | 0, i, xs, hd, hi, hl, h => by
    have : i = n := by omega
    subst this
    refine ⟨xs, Ev.s ?_, hl, h⟩
    simp only [dfar.l0, show ¬ (i : Int) < (i : Int) by omega, if_false]
    exact Ev.const rfl
  | d + 1, i, xs, hd, hi, hl, h => by
    obtain ⟨r, r1, r2, r3⟩ := l0_run n hn d (i + 1) (xs.set i (-1)) (by omega) (by omega) (by simp [hl]) (fun z hz => by
      rw [rd_put _ _ _ _ (by omega)]
      by_cases e : z = i
      · rw [if_pos e]
      · rw [if_neg e]; exact h z (by omega))
    refine ⟨r, Ev.s ?_, r2, r3⟩
    simp only [dfar.l0, hl, show (i : Int) < (n : Int) by omega, show (0 : Int) ≤ (i : Int) by omega, if_true, Int.toNat_natCast]
    rw [w64n (by omega)]
    exact r1
theorem implFar_ev (t f : List Int) (n : Nat) (H : MapK t f n) (a : Nat) (ha : a < n) : ∃ g, FarOk t f n a g ∧ Ev (fun k => impl_distancesFrom.f k t f (a : Int)) g := by
  obtain ⟨hn, h1, ht, hi, hf, hfl, hcon⟩ := id H
  obtain ⟨xs, x1, x2, x3⟩ := l0_run n hn n 0 (List.replicate n 0) (by omega) (by omega) (by simp) (fun z hz => by omega)
  have hall : ∀ z : Nat, z < n → Reach [t] n a z → rd xs z < 0 := fun z hz _ => by rw [x3 z hz]; omega
  obtain ⟨ys, y1, y2, y3⟩ := at_run t n hn ht hi 0 (by omega) a xs hall _ xs a (fun _ => False) (Nat.le_refl _) x2 ha (Reach.refl _ _ _) (fun z _ hs => hs.elim) (fun z _ _ => rfl) (.inr rfl)
  have yv : ∀ z : Nat, z < n → (rd ys z = 0 ∧ Reach [t] n a z) ∨ (rd ys z = -1 ∧ ¬ Reach [t] n a z) := fun z hz => by
    by_cases hr : Reach [t] n a z
    · exact .inl ⟨(y3 z hz).1 hr, hr⟩
    · exact .inr ⟨by rw [(y3 z hz).2 hr, x3 z hz], hr⟩
  have hlev : LevI t f n a ys 0 := by
    refine ⟨y2, fun x hx => ?_, ?_, fun x hx => ?_, fun x hx h0 => ?_, fun x hx h0 => ?_⟩
    · rcases yv x hx with q | q <;> omega
    · exact (y3 a ha).1 (Reach.refl _ _ _)
    · have htx := ht.2 x hx
      obtain ⟨c, hc⟩ : ∃ c : Nat, rd t x = c := ⟨(rd t x).toNat, by omega⟩
      have hstep := Reach.step (ps := [t]) (p := t) (by simp) hx
      rw [hc, Int.toNat_natCast] at hstep
      rw [hc]
      rcases yv x hx with q | q
      · rw [q.1, (y3 c (by omega)).1 (q.2.trans hstep)]
      · rcases yv c (by omega) with p | p
        · exact absurd (p.2.trans hstep.symm) q.2
        · rw [q.1, p.1]
    · rcases yv x hx with q | q
      · exact q.2.symm
      · omega
    · rcases yv x hx with q | q <;> omega
  obtain ⟨r, r1, r2, r3⟩ := l1_run t f n hn ht hi hf hfl a n 0 ys (by omega) (by omega) hlev (fun x hx h0 h1 => by omega)
  refine ⟨r, lev_far t f n H a ha r r2 r3, ?_⟩
  unfold impl_distancesFrom.f
  have hg12 : 0 < n ∧ n ≤ 1048576 := ⟨by omega, by omega⟩
  simp only [ht.1, hg12, and_self, if_true]
  refine Ev.bind x1 ?_
  exact Ev.bind y1 r1
def farI (n a : Nat) (g o : List Int) : Prop := o.length = n ∧ (∀ z : Nat, z < n → rd g z ≤ rd o z ∧ rd o z ≤ n) ∧ rd o a = 0
theorem specFar_sweep (t f : List Int) (n : Nat) (H : MapK t f n) (a : Nat) (ha : a < n) (g : List Int) (hg : FarOk t f n a g) (round : Int) : ∀ (d i : Nat) (o : List Int), n - i = d → i ≤ n → farI n a g o →
    ∃ o', farI n a g o' ∧ (∀ r, Ev (fun k => spec_l2Fars.l1 k o' (wrap64 (round + 1)) t f) r → Ev (fun k => spec_l2Fars.l2 k o round i t f) r) ∧ (∀ z : Nat, z < n → rd o z = rd g z → rd o' z = rd g z) ∧
      (∀ j : Nat, i ≤ j → j < n → (rd o (rd f j) = rd g (rd f j) → rd g j = rd g (rd f j) + 1 → rd o' j = rd g j) ∧ (rd o j = rd g j → rd o' (rd t j) = rd g (rd t j)))
  | 0, i, o, hd, hi, ho => by
    refine ⟨o, ho, fun r h => Ev.s ?_, fun z _ h => h, fun j h1 h2 => by omega⟩
    simp only [spec_l2Fars.l2, ho.1, show ¬ (i : Int) < (n : Int) by omega, if_false]
    exact h
  | d + 1, i, o, hd, hi, ho => by
    obtain ⟨hn, h1, ht, hti, hf, hfl, hcon⟩ := id H
    have hlt : i < n := by omega
    have hd1 : n - (i + 1) = d := by omega
    have hra := ht.2 i hlt
    have hrb := hf.2 i hlt
    obtain ⟨ta, hta⟩ : ∃ c : Nat, rd t i = c := ⟨(rd t i).toNat, by omega⟩
    obtain ⟨fb, hfb⟩ : ∃ c : Nat, rd f i = c := ⟨(rd f i).toNat, by omega⟩
    have han : ta < n := by omega
    have hbn : fb < n := by omega
    obtain ⟨hl, hb, h0⟩ := ho
    have bi := hb i hlt
    have ba := hb ta han
    have bb := hb fb hbn
    have gi := hg.rng i hlt
    have gt := hg.turn i hlt
    have gf := hg.flip i hlt
    rw [hta] at gt
    rw [hfb] at gf
    obtain ⟨v, hv⟩ : ∃ v, mn (rd o i) (rd o fb + 1) = v := ⟨_, rfl⟩
    have hvm := mn_le (rd o i) (rd o fb + 1)
    rw [hv] at hvm
    obtain ⟨o1, ho1⟩ : ∃ o1, o.set i v = o1 := ⟨_, rfl⟩
    have r1 : ∀ z : Nat, rd o1 z = if z = i then v else rd o z := fun z => by rw [← ho1]; exact rd_put o i z v (by omega)
    have hl1 : o1.length = n := by rw [← ho1]; simp [hl]
    have o1i : rd o1 i = v := by rw [r1, if_pos rfl]
    have b1 : ∀ z : Nat, z < n → rd g z ≤ rd o1 z ∧ rd o1 z ≤ rd o z := fun z hz => by
      rw [r1]
      by_cases e : z = i
      · subst e; rw [if_pos rfl]; omega
      · rw [if_neg e]; exact ⟨(hb z hz).1, Int.le_refl _⟩
    obtain ⟨w, hw⟩ : ∃ w, mn (rd o1 ta) (rd o1 i) = w := ⟨_, rfl⟩
    have hwm := mn_le (rd o1 ta) (rd o1 i)
    rw [hw] at hwm
    obtain ⟨o2, ho2⟩ : ∃ o2, o1.set ta w = o2 := ⟨_, rfl⟩
    have r2 : ∀ z : Nat, rd o2 z = if z = ta then w else rd o1 z := fun z => by rw [← ho2]; exact rd_put o1 ta z w (by omega)
    have hl2 : o2.length = n := by rw [← ho2]; simp [hl1]
    have c1 := b1 ta han
    have c2 := b1 i hlt
    have b2 : ∀ z : Nat, z < n → rd g z ≤ rd o2 z ∧ rd o2 z ≤ rd o1 z := fun z hz => by
      rw [r2]
      by_cases e : z = ta
      · subst e; rw [if_pos rfl]; omega
      · rw [if_neg e]; exact ⟨(b1 z hz).1, Int.le_refl _⟩
    have keep : ∀ z : Nat, z < n → rd o z = rd g z → rd o2 z = rd g z := fun z hz e => by
      have p1 := b1 z hz
      have p2 := b2 z hz
      omega
    have ho2I : farI n a g o2 := ⟨hl2, fun z hz => ⟨(b2 z hz).1, by have p1 := b1 z hz; have p2 := b2 z hz; have p3 := hb z hz; omega⟩, by
      have q := keep a ha (by rw [h0, hg.start])
      rw [q, hg.start]⟩
    obtain ⟨o', d1, d2, d3, d4⟩ := specFar_sweep t f n H a ha g hg round d (i + 1) o2 hd1 hlt ho2I
    refine ⟨o', d1, fun r h => Ev.s ?_, fun z hz e => d3 z hz (keep z hz e), fun j h1 h2 => ?_⟩
    · have hgo := d2 r h
      have g1 : (i : Int) < (n : Int) := by omega
      have g2 : (0 : Int) ≤ (i : Int) := by omega
      have g3 : (0 : Int) ≤ (ta : Int) := by omega
      have g4 : (ta : Int) < (n : Int) := by omega
      have g5 : (0 : Int) ≤ (fb : Int) := by omega
      have g6 : (fb : Int) < (n : Int) := by omega
      have gw : wrap64 (rd o fb + 1) = rd o fb + 1 := w64 (by omega) (by omega)
      simp only [spec_l2Fars.l2, ht.1, hf.1, hl, hl1, g1, g2, g3, g4, g5, g6, hta, hfb, hv, hw, gw, if_true, Int.toNat_natCast, ho1, ho2, Option.bind_some]
      rw [w64n (by omega)]
      exact hgo
    · by_cases e : j = i
      · subst e
        rw [hta, hfb]
        refine ⟨fun e1 e2 => d3 j h2 ?_, fun e1 => d3 ta han ?_⟩
        · have p2 := b2 j h2
          rw [o1i] at p2
          omega
        · have p2 : rd o2 ta = w := by rw [r2, if_pos rfl]
          rw [o1i] at hwm
          rw [p2]
          omega
      · have hj := d4 j (by omega) h2
        have hfj := hf.2 j h2
        obtain ⟨c, hc⟩ : ∃ c : Nat, rd f j = c := ⟨(rd f j).toNat, by omega⟩
        rw [hc] at hj ⊢
        exact ⟨fun e1 e2 => hj.1 (keep c (by omega) e1) e2, fun e1 => hj.2 (keep j h2 e1)⟩
theorem specFar_loop (t f : List Int) (n : Nat) (H : MapK t f n) (a : Nat) (ha : a < n) (g : List Int) (hg : FarOk t f n a g) : ∀ (d i : Nat) (o : List Int), 2 * n - i = d → i ≤ 2 * n → farI n a g o → lag o g n ≤ d → Ev (fun k => spec_l2Fars.l1 k o (i : Int) t f) g
  | 0, i, o, hd, hi, ho, hl => by
    obtain ⟨hn, h1, ht, hti, hf, hfl, hcon⟩ := id H
    refine Ev.s ?_
    have hw2 : wrap64 (2 * (n : Int)) = 2 * (n : Int) := w64 (by omega) (by omega)
    simp only [spec_l2Fars.l1, ho.1, hw2, show ¬ (i : Int) < 2 * (n : Int) by omega, if_false]
    have : o = g := list_ext o g (ho.1.trans hg.len.symm) fun z hz => lag_zero o g n (by omega) z (by rw [← ho.1]; exact hz)
    exact Ev.const (by rw [this])
  | d + 1, i, o, hd, hi, ho, hl => by
    obtain ⟨hn, h1, ht, hti, hf, hfl, hcon⟩ := id H
    obtain ⟨o', c1, c2, c3, c4⟩ := specFar_sweep t f n H a ha g hg i n 0 o (by omega) (by omega) ho
    refine Ev.s ?_
    have hw2 : wrap64 (2 * (n : Int)) = 2 * (n : Int) := w64 (by omega) (by omega)
    simp only [spec_l2Fars.l1, ho.1, hw2, show (i : Int) < 2 * (n : Int) by omega, if_true]
    refine c2 g ?_
    rw [w64n (by omega)]
    refine specFar_loop t f n H a ha g hg d (i + 1) o' (by omega) (by omega) c1 ?_
    have hout : ∀ z : Nat, ¬ z < n → rd o z = rd o' z := by
      intro z hz
      unfold rd
      rw [Int.toNat_natCast, List.getD_eq_getElem?_getD, List.getD_eq_getElem?_getD, List.getElem?_eq_none (by rw [ho.1]; omega), List.getElem?_eq_none (by rw [c1.1]; omega)]
    have keep : ∀ z : Nat, rd o z = rd g z → rd o' z = rd g z := fun z e => by
      by_cases hz : z < n
      · exact c3 z hz e
      · rw [← hout z hz]; exact e
    by_cases hz : lag o g n = 0
    · have := lag_mono o o' g keep n
      omega
    · have hex : ∃ z : Nat, z < n ∧ rd o z ≠ rd g z ∧ rd o' z = rd g z := by
        refine Classical.byContradiction fun hno => ?_
        have hsame : ∀ z : Nat, z < n → (rd o z = rd g z ↔ rd o' z = rd g z) := fun z hz => ⟨keep z, fun e => Classical.byContradiction fun hne => hno ⟨z, hz, hne, e⟩⟩
        have hcl : closedL [t] n (fun z => rd o z = rd g z) := closed_of_fwd t n ht hti _ fun k hk e => by
          have hr := ht.2 k hk
          refine (hsame (rd t k).toNat (by omega)).2 ?_
          rw [show ((rd t k).toNat : Int) = rd t k by omega]
          exact (c4 k (by omega) hk).2 e
        have hall : ∀ m z : Nat, z < n → rd g z ≤ m → rd o z = rd g z := by
          intro m
          induction m with
          | zero =>
            intro z hz hm
            have hb := hg.rng z hz
            have hr := hg.zero z hz (by omega)
            refine (hr _ hcl).2 ?_
            show rd o a = rd g a
            rw [ho.2.2, hg.start]
          | succ m ih =>
            intro z hz hm
            by_cases hm' : rd g z ≤ m
            · exact ih z hz hm'
            · obtain ⟨y, y1, y2, y3⟩ := hg.back z hz (by omega)
              have hfy := hf.2 y y1
              obtain ⟨c, hc⟩ : ∃ c : Nat, rd f y = c := ⟨(rd f y).toNat, by omega⟩
              have hcy := reach_const ht hti g hg.turn y2
              have h4 := (c4 y (by omega) y1).1
              rw [hc] at y3 h4
              have hyo := h4 (ih c (by omega) (by omega)) (by omega)
              exact (y2 _ hcl).1 ((hsame y y1).2 hyo)
        have hz0 : ∀ m, m ≤ n → lag o g m = 0 := by
          intro m
          induction m with
          | zero => intro _; rfl
          | succ m ih =>
            intro hm
            simp only [lag]
            have hb := hg.rng m (by omega)
            rw [if_pos (hall (rd g m).toNat m (by omega) (by omega)), ih (by omega)]
        exact hz (hz0 n (Nat.le_refl _))
      obtain ⟨z, z1, z2, z3⟩ := hex
      have := lag_lt o o' g keep z z2 z3 n z1
      omega
theorem specFar_init (t f : List Int) (n : Nat) (hn : n ≤ 12) (a : Nat) (ha : a < n) : ∀ (d i : Nat) (o : List Int), n - i = d → i ≤ n → o.length = n → (∀ z : Nat, z < i → rd o z = n) →
    ∃ o', o'.length = n ∧ (∀ z : Nat, z < n → rd o' z = n) ∧ ∀ r, Ev (fun k => spec_l2Fars.l1 k (o'.set a 0) 0 t f) r → Ev (fun k => spec_l2Fars.l0 k (a : Int) o (i : Int) t f) r
  | 0, i, o, hd, hi, hl, h => by
    refine ⟨o, hl, fun z hz => h z (by omega), fun r hr => Ev.s ?_⟩
    simp only [spec_l2Fars.l0, hl, show ¬ (i : Int) < (n : Int) by omega, show (0 : Int) ≤ (a : Int) by omega, show (a : Int) < (n : Int) by omega, if_true, if_false, Int.toNat_natCast]
    exact hr
  | d + 1, i, o, hd, hi, hl, h => by
    obtain ⟨o', e1, e2, e3⟩ := specFar_init t f n hn a ha d (i + 1) (o.set i n) (by omega) (by omega) (by simp [hl]) (fun z hz => by
      rw [rd_put _ _ _ _ (by omega)]
      by_cases e : z = i
      · rw [if_pos e]
      · rw [if_neg e]; exact h z (by omega))
    refine ⟨o', e1, e2, fun r hr => Ev.s ?_⟩
    simp only [spec_l2Fars.l0, hl, show (i : Int) < (n : Int) by omega, show (0 : Int) ≤ (i : Int) by omega, if_true, Int.toNat_natCast]
    rw [w64n (by omega)]
    exact e3 r hr
theorem specFar_ev (t f : List Int) (n : Nat) (H : MapK t f n) (a : Nat) (ha : a < n) (g : List Int) (hg : FarOk t f n a g) : Ev (fun k => spec_l2Fars.f k t f (a : Int)) g := by
  obtain ⟨hn, h1, ht, hti, hf, hfl, hcon⟩ := id H
  obtain ⟨o, o1, o2, o3⟩ := specFar_init t f n hn a ha n 0 (List.replicate n 0) (by omega) (by omega) (by simp) (fun z hz => by omega)
  unfold spec_l2Fars.f
  simp only [ht.1, Int.toNat_natCast, show (0 : Int) ≤ (n : Int) by omega, show n ≤ 35184372088832 by omega, if_true]
  refine o3 g ?_
  have hr : ∀ z : Nat, rd (o.set a 0) z = if z = a then 0 else rd o z := fun z => rd_put o a z 0 (by omega)
  refine specFar_loop t f n H a ha g hg (2 * n) 0 (o.set a 0) (by omega) (by omega) ⟨by simp [o1], fun z hz => ?_, by rw [hr, if_pos rfl]⟩ ?_
  · rw [hr]
    have hb := hg.rng z hz
    by_cases e : z = a
    · subst e; rw [if_pos rfl, hg.start]; omega
    · rw [if_neg e, o2 z hz]; omega
  · have := lag_le (o.set a 0) g n
    omega
theorem far_both (t f : List Int) (n : Nat) (H : MapK t f n) (a : Nat) (ha : a < n) : ∃ g, FarOk t f n a g ∧ Ev (fun k => spec_l2Fars.f k t f (a : Int)) g ∧ Ev (fun k => impl_distancesFrom.f k t f (a : Int)) g := by
  obtain ⟨g, hg, e⟩ := implFar_ev t f n H a ha
  exact ⟨g, hg, specFar_ev t f n H a ha g hg, e⟩
theorem take_set_one (l : List Int) (i : Nat) (v : Int) (h : i < l.length) : (l.set i v).take (i + 1) = l.take i ++ [v] := by
  rw [List.take_succ_eq_append_getElem (by simpa using h), List.take_set_of_le (Nat.le_refl _), List.getElem_set_self]
def mulL (a b : List Int) : Nat → List Int
  | 0 => []
  | i + 1 => mulL a b i ++ [rd b (rd a i)]
theorem mulL_length (a b : List Int) : ∀ n, (mulL a b n).length = n
  | 0 => rfl
  | n + 1 => by simp [mulL, mulL_length a b n]
theorem mulL_rd (a b : List Int) : ∀ (n i : Nat), i < n → rd (mulL a b n) i = rd b (rd a i)
  | n + 1, i, h => by
    simp only [mulL]
    by_cases e : i < n
    · rw [rd_app_lt _ _ _ (by rw [mulL_length]; exact e), mulL_rd a b n i e]
    · have : i = n := by omega
      subst this
      have h2 : i < (mulL a b i ++ [rd b (rd a (i : Int))]).length := by simp [mulL_length]
      rw [rd_lt _ i h2, List.getElem_append_right (by rw [mulL_length]; exact Nat.le_refl _)]
      simp [mulL_length]
theorem mulL_inR (n : Nat) (a b : List Int) (ha : inR n a) (hb : inR n b) : inR n (mulL a b n) := by
  refine ⟨mulL_length a b n, fun i hi => ?_⟩
  rw [mulL_rd a b n i hi]
  have h1 := ha.2 i hi
  have h2 := hb.2 (rd a i).toNat (by omega)
  rwa [show ((rd a i).toNat : Int) = rd a i by omega] at h2
theorem specMul_run (n : Nat) (hn : n ≤ 1048576) (a b : List Int) (ha : inR n a) (hb : inR n b) : ∀ (d i : Nat), n - i = d → i ≤ n → Ev (fun k => spec_l1Mul.l0 k a b (mulL a b i) i) (mulL a b n)
  | 0, i, hd, hi => by
    have : i = n := by omega
    subst this
    refine Ev.s ?_
    simp only [spec_l1Mul.l0, ha.1, show ¬ (i : Int) < (i : Int) by omega, if_false]
    exact Ev.const rfl
  | d + 1, i, hd, hi => by
    have h1 := ha.2 i (by omega)
    have hb1 := hb.1
    refine Ev.s ?_
    simp only [spec_l1Mul.l0, ha.1, hb1, mulL_length, show (i : Int) < (n : Int) by omega, show (0 : Int) ≤ (i : Int) by omega, h1.1, h1.2, show i < 17592186044416 by omega, if_true]
    rw [w64n (by omega)]
    exact specMul_run n hn a b ha hb d (i + 1) (by omega) (by omega)
theorem specMul_ev (n : Nat) (hn : n ≤ 1048576) (a b : List Int) (ha : inR n a) (hb : inR n b) : Ev (fun k => spec_l1Mul.f k a b) (mulL a b n) := by
  unfold spec_l1Mul.f
  exact specMul_run n hn a b ha hb n 0 (by omega) (by omega)
theorem implMul_run (n : Nat) (hn : n ≤ 1048576) (a b : List Int) (ha : inR n a) (hb : inR n b) : ∀ (d i : Nat) (l : List Int), n - i = d → i ≤ n → l.length = n → l.take i = mulL a b i → Ev (fun k => impl_mul.l0 k b l a n i) (mulL a b n)
  | 0, i, l, hd, hi, hl, ht => by
    have : i = n := by omega
    subst this
    refine Ev.s ?_
    simp only [impl_mul.l0, show ¬ (i : Int) < (i : Int) by omega, if_false]
    rw [List.take_of_length_le (by omega)] at ht
    exact Ev.const (by rw [ht])
  | d + 1, i, l, hd, hi, hl, ht => by
    have h1 := ha.2 i (by omega)
    have hb1 := hb.1
    refine Ev.s ?_
    simp only [impl_mul.l0, ha.1, hb1, hl, show (i : Int) < (n : Int) by omega, show (0 : Int) ≤ (i : Int) by omega, h1.1, h1.2, if_true, Int.toNat_natCast]
    rw [w64n (by omega)]
    refine implMul_run n hn a b ha hb d (i + 1) _ (by omega) (by omega) (by simpa using hl) ?_
    rw [take_set_one _ _ _ (by omega), ht]
    rfl
theorem implMul_ev (n : Nat) (hn : n ≤ 1048576) (a b : List Int) (ha : inR n a) (hb : inR n b) : Ev (fun k => impl_mul.f k a b) (mulL a b n) := by
  unfold impl_mul.f
  have h1 : n ≤ 35184372088832 := by omega
  have h2 : (0 : Int) ≤ (n : Int) := by omega
  simp only [ha.1, Int.toNat_natCast, h1, h2, if_true]
  exact implMul_run n hn a b ha hb n 0 _ (by omega) (by omega) (by simp) (by simp [mulL])
theorem mulL_cmp (t f : List Int) (n : Nat) (ht : inR n t) (hf : inR n f) : mulL f t n = cmpL t f n :=
  list_ext _ _ (by rw [mulL_length, (cmpL_inR t f n ht hf).1]) fun i hi => by
    rw [mulL_length] at hi
    rw [mulL_rd f t n i hi, cmpL_rd t f n i hi]
theorem flip_injB (f : List Int) (n : Nat) (hfl : ∀ i : Nat, i < n → flipAt f i) : injR n f := fun i j h1 h2 e => by
  have f1 := (hfl i h1).2
  have f2 := (hfl j h2).2
  rw [e] at f1
  omega
theorem bipart (t f : List Int) (n : Nat) (H : MapK t f n) (h4 : ∀ l ∈ (cyS (mulL f t n) n n).2, l.length = 4) (hE : 2 * (cyS t n n).2.length + 2 * (cyS (mulL f t n) n n).2.length = 4 + n)
    (a : Nat) (ha : a < n) (g : List Int) (hg : FarOk t f n a g) : ∀ x : Nat, x < n → rd g (x : Int) ≠ rd g (rd f (x : Int)) := by
  obtain ⟨hn, h1, ht, hti, hf, hfl, hcon⟩ := id H
  have hfi := flip_injB f n hfl
  have pIn := cmpL_inR t f n ht hf
  have pInj := cmpL_inj t f n ht hti hf hfi
  rw [mulL_cmp t f n ht hf] at h4 hE
  obtain ⟨_, h4p⟩ := four_path _ n pIn pInj h4
  let bad : Nat → Bool := fun d => decide (rd g (d : Int) = rd g (rd f (d : Int)))
  have nat : ∀ d : Nat, d < n → (((rd f (d : Int)).toNat : Nat) : Int) = rd f (d : Int) ∧ (rd f (d : Int)).toNat < n := fun d hd => by
    have := hf.2 d hd
    omega
  have hinv : invB f n bad := fun d hd => by
    show decide _ = decide _
    rw [(nat d hd).1, (hfl d hd).2]
    simp only [eq_comm]
  have r1 : ∀ {ps : List (List Int)} (x y : Nat), t ∈ ps → Reach [t] n x y → Reach ps n x y := fun x y hm h S hS => h S fun p hp k hk => by
    rw [List.mem_singleton.1 hp]
    exact hS t hm k hk
  have toA : ∀ (m x : Nat), x < n → rd g (x : Int) = m → Reach [t, fx f n (fun d => !bad d)] n x a := by
    intro m
    induction m with
    | zero => exact fun x hx e => r1 x a (by simp) (hg.zero x hx (by simpa using e))
    | succ m ih =>
      intro x hx e
      obtain ⟨y, y1, y2, y3⟩ := hg.back x hx (by omega)
      have ey := reach_const ht hti g hg.turn y2
      have s := Reach.step (ps := [t, fx f n (fun d => !bad d)]) (n := n) (p := fx f n (fun d => !bad d)) (by simp) y1
      have nb : bad y = false := decide_eq_false (by omega)
      rw [fx_rd f n _ y y1, if_pos (by show (!bad y) = true; rw [nb]; rfl)] at s
      have z := ih (rd f (y : Int)).toNat (nat y y1).2 (by rw [(nat y y1).1]; omega)
      exact (r1 y x (by simp) y2).symm.trans (s.trans z)
  have conn : ∀ i j : Nat, i < n → j < n → Reach [t, fx f n (fun d => !bad d)] n i j := fun i j hi hj => by
    have gi := hg.rng i hi
    have gj := hg.rng j hj
    exact (toA (rd g (i : Int)).toNat i hi (by omega)).trans (toA (rd g (j : Int)).toNat j hj (by omega)).symm
  have even : ∀ x, x < n → bad x = true → ∃ y, y < n ∧ y ≠ x ∧ bad y = true ∧ Reach [cmpL t f n] n x y := by
    intro x hx hb
    have hb : rd g (x : Int) = rd g (rd f (x : Int)) := of_decide_eq_true hb
    -- a point's next one, as a number
    have nx : ∀ z : Nat, z < n → ∃ y : Nat, y < n ∧ rd (cmpL t f n) (z : Int) = y ∧ rd g (y : Int) = rd g (rd f (z : Int)) ∧ Reach [cmpL t f n] n z y := fun z hz => by
      have pz := pIn.2 z hz
      have s := Reach.step (ps := [cmpL t f n]) (n := n) (p := cmpL t f n) (by simp) hz
      refine ⟨(rd (cmpL t f n) (z : Int)).toNat, by omega, by omega, ?_, s⟩
      rw [show (((rd (cmpL t f n) (z : Int)).toNat : Nat) : Int) = rd (cmpL t f n) (z : Int) by omega, cmpL_rd t f n z hz, ← (nat z hz).1, hg.turn _ (nat z hz).2]
    have one : ∀ z : Nat, z < n → bad z = false → rd g (rd f (z : Int)) = rd g (z : Int) + 1 ∨ rd g (rd f (z : Int)) + 1 = rd g (z : Int) := fun z hz h => by
      have h : ¬ rd g (z : Int) = rd g (rd f (z : Int)) := of_decide_eq_false h
      have a1 := hg.flip z hz
      have a2 := hg.flip _ (nat z hz).2
      rw [(nat z hz).1, (hfl z hz).2] at a2
      omega
    obtain ⟨y1, a1, b1, c1, d1⟩ := nx x hx
    obtain ⟨y2, a2, b2, c2, d2⟩ := nx y1 a1
    obtain ⟨y3, a3, b3, c3, d3⟩ := nx y2 a2
    obtain ⟨q1, q2, q3, q4⟩ := h4p x hx
    rw [b1, b2, b3] at q1 q4
    rw [b1, b2] at q3
    rw [b1] at q2
    have c4 : rd g (x : Int) = rd g (rd f (y3 : Int)) := by
      obtain ⟨y4, a4, b4, c4, d4⟩ := nx y3 a3
      rw [← c4, ← b4, q1]
    by_cases e1 : bad y1 = true
    · exact ⟨y1, a1, by omega, e1, d1⟩
    · by_cases e2 : bad y2 = true
      · exact ⟨y2, a2, by omega, e2, d1.trans d2⟩
      · by_cases e3 : bad y3 = true
        · exact ⟨y3, a3, by omega, e3, d1.trans (d2.trans d3)⟩
        · exfalso
          have o1 := one y1 a1 (by simpa using e1)
          have o2 := one y2 a2 (by simpa using e2)
          have o3 := one y3 a3 (by simpa using e3)
          omega
  intro x hx e
  have := plane_none t f n ht hti hf hfl h1 bad hinv conn even _ _ (cyS_cl t n ht hti) (cyS_cl _ n pIn pInj) hE x hx
  exact absurd e (of_decide_eq_false this)
theorem bipart_step (t f : List Int) (n : Nat) (H : MapK t f n) (h4 : ∀ l ∈ (cyS (mulL f t n) n n).2, l.length = 4) (hE : 2 * (cyS t n n).2.length + 2 * (cyS (mulL f t n) n n).2.length = 4 + n)
    (a : Nat) (ha : a < n) (g : List Int) (hg : FarOk t f n a g) (x : Nat) (hx : x < n) : rd g (rd f (x : Int)) = rd g (x : Int) + 1 ∨ rd g (rd f (x : Int)) + 1 = rd g (x : Int) := by
  have h := bipart t f n H h4 hE a ha g hg x hx
  obtain ⟨hn, h1, ht, hti, hf, hfl, hcon⟩ := id H
  have a1 := hg.flip x hx
  have fx := hf.2 x hx
  have a2 := hg.flip (rd f (x : Int)).toNat (by omega)
  rw [show (((rd f (x : Int)).toNat : Nat) : Int) = rd f (x : Int) by omega, (hfl x hx).2] at a2
  omega
theorem cw_bound (p : List Int) (n : Nat) (hp : inR n p) : ∀ (f : Nat) (s : List Bool) (c : List Int) (a : Int), s.length = n → 0 ≤ a → a < n → (cw p f s c a).2.length + fresh (cw p f s c a).1 ≤ c.length + fresh s
  | 0, s, c, a, hs, h0, h1 => Nat.le_refl _
  | f + 1, s, c, a, hs, h0, h1 => by
    simp only [cw]
    by_cases e : rdOf false s a = true
    · simp only [e, if_true]
      exact Nat.le_refl _
    · simp only [e, Bool.false_eq_true, if_false]
      have h3 : s.getD a.toNat false = false := by rw [← rdOf_nat s a h0]; simpa using e
      have h4 := fresh_set s a.toNat (by omega) h3
      have h5 := hp.2 a.toNat (by omega)
      rw [show ((a.toNat : Nat) : Int) = a by omega] at h5
      have ih := cw_bound p n hp f (s.set a.toNat true) (c ++ [a]) (rd p a) (by simpa using hs) h5.1 h5.2
      rw [List.length_append, List.length_singleton] at ih
      omega
theorem cyS_bound (p : List Int) (n : Nat) (hp : inR n p) : ∀ i, i ≤ n → ∀ l ∈ (cyS p n i).2, 1 ≤ l.length ∧ l.length ≤ n
  | 0, _, l, hl => by simp [cyS] at hl
  | i + 1, hi, l, hl => by
    have ih := cyS_bound p n hp i (by omega) l
    simp only [cyS] at hl
    have hb := cw_bound p n hp (n + 1) (cyS p n i).1 [] i (cyS_len p n i) (by omega) (by omega)
    have hf := fresh_le (cyS p n i).1
    rw [cyS_len] at hf
    rw [List.length_nil, Nat.zero_add] at hb
    by_cases e : (cw p (n + 1) (cyS p n i).1 [] (i : Int)).2 = []
    · rw [if_pos e] at hl
      exact ih hl
    · rw [if_neg e, List.mem_append] at hl
      rcases hl with hl | hl
      · exact ih hl
      · rw [List.mem_singleton.1 hl]
        have : 0 < (cw p (n + 1) (cyS p n i).1 [] (i : Int)).2.length := List.length_pos_iff.2 e
        omega
theorem cyS_pos (p : List Int) (n : Nat) (h1 : 1 ≤ n) : 0 < (cyS p n n).2.length := by
  have hm : ∀ i, 1 ≤ i → 0 < (cyS p n i).2.length := by
    intro i
    induction i with
    | zero => intro h; omega
    | succ i ih =>
      intro _
      simp only [cyS]
      by_cases hi : 1 ≤ i
      · have := ih hi
        split
        · exact this
        · rw [List.length_append]; omega
      · have : i = 0 := by omega
        subst this
        rw [if_neg (cw_new p n _ _ (by show ¬ (List.replicate n false).getD 0 false = true; rw [List.getD_eq_getElem?_getD, List.getElem?_replicate]; split <;> simp))]
        rw [List.length_append, List.length_singleton]
        omega
  exact hm n h1
theorem rev_run : ∀ (d : Nat) (i j : Int) (l : List Int), l.length ≤ 1048576 → 0 ≤ i → j < l.length → i ≤ 1048576 → -1 ≤ j → j - i ≤ d → ∃ r, Ev (fun k => slices_Reverse_int_int.l0 k l i j) r ∧ r.Perm l
  | 0, i, j, l, hl, h0, h1, h2, h3, hd => by
    refine ⟨l, Ev.s ?_, List.Perm.refl _⟩
    simp only [slices_Reverse_int_int.l0, show ¬ i < j by omega, if_false]
    exact Ev.const rfl
  | d + 1, i, j, l, hl, h0, h1, h2, h3, hd => by
    by_cases hij : i < j
    · obtain ⟨r, r1, r2⟩ := rev_run d (i + 1) (j - 1) ((l.set i.toNat (rd l j)).set j.toNat (rd l i)) (by simpa using hl) (by omega) (by simp only [List.length_set]; omega) (by omega) (by omega) (by omega)
      have hpm : ((l.set i.toNat (rd l j)).set j.toNat (rd l i)).Perm l := by
        have hi : i.toNat < l.length := by omega
        have hj : j.toNat < l.length := by omega
        have e1 : rd l i = l[i.toNat] := by have := rd_lt l i.toNat hi; rwa [show ((i.toNat : Nat) : Int) = i by omega] at this
        have e2 : rd l j = l[j.toNat] := by have := rd_lt l j.toNat hj; rwa [show ((j.toNat : Nat) : Int) = j by omega] at this
        rw [e1, e2]
        exact List.set_set_perm hi hj
      refine ⟨r, Ev.s ?_, r2.trans hpm⟩
      simp only [slices_Reverse_int_int.l0, hij, show 0 ≤ j by omega, h1, h0, show i < (l.length : Int) by omega, if_true, w64 (x := i + 1) (by omega) (by omega), w64 (x := j - 1) (by omega) (by omega)]
      exact r1
    · refine ⟨l, Ev.s ?_, List.Perm.refl _⟩
      simp only [slices_Reverse_int_int.l0, hij, if_false]
      exact Ev.const rfl
theorem rev_ev (l : List Int) (hl : l.length ≤ 1048576) : ∃ r, Ev (fun k => slices_Reverse_int_int.f k l) r ∧ r.Perm l := by
  obtain ⟨r, r1, r2⟩ := rev_run l.length 0 ((l.length : Int) - 1) l hl (by omega) (by omega) (by omega) (by omega) (by omega)
  refine ⟨r, ?_, r2⟩
  unfold slices_Reverse_int_int.f
  rw [w64 (by omega) (by omega)]
  exact r1
def lensL (C : List (List Int)) : List Int := C.map fun l => (l.length : Int)
theorem lens_take (C : List (List Int)) (i : Nat) (h : i < C.length) : lensL (C.take (i + 1)) = lensL (C.take i) ++ [((rd_L1 C (i : Int)).length : Int)] := by
  unfold lensL rd_L1
  rw [List.take_succ_eq_append_getElem h, List.map_append, Int.toNat_natCast, List.getD_eq_getElem?_getD, List.getElem?_eq_getElem h]
  rfl
theorem typeOf_run (C : List (List Int)) (hC : C.length ≤ 1048576) (hp : 0 < C.length) : ∃ r, r.Perm (lensL C) ∧ ∀ (d i : Nat), C.length - i = d → i ≤ C.length → Ev (fun k => impl_typeOf.l0 k (lensL (C.take i)) C C.length i) r := by
  have hll : (lensL C).length = C.length := by simp [lensL]
  have hs : ((lensL C).mergeSort fun x y => decide (x ≤ y)).length = C.length := by rw [List.length_mergeSort, hll]
  obtain ⟨r, r1, r2⟩ := rev_ev ((lensL C).mergeSort fun x y => decide (x ≤ y)) (by omega)
  refine ⟨r, r2.trans (List.mergeSort_perm _ _), ?_⟩
  intro d
  induction d with
  | zero =>
    intro i hd hi
    have e : i = C.length := by omega
    rw [e, List.take_length]
    refine Ev.s ?_
    have hsort : slices_Sort_int_int.f (lensL C) = some ((lensL C).mergeSort fun x y => decide (x ≤ y)) := by
      unfold slices_Sort_int_int.f
      rw [if_pos ⟨by omega, by omega⟩]
    simp only [impl_typeOf.l0, show ¬ (C.length : Int) < (C.length : Int) by omega, if_false, hsort, Option.bind_some]
    exact Ev.bind r1 (Ev.const rfl)
  | succ d ih =>
    intro i hd hi
    have h := ih (i + 1) (by omega) (by omega)
    rw [lens_take C i (by omega)] at h
    have hlt : (lensL (C.take i)).length < 17592186044416 := by simp only [lensL, List.length_map, List.length_take]; omega
    refine Ev.s ?_
    simp only [impl_typeOf.l0, show (i : Int) < (C.length : Int) by omega, show (0 : Int) ≤ (i : Int) by omega, hlt, if_true, w64n (show i < 4611686018427387904 by omega)]
    exact h
def all4 (r : List Int) : Bool := r.all fun x => decide (x = 4)
theorem all4_drop (r : List Int) (i : Nat) (h : i < r.length) : all4 (r.drop i) = (decide (rd r i = 4) && all4 (r.drop (i + 1))) := by
  unfold all4
  rw [List.drop_eq_getElem_cons h, List.all_cons, rd_lt r i h]
def tlL (C : List (List Int)) : Nat → List Int
  | 0 => []
  | d + 1 => List.replicate (C.countP fun l => decide (l.length = d + 1)) ((d + 1 : Nat) : Int) ++ tlL C d
theorem tlL_mem (C : List (List Int)) (x : Int) : ∀ d, x ∈ tlL C d ↔ ∃ l ∈ C, 1 ≤ l.length ∧ l.length ≤ d ∧ x = (l.length : Int)
  | 0 => by
    simp only [tlL, List.not_mem_nil, false_iff]
    rintro ⟨l, _, h1, h2, _⟩
    omega
  | d + 1 => by
    simp only [tlL, List.mem_append, List.mem_replicate, tlL_mem C x d]
    constructor
    · rintro (⟨h, rfl⟩ | ⟨l, hl, h1, h2, rfl⟩)
      · obtain ⟨l, hl, e⟩ := List.countP_pos_iff.1 (Nat.pos_of_ne_zero h)
        have e := of_decide_eq_true e
        exact ⟨l, hl, by omega, by omega, by rw [e]⟩
      · exact ⟨l, hl, h1, by omega, rfl⟩
    · rintro ⟨l, hl, h1, h2, rfl⟩
      by_cases e : l.length = d + 1
      · exact .inl ⟨Nat.ne_of_gt (List.countP_pos_iff.2 ⟨l, hl, decide_eq_true e⟩), by rw [e]⟩
      · exact .inr ⟨l, hl, h1, by omega, rfl⟩
theorem tlL_len (C : List (List Int)) : ∀ d, (tlL C d).length ≤ d * C.length
  | 0 => by simp [tlL]
  | d + 1 => by
    have ih := tlL_len C d
    have := List.countP_le_length (p := fun l : List Int => decide (l.length = d + 1)) (l := C)
    simp only [tlL, List.length_append, List.length_replicate]
    rw [Nat.succ_mul]
    omega
theorem type_inner (C : List (List Int)) (hC : C.length ≤ 12) (n : Nat) (v : Nat) (hv : v ≤ 12) (r : List Int) : ∀ (d i : Nat) (acc : List Int), C.length - i = d → i ≤ C.length → acc.length + d ≤ 1000 →
    Ev (fun k => spec_l1Type.l0 k (acc ++ List.replicate ((C.drop i).countP fun l => decide (l.length = v)) (v : Int)) C (wrap64 ((v : Int) - 1))) r → Ev (fun k => spec_l1Type.l1 k acc C v i) r
  | 0, i, acc, hd, hi, ha, h => by
    refine Ev.s ?_
    rw [List.drop_eq_nil_of_le (by omega)] at h
    simp only [List.countP_nil, List.replicate_zero, List.append_nil] at h
    simp only [spec_l1Type.l1, show ¬ (i : Int) < (C.length : Int) by omega, if_false]
    exact h
  | d + 1, i, acc, hd, hi, ha, h => by
    have hlt : i < C.length := by omega
    have hrd : rd_L1 C (i : Int) = C[i] := by unfold rd_L1; rw [Int.toNat_natCast, List.getD_eq_getElem?_getD, List.getElem?_eq_getElem hlt]; rfl
    rw [List.drop_eq_getElem_cons hlt, List.countP_cons] at h
    refine Ev.s ?_
    simp only [spec_l1Type.l1, show (i : Int) < (C.length : Int) by omega, show (0 : Int) ≤ (i : Int) by omega, hrd, if_true, w64n (show i < 4611686018427387904 by omega)]
    by_cases e : C[i].length = v
    · simp only [e, decide_true, if_true, show acc.length < 17592186044416 by omega] at h ⊢
      refine type_inner C hC n v hv r d (i + 1) (acc ++ [(v : Int)]) (by omega) (by omega) (by rw [List.length_append, List.length_singleton]; omega) ?_
      rw [List.append_assoc, List.singleton_append, ← List.replicate_succ]
      exact h
    · simp only [e, decide_false, Bool.false_eq_true, if_false, Nat.add_zero] at h
      simp only [show ¬ ((C[i].length : Nat) : Int) = (v : Int) by omega, if_false]
      exact type_inner C hC n v hv r d (i + 1) acc (by omega) (by omega) (by omega) h
theorem type_outer (C : List (List Int)) (hC : C.length ≤ 12) : ∀ (d : Nat) (acc : List Int), d ≤ 12 → acc.length + 12 * d ≤ 500 → Ev (fun k => spec_l1Type.l0 k acc C (d : Int)) (acc ++ tlL C d)
  | 0, acc, hd, ha => by
    refine Ev.s ?_
    simp only [spec_l1Type.l0, tlL, List.append_nil, show ¬ ((0 : Nat) : Int) > 0 by omega, if_false]
    exact Ev.const rfl
  | d + 1, acc, hd, ha => by
    have hc := List.countP_le_length (p := fun l : List Int => decide (l.length = d + 1)) (l := C)
    have ih := type_outer C hC d (acc ++ List.replicate (C.countP fun l => decide (l.length = d + 1)) ((d + 1 : Nat) : Int)) (by omega) (by rw [List.length_append, List.length_replicate]; omega)
    refine Ev.s ?_
    simp only [spec_l1Type.l0, show ((d + 1 : Nat) : Int) > 0 by omega, if_true]
    refine type_inner C hC 0 (d + 1) hd _ C.length 0 acc (by omega) (by omega) (by omega) ?_
    rw [List.drop_zero, w64 (x := ((d + 1 : Nat) : Int) - 1) (by omega) (by omega), show ((d + 1 : Nat) : Int) - 1 = (d : Int) by omega]
    rw [List.append_assoc] at ih
    exact ih
theorem all4_congr (r s : List Int) (h : ∀ x, x ∈ r ↔ x ∈ s) : all4 r = all4 s := by
  unfold all4
  rw [Bool.eq_iff_iff, List.all_eq_true, List.all_eq_true]
  exact ⟨fun z x hx => z x ((h x).2 hx), fun z x hx => z x ((h x).1 hx)⟩
theorem isQuad_run (r : List Int) (hr : r.length ≤ 1048576) : ∀ (d i : Nat), r.length - i = d → i ≤ r.length → Ev (fun k => impl_isQuad.l0 k r r.length i) (all4 (r.drop i))
  | 0, i, hd, hi => by
    refine Ev.s ?_
    simp only [impl_isQuad.l0, show ¬ (i : Int) < (r.length : Int) by omega, if_false]
    rw [List.drop_eq_nil_of_le (by omega)]
    exact Ev.const rfl
  | d + 1, i, hd, hi => by
    have ih := isQuad_run r hr d (i + 1) (by omega) (by omega)
    rw [all4_drop r i (by omega)]
    refine Ev.s ?_
    simp only [impl_isQuad.l0, show (i : Int) < (r.length : Int) by omega, show (0 : Int) ≤ (i : Int) by omega, if_true, w64n (show i < 4611686018427387904 by omega)]
    by_cases h : rd r i = 4
    · simp only [h, if_true, decide_true, Bool.true_and]
      exact ih
    · simp only [h, if_false, decide_false, Bool.false_and]
      exact Ev.const rfl
theorem four_run (r : List Int) (hr : r.length ≤ 1048576) : ∀ (d i : Nat), r.length - i = d → i ≤ r.length → Ev (fun k => spec_l6qFour.l0 k r i) (all4 (r.drop i))
  | 0, i, hd, hi => by
    refine Ev.s ?_
    simp only [spec_l6qFour.l0, show ¬ (i : Int) < (r.length : Int) by omega, if_false]
    rw [List.drop_eq_nil_of_le (by omega)]
    exact Ev.const rfl
  | d + 1, i, hd, hi => by
    have ih := four_run r hr d (i + 1) (by omega) (by omega)
    rw [all4_drop r i (by omega)]
    refine Ev.s ?_
    simp only [spec_l6qFour.l0, show (i : Int) < (r.length : Int) by omega, show (0 : Int) ≤ (i : Int) by omega, if_true, w64n (show i < 4611686018427387904 by omega)]
    by_cases h : rd r i = 4
    · simp only [h, if_true, decide_true, Bool.true_and]
      exact ih
    · simp only [h, if_false, decide_false, Bool.false_and]
      exact Ev.const rfl
theorem rd3 (a b c : Int) : rd [a, b, c] 0 = a ∧ rd [a, b, c] 1 = b ∧ rd [a, b, c] 2 = c ∧ ([a, b, c] : List Int).length = 3 := ⟨rfl, rfl, rfl, rfl⟩
theorem quadIs_both (t f : List Int) (ht : t.length ≤ 1048576) (hf : f.length ≤ 1048576) : ∃ r : Bool, Ev (fun k => spec_QuadIs.f k t f) r ∧ Ev (fun k => impl_QuadIs.f k t f) r := by
  obtain ⟨b, b1, b2, b3⟩ := mapValid_both t f ht hf
  unfold spec_QuadIs.f impl_QuadIs.f
  cases b with
  | false =>
    refine ⟨false, ?_, ?_⟩
    · refine Ev.bind b1 ?_
      simp only [Bool.false_eq_true, if_false]
      exact Ev.const rfl
    · refine Ev.bind (a := false) ?_ ?_
      · unfold impl_isQuad.f
        refine Ev.bind b2 ?_
        simp only [Bool.false_eq_true, if_false]
        exact Ev.const rfl
      · simp only [Bool.false_eq_true, if_false]
        exact Ev.const rfl
  | true =>
    obtain ⟨pt, pf, hlen, hfl, hcon⟩ := b3.1 rfl
    have hrt := isPerm_inR t pt
    have hrf : inR t.length f := by have := isPerm_inR f pf; rwa [← hlen] at this
    have hn : t.length ≤ 12 ∧ 1 ≤ t.length := ⟨pt.2.1, pt.1⟩
    have hm := mulL_inR t.length f t hrf hrt
    have hCb := cyS_bound _ t.length hm t.length (Nat.le_refl _)
    have hCm := cyS_many (mulL f t t.length) t.length t.length
    have hCp := cyS_pos (mulL f t t.length) t.length hn.2
    have hml := mulL_length f t t.length
    have hSm : Ev (fun k => spec_l2Faces.f k t f) (mulL f t t.length) := by
      unfold spec_l2Faces.f
      exact Ev.bind (specMul_ev t.length (by omega) f t hrf hrt) (Ev.const rfl)
    have hIm : Ev (fun k => impl_mul.f k f t) (mulL f t t.length) := implMul_ev t.length (by omega) f t hrf hrt
    have hSc := specCyc_ev (mulL f t t.length) t.length (by omega) hm
    have hIc := implCyc_ev (mulL f t t.length) t.length (by omega) hm
    have hSt := specCyc_ev t t.length (by omega) hrt
    have hIt := implCyc_ev t t.length (by omega) hrt
    obtain ⟨r, r1, r2⟩ := typeOf_run (cyS (mulL f t t.length) t.length t.length).2 (by omega) hCp
    have hType : Ev (fun k => impl_typeOf.f k (mulL f t t.length)) r := by
      unfold impl_typeOf.f
      refine Ev.bind hIc ?_
      exact r2 _ 0 rfl (by omega)
    have hrl : r.length ≤ 1048576 := by rw [r1.length_eq]; simp only [lensL, List.length_map]; omega
    have hSType : Ev (fun k => spec_l1Type.f k (mulL f t t.length)) (tlL (cyS (mulL f t t.length) t.length t.length).2 t.length) := by
      unfold spec_l1Type.f
      refine Ev.bind hSc ?_
      rw [hml]
      have := type_outer (cyS (mulL f t t.length) t.length t.length).2 (by omega) t.length [] (by omega) (by simp only [List.length_nil]; omega)
      exact this
    have hsl : (tlL (cyS (mulL f t t.length) t.length t.length).2 t.length).length ≤ 1048576 := by
      have h := tlL_len (cyS (mulL f t t.length) t.length t.length).2 t.length
      have : t.length * (cyS (mulL f t t.length) t.length t.length).2.length ≤ 12 * 12 := Nat.mul_le_mul hn.1 (by omega)
      omega
    have h4 : all4 r = all4 (tlL (cyS (mulL f t t.length) t.length t.length).2 t.length) := all4_congr _ _ fun x => by
      rw [r1.mem_iff, tlL_mem]
      unfold lensL
      rw [List.mem_map]
      constructor
      · rintro ⟨l, hl, rfl⟩
        exact ⟨l, hl, (hCb l hl).1, (hCb l hl).2, rfl⟩
      · rintro ⟨l, hl, _, _, rfl⟩
        exact ⟨l, hl, rfl⟩
    have hq : Ev (fun k => impl_isQuad.f k t f) (all4 r) := by
      unfold impl_isQuad.f
      refine Ev.bind b2 ?_
      simp only [if_true]
      refine Ev.bind hIm ?_
      refine Ev.bind hType ?_
      exact isQuad_run r hrl r.length 0 (by omega) (by omega)
    have hs : Ev (fun k => spec_l6qFour.f k t f) (all4 r) := by
      unfold spec_l6qFour.f
      refine Ev.bind hSm ?_
      refine Ev.bind hSType ?_
      rw [h4]
      exact four_run _ hsl _ 0 rfl (by omega)
    by_cases ha : all4 r = true
    · rw [ha] at hq hs
      obtain ⟨g, hg1, hg2⟩ : ∃ g : Int, Ev (fun k => spec_l2Genus.f k t f) g ∧ Ev (fun k => impl_genusOf.f k t f) g := by
        refine ⟨wrap64 (Int.tdiv (wrap64 ((wrap64 ((wrap64 (2 - ((cyS t t.length t.length).2.length : Int))) + (wrap64 ((f.length : Int) / 2)))) - ((cyS (mulL f t t.length) t.length t.length).2.length : Int))) 2), ?_, ?_⟩
        rotate_left
        · unfold impl_genusOf.f
          refine Ev.bind hIt ?_
          refine Ev.bind hIm ?_
          exact Ev.bind hIc (Ev.const rfl)
        · unfold spec_l2Genus.f
          refine Ev.bind (a := [((cyS t t.length t.length).2.length : Int), wrap64 ((f.length : Int) / 2), ((cyS (mulL f t t.length) t.length t.length).2.length : Int)]) ?_ ?_
          · unfold spec_l2Counts.f
            refine Ev.bind hSt ?_
            refine Ev.bind hSm ?_
            exact Ev.bind hSc (Ev.const rfl)
          · simp only [(rd3 _ _ _).1, (rd3 _ _ _).2.1, (rd3 _ _ _).2.2.1, (rd3 _ _ _).2.2.2, show (0 : Int) < ((3 : Nat) : Int) by decide, show (1 : Int) < ((3 : Nat) : Int) by decide, show (2 : Int) < ((3 : Nat) : Int) by decide, if_true]
            exact ⟨0, fun _ _ => rfl⟩
      refine ⟨g == 0, ?_, ?_⟩
      · refine Ev.bind b1 ?_
        simp only [if_true]
        refine Ev.bind hs ?_
        simp only [if_true]
        exact Ev.bind hg1 (Ev.const rfl)
      · refine Ev.bind hq ?_
        simp only [if_true]
        exact Ev.bind hg2 (Ev.const rfl)
    · rw [Bool.not_eq_true] at ha
      rw [ha] at hq hs
      refine ⟨false, ?_, ?_⟩
      · refine Ev.bind b1 ?_
        simp only [if_true]
        refine Ev.bind hs ?_
        simp only [Bool.false_eq_true, if_false]
        exact Ev.const rfl
      · refine Ev.bind hq ?_
        simp only [Bool.false_eq_true, if_false]
        exact Ev.const rfl
theorem facesF_ev (t f : List Int) (n : Nat) (hn : n ≤ 1048576) (hrt : inR n t) (hrf : inR n f) : Ev (fun k => spec_l2Faces.f k t f) (mulL f t n) ∧ Ev (fun k => impl_mul.f k f t) (mulL f t n) :=
  ⟨by unfold spec_l2Faces.f; exact Ev.bind (specMul_ev n hn f t hrf hrt) (Ev.const rfl), implMul_ev n hn f t hrf hrt⟩
theorem four_both (t f : List Int) (h : isMap t f) : ∃ q : Bool, Ev (fun k => spec_l6qFour.f k t f) q ∧ Ev (fun k => impl_isQuad.f k t f) q ∧ (q = true ↔ ∀ l ∈ (cyS (mulL f t t.length) t.length t.length).2, l.length = 4) := by
  obtain ⟨pt, pf, hlen, hfl, hcon⟩ := id h
  have hrt := isPerm_inR t pt
  have hrf : inR t.length f := by have := isPerm_inR f pf; rwa [← hlen] at this
  have hn : t.length ≤ 12 ∧ 1 ≤ t.length := ⟨pt.2.1, pt.1⟩
  have hm := mulL_inR t.length f t hrf hrt
  have hCb := cyS_bound _ t.length hm t.length (Nat.le_refl _)
  have hCm := cyS_many (mulL f t t.length) t.length t.length
  have hCp := cyS_pos (mulL f t t.length) t.length hn.2
  have hml := mulL_length f t t.length
  obtain ⟨hSm, hIm⟩ := facesF_ev t f t.length (by omega) hrt hrf
  have hSc := specCyc_ev (mulL f t t.length) t.length (by omega) hm
  have hIc := implCyc_ev (mulL f t t.length) t.length (by omega) hm
  obtain ⟨b, _, b2, b3⟩ := mapValid_both t f (by omega) (by omega)
  rw [b3.2 h] at b2
  obtain ⟨r, r1, r2⟩ := typeOf_run (cyS (mulL f t t.length) t.length t.length).2 (by omega) hCp
  have hType : Ev (fun k => impl_typeOf.f k (mulL f t t.length)) r := by
    unfold impl_typeOf.f
    refine Ev.bind hIc ?_
    exact r2 _ 0 rfl (by omega)
  have hrl : r.length ≤ 1048576 := by rw [r1.length_eq]; simp only [lensL, List.length_map]; omega
  have hSType : Ev (fun k => spec_l1Type.f k (mulL f t t.length)) (tlL (cyS (mulL f t t.length) t.length t.length).2 t.length) := by
    unfold spec_l1Type.f
    refine Ev.bind hSc ?_
    rw [hml]
    have := type_outer (cyS (mulL f t t.length) t.length t.length).2 (by omega) t.length [] (by omega) (by simp only [List.length_nil]; omega)
    exact this
  have hsl : (tlL (cyS (mulL f t t.length) t.length t.length).2 t.length).length ≤ 1048576 := by
    have h := tlL_len (cyS (mulL f t t.length) t.length t.length).2 t.length
    have : t.length * (cyS (mulL f t t.length) t.length t.length).2.length ≤ 12 * 12 := Nat.mul_le_mul hn.1 (by omega)
    omega
  have h4 : all4 r = all4 (tlL (cyS (mulL f t t.length) t.length t.length).2 t.length) := all4_congr _ _ fun x => by
    rw [r1.mem_iff, tlL_mem]
    unfold lensL
    rw [List.mem_map]
    constructor
    · rintro ⟨l, hl, rfl⟩
      exact ⟨l, hl, (hCb l hl).1, (hCb l hl).2, rfl⟩
    · rintro ⟨l, hl, _, _, rfl⟩
      exact ⟨l, hl, rfl⟩
  refine ⟨all4 r, ?_, ?_, ?_⟩
  · unfold spec_l6qFour.f
    refine Ev.bind hSm ?_
    refine Ev.bind hSType ?_
    rw [h4]
    exact four_run _ hsl _ 0 rfl (by omega)
  · unfold impl_isQuad.f
    refine Ev.bind b2 ?_
    simp only [if_true]
    refine Ev.bind hIm ?_
    refine Ev.bind hType ?_
    exact isQuad_run r hrl r.length 0 (by omega) (by omega)
  · unfold all4
    rw [List.all_eq_true]
    constructor
    · intro z l hl
      have := z (l.length : Int) (r1.mem_iff.2 (List.mem_map.2 ⟨l, hl, rfl⟩))
      have := of_decide_eq_true this
      omega
    · intro z x hx
      obtain ⟨l, hl, rfl⟩ := List.mem_map.1 (r1.mem_iff.1 hx)
      exact decide_eq_true (by have := z l hl; omega)
end Go.Proofs.Ytlpbalebodlipaa.PL

namespace Go.Proofs.Ytlpbalebodlipaa.PL
open Go.RowKit Go.Proofs.YtlpbalebodlipaaW.PrintWords Go.Proofs.YtlpbalebodlipaaW.PrintLast Go.Proofs.YtlpbalebodlipaaW.PrintMore
attribute [local go_sem] max2_int min2_int max_two min_two max_three min_three max_four min_four   -- for this text's walks alone
set_option linter.unusedVariables false
set_option linter.unusedSimpArgs false
def spec_l6qRing.T3 : Bool × List (List Nat × List Nat) := (true, [([], []), ([], []), ([], []), ([1, 2], [1, 2]), ([3], [3]), ([], []), ([], []), ([6], [6]), ([], []), ([8], [8]), ([7, 9], [7, 9]), ([5, 10], [5, 10]), ([11], [11]), ([0, 4, 0, 1, 2, 3, 4, 5, 6, 7, 8, 9, 10, 11, 12], [0, 4]), ([13, 12, 0, 1, 2, 3, 4, 5, 6, 7, 8, 9, 10, 11, 12], [12, 13])])
def spec_l6qRing.B3 : List Nat := [0, 0, 0, 6, 14, 0, 0, 64, 0, 256, 960, 2016, 4064, 8191, 16383]
end Go.Proofs.Ytlpbalebodlipaa.PL

set_option linter.unusedVariables false
set_option linter.unusedSimpArgs false
namespace Go.Proofs.Ytlpbalebodlipaa.PL
open Go.RowKit Go.Proofs.YtlpbalebodlipaaW.PrintWords Go.Proofs.YtlpbalebodlipaaW.PrintLast Go.Proofs.YtlpbalebodlipaaW.PrintMore
def backL (p : List Int) (n : Nat) : Nat → List Int
  | 0 => List.replicate n 0
  | i + 1 => (backL p n i).set (rd p i).toNat i
theorem backL_length (p : List Int) (n : Nat) : ∀ i, (backL p n i).length = n
  | 0 => by simp [backL]
  | i + 1 => by simp [backL, backL_length p n i]
theorem backL_range (p : List Int) (n : Nat) : ∀ (i : Nat), i ≤ n → ∀ j : Nat, j < n → 0 ≤ rd (backL p n i) j ∧ rd (backL p n i) j < n
  | 0, _, j, hj => by
    have : rd (backL p n 0) j = 0 := by
      rw [rd_lt _ j (by simp [backL]; exact hj)]
      simp [backL]
    omega
  | i + 1, hi, j, hj => by
    have ih := backL_range p n i (by omega) j hj
    simp only [backL]
    by_cases e : (rd p i).toNat = j
    · subst e
      rw [rd_set_self _ _ _ (by rw [backL_length]; exact hj)]
      omega
    · rw [rd_set_ne _ _ _ _ e]
      exact ih
theorem backL_inR (p : List Int) (n : Nat) : inR n (backL p n n) := ⟨backL_length p n n, backL_range p n n (Nat.le_refl _)⟩
theorem backL_rd (p : List Int) (n : Nat) (hp : inR n p) (inj : ∀ i j : Nat, i < n → j < n → rd p i = rd p j → i = j) : ∀ (i : Nat), i ≤ n → ∀ j : Nat, j < i → rd (backL p n i) (rd p j) = j
  | i + 1, hi, j, hj => by
    have hpj := hp.2 j (by omega)
    have hpi := hp.2 i (by omega)
    simp only [backL]
    by_cases e : j = i
    · subst e
      have h2 := rd_set_self (backL p n j) (rd p j).toNat j (by rw [backL_length]; omega)
      rwa [show ((rd p j).toNat : Int) = rd p j by omega] at h2
    · have hne : (rd p i).toNat ≠ (rd p j).toNat := fun h => e (inj j i (by omega) (by omega) (by omega))
      have h2 := rd_set_ne (backL p n i) (rd p i).toNat (rd p j).toNat i hne
      rw [show ((rd p j).toNat : Int) = rd p j by omega] at h2
      rw [h2]
      exact backL_rd p n hp inj i (by omega) j (by omega)
end Go.Proofs.Ytlpbalebodlipaa.PL

namespace Go.Proofs.Ytlpbalebodlipaa.PL
open Go.RowKit Go.Proofs.YtlpbalebodlipaaW.PrintWords Go.Proofs.YtlpbalebodlipaaW.PrintLast Go.Proofs.YtlpbalebodlipaaW.PrintMore
attribute [local go_sem] max2_int min2_int max_two min_two max_three min_three max_four min_four   -- for this text's walks alone
set_option linter.unusedVariables false
set_option linter.unusedSimpArgs false
section
variable {P : Program} {ops : Array Oper} {Q : Exit → Act → World → Prop} {md : Region.Mode} {S : World → Prop} {ds : List Nat}
end
def impl_TutteMap.T14 : Bool × List (List Nat × List Nat) := (true, [([], []), ([0], [0]), ([], []), ([2], [2]), ([1, 3], [1, 3]), ([], []), ([5], [5]), ([6, 4], [6]), ([4, 7, 0, 1, 2, 3, 4], [4]), ([7, 8, 0, 1, 2, 3, 4, 5, 6, 7, 8], [7])])
def impl_TutteMap.B14 : List Nat := [0, 1, 0, 4, 15, 0, 32, 127, 255, 511]
end Go.Proofs.Ytlpbalebodlipaa.PL

set_option linter.unusedVariables false
set_option linter.unusedSimpArgs false
namespace Go.Proofs.Ytlpbalebodlipaa.PL
open Go.RowKit Go.Proofs.YtlpbalebodlipaaW.PrintWords Go.Proofs.YtlpbalebodlipaaW.PrintLast Go.Proofs.YtlpbalebodlipaaW.PrintMore
def nmE (g : List Int) : Nat → Nat
  | 0 => 0
  | i + 1 => if Int.tmod (rd g i) 2 = 0 then nmE g i + 1 else nmE g i
theorem nmE_mono (g : List Int) (i : Nat) : ∀ d, nmE g i ≤ nmE g (i + d)
  | 0 => Nat.le_refl _
  | d + 1 => by
    have := nmE_mono g i d
    rw [← Nat.add_assoc]
    simp only [nmE]
    split <;> omega
theorem isMap_K {t f : List Int} (h : isMap t f) : MapK t f t.length := by
  obtain ⟨pt, pf, hlen, hfl, hcon⟩ := h
  refine ⟨pt.2.1, pt.1, isPerm_inR t pt, fun i j hi hj e => ?_, by have := isPerm_inR f pf; rwa [← hlen] at this, by rw [hlen]; exact hfl, by rw [hlen]; exact hcon⟩
  refine Classical.byContradiction fun hne => ?_
  rcases Nat.lt_or_gt_of_ne hne with q | q
  · exact (pt.2.2 j hj).2.2 i q e
  · exact (pt.2.2 i hi).2.2 j q e.symm
def tmF (t fc bk nm : List Int) (i : Nat) : Int := rd nm (rd bk (rd fc (rd fc (rd t i))))
def tmA (g t nm : List Int) : Nat → List Int
  | 0 => []
  | i + 1 => if Int.tmod (rd g i) 2 = 0 then tmA g t nm i ++ [rd nm (rd t i)] else tmA g t nm i
def tmB (g t fc bk nm : List Int) : Nat → List Int
  | 0 => []
  | i + 1 => if Int.tmod (rd g i) 2 = 0 then tmB g t fc bk nm i ++ [tmF t fc bk nm i] else tmB g t fc bk nm i
theorem tmA_len (g t nm : List Int) : ∀ i, (tmA g t nm i).length = nmE g i
  | 0 => rfl
  | i + 1 => by
    simp only [tmA, nmE]
    split <;> simp [tmA_len g t nm i]
theorem tmB_len (g t fc bk nm : List Int) : ∀ i, (tmB g t fc bk nm i).length = nmE g i
  | 0 => rfl
  | i + 1 => by
    simp only [tmB, nmE]
    split <;> simp [tmB_len g t fc bk nm i]
theorem quadIs_full (t f : List Int) (ht : t.length ≤ 1048576) (hf : f.length ≤ 1048576) : ∃ r : Bool, Ev (fun k => spec_QuadIs.f k t f) r ∧ Ev (fun k => impl_QuadIs.f k t f) r ∧ (r = true → isMap t f ∧ MapK t f t.length ∧ (∀ l ∈ (cyS (mulL f t t.length) t.length t.length).2, l.length = 4) ∧ 2 * (cyS t t.length t.length).2.length + 2 * (cyS (mulL f t t.length) t.length t.length).2.length = 4 + t.length) := by
  obtain ⟨r, r1, r2⟩ := quadIs_both t f ht hf
  refine ⟨r, r1, r2, fun hr => ?_⟩
  subst hr
  obtain ⟨b, b1, b2, b3⟩ := mapValid_both t f ht hf
  cases b with
  | false =>
    have : Ev (fun k => impl_QuadIs.f k t f) false := by
      unfold impl_QuadIs.f
      refine Ev.bind (a := false) ?_ ?_
      · unfold impl_isQuad.f
        refine Ev.bind b2 ?_
        simp only [Bool.false_eq_true, if_false]
        exact Ev.const rfl
      · simp only [Bool.false_eq_true, if_false]
        exact Ev.const rfl
    exact absurd (Ev.uniq r2 this) (by simp)
  | true =>
    have hm := b3.1 rfl
    have H := isMap_K hm
    obtain ⟨q, q1, q2, q3⟩ := four_both t f hm
    cases q with
    | false =>
      have : Ev (fun k => impl_QuadIs.f k t f) false := by
        unfold impl_QuadIs.f
        refine Ev.bind q2 ?_
        simp only [Bool.false_eq_true, if_false]
        exact Ev.const rfl
      exact absurd (Ev.uniq r2 this) (by simp)
    | true =>
      have h4 := q3.1 rfl
      refine ⟨hm, H, h4, ?_⟩
      obtain ⟨hn, h1, ht', hti, hf', hfl, hcon⟩ := id H
      have l2 := hf'.1
      generalize hnn : t.length = n at *
      have hfi := flip_injB f n hfl
      have ep := mulL_cmp t f n ht' hf'
      have pIn := cmpL_inR t f n ht' hf'
      have pInj := cmpL_inj t f n ht' hti hf' hfi
      have many1 := cyS_many t n n
      have many2 := cyS_many (mulL f t n) n n
      have G : Ev (fun k => impl_genusOf.f k t f) (wrap64 (Int.tdiv (wrap64 ((wrap64 ((wrap64 (2 - ((cyS t n n).2.length : Int))) + (wrap64 ((f.length : Int) / 2)))) - ((cyS (mulL f t n) n n).2.length : Int))) 2)) := by
        unfold impl_genusOf.f
        refine Ev.bind (implCyc_ev t n (by omega) ht') ?_
        refine Ev.bind (implMul_ev n (by omega) f t hf' ht') ?_
        refine Ev.bind (implCyc_ev (mulL f t n) n (by omega) (mulL_inR n f t hf' ht')) ?_
        exact Ev.const rfl
      have hP : Cl n (Reach [t, f] n) 1 := ⟨[0], by simp, fun x => by
        rw [List.mem_singleton]
        constructor
        · rintro rfl; exact ⟨by omega, fun i hi => absurd hi (by omega)⟩
        · rintro ⟨h1, h2⟩
          by_cases e : x = 0
          · exact e
          · exact absurd (hcon 0 x (by omega) h1) (h2 0 (by omega)), rfl⟩
      obtain ⟨K, g, k1, k2⟩ := euler t f n ht' hti hf' hfl 1 _ _ hP (cyS_cl t n ht' hti) (cyS_cl _ n pIn pInj)
      rw [← ep] at k2
      have w1 : wrap64 (2 - ((cyS t n n).2.length : Int)) = 2 - ((cyS t n n).2.length : Int) := w64 (by omega) (by omega)
      have w2 : wrap64 ((f.length : Int) / 2) = (K : Int) := by rw [w64 (by omega) (by omega)]; omega
      have w3 : wrap64 (2 - ((cyS t n n).2.length : Int) + (K : Int)) = 2 - ((cyS t n n).2.length : Int) + (K : Int) := w64 (by omega) (by omega)
      have w4 : wrap64 (2 - ((cyS t n n).2.length : Int) + (K : Int) - ((cyS (mulL f t n) n n).2.length : Int)) = 2 * (g : Int) := by rw [w64 (by omega) (by omega)]; omega
      have w5 : Int.tdiv (2 * (g : Int)) 2 = g := by rw [Int.mul_comm]; exact Int.mul_tdiv_cancel _ (by decide)
      rw [w1, w2, w3, w4, w5, w64 (x := (g : Int)) (by omega) (by omega)] at G
      have : Ev (fun k => impl_QuadIs.f k t f) ((g : Int) == 0) := by
        unfold impl_QuadIs.f
        refine Ev.bind q2 ?_
        simp only [if_true]
        exact Ev.bind G (Ev.const rfl)
      have e := Ev.uniq r2 this
      have : (g : Int) = 0 := eq_of_beq e.symm
      omega
def nf (t : List Int) (d : Nat) : Nat := (rd t (d : Int)).toNat
theorem nf_rd {n : Nat} {t : List Int} (ht : inR n t) {d : Nat} (h : d < n) : rd t (d : Int) = (nf t d : Int) ∧ nf t d < n := by
  have := ht.2 d h
  unfold nf
  omega
theorem itr_it {n : Nat} {t : List Int} (ht : inR n t) : ∀ (k x : Nat), x < n → itr t k (x : Int) = (it (nf t) k x : Int)
  | 0, x, h => rfl
  | k + 1, x, h => by
    show itr t k (rd t (x : Int)) = (it (nf t) k (nf t x) : Int)
    rw [(nf_rd ht h).1]
    exact itr_it ht k _ (nf_rd ht h).2
theorem reach_it {n : Nat} {t : List Int} (ht : inR n t) (hti : injR n t) {x y : Nat} (hx : x < n) (h : Reach [t] n x y) : ∃ k, it (nf t) k x = y := by
  obtain ⟨k, hk⟩ := reach_itr t n ht hti x y hx h
  refine ⟨k + 1, ?_⟩
  have := itr_it ht (k + 1) x hx
  rw [show itr t (k + 1) (x : Int) = itr t k (rd t (x : Int)) from rfl, hk] at this
  omega
theorem qd_of (t f : List Int) (n : Nat) (H : MapK t f n) (h4 : ∀ l ∈ (cyS (mulL f t n) n n).2, l.length = 4) (hE : 2 * (cyS t n n).2.length + 2 * (cyS (mulL f t n) n n).2.length = 4 + n)
    (a : Nat) (ha : a < n) (g : List Int) (hg : FarOk t f n a g) : Qd n (nf t) (nf f) (nf g) := by
  have st := fun x hx => bipart_step t f n H h4 hE a ha g hg x hx
  obtain ⟨hn, h1, ht, hti, hf, hfl, hcon⟩ := id H
  have T := fun (d : Nat) (hd : d < n) => nf_rd ht hd
  have F := fun (d : Nat) (hd : d < n) => nf_rd hf hd
  have G : ∀ d : Nat, d < n → rd g (d : Int) = (nf g d : Int) := fun d hd => by
    have := hg.rng d hd
    unfold nf
    omega
  have ep := mulL_cmp t f n ht hf
  have pIn := cmpL_inR t f n ht hf
  have pInj := cmpL_inj t f n ht hti hf (flip_injB f n hfl)
  rw [ep] at h4
  obtain ⟨_, hp⟩ := four_path _ n pIn pInj h4
  have sg : ∀ d : Nat, d < n → rd (cmpL t f n) (d : Int) = (nf t (nf f d) : Int) := fun d hd => by
    rw [cmpL_rd t f n d hd, (F d hd).1, (T _ (F d hd).2).1]
  have sgn : ∀ d : Nat, d < n → nf t (nf f d) < n := fun d hd => (T _ (F d hd).2).2
  refine ⟨fun x hx => (T x hx).2, fun x hx => (F x hx).2, fun x y hx hy e => ?_, fun x hx => ?_, fun x hx => ?_, fun x hx => ?_, fun x hx => ?_, fun x hx h => ?_, fun x hx h => ?_, fun x y hx hy e1 e2 => ?_⟩
  · exact hti x y hx hy (by rw [(T x hx).1, (T y hy).1, e])
  · have := (hfl x hx).2
    rw [(F x hx).1, (F _ (F x hx).2).1] at this
    omega
  · have := hg.turn x hx
    rw [(T x hx).1, G _ (T x hx).2, G x hx] at this
    omega
  · have := st x hx
    rw [(F x hx).1, G _ (F x hx).2, G x hx] at this
    omega
  · have := (hp x hx).1
    rw [sg x hx, sg _ (sgn x hx), sg _ (sgn _ (sgn x hx)), sg _ (sgn _ (sgn _ (sgn x hx)))] at this
    exact Int.ofNat.inj this
  · obtain ⟨y, y1, y2, y3⟩ := hg.back x hx (by rw [G x hx]; omega)
    obtain ⟨k, hk⟩ := reach_it ht hti hx y2.symm
    refine ⟨k, ?_⟩
    rw [hk]
    rw [(F y y1).1, G _ (F y y1).2, G x hx] at y3
    omega
  · obtain ⟨y, y1, y2, y3⟩ := hg.back x hx (by rw [G x hx]; omega)
    obtain ⟨k, hk⟩ := reach_it ht hti y1 y2
    have e := reach_const ht hti g hg.turn y2
    rw [G y y1, G x hx] at e
    rw [(F y y1).1, G _ (F y y1).2, G x hx] at y3
    exact ⟨y, y1, by omega, k, hk⟩
  · have z1 := hg.zero x hx (by rw [G x hx, e1]; rfl)
    have z2 := hg.zero y hy (by rw [G y hy, e2]; rfl)
    exact reach_it ht hti hx (z1.trans z2.symm)
def mts (g : List Int) : List (List Int) → List Int → List Int
  | [], m => m
  | l :: C, m => mts g C (upd m (prF g (rd l 0) (rd l 1) (rd l 2) (rd l 3)).1 (prF g (rd l 0) (rd l 1) (rd l 2) (rd l 3)).2)
theorem upd_len (m : List Int) (A B : Int) : (upd m A B).length = m.length := by simp [upd]
theorem upd_rd (m : List Int) (n : Nat) (hm : m.length = n) (A B y : Nat) (hA : A < n) (hB : B < n) : rd (upd m (A : Int) (B : Int)) (y : Int) = if y = B then (A : Int) else if y = A then (B : Int) else rd m (y : Int) := by
  unfold upd
  rw [Int.toNat_natCast, Int.toNat_natCast, rd_put _ _ _ _ (by simp; omega), rd_put _ _ _ _ (by omega)]
theorem mts_len (g : List Int) : ∀ (C : List (List Int)) (m : List Int), (mts g C m).length = m.length
  | [], m => rfl
  | l :: C, m => by
    show (mts g C _).length = _
    rw [mts_len g C, upd_len]
section
variable {n : Nat} {t f g : List Int} (Q : Qd n (nf t) (nf f) (nf g)) (hgl : ∀ d : Nat, d < n → rd g (d : Int) = (nf g d : Int))
include Q hgl
def pv (t f g : List Int) (x : Nat) : Int := if nf g (nf t (nf f (nf t (nf f (nf t (nf f x)))))) + 1 = nf g x then (Mt (nf t) (nf f) (nf g) x : Int) else -1
set_option maxHeartbeats 4000000 in
theorem face_vals (m : List Int) (hm : m.length = n) (x0 x1 x2 x3 : Nat) (h0 : x0 < n) (e1 : nf t (nf f x0) = x1) (e2 : nf t (nf f x1) = x2) (e3 : nf t (nf f x2) = x3) (e4 : nf t (nf f x3) = x0)
    (n01 : x0 ≠ x1) (n02 : x0 ≠ x2) (n03 : x0 ≠ x3) (n12 : x1 ≠ x2) (n13 : x1 ≠ x3) (n23 : x2 ≠ x3) :
    ∃ A B : Nat, prF g (x0 : Int) (x1 : Int) (x2 : Int) (x3 : Int) = ((A : Int), (B : Int)) ∧ A < n ∧ B < n ∧ (A = x0 ∨ A = x1 ∨ A = x2 ∨ A = x3) ∧ (B = x0 ∨ B = x1 ∨ B = x2 ∨ B = x3) ∧
      ∀ y : Nat, (y = x0 ∨ y = x1 ∨ y = x2 ∨ y = x3) → rd m (y : Int) = -1 → rd (upd m (A : Int) (B : Int)) (y : Int) = pv t f g y := by
  have h1 : x1 < n := e1 ▸ Q.tr _ (Q.fr _ h0)
  have h2 : x2 < n := e2 ▸ Q.tr _ (Q.fr _ h1)
  have h3 : x3 < n := e3 ▸ Q.tr _ (Q.fr _ h2)
  have f0 : nf g (nf f x0) = nf g x1 := by rw [← e1, Q.lt _ (Q.fr _ h0)]
  have f1 : nf g (nf f x1) = nf g x2 := by rw [← e2, Q.lt _ (Q.fr _ h1)]
  have f2 : nf g (nf f x2) = nf g x3 := by rw [← e3, Q.lt _ (Q.fr _ h2)]
  have f3 : nf g (nf f x3) = nf g x0 := by rw [← e4, Q.lt _ (Q.fr _ h3)]
  have s0 := Q.st x0 h0
  have s1 := Q.st x1 h1
  have s2 := Q.st x2 h2
  have s3 := Q.st x3 h3
  have g0 := hgl x0 h0
  have g1 := hgl x1 h1
  have g2 := hgl x2 h2
  have g3 := hgl x3 h3
  have six := six_of (rd g x0) (rd g x1) (rd g x2) (rd g x3) (by omega) (by omega) (by omega) (by omega)
  have key : ∀ A B : Nat, A < n → B < n → ∀ y : Nat, rd m (y : Int) = -1 → rd (upd m (A : Int) (B : Int)) (y : Int) = if y = B then (A : Int) else if y = A then (B : Int) else -1 := fun A B hA hB y hy => by rw [upd_rd m n hm A B y hA hB, hy]
  rcases six with ⟨p1, p2, p3⟩ | ⟨p1, p2, p3⟩ | ⟨p1, p2, p3⟩ | ⟨p1, p2, p3⟩ | ⟨p1, p2, p3⟩ | ⟨p1, p2, p3⟩
  · refine ⟨x2, x1, prF_0 g _ _ _ _ p1 p2 p3, h2, h1, by simp, by simp, fun y hy hv => ?_⟩
    rw [key _ _ h2 h1 y hv]
    unfold pv Mt
    rcases hy with rfl | rfl | rfl | rfl <;> simp only [e1, e2, e3, e4, f0, f1, f2, f3] <;> repeat' split
    all_goals (first | omega | exact absurd trivial (by assumption))
  · refine ⟨x1, x3, prF_1 g _ _ _ _ p1 p2 p3, h1, h3, by simp, by simp, fun y hy hv => ?_⟩
    rw [key _ _ h1 h3 y hv]
    unfold pv Mt
    rcases hy with rfl | rfl | rfl | rfl <;> simp only [e1, e2, e3, e4, f0, f1, f2, f3] <;> repeat' split
    all_goals (first | omega | exact absurd trivial (by assumption))
  · refine ⟨x1, x0, prF_2 g _ _ _ _ p1 p2 p3, h1, h0, by simp, by simp, fun y hy hv => ?_⟩
    rw [key _ _ h1 h0 y hv]
    unfold pv Mt
    rcases hy with rfl | rfl | rfl | rfl <;> simp only [e1, e2, e3, e4, f0, f1, f2, f3] <;> repeat' split
    all_goals (first | omega | exact absurd trivial (by assumption))
  · refine ⟨x3, x2, prF_3 g _ _ _ _ p1 p2 p3, h3, h2, by simp, by simp, fun y hy hv => ?_⟩
    rw [key _ _ h3 h2 y hv]
    unfold pv Mt
    rcases hy with rfl | rfl | rfl | rfl <;> simp only [e1, e2, e3, e4, f0, f1, f2, f3] <;> repeat' split
    all_goals (first | omega | exact absurd trivial (by assumption))
  · refine ⟨x0, x2, prF_4 g _ _ _ _ p1 p2 p3, h0, h2, by simp, by simp, fun y hy hv => ?_⟩
    rw [key _ _ h0 h2 y hv]
    unfold pv Mt
    rcases hy with rfl | rfl | rfl | rfl <;> simp only [e1, e2, e3, e4, f0, f1, f2, f3] <;> repeat' split
    all_goals (first | omega | exact absurd trivial (by assumption))
  · refine ⟨x0, x3, prF_5 g _ _ _ _ p1 p2 p3, h0, h3, by simp, by simp, fun y hy hv => ?_⟩
    rw [key _ _ h0 h3 y hv]
    unfold pv Mt
    rcases hy with rfl | rfl | rfl | rfl <;> simp only [e1, e2, e3, e4, f0, f1, f2, f3] <;> repeat' split
    all_goals (first | omega | exact absurd trivial (by assumption))
def isFace (n : Nat) (t f : List Int) (l : List Int) : Prop := ∃ x0 x1 x2 x3 : Nat, l = [(x0 : Int), (x1 : Int), (x2 : Int), (x3 : Int)] ∧ x0 < n ∧ nf t (nf f x0) = x1 ∧ nf t (nf f x1) = x2 ∧ nf t (nf f x2) = x3 ∧ nf t (nf f x3) = x0 ∧ x0 ≠ x1 ∧ x0 ≠ x2 ∧ x0 ≠ x3 ∧ x1 ≠ x2 ∧ x1 ≠ x3 ∧ x2 ≠ x3
theorem mts_vals : ∀ (C : List (List Int)) (m : List Int), m.length = n → (∀ l ∈ C, isFace n t f l) → C.Pairwise (fun l l' => ∀ x : Int, x ∈ l → x ∉ l') → (∀ y : Nat, (∃ l ∈ C, (y : Int) ∈ l) → rd m (y : Int) = -1) →
    ∀ y : Nat, ((∃ l ∈ C, (y : Int) ∈ l) → rd (mts g C m) (y : Int) = pv t f g y) ∧ ((¬ ∃ l ∈ C, (y : Int) ∈ l) → rd (mts g C m) (y : Int) = rd m (y : Int))
  | [], m, hm, hC, hd, hv, y => ⟨fun ⟨l, hl, _⟩ => absurd hl (by simp), fun _ => rfl⟩
  | l :: C, m, hm, hC, hd, hv, y => by
    obtain ⟨x0, x1, x2, x3, el, h0, e1, e2, e3, e4, n01, n02, n03, n12, n13, n23⟩ := hC l (by simp)
    obtain ⟨A, B, eAB, hA, hB, iA, iB, val⟩ := face_vals Q hgl m hm x0 x1 x2 x3 h0 e1 e2 e3 e4 n01 n02 n03 n12 n13 n23
    have em : mts g (l :: C) m = mts g C (upd m (A : Int) (B : Int)) := by
      show mts g C _ = _
      rw [el, four_0, four_1, four_2, four_3, eAB]
    have ml : ∀ y : Nat, (y : Int) ∈ l ↔ (y = x0 ∨ y = x1 ∨ y = x2 ∨ y = x3) := fun y => by
      rw [el]
      simp only [List.mem_cons, List.not_mem_nil, or_false]
      omega
    obtain ⟨d1, d2⟩ := List.pairwise_cons.1 hd
    have off : ∀ y : Nat, (y : Int) ∉ l → rd (upd m (A : Int) (B : Int)) (y : Int) = rd m (y : Int) := fun y hy => by
      rw [ml] at hy
      rw [upd_rd m n hm A B y hA hB, if_neg (by omega), if_neg (by omega)]
    have ih := mts_vals C (upd m (A : Int) (B : Int)) (by rw [upd_len, hm]) (fun l' hl' => hC l' (by simp [hl'])) d2 (fun y ⟨l', hl', hy⟩ => by
      rw [off y (fun z => d1 l' hl' _ z hy)]
      exact hv y ⟨l', by simp [hl'], hy⟩) y
    rw [em]
    constructor
    · rintro ⟨l', hl', hy⟩
      by_cases hc : ∃ l ∈ C, (y : Int) ∈ l
      · exact ih.1 hc
      · have hyl : (y : Int) ∈ l := by
          rcases List.mem_cons.1 hl' with rfl | h
          · exact hy
          · exact absurd ⟨l', h, hy⟩ hc
        rw [ih.2 hc]
        exact val y ((ml y).1 hyl) (hv y ⟨l, by simp, hyl⟩)
    · intro hno
      have h1 : (y : Int) ∉ l := fun z => hno ⟨l, by simp, z⟩
      have h2 : ¬ ∃ l ∈ C, (y : Int) ∈ l := fun ⟨l', hl', z⟩ => hno ⟨l', by simp [hl'], z⟩
      rw [ih.2 h2, off y h1]
end
theorem cyS_apart (p : List Int) (n : Nat) (hp : inR n p) (hi : injR n p) : (cyS p n n).2.Pairwise (fun l l' => ∀ x : Int, x ∈ l → x ∉ l') := by
  obtain ⟨reps, r1, r2, r3, r4⟩ := cyS_reps p n hp hi n (Nat.le_refl _)
  rw [List.pairwise_iff_getElem]
  intro i j hi' hj' hij x hx hx'
  obtain ⟨a, a1, a2, _, _⟩ := cyS_path p n hp hi n (Nat.le_refl _) _ (List.getElem_mem hi')
  have hxn : 0 ≤ x ∧ x < n := by
    rw [a2] at hx
    obtain ⟨k, _, rfl⟩ := List.mem_map.1 hx
    exact itr_in p n hp k _ (by omega)
  have ex : ((x.toNat : Nat) : Int) = x := by omega
  have m1 := (r4 i (by omega) x.toNat (by omega)).1 (by rw [rdL_nth _ i hi', ex]; exact hx)
  have m2 := (r4 j (by omega) x.toNat (by omega)).1 (by rw [rdL_nth _ j hj', ex]; exact hx')
  have l1 := (r3 _).1 (List.getElem_mem (show i < reps.length by omega))
  have l2 := (r3 _).1 (List.getElem_mem (show j < reps.length by omega))
  have e := lst_uniq (Reach [p] n) (fun _ _ h => h.symm) _ _ l1.2 l2.2 (m1.trans m2.symm)
  exact List.pairwise_iff_getElem.1 r2 i j (by omega) (by omega) hij e
theorem bl_put (s : List Bool) (a y : Nat) (h : a < s.length) : (s.set a true).getD y false = if y = a then true else s.getD y false := by
  rw [List.getD_eq_getElem?_getD, List.getD_eq_getElem?_getD, List.getElem?_set]
  by_cases e : a = y
  · subst e; simp [h]
  · rw [if_neg e, if_neg (fun z => e z.symm)]
theorem bl_rd (s : List Bool) (y : Nat) : rdOf false s (y : Int) = s.getD y false := by rw [rdOf_nat s _ (by omega), Int.toNat_natCast]
theorem bl_rep (n y : Nat) : (List.replicate n false).getD y false = false := by
  rw [List.getD_eq_getElem?_getD, List.getElem?_replicate]
  split <;> rfl
structure QTok (t f g M : List Int) (n : Nat) : Prop where
  hn : n ≤ 12
  Q : Qd n (nf t) (nf f) (nf g)
  ht : inR n t
  hf : inR n f
  gl : g.length = n
  gr : ∀ d : Nat, d < n → rd g (d : Int) = (nf g d : Int) ∧ nf g d < n
  ml : M.length = n
  mv : ∀ y : Nat, y < n → rd M (y : Int) = pv t f g y
noncomputable def wI (t f g : List Int) (a i : Nat) : Nat := it (wkS (nf t) (nf f) (nf g)) i a
def mI (t f g : List Int) (x : Nat) : Nat := Mt (nf t) (nf f) (nf g) x
noncomputable def clo (t f g : List Int) (a i : Nat) : Bool := (List.range i).any fun j => nf t (wI t f g a j) == mI t f g (nf t (wI t f g a i))
theorem clo_iff (t f g : List Int) (a i : Nat) : clo t f g a i = true ↔ ∃ j, j < i ∧ nf t (wI t f g a j) = mI t f g (nf t (wI t f g a i)) := by
  unfold clo
  rw [List.any_eq_true]
  constructor
  · rintro ⟨j, h1, h2⟩
    exact ⟨j, List.mem_range.1 h1, by simpa using h2⟩
  · rintro ⟨j, h1, h2⟩
    exact ⟨j, List.mem_range.2 h1, by simpa using h2⟩
noncomputable def wrd (t f g : List Int) (a : Nat) : Nat → ByteArray
  | 0 => (⟨#[]⟩ : ByteArray)
  | i + 1 => if clo t f g a i = true then wrd t f g a i ++ (⟨#[41]⟩ : ByteArray) else wrd t f g a i ++ (⟨#[40]⟩ : ByteArray)
noncomputable def stp (t f g : List Int) (a : Nat) : Nat → List Int
  | 0 => []
  | i + 1 => if clo t f g a i = true then stp t f g a i else stp t f g a i ++ [(nf g (mI t f g (nf t (wI t f g a i))) : Int) - (nf g (nf t (wI t f g a i)) : Int)]
theorem wrd_size (t f g : List Int) (a : Nat) : ∀ i, (wrd t f g a i).size = i
  | 0 => rfl
  | i + 1 => by
    unfold wrd
    split <;> rw [ByteArray.size_append, wrd_size t f g a i] <;> rfl
theorem stp_len (t f g : List Int) (a : Nat) : ∀ i, (stp t f g a i).length ≤ i
  | 0 => Nat.le_refl _
  | i + 1 => by
    have := stp_len t f g a i
    unfold stp
    split
    · omega
    · rw [List.length_append, List.length_singleton]; omega
section
variable {t f g M : List Int} {n : Nat} (K : QTok t f g M n)
include K
theorem pv_turn {h : Nat} (hh : h < n) : rd M (nf t h : Int) = if nf g (nf f h) + 1 = nf g h then (mI t f g (nf t h) : Int) else -1 := by
  rw [K.mv _ (K.Q.tr h hh)]
  unfold pv mI
  rw [K.Q.face hh rfl, K.Q.lt h hh]
theorem step_at {a : Nat} (ha : Dn n (nf f) (nf g) a) (i : Nat) : wI t f g a i < n ∧ nf t (wI t f g a i) < n ∧ mI t f g (nf t (wI t f g a i)) < n ∧ rd M (nf t (wI t f g a i) : Int) = (mI t f g (nf t (wI t f g a i)) : Int) ∧
    mI t f g (mI t f g (nf t (wI t f g a i))) = nf t (wI t f g a i) ∧ FN (nf t) (nf f) (nf g) (mI t f g (nf t (wI t f g a i))) (wI t f g a (i + 1)) := by
  have dn := K.Q.wk_it ha i
  obtain ⟨v, v1, v2, v3, v4, v5⟩ := K.Q.mate dn.1 dn.2
  have ok := (K.Q.wk_ok dn).2.1
  have e1 : wI t f g a (i + 1) = wkS (nf t) (nf f) (nf g) (it (wkS (nf t) (nf f) (nf g)) i a) := it_succ _ _ _
  refine ⟨dn.1, K.Q.tr _ dn.1, ?_, ?_, ?_, ?_⟩
  · show Mt _ _ _ (nf t (it _ i a)) < n
    rw [v3]
    exact K.Q.tr _ v1
  · have e := pv_turn K dn.1
    rw [if_pos dn.2] at e
    exact e
  · show Mt _ _ _ (Mt _ _ _ (nf t (it _ i a))) = _
    rw [v3, v4]
    rfl
  · rw [e1]
    exact ok
theorem at_once {a : Nat} (ha : Dn n (nf f) (nf g) a) {i j : Nat} (hij : i < j) (hj : j < n / 2) : nf t (wI t f g a i) ≠ nf t (wI t f g a j) := by
  intro e
  exact K.Q.once ha i j hij (by omega) (K.Q.ti _ _ (step_at K ha i).1 (step_at K ha j).1 e)
theorem up_at {a : Nat} (ha : Dn n (nf f) (nf g) a) {i : Nat} (hi : i < n / 2) : (∃ j, j < i ∧ clo t f g a j = false ∧ (nf t (wI t f g a i) = nf t (wI t f g a j) ∨ nf t (wI t f g a i) = mI t f g (nf t (wI t f g a j)))) ↔ clo t f g a i = true := by
  rw [clo_iff]
  constructor
  · rintro ⟨j, h1, h2, h3 | h3⟩
    · exact absurd h3.symm (at_once K ha h1 hi)
    · exact ⟨j, h1, by rw [h3, (step_at K ha j).2.2.2.2.1]⟩
  · rintro ⟨j, h1, h2⟩
    have h3 : nf t (wI t f g a i) = mI t f g (nf t (wI t f g a j)) := by rw [h2, (step_at K ha i).2.2.2.2.1]
    refine ⟨j, h1, ?_, Or.inr h3⟩
    cases hc : clo t f g a j with
    | false => rfl
    | true =>
      exfalso
      obtain ⟨p, p1, p2⟩ := (clo_iff t f g a j).1 hc
      exact at_once K ha (show p < i by omega) hi (by rw [p2, h3])
theorem implBehind {x y : Nat} (h : FN (nf t) (nf f) (nf g) x y) : x < n → ∀ (up : List Bool) (N i : Int) (s : ByteArray) (st : List Int) (r : ByteArray × List Int × Bool),
    Ev (fun k => impl_QuadTree.l5 k g M up (nf t y : Int) N i t f s st) r → Ev (fun k => impl_QuadTree.l5 k g M up (nf t x : Int) N i t f s st) r := by
  induction h with
  | here h => exact fun _ _ _ _ _ _ _ h => h
  | @more x y h1 h2 ih =>
    intro hx up N i s st r hr
    have h3 := K.Q.tr _ hx
    have e := pv_turn K hx
    rw [if_neg (by omega)] at e
    refine Ev.s ?_
    simp only [impl_QuadTree.l5, e, K.ml, K.ht.1, (nf_rd K.ht h3).1, show (0 : Int) ≤ (nf t x : Int) by omega, show (nf t x : Int) < (n : Int) by omega, if_true, show (-1 : Int) < 0 by decide]
    exact ih h3 up N i s st r hr
theorem implWalk (a : Nat) (ha : Dn n (nf f) (nf g) a) : ∀ (d i : Nat) (up : List Bool) (x : Nat), n / 2 - i = d → i ≤ n / 2 → up.length = n →
    (∀ y, y < n → (up.getD y false = true ↔ ∃ j, j < i ∧ clo t f g a j = false ∧ (y = nf t (wI t f g a j) ∨ y = mI t f g (nf t (wI t f g a j))))) → x < n → FN (nf t) (nf f) (nf g) x (wI t f g a i) →
    Ev (fun k => impl_QuadTree.l4 k g M up (x : Int) ((n / 2 : Nat) : Int) (i : Int) t f (wrd t f g a i) (stp t f g a i)) (wrd t f g a (n / 2), stp t f g a (n / 2), true)
  | d, i, up, x, e, hi, hl, hu, hx, hF => by
    have hn := K.hn
    by_cases hlt : i < n / 2
    · cases d with
      | zero => omega
      | succ d =>
        obtain ⟨s1, s2, s3, s4, s5, s6⟩ := step_at K ha i
        have sz := wrd_size t f g a i
        have sl := stp_len t f g a i
        have u := (hu _ s2).trans (up_at K ha hlt)
        refine Ev.s ?_
        simp only [impl_QuadTree.l4, K.ht.1, (nf_rd K.ht hx).1, show (i : Int) < ((n / 2 : Nat) : Int) by omega, show (0 : Int) ≤ (x : Int) by omega, show (x : Int) < (n : Int) by omega, if_true]
        refine implBehind K hF hx _ _ _ _ _ _ ?_
        refine Ev.s ?_
        by_cases hc : clo t f g a i = true
        · have next := implWalk a ha d (i + 1) up (mI t f g (nf t (wI t f g a i))) (by omega) (by omega) hl (fun y hy => by
            rw [hu y hy]
            constructor
            · rintro ⟨j, h1, h2⟩
              exact ⟨j, by omega, h2⟩
            · rintro ⟨j, h1, h2, h3⟩
              refine ⟨j, ?_, h2, h3⟩
              by_cases hj : j = i
              · rw [hj, hc] at h2; cases h2
              · omega) s3 s6
          simp only [impl_QuadTree.l5, K.ml, hl, s4, bl_rd, u.2 hc, sz, show (0 : Int) ≤ (nf t (wI t f g a i) : Int) by omega, show (nf t (wI t f g a i) : Int) < (n : Int) by omega, if_true, show ¬ (mI t f g (nf t (wI t f g a i)) : Int) < 0 by omega, if_false, show i + 1 ≤ 9223372036854775807 by omega, w64n (show i < 4611686018427387904 by omega)]
          rw [show wrd t f g a (i + 1) = wrd t f g a i ++ (⟨#[41]⟩ : ByteArray) by rw [wrd]; exact if_pos hc, show stp t f g a (i + 1) = stp t f g a i by rw [stp]; exact if_pos hc] at next
          exact next
        · have hup : up.getD (nf t (wI t f g a i)) false = false := by
            cases hb : up.getD (nf t (wI t f g a i)) false with
            | false => rfl
            | true => exact absurd (u.1 hb) hc
          have next := implWalk a ha d (i + 1) ((up.set (nf t (wI t f g a i)) true).set (mI t f g (nf t (wI t f g a i))) true) (mI t f g (nf t (wI t f g a i))) (by omega) (by omega) (by simp [hl]) (fun y hy => by
            rw [bl_put _ _ _ (by simp; omega), bl_put _ _ _ (by omega)]
            by_cases y1 : y = mI t f g (nf t (wI t f g a i))
            · rw [if_pos y1]
              exact ⟨fun _ => ⟨i, by omega, by simpa using hc, Or.inr y1⟩, fun _ => rfl⟩
            · rw [if_neg y1]
              by_cases y2 : y = nf t (wI t f g a i)
              · rw [if_pos y2]
                exact ⟨fun _ => ⟨i, by omega, by simpa using hc, Or.inl y2⟩, fun _ => rfl⟩
              · rw [if_neg y2, hu y hy]
                constructor
                · rintro ⟨j, h1, h2⟩
                  exact ⟨j, by omega, h2⟩
                · rintro ⟨j, h1, h2, h3⟩
                  by_cases hj : j = i
                  · subst hj
                    rcases h3 with h3 | h3
                    · exact absurd h3 y2
                    · exact absurd h3 y1
                  · exact ⟨j, by omega, h2, h3⟩) s3 s6
          obtain ⟨g1, g2⟩ := K.gr _ s2
          obtain ⟨g3, g4⟩ := K.gr _ s3
          simp only [impl_QuadTree.l5, K.ml, K.gl, hl, s4, bl_rd, hup, sz, g1, g3, Int.toNat_natCast, show (0 : Int) ≤ (nf t (wI t f g a i) : Int) by omega, show (nf t (wI t f g a i) : Int) < (n : Int) by omega, show (0 : Int) ≤ (mI t f g (nf t (wI t f g a i)) : Int) by omega, show (mI t f g (nf t (wI t f g a i)) : Int) < (n : Int) by omega, if_true, Bool.false_eq_true, show ¬ (mI t f g (nf t (wI t f g a i)) : Int) < 0 by omega, if_false, show i + 1 ≤ 9223372036854775807 by omega, show (stp t f g a i).length < 17592186044416 by omega, w64n (show i < 4611686018427387904 by omega), w64 (x := (nf g (mI t f g (nf t (wI t f g a i))) : Int) - (nf g (nf t (wI t f g a i)) : Int)) (by omega) (by omega)]
          rw [show wrd t f g a (i + 1) = wrd t f g a i ++ (⟨#[40]⟩ : ByteArray) by rw [wrd]; exact if_neg hc, show stp t f g a (i + 1) = stp t f g a i ++ [(nf g (mI t f g (nf t (wI t f g a i))) : Int) - (nf g (nf t (wI t f g a i)) : Int)] by rw [stp]; exact if_neg hc] at next
          exact next
    · have e2 : i = n / 2 := by omega
      subst e2
      refine Ev.s ?_
      simp only [impl_QuadTree.l4, show ¬ ((n / 2 : Nat) : Int) < ((n / 2 : Nat) : Int) by omega, if_false]
      exact Ev.const rfl
theorem specBehind0 {x y : Nat} (h : FN (nf t) (nf f) (nf g) x y) : x < n → Ev (fun k => spec_l6qBehind.l0 k M (nf t x : Int) t f) (nf t y : Int) := by
  induction h with
  | @here x h =>
    intro hx
    have h3 := K.Q.tr _ hx
    have e := pv_turn K hx
    rw [if_pos h] at e
    refine Ev.s ?_
    simp only [spec_l6qBehind.l0, e, K.ml, show (0 : Int) ≤ (nf t x : Int) by omega, show (nf t x : Int) < (n : Int) by omega, if_true, show ¬ (mI t f g (nf t x) : Int) < 0 by omega, if_false]
    exact Ev.const rfl
  | @more x y h1 h2 ih =>
    intro hx
    have h3 := K.Q.tr _ hx
    have e := pv_turn K hx
    rw [if_neg (by omega)] at e
    refine Ev.s ?_
    simp only [spec_l6qBehind.l0, e, K.ml, K.ht.1, (nf_rd K.ht h3).1, show (0 : Int) ≤ (nf t x : Int) by omega, show (nf t x : Int) < (n : Int) by omega, if_true, show (-1 : Int) < 0 by decide]
    exact ih h3
theorem specBehind {x y : Nat} (h : FN (nf t) (nf f) (nf g) x y) (hx : x < n) : Ev (fun k => spec_l6qBehind.f k t f M (x : Int)) (nf t y : Int) := by
  unfold spec_l6qBehind.f
  simp only [K.ht.1, (nf_rd K.ht hx).1, show (0 : Int) ≤ (x : Int) by omega, show (x : Int) < (n : Int) by omega, if_true]
  exact specBehind0 K h hx
theorem specWalk (a : Nat) (ha : Dn n (nf f) (nf g) a) : ∀ (d i : Nat) (up : List Bool) (x : Nat), n / 2 - i = d → i ≤ n / 2 → up.length = n →
    (∀ y, y < n → (up.getD y false = true ↔ ∃ j, j < i ∧ y = nf t (wI t f g a j))) → x < n → FN (nf t) (nf f) (nf g) x (wI t f g a i) →
    Ev (fun k => spec_QuadTree.l0 k g M up (x : Int) (i : Int) t f (wrd t f g a i) (stp t f g a i)) (wrd t f g a (n / 2), stp t f g a (n / 2), true)
  | d, i, up, x, e, hi, hl, hu, hx, hF => by
    have hn := K.hn
    have half : wrap64 ((n : Int) / 2) = ((n / 2 : Nat) : Int) := by
      rw [w64 (by omega) (by omega)]; omega
    by_cases hlt : i < n / 2
    · cases d with
      | zero => omega
      | succ d =>
        obtain ⟨s1, s2, s3, s4, s5, s6⟩ := step_at K ha i
        have sz := wrd_size t f g a i
        have sl := stp_len t f g a i
        have u : up.getD (mI t f g (nf t (wI t f g a i))) false = true ↔ clo t f g a i = true := by
          rw [hu _ s3, clo_iff]
          constructor
          · rintro ⟨j, h1, h2⟩
            exact ⟨j, h1, h2.symm⟩
          · rintro ⟨j, h1, h2⟩
            exact ⟨j, h1, h2.symm⟩
        have next := specWalk a ha d (i + 1) (up.set (nf t (wI t f g a i)) true) (mI t f g (nf t (wI t f g a i))) (by omega) (by omega) (by simp [hl]) (fun y hy => by
          rw [bl_put _ _ _ (by omega)]
          by_cases y2 : y = nf t (wI t f g a i)
          · rw [if_pos y2]
            exact ⟨fun _ => ⟨i, by omega, y2⟩, fun _ => rfl⟩
          · rw [if_neg y2, hu y hy]
            constructor
            · rintro ⟨j, h1, h2⟩
              exact ⟨j, by omega, h2⟩
            · rintro ⟨j, h1, h2⟩
              by_cases hj : j = i
              · subst hj
                exact absurd h2 y2
              · exact ⟨j, by omega, h2⟩) s3 s6
        refine Ev.s ?_
        simp only [spec_QuadTree.l0, K.ml, half, show (i : Int) < ((n / 2 : Nat) : Int) by omega, if_true]
        refine Ev.bind (specBehind K hF hx) ?_
        by_cases hc : clo t f g a i = true
        · simp only [hl, s4, bl_rd, u.2 hc, sz, Int.toNat_natCast, show (0 : Int) ≤ (nf t (wI t f g a i) : Int) by omega, show (nf t (wI t f g a i) : Int) < (n : Int) by omega, show (0 : Int) ≤ (mI t f g (nf t (wI t f g a i)) : Int) by omega, show (mI t f g (nf t (wI t f g a i)) : Int) < (n : Int) by omega, if_true, show i + 1 ≤ 9223372036854775807 by omega, w64n (show i < 4611686018427387904 by omega)]
          rw [show wrd t f g a (i + 1) = wrd t f g a i ++ (⟨#[41]⟩ : ByteArray) by rw [wrd]; exact if_pos hc, show stp t f g a (i + 1) = stp t f g a i by rw [stp]; exact if_pos hc] at next
          exact next
        · have hup : up.getD (mI t f g (nf t (wI t f g a i))) false = false := by
            cases hb : up.getD (mI t f g (nf t (wI t f g a i))) false with
            | false => rfl
            | true => exact absurd (u.1 hb) hc
          obtain ⟨g1, g2⟩ := K.gr _ s2
          obtain ⟨g3, g4⟩ := K.gr _ s3
          simp only [K.gl, hl, s4, bl_rd, hup, sz, g1, g3, Int.toNat_natCast, Bool.false_eq_true, show (0 : Int) ≤ (nf t (wI t f g a i) : Int) by omega, show (nf t (wI t f g a i) : Int) < (n : Int) by omega, show (0 : Int) ≤ (mI t f g (nf t (wI t f g a i)) : Int) by omega, show (mI t f g (nf t (wI t f g a i)) : Int) < (n : Int) by omega, if_true, if_false, show i + 1 ≤ 9223372036854775807 by omega, show (stp t f g a i).length < 17592186044416 by omega, w64n (show i < 4611686018427387904 by omega), w64 (x := (nf g (mI t f g (nf t (wI t f g a i))) : Int) - (nf g (nf t (wI t f g a i)) : Int)) (by omega) (by omega)]
          rw [show wrd t f g a (i + 1) = wrd t f g a i ++ (⟨#[40]⟩ : ByteArray) by rw [wrd]; exact if_neg hc, show stp t f g a (i + 1) = stp t f g a i ++ [(nf g (mI t f g (nf t (wI t f g a i))) : Int) - (nf g (nf t (wI t f g a i)) : Int)] by rw [stp]; exact if_neg hc] at next
          exact next
    · have e2 : i = n / 2 := by omega
      subst e2
      refine Ev.s ?_
      simp only [spec_QuadTree.l0, K.ml, half, show ¬ ((n / 2 : Nat) : Int) < ((n / 2 : Nat) : Int) by omega, if_false]
      exact Ev.const rfl
end
def tqT (a b : List Int) : Nat → List Int
  | 0 => []
  | i + 1 => tqT a b i ++ [2 * rd a i, 2 * rd b i + 1]
def tqF : Nat → List Int
  | 0 => []
  | i + 1 => tqF i ++ [2 * (i : Int) + 1, 2 * (i : Int)]
theorem tqT_length (a b : List Int) : ∀ n, (tqT a b n).length = 2 * n
  | 0 => rfl
  | n + 1 => by simp [tqT, tqT_length a b n]; omega
theorem tqF_length : ∀ n, (tqF n).length = 2 * n
  | 0 => rfl
  | n + 1 => by simp [tqF, tqF_length n]; omega
def sm : List Int → Int
  | [] => 0
  | x :: l => x + sm l
theorem sm_app : ∀ (a b : List Int), sm (a ++ b) = sm a + sm b
  | [], b => by simp [sm]
  | x :: a, b => by simp only [List.cons_append, sm, sm_app a b]; omega
theorem cw_sum (p : List Int) (n : Nat) (hp : inR n p) : ∀ (f : Nat) (s : List Bool) (c : List Int) (a : Int), s.length = n → 0 ≤ a → a < n → (cw p f s c a).2.length + fresh (cw p f s c a).1 = c.length + fresh s
  | 0, s, c, a, hs, h0, h1 => rfl
  | f + 1, s, c, a, hs, h0, h1 => by
    simp only [cw]
    by_cases e : rdOf false s a = true
    · simp only [e, if_true]
    · simp only [e, Bool.false_eq_true, if_false]
      have h3 : s.getD a.toNat false = false := by rw [← rdOf_nat s a h0]; simpa using e
      have h4 := fresh_set s a.toNat (by omega) h3
      have h5 := hp.2 a.toNat (by omega)
      rw [show ((a.toNat : Nat) : Int) = a by omega] at h5
      have ih := cw_sum p n hp f (s.set a.toNat true) (c ++ [a]) (rd p a) (by simpa using hs) h5.1 h5.2
      rw [List.length_append, List.length_singleton] at ih
      omega
theorem cyS_sum (p : List Int) (n : Nat) (hp : inR n p) : ∀ i, i ≤ n → sm (lensL (cyS p n i).2) + (fresh (cyS p n i).1 : Int) = n
  | 0, _ => by
    have : (List.replicate n false).countP (fun b => !b) = n := by rw [List.countP_replicate]; simp
    simp [cyS, lensL, sm, fresh, this]
  | i + 1, hi => by
    have ih := cyS_sum p n hp i (by omega)
    have hb := cw_sum p n hp (n + 1) (cyS p n i).1 [] i (cyS_len p n i) (by omega) (by omega)
    rw [List.length_nil, Nat.zero_add] at hb
    simp only [cyS]
    by_cases e : (cw p (n + 1) (cyS p n i).1 [] (i : Int)).2 = []
    · rw [if_pos e]
      rw [e, List.length_nil] at hb
      omega
    · rw [if_neg e]
      unfold lensL at ih ⊢
      rw [List.map_append, sm_app]
      simp only [List.map_cons, List.map_nil, sm]
      omega
theorem lens_sum (p : List Int) (n : Nat) (hp : inR n p) (hi : injR n p) : sm (lensL (cyS p n n).2) = n := by
  have h := cyS_sum p n hp n (Nat.le_refl _)
  have hl := cyS_len p n n
  have hf : fresh (cyS p n n).1 = 0 := by
    unfold fresh
    rw [List.countP_eq_zero]
    intro b hb
    obtain ⟨i, hi', rfl⟩ := List.mem_iff_getElem.1 hb
    have := (cyS_seen p n hp hi n (Nat.le_refl _) i (by omega)).2 ⟨i, by omega, Reach.refl _ _ _⟩
    rw [List.getD_eq_getElem?_getD, List.getElem?_eq_getElem hi', Option.getD_some] at this
    rw [this]
    decide
  omega
theorem four_sum : ∀ (C : List (List Int)), (∀ l ∈ C, 4 ≤ l.length) → 4 * (C.length : Int) ≤ sm (lensL C) ∧ (sm (lensL C) ≤ 4 * (C.length : Int) → ∀ l ∈ C, l.length = 4)
  | [], _ => ⟨by simp [lensL, sm], fun _ l hl => by simp at hl⟩
  | x :: C, h => by
    obtain ⟨a, b⟩ := four_sum C fun l hl => h l (by simp [hl])
    have hx := h x (by simp)
    have e : sm (lensL (x :: C)) = (x.length : Int) + sm (lensL C) := rfl
    rw [e]
    simp only [List.length_cons]
    refine ⟨by omega, fun hs l hl => ?_⟩
    rcases List.mem_cons.1 hl with rfl | hl
    · omega
    · exact b (by omega) l hl
theorem flat_len (g : Nat → List Nat) (hg : ∀ r, (g r).length = 4) : ∀ L : List Nat, (L.flatMap g).length = 4 * L.length
  | [] => rfl
  | r :: L => by
    rw [List.flatMap_cons, List.length_append, flat_len g hg L, hg]
    simp only [List.length_cons]
    omega
theorem four_cycles (p : List Int) (n : Nat) (hp : inR n p) (hi : injR n p) (h4 : ∀ x : Nat, x < n → rd p (rd p (rd p (rd p (x : Int)))) = x) (h2 : ∀ x : Nat, x < n → rd p (rd p (x : Int)) ≠ x) :
    (∀ l ∈ (cyS p n n).2, l.length = 4) ∧ 4 * (cyS p n n).2.length = n := by
  obtain ⟨reps, r1, r2, r3, r4⟩ := cyS_reps p n hp hi n (Nat.le_refl _)
  -- a point's four places
  have pn : ∀ x : Nat, x < n → (rd p (x : Int)).toNat < n ∧ (((rd p (x : Int)).toNat : Nat) : Int) = rd p (x : Int) := fun x hx => by
    have := hp.2 x hx
    omega
  have H4 : ∀ x : Nat, x < n → (rd p (((rd p (((rd p (((rd p (x : Int)).toNat : Nat) : Int)).toNat : Nat) : Int)).toNat : Nat) : Int)).toNat = x := fun x hx => by
    obtain ⟨a1, a2⟩ := pn x hx
    obtain ⟨b1, b2⟩ := pn _ a1
    obtain ⟨c1, c2⟩ := pn _ b1
    rw [a2] at b1 b2 c1 c2 ⊢
    rw [b2] at c1 c2 ⊢
    rw [c2, h4 x hx, Int.toNat_natCast]
  have H2 : ∀ x : Nat, x < n → (rd p (((rd p (x : Int)).toNat : Nat) : Int)).toNat ≠ x := fun x hx e => by
    obtain ⟨a1, a2⟩ := pn x hx
    obtain ⟨b1, b2⟩ := pn _ a1
    rw [a2] at b2 e
    exact h2 x hx (by omega)
  generalize hP : (fun x : Nat => (rd p (x : Int)).toNat) = P at *
  have eP : ∀ x : Nat, (rd p (x : Int)).toNat = P x := fun x => by rw [← hP]
  simp only [eP] at pn H4 H2
  have st : ∀ x : Nat, x < n → Reach [p] n x (P x) := fun x hx => by
    have := Reach.step (ps := [p]) (n := n) (p := p) (by simp) hx
    rwa [eP] at this
  have four : ∀ l ∈ (cyS p n n).2, 4 ≤ l.length := by
    intro l hl
    obtain ⟨q, hq, rfl⟩ := List.mem_iff_getElem.1 hl
    have hq' : q < reps.length := by omega
    have rlt := ((r3 reps[q]).1 (List.getElem_mem hq')).1
    have el : rd_L1 (cyS p n n).2 (q : Int) = (cyS p n n).2[q] := by
      unfold rd_L1
      rw [Int.toNat_natCast]
      simp [List.getD, hq]
    have mem : ∀ x : Nat, x < n → Reach [p] n reps[q] x → x ∈ ((cyS p n n).2[q]).map Int.toNat := fun x hx hr => by
      have := (r4 q hq' x hx).2 hr
      rw [el] at this
      exact List.mem_map.2 ⟨_, this, Int.toNat_natCast x⟩
    generalize reps[q] = r at *
    have a1 := (pn r rlt).1
    have b1 := (pn _ a1).1
    have c1 := (pn _ b1).1
    have s1 := st r rlt
    have s2 := s1.trans (st _ a1)
    have s3 := s2.trans (st _ b1)
    have ne1 : P r ≠ r := fun e => H2 r rlt (by rw [e, e])
    have ne2 := H2 r rlt
    have ne3 : P (P (P r)) ≠ r := fun e => H2 r rlt (by
      have := H4 r rlt
      rw [e] at this
      rw [this, this])
    have ne4 : P (P r) ≠ P r := fun e => H2 _ a1 (by rw [e, e])
    have ne5 := H2 _ a1
    have ne6 : P (P (P r)) ≠ P (P r) := fun e => H2 _ b1 (by rw [e, e])
    have nd : ([r, P r, P (P r), P (P (P r))] : List Nat).Nodup := by
      simp only [List.nodup_cons, List.mem_cons, List.not_mem_nil, or_false, not_or, not_false_eq_true, List.nodup_nil, and_true]
      exact ⟨⟨fun e => ne1 e.symm, fun e => ne2 e.symm, fun e => ne3 e.symm⟩, ⟨fun e => ne4 e.symm, fun e => ne5 e.symm⟩, fun e => ne6 e.symm⟩
    have := len_le_of_sub [r, P r, P (P r), P (P (P r))] (((cyS p n n).2[q]).map Int.toNat) nd (fun x hx => by
      simp only [List.mem_cons, List.not_mem_nil, or_false] at hx
      rcases hx with rfl | rfl | rfl | rfl
      · exact mem _ rlt (Reach.refl _ _ _)
      · exact mem _ a1 s1
      · exact mem _ b1 s2
      · exact mem _ c1 s3)
    simpa using this
  have many : n ≤ 4 * (cyS p n n).2.length := by
    have := len_le_of_sub (List.range n) (reps.flatMap fun r => [r, P r, P (P r), P (P (P r))]) List.nodup_range (fun x hx => by
      have hx := List.mem_range.1 hx
      obtain ⟨y, y1, y2, y3⟩ := lst_ex (Reach [p] n) (fun x => Reach.refl _ _ x) (fun x y h => h.symm) (fun x y z h h' => h.trans h') x
      have hy : y < n := by omega
      refine List.mem_flatMap.2 ⟨y, (r3 y).2 ⟨hy, y2⟩, ?_⟩
      have cl := closed_of_fwd p n hp hi (fun z => z = y ∨ z = P y ∨ z = P (P y) ∨ z = P (P (P y))) (fun k hk hs => by
        rw [eP]
        rcases hs with rfl | rfl | rfl | rfl
        · exact .inr (.inl rfl)
        · exact .inr (.inr (.inl rfl))
        · exact .inr (.inr (.inr rfl))
        · exact .inl (H4 y hy))
      have := (y3 _ cl).1 (.inl rfl)
      simp only [List.mem_cons, List.not_mem_nil, or_false]
      exact this)
    rw [flat_len _ (fun _ => rfl), List.length_range, r1] at this
    exact this
  have hs := lens_sum p n hp hi
  obtain ⟨f1, f2⟩ := four_sum _ four
  rw [hs] at f1 f2
  exact ⟨f2 (by omega), by omega⟩
end Go.Proofs.Ytlpbalebodlipaa.PL

namespace Go.Proofs.Ytlpbalebodlipaa.PL
open Go.RowKit Go.Proofs.YtlpbalebodlipaaW.PrintWords Go.Proofs.YtlpbalebodlipaaW.PrintLast Go.Proofs.YtlpbalebodlipaaW.PrintMore
attribute [local go_sem] max2_int min2_int max_two min_two max_three min_three max_four min_four   -- for this text's walks alone
set_option linter.unusedVariables false
set_option linter.unusedSimpArgs false
def impl_renamed.T1 : Bool × List (List Nat × List Nat) := (true, [([], []), ([0], [0]), ([], []), ([2], [2]), ([1, 3, 1], [1, 3]), ([], []), ([4, 5, 4], [4, 5]), ([], []), ([7, 6], [7]), ([], []), ([9], [9]), ([8, 10, 8], [8, 10]), ([], []), ([11, 12, 11], [11, 12]), ([6, 13], [6, 13]), ([14, 13, 0, 1, 2, 3, 4, 5, 6, 7, 8, 9, 10, 11, 12, 13, 14], [14])])
def impl_renamed.B1 : List Nat := [0, 1, 0, 4, 15, 0, 63, 0, 255, 0, 512, 2047, 0, 8191, 16383, 32767]
end Go.Proofs.Ytlpbalebodlipaa.PL

set_option linter.unusedVariables false
set_option linter.unusedSimpArgs false
namespace Go.Proofs.Ytlpbalebodlipaa.PL
open Go.RowKit Go.Proofs.YtlpbalebodlipaaW.PrintWords Go.Proofs.YtlpbalebodlipaaW.PrintLast Go.Proofs.YtlpbalebodlipaaW.PrintMore
def visit (s : List Int × List Int) (d : Int) : List Int × List Int := if rd s.1 d < 0 then (s.1.set d.toNat (s.2.length : Int), s.2 ++ [d]) else s
def wk (t f : List Int) : Nat → List Int → List Int → Nat → List Int
  | 0, nm, od, i => nm
  | k + 1, nm, od, i => if i < od.length then wk t f k (visit (visit (nm, od) (rd t (rd od (i : Int)))) (rd f (rd od (i : Int)))).1 (visit (visit (nm, od) (rd t (rd od (i : Int)))) (rd f (rd od (i : Int)))).2 (i + 1) else nm
def NI (n : Nat) (s : List Int × List Int) : Prop := s.1.length = n ∧ (∀ k : Nat, k < s.2.length → 0 ≤ rd s.2 (k : Int) ∧ rd s.2 (k : Int) < n ∧ rd s.1 (rd s.2 (k : Int)) = k) ∧ ∀ x : Nat, x < n → rd s.1 (x : Int) < 0 ∨ (0 ≤ rd s.1 (x : Int) ∧ rd s.1 (x : Int) < s.2.length ∧ rd s.2 (rd s.1 (x : Int)) = x)
theorem rd_appL (l : List Int) (v : Int) (k : Nat) (h : k < l.length) : rd (l ++ [v]) (k : Int) = rd l (k : Int) := by
  rw [rd_lt _ _ (by simp; omega), rd_lt _ _ h, List.getElem_append_left h]
theorem rd_appR (l : List Int) (v : Int) : rd (l ++ [v]) (l.length : Int) = v := by
  rw [rd_lt _ _ (by simp)]
  simp
theorem NI.visit {n : Nat} {s : List Int × List Int} (h : NI n s) (d : Int) (h0 : 0 ≤ d) (h1 : d < n) : NI n (visit s d) ∧ 0 ≤ rd (Go.Proofs.Ytlpbalebodlipaa.PL.visit s d).1 d ∧ s.2.length ≤ (Go.Proofs.Ytlpbalebodlipaa.PL.visit s d).2.length ∧ (∀ k : Nat, k < s.2.length → rd (Go.Proofs.Ytlpbalebodlipaa.PL.visit s d).2 (k : Int) = rd s.2 (k : Int)) ∧ ∀ x : Nat, x < n → 0 ≤ rd s.1 (x : Int) → 0 ≤ rd (Go.Proofs.Ytlpbalebodlipaa.PL.visit s d).1 (x : Int) := by
  obtain ⟨a, b, c⟩ := id h
  have ed : ((d.toNat : Nat) : Int) = d := by omega
  unfold Go.Proofs.Ytlpbalebodlipaa.PL.visit
  by_cases z : rd s.1 d < 0
  · rw [if_pos z]
    have put : ∀ x : Nat, rd (s.1.set d.toNat (s.2.length : Int)) (x : Int) = if x = d.toNat then (s.2.length : Int) else rd s.1 (x : Int) := fun x => rd_put s.1 d.toNat x _ (by omega)
    refine ⟨⟨by simp [a], fun k hk => ?_, fun x hx => ?_⟩, ?_, by simp, fun k hk => rd_appL _ _ _ hk, fun x hx hx0 => ?_⟩
    · simp only [List.length_append, List.length_cons, List.length_nil] at hk
      by_cases y : k < s.2.length
      · obtain ⟨k1, k2, k3⟩ := b k y
        have eo : (((rd s.2 (k : Int)).toNat : Nat) : Int) = rd s.2 (k : Int) := by omega
        show 0 ≤ rd (s.2 ++ [d]) (k : Int) ∧ rd (s.2 ++ [d]) (k : Int) < n ∧ rd (s.1.set d.toNat (s.2.length : Int)) (rd (s.2 ++ [d]) (k : Int)) = k
        rw [rd_appL _ _ _ y]
        refine ⟨k1, k2, ?_⟩
        rw [← eo, put, if_neg, eo]
        · exact k3
        · intro w
          have : rd s.2 (k : Int) = d := by omega
          rw [this] at k3
          omega
      · have : k = s.2.length := by omega
        subst this
        show 0 ≤ rd (s.2 ++ [d]) (s.2.length : Int) ∧ rd (s.2 ++ [d]) (s.2.length : Int) < n ∧ rd (s.1.set d.toNat (s.2.length : Int)) (rd (s.2 ++ [d]) (s.2.length : Int)) = s.2.length
        rw [rd_appR]
        refine ⟨h0, h1, ?_⟩
        have pd := put d.toNat
        rw [ed, if_pos rfl] at pd
        exact pd
    · show rd (s.1.set d.toNat (s.2.length : Int)) (x : Int) < 0 ∨ (0 ≤ rd (s.1.set d.toNat (s.2.length : Int)) (x : Int) ∧ rd (s.1.set d.toNat (s.2.length : Int)) (x : Int) < ((s.2 ++ [d]).length : Nat) ∧ rd (s.2 ++ [d]) (rd (s.1.set d.toNat (s.2.length : Int)) (x : Int)) = x)
      rw [put]
      by_cases y : x = d.toNat
      · rw [if_pos y]
        right
        refine ⟨by omega, by simp only [List.length_append, List.length_cons, List.length_nil]; omega, ?_⟩
        rw [rd_appR]
        omega
      · rw [if_neg y]
        rcases c x hx with w | ⟨w1, w2, w3⟩
        · exact .inl w
        · right
          refine ⟨w1, by simp only [List.length_append, List.length_cons, List.length_nil]; omega, ?_⟩
          have ew : (((rd s.1 (x : Int)).toNat : Nat) : Int) = rd s.1 (x : Int) := by omega
          rw [← ew, rd_appL _ _ _ (by omega), ew]
          exact w3
    · show 0 ≤ rd (s.1.set d.toNat (s.2.length : Int)) d
      have pd := put d.toNat
      rw [ed, if_pos rfl] at pd
      rw [pd]
      omega
    · show 0 ≤ rd (s.1.set d.toNat (s.2.length : Int)) (x : Int)
      rw [put]
      split
      · omega
      · exact hx0
  · rw [if_neg z]
    exact ⟨h, by omega, Nat.le_refl _, fun _ _ => rfl, fun _ _ q => q⟩
theorem NI.le {n : Nat} {s : List Int × List Int} (h : NI n s) : s.2.length ≤ n := by
  obtain ⟨a, b, c⟩ := h
  have nd : ((List.range s.2.length).map fun (k : Nat) => (rd s.2 (k : Int)).toNat).Nodup := by
    refine List.pairwise_map.2 (List.Pairwise.imp_of_mem (fun {x y} hx hy hxy e => hxy ?_) (List.nodup_range (n := s.2.length)))
    have b1 := b x (List.mem_range.1 hx)
    have b2 := b y (List.mem_range.1 hy)
    have e : (rd s.2 (x : Int)).toNat = (rd s.2 (y : Int)).toNat := e
    have : rd s.2 (x : Int) = rd s.2 (y : Int) := by omega
    rw [this] at b1
    omega
  have := len_le_of_sub ((List.range s.2.length).map fun (k : Nat) => (rd s.2 (k : Int)).toNat) (List.range n) nd (fun x hx => by
    obtain ⟨k, hk, rfl⟩ := List.mem_map.1 hx
    have := b k (List.mem_range.1 hk)
    exact List.mem_range.2 (by omega))
  simpa using this
def nmF (t f : List Int) (n r : Nat) : List Int := wk t f (n + 1) ((List.replicate n (-1)).set r 0) [(r : Int)] 0
def reT (t nm : List Int) (n : Nat) : List Int := mulL (mulL (backL nm n n) t n) nm n
def Iso (n : Nat) (s : Nat → Nat) (t f t' f' : List Int) : Prop := (∀ x, x < n → s x < n) ∧ (∀ x y, x < n → y < n → s x = s y → x = y) ∧ (∀ x, x < n → rd t' ((s x : Nat) : Int) = (s (rd t (x : Int)).toNat : Int)) ∧ ∀ x, x < n → rd f' ((s x : Nat) : Int) = (s (rd f (x : Int)).toNat : Int)
def ER (n : Nat) (s : Nat → Nat) (a b : List Int × List Int) : Prop := b.2.length = a.2.length ∧ (∀ k : Nat, k < a.2.length → rd b.2 (k : Int) = (s (rd a.2 (k : Int)).toNat : Int)) ∧ ∀ x, x < n → rd b.1 ((s x : Nat) : Int) = rd a.1 (x : Int)
theorem ER.visit {n : Nat} {s : Nat → Nat} {a b : List Int × List Int} (h : ER n s a b) (ha : NI n a) (hb : NI n b) (s1 : ∀ x, x < n → s x < n) (s2 : ∀ x y, x < n → y < n → s x = s y → x = y) (d : Nat) (hd : d < n) : ER n s (visit a (d : Int)) (visit b ((s d : Nat) : Int)) := by
  obtain ⟨e1, e2, e3⟩ := h
  unfold Go.Proofs.Ytlpbalebodlipaa.PL.visit
  rw [e3 d hd]
  by_cases z : rd a.1 (d : Int) < 0
  · rw [if_pos z, if_pos z]
    refine ⟨by simp [e1], fun k hk => ?_, fun x hx => ?_⟩
    · simp only [List.length_append, List.length_cons, List.length_nil] at hk
      show rd (b.2 ++ [((s d : Nat) : Int)]) (k : Int) = (s (rd (a.2 ++ [(d : Int)]) (k : Int)).toNat : Int)
      by_cases y : k < a.2.length
      · rw [rd_appL _ _ _ y, rd_appL _ _ _ (by omega), e2 k y]
      · have : k = a.2.length := by omega
        subst this
        rw [rd_appR, ← e1, rd_appR, Int.toNat_natCast]
    · show rd (b.1.set ((s d : Nat) : Int).toNat (b.2.length : Int)) ((s x : Nat) : Int) = rd (a.1.set (d : Int).toNat (a.2.length : Int)) (x : Int)
      have l1 := ha.1
      have l2 := hb.1
      have sd := s1 d hd
      rw [Int.toNat_natCast, Int.toNat_natCast, rd_put _ _ _ _ (by omega), rd_put _ _ _ _ (by omega), e1]
      by_cases y : x = d
      · rw [if_pos y, if_pos (by rw [y])]
      · rw [if_neg y, if_neg (fun w => y (s2 x d hx hd w)), e3 x hx]
  · rw [if_neg z, if_neg z]
    exact ⟨e1, e2, e3⟩
def vsd (l : List Int) (n : Nat) : Nat → Int
  | 0 => 0
  | d + 1 => rd l ((n - 1 - d : Nat) : Int) * 16 ^ d + vsd l n d
def code (T F : List Int) (n : Nat) : Int := vsd T n n * 16 ^ n + vsd F n n
def fc (t f : List Int) (n r : Nat) : Int := code (reT t (nmF t f n r) n) (reT f (nmF t f n r) n) n
theorem rd_app_left (l m : List Int) (k : Nat) (h : k < l.length) : rd (l ++ m) (k : Int) = rd l (k : Int) := by
  rw [rd_lt _ _ (by simp; omega), rd_lt _ _ h, List.getElem_append_left h]
theorem rd_app_right (l m : List Int) (j : Nat) (h : j < m.length) : rd (l ++ m) ((l.length + j : Nat) : Int) = rd m (j : Int) := by
  rw [rd_lt _ _ (by simp; omega), rd_lt _ _ h, List.getElem_append_right (by omega)]
  simp
theorem tqT_rd (a b : List Int) : ∀ (n d : Nat), d < n → rd (tqT a b n) ((2 * d : Nat) : Int) = 2 * rd a (d : Int) ∧ rd (tqT a b n) ((2 * d + 1 : Nat) : Int) = 2 * rd b (d : Int) + 1
  | n + 1, d, h => by
    have hl := tqT_length a b n
    simp only [tqT]
    by_cases z : d < n
    · obtain ⟨i1, i2⟩ := tqT_rd a b n d z
      rw [rd_app_left _ _ _ (by omega), rd_app_left _ _ _ (by omega)]
      exact ⟨i1, i2⟩
    · have : d = n := by omega
      subst this
      have e0 := rd_app_right (tqT a b d) [2 * rd a (d : Int), 2 * rd b (d : Int) + 1] 0 (by simp)
      have e1 := rd_app_right (tqT a b d) [2 * rd a (d : Int), 2 * rd b (d : Int) + 1] 1 (by simp)
      rw [hl] at e0 e1
      exact ⟨e0, e1⟩
theorem tqF_rd : ∀ (n d : Nat), d < n → rd (tqF n) ((2 * d : Nat) : Int) = ((2 * d + 1 : Nat) : Int) ∧ rd (tqF n) ((2 * d + 1 : Nat) : Int) = ((2 * d : Nat) : Int)
  | n + 1, d, h => by
    have hl := tqF_length n
    simp only [tqF]
    by_cases z : d < n
    · obtain ⟨i1, i2⟩ := tqF_rd n d z
      rw [rd_app_left _ _ _ (by omega), rd_app_left _ _ _ (by omega)]
      exact ⟨i1, i2⟩
    · have : d = n := by omega
      subst this
      have e0 := rd_app_right (tqF d) [2 * (d : Int) + 1, 2 * (d : Int)] 0 (by simp)
      have e1 := rd_app_right (tqF d) [2 * (d : Int) + 1, 2 * (d : Int)] 1 (by simp)
      rw [hl] at e0 e1
      refine ⟨e0.trans ?_, e1.trans ?_⟩
      · show 2 * (d : Int) + 1 = _
        omega
      · show 2 * (d : Int) = _
        omega
def QOk (t f b : List Int) (n : Nat) : Prop := MapK t f n ∧ n ≤ 6 ∧ inR n b ∧ (∀ d : Nat, d < n → rd b (rd t (rd f (d : Int))) = d) ∧ ∀ d : Nat, d < n → rd t (rd f (rd b (d : Int))) = d
theorem qOk_of (t f : List Int) (n : Nat) (H : MapK t f n) (h6 : n ≤ 6) : QOk t f (backL (mulL f t n) n n) n := by
  obtain ⟨hn, h1, ht, hti, hf, hfl, hcon⟩ := id H
  have hm := mulL_inR n f t hf ht
  have inj : injR n (mulL f t n) := fun i j hi hj e => by
    rw [mulL_rd f t n i hi, mulL_rd f t n j hj] at e
    have ri := hf.2 i hi
    have rj := hf.2 j hj
    have e2 : (rd f (i : Int)).toNat = (rd f (j : Int)).toNat := hti _ _ (by omega) (by omega) (by rw [show (((rd f (i : Int)).toNat : Nat) : Int) = rd f (i : Int) by omega, show (((rd f (j : Int)).toNat : Nat) : Int) = rd f (j : Int) by omega]; exact e)
    have e3 : rd f (i : Int) = rd f (j : Int) := by omega
    have f1 := (hfl i hi).2
    have f2 := (hfl j hj).2
    rw [e3, f2] at f1
    omega
  have hb := backL_inR (mulL f t n) n
  have back : ∀ d : Nat, d < n → rd (backL (mulL f t n) n n) (rd t (rd f (d : Int))) = d := fun d hd => by
    have := backL_rd (mulL f t n) n hm inj n (Nat.le_refl _) d hd
    rwa [mulL_rd f t n d hd] at this
  refine ⟨H, h6, hb, back, fun d hd => ?_⟩
  obtain ⟨m, _, h2⟩ := itr_back (mulL f t n) n hm inj d (by omega)
  have hin := itr_in (mulL f t n) n hm m d (by omega)
  rw [itr_add] at h2
  have h2 : rd (mulL f t n) (itr (mulL f t n) m d) = d := h2
  have ex : (((itr (mulL f t n) m d).toNat : Nat) : Int) = itr (mulL f t n) m d := by omega
  have hm2 := mulL_rd f t n (itr (mulL f t n) m d).toNat (by omega)
  rw [ex, h2] at hm2
  have hb2 := back (itr (mulL f t n) m d).toNat (by omega)
  rw [ex, ← hm2] at hb2
  rw [hb2, ← hm2]
theorem half (n x : Nat) (hx : x < 2 * n) : ∃ d, d < n ∧ (x = 2 * d ∨ x = 2 * d + 1) := ⟨x / 2, by omega, by omega⟩
def evn (g : List Int) (d : Nat) : Prop := Int.tmod (rd g (d : Int)) 2 = 0
instance (g : List Int) (d : Nat) : Decidable (evn g d) := inferInstanceAs (Decidable (_ = _))
theorem nmE_yes {g : List Int} {d : Nat} (h : evn g d) : nmE g (d + 1) = nmE g d + 1 := by
  have h : Int.tmod (rd g (d : Int)) 2 = 0 := h
  simp only [nmE, h, if_true]
theorem nmE_no {g : List Int} {d : Nat} (h : ¬ evn g d) : nmE g (d + 1) = nmE g d := by
  have h : ¬ Int.tmod (rd g (d : Int)) 2 = 0 := h
  simp only [nmE, h, if_false]
theorem nmE_lt {g : List Int} {d i : Nat} (h : evn g d) (hd : d < i) : nmE g d < nmE g i := by
  have := nmE_mono g (d + 1) (i - (d + 1))
  rw [show d + 1 + (i - (d + 1)) = i by omega, nmE_yes h] at this
  omega
theorem nmE_inj {g : List Int} {d e : Nat} (h : evn g d) (h' : evn g e) (q : nmE g d = nmE g e) : d = e := by
  by_cases h1 : d < e
  · have := nmE_lt h h1; omega
  · by_cases h2 : e < d
    · have := nmE_lt h' h2; omega
    · omega
theorem nmE_ev (g : List Int) : ∀ i k, k < nmE g i → ∃ d, d < i ∧ evn g d ∧ nmE g d = k
  | 0, k, h => absurd h (by simp [nmE])
  | i + 1, k, h => by
    by_cases e : evn g i
    · rw [nmE_yes e] at h
      by_cases q : k = nmE g i
      · exact ⟨i, by omega, e, q.symm⟩
      · obtain ⟨d, d1, d2⟩ := nmE_ev g i k (by omega)
        exact ⟨d, by omega, d2⟩
    · rw [nmE_no e] at h
      obtain ⟨d, d1, d2⟩ := nmE_ev g i k h
      exact ⟨d, by omega, d2⟩
theorem evl_len (g : List Int) : ∀ i, ((List.range i).filter fun d => decide (evn g d)).length = nmE g i
  | 0 => rfl
  | i + 1 => by
    rw [List.range_succ, List.filter_append, List.length_append, evl_len g i]
    by_cases e : evn g i
    · rw [nmE_yes e]; simp [e]
    · rw [nmE_no e]; simp [e]
theorem tmA_rd (g t nm : List Int) : ∀ i d : Nat, d < i → evn g d → rd (tmA g t nm i) ((nmE g d : Nat) : Int) = rd nm (rd t (d : Int))
  | 0, d, h, _ => absurd h (by omega)
  | i + 1, d, h, e => by
    by_cases z : evn g i
    · have z' : Int.tmod (rd g (i : Int)) 2 = 0 := z
      simp only [tmA, z', if_true]
      by_cases q : d = i
      · subst q
        have := rd_appR (tmA g t nm d) (rd nm (rd t (d : Int)))
        rwa [tmA_len] at this
      · rw [rd_appL _ _ _ (by rw [tmA_len]; exact nmE_lt e (by omega))]
        exact tmA_rd g t nm i d (by omega) e
    · have z' : ¬ Int.tmod (rd g (i : Int)) 2 = 0 := z
      simp only [tmA, z', if_false]
      have : d ≠ i := fun q => z (q ▸ e)
      exact tmA_rd g t nm i d (by omega) e
theorem tmB_rd (g t fc bk nm : List Int) : ∀ i d : Nat, d < i → evn g d → rd (tmB g t fc bk nm i) ((nmE g d : Nat) : Int) = tmF t fc bk nm d
  | 0, d, h, _ => absurd h (by omega)
  | i + 1, d, h, e => by
    by_cases z : evn g i
    · have z' : Int.tmod (rd g (i : Int)) 2 = 0 := z
      simp only [tmB, z', if_true]
      by_cases q : d = i
      · subst q
        have := rd_appR (tmB g t fc bk nm d) (tmF t fc bk nm d)
        rwa [tmB_len] at this
      · rw [rd_appL _ _ _ (by rw [tmB_len]; exact nmE_lt e (by omega))]
        exact tmB_rd g t fc bk nm i d (by omega) e
    · have z' : ¬ Int.tmod (rd g (i : Int)) 2 = 0 := z
      simp only [tmB, z', if_false]
      have : d ≠ i := fun q => z (q ▸ e)
      exact tmB_rd g t fc bk nm i d (by omega) e
theorem map_nodup {f : Nat → Nat} : ∀ {L : List Nat}, L.Nodup → (∀ x ∈ L, ∀ y ∈ L, f x = f y → x = y) → (L.map f).Nodup
  | [], _, _ => by simp
  | a :: L, h, hf => by
    rw [List.nodup_cons] at h
    rw [List.map_cons, List.nodup_cons]
    refine ⟨fun hm => ?_, map_nodup h.2 fun x hx y hy => hf x (by simp [hx]) y (by simp [hy])⟩
    obtain ⟨x, hx, e⟩ := List.mem_map.1 hm
    exact h.1 (hf x (by simp [hx]) a (by simp) e ▸ hx)
theorem filter_both (L : List Nat) (p : Nat → Bool) : (L.filter p).length + (L.filter fun a => ! p a).length = L.length := by
  induction L with
  | nil => rfl
  | cons x L ih =>
    simp only [List.filter_cons]
    cases p x <;> simp <;> omega
structure Tq (t f g l' : List Int) (n : Nat) (τ φ : Nat → Nat) : Prop where
  t1 : ∀ d : Nat, d < n → rd t (d : Int) = (τ d : Int) ∧ τ d < n
  f1 : ∀ d : Nat, d < n → rd f (d : Int) = (φ d : Int) ∧ φ d < n
  ti : ∀ d e, d < n → e < n → τ d = τ e → d = e
  ff : ∀ d, d < n → φ (φ d) = d
  et : ∀ d, d < n → (evn g (τ d) ↔ evn g d)
  ef : ∀ d, d < n → (evn g (φ d) ↔ ¬ evn g d)
  four : ∀ d, d < n → τ (φ (τ (φ (τ (φ (τ (φ d))))))) = d
  two : ∀ d, d < n → τ (φ (τ (φ d))) ≠ d
section
variable {t f g l' : List Int} {n : Nat} {τ φ : Nat → Nat} (Q : Tq t f g l' n τ φ)
include Q
theorem Tq.half : 2 * nmE g n = n := by
  have e0 := evl_len g n
  have nd : ((List.range n).filter fun d => decide (evn g d)).Nodup := List.nodup_range.filter _
  have nu : ((List.range n).filter fun d => ! decide (evn g d)).Nodup := List.nodup_range.filter _
  have m1 : ∀ x, x ∈ (List.range n).filter (fun d => decide (evn g d)) ↔ x < n ∧ evn g x := fun x => by rw [List.mem_filter, List.mem_range, decide_eq_true_eq]
  have m2 : ∀ x, x ∈ (List.range n).filter (fun d => ! decide (evn g d)) ↔ x < n ∧ ¬ evn g x := fun x => by
    rw [List.mem_filter, List.mem_range, Bool.not_eq_true', decide_eq_false_iff_not]
  have i1 := len_le_of_sub (((List.range n).filter fun d => decide (evn g d)).map φ) _ (map_nodup nd fun x hx y hy e => by
      rw [← Q.ff x ((m1 x).1 hx).1, e, Q.ff y ((m1 y).1 hy).1]) fun x hx => by
    obtain ⟨y, hy, rfl⟩ := List.mem_map.1 hx
    obtain ⟨h1, h2⟩ := (m1 y).1 hy
    exact (m2 _).2 ⟨(Q.f1 y h1).2, fun z => (Q.ef y h1).1 z h2⟩
  have i2 := len_le_of_sub (((List.range n).filter fun d => ! decide (evn g d)).map φ) _ (map_nodup nu fun x hx y hy e => by
      rw [← Q.ff x ((m2 x).1 hx).1, e, Q.ff y ((m2 y).1 hy).1]) fun x hx => by
    obtain ⟨y, hy, rfl⟩ := List.mem_map.1 hx
    obtain ⟨h1, h2⟩ := (m2 y).1 hy
    exact (m1 _).2 ⟨(Q.f1 y h1).2, (Q.ef y h1).2 h2⟩
  rw [List.length_map] at i1 i2
  have := filter_both (List.range n) fun d => decide (evn g d)
  rw [List.length_range] at this
  omega
variable (H : MapK t f n) (hl : ∀ z : Nat, z < n → rd l' (z : Int) = ((nmE g z : Nat) : Int))
include H hl
theorem Tq.vals {d : Nat} (hd : d < n) (e : evn g d) : rd (tmA g t l' n) ((nmE g d : Nat) : Int) = ((nmE g (τ d) : Nat) : Int) ∧ rd (tmB g t (mulL f t n) (backL t n n) l' n) ((nmE g d : Nat) : Int) = ((nmE g (φ (τ (φ (τ d)))) : Nat) : Int) := by
  obtain ⟨hn, h1, ht, hti, hf, hfl, hcon⟩ := id H
  have a1 := (Q.t1 d hd).2
  have a2 := (Q.f1 _ a1).2
  have a3 := (Q.t1 _ a2).2
  have a4 := (Q.f1 _ a3).2
  have a5 := (Q.t1 _ a4).2
  refine ⟨by rw [tmA_rd g t l' n d hd e, (Q.t1 d hd).1, hl _ a1], ?_⟩
  rw [tmB_rd g t _ _ l' n d hd e]
  unfold tmF
  rw [(Q.t1 d hd).1, mulL_rd f t n _ a1, (Q.f1 _ a1).1, (Q.t1 _ a2).1, mulL_rd f t n _ a3, (Q.f1 _ a3).1, backL_rd t n ht hti n (Nat.le_refl _) _ a4, hl _ a4]
theorem Tq.mapK : MapK (tmA g t l' n) (tmB g t (mulL f t n) (backL t n n) l' n) (nmE g n) := by
  obtain ⟨hn, h1, ht, hti, hf, hfl, hcon⟩ := id H
  have hh := Q.half
  have V := fun (d : Nat) (hd : d < n) (e : evn g d) => Q.vals H hl hd e
  have et4 : ∀ d, d < n → evn g d → φ (τ (φ (τ d))) < n ∧ evn g (φ (τ (φ (τ d)))) := fun d hd e => by
    have a1 := (Q.t1 d hd).2
    have a2 := (Q.f1 _ a1).2
    have a3 := (Q.t1 _ a2).2
    have a4 := (Q.f1 _ a3).2
    refine ⟨a4, (Q.ef _ a3).2 fun z => ?_⟩
    exact (Q.ef _ a1).1 ((Q.et _ a2).1 z) ((Q.et d hd).2 e)
  have four' : ∀ d, d < n → φ (τ (φ (τ (φ (τ (φ (τ d))))))) = d := fun d hd => by
    have a1 := (Q.t1 d hd).2
    have := Q.four _ a1
    have b1 := (Q.f1 _ a1).2
    have b2 := (Q.t1 _ b1).2
    have b3 := (Q.f1 _ b2).2
    have b4 := (Q.t1 _ b3).2
    have b5 := (Q.f1 _ b4).2
    have b6 := (Q.t1 _ b5).2
    have b7 := (Q.f1 _ b6).2
    exact Q.ti _ _ b7 hd this
  refine ⟨by omega, by omega, ⟨tmA_len g t l' n, fun i hi => ?_⟩, fun i j hi hj e => ?_, ⟨tmB_len g t _ _ l' n, fun i hi => ?_⟩, fun i hi => ?_, fun i j hi hj S hS => ?_⟩
  · obtain ⟨d, d1, d2, rfl⟩ := nmE_ev g n i hi
    have a1 := (Q.t1 d d1).2
    have := nmE_lt ((Q.et d d1).2 d2) a1
    rw [(V d d1 d2).1]
    omega
  · obtain ⟨d, d1, d2, rfl⟩ := nmE_ev g n i hi
    obtain ⟨c, c1, c2, rfl⟩ := nmE_ev g n j hj
    rw [(V d d1 d2).1, (V c c1 c2).1] at e
    have := nmE_inj ((Q.et d d1).2 d2) ((Q.et c c1).2 c2) (by omega)
    rw [Q.ti d c d1 c1 this]
  · obtain ⟨d, d1, d2, rfl⟩ := nmE_ev g n i hi
    obtain ⟨e1, e2⟩ := et4 d d1 d2
    have := nmE_lt e2 e1
    rw [(V d d1 d2).2]
    omega
  · obtain ⟨d, d1, d2, rfl⟩ := nmE_ev g n i hi
    obtain ⟨e1, e2⟩ := et4 d d1 d2
    refine ⟨?_, ?_⟩
    · rw [(V d d1 d2).2]
      intro z
      have z := nmE_inj e2 d2 (by omega)
      have a1 := (Q.t1 d d1).2
      have := Q.two _ a1
      rw [z] at this
      exact this rfl
    · rw [(V d d1 d2).2, (V _ e1 e2).2, four' d d1]
  · obtain ⟨d, d1, d2, rfl⟩ := nmE_ev g n i hi
    obtain ⟨c, c1, c2, rfl⟩ := nmE_ev g n j hj
    have sT : ∀ x, x < n → evn g x → (S (nmE g x) ↔ S (nmE g (τ x))) := fun x hx e => by
      have := hS _ (List.mem_cons_self ..) (nmE g x) (nmE_lt e hx)
      rwa [(V x hx e).1, Int.toNat_natCast] at this
    have sF : ∀ x, x < n → evn g x → (S (nmE g x) ↔ S (nmE g (φ (τ (φ (τ x)))))) := fun x hx e => by
      have := hS _ (List.mem_cons_of_mem _ (List.mem_singleton.2 rfl)) (nmE g x) (nmE_lt e hx)
      rwa [(V x hx e).2, Int.toNat_natCast] at this
    have key := hcon d c d1 c1 (fun x => (evn g x → S (nmE g x)) ∧ (¬ evn g x → S (nmE g (φ x)))) fun p hp k hk => by
      rcases List.mem_cons.1 hp with hp | hp
      · rw [hp, (Q.t1 k hk).1, Int.toNat_natCast]
        have a1 := (Q.t1 k hk).2
        have b1 := (Q.f1 k hk).2
        by_cases e : evn g k
        · have e' := (Q.et k hk).2 e
          constructor
          · exact fun h => ⟨fun _ => (sT k hk e).1 (h.1 e), fun z => absurd e' z⟩
          · exact fun h => ⟨fun _ => (sT k hk e).2 (h.1 e'), fun z => absurd e z⟩
        · have e' : ¬ evn g (τ k) := fun z => e ((Q.et k hk).1 z)
          -- an odd dart: k = φ x, and the name of φ (τ (φ x))
          have ex : evn g (φ k) := (Q.ef k hk).2 e
          have ey : evn g (φ (τ k)) := (Q.ef _ a1).2 e'
          -- w = τ⁻¹ (φ k)
          obtain ⟨m, _, m2⟩ := itr_back t n ht hti (φ k : Nat) (by omega)
          have mi := itr_in t n ht m ((φ k : Nat) : Int) (by omega)
          rw [itr_add] at m2
          have m2 : rd t (itr t m ((φ k : Nat) : Int)) = ((φ k : Nat) : Int) := m2
          generalize hw : (itr t m ((φ k : Nat) : Int)).toNat = w
          have wn : w < n := by omega
          have ew : ((w : Nat) : Int) = itr t m ((φ k : Nat) : Int) := by omega
          rw [← ew, (Q.t1 w wn).1] at m2
          have tw : τ w = φ k := Int.ofNat.inj m2
          have ow : evn g w := (Q.et w wn).1 (tw ▸ ex)
          have s1 := sT w wn ow
          have s2 := sF w wn ow
          rw [tw, Q.ff k hk] at s2
          rw [tw] at s1
          constructor
          · exact fun h => ⟨fun z => absurd z e', fun _ => s2.1 (s1.2 (h.2 e))⟩
          · exact fun h => ⟨fun z => absurd z e, fun _ => s1.1 (s2.2 (h.2 e'))⟩
      · rw [List.mem_singleton.1 hp, (Q.f1 k hk).1, Int.toNat_natCast]
        by_cases e : evn g k
        · have e' : ¬ evn g (φ k) := fun z => (Q.ef k hk).1 z e
          constructor
          · exact fun h => ⟨fun z => absurd z e', fun _ => by rw [Q.ff k hk]; exact h.1 e⟩
          · exact fun h => ⟨fun _ => by have := h.2 e'; rwa [Q.ff k hk] at this, fun z => absurd e z⟩
        · have e' := (Q.ef k hk).2 e
          exact ⟨fun h => ⟨fun _ => h.2 e, fun z => absurd e' z⟩, fun h => ⟨fun z => absurd z e, fun _ => h.1 e'⟩⟩
    constructor
    · exact fun h => (key.1 ⟨fun _ => h, fun z => absurd d2 z⟩).1 c2
    · exact fun h => (key.2 ⟨fun _ => h, fun z => absurd c2 z⟩).1 d2
theorem Tq.iso : ∃ s, Iso n s (tqT (tmA g t l' n) (backL (mulL (tmB g t (mulL f t n) (backL t n n) l' n) (tmA g t l' n) (nmE g n)) (nmE g n) (nmE g n)) (nmE g n)) (tqF (nmE g n)) t f := by
  classical
  have K := Q.mapK H hl
  have hh := Q.half
  obtain ⟨hn, h1, ht, hti, hf, hfl, hcon⟩ := id H
  have QO := qOk_of _ _ _ K (by omega)
  obtain ⟨_, _, hb, b1, _⟩ := QO
  generalize hB : backL (mulL (tmB g t (mulL f t n) (backL t n n) l' n) (tmA g t l' n) (nmE g n)) (nmE g n) (nmE g n) = B at *
  have V := fun (d : Nat) (hd : d < n) (e : evn g d) => Q.vals H hl hd e
  -- the third list at the name of an even dart
  have W : ∀ d, d < n → evn g d → φ (τ (φ d)) < n ∧ evn g (φ (τ (φ d))) ∧ rd B ((nmE g d : Nat) : Int) = ((nmE g (φ (τ (φ d))) : Nat) : Int) := fun d hd e => by
    have a1 := (Q.f1 d hd).2
    have a2 := (Q.t1 _ a1).2
    have a3 := (Q.f1 _ a2).2
    have ex : evn g (φ (τ (φ d))) := (Q.ef _ a2).2 fun z => (Q.ef d hd).1 ((Q.et _ a1).1 z) e
    have c1 := (Q.t1 _ a3).2
    have c2 := (Q.f1 _ c1).2
    have c3 := (Q.t1 _ c2).2
    have c4 := (Q.f1 _ c3).2
    have e4 : evn g (φ (τ (φ (τ (φ (τ (φ d))))))) := (Q.ef _ c3).2 fun z => (Q.ef _ c1).1 ((Q.et _ c2).1 z) ((Q.et _ a3).2 ex)
    have := b1 (nmE g (φ (τ (φ d)))) (nmE_lt ex a3)
    rw [(V _ a3 ex).2, (V _ c4 e4).1, Q.four d hd] at this
    exact ⟨a3, ex, this⟩
  have ch : ∀ k, ∃ d, k < nmE g n → d < n ∧ evn g d ∧ nmE g d = k := fun k => by
    by_cases h : k < nmE g n
    · obtain ⟨d, d1⟩ := nmE_ev g n k h
      exact ⟨d, fun _ => d1⟩
    · exact ⟨0, fun z => absurd z h⟩
  obtain ⟨ev, hev⟩ : ∃ ev : Nat → Nat, ∀ k, k < nmE g n → ev k < n ∧ evn g (ev k) ∧ nmE g (ev k) = k := ⟨fun k => Classical.choose (ch k), fun k => Classical.choose_spec (ch k)⟩
  have back : ∀ d, d < n → evn g d → ev (nmE g d) = d := fun d hd e => by
    obtain ⟨q1, q2, q3⟩ := hev (nmE g d) (nmE_lt e hd)
    exact nmE_inj q2 e q3
  let s : Nat → Nat := fun x => if x % 2 = 0 then ev (x / 2) else φ (ev (x / 2))
  have se : ∀ k, s (2 * k) = ev k := fun k => by
    show (if (2 * k) % 2 = 0 then ev (2 * k / 2) else φ (ev (2 * k / 2))) = ev k
    rw [if_pos (by omega), show 2 * k / 2 = k by omega]
  have so : ∀ k, s (2 * k + 1) = φ (ev k) := fun k => by
    show (if (2 * k + 1) % 2 = 0 then ev ((2 * k + 1) / 2) else φ (ev ((2 * k + 1) / 2))) = φ (ev k)
    rw [if_neg (by omega), show (2 * k + 1) / 2 = k by omega]
  have hx : ∀ x, x < n → ∃ k, k < nmE g n ∧ (x = 2 * k ∨ x = 2 * k + 1) := fun x hx => ⟨x / 2, by omega, by omega⟩
  refine ⟨s, fun x hxn => ?_, fun x y hxn hyn e => ?_, fun x hxn => ?_, fun x hxn => ?_⟩
  · obtain ⟨k, hk, rfl | rfl⟩ := hx x hxn
    · rw [se]; exact (hev k hk).1
    · rw [so]; exact (Q.f1 _ (hev k hk).1).2
  · obtain ⟨k, hk, rfl | rfl⟩ := hx x hxn <;> obtain ⟨m, hm, rfl | rfl⟩ := hx y hyn
    · rw [se, se] at e
      have a1 := (hev k hk).2.2
      have a2 := (hev m hm).2.2
      rw [e] at a1
      omega
    · rw [se, so] at e
      have a1 := (hev k hk).2.1
      rw [e] at a1
      exact absurd (hev m hm).2.1 ((Q.ef _ (hev m hm).1).1 a1)
    · rw [se, so] at e
      have a1 := (hev m hm).2.1
      rw [← e] at a1
      exact absurd (hev k hk).2.1 ((Q.ef _ (hev k hk).1).1 a1)
    · rw [so, so] at e
      have e2 : ev k = ev m := by rw [← Q.ff _ (hev k hk).1, e, Q.ff _ (hev m hm).1]
      have a1 := (hev k hk).2.2
      have a2 := (hev m hm).2.2
      rw [e2] at a1
      omega
  · obtain ⟨k, hk, rfl | rfl⟩ := hx x hxn
    · obtain ⟨q1, q2, q3⟩ := hev k hk
      have v := (V _ q1 q2).1
      rw [q3] at v
      rw [(tqT_rd _ B _ k hk).1, v, se, (Q.t1 _ q1).1, show (2 * ((nmE g (τ (ev k)) : Nat) : Int)).toNat = 2 * nmE g (τ (ev k)) by omega, se, back _ (Q.t1 _ q1).2 ((Q.et _ q1).2 q2)]
    · obtain ⟨q1, q2, q3⟩ := hev k hk
      obtain ⟨w1, w2, w3⟩ := W _ q1 q2
      rw [q3] at w3
      have f1 := Q.f1 _ q1
      have t1 := Q.t1 _ f1.2
      rw [(tqT_rd _ B _ k hk).2, w3, so, t1.1, show (2 * ((nmE g (φ (τ (φ (ev k)))) : Nat) : Int) + 1).toNat = 2 * nmE g (φ (τ (φ (ev k)))) + 1 by omega, so, back _ w1 w2, Q.ff _ t1.2]
  · obtain ⟨k, hk, rfl | rfl⟩ := hx x hxn
    · obtain ⟨q1, q2, q3⟩ := hev k hk
      rw [(tqF_rd _ k hk).1, se, Int.toNat_natCast, so, (Q.f1 _ q1).1]
    · obtain ⟨q1, q2, q3⟩ := hev k hk
      rw [(tqF_rd _ k hk).2, so, Int.toNat_natCast, se, (Q.f1 _ (Q.f1 _ q1).2).1, Q.ff _ q1]
end
end Go.Proofs.Ytlpbalebodlipaa.PL

namespace Go.Proofs.Ytlpbalebodlipaa.PL
open Go.RowKit Go.Proofs.YtlpbalebodlipaaW.PrintWords Go.Proofs.YtlpbalebodlipaaW.PrintLast Go.Proofs.YtlpbalebodlipaaW.PrintMore
attribute [local go_sem] max2_int min2_int max_two min_two max_three min_three max_four min_four   -- for this text's walks alone
set_option linter.unusedVariables false
set_option linter.unusedSimpArgs false
def impl_MapCounts.T3 : Bool × List (List Nat × List Nat) := (true, [([], []), ([0], [0]), ([1], [1]), ([2], [2]), ([], []), ([4], [4]), ([5], [5]), ([6], [6]), ([], []), ([8], [8]), ([], []), ([10], [10]), ([9, 11, 2], [9, 11]), ([12, 12], [12]), ([13], [13]), ([3, 7, 14], [3, 7, 14]), ([15, 13, 0, 1, 2, 3, 4, 5, 6, 7, 8, 9, 10, 11, 12, 13, 14, 15], [15]), ([16, 0, 1, 2, 3, 4, 5, 6, 7, 8, 9, 10, 11, 12, 13, 14, 15, 16], [])])
def impl_MapCounts.B3 : List Nat := [0, 1, 3, 7, 0, 16, 48, 112, 0, 256, 0, 1024, 3847, 7943, 16135, 32767, 65535, 131071]
def IsS104 (w0 W : World) (g : Nat) (f0 : List Int) (f1 : Int) : Prop := ∃ A0 c0, W.heap[g]? = some (.cells #[.slice A0 f0.length c0, .int .i64 f1] 104 (0, 0)) ∧ w0.heap.size ≤ g ∧ Kd.C (Kd.int .u8) w0 A0 f0.length f0
theorem IsS104.grown {w0 W : World} {g : Nat} {f0 : List Int} {f1 : Int} {W1 : World} {row : Option Nat} (h : IsS104 w0 W g f0 f1) (hw : W.grownBy W1 row) (hne : some g ≠ row) : IsS104 w0 W1 g f0 f1 := by
 obtain ⟨A0, c0, hb, hg, hr0⟩ := h
 exact ⟨A0, c0, blk_grown hb hw hne, hg, hr0⟩
theorem IsS104.fresh {w0 W : World} {g : Nat} {f0 : List Int} {f1 : Int} (h : IsS104 w0 W g f0 f1) : ∀ k, W.heap.size ≤ k → k ≠ g := by
 obtain ⟨A0, c0, hb, hg, hr0⟩ := h
 exact Kd.freshB hb
theorem IsS104.kept {w0 W : World} {g : Nat} {f0 : List Int} {f1 : Int} {W1 : World} {S : Nat → Prop} (h : IsS104 w0 W g f0 f1) (hk : Kept W W1 S) (hne : ¬ S g) : IsS104 w0 W1 g f0 f1 := by
 obtain ⟨A0, c0, hb, hg, hr0⟩ := h
 exact ⟨A0, c0, blk_kept hb hk hne, hg, hr0⟩
theorem IsS104.below {w0 W : World} {g : Nat} {f0 : List Int} {f1 : Int} {W1 : World} (h : IsS104 w0 W g f0 f1) (hw : Below W.heap.size W W1) : IsS104 w0 W1 g f0 f1 := h.grown (grown_of_below hw none) (by simp)
theorem IsS104.alloc {w0 W : World} {g : Nat} {f0 : List Int} {f1 : Int} (h : IsS104 w0 W g f0 f1) (o : Obj) : IsS104 w0 (W.alloc o) g f0 f1 := h.below (below_alloc (Below.refl _ _) o)
theorem IsS104.drewN {w0 W : World} {g : Nat} {f0 : List Int} {f1 : Int} (h : IsS104 w0 W g f0 f1) (m : Nat) : IsS104 w0 (W.drewN m) g f0 f1 := h
theorem IsS104.drew {w0 W : World} {g : Nat} {f0 : List Int} {f1 : Int} (h : IsS104 w0 W g f0 f1) : IsS104 w0 W.drew g f0 f1 := h
theorem IsS104.at_ {w0 W : World} {g : Nat} {f0 : List Int} {f1 : Int} {w' : World} {m : Nat} (hq : W.drewN m = w') (h : IsS104 w0 W g f0 f1) : IsS104 w0 w' g f0 f1 := by subst hq; exact IsS104.drewN h m
theorem IsS104.apart {w0 W : World} {g : Nat} {f0 : List Int} {f1 : Int} {α : Type} {d : Kd α} {e : Nat} {base : Nat} {ok : Nat → Prop} {v : Value} {xs : List α} (h : IsS104 w0 W g f0 f1) (ho : d.R e W base ok v xs) (ht : ∀ q, q ∈ e :: d.E → q ≠ 104) : d.R e W base (fun k => ok k ∧ k ≠ g) v xs := by
 obtain ⟨A0, c0, hb, hg, hr0⟩ := h
 exact Kd.R_types ho hb ht
theorem IsS104.own_ne {w0 W : World} {g : Nat} {f0 : List Int} {f1 : Int} {α : Type} {d : Kd α} {e : Nat} {base : Nat} {ok : Nat → Prop} {v : Value} {xs : List α} (h : IsS104 w0 W g f0 f1) (ho : d.R e W base ok v xs) (ht : e ≠ 104) : some g ≠ v.ownBlock := by
 obtain ⟨A0, c0, hb, hg, hr0⟩ := h
 exact Kd.R_ne ho hb ht
theorem IsS104.lt {w0 W : World} {g : Nat} {f0 : List Int} {f1 : Int} (h : IsS104 w0 W g f0 f1) : g < W.heap.size := by
 obtain ⟨A0, c0, hb, hg, hr0⟩ := h
 exact blk_lt hb
def spec_l6qWalk.T14 : Bool × List (List Nat × List Nat) := (true, [([], []), ([], []), ([], []), ([2], [2]), ([3], [3]), ([1, 4], [1, 4]), ([5], [5]), ([], []), ([7], [7]), ([], []), ([8, 9], [8, 9]), ([10], [10]), ([6, 11], [6, 11]), ([12], [12]), ([0, 13], [0, 13]), ([14, 14, 0, 1, 2, 3, 4, 5, 6, 7, 8, 9, 10, 11, 12, 13, 14], [0, 1, 2, 14])])
def spec_l6qWalk.B14 : List Nat := [0, 0, 0, 4, 12, 30, 62, 0, 128, 0, 896, 1920, 4094, 8190, 16383, 32767]
def spec_l92Tree.T13 : Bool × List (List Nat × List Nat) := (true, [([], []), ([0], [0]), ([], []), ([], []), ([2, 3], [2, 3]), ([1, 4], [1, 4]), ([0, 1, 2, 3, 4, 5], []), ([6, 5, 4, 0, 1, 2, 3, 4, 5], [5, 6])])
def spec_l92Tree.B13 : List Nat := [0, 1, 0, 0, 12, 31, 63, 127]
def spec_l91Map.T18 : Bool × List (List Nat × List Nat) := (true, [([], []), ([0], [0]), ([], []), ([2], [2]), ([], []), ([3, 4], [3, 4]), ([5], [5]), ([1, 0, 1, 2, 3, 4, 5, 6], [1]), ([7, 6, 0, 1, 2, 3, 4, 5, 6], [6, 7])])
def spec_l91Map.B18 : List Nat := [0, 1, 0, 4, 0, 28, 60, 127, 255]
def spec_DrawTutteMap.T3 : Bool × List (List Nat × List Nat) := (true, [([], []), ([], []), ([], []), ([2], [2]), ([3], [3]), ([1, 4], [1, 4]), ([0, 5, 0], [0]), ([5, 6, 0, 1, 2, 3, 4, 5, 6], [5])])
def spec_DrawTutteMap.B3 : List Nat := [0, 0, 0, 4, 12, 30, 63, 127]
end Go.Proofs.Ytlpbalebodlipaa.PL

set_option linter.unusedVariables false
set_option linter.unusedSimpArgs false
namespace Go.Proofs.Ytlpbalebodlipaa.PL
open Go.RowKit Go.Proofs.YtlpbalebodlipaaW.PrintWords Go.Proofs.YtlpbalebodlipaaW.PrintLast Go.Proofs.YtlpbalebodlipaaW.PrintMore
def faces (t f : List Int) (n : Nat) : List Int := (List.range n).map fun (d : Nat) => rd t (rd f (d : Int))
theorem face_count (t f : List Int) (n : Nat) (H : MapK t f n) (h4 : ∀ l ∈ (cyS (mulL f t n) n n).2, l.length = 4) : 4 * (cyS (mulL f t n) n n).2.length = n := by
  obtain ⟨hn, h1, ht, hti, hf, hfl, hcon⟩ := id H
  have pin := mulL_inR n f t hf ht
  have inj : injR n (mulL f t n) := fun i j hi hj e => by
    rw [mulL_rd f t n i hi, mulL_rd f t n j hj] at e
    have ri := hf.2 i hi
    have rj := hf.2 j hj
    have e2 : (rd f (i : Int)).toNat = (rd f (j : Int)).toNat := hti _ _ (by omega) (by omega) (by rw [show (((rd f (i : Int)).toNat : Nat) : Int) = rd f (i : Int) by omega, show (((rd f (j : Int)).toNat : Nat) : Int) = rd f (j : Int) by omega]; exact e)
    have e3 : rd f (i : Int) = rd f (j : Int) := by omega
    have f1 := (hfl i hi).2
    have f2 := (hfl j hj).2
    rw [e3, f2] at f1
    omega
  obtain ⟨_, hp⟩ := four_path _ n pin inj h4
  exact (four_cycles _ n pin inj (fun x hx => (hp x hx).1) (fun x hx => (hp x hx).2.2.1)).2
theorem sg_rd {n : Nat} {t f : List Int} (ht : inR n t) (hf : inR n f) (d : Nat) (h : d < n) : rd (cmpL t f n) (d : Int) = (nf t (nf f d) : Int) := by
  rw [cmpL_rd t f n d h, (nf_rd hf h).1, (nf_rd ht (nf_rd hf h).2).1]
theorem faces_face (t f : List Int) (n : Nat) (H : MapK t f n) (h4 : ∀ l ∈ (cyS (mulL f t n) n n).2, l.length = 4) : ∀ l ∈ (cyS (mulL f t n) n n).2, isFace n t f l := by
  obtain ⟨hn, h1, ht, hti, hf, hfl, hcon⟩ := id H
  have ep := mulL_cmp t f n ht hf
  have pIn := cmpL_inR t f n ht hf
  have pInj := cmpL_inj t f n ht hti hf (flip_injB f n hfl)
  rw [ep] at h4 ⊢
  obtain ⟨hp, hx⟩ := four_path _ n pIn pInj h4
  intro l hl
  obtain ⟨a, a1, e⟩ := hp l hl
  have sg := sg_rd ht hf
  have sgn : ∀ d : Nat, d < n → nf t (nf f d) < n := fun d hd => (nf_rd ht (nf_rd hf hd).2).2
  have b1 := sgn a a1
  have c1 := sgn _ b1
  have d1 := sgn _ c1
  obtain ⟨p1, p2, p3, p4⟩ := hx a a1
  obtain ⟨q1, q2, q3, q4⟩ := hx _ b1
  obtain ⟨r1, r2, r3, r4⟩ := hx _ c1
  rw [sg a a1, sg _ b1, sg _ c1] at e p1 p4
  rw [sg _ d1] at p1
  rw [sg a a1] at p2
  rw [sg a a1, sg _ b1] at p3
  rw [sg _ b1] at q2
  rw [sg _ b1, sg _ c1] at q3
  rw [sg _ c1] at r2
  refine ⟨a, _, _, _, e, a1, rfl, rfl, rfl, ?_, ?_, ?_, ?_, ?_, ?_, ?_⟩ <;> omega
theorem mates_ok (t f : List Int) (n : Nat) (H : MapK t f n) (h4 : ∀ l ∈ (cyS (mulL f t n) n n).2, l.length = 4) (hE : 2 * (cyS t n n).2.length + 2 * (cyS (mulL f t n) n n).2.length = 4 + n)
    (a : Nat) (ha : a < n) (g : List Int) (hg : FarOk t f n a g) : QTok t f g (mts g (cyS (mulL f t n) n n).2 (List.replicate n (-1))) n := by
  have Q := qd_of t f n H h4 hE a ha g hg
  obtain ⟨hn, h1, ht, hti, hf, hfl, hcon⟩ := id H
  have G : ∀ d : Nat, d < n → rd g (d : Int) = (nf g d : Int) ∧ nf g d < n := fun d hd => by
    have := hg.rng d hd
    unfold nf
    omega
  have ep := mulL_cmp t f n ht hf
  have pIn := cmpL_inR t f n ht hf
  have pInj := cmpL_inj t f n ht hti hf (flip_injB f n hfl)
  refine ⟨hn, Q, ht, hf, hg.len, G, by rw [mts_len, List.length_replicate], fun y hy => ?_⟩
  refine (mts_vals Q (fun d hd => (G d hd).1) _ _ (by rw [List.length_replicate]) (faces_face t f n H h4) (by rw [ep]; exact cyS_apart _ n pIn pInj) (fun y hy => ?_) y).1 (by rw [ep]; exact cyS_cover _ n pIn pInj y hy)
  obtain ⟨l, hl, hy⟩ := hy
  obtain ⟨x0, x1, x2, x3, e, h0, e1, e2, e3, e4, _⟩ := faces_face t f n H h4 l hl
  have y1 : y < n := by
    have h1 : x1 < n := e1 ▸ Q.tr _ (Q.fr _ h0)
    have h2 : x2 < n := e2 ▸ Q.tr _ (Q.fr _ h1)
    have h3 : x3 < n := e3 ▸ Q.tr _ (Q.fr _ h2)
    rw [e] at hy
    simp only [List.mem_cons, List.not_mem_nil, or_false] at hy
    omega
  exact rd_rep n (-1) y y1
section
variable {t f g : List Int} {n : Nat} (Q : Qd n (nf t) (nf f) (nf g)) (hgl : ∀ d : Nat, d < n → rd g (d : Int) = (nf g d : Int)) (hn : n ≤ 12) (hg : g.length = n) (C : List (List Int)) (hC : ∀ l ∈ C, isFace n t f l) (hc : C.length ≤ 1000)
include Q hgl hn hg hC hc
omit hn hg hc in
theorem face_at (i : Nat) (hi : i < C.length) : ∃ x0 x1 x2 x3 : Int, rd_L1 C (i : Int) = [x0, x1, x2, x3] ∧ C.drop i = [x0, x1, x2, x3] :: C.drop (i + 1) ∧ (0 ≤ x0 ∧ x0 < n) ∧ (0 ≤ x1 ∧ x1 < n) ∧ (0 ≤ x2 ∧ x2 < n) ∧ (0 ≤ x3 ∧ x3 < n) ∧
    (rd g x1 = rd g x0 + 1 ∨ rd g x1 + 1 = rd g x0) ∧ (rd g x2 = rd g x1 + 1 ∨ rd g x2 + 1 = rd g x1) ∧ (rd g x3 = rd g x2 + 1 ∨ rd g x3 + 1 = rd g x2) ∧ (rd g x0 = rd g x3 + 1 ∨ rd g x0 + 1 = rd g x3) := by
  obtain ⟨x0, x1, x2, x3, e, h0, e1, e2, e3, e4, _⟩ := hC C[i] (List.getElem_mem hi)
  have h1 : x1 < n := e1 ▸ Q.tr _ (Q.fr _ h0)
  have h2 : x2 < n := e2 ▸ Q.tr _ (Q.fr _ h1)
  have h3 : x3 < n := e3 ▸ Q.tr _ (Q.fr _ h2)
  have f0 : nf g (nf f x0) = nf g x1 := by rw [← e1, Q.lt _ (Q.fr _ h0)]
  have f1 : nf g (nf f x1) = nf g x2 := by rw [← e2, Q.lt _ (Q.fr _ h1)]
  have f2 : nf g (nf f x2) = nf g x3 := by rw [← e3, Q.lt _ (Q.fr _ h2)]
  have f3 : nf g (nf f x3) = nf g x0 := by rw [← e4, Q.lt _ (Q.fr _ h3)]
  have s0 := Q.st x0 h0
  have s1 := Q.st x1 h1
  have s2 := Q.st x2 h2
  have s3 := Q.st x3 h3
  have g0 := hgl x0 h0
  have g1 := hgl x1 h1
  have g2 := hgl x2 h2
  have g3 := hgl x3 h3
  refine ⟨x0, x1, x2, x3, ?_, ?_, by omega, by omega, by omega, by omega, by omega, by omega, by omega, by omega⟩
  · rw [rdL_nth _ i hi, e]
  · rw [List.drop_eq_getElem_cons hi, e]
omit hn in
theorem implFaces (a : Int) (r : ByteArray × List Int × Bool) : ∀ (d i : Nat) (m : List Int), C.length - i = d → i ≤ C.length → m.length = n →
    Ev (fun k => impl_QuadTree.l1 k a g (mts g (C.drop i) m) C C (C.length : Int) (C.length : Int) t f) r → Ev (fun k => impl_QuadTree.l1 k a g m C C (C.length : Int) (i : Int) t f) r
  | d, i, m, e, hi, hm, hr => by
    by_cases hlt : i < C.length
    · cases d with
      | zero => omega
      | succ d =>
        obtain ⟨x0, x1, x2, x3, e1, e2, y0, y1, y2, y3, s1, s2, s3, s4⟩ := face_at Q hgl C hC i hlt
        refine implFace a t f g m C n i hlt hc x0 x1 x2 x3 e1 hg hm y0.1 y0.2 y1.1 y1.2 y2.1 y2.2 y3.1 y3.2 s1 s2 s3 s4 r ?_
        refine implFaces a r d (i + 1) _ (by omega) (by omega) (by rw [upd_len, hm]) ?_
        rw [e2] at hr
        exact hr
    · have e2 : i = C.length := by omega
      subst e2
      rw [List.drop_length] at hr
      exact hr
omit hn in
theorem specFaces (r : List Int) : ∀ (d i : Nat) (m : List Int), C.length - i = d → i ≤ C.length → m.length = n →
    Ev (fun k => spec_l6qChosen.l1 k g (mts g (C.drop i) m) C (C.length : Int)) r → Ev (fun k => spec_l6qChosen.l1 k g m C (i : Int)) r
  | d, i, m, e, hi, hm, hr => by
    by_cases hlt : i < C.length
    · cases d with
      | zero => omega
      | succ d =>
        obtain ⟨x0, x1, x2, x3, e1, e2, y0, y1, y2, y3, s1, s2, s3, s4⟩ := face_at Q hgl C hC i hlt
        refine specFace g m C n i hlt hc x0 x1 x2 x3 e1 hg hm y0.1 y0.2 y1.1 y1.2 y2.1 y2.2 y3.1 y3.2 s1 s2 s3 s4 r ?_
        refine specFaces r d (i + 1) _ (by omega) (by omega) (by rw [upd_len, hm]) ?_
        rw [e2] at hr
        exact hr
    · have e2 : i = C.length := by omega
      subst e2
      rw [List.drop_length] at hr
      exact hr
end
theorem implInit (t f g : List Int) (n : Nat) (hn : n ≤ 12) (a : Int) (C : List (List Int)) (hmul : Ev (fun k => impl_mul.f k f t) (mulL f t n)) (hcy : Ev (fun k => impl_cyclesOf.f k (mulL f t n)) C) (r : ByteArray × List Int × Bool)
    (hr : Ev (fun k => impl_QuadTree.l1 k a g (List.replicate n (-1)) C C (C.length : Int) 0 t f) r) : ∀ (d i : Nat) (m : List Int), n - i = d → i ≤ n → m.length = n → (∀ z : Nat, z < i → rd m z = -1) →
    Ev (fun k => impl_QuadTree.l0 k a g m (n : Int) (i : Int) t f) r
  | d, i, m, e, hi, hm, hz => by
    by_cases hlt : i < n
    · cases d with
      | zero => omega
      | succ d =>
        refine Ev.s ?_
        simp only [impl_QuadTree.l0, hm, show (i : Int) < (n : Int) by omega, show (0 : Int) ≤ (i : Int) by omega, if_true, Int.toNat_natCast, w64n (show i < 4611686018427387904 by omega)]
        exact implInit t f g n hn a C hmul hcy r hr d (i + 1) (m.set i (-1)) (by omega) (by omega) (by simp [hm]) (fun z hz' => by
          rw [rd_put _ _ _ _ (by omega)]
          split
          · rfl
          · exact hz z (by omega))
    · have e2 : i = n := by omega
      subst e2
      have em : m = List.replicate i (-1) := list_ext _ _ (by simp [hm]) fun z hz' => by rw [hz z (by omega), rd_rep i (-1) z (by omega)]
      subst em
      refine Ev.s ?_
      simp only [impl_QuadTree.l0, show ¬ (i : Int) < (i : Int) by omega, if_false]
      exact Ev.bind hmul (Ev.bind hcy hr)
theorem implTree_ev (t f : List Int) (n : Nat) (htn : t.length = n) (H : MapK t f n) (h4 : ∀ l ∈ (cyS (mulL f t n) n n).2, l.length = 4) (hE : 2 * (cyS t n n).2.length + 2 * (cyS (mulL f t n) n n).2.length = 4 + n)
    (hQ : Ev (fun k => impl_QuadIs.f k t f) true) (root point : Nat) (hr : root < n) (hp : point < n) (g : List Int) (hg : FarOk t f n point g) (hfar : Ev (fun k => impl_distancesFrom.f k t f (point : Int)) g) :
    Ev (fun k => impl_QuadTree.f k t f (root : Int) (point : Int)) (if nf g (nf f root) + 1 = nf g root then (wrd t f g root (n / 2), stp t f g root (n / 2), true) else ((⟨#[]⟩ : ByteArray), ([] : List Int), false)) := by
  have K := mates_ok t f n H h4 hE point hp g hg
  have fc := face_count t f n H h4
  have ff := faces_face t f n H h4
  obtain ⟨hn, h1, ht, hti, hf, hfl, hcon⟩ := id H
  have hmul := (facesF_ev t f n (by omega) ht hf).2
  have pIn := mulL_inR n f t hf ht
  have hcy := implCyc_ev (mulL f t n) n (by omega) pIn
  have hfn : f.length = n := hf.1
  obtain ⟨F1, F2⟩ := nf_rd hf hr
  obtain ⟨g1, g2⟩ := K.gr root hr
  obtain ⟨g3, g4⟩ := K.gr _ F2
  unfold impl_QuadTree.f
  refine Ev.bind hQ ?_
  simp only [if_true, htn, show ¬ (root : Int) < 0 by omega, show ¬ (root : Int) ≥ (n : Int) by omega, show ¬ (point : Int) < 0 by omega, show ¬ (point : Int) ≥ (n : Int) by omega, if_false, decide_false]
  refine Ev.s ?_
  simp only [impl_QuadTree.j0, Bool.false_eq_true, if_false]
  refine Ev.bind hfar ?_
  simp only [K.gl, hfn, F1, g1, g3, show (0 : Int) ≤ (root : Int) by omega, show (root : Int) < (n : Int) by omega, show (0 : Int) ≤ (nf f root : Int) by omega, show (nf f root : Int) < (n : Int) by omega, w64n (show nf g (nf f root) < 4611686018427387904 by omega), if_true, Option.bind_some, Int.toNat_natCast, show (0 : Int) ≤ (n : Int) by omega, show n ≤ 35184372088832 by omega, List.length_replicate]
  by_cases hd : nf g (nf f root) + 1 = nf g root
  · rw [if_pos hd]
    simp only [show (nf g root : Int) = ((nf g (nf f root) + 1 : Nat) : Int) by omega, if_true]
    refine implInit t f g n hn root _ hmul hcy _ ?_ n 0 _ (by omega) (by omega) (by simp) (fun z hz => absurd hz (by omega))
    refine implFaces K.Q (fun d hd => (K.gr d hd).1) K.gl _ ff (by omega) root _ _ 0 _ rfl (by omega) (by simp) ?_
    rw [List.drop_zero]
    refine Ev.s ?_
    have := implWalk K root ⟨hr, hd⟩ (n / 2) 0 (List.replicate n false) root (by omega) (by omega) (by simp) (fun y hy => by
      rw [bl_rep]
      constructor
      · intro h; cases h
      · rintro ⟨j, h, _⟩; omega) hr (FN.here hd)
    simp only [impl_QuadTree.l1, show ¬ (((cyS (mulL f t n) n n).2.length : Nat) : Int) < (((cyS (mulL f t n) n n).2.length : Nat) : Int) by omega, if_false, K.gl, show (0 : Int) ≤ (n : Int) by omega, if_true, Int.toNat_natCast, show n ≤ 281474976710656 by omega, w64 (x := ((n / 2 : Nat) : Int)) (by omega) (by omega), show 2 * (((cyS (mulL f t n) n n).2.length : Nat) : Int) = ((n / 2 : Nat) : Int) by omega]
    exact this
  · rw [if_neg hd]
    simp only [show ¬ (nf g root : Int) = ((nf g (nf f root) + 1 : Nat) : Int) by omega, if_false]
    exact Ev.const rfl
theorem specInit (t f g : List Int) (n : Nat) (hn : n ≤ 12) (htn : t.length = n) (C : List (List Int)) (hmul : Ev (fun k => spec_l2Faces.f k t f) (mulL f t n)) (hcy : Ev (fun k => spec_l1Cycles.f k (mulL f t n)) C) (r : List Int)
    (hr : Ev (fun k => spec_l6qChosen.l1 k g (List.replicate n (-1)) C 0) r) : ∀ (d i : Nat), n - i = d → i ≤ n → Ev (fun k => spec_l6qChosen.l0 k g (List.replicate i (-1)) (i : Int) t f) r
  | d, i, e, hi => by
    by_cases hlt : i < n
    · cases d with
      | zero => omega
      | succ d =>
        refine Ev.s ?_
        simp only [spec_l6qChosen.l0, htn, show (i : Int) < (n : Int) by omega, if_true, List.length_replicate, show i < 17592186044416 by omega, w64n (show i < 4611686018427387904 by omega)]
        have := specInit t f g n hn htn C hmul hcy r hr d (i + 1) (by omega) (by omega)
        rw [List.replicate_succ'] at this
        exact this
    · have e2 : i = n := by omega
      subst e2
      refine Ev.s ?_
      simp only [spec_l6qChosen.l0, htn, show ¬ (i : Int) < (i : Int) by omega, if_false]
      exact Ev.bind hmul (Ev.bind hcy hr)
theorem l2Dart_ev (t f : List Int) (n : Nat) (htn : t.length = n) (hn : n ≤ 12) (hV : Ev (fun k => spec_MapValid.f k t f) true) (a : Int) : Ev (fun k => spec_l2Dart.f k t f a) (decide (0 ≤ a ∧ a < n)) := by
  unfold spec_l2Dart.f
  refine Ev.bind hV ?_
  simp only [if_true, htn, w64 (x := (n : Int) - 1) (by omega) (by omega), l6In_eq, Option.bind_some]
  exact Ev.const (congrArg some (decide_eq_decide.2 ⟨fun h => by omega, fun h => by omega⟩))
theorem specTree_ev (t f : List Int) (n : Nat) (htn : t.length = n) (H : MapK t f n) (h4 : ∀ l ∈ (cyS (mulL f t n) n n).2, l.length = 4) (hE : 2 * (cyS t n n).2.length + 2 * (cyS (mulL f t n) n n).2.length = 4 + n)
    (hQ : Ev (fun k => spec_QuadIs.f k t f) true) (hV : Ev (fun k => spec_MapValid.f k t f) true) (root point : Nat) (hr : root < n) (hp : point < n) (g : List Int) (hg : FarOk t f n point g) (hfar : Ev (fun k => spec_l2Fars.f k t f (point : Int)) g) :
    Ev (fun k => spec_QuadTree.f k t f (root : Int) (point : Int)) (if nf g (nf f root) + 1 = nf g root then (wrd t f g root (n / 2), stp t f g root (n / 2), true) else ((⟨#[]⟩ : ByteArray), ([] : List Int), false)) := by
  have K := mates_ok t f n H h4 hE point hp g hg
  have fc := face_count t f n H h4
  have ff := faces_face t f n H h4
  obtain ⟨hn, h1, ht, hti, hf, hfl, hcon⟩ := id H
  have hmul := (facesF_ev t f n (by omega) ht hf).1
  have pIn := mulL_inR n f t hf ht
  have hcy := specCyc_ev (mulL f t n) n (by omega) pIn
  have hfn : f.length = n := hf.1
  obtain ⟨F1, F2⟩ := nf_rd hf hr
  obtain ⟨g1, g2⟩ := K.gr root hr
  obtain ⟨g3, g4⟩ := K.gr _ F2
  have d1 := l2Dart_ev t f n htn hn hV (root : Int)
  have d2 := l2Dart_ev t f n htn hn hV (point : Int)
  rw [decide_eq_true (by omega)] at d1 d2
  unfold spec_QuadTree.f
  refine Ev.bind hQ ?_
  simp only [if_true]
  refine Ev.bind d1 ?_
  simp only [if_true]
  refine Ev.bind d2 ?_
  refine Ev.s ?_
  simp only [spec_QuadTree.j0, Bool.not_true, Bool.false_eq_true, if_false]
  refine Ev.bind hfar ?_
  simp only [K.gl, hfn, F1, g1, g3, show (0 : Int) ≤ (root : Int) by omega, show (root : Int) < (n : Int) by omega, show (0 : Int) ≤ (nf f root : Int) by omega, show (nf f root : Int) < (n : Int) by omega, w64n (show nf g (nf f root) < 4611686018427387904 by omega), if_true]
  by_cases hd : nf g (nf f root) + 1 = nf g root
  · rw [if_pos hd]
    simp only [show (nf g root : Int) = ((nf g (nf f root) + 1 : Nat) : Int) by omega, if_true]
    have hch : Ev (fun k => spec_l6qChosen.f k t f g) (mts g (cyS (mulL f t n) n n).2 (List.replicate n (-1))) := by
      unfold spec_l6qChosen.f
      refine specInit t f g n hn htn _ hmul hcy _ ?_ n 0 (by omega) (by omega)
      refine specFaces K.Q (fun d hd => (K.gr d hd).1) K.gl _ ff (by omega) _ _ 0 _ rfl (by omega) (by simp) ?_
      rw [List.drop_zero]
      refine Ev.s ?_
      simp only [spec_l6qChosen.l1, show ¬ (((cyS (mulL f t n) n n).2.length : Nat) : Int) < (((cyS (mulL f t n) n n).2.length : Nat) : Int) by omega, if_false]
      exact Ev.const rfl
    refine Ev.bind hch ?_
    have := specWalk K root ⟨hr, hd⟩ (n / 2) 0 (List.replicate n false) root (by omega) (by omega) (by simp) (fun y hy => by
      rw [bl_rep]
      constructor
      · intro h; cases h
      · rintro ⟨j, h, _⟩; omega) hr (FN.here hd)
    simp only [K.ml, show (0 : Int) ≤ (n : Int) by omega, if_true, Int.toNat_natCast, show n ≤ 281474976710656 by omega]
    exact this
  · rw [if_neg hd]
    simp only [show ¬ (nf g root : Int) = ((nf g (nf f root) + 1 : Nat) : Int) by omega, if_false]
    exact Ev.const rfl
theorem quadTree_both (t f : List Int) (ht : t.length ≤ 1048576) (hf : f.length ≤ 1048576) (root point : Int) : ∃ (s : ByteArray) (l : List Int) (b : Bool), Ev (fun k => spec_QuadTree.f k t f root point) (s, l, b) ∧ Ev (fun k => impl_QuadTree.f k t f root point) (s, l, b) ∧ s.size ≤ 1048576 ∧ l.length ≤ 1048576 ∧
    (b = true → ∃ r p : Nat, root = (r : Int) ∧ point = (p : Int) ∧ r < t.length ∧ p < t.length ∧ isMap t f ∧ MapK t f t.length ∧ (∀ l ∈ (cyS (mulL f t t.length) t.length t.length).2, l.length = 4) ∧ 2 * (cyS t t.length t.length).2.length + 2 * (cyS (mulL f t t.length) t.length t.length).2.length = 4 + t.length ∧
      ∃ g, FarOk t f t.length p g ∧ nf g (nf f r) + 1 = nf g r ∧ s = wrd t f g r (t.length / 2) ∧ l = stp t f g r (t.length / 2)) := by
  have none1 : ∀ (P : Prop), Ev (fun k => spec_QuadTree.f k t f root point) ((⟨#[]⟩ : ByteArray), ([] : List Int), false) → Ev (fun k => impl_QuadTree.f k t f root point) ((⟨#[]⟩ : ByteArray), ([] : List Int), false) →
      ∃ (s : ByteArray) (l : List Int) (b : Bool), Ev (fun k => spec_QuadTree.f k t f root point) (s, l, b) ∧ Ev (fun k => impl_QuadTree.f k t f root point) (s, l, b) ∧ s.size ≤ 1048576 ∧ l.length ≤ 1048576 ∧ (b = true → ∃ r p : Nat, root = (r : Int) ∧ point = (p : Int) ∧ r < t.length ∧ p < t.length ∧ isMap t f ∧ MapK t f t.length ∧ (∀ l ∈ (cyS (mulL f t t.length) t.length t.length).2, l.length = 4) ∧ 2 * (cyS t t.length t.length).2.length + 2 * (cyS (mulL f t t.length) t.length t.length).2.length = 4 + t.length ∧
      ∃ g, FarOk t f t.length p g ∧ nf g (nf f r) + 1 = nf g r ∧ s = wrd t f g r (t.length / 2) ∧ l = stp t f g r (t.length / 2)) := fun _ e1 e2 =>
    ⟨_, _, false, e1, e2, by decide, by decide, fun h => by cases h⟩
  obtain ⟨q, q1, q2, q3⟩ := quadIs_full t f ht hf
  cases q with
  | false =>
    refine none1 True ?_ ?_
    · unfold spec_QuadTree.f
      refine Ev.bind q1 ?_
      simp only [Bool.false_eq_true, if_false]
      refine Ev.s ?_
      simp only [spec_QuadTree.j0, if_true]
      exact Ev.const rfl
    · unfold impl_QuadTree.f
      refine Ev.bind q2 ?_
      simp only [Bool.false_eq_true, if_false]
      refine Ev.s ?_
      simp only [impl_QuadTree.j0, if_true]
      exact Ev.const rfl
  | true =>
    obtain ⟨hm, H, h4, hE⟩ := q3 rfl
    obtain ⟨b, b1, b2, b3⟩ := mapValid_both t f ht hf
    have hb : b = true := b3.2 hm
    subst hb
    have hn := H.1
    have D := fun a => l2Dart_ev t f t.length rfl hn b1 a
    by_cases hin : (0 ≤ root ∧ root < (t.length : Int)) ∧ (0 ≤ point ∧ point < (t.length : Int))
    · obtain ⟨g, g1, g2, g3⟩ := far_both t f t.length H point.toNat (by omega)
      have i1 := implTree_ev t f t.length rfl H h4 hE q2 root.toNat point.toNat (by omega) (by omega) g g1 g3
      have i2 := specTree_ev t f t.length rfl H h4 hE q1 b1 root.toNat point.toNat (by omega) (by omega) g g1 g2
      rw [show ((root.toNat : Nat) : Int) = root by omega, show ((point.toNat : Nat) : Int) = point by omega] at i1 i2
      by_cases hd : nf g (nf f root.toNat) + 1 = nf g root.toNat
      · rw [if_pos hd] at i1 i2
        have z1 := wrd_size t f g root.toNat (t.length / 2)
        have z2 := stp_len t f g root.toNat (t.length / 2)
        exact ⟨_, _, true, i2, i1, by omega, by omega, fun _ => ⟨root.toNat, point.toNat, by omega, by omega, by omega, by omega, hm, H, h4, hE, g, g1, hd, rfl, rfl⟩⟩
      · rw [if_neg hd] at i1 i2
        exact none1 True i2 i1
    · refine none1 True ?_ ?_
      · have stop : Ev (fun k => spec_QuadTree.j0 k root point true t f) ((⟨#[]⟩ : ByteArray), ([] : List Int), false) := by
          refine Ev.s ?_
          simp only [spec_QuadTree.j0, if_true]
          exact Ev.const rfl
        unfold spec_QuadTree.f
        refine Ev.bind q1 ?_
        simp only [if_true]
        refine Ev.bind (D root) ?_
        by_cases h1 : 0 ≤ root ∧ root < (t.length : Int)
        · rw [decide_eq_true h1]
          simp only [if_true]
          refine Ev.bind (D point) ?_
          rw [decide_eq_false (fun h2 => hin ⟨h1, h2⟩)]
          exact stop
        · rw [decide_eq_false h1]
          simp only [Bool.false_eq_true, if_false]
          exact stop
      · have stop : Ev (fun k => impl_QuadTree.j0 k root point true t f) ((⟨#[]⟩ : ByteArray), ([] : List Int), false) := by
          refine Ev.s ?_
          simp only [impl_QuadTree.j0, if_true]
          exact Ev.const rfl
        unfold impl_QuadTree.f
        refine Ev.bind q2 ?_
        simp only [if_true]
        by_cases h1 : root < 0
        · simp only [h1, if_true]
          exact stop
        · by_cases h2 : root ≥ (t.length : Int)
          · simp only [h1, h2, if_true, if_false]
            exact stop
          · by_cases h3 : point < 0
            · simp only [h1, h2, h3, if_true, if_false]
              exact stop
            · simp only [h1, h2, h3, if_false, decide_eq_true (show point ≥ (t.length : Int) by omega)]
              exact stop
end Go.Proofs.Ytlpbalebodlipaa.PL
