/- For every two codes: of the map that the statement draws, RibbonMatrix of the program answers what the reference answers; it is the sum of the numbers without an edge and with it contracted; a bridge is in every tree, a loop in none. There are no conditions. -/
import Derived.Test.YtjgknblneokhlaaKFnMatrixDeleteOwnx7
set_option linter.unusedVariables false
set_option linter.unusedSimpArgs false
namespace Go.Proofs.Ytjgknblneokhlaa.PK
open Go.RowKit Go.Proofs.YtjgknblneokhlaaW.PrintWords Go.Proofs.YtjgknblneokhlaaW.PrintLast Go.Proofs.YtjgknblneokhlaaW.PrintMore
def kept (a b d : Nat) : Prop := d ≠ a ∧ d ≠ b
theorem nm_kept (a b d : Nat) (h : kept a b d) : nmA a b (d + 1) = nmA a b d + 1 := by
  simp only [nmA]
  rw [if_neg (fun z => z.elim h.1 h.2)]
theorem nm_mono (a b : Nat) : ∀ (e d : Nat), nmA a b d ≤ nmA a b (d + e)
  | 0, d => Nat.le_refl _
  | e + 1, d => by
    have := nm_mono a b e d
    rw [show d + (e + 1) = d + e + 1 by omega]
    simp only [nmA]
    omega
theorem nm_lt (a b d e : Nat) (h : kept a b d) (hd : d < e) : nmA a b d < nmA a b e := by
  have h1 := nm_kept a b d h
  have h2 := nm_mono a b (e - (d + 1)) (d + 1)
  rw [show d + 1 + (e - (d + 1)) = e by omega] at h2
  omega
theorem nm_inj (a b d e : Nat) (h : kept a b d) (h' : kept a b e) (z : nmA a b d = nmA a b e) : d = e := by
  by_cases h1 : d < e
  · have := nm_lt a b d e h h1; omega
  · by_cases h2 : e < d
    · have := nm_lt a b e d h' h2; omega
    · omega
theorem nm_all (a b : Nat) (hab : a ≠ b) : ∀ m, nmA a b m + (if a < m then 1 else 0) + (if b < m then 1 else 0) = m
  | 0 => by simp [nmA]
  | m + 1 => by
    have ih := nm_all a b hab m
    simp only [nmA]
    by_cases c1 : m = a
    · subst c1
      rw [if_neg (Nat.lt_irrefl _)] at ih
      rw [if_pos (.inl rfl), if_pos (by omega)]
      by_cases c2 : b < m
      · rw [if_pos c2] at ih
        rw [if_pos (by omega)]
        omega
      · rw [if_neg c2] at ih
        rw [if_neg (by omega)]
        omega
    · by_cases c2 : m = b
      · subst c2
        rw [if_neg (Nat.lt_irrefl m)] at ih
        rw [if_pos (.inr rfl), if_pos (show m < m + 1 by omega)]
        by_cases c3 : a < m
        · rw [if_pos c3] at ih
          rw [if_pos (by omega)]
          omega
        · rw [if_neg c3] at ih
          rw [if_neg (by omega)]
          omega
      · rw [if_neg (fun z => z.elim c1 c2)]
        have e1 : (if a < m + 1 then 1 else 0) = (if a < m then 1 else 0) := by
          by_cases c3 : a < m
          · rw [if_pos c3, if_pos (by omega)]
          · rw [if_neg c3, if_neg (by omega)]
        have e2 : (if b < m + 1 then 1 else 0) = (if b < m then 1 else 0) := by
          by_cases c3 : b < m
          · rw [if_pos c3, if_pos (by omega)]
          · rw [if_neg c3, if_neg (by omega)]
        rw [e1, e2]
        omega
theorem nm_total (a b n : Nat) (ha : a < n) (hb : b < n) (hab : a ≠ b) : nmA a b n + 2 = n := by
  have := nm_all a b hab n
  rw [if_pos ha, if_pos hb] at this
  omega
theorem nm_surj (a b : Nat) : ∀ (i m : Nat), m < nmA a b i → ∃ d, d < i ∧ kept a b d ∧ nmA a b d = m
  | 0, m, h => by simp [nmA] at h
  | i + 1, m, h => by
    by_cases c : m < nmA a b i
    · obtain ⟨d, h1, h2, h3⟩ := nm_surj a b i m c
      exact ⟨d, by omega, h2, h3⟩
    · simp only [nmA] at h
      by_cases c2 : i = a ∨ i = b
      · rw [if_pos c2] at h; omega
      · rw [if_neg c2] at h
        exact ⟨i, by omega, ⟨fun z => c2 (.inl z), fun z => c2 (.inr z)⟩, by omega⟩
theorem nm_bound (a b n d : Nat) (ha : a < n) (hb : b < n) (hab : a ≠ b) (hd : d < n) (hk : kept a b d) : nmA a b d < n - 2 := by
  have h1 := nm_lt a b d n hk hd
  have h2 := nm_total a b n ha hb hab
  omega
theorem lvL_rd (a b : Nat) (h : Nat → Int) : ∀ (i d : Nat), d < i → kept a b d → rd (lvL a b h i) (nmA a b d : Int) = h d
  | 0, d, hd, hk => by omega
  | i + 1, d, hd, hk => by
    have hl := lvL_len a b h i
    simp only [lvL]
    by_cases c : i = a ∨ i = b
    · rw [if_pos c]
      refine lvL_rd a b h i d ?_ hk
      have : d ≠ i := fun z => c.elim (fun y => hk.1 (z.trans y)) (fun y => hk.2 (z.trans y))
      omega
    · rw [if_neg c]
      by_cases c2 : d = i
      · subst c2
        rw [rd_lt _ (nmA a b d) (by simp [hl])]
        rw [List.getElem_append_right (by omega)]
        simp [hl]
      · have h2 := nm_lt a b d i hk (by omega)
        rw [rd_app_lt _ _ _ (by omega)]
        exact lvL_rd a b h i d (by omega) hk
def TellsQ (a b n : Nat) (q : Nat → Nat) (L : List Int) : Prop := L.length = n - 2 ∧ ∀ d, d < n → kept a b d → q d < n ∧ kept a b (q d) ∧ rd L (nmA a b d : Int) = (nmA a b (q d) : Int)
theorem TellsQ.inR {a b n : Nat} {q : Nat → Nat} {L : List Int} (h : TellsQ a b n q L) (ha : a < n) (hb : b < n) (hab : a ≠ b) : inR (n - 2) L := by
  refine ⟨h.1, fun m hm => ?_⟩
  have ht := nm_total a b n ha hb hab
  obtain ⟨d, h1, h2, rfl⟩ := nm_surj a b n m (by omega)
  obtain ⟨q1, q2, q3⟩ := h.2 d h1 h2
  have := nm_bound a b n (q d) ha hb hab q1 q2
  rw [q3]
  omega
theorem TellsQ.injR {a b n : Nat} {q : Nat → Nat} {L : List Int} (h : TellsQ a b n q L) (ha : a < n) (hb : b < n) (hab : a ≠ b) (hq : ∀ d e, d < n → e < n → kept a b d → kept a b e → q d = q e → d = e) : injR (n - 2) L := by
  intro i j hi hj e
  have ht := nm_total a b n ha hb hab
  obtain ⟨d, h1, h2, rfl⟩ := nm_surj a b n i (by omega)
  obtain ⟨d', h1', h2', rfl⟩ := nm_surj a b n j (by omega)
  obtain ⟨q1, q2, q3⟩ := h.2 d h1 h2
  obtain ⟨q1', q2', q3'⟩ := h.2 d' h1' h2'
  rw [q3, q3'] at e
  have := nm_inj a b _ _ q2 q2' (by omega)
  rw [hq d d' h1 h1' h2 h2' this]
theorem tells_ext {a b n : Nat} {q q' : Nat → Nat} {L L' : List Int} (h : TellsQ a b n q L) (h' : TellsQ a b n q' L') (ha : a < n) (hb : b < n) (hab : a ≠ b) (hq : ∀ d, d < n → kept a b d → q d = q' d) : L = L' := by
  refine list_ext _ _ (by rw [h.1, h'.1]) fun i hi => ?_
  rw [h.1] at hi
  have ht := nm_total a b n ha hb hab
  obtain ⟨d, h1, h2, rfl⟩ := nm_surj a b n i (by omega)
  rw [(h.2 d h1 h2).2.2, (h'.2 d h1 h2).2.2, hq d h1 h2]
theorem cl_skip {a b n : Nat} (ha : a < n) (hb : b < n) (hab : a ≠ b) {R R' : Nat → Nat → Prop} (hr : ∀ x, R x x) (hs : ∀ x y, R x y → R y x) (ht : ∀ x y z, R x y → R y z → R x z)
    (hk : ∀ x y, x < n → y < n → kept a b x → kept a b y → (R' (nmA a b x) (nmA a b y) ↔ R x y)) (he : ∀ x, x < n → ∃ y, y < n ∧ kept a b y ∧ R x y) {V : Nat} (hV : Cl n R V) : Cl (n - 2) R' V := by
  have hl : ∀ x, x < n → ∃ y, y < n ∧ (kept a b y ∧ ∀ z, z < y → kept a b z → ¬ R z y) ∧ R x y := by
    intro x hx
    obtain ⟨y, y1, y2, y3⟩ := he x hx
    have key : ∀ y, y < n → kept a b y → ∃ z, z < n ∧ (kept a b z ∧ ∀ w, w < z → kept a b w → ¬ R w z) ∧ R y z := by
      intro y
      induction y using Nat.strongRecOn with
      | ind y ih =>
        intro hy ky
        by_cases c : ∃ w, w < y ∧ kept a b w ∧ R w y
        · obtain ⟨w, w1, w2, w3⟩ := c
          obtain ⟨z, z1, z2, z3⟩ := ih w w1 (by omega) w2
          exact ⟨z, z1, z2, ht _ _ _ (hs _ _ w3) z3⟩
        · exact ⟨y, hy, ⟨ky, fun w h1 h2 h3 => c ⟨w, h1, h2, h3⟩⟩, hr y⟩
    obtain ⟨z, z1, z2, z3⟩ := key y y1 y2
    exact ⟨z, z1, z2, ht _ _ _ y3 z3⟩
  obtain ⟨k, hkc, _⟩ := Cnt.ex (fun x => kept a b x ∧ ∀ z, z < x → kept a b z → ¬ R z x) n
  have e1 : V ≤ k := Cnt.reps R hs ht hV hkc (fun x hx _ => hl x hx) (fun x y hx px hy py h => lst_uniq R hs x y px py h)
  have e2 : k ≤ V := Cnt.reps R hs ht hkc hV (fun x hx _ => by
      obtain ⟨y, y1, y2, y3⟩ := lst_ex R hr hs ht x
      exact ⟨y, by omega, y2, hs _ _ y3⟩) (fun x y hx px hy py h => by
      by_cases c : x < y
      · exact absurd h (py.2 x c px.1)
      · by_cases c2 : y < x
        · exact absurd (hs _ _ h) (px.2 y c2 py.1)
        · omega)
  have e3 : k = V := by omega
  subst e3
  obtain ⟨L, l1, l2, l3⟩ := hkc
  have htot := nm_total a b n ha hb hab
  refine ⟨L.map (nmA a b), ?_, fun m => ?_, by rw [List.length_map]; exact l3⟩
  · refine List.Pairwise.map _ (fun x y h => h) ?_ |> fun z => z
    have : L.Pairwise (fun x y => nmA a b x ≠ nmA a b y) := by
      refine (List.nodup_iff_pairwise_ne.1 l1).imp_of_mem ?_
      intro x y hx hy hne z
      exact hne (nm_inj a b x y ((l2 x).1 hx).2.1 ((l2 y).1 hy).2.1 z)
    exact this
  · rw [List.mem_map]
    constructor
    · rintro ⟨x, hx, rfl⟩
      obtain ⟨x1, x2, x3⟩ := (l2 x).1 hx
      refine ⟨nm_bound a b n x ha hb hab x1 x2, fun i hi hR => ?_⟩
      obtain ⟨y, y1, y2, rfl⟩ := nm_surj a b n i (by have := nm_bound a b n x ha hb hab x1 x2; omega)
      have hyx : y < x := by
        by_cases c : y < x
        · exact c
        · by_cases c2 : y = x
          · subst c2; omega
          · have := nm_lt a b x y x2 (by omega); omega
      exact x3 y hyx y2 ((hk y x y1 x1 y2 x2).1 hR)
    · rintro ⟨hm, hl'⟩
      obtain ⟨x, x1, x2, rfl⟩ := nm_surj a b n m (by omega)
      refine ⟨x, (l2 x).2 ⟨x1, x2, fun z hz kz hR => ?_⟩, rfl⟩
      exact hl' (nmA a b z) (nm_lt a b z x kz hz) ((hk z x (by omega) x1 kz x2).2 hR)
def NoA (p : List Int) (a b : Nat) : Prop := rd p (a : Int) ≠ a ∧ rd p (b : Int) ≠ b ∧ ¬ (rd p (a : Int) = b ∧ rd p (b : Int) = a)
theorem skp_kept (p : List Int) (a b d : Nat) (h : kept a b d) : skp p a b (d : Int) = d := by
  unfold skp
  rw [if_neg (fun z => z.elim (fun y => h.1 (by omega)) (fun y => h.2 (by omega)))]
theorem skp_noA (p : List Int) (n : Nat) (hp : inR n p) (a b : Nat) (ha : a < n) (hb : b < n) (hN : NoA p a b) (x : Nat) (hx : x < n) : 0 ≤ skp p a b (x : Int) ∧ skp p a b (x : Int) < n ∧ kept a b (skp p a b (x : Int)).toNat := by
  obtain ⟨n1, n2, n3⟩ := hN
  have ra := hp.2 a ha
  have rb := hp.2 b hb
  by_cases c : kept a b x
  · rw [skp_kept p a b x c]
    exact ⟨by omega, by omega, by rw [Int.toNat_natCast]; exact c⟩
  · have c' : x = a ∨ x = b := by
      unfold kept at c
      omega
    unfold skp kept
    rcases c' with rfl | rfl
    · rw [if_pos (.inl rfl)]
      by_cases c2 : rd p (x : Int) = x ∨ rd p (x : Int) = b
      · rw [if_pos c2]
        have e := c2.resolve_left n1
        rw [e]
        have e3 : rd p (b : Int) ≠ x := fun z => n3 ⟨e, z⟩
        omega
      · rw [if_neg c2]
        omega
    · rw [if_pos (.inr rfl)]
      by_cases c2 : rd p (x : Int) = a ∨ rd p (x : Int) = x
      · rw [if_pos c2]
        have e := c2.resolve_right n2
        rw [e]
        have e3 : rd p (a : Int) ≠ x := fun z => n3 ⟨z, e⟩
        omega
      · rw [if_neg c2]
        omega
theorem skp_step (p : List Int) (n : Nat) (hp : inR n p) (a b : Nat) (hN : NoA p a b) (x : Nat) (hx : ¬ kept a b x) : skp p a b (rd p (x : Int)) = skp p a b (x : Int) := by
  obtain ⟨n1, n2, n3⟩ := hN
  have c' : x = a ∨ x = b := by
    unfold kept at hx
    omega
  unfold skp
  rcases c' with rfl | rfl
  · rw [if_pos (show (x : Int) = x ∨ (x : Int) = b from .inl rfl)]
    by_cases c2 : rd p (x : Int) = x ∨ rd p (x : Int) = b
    · rw [if_pos c2, if_pos c2]
      have e := c2.resolve_left n1
      rw [e]
      rw [if_neg (fun z => z.elim (fun y => n3 ⟨e, y⟩) n2)]
    · rw [if_neg c2, if_neg c2]
  · rw [if_pos (show (x : Int) = a ∨ (x : Int) = x from .inr rfl)]
    by_cases c2 : rd p (x : Int) = a ∨ rd p (x : Int) = x
    · rw [if_pos c2, if_pos c2]
      have e := c2.resolve_right n2
      rw [e]
      rw [if_neg (fun z => z.elim n1 (fun y => n3 ⟨y, e⟩))]
    · rw [if_neg c2, if_neg c2]
theorem skp_closed (p : List Int) (n : Nat) (hp : inR n p) (a b : Nat) (S : Nat → Prop) (hS : closedL [p] n S) (x : Nat) (hx : x < n) : S x ↔ S (skp p a b (x : Int)).toNat := by
  have st : ∀ y : Nat, y < n → (S y ↔ S (rd p (y : Int)).toNat) := hS p (by simp)
  unfold skp
  by_cases c : (x : Int) = a ∨ (x : Int) = b
  · rw [if_pos c]
    have rx := hp.2 x hx
    by_cases c2 : rd p (x : Int) = a ∨ rd p (x : Int) = b
    · rw [if_pos c2]
      have h1 := st x hx
      have h2 := st (rd p (x : Int)).toNat (by omega)
      rw [show (((rd p (x : Int)).toNat : Nat) : Int) = rd p (x : Int) by omega] at h2
      exact h1.trans h2
    · rw [if_neg c2]
      exact st x hx
  · rw [if_neg c, Int.toNat_natCast]
theorem reach_skip (p F L F' : List Int) (n : Nat) (hp : inR n p) (a b : Nat) (ha : a < n) (hb : b < n) (hab : a ≠ b) (hN : NoA p a b) (hL : TellsQ a b n (fun d => (skp p a b (rd p (d : Int))).toNat) L) (hF : inR n F) (hF' : TellsQ a b n (fun d => (rd F (d : Int)).toNat) F')
    (hFa : ∀ x : Nat, x < n → ¬ kept a b x → ¬ kept a b (rd F (x : Int)).toNat ∧ Reach [p] n x (rd F (x : Int)).toNat) (x y : Nat) (hx : x < n) (hy : y < n) (kx : kept a b x) (ky : kept a b y) :
    Reach [L, F'] (n - 2) (nmA a b x) (nmA a b y) ↔ Reach [p, F] n x y := by
  have htot := nm_total a b n ha hb hab
  constructor
  · intro h S hS
    have hSp : closedL [p] n S := fun q hq => hS q (by rw [List.mem_singleton.1 hq]; simp)
    have hSF : ∀ k : Nat, k < n → (S k ↔ S (rd F (k : Int)).toNat) := hS F (by simp)
    have hst : ∀ k : Nat, k < n → (S k ↔ S (rd p (k : Int)).toNat) := hS p (by simp)
    have tell : ∀ d, d < n → kept a b d → ((∃ e, e < n ∧ kept a b e ∧ nmA a b e = nmA a b d ∧ S e) ↔ S d) := fun d hd kd => ⟨fun ⟨e, e1, e2, e3, e4⟩ => by rw [← nm_inj a b e d e2 kd e3]; exact e4, fun h => ⟨d, hd, kd, rfl, h⟩⟩
    have := h (fun m => ∃ e, e < n ∧ kept a b e ∧ nmA a b e = m ∧ S e) (by
      intro q hq m hm
      obtain ⟨d, d1, d2, rfl⟩ := nm_surj a b n m (by omega)
      rcases List.mem_cons.1 hq with rfl | hq
      · obtain ⟨q1, q2, q3⟩ := hL.2 d d1 d2
        rw [q3, Int.toNat_natCast]
        have rx := hp.2 d d1
        have h2 := skp_closed p n hp a b S hSp (rd p (d : Int)).toNat (by omega)
        rw [show (((rd p (d : Int)).toNat : Nat) : Int) = rd p (d : Int) by omega] at h2
        exact ((tell d d1 d2).trans ((hst d d1).trans h2)).trans (tell _ q1 q2).symm
      · rw [List.mem_singleton.1 hq]
        obtain ⟨q1, q2, q3⟩ := hF'.2 d d1 d2
        rw [q3, Int.toNat_natCast]
        exact ((tell d d1 d2).trans (hSF d d1)).trans (tell _ q1 q2).symm)
    exact ((tell x hx kx).symm.trans this).trans (tell y hy ky)
  · intro h S' hS'
    have key : closedL [p] n (fun z => S' (nmA a b (skp p a b (z : Int)).toNat)) := by
      intro q hq z hz
      rw [List.mem_singleton.1 hq]
      have rz := hp.2 z hz
      show S' (nmA a b (skp p a b (z : Int)).toNat) ↔ S' (nmA a b (skp p a b (((rd p (z : Int)).toNat : Nat) : Int)).toNat)
      rw [show (((rd p (z : Int)).toNat : Nat) : Int) = rd p (z : Int) by omega]
      by_cases c : kept a b z
      · rw [skp_kept p a b z c, Int.toNat_natCast]
        have := hS' L (by simp) (nmA a b z) (by exact nm_bound a b n z ha hb hab hz c)
        rw [(hL.2 z hz c).2.2, Int.toNat_natCast] at this
        exact this
      · rw [skp_step p n hp a b hN z c]
    have := h (fun z => S' (nmA a b (skp p a b (z : Int)).toNat)) (by
      intro q hq z hz
      rcases List.mem_cons.1 hq with rfl | hq
      · exact key q (by simp) z hz
      · rw [List.mem_singleton.1 hq]
        by_cases c : kept a b z
        · obtain ⟨q1, q2, q3⟩ := hF'.2 z hz c
          have h3 := hS' F' (by simp) (nmA a b z) (nm_bound a b n z ha hb hab hz c)
          rw [q3, Int.toNat_natCast] at h3
          show S' (nmA a b (skp p a b (z : Int)).toNat) ↔ S' (nmA a b (skp p a b (((rd F (z : Int)).toNat : Nat) : Int)).toNat)
          rw [skp_kept p a b z c, Int.toNat_natCast, skp_kept p a b _ q2, Int.toNat_natCast]
          exact h3
        · exact (hFa z hz c).2 _ key)
    simp only [skp_kept p a b x kx, skp_kept p a b y ky, Int.toNat_natCast] at this
    exact this
theorem reach_skip1 (p L : List Int) (n : Nat) (hp : inR n p) (a b : Nat) (ha : a < n) (hb : b < n) (hab : a ≠ b) (hN : NoA p a b) (hL : TellsQ a b n (fun d => (skp p a b (rd p (d : Int))).toNat) L) (x y : Nat) (hx : x < n) (hy : y < n) (kx : kept a b x) (ky : kept a b y) :
    Reach [L] (n - 2) (nmA a b x) (nmA a b y) ↔ Reach [p] n x y := by
  have st : ∀ (q : List Int) (m : Nat) (u v : Nat), Reach [q, stl m] m u v ↔ Reach [q] m u v := by
    intro q m u v
    constructor
    · intro h S hS
      refine h S fun r hr k hk => ?_
      rcases List.mem_cons.1 hr with rfl | hr
      · exact hS r (by simp) k hk
      · rw [List.mem_singleton.1 hr, stl_rd m k hk, Int.toNat_natCast]
    · intro h S hS
      exact h S fun r hr k hk => hS r (by rw [List.mem_singleton.1 hr]; simp) k hk
  have h := reach_skip p (stl n) L (stl (n - 2)) n hp a b ha hb hab hN hL ⟨stl_length n, fun i hi => by rw [stl_rd n i hi]; omega⟩ ⟨stl_length _, fun d hd kd => by
      show (rd (stl n) (d : Int)).toNat < n ∧ kept a b (rd (stl n) (d : Int)).toNat ∧ rd (stl (n - 2)) (nmA a b d : Int) = (nmA a b (rd (stl n) (d : Int)).toNat : Int)
      rw [stl_rd n d hd, Int.toNat_natCast]
      exact ⟨hd, kd, stl_rd _ _ (nm_bound a b n d ha hb hab hd kd)⟩⟩ (fun z hz hk => by
      rw [stl_rd n z hz, Int.toNat_natCast]
      exact ⟨hk, Reach.refl _ _ _⟩) x y hx hy kx ky
  rw [st, st] at h
  exact h
theorem skp_reach (p : List Int) (n : Nat) (hp : inR n p) (a b x : Nat) (hx : x < n) : Reach [p] n x (skp p a b (x : Int)).toNat := fun S hS => skp_closed p n hp a b S hS x hx
theorem cl_left (p L : List Int) (n : Nat) (hp : inR n p) (a b : Nat) (ha : a < n) (hb : b < n) (hab : a ≠ b) (hN : NoA p a b) (hL : TellsQ a b n (fun d => (skp p a b (rd p (d : Int))).toNat) L) (V : Nat) (hV : Cl n (Reach [p] n) V) : Cl (n - 2) (Reach [L] (n - 2)) V :=
  cl_skip ha hb hab (fun x => Reach.refl _ _ x) (fun x y h => h.symm) (fun x y z h h' => h.trans h') (fun x y hx hy kx ky => reach_skip1 p L n hp a b ha hb hab hN hL x y hx hy kx ky) (fun x hx => by
    obtain ⟨s1, s2, s3⟩ := skp_noA p n hp a b ha hb hN x hx
    exact ⟨_, by omega, s3, skp_reach p n hp a b x hx⟩) hV
theorem cl_left2 (p F L F' : List Int) (n : Nat) (hp : inR n p) (a b : Nat) (ha : a < n) (hb : b < n) (hab : a ≠ b) (hN : NoA p a b) (hL : TellsQ a b n (fun d => (skp p a b (rd p (d : Int))).toNat) L) (hF : inR n F) (hF' : TellsQ a b n (fun d => (rd F (d : Int)).toNat) F')
    (hFa : ∀ x : Nat, x < n → ¬ kept a b x → ¬ kept a b (rd F (x : Int)).toNat ∧ Reach [p] n x (rd F (x : Int)).toNat) (V : Nat) (hV : Cl n (Reach [p, F] n) V) : Cl (n - 2) (Reach [L, F'] (n - 2)) V :=
  cl_skip ha hb hab (fun x => Reach.refl _ _ x) (fun x y h => h.symm) (fun x y z h h' => h.trans h') (fun x y hx hy kx ky => reach_skip p F L F' n hp a b ha hb hab hN hL hF hF' hFa x y hx hy kx ky) (fun x hx => by
    obtain ⟨s1, s2, s3⟩ := skp_noA p n hp a b ha hb hN x hx
    exact ⟨_, by omega, s3, fun S hS => skp_reach p n hp a b x hx S fun q hq => hS q (by rw [List.mem_singleton.1 hq]; simp)⟩) hV
theorem outT_tells (p : List Int) (n : Nat) (hp : inR n p) (hi : injR n p) (a b : Nat) (ha : a < n) (hb : b < n) (hab : a ≠ b) : TellsQ a b n (fun d => (skp p a b (rd p (d : Int))).toNat) (outT p a b n) := by
  have htot := nm_total a b n ha hb hab
  refine ⟨by unfold outT; rw [lvL_len]; omega, fun d hd kd => ?_⟩
  obtain ⟨⟨s1, s2⟩, s3, s4⟩ := skp_out p n hp hi a b d ha hb hd hab kd.1 kd.2
  show (skp p a b (rd p (d : Int))).toNat < n ∧ kept a b (skp p a b (rd p (d : Int))).toNat ∧ rd (outT p a b n) (nmA a b d : Int) = (nmA a b (skp p a b (rd p (d : Int))).toNat : Int)
  refine ⟨by omega, ⟨by omega, by omega⟩, ?_⟩
  unfold outT
  rw [lvL_rd a b _ n d hd kd]
theorem outF_tells (f : List Int) (n : Nat) (hf : inR n f) (a b : Nat) (ha : a < n) (hb : b < n) (hab : a ≠ b) (hk : ∀ d : Nat, d < n → kept a b d → kept a b (rd f (d : Int)).toNat) : TellsQ a b n (fun d => (rd f (d : Int)).toNat) (outF f a b n) := by
  have htot := nm_total a b n ha hb hab
  refine ⟨by unfold outF; rw [lvL_len]; omega, fun d hd kd => ?_⟩
  have := hf.2 d hd
  show (rd f (d : Int)).toNat < n ∧ kept a b (rd f (d : Int)).toNat ∧ rd (outF f a b n) (nmA a b d : Int) = (nmA a b (rd f (d : Int)).toNat : Int)
  refine ⟨by omega, hk d hd kd, ?_⟩
  unfold outF
  rw [lvL_rd a b _ n d hd kd]
theorem skp_inj (p : List Int) (n : Nat) (hp : inR n p) (hi : injR n p) (a b : Nat) (ha : a < n) (hb : b < n) (d e : Nat) (hd : d < n) (he : e < n) (kd : kept a b d) (ke : kept a b e) (h : skp p a b (rd p (d : Int)) = skp p a b (rd p (e : Int))) : d = e := by
  have inj : ∀ x y : Int, 0 ≤ x → x < n → 0 ≤ y → y < n → rd p x = rd p y → x = y := fun x y h1 h2 h3 h4 h5 => by
    have := hi x.toNat y.toNat (by omega) (by omega) (by rw [show ((x.toNat : Nat) : Int) = x by omega, show ((y.toNat : Nat) : Int) = y by omega]; exact h5)
    omega
  have rng : ∀ x : Int, 0 ≤ x → x < n → 0 ≤ rd p x ∧ rd p x < n := fun x h1 h2 => by
    have := hp.2 x.toNat (by omega)
    rwa [show ((x.toNat : Nat) : Int) = x by omega] at this
  obtain ⟨d1, d2⟩ := rng (d : Int) (by omega) (by omega)
  obtain ⟨e1, e2⟩ := rng (e : Int) (by omega) (by omega)
  obtain ⟨d3, d4⟩ := rng _ d1 d2
  obtain ⟨e3, e4⟩ := rng _ e1 e2
  have kd1 : (d : Int) ≠ a := fun z => kd.1 (by omega)
  have kd2 : (d : Int) ≠ b := fun z => kd.2 (by omega)
  have ke1 : (e : Int) ≠ a := fun z => ke.1 (by omega)
  have ke2 : (e : Int) ≠ b := fun z => ke.2 (by omega)
  unfold skp at h
  by_cases c : rd p (d : Int) = a ∨ rd p (d : Int) = b
  · rw [if_pos c] at h
    by_cases c' : rd p (e : Int) = a ∨ rd p (e : Int) = b
    · rw [if_pos c'] at h
      by_cases c2 : rd p (rd p (d : Int)) = a ∨ rd p (rd p (d : Int)) = b
      · rw [if_pos c2] at h
        by_cases c2' : rd p (rd p (e : Int)) = a ∨ rd p (rd p (e : Int)) = b
        · rw [if_pos c2'] at h
          have := inj _ _ (by omega) (by omega) (by omega) (by omega) (inj _ _ d1 d2 e1 e2 (inj _ _ d3 d4 e3 e4 h))
          omega
        · rw [if_neg c2'] at h
          have := inj _ _ d1 d2 (by omega) (by omega) (inj _ _ d3 d4 e1 e2 h)
          rcases c with c | c
          · exact absurd (this.symm.trans c) ke1
          · exact absurd (this.symm.trans c) ke2
      · rw [if_neg c2] at h
        by_cases c2' : rd p (rd p (e : Int)) = a ∨ rd p (rd p (e : Int)) = b
        · rw [if_pos c2'] at h
          have := inj _ _ (by omega) (by omega) e1 e2 (inj _ _ d1 d2 e3 e4 h)
          rcases c' with c' | c'
          · exact absurd (this.trans c') kd1
          · exact absurd (this.trans c') kd2
        · rw [if_neg c2'] at h
          have := inj _ _ (by omega) (by omega) (by omega) (by omega) (inj _ _ d1 d2 e1 e2 h)
          omega
    · rw [if_neg c'] at h
      by_cases c2 : rd p (rd p (d : Int)) = a ∨ rd p (rd p (d : Int)) = b
      · rw [if_pos c2] at h
        have := inj _ _ d3 d4 (by omega) (by omega) h
        rcases c2 with c2 | c2
        · exact absurd (this.symm.trans c2) ke1
        · exact absurd (this.symm.trans c2) ke2
      · rw [if_neg c2] at h
        have := inj _ _ d1 d2 (by omega) (by omega) h
        rcases c with c | c
        · exact absurd (this.symm.trans c) ke1
        · exact absurd (this.symm.trans c) ke2
  · rw [if_neg c] at h
    by_cases c' : rd p (e : Int) = a ∨ rd p (e : Int) = b
    · rw [if_pos c'] at h
      by_cases c2' : rd p (rd p (e : Int)) = a ∨ rd p (rd p (e : Int)) = b
      · rw [if_pos c2'] at h
        have := inj _ _ (by omega) (by omega) e3 e4 h
        rcases c2' with c2' | c2'
        · exact absurd (this.trans c2') kd1
        · exact absurd (this.trans c2') kd2
      · rw [if_neg c2'] at h
        have := inj _ _ (by omega) (by omega) e1 e2 h
        rcases c' with c' | c'
        · exact absurd (this.trans c') kd1
        · exact absurd (this.trans c') kd2
    · rw [if_neg c'] at h
      have := inj _ _ (by omega) (by omega) (by omega) (by omega) h
      omega
def swp (t : List Int) (a b n : Nat) : List Int := (List.range n).map fun (d : Nat) => if d = a then rd t (b : Int) else if d = b then rd t (a : Int) else rd t (d : Int)
theorem swp_rd (t : List Int) (a b n d : Nat) (h : d < n) : rd (swp t a b n) (d : Int) = if d = a then rd t (b : Int) else if d = b then rd t (a : Int) else rd t (d : Int) := rd_rangeL _ n d h
theorem swp_a (t : List Int) (a b n : Nat) (h : a < n) : rd (swp t a b n) (a : Int) = rd t (b : Int) := by rw [swp_rd t a b n a h, if_pos rfl]
theorem swp_b (t : List Int) (a b n : Nat) (h : b < n) (hab : a ≠ b) : rd (swp t a b n) (b : Int) = rd t (a : Int) := by rw [swp_rd t a b n b h, if_neg (fun z => hab z.symm), if_pos rfl]
theorem swp_kept (t : List Int) (a b n d : Nat) (h : d < n) (k : kept a b d) : rd (swp t a b n) (d : Int) = rd t (d : Int) := by rw [swp_rd t a b n d h, if_neg k.1, if_neg k.2]
theorem swp_inR (t : List Int) (n a b : Nat) (ht : inR n t) (ha : a < n) (hb : b < n) : inR n (swp t a b n) := ⟨by simp [swp], fun i hi => by
  rw [swp_rd t a b n i hi]
  have h1 := ht.2 a ha
  have h2 := ht.2 b hb
  have h3 := ht.2 i hi
  split
  · exact h2
  · split
    · exact h1
    · exact h3⟩
theorem swp_exch (t : List Int) (n a b : Nat) (ha : a < n) (hb : b < n) (hab : a ≠ b) : Exch n t (swp t a b n) a b :=
  ⟨ha, hb, hab, swp_a t a b n ha, swp_b t a b n hb hab, fun x hx h1 h2 => swp_kept t a b n x hx ⟨h1, h2⟩⟩
theorem swp_inj (t : List Int) (n a b : Nat) (hti : injR n t) (ha : a < n) (hb : b < n) (hab : a ≠ b) : injR n (swp t a b n) := fun i j hi hj e => by
  rw [swp_rd t a b n i hi, swp_rd t a b n j hj] at e
  by_cases i1 : i = a
  · rw [if_pos i1] at e
    by_cases j1 : j = a
    · omega
    · rw [if_neg j1] at e
      by_cases j2 : j = b
      · rw [if_pos j2] at e
        exact absurd (hti b a hb ha e).symm hab
      · rw [if_neg j2] at e
        exact absurd (hti b j hb hj e).symm j2
  · rw [if_neg i1] at e
    by_cases i2 : i = b
    · rw [if_pos i2] at e
      by_cases j1 : j = a
      · rw [if_pos j1] at e
        exact absurd (hti a b ha hb e) hab
      · rw [if_neg j1] at e
        by_cases j2 : j = b
        · omega
        · rw [if_neg j2] at e
          exact absurd (hti a j ha hj e).symm j1
    · rw [if_neg i2] at e
      by_cases j1 : j = a
      · rw [if_pos j1] at e
        exact absurd (hti i b hi hb e) i2
      · rw [if_neg j1] at e
        by_cases j2 : j = b
        · rw [if_pos j2] at e
          exact absurd (hti i a hi ha e) i1
        · rw [if_neg j2] at e
          exact hti i j hi hj e
theorem cl_one {n : Nat} {R : Nat → Nat → Prop} (hr : ∀ x, R x x) (hs : ∀ x y, R x y → R y x) (ht : ∀ x y z, R x y → R y z → R x z) (h : Cl n R 1) (x y : Nat) (hx : x < n) (hy : y < n) : R x y := by
  obtain ⟨L, l1, l2, l3⟩ := h
  obtain ⟨p, p1, p2, p3⟩ := lst_ex R hr hs ht x
  obtain ⟨q, q1, q2, q3⟩ := lst_ex R hr hs ht y
  have hp := (l2 p).2 ⟨by omega, p2⟩
  have hq := (l2 q).2 ⟨by omega, q2⟩
  obtain ⟨z, hz⟩ := List.length_eq_one_iff.1 l3
  rw [hz, List.mem_singleton] at hp hq
  rw [hp] at p3
  rw [hq] at q3
  exact ht _ _ _ (hs _ _ p3) q3
theorem edge_kept (f : List Int) (n a b : Nat) (hf : inR n f) (hfl : ∀ i : Nat, i < n → flipAt f i) (fa : rd f (a : Int) = b) (fb : rd f (b : Int) = a) (d : Nat) (hd : d < n) (k : kept a b d) : kept a b (rd f (d : Int)).toNat := by
  have h1 := hf.2 d hd
  have h2 := (hfl d hd).2
  constructor
  · intro z
    have : rd f (d : Int) = a := by omega
    rw [this, fa] at h2
    exact k.2 (by omega)
  · intro z
    have : rd f (d : Int) = b := by omega
    rw [this, fb] at h2
    exact k.1 (by omega)
theorem skp_congr (p p' : List Int) (a b : Nat) (x : Int) (h1 : rd p (a : Int) = rd p' (a : Int)) (h2 : rd p (b : Int) = rd p' (b : Int)) : skp p a b x = skp p' a b x := by
  unfold skp
  by_cases c : x = a ∨ x = b
  · rw [if_pos c, if_pos c]
    have e : rd p x = rd p' x := by rcases c with c | c <;> rw [c] <;> assumption
    rw [e]
    by_cases c2 : rd p' x = a ∨ rd p' x = b
    · rw [if_pos c2, if_pos c2]
      rcases c2 with c2 | c2 <;> rw [c2] <;> assumption
    · rw [if_neg c2, if_neg c2]
  · rw [if_neg c, if_neg c]
theorem outF_ok (f : List Int) (n a b : Nat) (hf : inR n f) (hfl : ∀ i : Nat, i < n → flipAt f i) (ha : a < n) (hb : b < n) (hab : a ≠ b) (fa : rd f (a : Int) = b) (fb : rd f (b : Int) = a) :
    TellsQ a b n (fun d => (rd f (d : Int)).toNat) (outF f a b n) ∧ inR (n - 2) (outF f a b n) ∧ ∀ i : Nat, i < n - 2 → flipAt (outF f a b n) i := by
  have ht := nm_total a b n ha hb hab
  have hk := edge_kept f n a b hf hfl fa fb
  have hT := outF_tells f n hf a b ha hb hab hk
  refine ⟨hT, hT.inR ha hb hab, fun i hi => ?_⟩
  obtain ⟨d, d1, d2, rfl⟩ := nm_surj a b n i (by omega)
  obtain ⟨q1, q2, q3⟩ := hT.2 d d1 d2
  have q1 : (rd f (d : Int)).toNat < n := q1
  have q3 : rd (outF f a b n) (nmA a b d : Int) = (nmA a b (rd f (d : Int)).toNat : Int) := q3
  have fr := hf.2 d d1
  obtain ⟨f1, f2⟩ := hfl d d1
  obtain ⟨r1, r2, r3⟩ := hT.2 _ q1 q2
  have r3 : rd (outF f a b n) (nmA a b (rd f (d : Int)).toNat : Int) = (nmA a b (rd f (((rd f (d : Int)).toNat : Nat) : Int)).toNat : Int) := r3
  rw [show (((rd f (d : Int)).toNat : Nat) : Int) = rd f (d : Int) by omega, f2, Int.toNat_natCast] at r3
  refine ⟨fun z => ?_, ?_⟩
  · rw [q3] at z
    have z' : nmA a b (rd f (d : Int)).toNat = nmA a b d := by omega
    have : (rd f (d : Int)).toNat = d := nm_inj a b _ _ q2 d2 z'
    omega
  · rw [q3, r3]
theorem cut_map (p f : List Int) (n : Nat) (hn : n ≤ 12) (hp : inR n p) (hi : injR n p) (hf : inR n f) (hfl : ∀ i : Nat, i < n → flipAt f i) (a b : Nat) (ha : a < n) (hb : b < n) (hab : a ≠ b) (fa : rd f (a : Int) = b) (fb : rd f (b : Int) = a) (hN : NoA p a b) (h3 : 3 ≤ n)
    (F : List Int) (hF : inR n F) (hFk : ∀ d : Nat, d < n → kept a b d → rd F (d : Int) = rd f (d : Int)) (hFa : ∀ x : Nat, x < n → ¬ kept a b x → ¬ kept a b (rd F (x : Int)).toNat ∧ Reach [p] n x (rd F (x : Int)).toNat) (hcon : ∀ x y : Nat, x < n → y < n → Reach [p, F] n x y) :
    MapOk (outT p a b n) (outF f a b n) (n - 2) := by
  have ht := nm_total a b n ha hb hab
  obtain ⟨o1, o2, o3⟩ := outF_ok f n a b hf hfl ha hb hab fa fb
  have hT := outT_tells p n hp hi a b ha hb hab
  have oF : TellsQ a b n (fun d => (rd F (d : Int)).toNat) (outF f a b n) := ⟨o1.1, fun d hd kd => by
    have := o1.2 d hd kd
    show (rd F (d : Int)).toNat < n ∧ kept a b (rd F (d : Int)).toNat ∧ rd (outF f a b n) (nmA a b d : Int) = (nmA a b (rd F (d : Int)).toNat : Int)
    rw [hFk d hd kd]
    exact this⟩
  refine ⟨by omega, by omega, hT.inR ha hb hab, hT.injR ha hb hab (fun d e hd he kd ke z => ?_), o2, o3, fun i j hi' hj' => ?_⟩
  · have s1 := (skp_out p n hp hi a b d ha hb hd hab kd.1 kd.2).2
    have s2 := (skp_out p n hp hi a b e ha hb he hab ke.1 ke.2).2
    exact skp_inj p n hp hi a b ha hb d e hd he kd ke (by have z : (skp p a b (rd p (d : Int))).toNat = (skp p a b (rd p (e : Int))).toNat := z; omega)
  · obtain ⟨x, x1, x2, rfl⟩ := nm_surj a b n i (by omega)
    obtain ⟨y, y1, y2, rfl⟩ := nm_surj a b n j (by omega)
    exact (reach_skip p F _ _ n hp a b ha hb hab hN hT hF oF hFa x y x1 y1 x2 y2).2 (hcon x y x1 y1)
theorem rest_rd (t f : List Int) (n : Nat) (H : MapOk t f n) (e a b : Nat) (he : e < (edL f n).length) (hab : EdgeAt f n e a b) (d : Nat) (hd : d < n) : rd (flC f n (restL [(e : Int)] (edL f n).length)) (d : Int) = if d = a ∨ d = b then (d : Int) else rd f (d : Int) := by
  obtain ⟨hn, h1, ht, hti, hf, hfl, hcon⟩ := id H
  obtain ⟨ha, hb, hne, e1, e2, e3, e4⟩ := hab
  rw [flC_rd f n _ d hd, chB_rest f n hf hfl [(e : Int)] d hd]
  have : chB f n [(e : Int)] (d : Int) = decide (d = a ∨ d = b) := by
    unfold chB
    rw [decide_eq_decide]
    rw [List.mem_singleton]
    exact e4 d hd
  rw [this]
  by_cases c : d = a ∨ d = b
  · rw [if_pos c, decide_eq_true c]
    rfl
  · rw [if_neg c, decide_eq_false c]
    rfl
theorem two_only (t f : List Int) (n : Nat) (H : MapOk t f n) (a b : Nat) (ha : a < n) (hb : b < n) (hab : a ≠ b) (fa : rd f (a : Int) = b) (fb : rd f (b : Int) = a) (h : ∀ x : Nat, x < n → ((x = a ∨ x = b) ↔ ((rd t (x : Int)).toNat = a ∨ (rd t (x : Int)).toNat = b))) : n = 2 := by
  obtain ⟨hn, h1, ht, hti, hf, hfl, hcon⟩ := id H
  have all : ∀ x, x < n → x = a ∨ x = b := fun x hx => by
    refine (hcon a x ha hx (fun z => z = a ∨ z = b) (fun q hq k hk => ?_)).1 (.inl rfl)
    rcases List.mem_cons.1 hq with rfl | hq
    · exact h k hk
    · rw [List.mem_singleton.1 hq]
      by_cases c : kept a b k
      · have := edge_kept f n a b hf hfl fa fb k hk c
        exact ⟨fun z => absurd z (fun z => z.elim c.1 c.2), fun z => absurd z (fun z => z.elim this.1 this.2)⟩
      · have c' : k = a ∨ k = b := by unfold kept at c; omega
        rcases c' with rfl | rfl
        · rw [fa, Int.toNat_natCast]
          exact ⟨fun _ => .inr rfl, fun _ => .inl rfl⟩
        · rw [fb, Int.toNat_natCast]
          exact ⟨fun _ => .inl rfl, fun _ => .inr rfl⟩
  have : n ≤ 2 := by
    rcases Nat.lt_or_ge 2 n with h2 | h2
    · have a0 := all 0 (by omega)
      have a1 := all 1 (by omega)
      have a2 := all 2 (by omega)
      omega
    · exact h2
  omega
theorem del_map (t f : List Int) (n : Nat) (H : MapOk t f n) (e a b : Nat) (he : e < (edL f n).length) (hab : EdgeAt f n e a b) (hn2 : n ≠ 2) (hk : Reach [t] n a b ∨ Cl n (Reach [t, flC f n (restL [(e : Int)] (edL f n).length)] n) 1) :
    NoA t a b ∧ MapOk (outT t a b n) (outF f a b n) (n - 2) := by
  obtain ⟨hn, h1, ht, hti, hf, hfl, hcon⟩ := id H
  obtain ⟨ha, hb, hne, e1, e2, e3, e4⟩ := id hab
  have hrd := rest_rd t f n H e a b he hab
  have hFi := flC_inR f n hf (restL [(e : Int)] (edL f n).length)
  generalize flC f n (restL [(e : Int)] (edL f n).length) = F at hrd hFi hk
  have con : ∀ x y : Nat, x < n → y < n → Reach [t, F] n x y := by
    rcases hk with hk | hk
    · intro x y hx hy S hS
      have st : ∀ k : Nat, k < n → (S k ↔ S (rd t (k : Int)).toNat) := hS t (by simp)
      have sF : ∀ k : Nat, k < n → (S k ↔ S (rd F (k : Int)).toNat) := hS F (by simp)
      have sab : S a ↔ S b := hk S fun q hq => by rw [List.mem_singleton.1 hq]; exact st
      refine hcon x y hx hy S fun q hq k hk' => ?_
      rcases List.mem_cons.1 hq with rfl | hq
      · exact st k hk'
      · rw [List.mem_singleton.1 hq]
        by_cases c : k = a ∨ k = b
        · rcases c with rfl | rfl
          · rw [e2, Int.toNat_natCast]; exact sab
          · rw [e3, Int.toNat_natCast]; exact sab.symm
        · have := sF k hk'
          rw [hrd k hk', if_neg c] at this
          exact this
    · exact fun x y hx hy => cl_one (fun x => Reach.refl _ _ x) (fun x y h => h.symm) (fun x y z h h' => h.trans h') hk x y hx hy
  have hFk : ∀ d : Nat, d < n → kept a b d → rd F (d : Int) = rd f (d : Int) := fun d hd kd => by rw [hrd d hd, if_neg (fun z => z.elim kd.1 kd.2)]
  have alone : ∀ x y : Nat, x < n → y < n → x ≠ y → (x = a ∨ x = b) → rd t (x : Int) ≠ x := by
    intro x y hx hy hxy hxab z
    have := (con x y hx hy (fun w => w = x) (fun q hq k hk' => by
      rcases List.mem_cons.1 hq with rfl | hq
      · constructor
        · rintro rfl; rw [z, Int.toNat_natCast]
        · intro w
          have r := ht.2 k hk'
          exact hti k x hk' hx (by rw [z]; omega)
      · rw [List.mem_singleton.1 hq, hrd k hk']
        by_cases c : k = a ∨ k = b
        · rw [if_pos c, Int.toNat_natCast]
        · rw [if_neg c]
          have kk := edge_kept f n a b hf hfl e2 e3 k hk' ⟨fun z => c (.inl z), fun z => c (.inr z)⟩
          constructor
          · rintro rfl; exact absurd hxab c
          · intro w; rw [w] at kk; exact absurd hxab (fun z => z.elim kk.1 kk.2))).1 rfl
    exact hxy this.symm
  have hN : NoA t a b := by
    refine ⟨alone a b ha hb hne (.inl rfl), alone b a hb ha (fun z => hne z.symm) (.inr rfl), fun ⟨z1, z2⟩ => hn2 (two_only t f n H a b ha hb hne e2 e3 fun x hx => ?_)⟩
    constructor
    · rintro (rfl | rfl)
      · rw [z1, Int.toNat_natCast]; exact .inr rfl
      · rw [z2, Int.toNat_natCast]; exact .inl rfl
    · have r := ht.2 x hx
      rintro (w | w)
      · exact .inr (hti x b hx hb (by rw [z2]; omega))
      · exact .inl (hti x a hx ha (by rw [z1]; omega))
  have hev := edL_half f n hf hfl
  refine ⟨hN, cut_map t f n hn ht hti hf hfl a b ha hb hne e2 e3 hN (by omega) F hFi hFk (fun x hx hx' => ?_) con⟩
  have c : x = a ∨ x = b := by unfold kept at hx'; omega
  rw [hrd x hx, if_pos c, Int.toNat_natCast]
  exact ⟨hx', Reach.refl _ _ _⟩
theorem con_map (t f : List Int) (n : Nat) (H : MapOk t f n) (e a b : Nat) (he : e < (edL f n).length) (hab : EdgeAt f n e a b) (hn2 : n ≠ 2) (hk : ¬ Reach [t] n a b) :
    NoA (swp t a b n) a b ∧ NoA (faces t f n) a b ∧ MapOk (outT (swp t a b n) a b n) (outF f a b n) (n - 2) := by
  obtain ⟨hn, h1, ht, hti, hf, hfl, hcon⟩ := id H
  obtain ⟨ha, hb, hne, e1, e2, e3, e4⟩ := id hab
  have sa := swp_a t a b n ha
  have sb := swp_b t a b n hb hne
  have si := swp_inR t n a b ht ha hb
  have sj := swp_inj t n a b hti ha hb hne
  have ra := ht.2 a ha
  have rb := ht.2 b hb
  have tba : rd t (b : Int) ≠ a := fun z => hk (Reach.symm (by have := Reach.step (ps := [t]) (n := n) (p := t) (by simp) hb; rwa [z, Int.toNat_natCast] at this))
  have tab : rd t (a : Int) ≠ b := fun z => hk (by have := Reach.step (ps := [t]) (n := n) (p := t) (by simp) ha; rwa [z, Int.toNat_natCast] at this)
  have both : ¬ (rd t (b : Int) = b ∧ rd t (a : Int) = a) := fun ⟨z1, z2⟩ => hn2 (two_only t f n H a b ha hb hne e2 e3 fun x hx => by
    constructor
    · rintro (rfl | rfl)
      · rw [z2, Int.toNat_natCast]; exact .inl rfl
      · rw [z1, Int.toNat_natCast]; exact .inr rfl
    · have r := ht.2 x hx
      rintro (w | w)
      · exact .inl (hti x a hx ha (by rw [z2]; omega))
      · exact .inr (hti x b hx hb (by rw [z1]; omega)))
  have hN : NoA (swp t a b n) a b := ⟨by rw [sa]; exact tba, by rw [sb]; exact tab, by rw [sa, sb]; exact both⟩
  have fca : rd (faces t f n) (a : Int) = rd t (b : Int) := by rw [faces_rd t f n a ha, e2]
  have fcb : rd (faces t f n) (b : Int) = rd t (a : Int) := by rw [faces_rd t f n b hb, e3]
  have hNf : NoA (faces t f n) a b := ⟨by rw [fca]; exact tba, by rw [fcb]; exact tab, by rw [fca, fcb]; exact both⟩
  have hj := exch_join ht si hti sj (swp_exch t n a b ha hb hne) hk
  have hev := edL_half f n hf hfl
  refine ⟨hN, hNf, cut_map (swp t a b n) f n hn si sj hf hfl a b ha hb hne e2 e3 hN (by omega) f hf (fun d hd kd => rfl) (fun x hx hx' => ?_) (fun x y hx hy S hS => ?_)⟩
  · have c : x = a ∨ x = b := by unfold kept at hx'; omega
    rcases c with rfl | rfl
    · rw [e2, Int.toNat_natCast]
      exact ⟨fun z => z.2 rfl, hj⟩
    · rw [e3, Int.toNat_natCast]
      exact ⟨fun z => z.1 rfl, hj.symm⟩
  · have ss : ∀ k : Nat, k < n → (S k ↔ S (rd (swp t a b n) (k : Int)).toNat) := hS _ (by simp)
    have sf : ∀ k : Nat, k < n → (S k ↔ S (rd f (k : Int)).toNat) := hS f (by simp)
    have sab : S a ↔ S b := by have := sf a ha; rwa [e2, Int.toNat_natCast] at this
    refine hcon x y hx hy S fun q hq k hk' => ?_
    rcases List.mem_cons.1 hq with rfl | hq
    · by_cases c : kept a b k
      · have := ss k hk'
        rwa [swp_kept _ a b n k hk' c] at this
      · have c' : k = a ∨ k = b := by unfold kept at c; omega
        rcases c' with rfl | rfl
        · have := ss b hb
          rw [sb] at this
          exact sab.trans this
        · have := ss a ha
          rw [sa] at this
          exact sab.symm.trans this
    · rw [List.mem_singleton.1 hq]
      exact sf k hk'
theorem faces_tells (p f : List Int) (n m : Nat) (a b : Nat) (ha : a < n) (hb : b < n) (hab : a ≠ b) (hf : inR n f) (hp : inR n p) (hi : injR n p) (o1 : TellsQ a b n (fun d => (rd f (d : Int)).toNat) (outF f a b n)) (o2 : inR (n - 2) (outF f a b n)) :
    TellsQ a b n (fun d => (skp p a b (rd p (rd f (d : Int)))).toNat) (faces (outT p a b n) (outF f a b n) (n - 2)) := by
  have hT := outT_tells p n hp hi a b ha hb hab
  refine ⟨faces_len _ _ _, fun d hd kd => ?_⟩
  obtain ⟨q1, q2, q3⟩ := o1.2 d hd kd
  have q1 : (rd f (d : Int)).toNat < n := q1
  have q3 : rd (outF f a b n) (nmA a b d : Int) = (nmA a b (rd f (d : Int)).toNat : Int) := q3
  have fr := hf.2 d hd
  obtain ⟨r1, r2, r3⟩ := hT.2 _ q1 q2
  have e : (((rd f (d : Int)).toNat : Nat) : Int) = rd f (d : Int) := by omega
  have r1 : (skp p a b (rd p (((rd f (d : Int)).toNat : Nat) : Int))).toNat < n := r1
  have r2 : kept a b (skp p a b (rd p (((rd f (d : Int)).toNat : Nat) : Int))).toNat := r2
  have r3 : rd (outT p a b n) (nmA a b (rd f (d : Int)).toNat : Int) = (nmA a b (skp p a b (rd p (((rd f (d : Int)).toNat : Nat) : Int))).toNat : Int) := r3
  rw [e] at r1 r2 r3
  show (skp p a b (rd p (rd f (d : Int)))).toNat < n ∧ kept a b (skp p a b (rd p (rd f (d : Int)))).toNat ∧ rd (faces (outT p a b n) (outF f a b n) (n - 2)) (nmA a b d : Int) = (nmA a b (skp p a b (rd p (rd f (d : Int)))).toNat : Int)
  refine ⟨r1, r2, ?_⟩
  rw [faces_rd _ _ _ _ (nm_bound a b n d ha hb hab hd kd), q3, r3]
theorem faces_con (t f : List Int) (n : Nat) (H : MapOk t f n) (e a b : Nat) (hab : EdgeAt f n e a b) : faces (outT (swp t a b n) a b n) (outF f a b n) (n - 2) = outT (faces t f n) a b n := by
  obtain ⟨hn, h1, ht, hti, hf, hfl, hcon⟩ := id H
  obtain ⟨ha, hb, hne, e1, e2, e3, e4⟩ := id hab
  obtain ⟨o1, o2, o3⟩ := outF_ok f n a b hf hfl ha hb hne e2 e3
  have hFi := faces_inR t f n ht hf
  have hFj := faces_inj t f n ht hti hf hfl
  have si := swp_inR t n a b ht ha hb
  have sj := swp_inj t n a b hti ha hb hne
  refine tells_ext (faces_tells _ f n n a b ha hb hne hf si sj o1 o2) (outT_tells _ n hFi hFj a b ha hb hne) ha hb hne fun d hd kd => ?_
  have kf := edge_kept f n a b hf hfl e2 e3 d hd kd
  have fr := hf.2 d hd
  show (skp (swp t a b n) a b (rd (swp t a b n) (rd f (d : Int)))).toNat = (skp (faces t f n) a b (rd (faces t f n) (d : Int))).toNat
  have e : (((rd f (d : Int)).toNat : Nat) : Int) = rd f (d : Int) := by omega
  have := swp_kept t a b n (rd f (d : Int)).toNat (by omega) kf
  rw [e] at this
  rw [this, faces_rd t f n d hd]
  rw [skp_congr (swp t a b n) (faces t f n) a b _ (by rw [swp_a _ a b n ha, faces_rd t f n a ha, e2]) (by rw [swp_b _ a b n hb hne, faces_rd t f n b hb, e3])]
theorem del_count (t f : List Int) (n : Nat) (H : MapOk t f n) (e a b : Nat) (hab : EdgeAt f n e a b) (hN : NoA t a b) (V : Nat) (hV : Cl n (Reach [t] n) V) : Cl (n - 2) (Reach [outT t a b n] (n - 2)) V := by
  obtain ⟨hn, h1, ht, hti, hf, hfl, hcon⟩ := id H
  obtain ⟨ha, hb, hne, e1, e2, e3, e4⟩ := id hab
  exact cl_left t _ n ht a b ha hb hne hN (outT_tells t n ht hti a b ha hb hne) V hV
theorem con_count (t f : List Int) (n : Nat) (H : MapOk t f n) (e a b : Nat) (hab : EdgeAt f n e a b) (hN : NoA (swp t a b n) a b) (hNf : NoA (faces t f n) a b) (hk : ¬ Reach [t] n a b) (V F : Nat) (hV : Cl n (Reach [t] n) V) (hF : Cl n (Reach [faces t f n] n) F) :
    1 ≤ V ∧ Cl (n - 2) (Reach [outT (swp t a b n) a b n] (n - 2)) (V - 1) ∧ Cl (n - 2) (Reach [faces (outT (swp t a b n) a b n) (outF f a b n) (n - 2)] (n - 2)) F := by
  obtain ⟨hn, h1, ht, hti, hf, hfl, hcon⟩ := id H
  obtain ⟨ha, hb, hne, e1, e2, e3, e4⟩ := id hab
  have si := swp_inR t n a b ht ha hb
  have sj := swp_inj t n a b hti ha hb hne
  have hFi := faces_inR t f n ht hf
  have hFj := faces_inj t f n ht hti hf hfl
  obtain ⟨W, hW, _⟩ := Cl.ex n (Reach [swp t a b n] n)
  have := (exch_count ht si hti sj (swp_exch t n a b ha hb hne) hV hW).1 hk
  have hW' : W = V - 1 := by omega
  rw [hW'] at hW
  refine ⟨by omega, cl_left _ _ n si a b ha hb hne hN (outT_tells _ n si sj a b ha hb hne) _ hW, ?_⟩
  rw [faces_con t f n H e a b hab]
  exact cl_left _ _ n hFi a b ha hb hne hNf (outT_tells _ n hFi hFj a b ha hb hne) F hF
theorem out_edges (f : List Int) (n a b : Nat) (hf : inR n f) (hfl : ∀ i : Nat, i < n → flipAt f i) (ha : a < n) (hb : b < n) (hab : a ≠ b) (fa : rd f (a : Int) = b) (fb : rd f (b : Int) = a) : (edL (outF f a b n) (n - 2)).length + 1 = (edL f n).length := by
  obtain ⟨o1, o2, o3⟩ := outF_ok f n a b hf hfl ha hb hab fa fb
  have h1 := edL_half (outF f a b n) (n - 2) o2 o3
  have h2 := edL_half f n hf hfl
  have ht := nm_total a b n ha hb hab
  omega
def insB (e : Nat) (b : Bool) (s : Nat → Bool) : Nat → Bool := fun j => if j < e then s j else if j = e then b else s (j - 1)
theorem sumB_at : ∀ (E e : Nat) (F : (Nat → Bool) → Int), e ≤ E → sumB (E + 1) F = sumB E (fun s => F (insB e false s)) + sumB E (fun s => F (insB e true s))
  | 0, e, F, he => by
    have : e = 0 := by omega
    subst this
    simp only [sumB]
    congr 2
  | E + 1, e, F, he => by
    by_cases q : e = E + 1
    · subst q
      rw [sumB]
      congr 1
      · refine sumB_congr _ _ _ fun s hs => ?_
        congr 1
        funext j
        unfold insB
        by_cases z : j = E + 1
        · rw [if_pos z, if_neg (by omega), if_pos z]
        · rw [if_neg z, if_neg z]
          by_cases y : j < E + 1
          · rw [if_pos y]
          · rw [if_neg y, hs j (by omega), hs (j - 1) (by omega)]
      · refine sumB_congr _ _ _ fun s hs => ?_
        congr 1
        funext j
        unfold insB
        by_cases z : j = E + 1
        · rw [if_pos z, if_neg (by omega), if_pos z]
        · rw [if_neg z, if_neg z]
          by_cases y : j < E + 1
          · rw [if_pos y]
          · rw [if_neg y, hs j (by omega), hs (j - 1) (by omega)]
    · have h1 := sumB_at E e (fun s => F (fun j => if j = E + 1 then false else s j)) (by omega)
      have h2 := sumB_at E e (fun s => F (fun j => if j = E + 1 then true else s j)) (by omega)
      have key : ∀ (b' b : Bool) (s : Nat → Bool), (fun j => if j = E + 1 then b' else insB e b s j) = insB e b (fun j => if j = E then b' else s j) := by
        intro b' b s
        funext j
        show (if j = E + 1 then b' else (if j < e then s j else if j = e then b else s (j - 1))) = (if j < e then (if j = E then b' else s j) else if j = e then b else (if j - 1 = E then b' else s (j - 1)))
        by_cases z : j = E + 1
        · rw [if_pos z, if_neg (by omega), if_neg (by omega), if_pos (by omega)]
        · rw [if_neg z]
          by_cases y : j < e
          · rw [if_pos y, if_pos y, if_neg (by omega)]
          · rw [if_neg y, if_neg y]
            by_cases w : j = e
            · rw [if_pos w, if_pos w]
            · rw [if_neg w, if_neg w, if_neg (by omega)]
      rw [sumB, h1, h2]
      simp only [key]
      simp only [sumB]
      omega
theorem lst_ins_lt (e : Nat) (b : Bool) (s : Nat → Bool) : ∀ m, m ≤ e → lstS (insB e b s) m = lstS s m := fun m hm => lstS_congr _ _ _ fun j hj => by unfold insB; rw [if_pos (by omega)]
theorem lst_ins_len (e : Nat) (b : Bool) (s : Nat → Bool) : ∀ m, e ≤ m → (lstS (insB e b s) (m + 1)).length = (lstS s m).length + (if b = true then 1 else 0)
  | 0, hm => by
    have : e = 0 := by omega
    subst this
    simp only [lstS, insB, Nat.lt_irrefl, if_false, if_true]
    cases b <;> rfl
  | m + 1, hm => by
    by_cases q : e = m + 1
    · subst q
      have h1 := lst_ins_lt (m + 1) b s (m + 1) (Nat.le_refl _)
      have h2 : insB (m + 1) b s (m + 1) = b := by unfold insB; rw [if_neg (Nat.lt_irrefl _), if_pos rfl]
      rw [lstS, h2, h1]
      cases b <;> simp
    · have ih := lst_ins_len e b s m (by omega)
      have h2 : insB e b s (m + 1) = s m := by unfold insB; rw [if_neg (by omega), if_neg (by omega), Nat.add_sub_cancel]
      rw [lstS, h2]
      rw [show lstS s (m + 1) = if s m = true then lstS s m ++ [(m : Int)] else lstS s m from rfl]
      by_cases z : s m = true
      · rw [if_pos z, if_pos z, List.length_append, List.length_append, ih]
        simp only [List.length_cons, List.length_nil]
        omega
      · rw [if_neg z, if_neg z, ih]
theorem out_edL (f : List Int) (n a b : Nat) (hf : inR n f) (hfl : ∀ i : Nat, i < n → flipAt f i) (ha : a < n) (hb : b < n) (hab : a < b) (fa : rd f (a : Int) = b) (fb : rd f (b : Int) = a) : ∀ i, i ≤ n → (edL (outF f a b n) (nmA a b i)).length + (if a < i then 1 else 0) = (edL f i).length
  | 0, _ => by simp [nmA, edL]
  | i + 1, hi => by
    have ih := out_edL f n a b hf hfl ha hb hab fa fb i (by omega)
    obtain ⟨o1, o2, o3⟩ := outF_ok f n a b hf hfl ha hb (by omega) fa fb
    by_cases za : i = a
    · subst za
      have hn : nmA i b (i + 1) = nmA i b i := by simp [nmA]
      rw [hn]
      rw [if_neg (Nat.lt_irrefl _)] at ih
      rw [if_pos (Nat.lt_succ_self _)]
      simp only [edL]
      rw [if_pos (by rw [fa]; omega), List.length_append]
      simp only [List.length_cons, List.length_nil]
      omega
    · by_cases zb : i = b
      · subst zb
        have hn : nmA a i (i + 1) = nmA a i i := by simp [nmA]
        rw [hn]
        rw [if_pos hab] at ih
        rw [if_pos (by omega)]
        simp only [edL]
        rw [if_neg (by rw [fb]; omega)]
        exact ih
      · have k : kept a b i := ⟨za, zb⟩
        rw [nm_kept a b i k]
        obtain ⟨q1, q2, q3⟩ := o1.2 i (by omega) k
        have q1 : (rd f (i : Int)).toNat < n := q1
        have q2 : kept a b (rd f (i : Int)).toNat := q2
        have q3 : rd (outF f a b n) (nmA a b i : Int) = (nmA a b (rd f (i : Int)).toNat : Int) := q3
        have fr := hf.2 i (by omega)
        have hlt : (nmA a b i : Int) < rd (outF f a b n) (nmA a b i : Int) ↔ (i : Int) < rd f (i : Int) := by
          rw [q3]
          constructor
          · intro h
            by_cases z : (i : Int) < rd f (i : Int)
            · exact z
            · have : nmA a b (rd f (i : Int)).toNat ≤ nmA a b i := by
                have := nm_mono a b (i - (rd f (i : Int)).toNat) (rd f (i : Int)).toNat
                rwa [show (rd f (i : Int)).toNat + (i - (rd f (i : Int)).toNat) = i by omega] at this
              omega
          · intro h
            have := nm_lt a b i (rd f (i : Int)).toNat k (by omega)
            omega
        simp only [edL]
        by_cases z : (i : Int) < rd f (i : Int)
        · rw [if_pos z, if_pos (hlt.2 z), List.length_append, List.length_append]
          simp only [List.length_cons, List.length_nil]
          by_cases w : a < i
          · rw [if_pos w] at ih
            rw [if_pos (by omega)]
            omega
          · rw [if_neg w] at ih
            rw [if_neg (by omega)]
            omega
        · rw [if_neg z, if_neg (fun y => z (hlt.1 y))]
          by_cases w : a < i
          · rw [if_pos w] at ih
            rw [if_pos (by omega)]
            exact ih
          · rw [if_neg w] at ih
            rw [if_neg (by omega)]
            exact ih
theorem least_kept (f : List Int) (n a b : Nat) (hf : inR n f) (hfl : ∀ i : Nat, i < n → flipAt f i) (ha : a < n) (hb : b < n) (hab : a ≠ b) (fa : rd f (a : Int) = b) (fb : rd f (b : Int) = a) (d : Nat) (hd : d < n) (k : kept a b d) : kept a b (least f d) ∧ least (outF f a b n) (nmA a b d) = nmA a b (least f d) := by
  obtain ⟨o1, o2, o3⟩ := outF_ok f n a b hf hfl ha hb hab fa fb
  obtain ⟨q1, q2, q3⟩ := o1.2 d hd k
  have q1 : (rd f (d : Int)).toNat < n := q1
  have q2 : kept a b (rd f (d : Int)).toNat := q2
  have q3 : rd (outF f a b n) (nmA a b d : Int) = (nmA a b (rd f (d : Int)).toNat : Int) := q3
  have fr := hf.2 d hd
  unfold least
  rw [q3]
  by_cases z : (d : Int) < rd f (d : Int)
  · have := nm_lt a b d (rd f (d : Int)).toNat k (by omega)
    rw [if_pos z, if_pos (by omega)]
    exact ⟨k, rfl⟩
  · have := nm_mono a b (d - (rd f (d : Int)).toNat) (rd f (d : Int)).toNat
    rw [show (rd f (d : Int)).toNat + (d - (rd f (d : Int)).toNat) = d by omega] at this
    rw [if_neg z, if_neg (by omega), Int.toNat_natCast]
    exact ⟨q2, rfl⟩
theorem geL_rd (f : List Int) (n : Nat) (hf : inR n f) (hfl : ∀ i : Nat, i < n → flipAt f i) (d : Nat) (hd : d < n) : rd (geL f n n) (d : Int) = ((edL f (least f d)).length : Int) := geL_at f n hf hfl n (Nat.le_refl _) d hd (least_lt f n hf hfl d hd).1
theorem chB_lst (f : List Int) (n : Nat) (hf : inR n f) (hfl : ∀ i : Nat, i < n → flipAt f i) (s : Nat → Bool) (d : Nat) (hd : d < n) : chB f n (lstS s (edL f n).length) (d : Int) = s (edL f (least f d)).length := by
  have l := least_lt f n hf hfl d hd
  have hlt := edL_lt f (least f d) l.2 n l.1
  unfold chB
  rw [geL_rd f n hf hfl d hd]
  cases h : s (edL f (least f d)).length with
  | true => exact decide_eq_true ((mem_lstS _ _ _).2 ⟨_, hlt, h, rfl⟩)
  | false =>
    refine decide_eq_false fun z => ?_
    obtain ⟨k, k1, k2, k3⟩ := (mem_lstS _ _ _).1 z
    have : k = (edL f (least f d)).length := by omega
    rw [this, h] at k2
    cases k2
theorem edge_lt (f : List Int) (n : Nat) (hf : inR n f) (hfl : ∀ i : Nat, i < n → flipAt f i) (e a b : Nat) (hab : EdgeAt f n e a b) : a < b ∧ (edL f a).length = e ∧ least f a = a ∧ least f b = a := by
  obtain ⟨ha, hb, hne, e1, e2, e3, e4⟩ := hab
  have g := geL_rd f n hf hfl a ha
  have g2 := (e4 a ha).2 (.inl rfl)
  have l := least_lt f n hf hfl a ha
  have h := edL_at f (least f a) l.2 n l.1
  rw [← g, g2, e1] at h
  have ea : least f a = a := by omega
  rw [ea] at g l
  have l2 := l.2
  rw [e2] at l2
  refine ⟨by omega, by omega, ea, ?_⟩
  unfold least
  rw [if_neg (by rw [e3]; omega), e3, Int.toNat_natCast]
theorem out_name (f : List Int) (n : Nat) (hf : inR n f) (hfl : ∀ i : Nat, i < n → flipAt f i) (e a b : Nat) (hab : EdgeAt f n e a b) (d : Nat) (hd : d < n) (k : kept a b d) (bb : Bool) (s : Nat → Bool) :
    insB e bb s (edL f (least f d)).length = s (edL (outF f a b n) (least (outF f a b n) (nmA a b d))).length ∧ (edL f (least f d)).length ≠ e := by
  obtain ⟨hlt, he, la, lb⟩ := edge_lt f n hf hfl e a b hab
  obtain ⟨ha, hb, hne, e1, e2, e3, e4⟩ := hab
  obtain ⟨k1, k2⟩ := least_kept f n a b hf hfl ha hb hne e2 e3 d hd k
  have l := least_lt f n hf hfl d hd
  have h := out_edL f n a b hf hfl ha hb hlt e2 e3 (least f d) (by omega)
  have hlt0 := edL_lt f a (by rw [e2]; omega)
  rw [k2]
  unfold insB
  by_cases z : a < least f d
  · have := hlt0 (least f d) z
    rw [if_pos z] at h
    refine ⟨?_, by omega⟩
    rw [if_neg (by omega), if_neg (by omega)]
    congr 1
    omega
  · have z' : least f d < a := by
      have := k1.1
      omega
    have := edL_lt f (least f d) l.2 a z'
    rw [if_neg z] at h
    refine ⟨?_, by omega⟩
    rw [if_pos (by omega)]
    congr 1
    omega
theorem out_chB (f : List Int) (n : Nat) (hf : inR n f) (hfl : ∀ i : Nat, i < n → flipAt f i) (e a b : Nat) (hab : EdgeAt f n e a b) (d : Nat) (hd : d < n) (k : kept a b d) (bb : Bool) (s : Nat → Bool) :
    chB (outF f a b n) (n - 2) (lstS s (edL (outF f a b n) (n - 2)).length) (nmA a b d : Int) = chB f n (lstS (insB e bb s) (edL f n).length) (d : Int) := by
  obtain ⟨ha, hb, hne, e1, e2, e3, e4⟩ := id hab
  obtain ⟨o1, o2, o3⟩ := outF_ok f n a b hf hfl ha hb hne e2 e3
  rw [chB_lst f n hf hfl _ d hd, chB_lst _ (n - 2) o2 o3 _ _ (nm_bound a b n d ha hb hne hd k)]
  exact (out_name f n hf hfl e a b hab d hd k bb s).1.symm
theorem in_chB (f : List Int) (n : Nat) (hf : inR n f) (hfl : ∀ i : Nat, i < n → flipAt f i) (e a b : Nat) (hab : EdgeAt f n e a b) (d : Nat) (hd : d < n) (k : ¬ kept a b d) (bb : Bool) (s : Nat → Bool) :
    chB f n (lstS (insB e bb s) (edL f n).length) (d : Int) = bb := by
  obtain ⟨hlt, he, la, lb⟩ := edge_lt f n hf hfl e a b hab
  rw [chB_lst f n hf hfl _ d hd]
  have : least f d = a := by
    by_cases z : d = a
    · rw [z]; exact la
    · by_cases y : d = b
      · rw [y]; exact lb
      · exact absurd ⟨z, y⟩ k
  rw [this, he]
  unfold insB
  rw [if_neg (by omega), if_pos rfl]
theorem out_flC (f : List Int) (n : Nat) (hf : inR n f) (hfl : ∀ i : Nat, i < n → flipAt f i) (e a b : Nat) (hab : EdgeAt f n e a b) (bb : Bool) (s : Nat → Bool) :
    TellsQ a b n (fun d => (rd (flC f n (lstS (insB e bb s) (edL f n).length)) (d : Int)).toNat) (flC (outF f a b n) (n - 2) (lstS s (edL (outF f a b n) (n - 2)).length)) := by
  obtain ⟨ha, hb, hne, e1, e2, e3, e4⟩ := id hab
  obtain ⟨o1, o2, o3⟩ := outF_ok f n a b hf hfl ha hb hne e2 e3
  refine ⟨flC_len _ _ _, fun d hd k => ?_⟩
  have hc := out_chB f n hf hfl e a b hab d hd k bb s
  obtain ⟨q1, q2, q3⟩ := o1.2 d hd k
  have hcn := flC_rd (outF f a b n) (n - 2) (lstS s (edL (outF f a b n) (n - 2)).length) (nmA a b d) (nm_bound a b n d ha hb hne hd k)
  have hcd := flC_rd f n (lstS (insB e bb s) (edL f n).length) d hd
  rw [hc] at hcn
  show (rd (flC f n (lstS (insB e bb s) (edL f n).length)) (d : Int)).toNat < n ∧ kept a b (rd (flC f n (lstS (insB e bb s) (edL f n).length)) (d : Int)).toNat ∧ rd (flC (outF f a b n) (n - 2) (lstS s (edL (outF f a b n) (n - 2)).length)) (nmA a b d : Int) = (nmA a b (rd (flC f n (lstS (insB e bb s) (edL f n).length)) (d : Int)).toNat : Int)
  rw [hcn, hcd]
  by_cases z : chB f n (lstS (insB e bb s) (edL f n).length) (d : Int) = true
  · simp only [if_pos z]
    exact ⟨q1, q2, q3⟩
  · simp only [if_neg z, Int.toNat_natCast]
    exact ⟨hd, k, trivial⟩
theorem cut_nums (p f : List Int) (n : Nat) (hp : inR n p) (hi : injR n p) (hf : inR n f) (hfl : ∀ i : Nat, i < n → flipAt f i) (e a b : Nat) (hab : EdgeAt f n e a b) (hN : NoA p a b) (s : Nat → Bool) (P S : Nat)
    (hP : Cl n (Reach [p, flC f n (lstS (insB e false s) (edL f n).length)] n) P) (hS : Cl n (Reach [sgL p f n (lstS (insB e false s) (edL f n).length)] n) S) :
    Cl (n - 2) (Reach [outT p a b n, flC (outF f a b n) (n - 2) (lstS s (edL (outF f a b n) (n - 2)).length)] (n - 2)) P ∧ Cl (n - 2) (Reach [sgL (outT p a b n) (outF f a b n) (n - 2) (lstS s (edL (outF f a b n) (n - 2)).length)] (n - 2)) S := by
  obtain ⟨ha, hb, hne, e1, e2, e3, e4⟩ := id hab
  have hT := outT_tells p n hp hi a b ha hb hne
  have hF := out_flC f n hf hfl e a b hab false s
  have hFi := flC_inR f n hf (lstS (insB e false s) (edL f n).length)
  have fix : ∀ x : Nat, x < n → ¬ kept a b x → rd (flC f n (lstS (insB e false s) (edL f n).length)) (x : Int) = x := by
    intro x hx k
    rw [flC_rd f n _ x hx, in_chB f n hf hfl e a b hab x hx k false s]
    rfl
  have na : ¬ kept a b a := fun z => z.1 rfl
  have nb : ¬ kept a b b := fun z => z.2 rfl
  have sa : rd (sgL p f n (lstS (insB e false s) (edL f n).length)) (a : Int) = rd p (a : Int) := by rw [sgL_rd p f n _ a ha, fix a ha na]
  have sb : rd (sgL p f n (lstS (insB e false s) (edL f n).length)) (b : Int) = rd p (b : Int) := by rw [sgL_rd p f n _ b hb, fix b hb nb]
  refine ⟨cl_left2 p _ _ _ n hp a b ha hb hne hN hT hFi hF (fun x hx k => ?_) P hP, cl_left _ _ n (sgL_inR p f n hp hf _) a b ha hb hne ?_ ⟨sgL_len _ _ _ _, fun d hd k => ?_⟩ S hS⟩
  · rw [fix x hx k, Int.toNat_natCast]
    exact ⟨k, Reach.refl _ _ x⟩
  · unfold NoA
    rw [sa, sb]
    exact hN
  · obtain ⟨q1, q2, q3⟩ := hF.2 d hd k
    obtain ⟨w1, w2, w3⟩ := hT.2 _ q1 q2
    have fr := hFi.2 d hd
    have e0 : (((rd (flC f n (lstS (insB e false s) (edL f n).length)) (d : Int)).toNat : Nat) : Int) = rd (flC f n (lstS (insB e false s) (edL f n).length)) (d : Int) := by omega
    have es : skp (sgL p f n (lstS (insB e false s) (edL f n).length)) a b (rd (sgL p f n (lstS (insB e false s) (edL f n).length)) (d : Int)) = skp p a b (rd p ((rd (flC f n (lstS (insB e false s) (edL f n).length)) (d : Int)).toNat : Int)) := by
      rw [skp_congr _ p a b _ sa sb, sgL_rd p f n _ d hd, e0]
    show (skp (sgL p f n (lstS (insB e false s) (edL f n).length)) a b (rd (sgL p f n (lstS (insB e false s) (edL f n).length)) (d : Int))).toNat < n ∧ kept a b (skp (sgL p f n (lstS (insB e false s) (edL f n).length)) a b (rd (sgL p f n (lstS (insB e false s) (edL f n).length)) (d : Int))).toNat ∧ rd (sgL (outT p a b n) (outF f a b n) (n - 2) (lstS s (edL (outF f a b n) (n - 2)).length)) (nmA a b d : Int) = (nmA a b (skp (sgL p f n (lstS (insB e false s) (edL f n).length)) a b (rd (sgL p f n (lstS (insB e false s) (edL f n).length)) (d : Int))).toNat : Int)
    rw [es, sgL_rd _ _ _ _ _ (nm_bound a b n d ha hb hne hd k)]
    refine ⟨w1, w2, ?_⟩
    rw [q3]
    exact w3
theorem term_del (t f : List Int) (n : Nat) (H : MapOk t f n) (e a b : Nat) (he : e < (edL f n).length) (hab : EdgeAt f n e a b) (hN : NoA t a b) (X Y Z : Int) (s : Nat → Bool) :
    tmV t f n X Y Z (lstS (insB e false s) (edL f n).length) = tmV (outT t a b n) (outF f a b n) (n - 2) X Y Z (lstS s (edL (outF f a b n) (n - 2)).length) := by
  obtain ⟨hn, h1, ht, hti, hf, hfl, hcon⟩ := id H
  obtain ⟨ha, hb, hne, e1, e2, e3, e4⟩ := id hab
  have oe := out_edges f n a b hf hfl ha hb hne e2 e3
  obtain ⟨c1, c2⟩ := cut_nums t f n ht hti hf hfl e a b hab hN s _ _ (clN_cl _ _) (clN_cl _ _)
  have c3 := del_count t f n H e a b hab hN _ (clN_cl _ _)
  have eP : pN (outT t a b n) (outF f a b n) (n - 2) (lstS s (edL (outF f a b n) (n - 2)).length) = pN t f n (lstS (insB e false s) (edL f n).length) := c1.eq
  have eS : sN (outT t a b n) (outF f a b n) (n - 2) (lstS s (edL (outF f a b n) (n - 2)).length) = sN t f n (lstS (insB e false s) (edL f n).length) := c2.eq
  have eV : vN (outT t a b n) (n - 2) = vN t n := c3.eq
  have hl := lst_ins_len e false s (edL (outF f a b n) (n - 2)).length (by omega)
  rw [oe] at hl
  simp only [Bool.false_eq_true, if_false, Nat.add_zero] at hl
  unfold tmV
  rw [eP, eS, eV, hl]
theorem Cl.rel {n : Nat} {R S : Nat → Nat → Prop} {k : Nat} (h : ∀ x y, R x y ↔ S x y) (hk : Cl n R k) : Cl n S k := by
  have : R = S := by funext x y; exact propext (h x y)
  rwa [← this]
theorem hold_rel (t f : List Int) (n : Nat) (H : MapOk t f n) (e a b : Nat) (hab : EdgeAt f n e a b) (hk : ¬ Reach [t] n a b) (s : Nat → Bool) :
    (∀ x y, Reach [t, flC f n (lstS (insB e true s) (edL f n).length)] n x y ↔ Reach [swp t a b n, flC f n (lstS (insB e false s) (edL f n).length)] n x y) ∧ sgL t f n (lstS (insB e true s) (edL f n).length) = sgL (swp t a b n) f n (lstS (insB e false s) (edL f n).length) := by
  obtain ⟨hn, h1, ht, hti, hf, hfl, hcon⟩ := id H
  obtain ⟨ha, hb, hne, e1, e2, e3, e4⟩ := id hab
  have si := swp_inR t n a b ht ha hb
  have sj := swp_inj t n a b hti ha hb hne
  have hj := exch_join ht si hti sj (swp_exch t n a b ha hb hne) hk
  have na : ¬ kept a b a := fun z => z.1 rfl
  have nb : ¬ kept a b b := fun z => z.2 rfl
  have f0 : ∀ x : Nat, x < n → ¬ kept a b x → rd (flC f n (lstS (insB e false s) (edL f n).length)) (x : Int) = x := by
    intro x hx k
    rw [flC_rd f n _ x hx, in_chB f n hf hfl e a b hab x hx k false s]
    rfl
  have f1 : ∀ x : Nat, x < n → ¬ kept a b x → rd (flC f n (lstS (insB e true s) (edL f n).length)) (x : Int) = rd f (x : Int) := by
    intro x hx k
    rw [flC_rd f n _ x hx, in_chB f n hf hfl e a b hab x hx k true s]
    rfl
  have fk : ∀ x : Nat, x < n → kept a b x → rd (flC f n (lstS (insB e true s) (edL f n).length)) (x : Int) = rd (flC f n (lstS (insB e false s) (edL f n).length)) (x : Int) := by
    intro x hx k
    rw [flC_rd f n _ x hx, flC_rd f n _ x hx, ← out_chB f n hf hfl e a b hab x hx k true s, ← out_chB f n hf hfl e a b hab x hx k false s]
  have kk : ∀ x : Nat, x < n → kept a b x → kept a b (rd (flC f n (lstS (insB e false s) (edL f n).length)) (x : Int)).toNat ∧ (rd (flC f n (lstS (insB e false s) (edL f n).length)) (x : Int)).toNat < n := by
    intro x hx k
    rw [flC_rd f n _ x hx]
    split
    · have := hf.2 x hx
      exact ⟨edge_kept f n a b hf hfl e2 e3 x hx k, by omega⟩
    · rw [Int.toNat_natCast]
      exact ⟨k, hx⟩
  have sa := swp_a t a b n ha
  have sb := swp_b t a b n hb hne
  have cases3 : ∀ x : Nat, x = a ∨ x = b ∨ kept a b x := by
    intro x
    by_cases z : x = a
    · exact .inl z
    · by_cases y : x = b
      · exact .inr (.inl y)
      · exact .inr (.inr ⟨z, y⟩)
  have cl : ∀ S, closedL [t, flC f n (lstS (insB e true s) (edL f n).length)] n S ↔ closedL [swp t a b n, flC f n (lstS (insB e false s) (edL f n).length)] n S := by
    intro S
    constructor
    · intro hS
      have hSt : ∀ k, k < n → (S k ↔ S (rd t (k : Int)).toNat) := hS t (by simp)
      have hSF : ∀ k, k < n → (S k ↔ S (rd (flC f n (lstS (insB e true s) (edL f n).length)) (k : Int)).toNat) := hS _ (by simp)
      have ab : S a ↔ S b := by
        have := hSF a ha
        rwa [f1 a ha na, e2, Int.toNat_natCast] at this
      intro q hq k hkn
      rcases List.mem_cons.1 hq with rfl | hq
      · rcases cases3 k with rfl | rfl | kk'
        · rw [sa, ab]; exact hSt _ hb
        · rw [sb, ← ab]; exact hSt _ ha
        · rw [swp_kept t a b n k hkn kk']; exact hSt _ hkn
      · rw [List.mem_singleton.1 hq]
        rcases cases3 k with rfl | rfl | kk'
        · rw [f0 _ hkn na, Int.toNat_natCast]
        · rw [f0 _ hkn nb, Int.toNat_natCast]
        · rw [← fk k hkn kk']; exact hSF _ hkn
    · intro hS
      have hSs : ∀ k, k < n → (S k ↔ S (rd (swp t a b n) (k : Int)).toNat) := hS _ (by simp)
      have hSF : ∀ k, k < n → (S k ↔ S (rd (flC f n (lstS (insB e false s) (edL f n).length)) (k : Int)).toNat) := hS _ (by simp)
      have ab : S a ↔ S b := hj S fun q hq => hS q (by rw [List.mem_singleton.1 hq]; simp)
      intro q hq k hkn
      rcases List.mem_cons.1 hq with rfl | hq
      · rcases cases3 k with rfl | rfl | kk'
        · have := hSs _ hb
          rw [sb] at this
          rw [ab]; exact this
        · have := hSs _ ha
          rw [sa] at this
          rw [← ab]; exact this
        · have := hSs _ hkn
          rwa [swp_kept _ a b n k hkn kk'] at this
      · rw [List.mem_singleton.1 hq]
        rcases cases3 k with rfl | rfl | kk'
        · rw [f1 _ hkn na, e2, Int.toNat_natCast]; exact ab
        · rw [f1 _ hkn nb, e3, Int.toNat_natCast]; exact ab.symm
        · rw [fk k hkn kk']; exact hSF _ hkn
  refine ⟨fun x y => ⟨fun h S hS => h S ((cl S).2 hS), fun h S hS => h S ((cl S).1 hS)⟩, list_ext _ _ (by rw [sgL_len, sgL_len]) fun d hd => ?_⟩
  rw [sgL_len] at hd
  rw [sgL_rd t f n _ d hd, sgL_rd _ f n _ d hd]
  rcases cases3 d with rfl | rfl | k
  · rw [f1 _ hd na, f0 _ hd na, e2, sa]
  · rw [f1 _ hd nb, f0 _ hd nb, e3, sb]
  · obtain ⟨k1, k2⟩ := kk d hd k
    have fr := (flC_inR f n hf (lstS (insB e false s) (edL f n).length)).2 d hd
    rw [fk d hd k, ← show (((rd (flC f n (lstS (insB e false s) (edL f n).length)) (d : Int)).toNat : Nat) : Int) = rd (flC f n (lstS (insB e false s) (edL f n).length)) (d : Int) by omega, swp_kept t a b n _ k2 k1]
theorem term_con (t f : List Int) (n : Nat) (H : MapOk t f n) (e a b : Nat) (he : e < (edL f n).length) (hab : EdgeAt f n e a b) (hk : ¬ Reach [t] n a b) (hN : NoA (swp t a b n) a b) (hNf : NoA (faces t f n) a b) (X Y Z : Int) (s : Nat → Bool) :
    tmV t f n X Y Z (lstS (insB e true s) (edL f n).length) = tmV (outT (swp t a b n) a b n) (outF f a b n) (n - 2) X Y Z (lstS s (edL (outF f a b n) (n - 2)).length) := by
  obtain ⟨hn, h1, ht, hti, hf, hfl, hcon⟩ := id H
  obtain ⟨ha, hb, hne, e1, e2, e3, e4⟩ := id hab
  have si := swp_inR t n a b ht ha hb
  have sj := swp_inj t n a b hti ha hb hne
  have oe := out_edges f n a b hf hfl ha hb hne e2 e3
  obtain ⟨r1, r2⟩ := hold_rel t f n H e a b hab hk s
  have hP := (clN_cl n (Reach [t, flC f n (lstS (insB e true s) (edL f n).length)] n)).rel r1
  have hS := clN_cl n (Reach [sgL t f n (lstS (insB e true s) (edL f n).length)] n)
  rw [r2] at hS
  obtain ⟨c1, c2⟩ := cut_nums (swp t a b n) f n si sj hf hfl e a b hab hN s _ _ hP hS
  obtain ⟨v1, c3, _⟩ := con_count t f n H e a b hab hN hNf hk _ _ (clN_cl _ _) (clN_cl _ _)
  have eP : pN (outT (swp t a b n) a b n) (outF f a b n) (n - 2) (lstS s (edL (outF f a b n) (n - 2)).length) = pN t f n (lstS (insB e true s) (edL f n).length) := c1.eq
  have eS : sN (outT (swp t a b n) a b n) (outF f a b n) (n - 2) (lstS s (edL (outF f a b n) (n - 2)).length) = sN t f n (lstS (insB e true s) (edL f n).length) := by
    unfold sN
    rw [c2.eq, r2]
  have eV : vN (outT (swp t a b n) a b n) (n - 2) = vN t n - 1 := c3.eq
  have v1 : 1 ≤ vN t n := v1
  have hl := lst_ins_len e true s (edL (outF f a b n) (n - 2)).length (by omega)
  rw [oe] at hl
  simp only [if_true] at hl
  unfold tmV
  rw [eP, eS, eV, hl]
  rw [show (lstS s (edL (outF f a b n) (n - 2)).length).length + 1 + pN t f n (lstS (insB e true s) (edL f n).length) - vN t n = (lstS s (edL (outF f a b n) (n - 2)).length).length + pN t f n (lstS (insB e true s) (edL f n).length) - (vN t n - 1) by omega]
  rw [show 2 * pN t f n (lstS (insB e true s) (edL f n).length) + ((lstS s (edL (outF f a b n) (n - 2)).length).length + 1) - vN t n - sN t f n (lstS (insB e true s) (edL f n).length) = 2 * pN t f n (lstS (insB e true s) (edL f n).length) + (lstS s (edL (outF f a b n) (n - 2)).length).length - (vN t n - 1) - sN t f n (lstS (insB e true s) (edL f n).length) by omega]
theorem term_bridge (t f : List Int) (n : Nat) (H : MapOk t f n) (e a b : Nat) (he : e < (edL f n).length) (hab : EdgeAt f n e a b) (hk : ¬ Reach [t, flC f n (restL [(e : Int)] (edL f n).length)] n a b) (X Y Z : Int) (s : Nat → Bool) :
    tmV t f n X Y Z (lstS (insB e false s) (edL f n).length) = X * tmV t f n X Y Z (lstS (insB e true s) (edL f n).length) := by
  obtain ⟨hn, h1, ht, hti, hf, hfl, hcon⟩ := id H
  obtain ⟨ha, hb, hne, e1, e2, e3, e4⟩ := id hab
  have oe := out_edges f n a b hf hfl ha hb hne e2 e3
  have hec : (e : Int) ∉ lstS (insB e false s) (edL f n).length := by
    intro z
    obtain ⟨k, k1, k2, k3⟩ := (mem_lstS _ _ _).1 z
    have : k = e := by omega
    rw [this] at k2
    unfold insB at k2
    rw [if_neg (Nat.lt_irrefl _), if_pos rfl] at k2
    cases k2
  have hmem : ∀ x, x ∈ lstS (insB e false s) (edL f n).length ++ [(e : Int)] ↔ x ∈ lstS (insB e true s) (edL f n).length := by
    intro x
    rw [List.mem_append, List.mem_singleton, mem_lstS, mem_lstS]
    constructor
    · rintro (⟨k, k1, k2, k3⟩ | rfl)
      · refine ⟨k, k1, ?_, k3⟩
        unfold insB at k2 ⊢
        by_cases y : k < e
        · rw [if_pos y] at k2 ⊢; exact k2
        · rw [if_neg y] at k2 ⊢
          by_cases w : k = e
          · rw [if_pos w]
          · rw [if_neg w] at k2 ⊢; exact k2
      · exact ⟨e, he, by unfold insB; rw [if_neg (Nat.lt_irrefl _), if_pos rfl], rfl⟩
    · rintro ⟨k, k1, k2, k3⟩
      by_cases w : k = e
      · exact .inr (by rw [k3, w])
      · refine .inl ⟨k, k1, ?_, k3⟩
        unfold insB at k2 ⊢
        rw [if_neg w] at k2 ⊢
        exact k2
  have hfc := mem_congr f n _ _ hmem
  have hsg := sgL_congr t f n _ _ hfc
  have hP' := clN_cl n (Reach [t, flC f n (lstS (insB e true s) (edL f n).length)] n)
  have hS' := clN_cl n (Reach [sgL t f n (lstS (insB e true s) (edL f n).length)] n)
  rw [← hfc] at hP'
  rw [← hsg] at hS'
  have hrd := rest_rd t f n H e a b he hab
  have far : ¬ Reach [t, flC f n (lstS (insB e false s) (edL f n).length)] n a b := by
    refine fun h => hk fun S hS => h S ?_
    have hSt : ∀ k, k < n → (S k ↔ S (rd t (k : Int)).toNat) := hS t (by simp)
    have hSF : ∀ k, k < n → (S k ↔ S (rd (flC f n (restL [(e : Int)] (edL f n).length)) (k : Int)).toNat) := hS _ (by simp)
    intro q hq k hkn
    rcases List.mem_cons.1 hq with rfl | hq
    · exact hSt k hkn
    · rw [List.mem_singleton.1 hq]
      by_cases kk : kept a b k
      · rw [flC_rd f n _ k hkn]
        split
        · have := hSF k hkn
          rw [hrd k hkn, if_neg (by intro z; rcases z with z | z; exact kk.1 z; exact kk.2 z)] at this
          exact this
        · rw [Int.toNat_natCast]
      · rw [flC_rd f n _ k hkn, in_chB f n hf hfl e a b hab k hkn kk false s]
        simp
  obtain ⟨x1, x2, x3, x4⟩ := add_edge t f n H _ e he hec a b ha hb hne e2 e3 e4 _ _ _ _ (clN_cl _ _) (clN_cl _ _) hP' hS'
  have p1 := x2 far
  have s1 := x3 fun q => far (sg_flC t f _ n hf a b q)
  rw [hfc] at p1
  rw [hsg] at s1
  have pp := (clN_cl n (Reach [t, flC f n (lstS (insB e true s) (edL f n).length)] n)).pos h1
  have hl0 := lst_ins_len e false s (edL (outF f a b n) (n - 2)).length (by omega)
  have hl1 := lst_ins_len e true s (edL (outF f a b n) (n - 2)).length (by omega)
  rw [oe] at hl0 hl1
  simp only [Bool.false_eq_true, if_false, if_true, Nat.add_zero] at hl0 hl1
  change pN t f n (lstS (insB e true s) (edL f n).length) + 1 = pN t f n (lstS (insB e false s) (edL f n).length) at p1
  change sN t f n (lstS (insB e true s) (edL f n).length) + 1 = sN t f n (lstS (insB e false s) (edL f n).length) at s1
  change 1 ≤ pN t f n (lstS (insB e true s) (edL f n).length) at pp
  unfold tmV
  rw [hl0, hl1, ← p1, ← s1]
  generalize pN t f n (lstS (insB e true s) (edL f n).length) = P at *
  generalize sN t f n (lstS (insB e true s) (edL f n).length) = S at *
  generalize (lstS s (edL (outF f a b n) (n - 2)).length).length = C at *
  generalize vN t n = V at *
  obtain ⟨P', rfl⟩ : ∃ P', P = P' + 1 := ⟨P - 1, by omega⟩
  rw [show P' + 1 + 1 - 1 = P' + 1 by omega, show P' + 1 - 1 = P' by omega, show C + (P' + 1 + 1) - V = C + 1 + (P' + 1) - V by omega, show 2 * (P' + 1 + 1) + C - V - (S + 1) = 2 * (P' + 1) + (C + 1) - V - S by omega, Int.pow_succ, Int.mul_comm (X ^ P') X, Int.mul_assoc X, Int.mul_assoc X]
theorem sumB_mul (X : Int) : ∀ (E : Nat) (F : (Nat → Bool) → Int), sumB E (fun s => X * F s) = X * sumB E F
  | 0, F => rfl
  | E + 1, F => by
    simp only [sumB]
    rw [sumB_mul X E, sumB_mul X E, Int.mul_add]
theorem val_cut (t f : List Int) (n : Nat) (H : MapOk t f n) (e a b : Nat) (he : e < (edL f n).length) (hab : EdgeAt f n e a b) (hk : ¬ Reach [t] n a b) (hNd : NoA t a b) (hN : NoA (swp t a b n) a b) (hNf : NoA (faces t f n) a b) (X Y Z : Int) :
    valS t f n X Y Z = valS (outT t a b n) (outF f a b n) (n - 2) X Y Z + valS (outT (swp t a b n) a b n) (outF f a b n) (n - 2) X Y Z := by
  obtain ⟨hn, h1, ht, hti, hf, hfl, hcon⟩ := id H
  obtain ⟨ha, hb, hne, e1, e2, e3, e4⟩ := id hab
  have oe := out_edges f n a b hf hfl ha hb hne e2 e3
  have h := sumB_at (edL (outF f a b n) (n - 2)).length e (fun s => tmV t f n X Y Z (lstS s (edL f n).length)) (by omega)
  rw [oe] at h
  unfold valS
  rw [h]
  congr 1
  · exact sumB_congr _ _ _ fun s _ => term_del t f n H e a b he hab hNd X Y Z s
  · exact sumB_congr _ _ _ fun s _ => term_con t f n H e a b he hab hk hN hNf X Y Z s
theorem val_bridge (t f : List Int) (n : Nat) (H : MapOk t f n) (e a b : Nat) (he : e < (edL f n).length) (hab : EdgeAt f n e a b) (hk : ¬ Reach [t] n a b) (hr : ¬ Reach [t, flC f n (restL [(e : Int)] (edL f n).length)] n a b) (hN : NoA (swp t a b n) a b) (hNf : NoA (faces t f n) a b) (X Y Z : Int) :
    valS t f n X Y Z = (X + 1) * valS (outT (swp t a b n) a b n) (outF f a b n) (n - 2) X Y Z := by
  obtain ⟨hn, h1, ht, hti, hf, hfl, hcon⟩ := id H
  obtain ⟨ha, hb, hne, e1, e2, e3, e4⟩ := id hab
  have oe := out_edges f n a b hf hfl ha hb hne e2 e3
  have h := sumB_at (edL (outF f a b n) (n - 2)).length e (fun s => tmV t f n X Y Z (lstS s (edL f n).length)) (by omega)
  rw [oe] at h
  unfold valS
  rw [h, sumB_congr _ _ _ fun s _ => term_bridge t f n H e a b he hab hr X Y Z s, sumB_mul, sumB_congr _ _ _ fun s _ => term_con t f n H e a b he hab hk hN hNf X Y Z s, Int.add_mul, Int.one_mul]
noncomputable def ind (P : Prop) : Int := @ite Int P (Classical.propDecidable P) 1 0
theorem ind_yes {P : Prop} (h : P) : ind P = 1 := by unfold ind; exact if_pos h
theorem ind_no {P : Prop} (h : ¬ P) : ind P = 0 := by unfold ind; exact if_neg h
theorem ind_iff {P Q : Prop} (h : P ↔ Q) : ind P = ind Q := by rw [propext h]
def cB : Nat → (Nat → Bool) → Nat
  | 0, _ => 0
  | k + 1, R => cB k R + if R k = true then 1 else 0
theorem cB_all (R : Nat → Bool) : ∀ k, (∀ v, v < k → R v = true) → cB k R = k
  | 0, _ => rfl
  | k + 1, h => by simp only [cB]; rw [cB_all R k fun v hv => h v (by omega), if_pos (h k (by omega))]
theorem cB_add (R : Nat → Bool) (q : Nat) (hq : R q = false) : ∀ k, cB k (fun v => R v || decide (v = q)) = cB k R + if q < k then 1 else 0
  | 0 => by simp [cB]
  | k + 1 => by
    simp only [cB]
    rw [cB_add R q hq k]
    by_cases z : k = q
    · subst z
      simp only [hq, Nat.lt_irrefl, Nat.lt_succ_self, Bool.false_or, decide_true, if_true, if_false, Bool.false_eq_true]
    · have : decide (k = q) = false := decide_eq_false z
      simp only [this, Bool.or_false]
      by_cases y : q < k
      · rw [if_pos y, if_pos (by omega : q < k + 1)]; omega
      · rw [if_neg y, if_neg (by omega : ¬ q < k + 1)]; omega
theorem cB_zero : ∀ k, cB k (fun v => decide (v = 0)) = if 0 < k then 1 else 0
  | 0 => rfl
  | k + 1 => by
    simp only [cB]
    rw [cB_zero k, if_pos (Nat.succ_pos k)]
    by_cases z : k = 0
    · rw [z]; rfl
    · have : decide (k = 0) = false := decide_eq_false z
      simp only [this, Bool.false_eq_true, if_false, Nat.add_zero]
      rw [if_pos (by omega)]
theorem cB_drop (W : Nat → Bool) (e : Nat) (he : W e = true) : ∀ k, e < k → cB k (fun j => if j = e then false else W j) + 1 = cB k W
  | k + 1, h => by
    simp only [cB]
    by_cases z : k = e
    · subst z
      have : ∀ m, m ≤ k → cB m (fun j => if j = k then false else W j) = cB m W := by
        intro m
        induction m with
        | zero => intro _; rfl
        | succ m ih =>
          intro hm
          simp only [cB]
          have hmk : ¬ m = k := by omega
          simp only [hmk, if_false]
          rw [ih (by omega)]
      simp only [if_true, he, Bool.false_eq_true, if_false, Nat.add_zero]
      rw [this k (Nat.le_refl _)]
    · simp only [z, if_false]
      rw [← cB_drop W e he k (by omega)]
      omega
theorem sumB_zero : ∀ E, sumB E (fun _ => 0) = 0
  | 0 => rfl
  | E + 1 => by simp only [sumB]; rw [sumB_zero E]; rfl
theorem sumB_none : ∀ E, sumB E (fun s => ind (∀ j, j < E → s j = false)) = 1
  | 0 => by
    simp only [sumB]
    exact ind_yes fun j hj => by omega
  | E + 1 => by
    simp only [sumB]
    have h1 : sumB E (fun s => ind (∀ j, j < E + 1 → (if j = E then false else s j) = false)) = 1 := by
      rw [← sumB_none E]
      refine sumB_congr _ _ _ fun s _ => ind_iff ⟨fun h j hj => ?_, fun h j hj => ?_⟩
      · have := h j (by omega)
        rwa [if_neg (by omega)] at this
      · by_cases z : j = E
        · rw [if_pos z]
        · rw [if_neg z]; exact h j (by omega)
    have h2 : sumB E (fun s => ind (∀ j, j < E + 1 → (if j = E then true else s j) = false)) = 0 := by
      rw [← sumB_zero E]
      refine sumB_congr _ _ _ fun s _ => ind_no fun h => ?_
      have := h E (Nat.lt_succ_self _)
      rw [if_pos rfl] at this
      cases this
    rw [h1, h2]
    rfl
theorem lst_none (s : Nat → Bool) : ∀ E, (lstS s E).length = 0 ↔ ∀ j, j < E → s j = false
  | 0 => ⟨fun _ j hj => by omega, fun _ => rfl⟩
  | E + 1 => by
    have ih := lst_none s E
    simp only [lstS]
    by_cases h : s E = true
    · rw [if_pos h, List.length_append]
      constructor
      · intro z
        simp only [List.length_cons, List.length_nil] at z
        omega
      · intro z
        rw [z E (Nat.lt_succ_self _)] at h
        cases h
    · rw [if_neg h, ih]
      have h' : s E = false := by cases q : s E with | true => exact absurd q h | false => rfl
      constructor
      · intro z j hj
        by_cases y : j = E
        · rw [y]; exact h'
        · exact z j (by omega)
      · exact fun z j hj => z j (by omega)
def nmE (f : List Int) (d : Nat) : Nat := (edL f (least f d)).length
def rooted (t f A : List Int) (n : Nat) (R s : Nat → Bool) : Prop := ∀ x : Nat, x < n → ∃ y : Nat, y < n ∧ R (rd A (y : Int)).toNat = true ∧ Reach [t, flC f n (lstS s (edL f n).length)] n x y
noncomputable def nF (t f A : List Int) (n nv : Nat) (R W : Nat → Bool) : Int := sumB (edL f n).length fun s => ind ((∀ j, j < (edL f n).length → s j = true → W j = true) ∧ (lstS s (edL f n).length).length + cB nv R = nv ∧ rooted t f A n R s)
def mW (f A : List Int) (n : Nat) (R W : Nat → Bool) : Nat → Nat → Int := fun a b => if R (a + 1) = true then (if a = b then 1 else 0) else sm n fun d => if W (nmE f d) = true then ctv A f ((a + 1 : Nat) : Int) ((b + 1 : Nat) : Int) d else 0
def VOk (t f A : List Int) (n nv : Nat) : Prop := MapOk t f n ∧ (∀ x : Nat, x < n → 0 ≤ rd A (x : Int) ∧ rd A (x : Int) < nv) ∧ (∀ x y : Nat, x < n → y < n → (rd A (x : Int) = rd A (y : Int) ↔ Reach [t] n x y)) ∧ ∀ v : Nat, v < nv → ∃ x : Nat, x < n ∧ rd A (x : Int) = v
theorem ins_flC (f : List Int) (n : Nat) (hf : inR n f) (hfl : ∀ i : Nat, i < n → flipAt f i) (e p q : Nat) (he : e < (edL f n).length) (hp : p < n) (hq : q < n) (fp : rd f (p : Int) = q) (fq : rd f (q : Int) = p) (hn : ∀ d : Nat, d < n → (nmE f d = e ↔ d = p ∨ d = q)) (bb : Bool) (s : Nat → Bool) (d : Nat) (hd : d < n) :
    rd (flC f n (lstS (insB e bb s) (edL f n).length)) (d : Int) = if d = p ∨ d = q then (if bb = true then rd f (d : Int) else (d : Int)) else if s (if nmE f d < e then nmE f d else nmE f d - 1) = true then rd f (d : Int) else (d : Int) := by
  rw [flC_rd f n _ d hd, chB_lst f n hf hfl _ d hd]
  show (if insB e bb s (nmE f d) = true then _ else _) = _
  unfold insB
  by_cases z : d = p ∨ d = q
  · rw [if_pos z, (hn d hd).2 z, if_neg (Nat.lt_irrefl _), if_pos rfl]
  · rw [if_neg z]
    have : nmE f d ≠ e := fun y => z ((hn d hd).1 y)
    by_cases y : nmE f d < e
    · rw [if_pos y, if_pos y]
    · rw [if_neg y, if_neg this, if_neg y]
theorem rooted_step (t f A : List Int) (n nv : Nat) (O : VOk t f A n nv) (R : Nat → Bool) (e p q : Nat) (he : e < (edL f n).length) (hp : p < n) (hq : q < n) (fp : rd f (p : Int) = q) (fq : rd f (q : Int) = p) (hn : ∀ d : Nat, d < n → (nmE f d = e ↔ d = p ∨ d = q)) (hRp : R (rd A (p : Int)).toNat = true) (s : Nat → Bool) :
    rooted t f A n R (insB e true s) ↔ rooted t f A n (fun v => R v || decide (v = (rd A (q : Int)).toNat)) (insB e false s) := by
  obtain ⟨H, ra, rs, rv⟩ := O
  obtain ⟨hn12, h1, ht, hti, hf, hfl, hcon⟩ := id H
  have F1 := fun d hd => ins_flC f n hf hfl e p q he hp hq fp fq hn true s d hd
  have F0 := fun d hd => ins_flC f n hf hfl e p q he hp hq fp fq hn false s d hd
  have hF0 := flC_inR f n hf (lstS (insB e false s) (edL f n).length)
  constructor
  · intro h x hx
    obtain ⟨y, hy, y1, y2⟩ := h x hx
    -- what reaches the new roots
    refine ((y2 (fun z => z < n → ∃ w : Nat, w < n ∧ (R (rd A (w : Int)).toNat || decide ((rd A (w : Int)).toNat = (rd A (q : Int)).toNat)) = true ∧ Reach [t, flC f n (lstS (insB e false s) (edL f n).length)] n z w) ?_).2 (fun _ => ⟨y, hy, by rw [y1]; rfl, Reach.refl _ _ _⟩)) hx
    have move : ∀ z z' : Nat, z < n → z' < n → Reach [t, flC f n (lstS (insB e false s) (edL f n).length)] n z z' → ((z < n → ∃ w : Nat, w < n ∧ (R (rd A (w : Int)).toNat || decide ((rd A (w : Int)).toNat = (rd A (q : Int)).toNat)) = true ∧ Reach [t, flC f n (lstS (insB e false s) (edL f n).length)] n z w) ↔ (z' < n → ∃ w : Nat, w < n ∧ (R (rd A (w : Int)).toNat || decide ((rd A (w : Int)).toNat = (rd A (q : Int)).toNat)) = true ∧ Reach [t, flC f n (lstS (insB e false s) (edL f n).length)] n z' w)) := by
      intro z z' hz hz' hr
      constructor
      · intro k _
        obtain ⟨w, w1, w2, w3⟩ := k hz
        exact ⟨w, w1, w2, hr.symm.trans w3⟩
      · intro k _
        obtain ⟨w, w1, w2, w3⟩ := k hz'
        exact ⟨w, w1, w2, hr.trans w3⟩
    intro L hL k hk
    rcases List.mem_cons.1 hL with rfl | hL
    · have r := ht.2 k hk
      exact move k _ hk (by omega) (Reach.step (by simp) hk)
    · rw [List.mem_singleton.1 hL, F1 k hk]
      by_cases z : k = p ∨ k = q
      · rw [if_pos z, if_pos rfl]
        have both : ∀ d : Nat, d = p ∨ d = q → ∃ w : Nat, w < n ∧ (R (rd A (w : Int)).toNat || decide ((rd A (w : Int)).toNat = (rd A (q : Int)).toNat)) = true ∧ Reach [t, flC f n (lstS (insB e false s) (edL f n).length)] n d w := by
          rintro d (rfl | rfl)
          · exact ⟨_, hp, by rw [hRp]; rfl, Reach.refl _ _ _⟩
          · exact ⟨_, hq, by simp, Reach.refl _ _ _⟩
        have z' : (rd f (k : Int)).toNat = p ∨ (rd f (k : Int)).toNat = q := by
          rcases z with rfl | rfl
          · right; rw [fp, Int.toNat_natCast]
          · left; rw [fq, Int.toNat_natCast]
        exact ⟨fun _ _ => both _ z', fun _ _ => both _ z⟩
      · have := Reach.step (ps := [t, flC f n (lstS (insB e false s) (edL f n).length)]) (n := n) (p := flC f n (lstS (insB e false s) (edL f n).length)) (by simp) hk
        have r := hF0.2 k hk
        have e0 := F0 k hk
        rw [if_neg z] at e0
        rw [if_neg z, ← e0]
        exact move k _ hk (by omega) this
  · intro h x hx
    obtain ⟨y, hy, y1, y2⟩ := h x hx
    have up : ∀ z w, Reach [t, flC f n (lstS (insB e false s) (edL f n).length)] n z w → Reach [t, flC f n (lstS (insB e true s) (edL f n).length)] n z w := by
      intro z w hr S hS
      refine hr S fun L hL k hk => ?_
      have hSt : ∀ k, k < n → (S k ↔ S (rd t (k : Int)).toNat) := hS t (by simp)
      have hSF : ∀ k, k < n → (S k ↔ S (rd (flC f n (lstS (insB e true s) (edL f n).length)) (k : Int)).toNat) := hS _ (by simp)
      rcases List.mem_cons.1 hL with rfl | hL
      · exact hSt k hk
      · rw [List.mem_singleton.1 hL, F0 k hk]
        by_cases z : k = p ∨ k = q
        · rw [if_pos z, if_neg (by decide), Int.toNat_natCast]
        · have := hSF k hk
          rw [F1 k hk, if_neg z] at this
          rw [if_neg z]
          exact this
    by_cases z : R (rd A (y : Int)).toNat = true
    · exact ⟨y, hy, z, up _ _ y2⟩
    · have e1 : (rd A (y : Int)).toNat = (rd A (q : Int)).toNat := by
        have z' : R (rd A (y : Int)).toNat = false := by cases w : R (rd A (y : Int)).toNat with | true => exact absurd w z | false => rfl
        simp only [z', Bool.false_or, decide_eq_true_eq] at y1
        exact y1
      have a1 := ra y hy
      have a2 := ra q hq
      have yq : Reach [t] n y q := (rs y q hy hq).1 (by omega)
      have qp : Reach [t, flC f n (lstS (insB e true s) (edL f n).length)] n q p := by
        have := Reach.step (ps := [t, flC f n (lstS (insB e true s) (edL f n).length)]) (n := n) (p := flC f n (lstS (insB e true s) (edL f n).length)) (by simp) hq
        rwa [F1 q hq, if_pos (.inr rfl), if_pos rfl, fq, Int.toNat_natCast] at this
      exact ⟨p, hp, hRp, ((up _ _ y2).trans (reach_wide t _ n y q yq)).trans qp⟩
theorem mt_all (f A : List Int) (n N : Nat) (R W : Nat → Bool) (hR : ∀ v, v < N + 1 → R v = true) : dC N (mW f A n R W) = 1 := dC_id N _ fun a b ha hb => by
  unfold mW
  rw [if_pos (hR _ (by omega))]
theorem nF_all (t f A : List Int) (n nv : Nat) (R W : Nat → Bool) (hR : ∀ v, v < nv → R v = true) (hA : ∀ x : Nat, x < n → 0 ≤ rd A (x : Int) ∧ rd A (x : Int) < nv) : nF t f A n nv R W = 1 := by
  unfold nF
  rw [← sumB_none (edL f n).length]
  refine sumB_congr _ _ _ fun s _ => ind_iff ?_
  have hc := cB_all R nv hR
  constructor
  · rintro ⟨_, h, _⟩
    exact (lst_none s _).1 (by omega)
  · intro h
    have h0 := (lst_none s _).2 h
    refine ⟨fun j hj z => ?_, by omega, fun x hx => ⟨x, hx, ?_, Reach.refl _ _ _⟩⟩
    · rw [h j hj] at z; cases z
    · have := hA x hx
      exact hR _ (by omega)
def stuck (f A : List Int) (n : Nat) (R W : Nat → Bool) : Prop := ∀ d : Nat, d < n → W (nmE f d) = true → R (rd A (d : Int)).toNat = true → R (rd A (rd f (d : Int))).toNat = true
theorem nm_flip (f : List Int) (n : Nat) (hf : inR n f) (hfl : ∀ i : Nat, i < n → flipAt f i) (d : Nat) (hd : d < n) : nmE f (rd f (d : Int)).toNat = nmE f d := by
  have fr := hf.2 d hd
  obtain ⟨f1, f2⟩ := hfl d hd
  unfold nmE
  congr 2
  unfold least
  rw [show (((rd f (d : Int)).toNat : Nat) : Int) = rd f (d : Int) by omega, f2]
  by_cases z : (d : Int) < rd f (d : Int)
  · rw [if_neg (by omega), if_pos z, Int.toNat_natCast]
  · rw [if_pos (by omega), if_neg z]
theorem nF_stuck (t f A : List Int) (n nv : Nat) (O : VOk t f A n nv) (R W : Nat → Bool) (hs : stuck f A n R W) (v : Nat) (hv : v < nv) (hRv : R v = false) : nF t f A n nv R W = 0 := by
  obtain ⟨H, ra, rs, rv⟩ := O
  obtain ⟨hn12, h1, ht, hti, hf, hfl, hcon⟩ := id H
  unfold nF
  rw [← sumB_zero (edL f n).length]
  refine sumB_congr _ _ _ fun s _ => ind_no ?_
  rintro ⟨h1', _, h3⟩
  obtain ⟨x, hx, ex⟩ := rv v hv
  obtain ⟨y, hy, y1, y2⟩ := h3 x hx
  have := (y2 (fun z => z < n → R (rd A (z : Int)).toNat = true) ?_).2 (fun _ => y1) hx
  · rw [ex, Int.toNat_natCast, hRv] at this
    cases this
  · intro L hL k hk
    rcases List.mem_cons.1 hL with rfl | hL
    · have r := ht.2 k hk
      have e : rd A (k : Int) = rd A ((rd L (k : Int)).toNat : Int) := (rs k _ hk (by omega)).2 (Reach.step (by simp) hk)
      show (k < n → R (rd A (k : Int)).toNat = true) ↔ ((rd L (k : Int)).toNat < n → R (rd A ((rd L (k : Int)).toNat : Int)).toNat = true)
      rw [← e]
      exact ⟨fun q _ => q hk, fun q _ => q (by omega)⟩
    · rw [List.mem_singleton.1 hL, flC_rd f n _ k hk, chB_lst f n hf hfl s k hk]
      have fr := hf.2 k hk
      by_cases z : s (edL f (least f k)).length = true
      · rw [if_pos z]
        have hlt : (edL f (least f k)).length < (edL f n).length := by
          have l := least_lt f n hf hfl k hk
          exact edL_lt f (least f k) l.2 n l.1
        have hw := h1' _ hlt z
        have e0 : (((rd f (k : Int)).toNat : Nat) : Int) = rd f (k : Int) := by omega
        constructor
        · intro q _
          rw [e0]
          exact hs k hk hw (q hk)
        · intro q _
          have := hs (rd f (k : Int)).toNat (by omega) (by rw [nm_flip f n hf hfl k hk]; exact hw) (q (by omega))
          rwa [e0, (hfl k hk).2] at this
      · rw [if_neg z, Int.toNat_natCast]
theorem mt_stuck (t f A : List Int) (n N : Nat) (O : VOk t f A n (N + 1)) (R W : Nat → Bool) (h0 : R 0 = true) (hs : stuck f A n R W) (v : Nat) (hv : v < N + 1) (hRv : R v = false) : dC N (mW f A n R W) = 0 := by
  obtain ⟨H, ra, rs, rv⟩ := O
  obtain ⟨hn12, h1, ht, hti, hf, hfl, hcon⟩ := id H
  have hv0 : v ≠ 0 := fun z => by rw [z, h0] at hRv; cases hRv
  refine dC_cols N _ (fun b => !R (b + 1)) (v - 1) (by omega) (by show (!R (v - 1 + 1)) = true; rw [show v - 1 + 1 = v by omega, hRv]; rfl) fun a ha => ?_
  by_cases hRa : R (a + 1) = true
  · refine sm_all _ N fun b hb => ?_
    unfold mW
    rw [if_pos hRa]
    by_cases z : a = b
    · rw [← z, hRa]; rfl
    · rw [if_neg z]; split <;> rfl
  · have hRa' : R (a + 1) = false := by cases q : R (a + 1) with | true => exact absurd q hRa | false => rfl
    have e1 : sm N (fun b => if (!R (b + 1)) = true then mW f A n R W a b else 0) = sm N (fun b => sm n fun d => if (!R (b + 1)) = true then (if W (nmE f d) = true then ctv A f ((a + 1 : Nat) : Int) ((b + 1 : Nat) : Int) d else 0) else 0) := by
      refine sm_congr _ _ N fun b hb => ?_
      by_cases z : (!R (b + 1)) = true
      · rw [if_pos z]
        unfold mW
        rw [if_neg hRa]
        refine sm_congr _ _ n fun d hd => ?_
        rw [if_pos z]
      · rw [if_neg z]
        exact (sm_all _ n fun d hd => by rw [if_neg z]).symm
    show sm N (fun b => if (!R (b + 1)) = true then mW f A n R W a b else 0) = 0
    rw [e1, sm_comm]
    refine sm_all _ n fun d hd => ?_
    by_cases hw : W (nmE f d) = true
    · by_cases hA : rd A (d : Int) = ((a + 1 : Nat) : Int) ∧ ¬ rd A (rd f (d : Int)) = ((a + 1 : Nat) : Int)
      · -- the other end is no root either
        have fr := hf.2 d hd
        have e0 : (((rd f (d : Int)).toNat : Nat) : Int) = rd f (d : Int) := by omega
        have ro := ra (rd f (d : Int)).toNat (by omega)
        rw [e0] at ro
        have hno : R (rd A (rd f (d : Int))).toNat = false := by
          cases q : R (rd A (rd f (d : Int))).toNat with
          | false => rfl
          | true =>
            have := hs (rd f (d : Int)).toNat (by omega) (by rw [nm_flip f n hf hfl d hd]; exact hw) (by rw [e0]; exact q)
            rw [e0, (hfl d hd).2, hA.1, Int.toNat_natCast, hRa'] at this
            cases this
        obtain ⟨o, ho⟩ : ∃ o : Nat, rd A (rd f (d : Int)) = ((o + 1 : Nat) : Int) := by
          refine ⟨(rd A (rd f (d : Int))).toNat - 1, ?_⟩
          have : (rd A (rd f (d : Int))).toNat ≠ 0 := fun z => by rw [z, h0] at hno; cases hno
          omega
        have hoa : o ≠ a := fun z => hA.2 (by rw [ho, z])
        have hoN : o < N := by omega
        rw [ho, Int.toNat_natCast] at hno
        have val : ∀ b : Nat, ctv A f ((a + 1 : Nat) : Int) ((b + 1 : Nat) : Int) d = if b = a then 1 else if b = o then -1 else 0 := by
          intro b
          unfold ctv
          rw [if_pos hA, ho]
          by_cases z : b = a
          · rw [if_pos z, if_pos (by omega)]
          · rw [if_neg z, if_neg (by omega)]
            by_cases y : b = o
            · rw [if_pos y, if_pos (by omega)]
            · rw [if_neg y, if_neg (by omega)]
        simp only [hw, if_true, val]
        have hz : ∀ r, r ≠ a → r ≠ o → (if (!R (r + 1)) = true then (if r = a then (1 : Int) else if r = o then -1 else 0) else 0) = 0 := fun r y1 y2 => by
          rw [if_neg y1, if_neg y2]; split <;> rfl
        have ga : (if (!R (a + 1)) = true then (if a = a then (1 : Int) else if a = o then -1 else 0) else 0) = 1 := by rw [hRa']; simp
        have go : (if (!R (o + 1)) = true then (if o = a then (1 : Int) else if o = o then -1 else 0) else 0) = -1 := by rw [hno, if_neg hoa]; simp
        by_cases y : a < o
        · rw [sm_two _ a o y N hoN fun r hr y1 y2 => hz r y1 y2, ga, go]; rfl
        · rw [sm_two _ o a (by omega) N ha fun r hr y1 y2 => hz r y2 y1, ga, go]; rfl
      · refine sm_all _ N fun b hb => ?_
        unfold ctv
        rw [if_neg hA]
        simp
    · refine sm_all _ N fun b hb => ?_
      rw [if_neg hw]
      simp
def leaving (f A : List Int) (n : Nat) (R W : Nat → Bool) (e p q : Nat) : Prop := e < (edL f n).length ∧ p < n ∧ q < n ∧ rd f (p : Int) = q ∧ rd f (q : Int) = p ∧ (∀ d : Nat, d < n → (nmE f d = e ↔ d = p ∨ d = q)) ∧ W e = true ∧ R (rd A (p : Int)).toNat = true ∧ R (rd A (q : Int)).toNat = false
theorem nF_step (t f A : List Int) (n nv : Nat) (O : VOk t f A n nv) (R W : Nat → Bool) (e p q : Nat) (L : leaving f A n R W e p q) :
    nF t f A n nv R W = nF t f A n nv R (fun j => if j = e then false else W j) + nF t f A n nv (fun v => R v || decide (v = (rd A (q : Int)).toNat)) (fun j => if j = e then false else W j) := by
  obtain ⟨he, hp, hq, fp, fq, hn, hW, hRp, hRq⟩ := L
  obtain ⟨E', hE⟩ : ∃ E', (edL f n).length = E' + 1 := ⟨(edL f n).length - 1, by omega⟩
  have key : ∀ F, sumB (edL f n).length F = sumB E' (fun s => F (insB e false s)) + sumB E' (fun s => F (insB e true s)) := fun F => by rw [hE]; exact sumB_at E' e F (by omega)
  have ie : ∀ (b : Bool) (s : Nat → Bool), insB e b s e = b := fun b s => by unfold insB; rw [if_neg (Nat.lt_irrefl _), if_pos rfl]
  have io : ∀ (s : Nat → Bool) (j : Nat), j ≠ e → insB e true s j = insB e false s j := fun s j hj => by
    unfold insB
    by_cases y : j < e
    · rw [if_pos y, if_pos y]
    · rw [if_neg y, if_neg y, if_neg hj, if_neg hj]
  have ln : ∀ (b : Bool) (s : Nat → Bool), (lstS (insB e b s) (edL f n).length).length = (lstS s E').length + (if b = true then 1 else 0) := fun b s => by rw [hE]; exact lst_ins_len e b s E' (by omega)
  have rq := O.2.1 q hq
  have hcb := cB_add R (rd A (q : Int)).toNat hRq nv
  rw [if_pos (by omega)] at hcb
  unfold nF
  rw [key, key, key]
  have z1 : sumB E' (fun s => ind ((∀ j, j < (edL f n).length → insB e true s j = true → (if j = e then false else W j) = true) ∧ (lstS (insB e true s) (edL f n).length).length + cB nv R = nv ∧ rooted t f A n R (insB e true s))) = 0 := by
    rw [← sumB_zero E']
    refine sumB_congr _ _ _ fun s _ => ind_no fun h => ?_
    have := h.1 e he (ie true s)
    rw [if_pos rfl] at this
    cases this
  have z2 : sumB E' (fun s => ind ((∀ j, j < (edL f n).length → insB e true s j = true → (if j = e then false else W j) = true) ∧ (lstS (insB e true s) (edL f n).length).length + cB nv (fun v => R v || decide (v = (rd A (q : Int)).toNat)) = nv ∧ rooted t f A n (fun v => R v || decide (v = (rd A (q : Int)).toNat)) (insB e true s))) = 0 := by
    rw [← sumB_zero E']
    refine sumB_congr _ _ _ fun s _ => ind_no fun h => ?_
    have := h.1 e he (ie true s)
    rw [if_pos rfl] at this
    cases this
  rw [z1, z2, Int.add_zero, Int.add_zero]
  congr 1
  · refine sumB_congr _ _ _ fun s _ => ind_iff ⟨fun h => ⟨fun j hj z => ?_, h.2⟩, fun h => ⟨fun j hj z => ?_, h.2⟩⟩
    · by_cases y : j = e
      · rw [y, ie] at z; cases z
      · show (if j = e then false else W j) = true
        rw [if_neg y]; exact h.1 j hj z
    · by_cases y : j = e
      · rw [y]; exact hW
      · have : (if j = e then false else W j) = true := h.1 j hj z
        rwa [if_neg y] at this
  · refine sumB_congr _ _ _ fun s _ => ind_iff ?_
    have r := rooted_step t f A n nv O R e p q he hp hq fp fq hn hRp s
    have l1 := ln true s
    have l0 := ln false s
    rw [if_pos rfl] at l1
    rw [if_neg (by decide)] at l0
    constructor
    · rintro ⟨h1, h2, h3⟩
      refine ⟨fun j hj z => ?_, by omega, r.1 h3⟩
      by_cases y : j = e
      · rw [y, ie] at z; cases z
      · show (if j = e then false else W j) = true
        rw [if_neg y]; exact h1 j hj (by rw [io s j y]; exact z)
    · rintro ⟨h1, h2, h3⟩
      refine ⟨fun j hj z => ?_, by omega, r.2 h3⟩
      by_cases y : j = e
      · rw [y]; exact hW
      · have : (if j = e then false else W j) = true := h1 j hj (by rw [← io s j y]; exact z)
        rwa [if_neg y] at this
theorem mt_step (t f A : List Int) (n N : Nat) (O : VOk t f A n (N + 1)) (R W : Nat → Bool) (h0 : R 0 = true) (e p q : Nat) (L : leaving f A n R W e p q) :
    dC N (mW f A n R W) = dC N (mW f A n R (fun j => if j = e then false else W j)) + dC N (mW f A n (fun v => R v || decide (v = (rd A (q : Int)).toNat)) (fun j => if j = e then false else W j)) := by
  obtain ⟨he, hp, hq, fp, fq, hn, hW, hRp, hRq⟩ := L
  have rq := O.2.1 q hq
  have rp := O.2.1 p hp
  have q0 : (rd A (q : Int)).toNat ≠ 0 := fun z => by rw [z, h0] at hRq; cases hRq
  obtain ⟨i, hi⟩ : ∃ i : Nat, rd A (q : Int) = ((i + 1 : Nat) : Int) := ⟨(rd A (q : Int)).toNat - 1, by omega⟩
  have hiN : i < N := by omega
  have hqi : (rd A (q : Int)).toNat = i + 1 := by omega
  rw [hqi] at hRq ⊢
  have hRi : ¬ R (i + 1) = true := by rw [hRq]; decide
  have pne : ∀ a : Nat, R (a + 1) = false → ¬ rd A (p : Int) = ((a + 1 : Nat) : Int) := fun a ha z => by rw [z, Int.toNat_natCast, ha] at hRp; cases hRp
  have old : ∀ a b, a < N → b < N → a ≠ i → mW f A n R (fun j => if j = e then false else W j) a b = mW f A n R W a b := by
    intro a b ha hb hai
    unfold mW
    by_cases z : R (a + 1) = true
    · rw [if_pos z, if_pos z]
    · have z' : R (a + 1) = false := by cases w : R (a + 1) with | true => exact absurd w z | false => rfl
      rw [if_neg z, if_neg z]
      refine sm_congr _ _ n fun d hd => ?_
      show (if (if nmE f d = e then false else W (nmE f d)) = true then ctv A f ((a + 1 : Nat) : Int) ((b + 1 : Nat) : Int) d else 0) = _
      by_cases y : nmE f d = e
      · simp only [y, hW, if_true, Bool.false_eq_true, if_false]
        unfold ctv
        refine (if_neg ?_).symm
        rintro ⟨w, _⟩
        rcases (hn d hd).1 y with rfl | rfl
        · exact pne a z' w
        · rw [hi] at w
          omega
      · simp only [y, if_false]
  have row : ∀ b, b < N → mW f A n R W i b = mW f A n R (fun j => if j = e then false else W j) i b + ((if b = i then 1 else 0) - (if rd A (p : Int) = ((b + 1 : Nat) : Int) then 1 else 0)) := by
    intro b hb
    unfold mW
    rw [if_neg hRi, if_neg hRi]
    have one : sm n (fun d => if nmE f d = e then ctv A f ((i + 1 : Nat) : Int) ((b + 1 : Nat) : Int) d else 0) = (if b = i then 1 else 0) - (if rd A (p : Int) = ((b + 1 : Nat) : Int) then 1 else 0) := by
      rw [sm_one _ q n hq fun d hd hdq => ?_]
      · rw [if_pos ((hn q hq).2 (.inr rfl))]
        unfold ctv
        rw [fq, if_pos ⟨hi, pne i hRq⟩]
        by_cases z : b = i
        · rw [if_pos (by omega), if_pos z, if_neg (by rw [z]; exact pne i hRq)]; rfl
        · rw [if_neg (by omega), if_neg z]
          by_cases y : rd A (p : Int) = ((b + 1 : Nat) : Int)
          · rw [if_pos y.symm, if_pos y]; rfl
          · rw [if_neg (fun w => y w.symm), if_neg y]; rfl
      · by_cases y : nmE f d = e
        · rw [if_pos y]
          rcases (hn d hd).1 y with rfl | w
          · unfold ctv
            rw [if_neg]
            exact fun w => pne i hRq w.1
          · exact absurd w hdq
        · rw [if_neg y]
    rw [← one, sm_add]
    refine sm_congr _ _ n fun d hd => ?_
    by_cases y : nmE f d = e
    · simp only [y, hW, if_true, Bool.false_eq_true, if_false, Int.zero_add]
    · simp only [y, if_false, Int.add_zero]
  have s1 : dC N (mW f A n R W) = dC N (mW f A n R (fun j => if j = e then false else W j)) + dC N (setR (mW f A n R (fun j => if j = e then false else W j)) i fun b => (if b = i then 1 else 0) - (if rd A (p : Int) = ((b + 1 : Nat) : Int) then 1 else 0)) :=
    dC_add N i _ _ _ hiN (fun b hb => by
      unfold setR
      rw [if_pos rfl]
      exact row b hb) fun a b ha hb hai => by
      unfold setR
      rw [if_neg hai]
      exact ⟨old a b ha hb hai, old a b ha hb hai⟩
  have s2 := setR_add N (mW f A n R (fun j => if j = e then false else W j)) i hiN (fun b => (if b = i then 1 else 0) - (if rd A (p : Int) = ((b + 1 : Nat) : Int) then 1 else 0)) (fun b => if rd A (p : Int) = ((b + 1 : Nat) : Int) then 1 else 0) (fun b => if b = i then 1 else 0) (fun b hb => by omega)
  have s3 : dC N (setR (mW f A n R (fun j => if j = e then false else W j)) i fun b => if rd A (p : Int) = ((b + 1 : Nat) : Int) then 1 else 0) = 0 := by
    by_cases z : rd A (p : Int) = 0
    · exact setR_zero N _ i hiN _ fun b hb => if_neg (by omega)
    · obtain ⟨k, hk⟩ : ∃ k : Nat, rd A (p : Int) = ((k + 1 : Nat) : Int) := ⟨(rd A (p : Int)).toNat - 1, by omega⟩
      have hRk : R (k + 1) = true := by rw [hk, Int.toNat_natCast] at hRp; exact hRp
      have hki : k ≠ i := fun w => hRi (by rw [← w]; exact hRk)
      refine Eq.trans (dC_congr N _ (setR (mW f A n R (fun j => if j = e then false else W j)) i (mW f A n R (fun j => if j = e then false else W j) k)) fun a b ha hb => ?_) (setR_other N _ i k hiN (by omega) hki)
      unfold setR
      by_cases y : a = i
      · rw [if_pos y, if_pos y]
        unfold mW
        rw [if_pos hRk, hk]
        show (if ((k + 1 : Nat) : Int) = ((b + 1 : Nat) : Int) then (1 : Int) else 0) = if k = b then 1 else 0
        by_cases w : k = b
        · rw [if_pos w, if_pos (by omega)]
        · rw [if_neg w, if_neg (by omega)]
      · rw [if_neg y, if_neg y]
  have s4 : dC N (setR (mW f A n R (fun j => if j = e then false else W j)) i fun b => if b = i then 1 else 0) = dC N (mW f A n (fun v => R v || decide (v = i + 1)) (fun j => if j = e then false else W j)) := by
    refine dC_congr N _ _ fun a b ha hb => ?_
    unfold setR
    by_cases y : a = i
    · rw [if_pos y]
      unfold mW
      rw [if_pos (by rw [y]; simp), y]
      show (if b = i then (1 : Int) else 0) = if i = b then 1 else 0
      by_cases w : b = i
      · rw [if_pos w, if_pos w.symm]
      · rw [if_neg w, if_neg (fun u => w u.symm)]
    · rw [if_neg y]
      unfold mW
      have : (R (a + 1) || decide (a + 1 = i + 1)) = R (a + 1) := by rw [decide_eq_false (by omega), Bool.or_false]
      simp only [this]
  rw [s1, ← s4, s2, s3, Int.add_zero]
theorem mt (t f A : List Int) (n N : Nat) (O : VOk t f A n (N + 1)) : ∀ (k : Nat) (W R : Nat → Bool), cB (edL f n).length W = k → R 0 = true → dC N (mW f A n R W) = nF t f A n (N + 1) R W := by
  obtain ⟨H, ra, rs, rv⟩ := id O
  obtain ⟨hn12, h1, ht, hti, hf, hfl, hcon⟩ := id H
  intro k
  induction k with
  | zero =>
    intro W R hk h0
    by_cases hall : ∀ v, v < N + 1 → R v = true
    · rw [mt_all f A n N R W hall, nF_all t f A n (N + 1) R W hall ra]
    · obtain ⟨v, hv⟩ := Classical.not_forall.1 hall
      obtain ⟨hv, hRv⟩ := Classical.not_imp.1 hv
      have hRv' : R v = false := by cases w : R v with | true => exact absurd w hRv | false => rfl
      have hst : stuck f A n R W := fun d hd hw => by
        have l := least_lt f n hf hfl d hd
        have hlt := edL_lt f (least f d) l.2 n l.1
        have := cB_drop W (nmE f d) hw (edL f n).length hlt
        omega
      rw [mt_stuck t f A n N O R W h0 hst v hv hRv', nF_stuck t f A n (N + 1) O R W hst v hv hRv']
  | succ k ih =>
    intro W R hk h0
    by_cases hall : ∀ v, v < N + 1 → R v = true
    · rw [mt_all f A n N R W hall, nF_all t f A n (N + 1) R W hall ra]
    · obtain ⟨v, hv⟩ := Classical.not_forall.1 hall
      obtain ⟨hv, hRv⟩ := Classical.not_imp.1 hv
      have hRv' : R v = false := by cases w : R v with | true => exact absurd w hRv | false => rfl
      by_cases hst : stuck f A n R W
      · rw [mt_stuck t f A n N O R W h0 hst v hv hRv', nF_stuck t f A n (N + 1) O R W hst v hv hRv']
      · -- an edge leaves the roots
        obtain ⟨d, hd⟩ := Classical.not_forall.1 hst
        obtain ⟨hd, hd2⟩ := Classical.not_imp.1 hd
        obtain ⟨hw, hd3⟩ := Classical.not_imp.1 hd2
        obtain ⟨hRd, hRo⟩ := Classical.not_imp.1 hd3
        have l := least_lt f n hf hfl d hd
        have hlt : nmE f d < (edL f n).length := edL_lt f (least f d) l.2 n l.1
        have fr := hf.2 d hd
        have e0 : (((rd f (d : Int)).toNat : Nat) : Int) = rd f (d : Int) := by omega
        have hRo' : R (rd A (rd f (d : Int))).toNat = false := by cases w : R (rd A (rd f (d : Int))).toNat with | true => exact absurd w hRo | false => rfl
        obtain ⟨a, b, ha, hb, hab, e1, e2, e3, e4⟩ := edge_at f n hf hfl (nmE f d) hlt
        have gl : ∀ x : Nat, x < n → rd (geL f n n) (x : Int) = (nmE f x : Int) := fun x hx => geL_rd f n hf hfl x hx
        have hname : ∀ x : Nat, x < n → (nmE f x = nmE f d ↔ x = d ∨ x = (rd f (d : Int)).toNat) := by
          intro x hx
          have w := e4 x hx
          rw [gl x hx] at w
          have wd := (e4 d hd).1 (gl d hd)
          constructor
          · intro y
            have := w.1 (by omega)
            rcases wd with rfl | rfl
            · rw [e2, Int.toNat_natCast]; exact this
            · rw [e3, Int.toNat_natCast]; exact this.symm
          · rintro (rfl | rfl)
            · rfl
            · exact nm_flip f n hf hfl d hd
        have L : leaving f A n R W (nmE f d) d (rd f (d : Int)).toNat := ⟨hlt, hd, by omega, by omega, by rw [e0]; exact (hfl d hd).2, hname, hw, hRd, by rw [e0]; exact hRo'⟩
        have hk' := cB_drop W (nmE f d) hw (edL f n).length hlt
        rw [mt_step t f A n N O R W h0 _ _ _ L, nF_step t f A n (N + 1) O R W _ _ _ L, ih _ R (by omega) h0, ih _ _ (by omega) (by rw [h0]; rfl)]
theorem vOk_of (t f : List Int) (hm : isMap t f) : VOk t f (vtx t t.length) t.length (cyS t t.length t.length).2.length := by
  have H := mapOk_of t f hm
  obtain ⟨hn, h1, ht, hti, hf, hfl, hcon⟩ := id H
  have hr := fun x hx => vtx_range t t.length h1 ht x hx
  have hs := fun x y hx hy => vtx_same t t.length ht hti x y hx hy
  refine ⟨H, hr, hs, fun v hv => ?_⟩
  obtain ⟨L, l1, l2, l3⟩ := cyS_cl t t.length ht hti
  by_cases z : v ∈ L.map (fun (x : Nat) => (rd (vtx t t.length) (x : Int)).toNat)
  · obtain ⟨x, hx, e⟩ := List.mem_map.1 z
    have hx' := ((l2 x).1 hx).1
    have := hr x hx'
    exact ⟨x, hx', by omega⟩
  · exfalso
    have nd : (L.map (fun (x : Nat) => (rd (vtx t t.length) (x : Int)).toNat)).Nodup := by
      refine List.pairwise_map.2 (List.Pairwise.imp_of_mem (fun {a b} ha hb hab e => hab ?_) l1)
      have ha' := (l2 a).1 ha
      have hb' := (l2 b).1 hb
      have r1 := hr a ha'.1
      have r2 := hr b hb'.1
      have : Reach [t] t.length a b := (hs a b ha'.1 hb'.1).1 (by omega)
      exact lst_uniq _ (fun x y h => h.symm) a b ha'.2 hb'.2 this
    have := len_le_of_sub (v :: L.map (fun (x : Nat) => (rd (vtx t t.length) (x : Int)).toNat)) (List.range (cyS t t.length t.length).2.length) (List.nodup_cons.2 ⟨z, nd⟩) (fun x hx => by
      rcases List.mem_cons.1 hx with rfl | hx
      · exact List.mem_range.2 hv
      · obtain ⟨y, hy, rfl⟩ := List.mem_map.1 hx
        have := hr y ((l2 y).1 hy).1
        exact List.mem_range.2 (by omega))
    simp only [List.length_cons, List.length_map, List.length_range] at this
    omega
theorem rooted_one (t f A : List Int) (n nv : Nat) (O : VOk t f A n nv) (h1 : 1 ≤ nv) (s : Nat → Bool) : rooted t f A n (fun v => decide (v = 0)) s ↔ pN t f n (lstS s (edL f n).length) = 1 := by
  obtain ⟨H, ra, rs, rv⟩ := O
  obtain ⟨hn12, hn1, ht, hti, hf, hfl, hcon⟩ := id H
  constructor
  · intro h
    have all : ∀ x, x < n → Reach [t, flC f n (lstS s (edL f n).length)] n 0 x := by
      intro x hx
      obtain ⟨y0, hy0, a0, r0⟩ := h 0 hn1
      obtain ⟨y, hy, a1, r1⟩ := h x hx
      have b0 := ra y0 hy0
      have b1 := ra y hy
      have a0 := of_decide_eq_true a0
      have a1 := of_decide_eq_true a1
      have : Reach [t] n y0 y := (rs y0 y hy0 hy).1 (by omega)
      exact (r0.trans (reach_wide t _ n y0 y this)).trans r1.symm
    have : Cl n (Reach [t, flC f n (lstS s (edL f n).length)] n) 1 := by
      refine ⟨[0], by simp, fun x => ?_, rfl⟩
      rw [List.mem_singleton]
      constructor
      · rintro rfl
        exact ⟨hn1, fun i hi => by omega⟩
      · rintro ⟨hx, hl⟩
        by_cases z : x = 0
        · exact z
        · exact absurd (all x hx) (hl 0 (by omega))
    exact this.eq
  · intro h x hx
    obtain ⟨y, hy, ey⟩ := rv 0 h1
    have c := clN_cl n (Reach [t, flC f n (lstS s (edL f n).length)] n)
    have h' : clN n (Reach [t, flC f n (lstS s (edL f n).length)] n) = 1 := h
    rw [h'] at c
    exact ⟨y, hy, by rw [ey]; rfl, cl_one (fun x => Reach.refl _ _ x) (fun x y h => h.symm) (fun x y z h h' => h.trans h') c x y hx hy⟩
theorem nF_trees (t f A : List Int) (n nv : Nat) (O : VOk t f A n nv) (h1 : 1 ≤ nv) (hV : vN t n = nv) (Z : Int) : nF t f A n nv (fun v => decide (v = 0)) (fun _ => true) = valS t f n 0 0 Z := by
  unfold nF valS
  refine sumB_congr _ _ _ fun s _ => ?_
  rw [term_zero t f n O.1 Z _ (lstS_choice s _), cB_zero, if_pos (by omega), hV]
  have r := rooted_one t f A n nv O h1 s
  by_cases z : pN t f n (lstS s (edL f n).length) = 1 ∧ (lstS s (edL f n).length).length + 1 = nv
  · rw [if_pos z]
    exact ind_yes ⟨fun _ _ _ => rfl, z.2, r.2 z.1⟩
  · rw [if_neg z]
    exact ind_no fun h => z ⟨r.1 h.2.2, h.2.1⟩
theorem tree_det (t f A : List Int) (n N : Nat) (O : VOk t f A n (N + 1)) (hV : vN t n = N + 1) (Z : Int) : dC N (ent (tabT A f N n)) = valS t f n 0 0 Z := by
  rw [← nF_trees t f A n (N + 1) O (by omega) hV Z, ← mt t f A n N O _ _ _ rfl (by rfl)]
  refine dC_congr N _ _ fun a b ha hb => ?_
  unfold ent mW
  rw [tabT_row A f N n a ha, rowS_rd A f 1 N n _ b hb, if_neg (by simp)]
  unfold SS
  refine sm_congr _ _ n fun d hd => ?_
  rw [if_pos rfl, Nat.add_comm 1 a, Nat.add_comm 1 b]
theorem trees_small (t f : List Int) (n : Nat) (H : MapOk t f n) : 0 ≤ valS t f n 0 0 0 ∧ valS t f n 0 0 0 ≤ 64 := by
  have h := fun s : Nat → Bool => term_zero t f n H 0 (lstS s (edL f n).length) (lstS_choice s _)
  have hh := edL_half f n H.2.2.2.2.1 H.2.2.2.2.2.1
  have hn := H.1
  have key : ∀ (E : Nat) (F : (Nat → Bool) → Int), (∀ s, 0 ≤ F s ∧ F s ≤ 1) → 0 ≤ sumB E F ∧ sumB E F ≤ ((2 ^ E : Nat) : Int) := by
    intro E
    induction E with
    | zero =>
      intro F hF
      have := hF (fun _ => false)
      simp only [sumB, Nat.pow_zero]
      omega
    | succ E ih =>
      intro F hF
      have h1 := ih (fun s => F (fun j => if j = E then false else s j)) fun s => hF _
      have h2 := ih (fun s => F (fun j => if j = E then true else s j)) fun s => hF _
      simp only [sumB]
      rw [show ((2 ^ (E + 1) : Nat) : Int) = ((2 ^ E : Nat) : Int) + ((2 ^ E : Nat) : Int) by rw [Nat.pow_succ]; omega]
      omega
  obtain ⟨a, b⟩ := key (edL f n).length (fun s => tmV t f n 0 0 0 (lstS s (edL f n).length)) fun s => by
    rw [h s]
    split <;> decide
  have hp : 2 ^ (edL f n).length ≤ 64 := by
    have : 2 ^ (edL f n).length ≤ 2 ^ 6 := Nat.pow_le_pow_right (by omega) (by omega)
    omega
  exact ⟨a, Int.le_trans b (by omega)⟩
theorem matrixI_ev (t f : List Int) (hm : isMap t f) : Ev (fun k => impl_RibbonMatrix.f k t f) (valS t f t.length 0 0 0) := by
  have H0 := mapOk_of t f hm
  obtain ⟨hn, h1, ht', hti, hf', hfl, hcon⟩ := id H0
  obtain ⟨b, _, b2, b3⟩ := mapValid_both t f (by omega) (by have := hf'.1; omega)
  have hb : b = true := b3.2 hm
  subst hb
  have O := vOk_of t f hm
  have hl := vtx_len t t.length
  have hr := fun i hi => vtx_range t t.length h1 ht' i hi
  have hmany := cyS_many t t.length t.length
  have hone := cyS_one t t.length h1 t.length h1
  have hV : vN t t.length = (cyS t t.length t.length).2.length := (cyS_cl t t.length ht' hti).eq
  obtain ⟨N, hN⟩ : ∃ N, (cyS t t.length t.length).2.length = N + 1 := ⟨_, (Nat.sub_add_cancel hone).symm⟩
  have H : Num (vtx t t.length) f t.length (N + 1) := ⟨hn, by omega, by omega, hf', hl, fun i hi => by have := hr i hi; rwa [hN] at this⟩
  have sqT : sq (tabT (vtx t t.length) f N t.length) N := ⟨tabT_len _ _ _ _, fun i hi => by rw [tabT_row _ _ _ _ i hi, rowS_len]⟩
  have dI := implDet_ev N _ (by omega) sqT
  rw [hN] at O hV
  rw [tree_det t f (vtx t t.length) t.length N O hV 0] at dI
  obtain ⟨s0, s1⟩ := trees_small t f t.length H0
  rw [w64 (by omega) (by omega)] at dI
  unfold impl_RibbonMatrix.f
  refine Ev.bind b2 ?_
  simp only [if_true]
  refine Ev.bind (implCyc_ev t t.length (by omega) ht') ?_
  refine Ev.bind (implVert_ev t f t.length hn ht') ?_
  have wN : wrap64 (((cyS t t.length t.length).2.length : Int) - 1) = (N : Int) := by rw [hN, w64 (by omega) (by omega)]; omega
  have e0 : List.replicate N ([] : List Int) = tabM N 0 := by
    refine ll_ext _ _ (by simp [tabM_len]) fun q hq => ?_
    have hq' : q < N := by simpa using hq
    rw [tabM_row N 0 q hq', if_neg (by omega), ll_rd _ _ hq]
    simp
  simp only [wN, show (0 : Int) ≤ (N : Int) by omega, Int.toNat_natCast, show N ≤ 11728124029610 by omega, if_true, Option.bind_some, e0, tabM_len]
  exact im_l0 t _ f t.length N H _ (im_l1 _ f t.length N H _ dI t.length 0 (by omega) (by omega)) N 0 (by omega) (by omega)
theorem nF_nonneg (t f A : List Int) (n nv : Nat) (R W : Nat → Bool) : 0 ≤ nF t f A n nv R W := by
  have key : ∀ (E : Nat) (F : (Nat → Bool) → Int), (∀ s, 0 ≤ F s) → 0 ≤ sumB E F := by
    intro E
    induction E with
    | zero => intro F hF; exact hF _
    | succ E ih =>
      intro F hF
      have h1 := ih (fun s => F (fun j => if j = E then false else s j)) fun s => hF _
      have h2 := ih (fun s => F (fun j => if j = E then true else s j)) fun s => hF _
      simp only [sumB]
      omega
  refine key _ _ fun s => ?_
  unfold ind
  split <;> decide
theorem stuck_all (t f A : List Int) (n nv : Nat) (O : VOk t f A n nv) (R W : Nat → Bool) (hs : stuck f A n R W) (hr : rooted t f A n R W) (v : Nat) (hv : v < nv) : R v = true := by
  obtain ⟨H, ra, rs, rv⟩ := O
  obtain ⟨hn12, h1, ht, hti, hf, hfl, hcon⟩ := id H
  obtain ⟨x, hx, ex⟩ := rv v hv
  obtain ⟨y, hy, y1, y2⟩ := hr x hx
  have := (y2 (fun z => z < n → R (rd A (z : Int)).toNat = true) ?_).2 (fun _ => y1) hx
  · rw [ex, Int.toNat_natCast] at this
    exact this
  · intro L hL k hk
    rcases List.mem_cons.1 hL with rfl | hL
    · have r := ht.2 k hk
      have e : rd A (k : Int) = rd A ((rd L (k : Int)).toNat : Int) := (rs k _ hk (by omega)).2 (Reach.step (by simp) hk)
      show (k < n → R (rd A (k : Int)).toNat = true) ↔ ((rd L (k : Int)).toNat < n → R (rd A ((rd L (k : Int)).toNat : Int)).toNat = true)
      rw [← e]
      exact ⟨fun q _ => q hk, fun q _ => q (by omega)⟩
    · rw [List.mem_singleton.1 hL, flC_rd f n _ k hk, chB_lst f n hf hfl W k hk]
      have fr := hf.2 k hk
      by_cases z : W (edL f (least f k)).length = true
      · rw [if_pos z]
        have e0 : (((rd f (k : Int)).toNat : Nat) : Int) = rd f (k : Int) := by omega
        constructor
        · intro q _
          rw [e0]
          exact hs k hk z (q hk)
        · intro q _
          have := hs (rd f (k : Int)).toNat (by omega) (by rw [nm_flip f n hf hfl k hk]; exact z) (q (by omega))
          rwa [e0, (hfl k hk).2] at this
      · rw [if_neg z, Int.toNat_natCast]
theorem nF_pos (t f A : List Int) (n nv : Nat) (O : VOk t f A n nv) : ∀ (k : Nat) (W R : Nat → Bool), cB (edL f n).length W = k → rooted t f A n R W → 1 ≤ nF t f A n nv R W := by
  obtain ⟨H, ra, rs, rv⟩ := id O
  obtain ⟨hn12, h1, ht, hti, hf, hfl, hcon⟩ := id H
  intro k
  induction k with
  | zero =>
    intro W R hk hr
    have hst : stuck f A n R W := fun d hd hw => by
      have l := least_lt f n hf hfl d hd
      have hlt := edL_lt f (least f d) l.2 n l.1
      have := cB_drop W (nmE f d) hw (edL f n).length hlt
      omega
    rw [nF_all t f A n nv R W (fun v hv => stuck_all t f A n nv O R W hst hr v hv) ra]
    decide
  | succ k ih =>
    intro W R hk hr
    by_cases hst : stuck f A n R W
    · rw [nF_all t f A n nv R W (fun v hv => stuck_all t f A n nv O R W hst hr v hv) ra]
      decide
    · obtain ⟨d, hd⟩ := Classical.not_forall.1 hst
      obtain ⟨hd, hd2⟩ := Classical.not_imp.1 hd
      obtain ⟨hw, hd3⟩ := Classical.not_imp.1 hd2
      obtain ⟨hRd, hRo⟩ := Classical.not_imp.1 hd3
      have l := least_lt f n hf hfl d hd
      have hlt : nmE f d < (edL f n).length := edL_lt f (least f d) l.2 n l.1
      have fr := hf.2 d hd
      have e0 : (((rd f (d : Int)).toNat : Nat) : Int) = rd f (d : Int) := by omega
      have hRo' : R (rd A (rd f (d : Int))).toNat = false := by cases w : R (rd A (rd f (d : Int))).toNat with | true => exact absurd w hRo | false => rfl
      obtain ⟨a, b, ha, hb, hab, e1, e2, e3, e4⟩ := edge_at f n hf hfl (nmE f d) hlt
      have gl : ∀ x : Nat, x < n → rd (geL f n n) (x : Int) = (nmE f x : Int) := fun x hx => geL_rd f n hf hfl x hx
      have hname : ∀ x : Nat, x < n → (nmE f x = nmE f d ↔ x = d ∨ x = (rd f (d : Int)).toNat) := by
        intro x hx
        have w := e4 x hx
        rw [gl x hx] at w
        have wd := (e4 d hd).1 (gl d hd)
        constructor
        · intro y
          have := w.1 (by omega)
          rcases wd with rfl | rfl
          · rw [e2, Int.toNat_natCast]; exact this
          · rw [e3, Int.toNat_natCast]; exact this.symm
        · rintro (rfl | rfl)
          · rfl
          · exact nm_flip f n hf hfl d hd
      have L : leaving f A n R W (nmE f d) d (rd f (d : Int)).toNat := ⟨hlt, hd, by omega, by omega, by rw [e0]; exact (hfl d hd).2, hname, hw, hRd, by rw [e0]; exact hRo'⟩
      have hk' := cB_drop W (nmE f d) hw (edL f n).length hlt
      have w1 : W = insB (nmE f d) true (fun j => if j < nmE f d then W j else W (j + 1)) := by
        funext j
        show W j = if j < nmE f d then (if j < nmE f d then W j else W (j + 1)) else if j = nmE f d then true else (if j - 1 < nmE f d then W (j - 1) else W (j - 1 + 1))
        by_cases y : j < nmE f d
        · rw [if_pos y, if_pos y]
        · rw [if_neg y]
          by_cases z : j = nmE f d
          · rw [if_pos z, z, hw]
          · rw [if_neg z, if_neg (by omega : ¬ j - 1 < nmE f d), show j - 1 + 1 = j by omega]
      have w0 : (fun j => if j = nmE f d then false else W j) = insB (nmE f d) false (fun j => if j < nmE f d then W j else W (j + 1)) := by
        funext j
        show (if j = nmE f d then false else W j) = if j < nmE f d then (if j < nmE f d then W j else W (j + 1)) else if j = nmE f d then false else (if j - 1 < nmE f d then W (j - 1) else W (j - 1 + 1))
        by_cases y : j < nmE f d
        · rw [if_pos y, if_pos y, if_neg (by omega : ¬ j = nmE f d)]
        · rw [if_neg y]
          by_cases z : j = nmE f d
          · rw [if_pos z, if_pos z]
          · rw [if_neg z, if_neg z, if_neg (by omega : ¬ j - 1 < nmE f d), show j - 1 + 1 = j by omega]
      have hr' := hr
      rw [w1] at hr'
      have hr2 := (rooted_step t f A n nv O R (nmE f d) d (rd f (d : Int)).toNat hlt hd (by omega) (by omega) (by rw [e0]; exact (hfl d hd).2) hname hRd _).1 hr'
      rw [← w0] at hr2
      rw [nF_step t f A n nv O R W _ _ _ L]
      have p1 := nF_nonneg t f A n nv R (fun j => if j = nmE f d then false else W j)
      have p2 := ih (fun j => if j = nmE f d then false else W j) (fun v => R v || decide (v = (rd A ((rd f (d : Int)).toNat : Int)).toNat)) (by omega) hr2
      omega
theorem trees_pos (t f : List Int) (hm : isMap t f) (Z : Int) : 1 ≤ valS t f t.length 0 0 Z := by
  have O := vOk_of t f hm
  obtain ⟨H, ra, rs, rv⟩ := id O
  obtain ⟨hn12, h1, ht, hti, hf, hfl, hcon⟩ := id H
  have hV : vN t t.length = (cyS t t.length t.length).2.length := (cyS_cl t t.length ht hti).eq
  have hone := cyS_one t t.length h1 t.length h1
  rw [← nF_trees t f _ t.length _ O hone hV Z]
  refine nF_pos t f _ t.length _ O _ _ _ rfl fun x hx => ?_
  obtain ⟨y, hy, ey⟩ := rv 0 hone
  refine ⟨y, hy, by rw [ey]; rfl, ?_⟩
  have hall : flC f t.length (lstS (fun _ => true) (edL f t.length).length) = f := flC_all f t.length hf hfl _ fun j hj => (mem_lstS _ _ _).2 ⟨j, hj, rfl, rfl⟩
  rw [hall]
  exact hcon x y hx hy
theorem trees_loop (t f : List Int) (n : Nat) (H : MapOk t f n) (e a b : Nat) (he : e < (edL f n).length) (hab : EdgeAt f n e a b) (hk : Reach [t] n a b) (hN : NoA t a b) (Z : Int) :
    valS t f n 0 0 Z = valS (outT t a b n) (outF f a b n) (n - 2) 0 0 Z := by
  obtain ⟨hn, h1, ht, hti, hf, hfl, hcon⟩ := id H
  obtain ⟨ha, hb, hne, e1, e2, e3, e4⟩ := id hab
  have oe := out_edges f n a b hf hfl ha hb hne e2 e3
  have h := sumB_at (edL (outF f a b n) (n - 2)).length e (fun s => tmV t f n 0 0 Z (lstS s (edL f n).length)) (by omega)
  rw [oe] at h
  have z : sumB (edL (outF f a b n) (n - 2)).length (fun s => tmV t f n 0 0 Z (lstS (insB e true s) (edL f n).length)) = 0 := by
    refine Eq.trans (sumB_congr _ _ (fun _ => 0) fun s _ => ?_) (sumB_zero (edL (outF f a b n) (n - 2)).length)
    rw [term_zero t f n H Z _ (lstS_choice _ _)]
    refine if_neg ?_
    rintro ⟨p1, p2⟩
    have hec : (e : Int) ∉ lstS (insB e false s) (edL f n).length := by
      intro z
      obtain ⟨k, k1, k2, k3⟩ := (mem_lstS _ _ _).1 z
      have : k = e := by omega
      rw [this] at k2
      unfold insB at k2
      rw [if_neg (Nat.lt_irrefl _), if_pos rfl] at k2
      cases k2
    have hmem : ∀ x, x ∈ lstS (insB e false s) (edL f n).length ++ [(e : Int)] ↔ x ∈ lstS (insB e true s) (edL f n).length := by
      intro x
      rw [List.mem_append, List.mem_singleton, mem_lstS, mem_lstS]
      constructor
      · rintro (⟨k, k1, k2, k3⟩ | rfl)
        · refine ⟨k, k1, ?_, k3⟩
          unfold insB at k2 ⊢
          by_cases y : k < e
          · rw [if_pos y] at k2 ⊢; exact k2
          · rw [if_neg y] at k2 ⊢
            by_cases w : k = e
            · rw [if_pos w]
            · rw [if_neg w] at k2 ⊢; exact k2
        · exact ⟨e, he, by unfold insB; rw [if_neg (Nat.lt_irrefl _), if_pos rfl], rfl⟩
      · rintro ⟨k, k1, k2, k3⟩
        by_cases w : k = e
        · exact .inr (by rw [k3, w])
        · refine .inl ⟨k, k1, ?_, k3⟩
          unfold insB at k2 ⊢
          rw [if_neg w] at k2 ⊢
          exact k2
    have hfc := mem_congr f n _ _ hmem
    have hsg := sgL_congr t f n _ _ hfc
    have hP' := clN_cl n (Reach [t, flC f n (lstS (insB e true s) (edL f n).length)] n)
    have hS' := clN_cl n (Reach [sgL t f n (lstS (insB e true s) (edL f n).length)] n)
    rw [← hfc] at hP'
    rw [← hsg] at hS'
    obtain ⟨x1, x2, x3, x4⟩ := add_edge t f n H _ e he hec a b ha hb hne e2 e3 e4 _ _ _ _ (clN_cl _ _) (clN_cl _ _) hP' hS'
    have q1 := x1 (reach_wide t _ n a b hk)
    rw [hfc] at q1
    change pN t f n (lstS (insB e true s) (edL f n).length) = pN t f n (lstS (insB e false s) (edL f n).length) at q1
    obtain ⟨g, G, n1, n2, n3, n4⟩ := nums t f n H _ (lstS_choice (insB e false s) (edL f n).length)
    have hl0 := lst_ins_len e false s (edL (outF f a b n) (n - 2)).length (by omega)
    have hl1 := lst_ins_len e true s (edL (outF f a b n) (n - 2)).length (by omega)
    rw [oe] at hl0 hl1
    simp only [Bool.false_eq_true, if_false, if_true, Nat.add_zero] at hl0 hl1
    omega
  have hv : valS t f n 0 0 Z = sumB (edL f n).length (fun s => tmV t f n 0 0 Z (lstS s (edL f n).length)) := rfl
  rw [hv, h, z, Int.add_zero]
  exact sumB_congr _ _ _ fun s _ => term_del t f n H e a b he hab hN 0 0 Z s
theorem trees_one (t f : List Int) (hm : isMap t f) (hE : (edL f t.length).length = 1) (Z : Int) : valS t f t.length 0 0 Z = 1 := by
  have H := mapOk_of t f hm
  have hp := trees_pos t f hm Z
  have t1 := fun s : Nat → Bool => term_zero t f t.length H Z (lstS s (edL f t.length).length) (lstS_choice s _)
  unfold valS at hp ⊢
  rw [sumB_congr _ _ _ fun s _ => t1 s] at hp ⊢
  rw [hE] at hp ⊢
  simp only [sumB, lstS, if_true, Bool.false_eq_true, if_false, List.nil_append, List.length_nil, List.length_cons] at hp ⊢
  split at hp <;> split at hp <;> rename_i h1 h2
  · obtain ⟨_, h1⟩ := h1
    obtain ⟨_, h2⟩ := h2
    omega
  · rw [if_pos h1, if_neg h2]; rfl
  · rw [if_neg h1, if_pos h2]; rfl
  · omega
theorem xor_nonneg (a b : Int) (ha : 0 ≤ a) (hb : 0 ≤ b) (ha' : a < 9223372036854775808) (hb' : b < 9223372036854775808) : 0 ≤ Go.bits .xor .i64 a b := by
  obtain ⟨n, rfl⟩ := Int.eq_ofNat_of_zero_le ha
  obtain ⟨m, rfl⟩ := Int.eq_ofNat_of_zero_le hb
  have hn : n % 2 ^ 64 = n := Nat.mod_eq_of_lt (by omega)
  have hm : m % 2 ^ 64 = m := Nat.mod_eq_of_lt (by omega)
  have hx : n ^^^ m < 2 ^ 63 := Nat.xor_lt_two_pow (by omega) (by omega)
  have e : Go.bits .xor .i64 (n : Int) (m : Int) = IntKind.i64.wrap ((n ^^^ m : Nat) : Int) := by
    simp only [Go.bits, BitVec.ofInt_natCast]
    show IntKind.i64.wrap (((BitVec.ofNat 64 n ^^^ BitVec.ofNat 64 m).toNat : Nat) : Int) = _
    rw [BitVec.toNat_xor, BitVec.toNat_ofNat, BitVec.toNat_ofNat, hn, hm]
  rw [e, IntKind.wrap_i64]
  omega
def bytesOk (l : List Int) : Prop := l.length ≤ 2000 ∧ ∀ x ∈ l, 0 ≤ x ∧ x ≤ 255
theorem rd_byte (l : List Int) (h : bytesOk l) (i : Int) : 0 ≤ rd l i ∧ rd l i ≤ 255 := by
  unfold rd
  by_cases hi : i.toNat < l.length
  · rw [List.getD_eq_getElem?_getD, List.getElem?_eq_getElem hi]
    exact h.2 _ (List.getElem_mem hi)
  · rw [List.getD_eq_getElem?_getD, List.getElem?_eq_none (by omega)]
    decide
theorem pick_ev (l : List Int) (h : bytesOk l) (p : Int) (hp : 0 ≤ p) (hp' : p ≤ 1000000) (n : Int) (hn : 1 ≤ n) (hn' : n ≤ 1000000) : ∃ v, Ev (fun k => spec_l6Rd_pick.f k l p n) (v, p + 1) ∧ 0 ≤ v ∧ v < n := by
  have w0 : wrap64 (p + 1) = p + 1 := w64 (by omega) (by omega)
  have w1 : wrap64 (p + 1 - 1) = p := by rw [w64 (by omega) (by omega)]; omega
  have hl := h.1
  unfold spec_l6Rd_pick.f
  simp only [show ¬ n < 1 by omega, if_false, w0]
  by_cases hz : l.length = 0
  · refine ⟨0, Ev.s ?_, by omega, by omega⟩
    have : (((l.length : Int)) == 0) = true := by simp [hz]
    simp only [this, spec_l6Rd_pick.j0, if_true]
    exact Ev.const rfl
  · have hb : (((l.length : Int)) == 0) = false := by rw [beq_eq_false_iff_ne]; omega
    have hn0 : ¬ n = 0 := by omega
    by_cases hlt : p < (l.length : Int)
    · have hr := rd_byte l h p
      have wr : wrap64 (rd l p) = rd l p := w64 (by omega) (by omega)
      refine ⟨Int.tmod (rd l p) n, Ev.s ?_, Int.tmod_nonneg _ (by omega), Int.tmod_lt_of_pos _ (by omega)⟩
      simp only [hb, spec_l6Rd_pick.j0, w1, hlt, hp, hn0, wr, Bool.false_eq_true, if_true, if_false]
      exact Ev.const rfl
    · have hl0 : ¬ (l.length : Int) = 0 := by omega
      have wk : wrap64 (p * 7) = p * 7 := w64 (by omega) (by omega)
      have wk3 : wrap64 (p * 7 + 3) = p * 7 + 3 := w64 (by omega) (by omega)
      have t1 := Int.tmod_nonneg (a := p) (l.length : Int) hp
      have t2 := Int.tmod_lt_of_pos p (b := (l.length : Int)) (by omega)
      have t3 := Int.tmod_nonneg (a := p * 7 + 3) (l.length : Int) (by omega)
      have t4 := Int.tmod_lt_of_pos (p * 7 + 3) (b := (l.length : Int)) (by omega)
      have r1 := rd_byte l h (Int.tmod p (l.length : Int))
      have r2 := rd_byte l h (Int.tmod (p * 7 + 3) (l.length : Int))
      have d1 : 0 ≤ Int.tdiv p (l.length : Int) := Int.tdiv_nonneg hp (by omega)
      have d2 : Int.tdiv p (l.length : Int) ≤ p := Int.tdiv_le_self _ hp
      obtain ⟨X, hX, hX0, hX1⟩ : ∃ X, (wrap64 ((wrap64 ((wrap64 ((wrap64 ((wrap64 (rd l (Int.tmod p (l.length : Int)))) * 131)) + (wrap64 ((wrap64 (rd l (Int.tmod (p * 7 + 3) (l.length : Int)))) * 1117)))) + (wrap64 (p * 29)))) + (wrap64 ((wrap64 (Int.tdiv p (l.length : Int))) * 53)))) = X ∧ 0 ≤ X ∧ X < 4611686018427387904 := by
        refine ⟨_, rfl, ?_, ?_⟩
        all_goals
          generalize rd l (Int.tmod p (l.length : Int)) = a at *
          generalize rd l (Int.tmod (p * 7 + 3) (l.length : Int)) = b at *
          generalize Int.tdiv p (l.length : Int) = c at *
          rw [w64 (x := a) (by omega) (by omega), w64 (x := b) (by omega) (by omega), w64 (x := a * 131) (by omega) (by omega), w64 (x := b * 1117) (by omega) (by omega), w64 (x := a * 131 + b * 1117) (by omega) (by omega), w64 (x := p * 29) (by omega) (by omega), w64 (x := a * 131 + b * 1117 + p * 29) (by omega) (by omega), w64 (x := c) (by omega) (by omega), w64 (x := c * 53) (by omega) (by omega), w64 (x := a * 131 + b * 1117 + p * 29 + c * 53) (by omega) (by omega)]
          omega
      have hd : 0 ≤ wrap64 (Int.tdiv X 64) ∧ wrap64 (Int.tdiv X 64) < 9223372036854775808 := by
        have := Int.tdiv_nonneg hX0 (show (0 : Int) ≤ 64 by decide)
        have := Int.tdiv_le_self 64 hX0
        rw [w64 (by omega) (by omega)]
        omega
      have hx := xor_nonneg X (wrap64 (Int.tdiv X 64)) hX0 hd.1 (by omega) hd.2
      refine ⟨Int.tmod (Go.bits .xor .i64 X (wrap64 (Int.tdiv X 64))) n, Ev.s ?_, Int.tmod_nonneg _ hx, Int.tmod_lt_of_pos _ (by omega)⟩
      simp only [hb, spec_l6Rd_pick.j0, w1, hlt, hl0, wk, wk3, t1, t2, t3, t4, hn0, hX, Bool.false_eq_true, if_true, if_false]
      exact Ev.const rfl
theorem open_ev (l : List Int) (hb : ∀ x ∈ l, (Lit.int .u8 x).wf = true) : ∃ l', spec_l6Open.f l = some (l', 0) ∧ bytesOk l' := by
  have hb' : ∀ x ∈ l, 0 ≤ x ∧ x ≤ 255 := by
    intro x hx
    have := hb x hx
    simp only [Lit.wf, IntKind.min, IntKind.max, IntKind.signed, IntKind.bits, Bool.and_eq_true, decide_eq_true_eq, Bool.false_eq_true, if_false] at this
    omega
  unfold spec_l6Open.f
  by_cases h : (l.length : Int) > 2000
  · refine ⟨l.take 2000, ?_, ?_, fun x hx => hb' x (List.mem_of_mem_take hx)⟩
    · rw [if_pos h, if_pos (by omega)]
    · rw [List.length_take]; omega
  · exact ⟨l, by rw [if_neg h], by omega, hb'⟩
theorem push_self (o : List Int) (i : Nat) (ho : inR i o) (hi : injR i o) : inR (i + 1) (o ++ [(i : Int)]) ∧ injR (i + 1) (o ++ [(i : Int)]) := by
  have last : rd (o ++ [(i : Int)]) (i : Int) = i := by
    rw [rd_lt _ _ (by simp [ho.1]), List.getElem_append_right (by rw [ho.1]; exact Nat.le_refl _)]
    simp
  have old : ∀ j : Nat, j < i → rd (o ++ [(i : Int)]) (j : Int) = rd o (j : Int) := fun j hj => rd_app_lt _ _ _ (by rw [ho.1]; exact hj)
  refine ⟨⟨by simp [ho.1], fun j hj => ?_⟩, fun j k hj hk e => ?_⟩
  · by_cases h : j < i
    · rw [old j h]
      have := ho.2 j h
      omega
    · rw [show j = i by omega, last]
      omega
  · by_cases h : j < i
    · have a := ho.2 j h
      by_cases h' : k < i
      · rw [old j h, old k h'] at e
        exact hi j k h h' e
      · rw [show k = i by omega, last, old j h] at e
        omega
    · by_cases h' : k < i
      · have a := ho.2 k h'
        rw [show j = i by omega, last, old k h'] at e
        omega
      · omega
theorem set_perm (o : List Int) (n a b : Nat) (ho : inR n o) (hi : injR n o) (ha : a < n) (hb : b < n) : inR n ((o.set a (rd o b)).set b (rd o a)) ∧ injR n ((o.set a (rd o b)).set b (rd o a)) := by
  have val : ∀ j : Nat, j < n → rd ((o.set a (rd o b)).set b (rd o a)) (j : Int) = if b = j then rd o a else if a = j then rd o b else rd o j := by
    intro j hj
    by_cases e1 : b = j
    · subst e1
      rw [rd_set_self _ _ _ (by simp [ho.1]; exact hb), if_pos rfl]
    · rw [rd_set_ne _ _ _ _ e1, if_neg e1]
      by_cases e2 : a = j
      · subst e2
        rw [rd_set_self _ _ _ (by rw [ho.1]; exact ha), if_pos rfl]
      · rw [rd_set_ne _ _ _ _ e2, if_neg e2]
  have ra := ho.2 a ha
  have rb := ho.2 b hb
  refine ⟨⟨by simp [ho.1], fun j hj => ?_⟩, fun j k hj hk e => ?_⟩
  · rw [val j hj]
    have := ho.2 j hj
    split
    · exact ra
    · split
      · exact rb
      · exact this
  · rw [val j hj, val k hk] at e
    have i1 := hi a b ha hb
    have i2 := hi a j ha hj
    have i3 := hi a k ha hk
    have i4 := hi b j hb hj
    have i5 := hi b k hb hk
    have i6 := hi j k hj hk
    by_cases c1 : b = j
    · rw [if_pos c1] at e
      by_cases c2 : b = k
      · omega
      · rw [if_neg c2] at e
        by_cases c3 : a = k
        · rw [if_pos c3] at e
          have := i1 e
          omega
        · rw [if_neg c3] at e
          exact absurd (i3 e) c3
    · rw [if_neg c1] at e
      by_cases c4 : a = j
      · rw [if_pos c4] at e
        by_cases c2 : b = k
        · rw [if_pos c2] at e
          have := i1 e.symm
          omega
        · rw [if_neg c2] at e
          by_cases c3 : a = k
          · omega
          · rw [if_neg c3] at e
            exact absurd (i5 e) c2
      · rw [if_neg c4] at e
        by_cases c2 : b = k
        · rw [if_pos c2] at e
          exact absurd (i2 e.symm) c4
        · rw [if_neg c2] at e
          by_cases c3 : a = k
          · rw [if_pos c3] at e
            exact absurd (i4 e.symm) c1
          · rw [if_neg c3] at e
            exact i6 e
theorem push_swap (o : List Int) (i k : Nat) (hk : k < i) (ho : inR i o) (hi : injR i o) : inR (i + 1) ((o ++ [rd o k]).set k (i : Int)) ∧ injR (i + 1) ((o ++ [rd o k]).set k (i : Int)) := by
  obtain ⟨p1, p2⟩ := push_self o i ho hi
  have e : ((o ++ [(i : Int)]).set k (rd (o ++ [(i : Int)]) i)).set i (rd (o ++ [(i : Int)]) k) = (o ++ [rd o k]).set k (i : Int) := by
    have last : rd (o ++ [(i : Int)]) (i : Int) = i := by
      rw [rd_lt _ _ (by simp [ho.1]), List.getElem_append_right (by rw [ho.1]; exact Nat.le_refl _)]
      simp
    have last' : ∀ v : Int, rd (o ++ [v]) (i : Int) = v := by
      intro v
      rw [rd_lt _ _ (by simp [ho.1]), List.getElem_append_right (by rw [ho.1]; exact Nat.le_refl _)]
      simp
    refine list_ext _ _ (by simp) fun j hj => ?_
    have hj' : j < i + 1 := by simp [ho.1] at hj; omega
    have l1 : (o ++ [(i : Int)]).length = i + 1 := by simp [ho.1]
    have l2 : (o ++ [rd o k]).length = i + 1 := by simp [ho.1]
    rw [last, rd_app_lt o _ k (by rw [ho.1]; exact hk)]
    by_cases e1 : i = j
    · subst e1
      rw [rd_set_self _ _ _ (by simp [ho.1]), rd_set_ne _ _ _ _ (by omega), last']
    · rw [rd_set_ne _ _ _ _ e1]
      by_cases e2 : k = j
      · subst e2
        rw [rd_set_self _ _ _ (by omega), rd_set_self _ _ _ (by omega)]
      · rw [rd_set_ne _ _ _ _ e2, rd_set_ne _ _ _ _ e2, rd_app_lt _ _ _ (by rw [ho.1]; omega), rd_app_lt _ _ _ (by rw [ho.1]; omega)]
  have := set_perm (o ++ [(i : Int)]) (i + 1) k i p1 p2 (by omega) (by omega)
  rwa [e] at this
theorem perm_run (l : List Int) (h : bytesOk l) (n : Nat) (hn : n ≤ 100) : ∀ (d i : Nat) (o : List Int) (p : Int), n - i = d → i ≤ n → inR i o → injR i o → 0 ≤ p → p + d ≤ 1000 → ∃ (o' : List Int), Ev (fun k => spec_l91Perm.l0 k n o i l p) (o', p + d) ∧ inR n o' ∧ injR n o'
  | 0, i, o, p, hd, hi, ho, hoi, hp, hp' => by
    have : i = n := by omega
    subst this
    refine ⟨o, Ev.s ?_, ho, hoi⟩
    simp only [spec_l91Perm.l0, show ¬ (i : Int) < (i : Int) by omega, if_false]
    exact Ev.const (by simp)
  | d + 1, i, o, p, hd, hi, ho, hoi, hp, hp' => by
    obtain ⟨v, hv, v0, v1⟩ := pick_ev l h p hp (by omega) ((i + 1 : Nat) : Int) (by omega) (by omega)
    have w1 : i < 4611686018427387904 := by omega
    have w2 : o.length < 17592186044416 := by rw [ho.1]; omega
    have w3 : o.length = i := ho.1
    by_cases e : v = (i : Int)
    · obtain ⟨q1, q2⟩ := push_self o i ho hoi
      obtain ⟨o', r1, r2, r3⟩ := perm_run l h n hn d (i + 1) _ (p + 1) (by omega) (by omega) q1 q2 (by omega) (by omega)
      refine ⟨o', Ev.s ?_, r2, r3⟩
      simp only [spec_l91Perm.l0, show (i : Int) < (n : Int) by omega, if_true, w64n w1]
      refine Ev.bind hv ?_
      simp only [e, w2, if_true]
      rw [show p + ((d + 1 : Nat) : Int) = p + 1 + d by omega]
      exact r1
    · obtain ⟨q1, q2⟩ := push_swap o i v.toNat (by omega) ho hoi
      obtain ⟨o', r1, r2, r3⟩ := perm_run l h n hn d (i + 1) _ (p + 1) (by omega) (by omega) q1 q2 (by omega) (by omega)
      rw [show ((v.toNat : Nat) : Int) = v by omega] at r1
      have w4 : v < (i : Int) := by omega
      have w5 : v < ((o ++ [rd o v]).length : Int) := by simp [w3]; omega
      refine ⟨o', Ev.s ?_, r2, r3⟩
      simp only [spec_l91Perm.l0, show (i : Int) < (n : Int) by omega, if_true, w64n w1]
      refine Ev.bind hv ?_
      simp only [e, if_false, v0, w3, w4, w2, if_true, Option.bind_some, w5]
      rw [show p + ((d + 1 : Nat) : Int) = p + 1 + d by omega]
      rw [w3] at w2
      simp only [w2, if_true, w5]
      exact r1
theorem l91Perm_ev (l : List Int) (h : bytesOk l) (n : Nat) (hn : n ≤ 100) (p : Int) (hp : 0 ≤ p) (hp' : p ≤ 500) : ∃ (o : List Int), Ev (fun k => spec_l91Perm.f k l p n) (o, p + n) ∧ inR n o ∧ injR n o := by
  unfold spec_l91Perm.f
  have := perm_run l h n hn n 0 [] p (by omega) (by omega) ⟨rfl, fun i hi => by omega⟩ (fun i j hi _ _ => by omega) hp (by omega)
  exact this
def paired (n : Nat) (q g : List Int) (i : Nat) : Prop := inR n g ∧ ∀ j : Nat, 2 * j + 1 < i → rd g (rd q ((2 * j : Nat) : Int)) = rd q ((2 * j + 1 : Nat) : Int) ∧ rd g (rd q ((2 * j + 1 : Nat) : Int)) = rd q ((2 * j : Nat) : Int)
theorem toNat_eq {a b : Int} (ha : 0 ≤ a) (hb : 0 ≤ b) (h : a.toNat = b.toNat) : a = b := by omega
theorem pair_step (n : Nat) (q g : List Int) (hq : inR n q) (hqi : injR n q) (i : Nat) (hi : 2 * i + 1 < n) (h : paired n q g (2 * i)) :
    paired n q ((g.set (rd q ((2 * i : Nat) : Int)).toNat (rd q ((2 * i + 1 : Nat) : Int))).set (rd q ((2 * i + 1 : Nat) : Int)).toNat (rd q ((2 * i : Nat) : Int))) (2 * i + 2) := by
  have ra := hq.2 (2 * i) (by omega)
  have rb := hq.2 (2 * i + 1) (by omega)
  have ne : (rd q ((2 * i : Nat) : Int)).toNat ≠ (rd q ((2 * i + 1 : Nat) : Int)).toNat := by
    intro e
    have := hqi (2 * i) (2 * i + 1) (by omega) (by omega) (toNat_eq ra.1 rb.1 e)
    omega
  have val : ∀ x : Nat, x < n → rd ((g.set (rd q ((2 * i : Nat) : Int)).toNat (rd q ((2 * i + 1 : Nat) : Int))).set (rd q ((2 * i + 1 : Nat) : Int)).toNat (rd q ((2 * i : Nat) : Int))) (x : Int) = if (rd q ((2 * i + 1 : Nat) : Int)).toNat = x then rd q ((2 * i : Nat) : Int) else if (rd q ((2 * i : Nat) : Int)).toNat = x then rd q ((2 * i + 1 : Nat) : Int) else rd g x := by
    intro x hx
    by_cases e1 : (rd q ((2 * i + 1 : Nat) : Int)).toNat = x
    · rw [if_pos e1, ← e1, rd_set_self _ _ _ (by rw [List.length_set, h.1.1]; omega)]
    · rw [rd_set_ne _ _ _ _ e1, if_neg e1]
      by_cases e2 : (rd q ((2 * i : Nat) : Int)).toNat = x
      · rw [if_pos e2, ← e2, rd_set_self _ _ _ (by rw [h.1.1]; omega)]
      · rw [rd_set_ne _ _ _ _ e2, if_neg e2]
  refine ⟨⟨by simp [h.1.1], fun x hx => ?_⟩, fun j hj => ?_⟩
  · rw [val x hx]
    have := h.1.2 x hx
    split
    · exact ra
    · split
      · exact rb
      · exact this
  · have sa := hq.2 (2 * j) (by omega)
    have sb := hq.2 (2 * j + 1) (by omega)
    have ea : (((rd q ((2 * j : Nat) : Int)).toNat : Nat) : Int) = rd q ((2 * j : Nat) : Int) := by omega
    have eb : (((rd q ((2 * j + 1 : Nat) : Int)).toNat : Nat) : Int) = rd q ((2 * j + 1 : Nat) : Int) := by omega
    rw [← ea, ← eb, val _ (by omega), val _ (by omega), ea, eb]
    by_cases z : j = i
    · subst z
      rw [if_neg (fun e => ne e.symm), if_pos rfl, if_pos rfl]
      exact ⟨rfl, rfl⟩
    · have old := h.2 j (by omega)
      have n1 : (rd q ((2 * i + 1 : Nat) : Int)).toNat ≠ (rd q ((2 * j : Nat) : Int)).toNat := fun e => by
        have := hqi (2 * i + 1) (2 * j) (by omega) (by omega) (toNat_eq rb.1 sa.1 e)
        omega
      have n2 : (rd q ((2 * i : Nat) : Int)).toNat ≠ (rd q ((2 * j : Nat) : Int)).toNat := fun e => by
        have := hqi (2 * i) (2 * j) (by omega) (by omega) (toNat_eq ra.1 sa.1 e)
        omega
      have n3 : (rd q ((2 * i + 1 : Nat) : Int)).toNat ≠ (rd q ((2 * j + 1 : Nat) : Int)).toNat := fun e => by
        have := hqi (2 * i + 1) (2 * j + 1) (by omega) (by omega) (toNat_eq rb.1 sb.1 e)
        omega
      have n4 : (rd q ((2 * i : Nat) : Int)).toNat ≠ (rd q ((2 * j + 1 : Nat) : Int)).toNat := fun e => by
        have := hqi (2 * i) (2 * j + 1) (by omega) (by omega) (toNat_eq ra.1 sb.1 e)
        omega
      rw [if_neg n1, if_neg n2, if_neg n3, if_neg n4]
      exact old
theorem paired_flip (n m : Nat) (hm : n = 2 * m) (q g : List Int) (hq : inR n q) (hqi : injR n q) (h : paired n q g n) : ∀ d : Nat, d < n → flipAt g d := by
  intro d hd
  obtain ⟨j, hj, e⟩ := surj q n hq hqi d hd
  have rep : ∃ i, (j = 2 * i ∨ j = 2 * i + 1) ∧ 2 * i + 1 < n := by
    refine ⟨j / 2, by omega, by omega⟩
  obtain ⟨i, hj', hi⟩ := rep
  have o := h.2 i hi
  have ne : rd q ((2 * i : Nat) : Int) ≠ rd q ((2 * i + 1 : Nat) : Int) := by
    intro e
    have := hqi (2 * i) (2 * i + 1) (by omega) (by omega) e
    omega
  rcases hj' with rfl | rfl
  · rw [e] at o ne
    unfold flipAt
    rw [o.1]
    exact ⟨fun z => ne z.symm, o.2⟩
  · rw [e] at o ne
    unfold flipAt
    rw [o.2]
    exact ⟨ne, o.1⟩
def drewMap (F : Nat → Option (List Int × List Int × Int)) (p : Int) : Prop := ∃ (t f : List Int) (p' : Int), Ev F (t, f, p') ∧ t.length ≤ 12 ∧ f.length ≤ 12 ∧ 0 ≤ p' ∧ p' ≤ p + 1
theorem map_end (l : List Int) (h : bytesOk l) (n : Nat) (h1 : 1 ≤ n) (hn : n ≤ 12) (i : Int) (p : Int) (hp : 0 ≤ p) (hp' : p ≤ 500) (t f : List Int) (ht : t.length = n) (hf : f.length = n) : drewMap (fun k => spec_l91Map.j2 k n i false l p t f) p := by
  obtain ⟨v, hv, v0, v1⟩ := pick_ev l h p hp (by omega) 50 (by omega) (by omega)
  have g1 : (0 : Int) < (f.length : Int) := by omega
  have g2 : (1 : Int) ≤ (t.length : Int) := by omega
  have g3 : (0 : Int) < (t.length : Int) := by omega
  by_cases c0 : v = 0
  · refine ⟨t, f.set 0 0, p + 1, Ev.s ?_, by omega, by simp; omega, by omega, by omega⟩
    simp only [spec_l91Map.j2, Bool.false_eq_true, if_false]
    refine Ev.bind hv ?_
    simp only [c0, g1, if_true]
    exact Ev.const rfl
  · by_cases c1 : v = 1
    · refine ⟨t.drop 1, f, p + 1, Ev.s ?_, by simp; omega, by omega, by omega, by omega⟩
      simp only [spec_l91Map.j2, Bool.false_eq_true, if_false]
      refine Ev.bind hv ?_
      simp only [c0, c1, g2, show ¬ (1 : Int) = 0 by decide, if_true, if_false]
      exact Ev.const rfl
    · by_cases c2 : v = 2
      · refine ⟨t.set 0 n, f, p + 1, Ev.s ?_, by simp; omega, by omega, by omega, by omega⟩
        simp only [spec_l91Map.j2, Bool.false_eq_true, if_false]
        refine Ev.bind hv ?_
        simp only [c2, g3, show ¬ (2 : Int) = 0 by decide, show ¬ (2 : Int) = 1 by decide, if_true, if_false]
        exact Ev.const rfl
      · refine ⟨t, f, p + 1, Ev.s ?_, by omega, by omega, by omega, by omega⟩
        simp only [spec_l91Map.j2, Bool.false_eq_true, if_false]
        refine Ev.bind hv ?_
        simp only [c0, c1, c2, if_false]
        exact Ev.const rfl
theorem map_find (n : Nat) (hn : n ≤ 12) (o : List Int) (ho : o.length = n) (i : Int) (l : List Int) (p : Int) (t f : List Int) (ht : t.length = n) (z : Nat) (hz : z < n) (hz0 : rd o z ≠ 0) (hz1 : ∀ y : Nat, y < z → rd o y = 0) (r : List Int × List Int × Int)
    (h : Ev (fun k => spec_l91Map.l1 k n (wrap64 (i + 1)) l p ((t.set 0 (rd t (z : Int))).set z (rd t 0)) f) r) : ∀ (d y : Nat), z - y = d → y ≤ z → Ev (fun k => spec_l91Map.l2 k n i o y l p t f) r
  | 0, y, hd, hy => by
    have : y = z := by omega
    subst this
    refine Ev.s ?_
    simp only [spec_l91Map.l2, ho, ht, show (0 : Int) ≤ (y : Int) by omega, show (y : Int) < (n : Int) by omega, hz0, show (0 : Int) < (n : Int) by omega, if_true, if_false, Int.toNat_natCast]
    exact h
  | d + 1, y, hd, hy => by
    refine Ev.s ?_
    simp only [spec_l91Map.l2, ho, show (0 : Int) ≤ (y : Int) by omega, show (y : Int) < (n : Int) by omega, hz1 y (by omega), if_true, w64n (show y < 4611686018427387904 by omega)]
    exact map_find n hn o ho i l p t f ht z hz hz0 hz1 r h d (y + 1) (by omega) (by omega)
theorem map_loop (l : List Int) (h : bytesOk l) (n : Nat) (h1 : 1 ≤ n) (hn : n ≤ 12) (f : List Int) (hf : inR n f) (hfl : ∀ d : Nat, d < n → flipAt f d) (p : Int) (hp : 0 ≤ p) (hp' : p ≤ 500) : ∀ (d i : Nat) (t : List Int), n - i = d → i ≤ n → inR n t → injR n t → drewMap (fun k => spec_l91Map.l1 k n i l p t f) p
  | 0, i, t, hd, hi, ht, hti => by
    have : i = n := by omega
    subst this
    obtain ⟨a, b, c, e1, e2⟩ := map_end l h i h1 hn i p hp hp' t f ht.1 hf.1
    refine ⟨a, b, c, Ev.s ?_, e2⟩
    simp only [spec_l91Map.l1, show ¬ (i : Int) < (i : Int) by omega, if_false]
    exact e1
  | d + 1, i, t, hd, hi, ht, hti => by
    obtain ⟨b, b1, _, b3⟩ := mapValid_both t f (by rw [ht.1]; omega) (by rw [hf.1]; omega)
    cases b with
    | true =>
      obtain ⟨a, b', c, e1, e2⟩ := map_end l h n h1 hn i p hp hp' t f ht.1 hf.1
      refine ⟨a, b', c, Ev.s ?_, e2⟩
      simp only [spec_l91Map.l1, show (i : Int) < (n : Int) by omega, if_true]
      refine Ev.bind b1 ?_
      exact e1
    | false =>
      obtain ⟨o, o1, o2, _⟩ := orb_both t f n hn h1 ht hf
      have nz : ∃ z, z < n ∧ rd o (z : Int) ≠ 0 := by
        by_cases q : ∃ z, z < n ∧ rd o ((z : Nat) : Int) ≠ 0
        · exact q
        · exfalso
          have all0 : ∀ q : Nat, q < n → rd o q = 0 := fun z hz => by
            by_cases e : rd o (z : Int) = 0
            · exact e
            · exact absurd ⟨z, hz, e⟩ q
          have hc := (orb_zero t f n h1 ht hf o o1).1 all0
          have hm : isMap t f := isMap_of ⟨hn, h1, ht, hti, hf, hfl, hc⟩
          have := b3.2 hm
          cases this
      have least : ∃ z, z < n ∧ rd o (z : Int) ≠ 0 ∧ ∀ y : Nat, y < z → rd o y = 0 := by
        obtain ⟨z, hz, hz0⟩ := nz
        induction z using Nat.strongRecOn with
        | ind z ih =>
          by_cases q : ∃ y, y < z ∧ rd o ((y : Nat) : Int) ≠ 0
          · obtain ⟨y, y1, y2⟩ := q
            exact ih y y1 (by omega) y2
          · exact ⟨z, hz, hz0, fun y hy => by
              by_cases e : rd o (y : Int) = 0
              · exact e
              · exact absurd ⟨y, hy, e⟩ q⟩
      obtain ⟨z, hz, hz0, hz1⟩ := least
      obtain ⟨q1, q2⟩ := set_perm t n 0 z ht hti (by omega) hz
      obtain ⟨a, b', c, e1, e2⟩ := map_loop l h n h1 hn f hf hfl p hp hp' d (i + 1) _ (by omega) (by omega) q1 q2
      refine ⟨a, b', c, Ev.s ?_, e2⟩
      simp only [spec_l91Map.l1, show (i : Int) < (n : Int) by omega, if_true]
      refine Ev.bind b1 ?_
      refine Ev.s ?_
      simp only [spec_l91Map.j2, Bool.not_false, if_true]
      refine Ev.bind o2 ?_
      refine map_find n hn o o1.1.1 i l p t f ht.1 z hz hz0 hz1 _ ?_ z 0 (by omega) (by omega)
      rw [w64n (by omega)]
      exact e1
theorem map_pairs (l : List Int) (h : bytesOk l) (n m : Nat) (hm : n = 2 * m) (h1 : 1 ≤ m) (hn : n ≤ 12) (q : List Int) (hq : inR n q) (hqi : injR n q) (p : Int) (hp : 0 ≤ p) (hp' : p ≤ 400) : ∀ (d i : Nat) (g : List Int), m - i = d → i ≤ m → paired n q g (2 * i) → ∃ (t f : List Int) (p' : Int), Ev (fun k => spec_l91Map.l0 k n q g ((2 * i : Nat) : Int) l p) (t, f, p') ∧ t.length ≤ 12 ∧ f.length ≤ 12 ∧ 0 ≤ p' ∧ p' ≤ p + 13
  | 0, i, g, hd, hi, hg => by
    have : i = m := by omega
    subst this
    rw [← hm] at hg
    obtain ⟨t, t1, t2, t3⟩ := l91Perm_ev l h n (by omega) p hp (by omega)
    obtain ⟨a, b, c, e1, e2, e3, e4, e5⟩ := map_loop l h n (by omega) hn g hg.1 (paired_flip n i hm q g hq hqi hg) (p + n) (by omega) (by omega) n 0 t (by omega) (by omega) t2 t3
    refine ⟨a, b, c, Ev.s ?_, e2, e3, e4, by omega⟩
    have w : i < 1000 := by omega
    simp only [spec_l91Map.l0, w64n (show 2 * i < 4611686018427387904 by omega), show ¬ ((2 * i + 1 : Nat) : Int) < (n : Int) by omega, if_false]
    exact Ev.bind t1 e1
  | d + 1, i, g, hd, hi, hg => by
    have ra := hq.2 (2 * i) (by omega)
    have rb := hq.2 (2 * i + 1) (by omega)
    obtain ⟨a, b, c, e1, e2⟩ := map_pairs l h n m hm h1 hn q hq hqi p hp hp' d (i + 1) _ (by omega) (by omega) (pair_step n q g hq hqi i (by omega) hg)
    refine ⟨a, b, c, Ev.s ?_, e2⟩
    have w2 : wrap64 (((2 * i : Nat) : Int) + 2) = ((2 * (i + 1) : Nat) : Int) := by rw [w64 (by omega) (by omega)]; omega
    simp only [spec_l91Map.l0, w64n (show 2 * i < 4611686018427387904 by omega), show ((2 * i + 1 : Nat) : Int) < (n : Int) by omega, show (0 : Int) ≤ ((2 * i : Nat) : Int) by omega, show (0 : Int) ≤ ((2 * i + 1 : Nat) : Int) by omega, hq.1, show ((2 * i : Nat) : Int) < (n : Int) by omega, hg.1.1, ra.1, ra.2, rb.1, rb.2, if_true, w2]
    exact e1
theorem l91Map_at (l : List Int) (h : bytesOk l) (p : Int) (hp : 0 ≤ p) (hp' : p ≤ 200) (edges : Nat) (h1 : 1 ≤ edges) (h6 : edges ≤ 6) : ∃ (t f : List Int) (p' : Int), Ev (fun k => spec_l91Map.f k l p edges) (t, f, p') ∧ t.length ≤ 12 ∧ f.length ≤ 12 ∧ 0 ≤ p' ∧ p' ≤ p + 100 := by
  obtain ⟨v, hv, v0, v1⟩ := pick_ev l h p hp (by omega) (edges : Int) (by omega) (by omega)
  obtain ⟨V, rfl⟩ : ∃ V : Nat, v = (V : Int) := ⟨v.toNat, by omega⟩
  obtain ⟨q, q1, q2, q3⟩ := l91Perm_ev l h (2 * (1 + V)) (by omega) (p + 1) (by omega) (by omega)
  have rep : paired (2 * (1 + V)) q (List.replicate (2 * (1 + V)) 0) (2 * 0) := by
    refine ⟨⟨by simp, fun i hi => ?_⟩, fun j hj => by omega⟩
    rw [rd_lt _ _ (by simpa using hi)]
    simp
    omega
  obtain ⟨a, b, c, e1, e2, e3, e4, e5⟩ := map_pairs l h (2 * (1 + V)) (1 + V) rfl (by omega) (by omega) q q2 q3 (p + 1 + ((2 * (1 + V) : Nat) : Int)) (by omega) (by omega) (1 + V) 0 _ (by omega) (by omega) rep
  refine ⟨a, b, c, ?_, e2, e3, e4, by omega⟩
  unfold spec_l91Map.f
  refine Ev.bind hv ?_
  have w1 : wrap64 (1 + (V : Int)) = ((1 + V : Nat) : Int) := by rw [w64 (by omega) (by omega)]; omega
  have w2 : wrap64 (2 * ((1 + V : Nat) : Int)) = ((2 * (1 + V) : Nat) : Int) := by rw [w64 (by omega) (by omega)]; omega
  simp only [w1, w2]
  refine Ev.bind q1 ?_
  simp only [show (0 : Int) ≤ ((2 * (1 + V) : Nat) : Int) by omega, Int.toNat_natCast, show 2 * (1 + V) ≤ 35184372088832 by omega, if_true]
  exact e1
theorem l91Map_ev (l : List Int) (h : bytesOk l) (edges : Nat) (h1 : 1 ≤ edges) (h6 : edges ≤ 6) : ∃ (t f : List Int) (p' : Int), Ev (fun k => spec_l91Map.f k l 0 edges) (t, f, p') ∧ t.length ≤ 12 ∧ f.length ≤ 12 ∧ 0 ≤ p' ∧ p' ≤ 100 := by
  obtain ⟨t, f, p', h⟩ := l91Map_at l h 0 (by omega) (by omega) edges h1 h6
  exact ⟨t, f, p', by simpa using h⟩
def swpL (t : List Int) (a b n : Nat) : List Int := (List.range n).map fun (d : Nat) => if d = a then rd t (b : Int) else if d = b then rd t (a : Int) else rd t (d : Int)
theorem swpL_rd (t : List Int) (a b n d : Nat) (h : d < n) : rd (swpL t a b n) (d : Int) = if d = a then rd t (b : Int) else if d = b then rd t (a : Int) else rd t (d : Int) := rd_rangeL _ n d h
theorem swpL_len (t : List Int) (a b n : Nat) : (swpL t a b n).length = n := by simp [swpL]
theorem swpL_inR (t : List Int) (n a b : Nat) (ht : inR n t) (ha : a < n) (hb : b < n) : inR n (swpL t a b n) := ⟨swpL_len t a b n, fun i hi => by
  rw [swpL_rd t a b n i hi]
  have h1 := ht.2 a ha
  have h2 := ht.2 b hb
  have h3 := ht.2 i hi
  split
  · exact h2
  · split
    · exact h1
    · exact h3⟩
theorem swpL_inj (t : List Int) (n a b : Nat) (hti : injR n t) (ha : a < n) (hb : b < n) (hab : a ≠ b) : injR n (swpL t a b n) := fun i j hi hj e => by
  rw [swpL_rd t a b n i hi, swpL_rd t a b n j hj] at e
  by_cases i1 : i = a
  · rw [if_pos i1] at e
    by_cases j1 : j = a
    · omega
    · rw [if_neg j1] at e
      by_cases j2 : j = b
      · rw [if_pos j2] at e
        exact absurd (hti b a hb ha e).symm hab
      · rw [if_neg j2] at e
        exact absurd (hti b j hb hj e).symm j2
  · rw [if_neg i1] at e
    by_cases i2 : i = b
    · rw [if_pos i2] at e
      by_cases j1 : j = a
      · rw [if_pos j1] at e
        exact absurd (hti a b ha hb e) hab
      · rw [if_neg j1] at e
        by_cases j2 : j = b
        · omega
        · rw [if_neg j2] at e
          exact absurd (hti a j ha hj e).symm j1
    · rw [if_neg i2] at e
      by_cases j1 : j = a
      · rw [if_pos j1] at e
        exact absurd (hti i b hi hb e) i2
      · rw [if_neg j1] at e
        by_cases j2 : j = b
        · rw [if_pos j2] at e
          exact absurd (hti i a hi ha e) i1
        · rw [if_neg j2] at e
          exact hti i j hi hj e
theorem onCon_ev (t f : List Int) (n : Nat) (ht : inR n t) (hti : injR n t) (hf : inR n f) (a b : Nat) (ha : a < n) (hb : b < n) (hab : a ≠ b) (fa : rd f (a : Int) = b) (fb : rd f (b : Int) = a) (d : Nat) (hd : d < n) (hda : d ≠ a) (hdb : d ≠ b) : Ev (fun k => econ.f k a b t f (rd t (d : Int))) (skp (swpL t a b n) a b (rd (swpL t a b n) (d : Int))) := by
  have htl := ht.1
  have hfl := hf.1
  have hpa : rd (swpL t a b n) (a : Int) = rd t (b : Int) := by rw [swpL_rd t a b n a ha, if_pos rfl]
  have hpb : rd (swpL t a b n) (b : Int) = rd t (a : Int) := by rw [swpL_rd t a b n b hb, if_neg (fun z => hab z.symm), if_pos rfl]
  have hpd : rd (swpL t a b n) (d : Int) = rd t (d : Int) := by rw [swpL_rd t a b n d hd, if_neg hda, if_neg hdb]
  rw [← hpd]
  exact skp_run (fun k x => econ.l0 a b t f k x) (swpL t a b n) n (swpL_inR t n a b ht ha hb) a b (fun x h1 h2 => by
      refine Ev.s ?_
      simp only [econ.l0, h1, h2, if_false]
      exact Ev.const rfl) (fun x c r hr => by
      refine Ev.s ?_
      rcases c with c | c
      · subst c
        rw [hpa] at hr
        simp only [econ.l0, if_true, show (0 : Int) ≤ (a : Int) by omega, show (a : Int) < (f.length : Int) by omega, fa, show (0 : Int) ≤ (b : Int) by omega, show (b : Int) < (t.length : Int) by omega]
        exact hr
      · subst c
        rw [hpb] at hr
        simp only [econ.l0, if_true, show ¬ (b : Int) = (a : Int) by omega, if_false, show (0 : Int) ≤ (b : Int) by omega, show (b : Int) < (f.length : Int) by omega, fb, show (0 : Int) ≤ (a : Int) by omega, show (a : Int) < (t.length : Int) by omega]
        exact hr) (rd (swpL t a b n) (d : Int)) (skp_out (swpL t a b n) n (swpL_inR t n a b ht ha hb) (swpL_inj t n a b hti ha hb hab) a b d ha hb hd hab hda hdb).1
theorem namesCon (t f lt lf : List Int) (n : Nat) (hn : n ≤ 12) (a b ca cb : Nat) (r : List Int × List Int) (h : Ev (fun k => leftCon.l1 ca cb lt lf k a b (nmT a b n) (t.length : Int) 0 t f [] []) r) : ∀ (d i : Nat), n - i = d → i ≤ n → Ev (fun k => leftCon.l0 ca cb lt lf k a b (mixL (nmT a b n) (List.replicate n 0) n i) (nmA a b i) n i t f) r
  | 0, i, hd, hi => by
    have : i = n := by omega
    subst this
    rw [mixL_all _ _ _ (nmT_len a b i)]
    refine Ev.s ?_
    simp only [leftCon.l0, show ¬ (i : Int) < (i : Int) by omega, if_false]
    exact h
  | d + 1, i, hd, hi => by
    have ih := namesCon t f lt lf n hn a b ca cb r h d (i + 1) (by omega) (by omega)
    have hl := mixL_len (nmT a b n) (List.replicate n 0) n i
    have hs := mixL_set (nmT a b n) (List.replicate n 0) n i (by omega)
    rw [nmT_rd a b n i (by omega)] at hs
    have hle := nmA_le a b i
    refine Ev.s ?_
    simp only [leftCon.l0, hl, show (i : Int) < (n : Int) by omega, show (0 : Int) ≤ (i : Int) by omega, if_true, Option.bind_some, Int.toNat_natCast, hs, w64n (show i < 4611686018427387904 by omega)]
    simp only [nmA] at ih
    by_cases c1 : i = a
    · rw [if_pos (.inl c1), Nat.add_zero] at ih
      simp only [if_pos (show (i : Int) = (a : Int) by omega)]
      exact ih
    · simp only [if_neg (show ¬ (i : Int) = (a : Int) by omega)]
      by_cases c2 : i = b
      · rw [if_pos (.inr c2), Nat.add_zero] at ih
        simp only [if_pos (show (i : Int) = (b : Int) by omega)]
        exact ih
      · rw [if_neg (fun z => z.elim c1 c2)] at ih
        simp only [if_neg (show ¬ (i : Int) = (b : Int) by omega), w64n (show nmA a b i < 4611686018427387904 by omega)]
        exact ih
theorem leftCon_run (t f : List Int) (n : Nat) (hn : n ≤ 12) (ht : inR n t) (hti : injR n t) (hf : inR n f) (a b : Nat) (ha : a < n) (hb : b < n) (hab : a ≠ b) (fa : rd f (a : Int) = b) (fb : rd f (b : Int) = a) : ∀ (d i : Nat), n - i = d → i ≤ n → Ev (fun k => leftCon.l1 a b t f k a b (nmT a b n) n i t f (lvL a b (fun d => (nmA a b (skp (swpL t a b n) a b (rd (swpL t a b n) (d : Int))).toNat : Int)) i) (lvL a b (fun d => (nmA a b (rd f (d : Int)).toNat : Int)) i)) (outT (swpL t a b n) a b n, outF f a b n)
  | 0, i, hd, hi => by
    have : i = n := by omega
    subst this
    refine Ev.s ?_
    simp only [leftCon.l1, show ¬ (i : Int) < (i : Int) by omega, if_false]
    exact Ev.const rfl
  | d + 1, i, hd, hi => by
    have ih := leftCon_run t f n hn ht hti hf a b ha hb hab fa fb d (i + 1) (by omega) (by omega)
    have hle := nmA_le a b i
    have l1 := lvL_len a b (fun d => (nmA a b (skp (swpL t a b n) a b (rd (swpL t a b n) (d : Int))).toNat : Int)) i
    have l2 := lvL_len a b (fun d => (nmA a b (rd f (d : Int)).toNat : Int)) i
    have htl := ht.1
    have hfl := hf.1
    refine Ev.s ?_
    simp only [leftCon.l1, show (i : Int) < (n : Int) by omega, show (0 : Int) ≤ (i : Int) by omega, if_true, w64n (show i < 4611686018427387904 by omega)]
    simp only [lvL] at ih
    by_cases c1 : i = a
    · rw [if_pos (.inl c1), if_pos (.inl c1)] at ih
      simp only [if_pos (show (i : Int) = (a : Int) by omega)]
      exact ih
    · simp only [if_neg (show ¬ (i : Int) = (a : Int) by omega)]
      by_cases c2 : i = b
      · rw [if_pos (.inr c2), if_pos (.inr c2)] at ih
        simp only [if_pos (show (i : Int) = (b : Int) by omega)]
        exact ih
      · rw [if_neg (fun z => z.elim c1 c2), if_neg (fun z => z.elim c1 c2)] at ih
        simp only [if_neg (show ¬ (i : Int) = (b : Int) by omega), show (i : Int) < (t.length : Int) by omega, if_true]
        refine Ev.bind (onCon_ev t f n ht hti hf a b ha hb hab fa fb i (by omega) c1 c2) ?_
        have r1 := (skp_out (swpL t a b n) n (swpL_inR t n a b ht ha hb) (swpL_inj t n a b hti ha hb hab) a b i ha hb (by omega) hab c1 c2).2
        have r2 := hf.2 i (by omega)
        have e1 := nmT_rd a b n (skp (swpL t a b n) a b (rd (swpL t a b n) (i : Int))).toNat (by omega)
        have e2 := nmT_rd a b n (rd f (i : Int)).toNat (by omega)
        rw [show (((skp (swpL t a b n) a b (rd (swpL t a b n) (i : Int))).toNat : Nat) : Int) = skp (swpL t a b n) a b (rd (swpL t a b n) (i : Int)) by omega] at e1
        rw [show (((rd f (i : Int)).toNat : Nat) : Int) = rd f (i : Int) by omega] at e2
        simp only [r1.1, r1.2, r2.1, r2.2, nmT_len, show (i : Int) < (f.length : Int) by omega, if_true, e1, e2, show (lvL a b (fun d => (nmA a b (skp (swpL t a b n) a b (rd (swpL t a b n) (d : Int))).toNat : Int)) i).length < 17592186044416 by omega, show (lvL a b (fun d => (nmA a b (rd f (d : Int)).toNat : Int)) i).length < 17592186044416 by omega]
        exact ih
theorem leftCon_ev (t f : List Int) (n : Nat) (hn : n ≤ 12) (ht : inR n t) (hti : injR n t) (hf : inR n f) (a b : Nat) (ha : a < n) (hb : b < n) (hab : a ≠ b) (fa : rd f (a : Int) = b) (fb : rd f (b : Int) = a) : Ev (fun k => leftCon.f k t f a b a b t f) (outT (swpL t a b n) a b n, outF f a b n) := by
  have htl := ht.1
  have h1 := leftCon_run t f n hn ht hti hf a b ha hb hab fa fb n 0 (by omega) (by omega)
  have h0 := namesCon t f t f n hn a b a b _ (by rw [htl]; exact h1) n 0 (by omega) (by omega)
  rw [mixL_zero _ _ _ (by simp)] at h0
  unfold leftCon.f
  simp only [htl, show (0 : Int) ≤ (n : Int) by omega, Int.toNat_natCast, show n ≤ 35184372088832 by omega, if_true, Option.bind_some, List.length_replicate]
  exact h0
theorem conI_told (t f : List Int) (hm : isMap t f) (e : Nat) (he : e < (edL f t.length).length) : ∃ a b : Nat, a < t.length ∧ b < t.length ∧ a ≠ b ∧ rd (edL f t.length) (e : Int) = a ∧ rd f a = b ∧ rd f b = a ∧ (∀ d : Nat, d < t.length → (rd (geL f t.length t.length) (d : Int) = e ↔ d = a ∨ d = b)) ∧
    Ev (fun k => impl_EdgeContract.j0 k e false t f) (outT (swpL t a b t.length) a b t.length, outF f a b t.length, true) := by
  obtain ⟨hn, h1, ht, hti, hf, hfl, _, _⟩ := ribOk_of t f [] hm (fun i hi => by simp at hi) (by simp)
  have hlen := hf.1
  obtain ⟨a, b, ha, hb, hab, e1, e2, e3, e4⟩ := edge_at f t.length hf hfl e he
  refine ⟨a, b, ha, hb, hab, e1, e2, e3, e4, ?_⟩
  refine Ev.s ?_
  simp only [impl_EdgeContract.j0, Bool.false_eq_true, if_false]
  refine Ev.bind (implEdges_ev t.length (by omega) t f hf) ?_
  simp only [show (0 : Int) ≤ (e : Int) by omega, show (e : Int) < ((edL f t.length).length : Int) by omega, e1, show (0 : Int) ≤ (a : Int) by omega, show (a : Int) < (f.length : Int) by omega, e2, if_true]
  exact Ev.bind (leftCon_ev t f t.length hn ht hti hf a b ha hb hab e2 e3) (Ev.const rfl)
theorem onDel_ev (t f : List Int) (n : Nat) (ht : inR n t) (hti : injR n t) (hf : inR n f) (a b : Nat) (ha : a < n) (hb : b < n) (hab : a ≠ b) (fa : rd f (a : Int) = b) (fb : rd f (b : Int) = a) (d : Nat) (hd : d < n) (hda : d ≠ a) (hdb : d ≠ b) : Ev (fun k => edel.f k a b t f (rd t (d : Int))) (skp t a b (rd t (d : Int))) := by
  have htl := ht.1
  have hfl := hf.1
  exact skp_run (fun k x => edel.l0 a b t f k x) t n ht a b (fun x h1 h2 => by
      refine Ev.s ?_
      simp only [edel.l0, h1, h2, if_false]
      exact Ev.const rfl) (fun x c r hr => by
      refine Ev.s ?_
      rcases c with c | c
      · subst c
        simp only [edel.l0, if_true, show (0 : Int) ≤ (a : Int) by omega, show (a : Int) < (t.length : Int) by omega]
        exact hr
      · subst c
        simp only [edel.l0, if_true, show ¬ (b : Int) = (a : Int) by omega, if_false, show (0 : Int) ≤ (b : Int) by omega, show (b : Int) < (t.length : Int) by omega]
        exact hr) (rd t (d : Int)) (skp_out t n ht hti a b d ha hb hd hab hda hdb).1
theorem namesDel (t f lt lf : List Int) (n : Nat) (hn : n ≤ 12) (a b ca cb : Nat) (r : List Int × List Int) (h : Ev (fun k => leftDel.l1 ca cb lt lf k a b (nmT a b n) (t.length : Int) 0 t f [] []) r) : ∀ (d i : Nat), n - i = d → i ≤ n → Ev (fun k => leftDel.l0 ca cb lt lf k a b (mixL (nmT a b n) (List.replicate n 0) n i) (nmA a b i) n i t f) r
  | 0, i, hd, hi => by
    have : i = n := by omega
    subst this
    rw [mixL_all _ _ _ (nmT_len a b i)]
    refine Ev.s ?_
    simp only [leftDel.l0, show ¬ (i : Int) < (i : Int) by omega, if_false]
    exact h
  | d + 1, i, hd, hi => by
    have ih := namesDel t f lt lf n hn a b ca cb r h d (i + 1) (by omega) (by omega)
    have hl := mixL_len (nmT a b n) (List.replicate n 0) n i
    have hs := mixL_set (nmT a b n) (List.replicate n 0) n i (by omega)
    rw [nmT_rd a b n i (by omega)] at hs
    have hle := nmA_le a b i
    refine Ev.s ?_
    simp only [leftDel.l0, hl, show (i : Int) < (n : Int) by omega, show (0 : Int) ≤ (i : Int) by omega, if_true, Option.bind_some, Int.toNat_natCast, hs, w64n (show i < 4611686018427387904 by omega)]
    simp only [nmA] at ih
    by_cases c1 : i = a
    · rw [if_pos (.inl c1), Nat.add_zero] at ih
      simp only [if_pos (show (i : Int) = (a : Int) by omega)]
      exact ih
    · simp only [if_neg (show ¬ (i : Int) = (a : Int) by omega)]
      by_cases c2 : i = b
      · rw [if_pos (.inr c2), Nat.add_zero] at ih
        simp only [if_pos (show (i : Int) = (b : Int) by omega)]
        exact ih
      · rw [if_neg (fun z => z.elim c1 c2)] at ih
        simp only [if_neg (show ¬ (i : Int) = (b : Int) by omega), w64n (show nmA a b i < 4611686018427387904 by omega)]
        exact ih
theorem leftDel_run (t f : List Int) (n : Nat) (hn : n ≤ 12) (ht : inR n t) (hti : injR n t) (hf : inR n f) (a b : Nat) (ha : a < n) (hb : b < n) (hab : a ≠ b) (fa : rd f (a : Int) = b) (fb : rd f (b : Int) = a) : ∀ (d i : Nat), n - i = d → i ≤ n → Ev (fun k => leftDel.l1 a b t f k a b (nmT a b n) n i t f (lvL a b (fun d => (nmA a b (skp t a b (rd t (d : Int))).toNat : Int)) i) (lvL a b (fun d => (nmA a b (rd f (d : Int)).toNat : Int)) i)) (outT t a b n, outF f a b n)
  | 0, i, hd, hi => by
    have : i = n := by omega
    subst this
    refine Ev.s ?_
    simp only [leftDel.l1, show ¬ (i : Int) < (i : Int) by omega, if_false]
    exact Ev.const rfl
  | d + 1, i, hd, hi => by
    have ih := leftDel_run t f n hn ht hti hf a b ha hb hab fa fb d (i + 1) (by omega) (by omega)
    have hle := nmA_le a b i
    have l1 := lvL_len a b (fun d => (nmA a b (skp t a b (rd t (d : Int))).toNat : Int)) i
    have l2 := lvL_len a b (fun d => (nmA a b (rd f (d : Int)).toNat : Int)) i
    have htl := ht.1
    have hfl := hf.1
    refine Ev.s ?_
    simp only [leftDel.l1, show (i : Int) < (n : Int) by omega, show (0 : Int) ≤ (i : Int) by omega, if_true, w64n (show i < 4611686018427387904 by omega)]
    simp only [lvL] at ih
    by_cases c1 : i = a
    · rw [if_pos (.inl c1), if_pos (.inl c1)] at ih
      simp only [if_pos (show (i : Int) = (a : Int) by omega)]
      exact ih
    · simp only [if_neg (show ¬ (i : Int) = (a : Int) by omega)]
      by_cases c2 : i = b
      · rw [if_pos (.inr c2), if_pos (.inr c2)] at ih
        simp only [if_pos (show (i : Int) = (b : Int) by omega)]
        exact ih
      · rw [if_neg (fun z => z.elim c1 c2), if_neg (fun z => z.elim c1 c2)] at ih
        simp only [if_neg (show ¬ (i : Int) = (b : Int) by omega), show (i : Int) < (t.length : Int) by omega, if_true]
        refine Ev.bind (onDel_ev t f n ht hti hf a b ha hb hab fa fb i (by omega) c1 c2) ?_
        have r1 := (skp_out t n ht hti a b i ha hb (by omega) hab c1 c2).2
        have r2 := hf.2 i (by omega)
        have e1 := nmT_rd a b n (skp t a b (rd t (i : Int))).toNat (by omega)
        have e2 := nmT_rd a b n (rd f (i : Int)).toNat (by omega)
        rw [show (((skp t a b (rd t (i : Int))).toNat : Nat) : Int) = skp t a b (rd t (i : Int)) by omega] at e1
        rw [show (((rd f (i : Int)).toNat : Nat) : Int) = rd f (i : Int) by omega] at e2
        simp only [r1.1, r1.2, r2.1, r2.2, nmT_len, show (i : Int) < (f.length : Int) by omega, if_true, e1, e2, show (lvL a b (fun d => (nmA a b (skp t a b (rd t (d : Int))).toNat : Int)) i).length < 17592186044416 by omega, show (lvL a b (fun d => (nmA a b (rd f (d : Int)).toNat : Int)) i).length < 17592186044416 by omega]
        exact ih
theorem leftDel_ev (t f : List Int) (n : Nat) (hn : n ≤ 12) (ht : inR n t) (hti : injR n t) (hf : inR n f) (a b : Nat) (ha : a < n) (hb : b < n) (hab : a ≠ b) (fa : rd f (a : Int) = b) (fb : rd f (b : Int) = a) : Ev (fun k => leftDel.f k t f a b a b t f) (outT t a b n, outF f a b n) := by
  have htl := ht.1
  have h1 := leftDel_run t f n hn ht hti hf a b ha hb hab fa fb n 0 (by omega) (by omega)
  have h0 := namesDel t f t f n hn a b a b _ (by rw [htl]; exact h1) n 0 (by omega) (by omega)
  rw [mixL_zero _ _ _ (by simp)] at h0
  unfold leftDel.f
  simp only [htl, show (0 : Int) ≤ (n : Int) by omega, Int.toNat_natCast, show n ≤ 35184372088832 by omega, if_true, Option.bind_some, List.length_replicate]
  exact h0
theorem delI_told (t f : List Int) (hm : isMap t f) (e : Nat) (he : e < (edL f t.length).length) : ∃ a b : Nat, a < t.length ∧ b < t.length ∧ a ≠ b ∧ rd (edL f t.length) (e : Int) = a ∧ rd f a = b ∧ rd f b = a ∧ (∀ d : Nat, d < t.length → (rd (geL f t.length t.length) (d : Int) = e ↔ d = a ∨ d = b)) ∧
    Ev (fun k => impl_EdgeDelete.j0 k e false t f) (outT t a b t.length, outF f a b t.length, true) := by
  obtain ⟨hn, h1, ht, hti, hf, hfl, _, _⟩ := ribOk_of t f [] hm (fun i hi => by simp at hi) (by simp)
  have hlen := hf.1
  obtain ⟨a, b, ha, hb, hab, e1, e2, e3, e4⟩ := edge_at f t.length hf hfl e he
  refine ⟨a, b, ha, hb, hab, e1, e2, e3, e4, ?_⟩
  refine Ev.s ?_
  simp only [impl_EdgeDelete.j0, Bool.false_eq_true, if_false]
  refine Ev.bind (implEdges_ev t.length (by omega) t f hf) ?_
  simp only [show (0 : Int) ≤ (e : Int) by omega, show (e : Int) < ((edL f t.length).length : Int) by omega, e1, show (0 : Int) ≤ (a : Int) by omega, show (a : Int) < (f.length : Int) by omega, e2, if_true]
  exact Ev.bind (leftDel_ev t f t.length hn ht hti hf a b ha hb hab e2 e3) (Ev.const rfl)
end Go.Proofs.Ytjgknblneokhlaa.PK

set_option linter.unusedVariables false
set_option linter.unusedSimpArgs false
namespace Go.Proofs.Ytjgknblneokhlaa.Pure
open Go.RowKit Go.Proofs.Ytjgknblneokhlaa.PK Go.Proofs.YtjgknblneokhlaaW.PrintWords Go.Proofs.YtjgknblneokhlaaW.PrintLast Go.Proofs.YtjgknblneokhlaaW.PrintMore
theorem drawMatrix_ev (l : List Int) (hb : ∀ x ∈ l, (Lit.int .u8 x).wf = true) : ∃ t f : List Int, Ev (fun k => spec_DrawRibbonMatrix.f k l) (t, f) ∧ t.length ≤ 12 ∧ f.length ≤ 12 := by
  obtain ⟨l', e, h⟩ := open_ev l hb
  obtain ⟨t, f, p, e1, e2, e3, e4, e5⟩ := l91Map_ev l' h 6 (by omega) (by omega)
  refine ⟨t, f, ?_, e2, e3⟩
  unfold spec_DrawRibbonMatrix.f
  simp only [e, Option.bind_some]
  exact Ev.bind e1 (Ev.const rfl)
theorem edgeM_ev (t f : List Int) (hm : isMap t f) (E : Nat) (hE : E < (edL f t.length).length) (h2 : t.length ≠ 2) : ∃ a b P : Nat, EdgeAt f t.length E a b ∧ Cl t.length (Go.Proofs.Ytjgknblneokhlaa.PK.Reach [t, flC f t.length (restL [(E : Int)] (edL f t.length).length)] t.length) P ∧ (P = 1 ∨ P = 2) ∧
    (Go.Proofs.Ytjgknblneokhlaa.PK.Reach [t] t.length a b → Ev (fun k => impl_EdgeKind.f k t f E) 2 ∧ Ev (fun k => impl_EdgeContract.f k t f E) ([], [], false) ∧ Ev (fun k => impl_EdgeDelete.f k t f E) (outT t a b t.length, outF f a b t.length, true)) ∧
    (¬ Go.Proofs.Ytjgknblneokhlaa.PK.Reach [t] t.length a b → Ev (fun k => impl_EdgeKind.f k t f E) ((P : Int) - 1) ∧ Ev (fun k => impl_EdgeContract.f k t f E) (outT (swp t a b t.length) a b t.length, outF f a b t.length, true) ∧
      (P = 1 → Ev (fun k => impl_EdgeDelete.f k t f E) (outT t a b t.length, outF f a b t.length, true)) ∧ (P = 2 → Ev (fun k => impl_EdgeDelete.f k t f E) ([], [], false))) := by
  have H := mapOk_of t f hm
  have hfl : f.length = t.length := H.2.2.2.2.1.1
  obtain ⟨a, b, y1, y2, y3, y4, y5, y6, y7, q⟩ := conI_told t f hm E hE
  obtain ⟨a', b', z1, z2, z3, z4, z5, z6, z7, q'⟩ := delI_told t f hm E hE
  have ea : a' = a := by omega
  subst ea
  have eb : b' = b := by omega
  subst eb
  have hab : EdgeAt f t.length E a' b' := ⟨y1, y2, y3, y4, y5, y6, y7⟩
  have noD : Ev (fun k => impl_EdgeDelete.j0 k E true t f) ([], [], false) := by
    refine Ev.s ?_
    simp only [impl_EdgeDelete.j0, if_true]
    exact Ev.const rfl
  have noC : Ev (fun k => impl_EdgeContract.j0 k E true t f) ([], [], false) := by
    refine Ev.s ?_
    simp only [impl_EdgeContract.j0, if_true]
    exact Ev.const rfl
  have l2 : (((f.length : Int) == 2)) = false := beq_eq_false_iff_ne.2 (by omega)
  obtain ⟨P, hP, p12, k1, k2⟩ := kindI_ev t f hm E a' b' hE hab
  refine ⟨a', b', P, hab, hP, p12, fun hr => ⟨k1 hr, ?_, ?_⟩, fun hr => ⟨k2 hr, ?_, fun hp => ?_, fun hp => ?_⟩⟩
  · unfold impl_EdgeContract.f
    refine Ev.bind (k1 hr) ?_
    simp only [show ¬ (2 : Int) = -1 by decide, if_false, if_true]
    exact noC
  · unfold impl_EdgeDelete.f
    refine Ev.bind (k1 hr) ?_
    simp only [show ¬ (2 : Int) = -1 by decide, show ¬ (2 : Int) = 1 by decide, if_false]
    rw [l2]
    exact q'
  · unfold impl_EdgeContract.f
    refine Ev.bind (k2 hr) ?_
    simp only [show ¬ (P : Int) - 1 = -1 by omega, show ¬ (P : Int) - 1 = 2 by omega, if_false]
    rw [l2]
    exact q
  · unfold impl_EdgeDelete.f
    refine Ev.bind (k2 hr) ?_
    simp only [show ¬ (P : Int) - 1 = -1 by omega, show ¬ (P : Int) - 1 = 1 by omega, if_false]
    rw [l2]
    exact q'
  · unfold impl_EdgeDelete.f
    refine Ev.bind (k2 hr) ?_
    simp only [show ¬ (P : Int) - 1 = -1 by omega, show (P : Int) - 1 = 1 by omega, if_false, if_true]
    exact noD
theorem FnMatrixDelete : laws_FnMatrixDelete.Pure := by
  intro l m hl _ hb _ _ _
  refine Ev.rounds (r := true) ?_
  unfold laws_FnMatrixDelete.f
  by_cases c0 : (l.length : Int) > 1048576
  · simp only [c0, if_true]
    refine Ev.s ?_
    simp only [laws_FnMatrixDelete.j0, if_true]
    exact Ev.const rfl
  simp only [c0, if_false]
  by_cases c1 : (m.length : Int) > 1048576
  · rw [decide_eq_true c1]
    refine Ev.s ?_
    simp only [laws_FnMatrixDelete.j0, if_true]
    exact Ev.const rfl
  rw [decide_eq_false c1]
  refine Ev.s ?_
  simp only [laws_FnMatrixDelete.j0, Bool.false_eq_true, if_false]
  obtain ⟨t, f, dr, d2, d3⟩ := drawMatrix_ev l hb
  obtain ⟨r, r1, r2⟩ := ribbonMatrix_both t f (by omega) (by omega)
  refine Ev.bind dr ?_
  refine Ev.bind r2 ?_
  refine Ev.bind r1 ?_
  simp only [if_true]
  refine Ev.s ?_
  by_cases hr : r < 0
  · simp only [laws_FnMatrixDelete.j1, decide_eq_true hr, if_true, beq_self_eq_true]
    exact Ev.const rfl
  obtain ⟨b, _, b2, b3⟩ := mapValid_both t f (by omega) (by omega)
  cases b with
  | false =>
    exfalso
    have h : Ev (fun k => impl_RibbonMatrix.f k t f) (-1) := by
      unfold impl_RibbonMatrix.f
      refine Ev.bind b2 ?_
      simp only [Bool.false_eq_true, if_false]
      exact Ev.const rfl
    have := Ev.uniq r2 h
    omega
  | true =>
    have hm := b3.1 rfl
    have er := Ev.uniq r2 (matrixI_ev t f hm)
    have H := mapOk_of t f hm
    obtain ⟨hn, h1, ht', hti, hf', hfl, hcon⟩ := id H
    have hh := edL_half f t.length hf' hfl
    obtain ⟨F, w1, w2⟩ := mapCounts_ev t f hm (by omega) (by omega)
    simp only [laws_FnMatrixDelete.j1, decide_eq_false hr, Bool.false_eq_true, if_false]
    refine Ev.bind w2 ?_
    have l3 : (threeN (cyS t t.length t.length).2.length (edL f t.length).length F).length = 3 := rfl
    have q1 : rd (threeN (cyS t t.length t.length).2.length (edL f t.length).length F) 1 = ((edL f t.length).length : Int) := rfl
    simp only [l3, q1, show (1 : Int) < ((3 : Nat) : Int) by decide, if_true]
    have hE0 : ¬ ((edL f t.length).length : Int) = 0 := by omega
    simp only [hE0, if_false]
    by_cases hE1 : ((edL f t.length).length : Int) = 1
    · have := trees_one t f hm (by omega) 0
      rw [this] at er
      simp only [hE1, if_true, er]
      exact Ev.const rfl
    simp only [hE1, if_false]
    have h2 : t.length ≠ 2 := by omega
    have hmod : ((m.length : Int) % ((edL f t.length).length : Int)) = ((m.length % (edL f t.length).length : Nat) : Int) := by omega
    rw [hmod]
    have hElt : m.length % (edL f t.length).length < (edL f t.length).length := Nat.mod_lt _ (by omega)
    generalize m.length % (edL f t.length).length = E at hElt ⊢
    obtain ⟨a, b, P, hab, hP, p12, k2, k01⟩ := edgeM_ev t f hm E hElt h2
    by_cases hk : Go.Proofs.Ytjgknblneokhlaa.PK.Reach [t] t.length a b
    · obtain ⟨e1, e2, e3⟩ := k2 hk
      refine Ev.bind e3 ?_
      refine Ev.bind e2 ?_
      refine Ev.bind e1 ?_
      obtain ⟨N3, D⟩ := del_map t f t.length H E a b hElt hab h2 (.inl hk)
      have hmD := isMap_of D
      have lD : (outT t a b t.length).length = t.length - 2 := D.2.2.1.1
      have vD := matrixI_ev _ _ hmD
      rw [lD, ← trees_loop t f t.length H E a b hElt hab hk N3 0, ← er] at vD
      simp only [show ¬ (2 : Int) = 0 by decide, show ¬ (2 : Int) = 1 by decide, if_false, if_true, Bool.false_eq_true]
      refine Ev.bind vD ?_
      simp only [beq_self_eq_true]
      exact Ev.const rfl
    obtain ⟨e1, e2, e3, e4⟩ := k01 hk
    obtain ⟨N1, N2, M⟩ := con_map t f t.length H E a b hElt hab h2 hk
    have hmC := isMap_of M
    have lC : (outT (swp t a b t.length) a b t.length).length = t.length - 2 := M.2.2.1.1
    have vC := matrixI_ev _ _ hmC
    rw [lC] at vC
    obtain ⟨sC0, sC1⟩ := trees_small _ _ _ M
    rcases p12 with hp | hp
    · refine Ev.bind (e3 hp) ?_
      refine Ev.bind e2 ?_
      refine Ev.bind e1 ?_
      subst hp
      simp only [show ((1 : Nat) : Int) - 1 = 0 by omega, if_true]
      obtain ⟨N3, D⟩ := del_map t f t.length H E a b hElt hab h2 (.inr hP)
      have hmD := isMap_of D
      have lD : (outT t a b t.length).length = t.length - 2 := D.2.2.1.1
      have vD := matrixI_ev _ _ hmD
      rw [lD] at vD
      obtain ⟨sD0, sD1⟩ := trees_small _ _ _ D
      have vc := val_cut t f t.length H E a b hElt hab hk N3 N1 N2 0 0 0
      refine Ev.bind vD ?_
      refine Ev.bind vC ?_
      rw [w64 (by omega) (by omega), ← vc, ← er, beq_self_eq_true]
      exact Ev.const rfl
    · refine Ev.bind (e4 hp) ?_
      refine Ev.bind e2 ?_
      refine Ev.bind e1 ?_
      subst hp
      simp only [show ¬ ((2 : Nat) : Int) - 1 = 0 by omega, show ((2 : Nat) : Int) - 1 = 1 by omega, if_true, if_false, Bool.false_eq_true]
      have far : ¬ Go.Proofs.Ytjgknblneokhlaa.PK.Reach [t, flC f t.length (restL [(E : Int)] (edL f t.length).length)] t.length a b := by
        intro h
        have hrd := rest_rd t f t.length H E a b hElt hab
        obtain ⟨ha, hb', hne, e1, e2, e3, e4⟩ := id hab
        have all : ∀ x y, x < t.length → y < t.length → Go.Proofs.Ytjgknblneokhlaa.PK.Reach [t, flC f t.length (restL [(E : Int)] (edL f t.length).length)] t.length x y := by
          intro x y hx hy S hS
          refine hcon x y hx hy S ?_
          have hSt : ∀ k, k < t.length → (S k ↔ S (rd t (k : Int)).toNat) := hS t (by simp)
          have hSF : ∀ k, k < t.length → (S k ↔ S (rd (flC f t.length (restL [(E : Int)] (edL f t.length).length)) (k : Int)).toNat) := hS _ (by simp)
          have ab : S a ↔ S b := h S hS
          intro q hq k hkn
          rcases List.mem_cons.1 hq with rfl | hq
          · exact hSt k hkn
          · rw [List.mem_singleton.1 hq]
            by_cases za : k = a
            · rw [za, e2, Int.toNat_natCast]; exact ab
            · by_cases zb : k = b
              · rw [zb, e3, Int.toNat_natCast]; exact ab.symm
              · have := hSF k hkn
                rwa [hrd k hkn, if_neg (by intro z; rcases z with z | z; exact za z; exact zb z)] at this
        have one : Cl t.length (Go.Proofs.Ytjgknblneokhlaa.PK.Reach [t, flC f t.length (restL [(E : Int)] (edL f t.length).length)] t.length) 1 := by
          refine ⟨[0], by simp, fun x => ?_, rfl⟩
          rw [List.mem_singleton]
          constructor
          · rintro rfl
            exact ⟨h1, fun i hi => by omega⟩
          · rintro ⟨hx, hl⟩
            by_cases z : x = 0
            · exact z
            · exact absurd (all 0 x h1 hx) (hl 0 (by omega))
        have := hP.uniq one
        omega
      have vb := val_bridge t f t.length H E a b hElt hab hk far N1 N2 0 0 0
      rw [Int.zero_add, Int.one_mul] at vb
      rw [← vb, ← er] at vC
      refine Ev.bind vC ?_
      simp only [beq_self_eq_true]
      exact Ev.const rfl
end Go.Proofs.Ytjgknblneokhlaa.Pure

namespace Go.Proofs.Ytjgknblneokhlaa.fnMatrixDelete
open Go.ChangeShapes Go.WideShapes Go.ChangeAt Go.RowKit
open Go.ChangeMaps (open_string shut_string)
set_option linter.unusedVariables false
theorem own : ownKnob Try.prog.godebug = none := by kernel_rfl
theorem laidOut : laidOutB Try.prog = true := by kernel_rfl
def IsRow (k : IntKind) (w : World) (a : Option Addr) (len cap : Nat) (zs : List Int) : Prop :=
 (a = none ∧ len = 0 ∧ cap = 0 ∧ zs = []) ∨
 ∃ x, a = some x ∧ len ≤ cap ∧ cap ≤ maxLen ∧ zs.length = cap ∧ (∀ i, i < zs.length → w.cell? (x.add i) = some (.int k (zs.getD i 0))) ∧ ∀ n ∈ zs, (Lit.int k n).wf = true
set_option maxRecDepth 100000 in
theorem lifted (os : Os) (started : os.Started) (H : Type) (enc : TypeId × Value → H) :
  ReturnsInHanded {} Try.checked os 9 .any (Rows.fnMatrixDeleteSpec.pre6 enc Try.prog Try.f9 Rows.fnMatrixDeleteRow.domain false) (Rows.fnMatrixDeleteSpec.post enc Try.prog Try.f9 false true false false) := by
 refine returnsInHanded_of_change_sized (C := Try.checked) own started (by kernel_rfl) Try.func9
  (ChangeSpec.witness6 (enc := enc) (C := Try.checked) false ⟨#[], #[.slice none 0 0, .slice none 0 0], []⟩ 8 (by kernel_rfl) (by kernel_rfl) (by kernel_rfl) (by kernel_rfl)) ?_
 intro W base args ds gs before hval0 hW hcnd hsz0 _
 have hsz : (DataW.weightsEach Try.prog (Try.f9.params.toList ++ Rows.fnMatrixDeleteSpec.plain.varTypes Try.prog) (ds ++ gs)).all (· ≤ reachBytes) = true := hsz0
 have hval : ∀ (j : Nat) t v, Try.f9.params[j]? = some t → args[j]? = some v → Value.okWide Try.prog W .any base t v := hval0
 have hW' := hW
 obtain ⟨p, q, hA0, hV, rfl, hfz, hnd⟩ := hW
 have hA : DataW.TrodAll enc Try.prog W 0 (fun _ => true) true Try.f9.params.toList args.toList ds p := hA0
 rw [Try.params9] at hA hval hsz
 obtain ⟨v0, vs0, d0, ds0, p0, q0, hargs, rfl, rfl, h0, r0⟩ := trodAll_cons hA
 obtain ⟨v1, vs1, d1, ds1, p1, q1, rfl, rfl, rfl, h1, r1⟩ := trodAll_cons r0
 obtain ⟨rfl, rfl, rfl⟩ := trodAll_nil r1
 obtain rfl : args = #[v0, v1] := by cases args; simp_all
 obtain ⟨rfl, rfl⟩ := trodVars_none hV
 obtain ⟨a0, len0, cap0, rfl⟩ := okWide_slice Try.underlying22 (hval 0 22 v0 rfl rfl)
 have k0 := h0
 have lt0 : ∀ x ∈ p0, x.block < W.heap.size := by obtain ⟨m, hm⟩ := k0; exact DataW.trod_lt m _ _ _ hm
 obtain ⟨z0, w0⟩ : ∃ zs, IsRow .u8 W a0 len0 cap0 zs := by
  obtain ⟨fuel, hf⟩ := h0
  rcases open_ints Try.underlying22 Try.underlying5 (by kernel_rfl) hf with ⟨hcs, _⟩ | ⟨x, l, c, zs, hcs, _, hl, hm, hz, _, hcell, hwz⟩
  ·
   simp [Value.cells] at hcs
   obtain ⟨rfl, rfl, rfl⟩ := hcs
   exact ⟨[], .inl ⟨rfl, rfl, rfl, rfl⟩⟩
  ·
   simp [Value.cells] at hcs
   obtain ⟨rfl, rfl, rfl⟩ := hcs
   exact ⟨zs, .inr ⟨_, rfl, hl, hm, by simpa using hz, hcell, hwz⟩⟩
 have y0 : len0 * 1 ≤ 140737488351232 := Go.Proofs.YtjgknblneokhlaaW.PrintWords.sized_ints hsz (j := 0) (t := 22) rfl rfl Try.underlying22 Try.underlying5 (by kernel_rfl) (by kernel_rfl) h0
 obtain ⟨a1, len1, cap1, rfl⟩ := okWide_slice Try.underlying22 (hval 1 22 v1 rfl rfl)
 have k1 := h1
 have lt1 : ∀ x ∈ p1, x.block < W.heap.size := by obtain ⟨m, hm⟩ := k1; exact DataW.trod_lt m _ _ _ hm
 obtain ⟨z1, w1⟩ : ∃ zs, IsRow .u8 W a1 len1 cap1 zs := by
  obtain ⟨fuel, hf⟩ := h1
  rcases open_ints Try.underlying22 Try.underlying5 (by kernel_rfl) hf with ⟨hcs, _⟩ | ⟨x, l, c, zs, hcs, _, hl, hm, hz, _, hcell, hwz⟩
  ·
   simp [Value.cells] at hcs
   obtain ⟨rfl, rfl, rfl⟩ := hcs
   exact ⟨[], .inl ⟨rfl, rfl, rfl, rfl⟩⟩
  ·
   simp [Value.cells] at hcs
   obtain ⟨rfl, rfl, rfl⟩ := hcs
   exact ⟨zs, .inr ⟨_, rfl, hl, hm, by simpa using hz, hcell, hwz⟩⟩
 have y1 : len1 * 1 ≤ 140737488351232 := Go.Proofs.YtjgknblneokhlaaW.PrintWords.sized_ints hsz (j := 1) (t := 22) rfl rfl Try.underlying22 Try.underlying5 (by kernel_rfl) (by kernel_rfl) h1
 clear hA0 hval0 hsz0 hsz
 refine (PK.laws_FnMatrixDelete.walk Pure.FnMatrixDelete a0 len0 cap0 z0 a1 len1 cap1 z1 W w0 y0 w1 y1).mono fun e W' ⟨he, bel⟩ => ?_
 subst he
 exact ⟨_, rfl, _, _, _, [], _, [], hW', trodAll_mk1 (shut_bool Try.underlying4 _), (trodAll_cons_mk (Below.trod laidOut (by kernel_rfl) (of_decide_eq_true (by kernel_rfl)) k0 bel lt0) (trodAll_cons_mk (Below.trod laidOut (by kernel_rfl) (of_decide_eq_true (by kernel_rfl)) k1 bel lt1) trodAll_mk0)), rfl, bel.frame _, fun h => by cases h⟩
theorem over : Rows.fnMatrixDeleteRow.holds Try.pinned (OpenSpec.ofChange Rows.fnMatrixDeleteSpec) :=
 OpenClaim.holds_of_wide 9 Try.f9 rfl rfl rfl rfl rfl rfl rfl ⟨rfl, rfl, rfl, rfl, rfl⟩ rfl rfl rfl rfl rfl (by kernel_rfl) Try.func9 (by kernel_rfl)
  (of_decide_eq_true (by kernel_rfl)) (by unfold Func.isWrapper; first | (rw [if_pos (by decide +kernel)]; kernel_rfl) | (rw [if_neg (by decide +kernel)]; exact ⟨rfl, rfl⟩))
  (fun os started H enc _ => lifted os started H enc)
theorem proved : Rows.FnMatrixDeleteSaid := over
#print axioms proved
end Go.Proofs.Ytjgknblneokhlaa.fnMatrixDelete
namespace Go.Proofs.Ytjgknblneokhlaa
theorem fnMatrixDelete_holds : Rows.FnMatrixDeleteSaid := fnMatrixDelete.proved
end Go.Proofs.Ytjgknblneokhlaa
