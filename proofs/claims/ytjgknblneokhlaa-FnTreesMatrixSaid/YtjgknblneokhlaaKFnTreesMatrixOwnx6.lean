/- For every code: of the map that the statement draws, RibbonTrees of the program answers what the reference answers; there is a spanning tree; RibbonMatrix tells as many, the mirror map has as many, and on the sphere the dual map too. There are no conditions. -/
import Derived.Test.YtjgknblneokhlaaKFnTreesMatrixOwnx5
set_option linter.unusedVariables false
set_option linter.unusedSimpArgs false
namespace Go.Proofs.Ytjgknblneokhlaa.PK
open Go.RowKit Go.Proofs.YtjgknblneokhlaaW.PrintWords Go.Proofs.YtjgknblneokhlaaW.PrintLast Go.Proofs.YtjgknblneokhlaaW.PrintMore
def chL (f : List Int) (n : Nat) (c : List Int) : List Bool := (List.range n).map fun (d : Nat) => chB f n c (d : Int)
theorem chL_len (f : List Int) (n : Nat) (c : List Int) : (chL f n c).length = n := by simp [chL]
theorem chL_getD (f : List Int) (n : Nat) (c : List Int) (d : Nat) (h : d < n) : (chL f n c).getD d false = chB f n c (d : Int) := by
  rw [List.getD_eq_getElem?_getD, List.getElem?_eq_getElem (by rw [chL_len]; exact h)]
  simp [chL]
theorem chL_rd (f : List Int) (n : Nat) (c : List Int) (x : Int) (h0 : 0 ≤ x) (h : x < n) : rdOf false (chL f n c) x = chB f n c x := by
  rw [rdOf_nat _ x h0, chL_getD f n c x.toNat (by omega), show ((x.toNat : Nat) : Int) = x by omega]
theorem bl_ext (a b : List Bool) (h : a.length = b.length) (hr : ∀ i : Nat, i < a.length → a.getD i false = b.getD i false) : a = b := by
  refine List.ext_getElem h fun i h1 h2 => ?_
  have := hr i h1
  rw [List.getD_eq_getElem?_getD, List.getD_eq_getElem?_getD, List.getElem?_eq_getElem h1, List.getElem?_eq_getElem h2] at this
  simpa using this
theorem chB_take (f : List Int) (n : Nat) (c : List Int) (i : Nat) (hi : i < c.length) (d : Int) : chB f n (c.take (i + 1)) d = (chB f n (c.take i) d || decide (rd (geL f n n) d = rd c i)) := by
  unfold chB
  rw [take_get c i hi, Bool.eq_iff_iff, Bool.or_eq_true, decide_eq_true_eq, decide_eq_true_eq, decide_eq_true_eq, List.mem_append, List.mem_singleton]
theorem step_ch (f : List Int) (n : Nat) (c : List Int) (i : Nat) (hi : i < c.length) (a b : Nat) (ha : a < n) (hb : b < n) (h : ∀ d : Nat, d < n → (rd (geL f n n) (d : Int) = rd c i ↔ d = a ∨ d = b)) :
    ((chL f n (c.take i)).set a true).set b true = chL f n (c.take (i + 1)) := by
  refine bl_ext _ _ (by simp [chL_len]) fun d hd => ?_
  have hd' : d < n := by simpa [chL_len] using hd
  rw [getD_set _ _ _ _ (by rw [List.length_set, chL_len]; exact hb), getD_set _ _ _ _ (by rw [chL_len]; exact ha), chL_getD _ _ _ d hd', chL_getD _ _ _ d hd', chB_take f n c i hi]
  have e := h d hd'
  by_cases e1 : b = d
  · rw [if_pos e1, decide_eq_true (e.2 (.inr e1.symm)), Bool.or_true]
  · by_cases e2 : a = d
    · rw [if_neg e1, if_pos e2, decide_eq_true (e.2 (.inl e2.symm)), Bool.or_true]
    · rw [if_neg e1, if_neg e2, decide_eq_false (fun z => (e.1 z).elim (fun z => e2 z.symm) (fun z => e1 z.symm)), Bool.or_false]
theorem step_fl (f : List Int) (n : Nat) (c : List Int) (i : Nat) (hi : i < c.length) (a b : Nat) (ha : a < n) (hb : b < n) (hab : rd f a = b) (hba : rd f b = a) (h : ∀ d : Nat, d < n → (rd (geL f n n) (d : Int) = rd c i ↔ d = a ∨ d = b)) :
    ((flC f n (c.take i)).set a (b : Int)).set b (a : Int) = flC f n (c.take (i + 1)) := by
  refine list_ext _ _ (by simp [flC_len]) fun d hd => ?_
  have hd' : d < n := by simpa [flC_len] using hd
  have e := h d hd'
  rw [flC_rd f n _ d hd', chB_take f n c i hi]
  by_cases e1 : b = d
  · subst e1
    rw [rd_set_self _ _ _ (by simpa [flC_len] using hb), decide_eq_true (e.2 (.inr rfl)), Bool.or_true, if_pos rfl, hba]
  · rw [rd_set_ne _ _ _ _ e1]
    by_cases e2 : a = d
    · subst e2
      rw [rd_set_self _ _ _ (by simpa [flC_len] using ha), decide_eq_true (e.2 (.inl rfl)), Bool.or_true, if_pos rfl, hab]
    · rw [rd_set_ne _ _ _ _ e2, flC_rd f n _ d hd', decide_eq_false (fun z => (e.1 z).elim (fun z => e2 z.symm) (fun z => e1 z.symm)), Bool.or_false]
theorem ch_fresh (f : List Int) (n : Nat) (hf : inR n f) (hfl : ∀ i : Nat, i < n → flipAt f i) (c : List Int) (hc : isChoice c ((edL f n).length : Int)) : ∀ i, i ≤ c.length → fresh (chL f n (c.take i)) + 2 * i = n
  | 0, _ => by
    have e : chL f n (c.take 0) = List.replicate n false := by
      refine bl_ext _ _ (by simp [chL_len]) fun d hd => ?_
      rw [chL_getD f n _ d (by rwa [chL_len] at hd)]
      have hd' : d < n := by rwa [chL_len] at hd
      simp [chB, List.getD_eq_getElem?_getD, List.getElem?_replicate, hd']
    rw [e]
    simp [fresh, List.countP_replicate]
  | i + 1, hi => by
    have ih := ch_fresh f n hf hfl c hc i (by omega)
    have hr := choice_range c _ hc i (by omega)
    obtain ⟨a, b, ha, hb, hab, _, _, _, h⟩ := edge_at f n hf hfl (rd c i).toNat (by omega)
    rw [show (((rd c i).toNat : Nat) : Int) = rd c i by omega] at h
    have hna := not_ahead c _ hc i (by omega)
    have fa : chB f n (c.take i) a = false := by
      unfold chB
      rw [(h a ha).2 (.inl rfl)]
      exact decide_eq_false hna
    have fb : chB f n (c.take i) b = false := by
      unfold chB
      rw [(h b hb).2 (.inr rfl)]
      exact decide_eq_false hna
    rw [← step_ch f n c i (by omega) a b ha hb h]
    have l := chL_len f n (c.take i)
    have g1 := fresh_set (chL f n (c.take i)) a (by omega) (by rw [chL_getD f n _ a ha, fa])
    have g2 := fresh_set ((chL f n (c.take i)).set a true) b (by simp; omega) (by rw [getD_set _ _ _ _ (by omega), if_neg hab, chL_getD f n _ b hb, fb])
    omega
theorem flC_zero (f : List Int) (n : Nat) (c : List Int) : flC f n (c.take 0) = stl n := by
  refine list_ext _ _ (by simp [flC_len, stl_length]) fun d hd => ?_
  have hd' : d < n := by rwa [flC_len] at hd
  rw [flC_rd f n _ d hd', stl_rd n d hd']
  simp [chB]
theorem chL_zero (f : List Int) (n : Nat) (c : List Int) : chL f n (c.take 0) = List.replicate n false := by
  refine bl_ext _ _ (by simp [chL_len]) fun d hd => ?_
  have hd' : d < n := by rwa [chL_len] at hd
  rw [chL_getD f n _ d hd']
  simp [chB, List.getD_eq_getElem?_getD, List.getElem?_replicate, hd']
def pc (o : List Int) : Nat → Nat
  | 0 => 0
  | i + 1 => if (i : Int) = rd o i then pc o i + 1 else pc o i
theorem pc_le (o : List Int) : ∀ i, pc o i ≤ i
  | 0 => Nat.le_refl _
  | i + 1 => by
    have := pc_le o i
    simp only [pc]
    split <;> omega
def bc (C : List (List Int)) (ch : Int → Bool) : Nat → Nat
  | 0 => 0
  | i + 1 => if (rd_L1 C i).any ch = true then bc C ch i else bc C ch i + 1
theorem bc_le (C : List (List Int)) (ch : Int → Bool) : ∀ i, bc C ch i ≤ i
  | 0 => Nat.le_refl _
  | i + 1 => by
    have := bc_le C ch i
    simp only [bc]
    split <;> omega
def sidesN (t f : List Int) (n : Nat) (c : List Int) : Nat := bc (cyS t n n).2 (chB f n c) (cyS t n n).2.length + (ribS (faL t f n c) n (chB f n c) n).2
theorem contF_run (l : List Int) (hl : l.length ≤ 1048576) (f : List Int) (n : Nat) (c : List Int) (hr : ∀ x ∈ l, 0 ≤ x ∧ x < n) : ∀ (d i : Nat), l.length - i = d → i ≤ l.length → ∃ v : Int, Ev (fun k => containsF.l0 k l (chL f n c) i) v ∧ (v ≥ 0 ↔ (l.drop i).any (chB f n c) = true)
  | 0, i, hd, hi => by
    refine ⟨-1, Ev.s ?_, ?_⟩
    · simp only [containsF.l0, show ¬ (i : Int) < (l.length : Int) by omega, if_false]
      exact Ev.const rfl
    · rw [List.drop_eq_nil_of_le (by omega)]
      simp
  | d + 1, i, hd, hi => by
    have hlt : i < l.length := by omega
    have e := rd_lt l i hlt
    have h1 := hr _ (List.getElem_mem hlt)
    rw [← e] at h1
    have g1 : (i : Int) < (l.length : Int) := by omega
    have g2 : (0 : Int) ≤ (i : Int) := by omega
    have g3 := chL_len f n c
    obtain ⟨v, v1, v2⟩ := contF_run l hl f n c hr d (i + 1) (by omega) (by omega)
    cases h : chB f n c (rd l i) with
    | true =>
      refine ⟨i, Ev.s ?_, ?_⟩
      · simp only [containsF.l0, g1, g2, h1.1, g3, h1.2, chL_rd f n c _ h1.1 h1.2, h, if_true]
        exact Ev.const rfl
      · rw [List.drop_eq_getElem_cons hlt, ← e, List.any_cons, h, Bool.true_or]
        exact ⟨fun _ => rfl, fun _ => by omega⟩
    | false =>
      refine ⟨v, Ev.s ?_, ?_⟩
      · simp only [containsF.l0, g1, g2, h1.1, g3, h1.2, chL_rd f n c _ h1.1 h1.2, h, if_true, Bool.false_eq_true, if_false, w64n (show i < 4611686018427387904 by omega)]
        exact v1
      · rw [v2, List.drop_eq_getElem_cons hlt, ← e, List.any_cons, h, Bool.false_or]
theorem contF_ev (l : List Int) (hl : l.length ≤ 1048576) (f : List Int) (n : Nat) (c : List Int) (hr : ∀ x ∈ l, 0 ≤ x ∧ x < n) : Ev (fun k => containsF.f k l (chL f n c)) (l.any (chB f n c)) := by
  obtain ⟨v, v1, v2⟩ := contF_run l hl f n c hr l.length 0 (by omega) (by omega)
  unfold containsF.f
  refine Ev.bind v1 (Ev.const ?_)
  rw [List.drop_zero] at v2
  congr 1
  rw [Bool.eq_iff_iff, decide_eq_true_eq]
  exact v2
theorem cw_ok (p : List Int) (n : Nat) (hp : inR n p) : ∀ (f : Nat) (s : List Bool) (c : List Int) (a : Int), s.length = n → 0 ≤ a → a < n → (∀ x ∈ c, 0 ≤ x ∧ x < n) → (∀ x ∈ (cw p f s c a).2, 0 ≤ x ∧ x < n) ∧ (cw p f s c a).2.length ≤ c.length + f
  | 0, s, c, a, hs, h0, h1, hc => ⟨hc, by simp [cw]⟩
  | f + 1, s, c, a, hs, h0, h1, hc => by
    simp only [cw]
    split
    · exact ⟨hc, by simp only; omega⟩
    · have h5 := hp.2 a.toNat (by omega)
      rw [show ((a.toNat : Nat) : Int) = a by omega] at h5
      have ih := cw_ok p n hp f (s.set a.toNat true) (c ++ [a]) (rd p a) (by simpa using hs) h5.1 h5.2 (fun x hx => by
        rw [List.mem_append, List.mem_singleton] at hx
        exact hx.elim (hc x) (fun e => by rw [e]; exact ⟨h0, h1⟩))
      refine ⟨ih.1, ?_⟩
      have := ih.2
      simp only [List.length_append, List.length_cons, List.length_nil] at this
      omega
theorem cyS_ok (p : List Int) (n : Nat) (hp : inR n p) : ∀ i, i ≤ n → ∀ l ∈ (cyS p n i).2, (∀ x ∈ l, 0 ≤ x ∧ x < n) ∧ l.length ≤ n + 1
  | 0, _, l, hl => by simp [cyS] at hl
  | i + 1, hi, l, hl => by
    have ih := cyS_ok p n hp i (by omega)
    have ok := cw_ok p n hp (n + 1) (cyS p n i).1 [] i (cyS_len p n i) (by omega) (by omega) (by simp)
    simp only [cyS] at hl
    split at hl
    · exact ih l hl
    · rw [List.mem_append, List.mem_singleton] at hl
      rcases hl with hl | rfl
      · exact ih l hl
      · exact ⟨ok.1, by simpa using ok.2⟩
theorem rdL_ok (C : List (List Int)) (P : List Int → Prop) (h : ∀ l ∈ C, P l) (i : Nat) (hi : i < C.length) : P (rd_L1 C i) := by
  rw [rdL_nth C i hi]
  exact h _ (List.getElem_mem hi)
def RibOk (t f c : List Int) (n : Nat) : Prop := n ≤ 12 ∧ 1 ≤ n ∧ inR n t ∧ injR n t ∧ inR n f ∧ (∀ i : Nat, i < n → flipAt f i) ∧ isChoice c ((edL f n).length : Int) ∧ c.length ≤ 1048576
theorem ir_l0 (t f c : List Int) (n : Nat) (H : RibOk t f c n) (m : Int) (r : List Int) (h : Ev (fun k => (impl_orbits.f k [t, flC f n c]).bind fun o => impl_ribbon.l1 k c m (flC f n c) 0 o (o.length : Int) 0 t f (chL f n c)) r) : ∀ (d i : Nat), c.length - i = d → i ≤ c.length → Ev (fun k => impl_ribbon.l0 k c m (flC f n (c.take i)) c c.length i t f (chL f n (c.take i))) r
  | 0, i, hd, hi => by
    obtain ⟨hn, h1, ht, hti, hf, hfl, hc, hcl⟩ := id H
    have : i = c.length := by omega
    subst this
    refine Ev.s ?_
    simp only [impl_ribbon.l0, show ¬ (c.length : Int) < (c.length : Int) by omega, if_false, List.take_length]
    exact h
  | d + 1, i, hd, hi => by
    obtain ⟨hn, h1, ht, hti, hf, hfl, hc, hcl⟩ := id H
    have ih := ir_l0 t f c n H m r h d (i + 1) (by omega) (by omega)
    have hr := choice_range c _ hc i (by omega)
    obtain ⟨a, b, ha, hb, hab, e1, e2, e3, e4⟩ := edge_at f n hf hfl (rd c i).toNat (by omega)
    rw [show (((rd c i).toNat : Nat) : Int) = rd c i by omega] at e1 e4
    rw [← step_ch f n c i (by omega) a b ha hb e4, ← step_fl f n c i (by omega) a b ha hb e2 e3 e4] at ih
    have l1 := chL_len f n (c.take i)
    have l2 := flC_len f n (c.take i)
    refine Ev.s ?_
    simp only [impl_ribbon.l0, show (i : Int) < (c.length : Int) by omega, show (0 : Int) ≤ (i : Int) by omega, if_true]
    refine Ev.bind (implEdges_ev n (by omega) t f hf) ?_
    simp only [hr.1, hr.2, e1, e2, hf.1, l1, l2, show (0 : Int) ≤ (a : Int) by omega, show (a : Int) < (n : Int) by omega, show (0 : Int) ≤ (b : Int) by omega, show (b : Int) < (n : Int) by omega, if_true, w64n (show i < 4611686018427387904 by omega), Int.toNat_natCast]
    exact ih
theorem ir_l1 (t f c : List Int) (n : Nat) (H : RibOk t f c n) (m : Int) (g : List Int) (s : List Bool) (o : List Int) (ho : o.length = n) (r : List Int) (h : Ev (fun k => (impl_cyclesOf.f k t).bind fun C => impl_ribbon.l2 k c m g (pc o n) 0 C (C.length : Int) 0 t f s) r) : ∀ (d i : Nat), n - i = d → i ≤ n → Ev (fun k => impl_ribbon.l1 k c m g (pc o i) o n i t f s) r
  | 0, i, hd, hi => by
    obtain ⟨hn, h1, ht, hti, hf, hfl, hc, hcl⟩ := id H
    have : i = n := by omega
    subst this
    refine Ev.s ?_
    simp only [impl_ribbon.l1, show ¬ (i : Int) < (i : Int) by omega, if_false]
    exact h
  | d + 1, i, hd, hi => by
    obtain ⟨hn, h1, ht, hti, hf, hfl, hc, hcl⟩ := id H
    have ih := ir_l1 t f c n H m g s o ho r h d (i + 1) (by omega) (by omega)
    have hp := pc_le o i
    refine Ev.s ?_
    simp only [impl_ribbon.l1, ho, show (i : Int) < (n : Int) by omega, show (0 : Int) ≤ (i : Int) by omega, if_true, w64n (show i < 4611686018427387904 by omega), w64n (show pc o i < 4611686018427387904 by omega)]
    simp only [pc] at ih
    by_cases e : (i : Int) = rd o i
    · simp only [if_pos e] at ih ⊢; exact ih
    · simp only [if_neg e] at ih ⊢; exact ih
theorem ir_l2 (t f c : List Int) (n : Nat) (H : RibOk t f c n) (g : List Int) (P : Int) (C : List (List Int)) (hC : ∀ l ∈ C, (∀ x ∈ l, 0 ≤ x ∧ x < n) ∧ l.length ≤ n + 1) (hCl : C.length ≤ n) (r : List Int) (h : Ev (fun k => impl_ribbon.l3 k c g P (bc C (chB f n c) C.length) (List.replicate n false) n 0 t f (chL f n c)) r) : ∀ (d i : Nat), C.length - i = d → i ≤ C.length → Ev (fun k => impl_ribbon.l2 k c n g P (bc C (chB f n c) i) C C.length i t f (chL f n c)) r
  | 0, i, hd, hi => by
    obtain ⟨hn, h1, ht, hti, hf, hfl, hc, hcl⟩ := id H
    have : i = C.length := by omega
    subst this
    refine Ev.s ?_
    simp only [impl_ribbon.l2, show ¬ (C.length : Int) < (C.length : Int) by omega, if_false, show (0 : Int) ≤ (n : Int) by omega, if_true, Int.toNat_natCast, show n ≤ 281474976710656 by omega]
    exact h
  | d + 1, i, hd, hi => by
    obtain ⟨hn, h1, ht, hti, hf, hfl, hc, hcl⟩ := id H
    have ih := ir_l2 t f c n H g P C hC hCl r h d (i + 1) (by omega) (by omega)
    have hb := bc_le C (chB f n c) i
    have ok := rdL_ok C _ hC i (by omega)
    refine Ev.s ?_
    simp only [impl_ribbon.l2, show (i : Int) < (C.length : Int) by omega, show (0 : Int) ≤ (i : Int) by omega, if_true, w64n (show i < 4611686018427387904 by omega), w64n (show bc C (chB f n c) i < 4611686018427387904 by omega)]
    refine Ev.bind (contF_ev (rd_L1 C i) (by omega) f n c ok.1) ?_
    simp only [bc] at ih
    by_cases e : (rd_L1 C i).any (chB f n c) = true
    · simp only [if_pos e] at ih ⊢; exact ih
    · simp only [if_neg e] at ih ⊢; exact ih
theorem ir_l5 (t f c : List Int) (n : Nat) (H : RibOk t f c n) (g : List Int) (P S : Int) (s : List Bool) (i : Int) (r : List Int) : ∀ (m : Nat) (x : Int), 0 ≤ x ∧ x < n → (∃ k : Nat, k ≤ m ∧ chB f n c (itr t k x) = true) → Ev (fun k => impl_ribbon.l4 k c g P S s (fc t (chB f n c) m x) n i t f (chL f n c)) r → Ev (fun k => impl_ribbon.l5 k c g P S s x n i t f (chL f n c)) r
  | 0, x, hx, ⟨k, hk, hh⟩, h => by
    obtain ⟨hn, h1, ht, hti, hf, hfl, hc, hcl⟩ := id H
    have : k = 0 := by omega
    subst this
    have hh' : chB f n c x = true := hh
    refine Ev.s ?_
    simp only [impl_ribbon.l5, hx.1, chL_len, hx.2, chL_rd f n c x hx.1 hx.2, hh', if_true]
    exact h
  | m + 1, x, hx, ⟨k, hk, hh⟩, h => by
    obtain ⟨hn, h1, ht, hti, hf, hfl, hc, hcl⟩ := id H
    refine Ev.s ?_
    simp only [impl_ribbon.l5, hx.1, chL_len, hx.2, chL_rd f n c x hx.1 hx.2, ht.1, if_true]
    simp only [fc] at h
    have h5 := ht.2 x.toNat (by omega)
    rw [show ((x.toNat : Nat) : Int) = x by omega] at h5
    by_cases e : chB f n c x = true
    · simp only [if_pos e] at h ⊢; exact h
    · simp only [if_neg e] at h ⊢
      cases k with
      | zero => exact absurd hh e
      | succ k => exact ir_l5 t f c n H g P S s i r m _ h5 ⟨k, by omega, hh⟩ h
theorem ir_l4 (t f c : List Int) (n : Nat) (H : RibOk t f c n) (P S : Int) (i : Nat) (r : List Int) : ∀ (m : Nat) (s : List Bool) (l : List Int) (a : Nat), s.length = n → a < n → chB f n c a = true → fresh s < m → Ev (fun k => impl_ribbon.l3 k c (flC f n c) P S (cw (faL t f n c) m s l a).1 n (wrap64 ((i : Int) + 1)) t f (chL f n c)) r → Ev (fun k => impl_ribbon.l4 k c (flC f n c) P S s a n i t f (chL f n c)) r
  | 0, s, l, a, hs, ha, hca, hm, h => absurd hm (Nat.not_lt_zero _)
  | m + 1, s, l, a, hs, ha, hca, hm, h => by
    obtain ⟨hn, h1, ht, hti, hf, hfl, hc, hcl⟩ := id H
    refine Ev.s ?_
    simp only [cw] at h
    have g1 : (a : Int) < (n : Int) := by omega
    have g2 : (0 : Int) ≤ (a : Int) := by omega
    simp only [impl_ribbon.l4, g2, hs, g1, if_true]
    by_cases e : rdOf false s (a : Int) = true
    · simp only [e, if_true] at h ⊢
      exact h
    · simp only [e, if_false] at h ⊢
      have fl := flC_rd f n c a ha
      rw [if_pos hca] at fl
      have fr := hf.2 a ha
      have tr := ht.2 (rd f a).toNat (by omega)
      rw [show (((rd f a).toNat : Nat) : Int) = rd f a by omega] at tr
      have fx := fa_ch t f n ht hti hf hfl c a ha hca
      have h3 : s.getD a false = false := by
        rw [rdOf_nat s a g2, Int.toNat_natCast] at e
        simpa using e
      have h4 := fresh_set s a (by omega) h3
      simp only [flC_len, g1, fl, fr.1, ht.1, fr.2, if_true, Int.toNat_natCast]
      simp only [Int.toNat_natCast] at h
      refine ir_l5 t f c n H (flC f n c) P S _ i r n _ tr (meets t n ht hti _ _ fr (by rw [chB_flip f n hf hfl c a ha]; exact hca)) ?_
      have fe := faL_rd t f n c a ha
      rw [if_pos hca] at fe
      rw [← fe]
      rw [show rd (faL t f n c) a = (((rd (faL t f n c) a).toNat : Nat) : Int) by omega] at h ⊢
      exact ir_l4 t f c n H P S i r m (s.set a true) (l ++ [(a : Int)]) _ (by simpa using hs) (by omega) (by rw [show (((rd (faL t f n c) a).toNat : Nat) : Int) = rd (faL t f n c) a by omega]; exact fx.1) (by omega) h
def fiveN (P S V c : Int) : List Int := [P, S, wrap64 (V - P), wrap64 (c - wrap64 (V - P)), wrap64 (Int.tdiv (wrap64 (wrap64 (wrap64 (wrap64 (2 * P) - V) + c) - S)) 2)]
theorem ir_l3 (t f c : List Int) (n : Nat) (H : RibOk t f c n) (P : Int) (B : Nat) (hB : B ≤ n) : ∀ (d i : Nat), n - i = d → i ≤ n → Ev (fun k => impl_ribbon.l3 k c (flC f n c) P ((B + (ribS (faL t f n c) n (chB f n c) i).2 : Nat) : Int) (ribS (faL t f n c) n (chB f n c) i).1 n i t f (chL f n c)) (fiveN P ((B + (ribS (faL t f n c) n (chB f n c) n).2 : Nat) : Int) ((cyS t n n).2.length : Int) c.length)
  | 0, i, hd, hi => by
    obtain ⟨hn, h1, ht, hti, hf, hfl, hc, hcl⟩ := id H
    have : i = n := by omega
    subst this
    refine Ev.s ?_
    simp only [impl_ribbon.l3, show ¬ (i : Int) < (i : Int) by omega, if_false]
    exact Ev.bind (implCyc_ev t i (by omega) ht) (Ev.const rfl)
  | d + 1, i, hd, hi => by
    obtain ⟨hn, h1, ht, hti, hf, hfl, hc, hcl⟩ := id H
    have ih := ir_l3 t f c n H P B hB d (i + 1) (by omega) (by omega)
    have l1 := ribS_len (faL t f n c) n (chB f n c) i
    have l2 := ribS_le (faL t f n c) n (chB f n c) i
    have fr := fresh_le (ribS (faL t f n c) n (chB f n c) i).1
    have g1 : (i : Int) < (n : Int) := by omega
    have g2 : (0 : Int) ≤ (i : Int) := by omega
    refine Ev.s ?_
    simp only [impl_ribbon.l3, g1, g2, chL_len, if_true, chL_rd f n c _ g2 g1, l1]
    simp only [ribS] at ih
    have wi : wrap64 ((i : Int) + 1) = ((i + 1 : Nat) : Int) := w64n (by omega)
    cases hci : chB f n c (i : Int) with
    | true =>
      simp only [hci, true_and, if_true] at ih ⊢
      refine Ev.s ?_
      cases hs : (ribS (faL t f n c) n (chB f n c) i).1.getD i false with
      | true =>
        rw [hs] at ih
        simp only [Bool.true_eq_false, if_false] at ih
        simp only [impl_ribbon.j4, rdOf_nat _ _ g2, Int.toNat_natCast, hs, if_true, wi]
        exact ih
      | false =>
        rw [hs] at ih
        simp only [if_true] at ih
        simp only [impl_ribbon.j4, rdOf_nat _ _ g2, Int.toNat_natCast, hs, Bool.false_eq_true, if_false, w64n (show B + (ribS (faL t f n c) n (chB f n c) i).2 < 4611686018427387904 by omega)]
        refine ir_l4 t f c n H P _ i _ (n + 1) _ [] i l1 (by omega) hci (by omega) ?_
        rw [wi]
        exact ih
    | false =>
      simp only [hci, Bool.false_eq_true, false_and, if_false] at ih ⊢
      refine Ev.s ?_
      simp only [impl_ribbon.j4, if_true, wi]
      exact ih
def mixL (A B : List Int) (n i : Nat) : List Int := (List.range n).map fun (d : Nat) => if d < i then rd A (d : Int) else rd B (d : Int)
theorem mixL_len (A B : List Int) (n i : Nat) : (mixL A B n i).length = n := by simp [mixL]
theorem mixL_rd (A B : List Int) (n i d : Nat) (h : d < n) : rd (mixL A B n i) (d : Int) = if d < i then rd A (d : Int) else rd B (d : Int) := by
  rw [rd_lt _ _ (by simp [mixL]; exact h)]
  simp [mixL]
theorem mixL_zero (A B : List Int) (n : Nat) (hB : B.length = n) : mixL A B n 0 = B := by
  refine list_ext _ _ (by rw [mixL_len, hB]) fun d hd => ?_
  rw [mixL_len] at hd
  rw [mixL_rd A B n 0 d hd, if_neg (by omega)]
theorem mixL_all (A B : List Int) (n : Nat) (hA : A.length = n) : mixL A B n n = A := by
  refine list_ext _ _ (by rw [mixL_len, hA]) fun d hd => ?_
  rw [mixL_len] at hd
  rw [mixL_rd A B n n d hd, if_pos hd]
theorem mixL_set (A B : List Int) (n i : Nat) (hi : i < n) : (mixL A B n i).set i (rd A i) = mixL A B n (i + 1) := by
  refine list_ext _ _ (by simp [mixL_len]) fun d hd => ?_
  have hd' : d < n := by simpa [mixL_len] using hd
  rw [mixL_rd A B n (i + 1) d hd']
  by_cases e : i = d
  · subst e
    rw [rd_set_self _ _ _ (by rw [mixL_len]; exact hi), if_pos (by omega)]
  · rw [rd_set_ne _ _ _ _ e, mixL_rd A B n i d hd']
    by_cases e2 : d < i
    · rw [if_pos e2, if_pos (by omega)]
    · rw [if_neg e2, if_neg (by omega)]
theorem mixL_skip (A B : List Int) (n i : Nat) (hi : i < n) (h : rd A i = rd B i) : mixL A B n i = mixL A B n (i + 1) := by
  refine list_ext _ _ (by simp [mixL_len]) fun d hd => ?_
  have hd' : d < n := by simpa [mixL_len] using hd
  rw [mixL_rd A B n (i + 1) d hd', mixL_rd A B n i d hd']
  by_cases e2 : d < i
  · rw [if_pos e2, if_pos (by omega)]
  · rw [if_neg e2]
    by_cases e : d < i + 1
    · have : d = i := by omega
      subst this
      rw [if_pos e, h]
    · rw [if_neg e]
theorem sp_l1 (o : List Int) (n : Nat) (hn : n ≤ 12) (ho : o.length = n) : ∀ (d i : Nat), n - i = d → i ≤ n → Ev (fun k => spec_l7Parts.l1 k o (pc o i) i) (pc o n : Int)
  | 0, i, hd, hi => by
    have : i = n := by omega
    subst this
    refine Ev.s ?_
    simp only [spec_l7Parts.l1, ho, show ¬ (i : Int) < (i : Int) by omega, if_false]
    exact Ev.const rfl
  | d + 1, i, hd, hi => by
    have ih := sp_l1 o n hn ho d (i + 1) (by omega) (by omega)
    have hp := pc_le o i
    refine Ev.s ?_
    simp only [spec_l7Parts.l1, ho, show (i : Int) < (n : Int) by omega, show (0 : Int) ≤ (i : Int) by omega, if_true, w64n (show i < 4611686018427387904 by omega), w64n (show pc o i < 4611686018427387904 by omega)]
    simp only [pc] at ih
    by_cases e : (i : Int) = rd o i
    · simp only [if_pos e] at ih
      simp only [if_pos e.symm]
      exact ih
    · simp only [if_neg e] at ih
      have e' : ¬ rd o i = (i : Int) := fun z => e z.symm
      simp only [if_neg e']
      exact ih
theorem sp_l0 (t f c : List Int) (n : Nat) (H : RibOk t f c n) (r : Int) (h : Ev (fun k => (spec_l1Orbits.f k t (flC f n c)).bind fun o => spec_l7Parts.l1 k o 0 0) r) : ∀ (d i : Nat), n - i = d → i ≤ n → Ev (fun k => spec_l7Parts.l0 k c (mixL (flC f n c) (stl n) n i) (geL f n n) i t f) r
  | 0, i, hd, hi => by
    have : i = n := by omega
    subst this
    refine Ev.s ?_
    simp only [spec_l7Parts.l0, mixL_len, show ¬ (i : Int) < (i : Int) by omega, if_false]
    rw [mixL_all _ _ _ (flC_len f i c)]
    exact h
  | d + 1, i, hd, hi => by
    obtain ⟨hn, h1, ht, hti, hf, hfl, hc, hcl⟩ := id H
    have ih := sp_l0 t f c n H r h d (i + 1) (by omega) (by omega)
    have g1 : (i : Int) < (n : Int) := by omega
    have g2 : (0 : Int) ≤ (i : Int) := by omega
    have fl := flC_rd f n c i (by omega)
    refine Ev.s ?_
    simp only [spec_l7Parts.l0, mixL_len, g1, g2, geL_len, if_true]
    refine Ev.bind (has_ev c hcl (rd (geL f n n) i)) ?_
    rw [show decide (rd (geL f n n) (i : Int) ∈ c) = chB f n c i from rfl]
    simp only [hf.1, g1, if_true, w64n (show i < 4611686018427387904 by omega), Int.toNat_natCast]
    by_cases e : chB f n c i = true
    · rw [if_pos e] at fl
      simp only [if_pos e]
      rw [← mixL_set _ _ _ _ (by omega : i < n), fl] at ih
      exact ih
    · rw [if_neg e] at fl
      simp only [if_neg e]
      rw [← mixL_skip _ _ _ _ (by omega : i < n) (by rw [fl, stl_rd n i (by omega)])] at ih
      exact ih
theorem ribbon_parts (t f c : List Int) (n : Nat) (H : RibOk t f c n) : ∃ o, orbOk [t, flC f n c] n o ∧ Ev (fun k => spec_l7Parts.f k t f c) (pc o n : Int) ∧
    Ev (fun k => impl_ribbon.f k t f c) (fiveN (pc o n) (sidesN t f n c) ((cyS t n n).2.length : Int) c.length) := by
  obtain ⟨hn, h1, ht, hti, hf, hfl, hc, hcl⟩ := id H
  obtain ⟨o, o1, o2, o3⟩ := orb_both t (flC f n c) n hn h1 ht (flC_inR f n hf c)
  have hp : Ev (fun k => spec_l7Parts.f k t f c) (pc o n : Int) := by
    unfold spec_l7Parts.f
    rw [hf.1]
    refine Ev.bind (same_ev n (by omega)) ?_
    refine Ev.bind (specEdges_ev n (by omega) t f hf) ?_
    have := sp_l0 t f c n H _ (Ev.bind o2 (sp_l1 o n hn o1.1.1 n 0 (by omega) (by omega))) n 0 (by omega) (by omega)
    rw [mixL_zero _ _ _ (stl_length n)] at this
    exact this
  refine ⟨o, o1, hp, ?_⟩
  · unfold impl_ribbon.f
    rw [ht.1]
    simp only [show (0 : Int) ≤ (n : Int) by omega, Int.toNat_natCast, show n ≤ 281474976710656 by omega, if_true]
    refine Ev.bind (still_ev n (by omega)) ?_
    have hCl := cyS_many t n n
    have hb := bc_le (cyS t n n).2 (chB f n c) (cyS t n n).2.length
    rw [← flC_zero f n c, ← chL_zero f n c]
    refine ir_l0 t f c n H n _ (Ev.bind o3 ?_) c.length 0 (by omega) (by omega)
    rw [o1.1.1]
    refine ir_l1 t f c n H n _ _ o o1.1.1 _ (Ev.bind (implCyc_ev t n (by omega) ht) ?_) n 0 (by omega) (by omega)
    refine ir_l2 t f c n H _ _ _ (cyS_ok t n ht n (Nat.le_refl _)) hCl _ ?_ _ 0 rfl (by omega)
    exact ir_l3 t f c n H (pc o n) _ (by omega) n 0 (by omega) (by omega)
def Cnt (n : Nat) (P : Nat → Prop) (k : Nat) : Prop := ∃ L : List Nat, L.Nodup ∧ (∀ x, x ∈ L ↔ x < n ∧ P x) ∧ L.length = k
theorem Cnt.ex (P : Nat → Prop) : ∀ n, ∃ k, Cnt n P k ∧ k ≤ n
  | 0 => ⟨0, ⟨[], List.nodup_nil, by simp, rfl⟩, Nat.le_refl _⟩
  | n + 1 => by
    obtain ⟨k, ⟨L, h1, h2, h3⟩, hk⟩ := Cnt.ex P n
    by_cases h : P n
    · refine ⟨k + 1, ⟨n :: L, List.nodup_cons.2 ⟨fun z => by have := ((h2 n).1 z).1; omega, h1⟩, fun x => ?_, by simp [h3]⟩, by omega⟩
      rw [List.mem_cons, h2]
      constructor
      · rintro (rfl | ⟨a, b⟩)
        · exact ⟨by omega, h⟩
        · exact ⟨by omega, b⟩
      · rintro ⟨a, b⟩
        by_cases e : x = n
        · exact .inl e
        · exact .inr ⟨by omega, b⟩
    · refine ⟨k, ⟨L, h1, fun x => ?_, h3⟩, by omega⟩
      rw [h2]
      constructor
      · rintro ⟨a, b⟩; exact ⟨by omega, b⟩
      · rintro ⟨a, b⟩
        by_cases e : x = n
        · exact absurd (e ▸ b) h
        · exact ⟨by omega, b⟩
theorem Cnt.le {n : Nat} {P Q : Nat → Prop} {k l : Nat} (hp : Cnt n P k) (hq : Cnt n Q l) (g : Nat → Nat) (hg : ∀ x, x < n → P x → g x < n ∧ Q (g x)) (hi : ∀ x y, x < n → P x → y < n → P y → g x = g y → x = y) : k ≤ l := by
  obtain ⟨L, h1, h2, rfl⟩ := hp
  obtain ⟨M, m1, m2, rfl⟩ := hq
  rw [← List.length_map (f := g)]
  refine len_le_of_sub _ _ ?_ ?_
  · rw [List.Nodup, List.pairwise_map]
    refine List.Pairwise.imp_of_mem ?_ h1
    intro a b ha hb hab e
    exact hab (hi a b ((h2 a).1 ha).1 ((h2 a).1 ha).2 ((h2 b).1 hb).1 ((h2 b).1 hb).2 e)
  · intro y hy
    obtain ⟨a, ha, rfl⟩ := List.mem_map.1 hy
    exact (m2 _).2 (hg a ((h2 a).1 ha).1 ((h2 a).1 ha).2)
theorem Cnt.sub {n : Nat} {P Q : Nat → Prop} {k l : Nat} (hp : Cnt n P k) (hq : Cnt n Q l) (h : ∀ x, x < n → P x → Q x) : k ≤ l :=
  hp.le hq (fun x => x) (fun x hx px => ⟨hx, h x hx px⟩) (fun _ _ _ _ _ _ e => e)
theorem Cnt.same {n : Nat} {P Q : Nat → Prop} {k l : Nat} (hp : Cnt n P k) (hq : Cnt n Q l) (h : ∀ x, x < n → (P x ↔ Q x)) : k = l :=
  Nat.le_antisymm (hp.sub hq fun x hx => (h x hx).1) (hq.sub hp fun x hx => (h x hx).2)
theorem Cnt.congr {n : Nat} {P Q : Nat → Prop} {k : Nat} (hp : Cnt n P k) (h : ∀ x, x < n → (P x ↔ Q x)) : Cnt n Q k := by
  obtain ⟨L, h1, h2, h3⟩ := hp
  exact ⟨L, h1, fun x => by rw [h2]; exact ⟨fun z => ⟨z.1, (h x z.1).1 z.2⟩, fun z => ⟨z.1, (h x z.1).2 z.2⟩⟩, h3⟩
theorem Cnt.reps {n : Nat} {P Q : Nat → Prop} {k l : Nat} (R : Nat → Nat → Prop) (hs : ∀ x y, R x y → R y x) (ht : ∀ x y z, R x y → R y z → R x z) (hp : Cnt n P k) (hq : Cnt n Q l)
    (h : ∀ x, x < n → P x → ∃ y, y < n ∧ Q y ∧ R x y) (hu : ∀ x y, x < n → P x → y < n → P y → R x y → x = y) : k ≤ l := by
  classical
  refine hp.le hq (fun x => if hx : x < n ∧ P x then Classical.choose (h x hx.1 hx.2) else 0) (fun x hx px => ?_) (fun x y hx px hy py e => ?_)
  · rw [dif_pos ⟨hx, px⟩]
    have := Classical.choose_spec (h x hx px)
    exact ⟨this.1, this.2.1⟩
  · rw [dif_pos ⟨hx, px⟩, dif_pos ⟨hy, py⟩] at e
    have h1 := (Classical.choose_spec (h x hx px)).2.2
    have h2 := (Classical.choose_spec (h y hy py)).2.2
    rw [e] at h1
    exact hu x y hx px hy py (ht _ _ _ h1 (hs _ _ h2))
theorem Cnt.drop {n : Nat} {P Q : Nat → Prop} {k : Nat} (hp : Cnt n P k) (z : Nat) (hz : z < n) (pz : P z) (h : ∀ x, x < n → (Q x ↔ P x ∧ x ≠ z)) : 1 ≤ k ∧ Cnt n Q (k - 1) := by
  obtain ⟨L, h1, h2, rfl⟩ := hp
  have hm : z ∈ L := (h2 z).2 ⟨hz, pz⟩
  have := List.length_pos_of_mem hm
  refine ⟨this, L.erase z, h1.erase z, fun x => ?_, List.length_erase_of_mem hm⟩
  rw [h1.mem_erase_iff, h2]
  constructor
  · rintro ⟨a, b, c⟩; exact ⟨b, (h x b).2 ⟨c, a⟩⟩
  · rintro ⟨a, b⟩; have := (h x a).1 b; exact ⟨this.2, a, this.1⟩
def lst (R : Nat → Nat → Prop) (j : Nat) : Prop := ∀ i, i < j → ¬ R i j
def Cl (n : Nat) (R : Nat → Nat → Prop) (k : Nat) : Prop := Cnt n (lst R) k
theorem lst_ex (R : Nat → Nat → Prop) (hr : ∀ x, R x x) (hs : ∀ x y, R x y → R y x) (ht : ∀ x y z, R x y → R y z → R x z) : ∀ x, ∃ y, y ≤ x ∧ lst R y ∧ R y x := by
  intro x
  induction x using Nat.strongRecOn with
  | ind x ih =>
    by_cases h : ∃ i, i < x ∧ R i x
    · obtain ⟨i, hi, hri⟩ := h
      obtain ⟨y, y1, y2, y3⟩ := ih i hi
      exact ⟨y, by omega, y2, ht _ _ _ y3 hri⟩
    · exact ⟨x, Nat.le_refl _, fun i hi hri => h ⟨i, hi, hri⟩, hr x⟩
theorem lst_uniq (R : Nat → Nat → Prop) (hs : ∀ x y, R x y → R y x) (x y : Nat) (hx : lst R x) (hy : lst R y) (h : R x y) : x = y := by
  by_cases h1 : x < y
  · exact absurd h (hy x h1)
  · by_cases h2 : y < x
    · exact absurd (hs _ _ h) (hx y h2)
    · omega
theorem Cl.merge {n : Nat} {R S : Nat → Nat → Prop} {k : Nat} (hr : ∀ x, R x x) (hs : ∀ x y, R x y → R y x) (ht : ∀ x y z, R x y → R y z → R x z) (hk : Cl n R k) (a b : Nat) (ha : a < n) (hb : b < n) (hab : ¬ R a b)
    (hS : ∀ x y, S x y ↔ R x y ∨ (R x a ∧ R b y) ∨ (R x b ∧ R a y)) : 1 ≤ k ∧ Cl n S (k - 1) := by
  obtain ⟨p, p1, p2, p3⟩ := lst_ex R hr hs ht a
  obtain ⟨q, q1, q2, q3⟩ := lst_ex R hr hs ht b
  have hpq : p ≠ q := by rintro rfl; exact hab (ht _ _ _ (hs _ _ p3) q3)
  have key : ∀ (p q a b : Nat), p < q → lst R p → lst R q → R p a → R q b → q < n → ¬ R a b → (∀ x y, S x y ↔ R x y ∨ (R x a ∧ R b y) ∨ (R x b ∧ R a y)) → 1 ≤ k ∧ Cl n S (k - 1) := by
    intro p q a b hlt p2 q2 p3 q3 hq hab hS
    refine Cnt.drop hk q hq q2 fun x hx => ⟨fun h => ⟨fun i hi z => h i hi ((hS _ _).2 (.inl z)), ?_⟩, fun ⟨h1, h2⟩ i hi z => ?_⟩
    · rintro rfl
      exact h p hlt ((hS _ _).2 (.inr (.inl ⟨p3, hs _ _ q3⟩)))
    · rcases (hS _ _).1 z with z | ⟨z1, z2⟩ | ⟨z1, z2⟩
      · exact h1 i hi z
      · exact h2 (lst_uniq R hs x q h1 q2 (ht _ _ _ (hs _ _ z2) (hs _ _ q3)))
      · have e := lst_uniq R hs x p h1 p2 (ht _ _ _ (hs _ _ z2) (hs _ _ p3))
        subst e
        exact q2 i (by omega) (ht _ _ _ z1 (hs _ _ q3))
  rcases Nat.lt_or_gt_of_ne hpq with h | h
  · exact key p q a b h p2 q2 p3 q3 (by omega) hab hS
  · exact key q p b a h q2 p2 q3 p3 (by omega) (fun z => hab (hs _ _ z)) (fun x y => by rw [hS]; exact ⟨fun z => z.elim .inl (fun z => .inr (z.elim .inr .inl)), fun z => z.elim .inl (fun z => .inr (z.elim .inr .inl))⟩)
theorem closed_of_fwd (p : List Int) (n : Nat) (hp : inR n p) (hi : injR n p) (S : Nat → Prop) (h : ∀ k, k < n → S k → S (rd p k).toNat) : closedL [p] n S := by
  intro q hq k hk
  have e : q = p := by simpa using hq
  subst e
  refine ⟨h k hk, fun hs => ?_⟩
  obtain ⟨m, h1, h2⟩ := itr_back q n hp hi k (by omega)
  have g : ∀ (j : Nat) (x : Int), 0 ≤ x ∧ x < n → S x.toNat → S (itr q j x).toNat := by
    intro j
    induction j with
    | zero => intro x _ h; exact h
    | succ j ih =>
      intro x hx hsx
      have := hp.2 x.toNat (by omega)
      have e := h x.toNat (by omega) hsx
      rw [show ((x.toNat : Nat) : Int) = x by omega] at this e
      exact ih _ this e
  have := g m (rd q k) (hp.2 k hk) hs
  rw [show itr q m (rd q k) = itr q (m + 1) k from rfl, h2] at this
  simpa using this
theorem itr_reach (ps : List (List Int)) (p : List Int) (n : Nat) (hp : inR n p) (hm : p ∈ ps) : ∀ (k : Nat) (x : Int), 0 ≤ x ∧ x < n → Reach ps n x.toNat (itr p k x).toNat
  | 0, x, h => Reach.refl _ _ _
  | k + 1, x, h => by
    have h1 := hp.2 x.toNat (by omega)
    have h2 := Reach.step (ps := ps) (n := n) hm (k := x.toNat) (by omega)
    rw [show ((x.toNat : Nat) : Int) = x by omega] at h1 h2
    exact h2.trans (itr_reach ps p n hp hm k _ h1)
theorem reach_itr (p : List Int) (n : Nat) (hp : inR n p) (hi : injR n p) (a b : Nat) (ha : a < n) (h : Reach [p] n a b) : ∃ k : Nat, itr p k (rd p a) = b := by
  have hc := closed_of_fwd p n hp hi (fun x => ∃ k : Nat, itr p k (rd p a) = x) (fun k hk ⟨m, hm⟩ => ⟨m + 1, by
    rw [itr_add p m 1, hm]
    have := hp.2 k hk
    show rd p k = _
    omega⟩)
  obtain ⟨m, h1, h2⟩ := itr_back p n hp hi a (by omega)
  exact (h _ hc).1 ⟨m, h2⟩
theorem first_itr (p : List Int) (x : Int) (b : Int) (k : Nat) (h : itr p k x = b) : ∃ m, m ≤ k ∧ itr p m x = b ∧ ∀ j, j < m → itr p j x ≠ b := by
  induction k using Nat.strongRecOn with
  | ind k ih =>
    by_cases e : ∃ j, j < k ∧ itr p j x = b
    · obtain ⟨j, h1, h2⟩ := e
      obtain ⟨m, m1, m2, m3⟩ := ih j h1 h2
      exact ⟨m, by omega, m2, m3⟩
    · exact ⟨k, Nat.le_refl _, h, fun j hj z => e ⟨j, hj, z⟩⟩
def Exch (n : Nat) (p q : List Int) (a b : Nat) : Prop := a < n ∧ b < n ∧ a ≠ b ∧ rd q a = rd p b ∧ rd q b = rd p a ∧ ∀ x : Nat, x < n → x ≠ a → x ≠ b → rd q x = rd p x
theorem Exch.symm {n : Nat} {p q : List Int} {a b : Nat} (h : Exch n p q a b) : Exch n q p a b := ⟨h.1, h.2.1, h.2.2.1, h.2.2.2.2.1.symm, h.2.2.2.1.symm, fun x hx h1 h2 => (h.2.2.2.2.2 x hx h1 h2).symm⟩
theorem exch_join {n : Nat} {p q : List Int} {a b : Nat} (hp : inR n p) (hq : inR n q) (ip : injR n p) (iq : injR n q) (h : Exch n p q a b) (hab : ¬ Reach [p] n a b) : Reach [q] n a b := by
  obtain ⟨ha, hb, hne, e1, e2, e3⟩ := h
  obtain ⟨k, hk⟩ := reach_itr p n hp ip b b hb (Reach.refl _ _ _)
  obtain ⟨m, m1, m2, m3⟩ := first_itr p (rd p b) b k hk
  have pb := hp.2 b hb
  have run : ∀ j, j ≤ m → Reach [q] n a (itr p j (rd p b)).toNat := by
    intro j
    induction j with
    | zero =>
      intro _
      have := Reach.step (ps := [q]) (n := n) (p := q) (by simp) ha
      rw [e1] at this
      exact this
    | succ j ih =>
      intro hj
      have h1 := ih (by omega)
      have h2 := itr_in p n hp j _ pb
      have h3 := m3 j (by omega)
      have h4 : (itr p j (rd p b)).toNat ≠ a := by
        intro e
        apply hab
        have z := itr_reach [p] p n hp (by simp) (j + 1) (b : Int) (by omega)
        rw [show itr p (j + 1) (b : Int) = itr p j (rd p b) from rfl, e] at z
        exact z.symm
      have s := Reach.step (ps := [q]) (n := n) (p := q) (by simp) (k := (itr p j (rd p b)).toNat) (by omega)
      rw [e3 _ (by omega) h4 (by omega), show (((itr p j (rd p b)).toNat : Nat) : Int) = itr p j (rd p b) by omega] at s
      rw [itr_add p j 1]
      exact h1.trans s
  have := run m (Nat.le_refl _)
  rw [m2] at this
  exact this
theorem exch_split {n : Nat} {p q : List Int} {a b : Nat} (hp : inR n p) (hq : inR n q) (ip : injR n p) (iq : injR n q) (h : Exch n p q a b) (hab : Reach [p] n a b) : ¬ Reach [q] n a b := by
  obtain ⟨ha, hb, hne, e1, e2, e3⟩ := h
  obtain ⟨k, hk⟩ := reach_itr p n hp ip b a hb hab.symm
  obtain ⟨m, m1, m2, m3⟩ := first_itr p (rd p b) a k hk
  have pb := hp.2 b hb
  have nb : ∀ j, j ≤ m → itr p j (rd p b) ≠ b := by
    intro j hj e
    by_cases ej : j = m
    · rw [ej, m2] at e
      omega
    · have : itr p (m - j - 1) (rd p b) = a := by
        have z : itr p m (rd p b) = itr p (m - j - 1) (rd p (itr p j (rd p b))) := by
          rw [show m = j + (1 + (m - j - 1)) by omega, itr_add, itr_add p 1]
          rw [show j + (1 + (m - j - 1)) - j - 1 = m - j - 1 by omega]
          rfl
        rw [e, m2] at z
        exact z.symm
      exact m3 (m - j - 1) (by omega) this
  have hc := closed_of_fwd q n hq iq (fun x => ∃ j, j ≤ m ∧ itr p j (rd p b) = x) (fun x hx ⟨j, hj, hjx⟩ => by
    have qx := hq.2 x hx
    by_cases ex : x = a
    · subst ex
      exact ⟨0, by omega, by rw [e1]; show rd p b = _; omega⟩
    · have hxb : x ≠ b := by
        intro e
        exact nb j hj (by rw [hjx, e])
      have jm : j ≠ m := by
        rintro rfl
        rw [m2] at hjx
        omega
      refine ⟨j + 1, by omega, ?_⟩
      rw [itr_add p j 1, hjx, e3 x hx ex hxb]
      have := hp.2 x hx
      show rd p x = _
      omega)
  intro hr
  obtain ⟨j, hj, hjb⟩ := (hr _ hc).1 ⟨m, Nat.le_refl _, m2⟩
  exact nb j hj hjb
theorem Cl.ex (n : Nat) (R : Nat → Nat → Prop) : ∃ k, Cl n R k ∧ k ≤ n := Cnt.ex _ n
theorem Cl.uniq {n : Nat} {R : Nat → Nat → Prop} {k l : Nat} (h : Cl n R k) (h' : Cl n R l) : k = l := Cnt.same h h' fun _ _ => Iff.rfl
theorem exch_rel {n : Nat} {p q : List Int} {a b : Nat} (hp : inR n p) (hq : inR n q) (ip : injR n p) (iq : injR n q) (h : Exch n p q a b) (hab : ¬ Reach [p] n a b) (x y : Nat) :
    Reach [q] n x y ↔ Reach [p] n x y ∨ (Reach [p] n x a ∧ Reach [p] n b y) ∨ (Reach [p] n x b ∧ Reach [p] n a y) := by
  have hj := exch_join hp hq ip iq h hab
  obtain ⟨ha, hb, hne, e1, e2, e3⟩ := h
  have up : ∀ x y, Reach [p] n x y → Reach [q] n x y := by
    intro x y hr S hS
    refine hr S fun r hr' k hk => ?_
    have : r = p := by simpa using hr'
    subst this
    have sq := hS q (by simp)
    by_cases ka : k = a
    · subst ka
      have z := sq b hb
      rw [e2] at z
      exact (hj S hS).trans z
    · by_cases kb : k = b
      · subst kb
        have z := sq a ha
        rw [e1] at z
        exact (hj S hS).symm.trans z
      · have z := sq k hk
        rw [e3 k hk ka kb] at z
        exact z
  constructor
  · intro hr
    have hc : closedL [q] n (fun z => Reach [p] n x z ∨ (Reach [p] n x a ∧ Reach [p] n b z) ∨ (Reach [p] n x b ∧ Reach [p] n a z)) := by
      refine closed_of_fwd q n hq iq _ fun k hk hz => ?_
      have stp : ∀ z, z < n → Reach [p] n z (rd p z).toNat := fun z hz => Reach.step (by simp) hz
      by_cases ka : k = a
      · subst ka
        rw [e1]
        rcases hz with z | ⟨z1, z2⟩ | ⟨z1, z2⟩
        · exact .inr (.inl ⟨z, stp b hb⟩)
        · exact .inr (.inl ⟨z1, stp b hb⟩)
        · exact .inl (z1.trans (stp b hb))
      · by_cases kb : k = b
        · subst kb
          rw [e2]
          rcases hz with z | ⟨z1, z2⟩ | ⟨z1, z2⟩
          · exact .inr (.inr ⟨z, stp a ha⟩)
          · exact .inl (z1.trans (stp a ha))
          · exact .inr (.inr ⟨z1, stp a ha⟩)
        · rw [e3 k hk ka kb]
          have s := stp k hk
          rcases hz with z | ⟨z1, z2⟩ | ⟨z1, z2⟩
          · exact .inl (z.trans s)
          · exact .inr (.inl ⟨z1, z2.trans s⟩)
          · exact .inr (.inr ⟨z1, z2.trans s⟩)
    exact (hr _ hc).1 (.inl (Reach.refl _ _ _))
  · rintro (z | ⟨z1, z2⟩ | ⟨z1, z2⟩)
    · exact up _ _ z
    · exact (up _ _ z1).trans (hj.trans (up _ _ z2))
    · exact (up _ _ z1).trans (hj.symm.trans (up _ _ z2))
theorem exch_count {n : Nat} {p q : List Int} {a b k l : Nat} (hp : inR n p) (hq : inR n q) (ip : injR n p) (iq : injR n q) (h : Exch n p q a b) (hk : Cl n (Reach [p] n) k) (hl : Cl n (Reach [q] n) l) :
    (¬ Reach [p] n a b → l + 1 = k) ∧ (Reach [p] n a b → l = k + 1) := by
  have sy : ∀ p : List Int, ∀ x y, Reach [p] n x y → Reach [p] n y x := fun p x y h => h.symm
  have tr : ∀ p : List Int, ∀ x y z, Reach [p] n x y → Reach [p] n y z → Reach [p] n x z := fun p x y z h h' => h.trans h'
  constructor
  · intro hab
    have := Cl.merge (S := Reach [q] n) (fun x => Reach.refl _ _ x) (sy p) (tr p) hk a b h.1 h.2.1 hab (exch_rel hp hq ip iq h hab)
    have e := Cl.uniq hl this.2
    omega
  · intro hab
    have hab' := exch_split hp hq ip iq h hab
    have := Cl.merge (S := Reach [p] n) (fun x => Reach.refl _ _ x) (sy q) (tr q) hl a b h.1 h.2.1 hab' (exch_rel hq hp iq ip h.symm hab')
    have e := Cl.uniq hk this.2
    omega
theorem cw_ends (p : List Int) (n : Nat) (hp : inR n p) (a0 : Nat) (ha0 : a0 < n) (s0 : Nat → Prop) : ∀ (m : Nat) (s : List Bool) (c : List Int) (a : Nat), s.length = n → a < n → fresh s < m →
    (∀ x, x < n → s.getD x false = true → s.getD (rd p x).toNat false = true ∨ (rd p x).toNat = a) → Reach [p] n a0 a → (∀ x, x < n → s.getD x false = true → s0 x ∨ Reach [p] n a0 x) → (∀ x, s0 x → s.getD x false = true) → (s.getD a0 false = true ∨ a = a0) → (∀ x ∈ c, 0 ≤ x ∧ x < n ∧ Reach [p] n a0 x.toNat) → (a0 ≠ a → (a0 : Int) ∈ c) → (∀ x, x < n → s.getD x false = true → s0 x ∨ (x : Int) ∈ c) →
    (∀ x, x < n → (cw p m s c a).1.getD x false = true → (cw p m s c a).1.getD (rd p x).toNat false = true) ∧ (∀ x, x < n → (cw p m s c a).1.getD x false = true → s0 x ∨ Reach [p] n a0 x) ∧ (∀ x, s0 x → (cw p m s c a).1.getD x false = true) ∧ (cw p m s c a).1.getD a0 false = true ∧ (∀ x ∈ (cw p m s c a).2, 0 ≤ x ∧ x < n ∧ Reach [p] n a0 x.toNat) ∧ (∀ x, x < n → (cw p m s c a).1.getD x false = true → s0 x ∨ (x : Int) ∈ (cw p m s c a).2)
  | 0, s, c, a, hs, ha, hm, h1, h2, h3, h4, h5, h6, h7, h8 => absurd hm (Nat.not_lt_zero _)
  | m + 1, s, c, a, hs, ha, hm, h1, h2, h3, h4, h5, h6, h7, h8 => by
    simp only [cw]
    rw [rdOf_nat s a (by omega), Int.toNat_natCast]
    by_cases e : s.getD a false = true
    · rw [if_pos e]
      refine ⟨fun x hx hsx => (h1 x hx hsx).elim id (fun z => by rw [z]; exact e), h3, h4, h5.elim id (fun z => by rw [← z]; exact e), h6, h8⟩
    · rw [if_neg e]
      have pr := hp.2 a ha
      have e0 : s.getD a false = false := by simpa using e
      have fr := fresh_set s a (by omega) e0
      have back : (((rd p a).toNat : Nat) : Int) = rd p a := by omega
      have st := Reach.step (ps := [p]) (n := n) (p := p) (by simp) ha
      have ih := cw_ends p n hp a0 ha0 s0 m (s.set a true) (c ++ [(a : Int)]) (rd p a).toNat (by simpa using hs) (by omega) (by omega)
        (fun x hx hsx => by
          rw [getD_set _ _ _ _ (by omega)] at hsx ⊢
          by_cases z : a = x
          · subst z; exact .inr rfl
          · rw [if_neg z] at hsx
            by_cases y : a = (rd p x).toNat
            · rw [if_pos y]; exact .inl rfl
            · rw [if_neg y]
              exact .inl ((h1 x hx hsx).elim id (fun q => absurd q.symm y)))
        (h2.trans st)
        (fun x hx hsx => by
          rw [getD_set _ _ _ _ (by omega)] at hsx
          by_cases z : a = x
          · subst z; exact .inr h2
          · rw [if_neg z] at hsx
            exact h3 x hx hsx)
        (fun x hx => by
          rw [getD_set _ _ _ _ (by omega)]
          split
          · rfl
          · exact h4 x hx)
        (.inl (by
          rw [getD_set _ _ _ _ (by omega)]
          by_cases z : a = a0
          · rw [if_pos z]
          · rw [if_neg z]
            exact h5.elim id (fun q => absurd q z)))
        (fun x hx => by
          rw [List.mem_append, List.mem_singleton] at hx
          rcases hx with hx | rfl
          · exact h6 x hx
          · exact ⟨by omega, by omega, by rw [Int.toNat_natCast]; exact h2⟩)
        (fun _ => by
          rw [List.mem_append, List.mem_singleton]
          by_cases z : a0 = a
          · right; rw [z]
          · exact .inl (h7 z))
        (fun x hx hsx => by
          rw [List.mem_append, List.mem_singleton]
          rw [getD_set _ _ _ _ (by omega)] at hsx
          by_cases z : a = x
          · subst z; exact .inr (.inr rfl)
          · rw [if_neg z] at hsx
            exact (h8 x hx hsx).imp id .inl)
      rw [back] at ih
      exact ih
theorem cyS_seen (p : List Int) (n : Nat) (hp : inR n p) (hi : injR n p) : ∀ i, i ≤ n → ∀ x, x < n → ((cyS p n i).1.getD x false = true ↔ ∃ j, j < i ∧ Reach [p] n j x)
  | 0, _, x, hx => by
    constructor
    · intro h
      simp [cyS, List.getD_eq_getElem?_getD, List.getElem?_replicate, hx] at h
    · rintro ⟨j, hj, _⟩; omega
  | i + 1, hi', x, hx => by
    have ih := cyS_seen p n hp hi i (by omega)
    have l1 := cyS_len p n i
    simp only [cyS]
    by_cases e : (cyS p n i).1.getD i false = true
    · rw [cw_seen p (n + 1) _ _ _ (by rw [rdOf_nat _ _ (by omega), Int.toNat_natCast]; exact e)]
      rw [ih x hx]
      obtain ⟨q, q1, q2⟩ := (ih i (by omega)).1 e
      constructor
      · rintro ⟨j, hj, h⟩; exact ⟨j, by omega, h⟩
      · rintro ⟨j, hj, h⟩
        by_cases z : j = i
        · subst z; exact ⟨q, q1, q2.trans h⟩
        · exact ⟨j, by omega, h⟩
    · obtain ⟨w1, w2, w3, w4, w5, w6⟩ := cw_ends p n hp i (by omega) (fun x => x < n ∧ (cyS p n i).1.getD x false = true) (n + 1) (cyS p n i).1 [] i l1 (by omega) (by have := fresh_le (cyS p n i).1; omega)
        (fun y hy hsy => .inl (by
          have pr := hp.2 y hy
          obtain ⟨j, hj, h⟩ := (ih y hy).1 hsy
          exact (ih _ (by omega)).2 ⟨j, hj, h.trans (Reach.step (by simp) hy)⟩))
        (Reach.refl _ _ _) (fun y hy hsy => .inl ⟨hy, hsy⟩) (fun y hy => hy.2) (.inr rfl) (by simp) (fun z => absurd rfl z) (fun y hy hsy => .inl ⟨hy, hsy⟩)
      constructor
      · intro h
        rcases w2 x hx h with ⟨_, h⟩ | h
        · obtain ⟨j, hj, h⟩ := (ih x hx).1 h
          exact ⟨j, by omega, h⟩
        · exact ⟨i, by omega, h⟩
      · rintro ⟨j, hj, h⟩
        by_cases z : j = i
        · subst z
          have hc := closed_of_fwd p n hp hi (fun y => (cw p (n + 1) (cyS p n j).1 [] j).1.getD y false = true) w1
          exact (h _ hc).1 w4
        · exact w3 x ⟨hx, (ih x hx).2 ⟨j, by omega, h⟩⟩
theorem Cnt.succ_yes {P : Nat → Prop} {i n k : Nat} (h : Cnt n (fun x => x < i ∧ P x) k) (hi : i < n) (hp : P i) : Cnt n (fun x => x < i + 1 ∧ P x) (k + 1) := by
  obtain ⟨L, h1, h2, h3⟩ := h
  refine ⟨i :: L, List.nodup_cons.2 ⟨fun z => by have := ((h2 i).1 z).2.1; omega, h1⟩, fun x => ?_, by simp [h3]⟩
  rw [List.mem_cons, h2]
  constructor
  · rintro (rfl | ⟨a, b, c⟩)
    · exact ⟨hi, by omega, hp⟩
    · exact ⟨a, by omega, c⟩
  · rintro ⟨a, b, c⟩
    by_cases e : x = i
    · exact .inl e
    · exact .inr ⟨a, by omega, c⟩
theorem Cnt.succ_no {P : Nat → Prop} {i n k : Nat} (h : Cnt n (fun x => x < i ∧ P x) k) (hp : ¬ P i) : Cnt n (fun x => x < i + 1 ∧ P x) k := by
  refine h.congr fun x hx => ⟨fun ⟨a, b⟩ => ⟨by omega, b⟩, fun ⟨a, b⟩ => ⟨?_, b⟩⟩
  by_cases e : x = i
  · exact absurd (e ▸ b) hp
  · omega
theorem Cnt.none {P : Nat → Prop} {n : Nat} (h : ∀ x, x < n → ¬ P x) : Cnt n P 0 := ⟨[], List.nodup_nil, fun x => ⟨fun z => by simp at z, fun z => absurd z.2 (h x z.1)⟩, rfl⟩
theorem cyS_cnt (p : List Int) (n : Nat) (hp : inR n p) (hi : injR n p) (ch : Int → Bool) : ∀ i, i ≤ n → Cnt n (fun x => x < i ∧ lst (Reach [p] n) x) (cyS p n i).2.length ∧ Cnt n (fun x => x < i ∧ (lst (Reach [p] n) x ∧ ∀ y, y < n → ch (y : Int) = true → ¬ Reach [p] n x y)) (bc (cyS p n i).2 ch (cyS p n i).2.length)
  | 0, _ => ⟨Cnt.none fun x _ z => by omega, Cnt.none fun x _ z => by omega⟩
  | i + 1, hi' => by
    obtain ⟨ih1, ih2⟩ := cyS_cnt p n hp hi ch i (by omega)
    have seen := cyS_seen p n hp hi i (by omega) i (by omega)
    have l1 := cyS_len p n i
    simp only [cyS]
    by_cases e : (cyS p n i).1.getD i false = true
    · rw [cw_seen p (n + 1) _ _ _ (by rw [rdOf_nat _ _ (by omega), Int.toNat_natCast]; exact e)]
      rw [if_pos rfl]
      obtain ⟨j, hj, h⟩ := seen.1 e
      have nl : ¬ lst (Reach [p] n) i := fun z => z j hj h
      exact ⟨ih1.succ_no nl, ih2.succ_no fun z => nl z.1⟩
    · have e' : ¬ rdOf false (cyS p n i).1 (i : Int) = true := by rw [rdOf_nat _ _ (by omega), Int.toNat_natCast]; exact e
      have hl : lst (Reach [p] n) i := fun j hj h => e (seen.2 ⟨j, hj, h⟩)
      obtain ⟨w1, w2, w3, w4, w5, w6⟩ := cw_ends p n hp i (by omega) (fun x => x < n ∧ (cyS p n i).1.getD x false = true) (n + 1) (cyS p n i).1 [] i l1 (by omega) (by have := fresh_le (cyS p n i).1; omega)
        (fun y hy hsy => .inl (by
          have pr := hp.2 y hy
          obtain ⟨j, hj, h⟩ := (cyS_seen p n hp hi i (by omega) y hy).1 hsy
          exact (cyS_seen p n hp hi i (by omega) _ (by omega)).2 ⟨j, hj, h.trans (Reach.step (by simp) hy)⟩))
        (Reach.refl _ _ _) (fun y hy hsy => .inl ⟨hy, hsy⟩) (fun y hy => hy.2) (.inr rfl) (by simp) (fun z => absurd rfl z) (fun y hy hsy => .inl ⟨hy, hsy⟩)
      have hc := closed_of_fwd p n hp hi (fun y => (cw p (n + 1) (cyS p n i).1 [] i).1.getD y false = true) w1
      rw [if_neg (cw_new p n _ i e')]
      rw [List.length_append, List.length_singleton]
      refine ⟨ih1.succ_yes (by omega) hl, ?_⟩
      have bcp : ∀ (L : List (List Int)) (q : List Int) (j : Nat), j ≤ L.length → bc (L ++ [q]) ch j = bc L ch j := by
        intro L q j
        induction j with
        | zero => intro _; rfl
        | succ j ih =>
          intro hj
          simp only [bc]
          rw [ih (by omega), rdL_nth _ j (by simp; omega), rdL_nth L j (by omega), List.getElem_append_left (by omega)]
      have bcs : ∀ (L : List (List Int)) (q : List Int), bc (L ++ [q]) ch (L.length + 1) = if q.any ch = true then bc L ch L.length else bc L ch L.length + 1 := by
        intro L q
        simp only [bc]
        rw [bcp L q L.length (Nat.le_refl _), rdL_nth _ L.length (by simp), List.getElem_append_right (Nat.le_refl _)]
        simp
      rw [bcs]
      have key : (cw p (n + 1) (cyS p n i).1 [] i).2.any ch = true ↔ ∃ y, y < n ∧ ch (y : Int) = true ∧ Reach [p] n i y := by
        rw [List.any_eq_true]
        constructor
        · rintro ⟨x, hx, hcx⟩
          obtain ⟨a, b, c⟩ := w5 x hx
          exact ⟨x.toNat, by omega, by rw [show ((x.toNat : Nat) : Int) = x by omega]; exact hcx, c⟩
        · rintro ⟨y, hy, hcy, h⟩
          have z := (h _ hc).1 w4
          rcases w6 y hy z with ⟨_, z⟩ | z
          · obtain ⟨j, hj, hr⟩ := (cyS_seen p n hp hi i (by omega) y hy).1 z
            exact absurd (hr.trans h.symm) (hl j hj)
          · exact ⟨y, z, hcy⟩
      by_cases ea : (cw p (n + 1) (cyS p n i).1 [] i).2.any ch = true
      · rw [if_pos ea]
        obtain ⟨y, hy, hcy, h⟩ := key.1 ea
        exact ih2.succ_no fun z => z.2 y hy hcy h
      · rw [if_neg ea]
        exact ih2.succ_yes (by omega) ⟨hl, fun y hy hcy h => ea (key.2 ⟨y, hy, hcy, h⟩)⟩
theorem cyS_cl (p : List Int) (n : Nat) (hp : inR n p) (hi : injR n p) : Cl n (Reach [p] n) (cyS p n n).2.length :=
  (cyS_cnt p n hp hi (fun _ => false) n (Nat.le_refl _)).1.congr fun x hx => ⟨fun z => z.2, fun z => ⟨hx, z⟩⟩
def sgL (t f : List Int) (n : Nat) (c : List Int) : List Int := (List.range n).map fun (d : Nat) => rd t (rd (flC f n c) (d : Int))
theorem sgL_len (t f : List Int) (n : Nat) (c : List Int) : (sgL t f n c).length = n := by simp [sgL]
theorem sgL_rd (t f : List Int) (n : Nat) (c : List Int) (d : Nat) (h : d < n) : rd (sgL t f n c) (d : Int) = rd t (rd (flC f n c) (d : Int)) := by
  rw [rd_lt _ _ (by simp [sgL]; exact h)]
  simp [sgL]
theorem sgL_inR (t f : List Int) (n : Nat) (ht : inR n t) (hf : inR n f) (c : List Int) : inR n (sgL t f n c) := by
  refine ⟨sgL_len t f n c, fun i hi => ?_⟩
  rw [sgL_rd t f n c i hi]
  have h1 := (flC_inR f n hf c).2 i hi
  have h2 := ht.2 (rd (flC f n c) i).toNat (by omega)
  rwa [show (((rd (flC f n c) i).toNat : Nat) : Int) = rd (flC f n c) i by omega] at h2
theorem flC_inj (f : List Int) (n : Nat) (hf : inR n f) (hfl : ∀ i : Nat, i < n → flipAt f i) (c : List Int) : injR n (flC f n c) := by
  have inv : ∀ i : Nat, i < n → rd (flC f n c) (rd (flC f n c) i) = i := by
    intro i hi
    have h1 := hf.2 i hi
    have h3 := chB_flip f n hf hfl c i hi
    rw [flC_rd f n c i hi]
    by_cases e : chB f n c i = true
    · rw [if_pos e]
      have := flC_rd f n c (rd f i).toNat (by omega)
      rw [show (((rd f i).toNat : Nat) : Int) = rd f i by omega, h3, if_pos e] at this
      rw [this, (hfl i hi).2]
    · rw [if_neg e, flC_rd f n c i hi, if_neg e]
  intro i j hi hj e
  have := inv i hi
  rw [e, inv j hj] at this
  omega
theorem sgL_inj (t f : List Int) (n : Nat) (ht : inR n t) (hti : injR n t) (hf : inR n f) (hfl : ∀ i : Nat, i < n → flipAt f i) (c : List Int) : injR n (sgL t f n c) := by
  intro i j hi hj e
  rw [sgL_rd t f n c i hi, sgL_rd t f n c j hj] at e
  have h1 := (flC_inR f n hf c).2 i hi
  have h2 := (flC_inR f n hf c).2 j hj
  have e1 : (((rd (flC f n c) i).toNat : Nat) : Int) = rd (flC f n c) i := by omega
  have e2 : (((rd (flC f n c) j).toNat : Nat) : Int) = rd (flC f n c) j := by omega
  rw [← e1, ← e2] at e
  have := hti _ _ (by omega) (by omega) e
  exact flC_inj f n hf hfl c i j hi hj (by omega)
theorem fc_more (t : List Int) (ch : Int → Bool) : ∀ (m : Nat) (x : Int), (∃ k, k ≤ m ∧ ch (itr t k x) = true) → fc t ch (m + 1) x = fc t ch m x
  | 0, x, ⟨k, hk, h⟩ => by
    have : k = 0 := by omega
    subst this
    have h' : ch x = true := h
    simp [fc, h']
  | m + 1, x, ⟨k, hk, h⟩ => by
    rw [fc]
    conv => rhs; rw [fc]
    by_cases e : ch x = true
    · rw [if_pos e, if_pos e]
    · rw [if_neg e, if_neg e]
      cases k with
      | zero => exact absurd h e
      | succ k => exact fc_more t ch m _ ⟨k, by omega, h⟩
theorem fc_none (t : List Int) (ch : Int → Bool) : ∀ (m : Nat) (x : Int), (∀ k, k ≤ m → ch (itr t k x) = false) → ch (fc t ch m x) = false
  | 0, x, h => h 0 (Nat.le_refl _)
  | m + 1, x, h => by
    have h0 : ch x = false := h 0 (by omega)
    simp only [fc, h0, Bool.false_eq_true, if_false]
    exact fc_none t ch m _ fun k hk => h (k + 1) (by omega)
theorem fc_reach (t f : List Int) (n : Nat) (ht : inR n t) (hf : inR n f) (c : List Int) : ∀ (m : Nat) (x : Int), 0 ≤ x ∧ x < n → Reach [sgL t f n c] n x.toNat (fc t (chB f n c) m x).toNat
  | 0, x, hx => Reach.refl _ _ _
  | m + 1, x, hx => by
    simp only [fc]
    split
    · exact Reach.refl _ _ _
    · rename_i e
      have ex : ((x.toNat : Nat) : Int) = x := by omega
      have tr := ht.2 x.toNat (by omega)
      have st := Reach.step (ps := [sgL t f n c]) (n := n) (p := sgL t f n c) (by simp) (k := x.toNat) (by omega)
      rw [sgL_rd t f n c _ (by omega), flC_rd f n c _ (by omega), ex, if_neg e] at st
      rw [ex] at tr
      exact st.trans (fc_reach t f n ht hf c m _ tr)
theorem ribS_seen (t f c : List Int) (n : Nat) (H : RibOk t f c n) : ∀ i, i ≤ n → (∀ x, x < n → ((ribS (faL t f n c) n (chB f n c) i).1.getD x false = true ↔ chB f n c (x : Int) = true ∧ ∃ j : Nat, j < i ∧ chB f n c (j : Int) = true ∧ Reach [sgL t f n c] n j x)) ∧
    Cnt n (fun x => x < i ∧ (chB f n c (x : Int) = true ∧ ∀ j : Nat, j < x → chB f n c (j : Int) = true → ¬ Reach [sgL t f n c] n j x)) (ribS (faL t f n c) n (chB f n c) i).2
  | 0, _ => by
    refine ⟨fun x hx => ⟨fun h => ?_, fun ⟨_, j, hj, _⟩ => by omega⟩, Cnt.none fun x _ z => by omega⟩
    simp [ribS, List.getD_eq_getElem?_getD, List.getElem?_replicate, hx] at h
  | i + 1, hi => by
    obtain ⟨hn, h1, ht, hti, hf, hfl, hc, hcl⟩ := id H
    obtain ⟨ih1, ih2⟩ := ribS_seen t f c n H i (by omega)
    have l1 := ribS_len (faL t f n c) n (chB f n c) i
    simp only [ribS]
    by_cases e : chB f n c (i : Int) = true ∧ (ribS (faL t f n c) n (chB f n c) i).1.getD i false = false
    · rw [if_pos e]
      have hFin := faL_inR t f n ht hf c
      have F1 : ∀ x : Nat, x < n → chB f n c (x : Int) = true → chB f n c (rd (faL t f n c) x) = true ∧ Reach [sgL t f n c] n x (rd (faL t f n c) x).toNat := by
        intro x hx hcx
        have a1 := fa_ch t f n ht hti hf hfl c x hx hcx
        refine ⟨a1.1, ?_⟩
        have fr := hf.2 x hx
        have tr := ht.2 (rd f x).toNat (by omega)
        rw [show (((rd f x).toNat : Nat) : Int) = rd f x by omega] at tr
        have st := Reach.step (ps := [sgL t f n c]) (n := n) (p := sgL t f n c) (by simp) hx
        rw [sgL_rd t f n c x hx, flC_rd f n c x hx, if_pos hcx] at st
        have := faL_rd t f n c x hx
        rw [if_pos hcx] at this
        rw [this]
        exact st.trans (fc_reach t f n ht hf c n _ tr)
      -- the walk stays within chosen darts; its ends
      have al := cw_alike (faL t f n c) n (chB f n c) (fun d hd hcd => fa_ch t f n ht hti hf hfl c d hd hcd) (n + 1) i (ribS (faL t f n c) n (chB f n c) i).1 (ribS (faL t f n c) n (chB f n c) i).1 [] [] (by omega) e.1 l1 l1 (fun _ _ _ => rfl)
      obtain ⟨w1, w2, w3, w4, w5, w6⟩ := cw_ends (faL t f n c) n hFin i (by omega) (fun x => x < n ∧ (ribS (faL t f n c) n (chB f n c) i).1.getD x false = true) (n + 1) (ribS (faL t f n c) n (chB f n c) i).1 [] i l1 (by omega) (by have := fresh_le (ribS (faL t f n c) n (chB f n c) i).1; omega)
        (fun y hy hsy => .inl (by
          have pr := hFin.2 y hy
          obtain ⟨hcy, j, hj, hcj, h⟩ := (ih1 y hy).1 hsy
          have a1 := F1 y hy hcy
          exact (ih1 _ (by omega)).2 ⟨by rw [show (((rd (faL t f n c) y).toNat : Nat) : Int) = rd (faL t f n c) y by omega]; exact a1.1, j, hj, hcj, h.trans a1.2⟩))
        (Reach.refl _ _ _) (fun y hy hsy => .inl ⟨hy, hsy⟩) (fun y hy => hy.2) (.inr rfl) (by simp) (fun z => absurd rfl z) (fun y hy hsy => .inl ⟨hy, hsy⟩)
      -- what the sides' permutation reaches from a chosen dart along chosen darts of a set led into itself
      have hc' := closed_of_fwd (sgL t f n c) n (sgL_inR t f n ht hf c) (sgL_inj t f n ht hti hf hfl c) (fun y => chB f n c (fc t (chB f n c) n (y : Int)) = true ∧ (cw (faL t f n c) (n + 1) (ribS (faL t f n c) n (chB f n c) i).1 [] i).1.getD (fc t (chB f n c) n (y : Int)).toNat false = true) (fun y hy ⟨g1, g2⟩ => by
        have sr := (sgL_inR t f n ht hf c).2 y hy
        rw [show (((rd (sgL t f n c) y).toNat : Nat) : Int) = rd (sgL t f n c) y by omega, sgL_rd t f n c y hy, flC_rd f n c y hy]
        by_cases hcy : chB f n c (y : Int) = true
        · rw [if_pos hcy]
          have e1 : fc t (chB f n c) n (y : Int) = y := by
            cases n with
            | zero => omega
            | succ n => simp only [fc, hcy, if_true]
          rw [e1, Int.toNat_natCast] at g2
          have := faL_rd t f n c y hy
          rw [if_pos hcy] at this
          rw [← this]
          exact ⟨(F1 y hy hcy).1, w1 y hy g2⟩
        · rw [if_neg hcy]
          have hits : ∃ k, k ≤ n ∧ chB f n c (itr t k (y : Int)) = true := by
            by_cases hh : ∃ k, k ≤ n ∧ chB f n c (itr t k (y : Int)) = true
            · exact hh
            · have := fc_none t (chB f n c) n (y : Int) (fun k hk => by
                cases hb : chB f n c (itr t k (y : Int)) with
                | true => exact absurd ⟨k, hk, hb⟩ hh
                | false => rfl)
              rw [this] at g1
              cases g1
          obtain ⟨k, hk, hk2⟩ := hits
          cases k with
          | zero => exact absurd hk2 hcy
          | succ k =>
            have e1 : fc t (chB f n c) n (y : Int) = fc t (chB f n c) n (rd t y) := by
              rw [← fc_more t (chB f n c) n (y : Int) ⟨k + 1, hk, hk2⟩]
              simp only [fc, hcy, Bool.false_eq_true, if_false]
            rw [← e1]
            exact ⟨g1, g2⟩)
      have fci : ∀ x : Nat, x < n → chB f n c (x : Int) = true → fc t (chB f n c) n (x : Int) = x := by
        intro x hx hcx
        cases n with
        | zero => omega
        | succ n => simp only [fc, hcx, if_true]
      constructor
      · intro x hx
        constructor
        · intro h
          have hcx : chB f n c (x : Int) = true := by
            cases hb : chB f n c (x : Int) with
            | true => rfl
            | false =>
              have z := (al.2 x hx hb).1
              rw [z] at h
              have := ((ih1 x hx).1 h).1
              rw [hb] at this
              cases this
          refine ⟨hcx, ?_⟩
          rcases w2 x hx h with ⟨_, h⟩ | h
          · obtain ⟨_, j, hj, hcj, hr⟩ := (ih1 x hx).1 h
            exact ⟨j, by omega, hcj, hr⟩
          · refine ⟨i, by omega, e.1, ?_⟩
            -- along the sides' first returns, the sides' permutation reaches
            have hcl : closedL [faL t f n c] n (fun y => chB f n c (y : Int) = true → True) := fun _ _ _ _ => ⟨fun _ _ => trivial, fun _ _ => trivial⟩
            have hz : closedL [faL t f n c] n (fun y => Reach [sgL t f n c] n i y) := by
              intro p hp k hk
              rw [List.mem_singleton.1 hp]
              by_cases hck : chB f n c (k : Int) = true
              · exact ⟨fun h => h.trans (F1 k hk hck).2, fun h => h.trans (F1 k hk hck).2.symm⟩
              · rw [faL_rd t f n c k hk, if_neg hck, Int.toNat_natCast]
            exact (h _ hz).1 (Reach.refl _ _ _)
        · rintro ⟨hcx, j, hj, hcj, hr⟩
          by_cases z : j = i
          · subst z
            have h0 := (hr _ hc').1 ⟨by rw [fci j (by omega) hcj]; exact hcj, by rw [fci j (by omega) hcj, Int.toNat_natCast]; exact w4⟩
            rw [fci x hx hcx, Int.toNat_natCast] at h0
            exact h0.2
          · exact w3 x ⟨hx, (ih1 x hx).2 ⟨hcx, j, by omega, hcj, hr⟩⟩
      · refine ih2.succ_yes (by omega) ⟨e.1, fun j hj hcj hr => ?_⟩
        have := (ih1 i (by omega)).2 ⟨e.1, j, hj, hcj, hr⟩
        rw [e.2] at this
        cases this
    · rw [if_neg e]
      constructor
      · intro x hx
        rw [ih1 x hx]
        constructor
        · rintro ⟨a, j, hj, b, d⟩; exact ⟨a, j, by omega, b, d⟩
        · rintro ⟨a, j, hj, b, d⟩
          refine ⟨a, ?_⟩
          by_cases z : j = i
          · subst z
            have hs : (ribS (faL t f n c) n (chB f n c) j).1.getD j false = true := by
              cases hb : (ribS (faL t f n c) n (chB f n c) j).1.getD j false with
              | true => rfl
              | false => exact absurd ⟨b, hb⟩ e
            obtain ⟨_, q, q1, q2, q3⟩ := (ih1 j (by omega)).1 hs
            exact ⟨q, q1, q2, q3.trans d⟩
          · exact ⟨j, by omega, b, d⟩
      · refine ih2.succ_no fun z => e ⟨z.1, ?_⟩
        cases hb : (ribS (faL t f n c) n (chB f n c) i).1.getD i false with
        | false => rfl
        | true =>
          obtain ⟨_, q, q1, q2, q3⟩ := (ih1 i (by omega)).1 hb
          exact absurd q3 (z.2 q q1 q2)
theorem Cnt.union {n : Nat} {P Q : Nat → Prop} {k l : Nat} (hp : Cnt n P k) (hq : Cnt n Q l) (h : ∀ x, x < n → P x → ¬ Q x) : Cnt n (fun x => P x ∨ Q x) (k + l) := by
  obtain ⟨L, h1, h2, h3⟩ := hp
  obtain ⟨M, m1, m2, m3⟩ := hq
  refine ⟨L ++ M, List.nodup_append.2 ⟨h1, m1, fun a ha b hb e => ?_⟩, fun x => ?_, by rw [List.length_append, h3, m3]⟩
  · subst e
    exact h a ((h2 a).1 ha).1 ((h2 a).1 ha).2 ((m2 a).1 hb).2
  · rw [List.mem_append, h2, m2]
    constructor
    · rintro (⟨a, b⟩ | ⟨a, b⟩)
      · exact ⟨a, .inl b⟩
      · exact ⟨a, .inr b⟩
    · rintro ⟨a, b | b⟩
      · exact .inl ⟨a, b⟩
      · exact .inr ⟨a, b⟩
theorem sides_cl (t f c : List Int) (n : Nat) (H : RibOk t f c n) : Cl n (Reach [sgL t f n c] n) (sidesN t f n c) := by
  obtain ⟨hn, h1, ht, hti, hf, hfl, hc, hcl⟩ := id H
  have q1 := (cyS_cnt t n ht hti (chB f n c) n (Nat.le_refl _)).2
  have q2 := (ribS_seen t f c n H n (Nat.le_refl _)).2
  -- along a bare cycle both permutations are one
  have bareC : ∀ x, x < n → (∀ y, y < n → chB f n c (y : Int) = true → ¬ Reach [t] n x y) → closedL [sgL t f n c] n (fun z => z < n ∧ Reach [t] n x z) := by
    intro x hx hb
    refine closed_of_fwd _ n (sgL_inR t f n ht hf c) (sgL_inj t f n ht hti hf hfl c) _ fun k hk ⟨_, hr⟩ => ?_
    have hck : ¬ chB f n c (k : Int) = true := fun z => hb k hk z hr
    have tr := ht.2 k hk
    rw [sgL_rd t f n c k hk, flC_rd f n c k hk, if_neg hck]
    exact ⟨by omega, hr.trans (Reach.step (by simp) hk)⟩
  have u := q1.union q2 (fun x hx a b => (a.2.2 x hx b.2.1) (Reach.refl _ _ _))
  obtain ⟨K, hK, _⟩ := Cl.ex n (Reach [sgL t f n c] n)
  have sy : ∀ x y, Reach [sgL t f n c] n x y → Reach [sgL t f n c] n y x := fun x y h => h.symm
  have tr : ∀ x y z, Reach [sgL t f n c] n x y → Reach [sgL t f n c] n y z → Reach [sgL t f n c] n x z := fun x y z h h' => h.trans h'
  have a1 := Cnt.reps _ sy tr hK u (fun x hx hlx => by
    by_cases hh : ∃ y, y < n ∧ chB f n c (y : Int) = true ∧ Reach [sgL t f n c] n x y
    · obtain ⟨y, hy, hcy, hr⟩ := hh
      -- the least chosen one of the class
      have : ∀ y, y < n → chB f n c (y : Int) = true → Reach [sgL t f n c] n x y → ∃ z, z < n ∧ (chB f n c (z : Int) = true ∧ ∀ j : Nat, j < z → chB f n c (j : Int) = true → ¬ Reach [sgL t f n c] n j z) ∧ Reach [sgL t f n c] n x z := by
        intro y
        induction y using Nat.strongRecOn with
        | ind y ih =>
          intro hy hcy hr
          by_cases g : ∃ j, j < y ∧ chB f n c ((j : Nat) : Int) = true ∧ Reach [sgL t f n c] n j y
          · obtain ⟨j, j1, j2, j3⟩ := g
            exact ih j j1 (by omega) j2 (hr.trans j3.symm)
          · exact ⟨y, hy, ⟨hcy, fun j hj hcj hrj => g ⟨j, hj, hcj, hrj⟩⟩, hr⟩
      obtain ⟨z, z1, z2, z3⟩ := this y hy hcy hr
      exact ⟨z, z1, .inr ⟨z1, z2⟩, z3⟩
    · -- no chosen one: the class is a bare cycle
      obtain ⟨y, y1, y2, y3⟩ := lst_ex (Reach [t] n) (fun x => Reach.refl _ _ x) (fun _ _ h => h.symm) (fun _ _ _ h h' => h.trans h') x
      have hcS : closedL [t] n (fun z => z < n ∧ Reach [sgL t f n c] n x z) := by
        refine closed_of_fwd t n ht hti _ fun k hk ⟨_, hr⟩ => ?_
        have hck : ¬ chB f n c (k : Int) = true := fun z => hh ⟨k, hk, z, hr⟩
        have st := Reach.step (ps := [sgL t f n c]) (n := n) (p := sgL t f n c) (by simp) hk
        rw [sgL_rd t f n c k hk, flC_rd f n c k hk, if_neg hck] at st
        have tr := ht.2 k hk
        exact ⟨by omega, hr.trans st⟩
      have hxy := (y3 _ hcS).2 ⟨hx, Reach.refl _ _ _⟩
      refine ⟨y, hxy.1, .inl ⟨hxy.1, y2, fun z hz hcz hrz => ?_⟩, hxy.2⟩
      have := (hrz _ hcS).1 hxy
      exact hh ⟨z, hz, hcz, this.2⟩) (fun x y hx hlx hy hly h => lst_uniq _ sy x y hlx hly h)
  have a2 := Cnt.reps _ sy tr u hK (fun x hx _ => by
    obtain ⟨y, y1, y2, y3⟩ := lst_ex (Reach [sgL t f n c] n) (fun x => Reach.refl _ _ x) sy tr x
    exact ⟨y, by omega, y2, sy _ _ y3⟩) (fun x y hx hpx hy hpy h => by
    rcases hpx with ⟨_, px1, px2⟩ | ⟨_, px1, px2⟩
    · have hcB := bareC x hx px2
      have hxy := (h _ hcB).1 ⟨hx, Reach.refl _ _ _⟩
      rcases hpy with ⟨_, py1, py2⟩ | ⟨_, py1, py2⟩
      · exact lst_uniq _ (fun _ _ h => h.symm) x y px1 py1 hxy.2
      · exact absurd hxy.2 (px2 y hy py1)
    · rcases hpy with ⟨_, py1, py2⟩ | ⟨_, py1, py2⟩
      · have hcB := bareC y hy py2
        have hxy := (h _ hcB).2 ⟨hy, Reach.refl _ _ _⟩
        exact absurd hxy.2 (py2 x hx px1)
      · by_cases g1 : x < y
        · exact absurd h (py2 x g1 px1)
        · by_cases g2 : y < x
          · exact absurd h.symm (px2 y g2 py1)
          · omega)
  have : K = sidesN t f n c := Nat.le_antisymm a1 a2
  rw [← this]
  exact hK
theorem perm_injR (l : List Int) (h : isPerm l) : injR l.length l := by
  intro i j hi hj e
  by_cases h1 : i < j
  · exact absurd e ((h.2.2 j hj).2.2 i h1)
  · by_cases h2 : j < i
    · exact absurd e.symm ((h.2.2 i hi).2.2 j h2)
    · omega
theorem ribOk_of (t f c : List Int) (h : isMap t f) (hc : isChoice c ((f.length : Int) / 2)) (hcl : c.length ≤ 1048576) : RibOk t f c t.length := by
  obtain ⟨pt, pf, e, fl, _⟩ := h
  have hf : inR t.length f := by rw [e]; exact isPerm_inR f pf
  have hfl : ∀ i : Nat, i < t.length → flipAt f i := fun i hi => fl i (by omega)
  refine ⟨pt.2.1, pt.1, isPerm_inR t pt, perm_injR t pt, hf, hfl, ?_, hcl⟩
  have := edL_half f t.length hf hfl
  rw [show (((edL f t.length).length : Nat) : Int) = (f.length : Int) / 2 by omega]
  exact hc
theorem five_len (P S V c : Int) : (fiveN P S V c).length = 5 := rfl
def vt (C : List (List Int)) (n : Nat) : Nat → List Int
  | 0 => List.replicate n 0
  | q + 1 => (rd_L1 C q).foldl (fun o d => o.set d.toNat (q : Int)) (vt C n q)
theorem fold_len (v : Int) : ∀ (l o : List Int), (l.foldl (fun o d => o.set d.toNat v) o).length = o.length
  | [], o => rfl
  | x :: l, o => by
    rw [List.foldl_cons, fold_len v l]
    simp
theorem vt_len (C : List (List Int)) (n : Nat) : ∀ q, (vt C n q).length = n
  | 0 => by simp [vt]
  | q + 1 => by
    simp only [vt]
    rw [fold_len, vt_len C n q]
theorem iv_l1 (C : List (List Int)) (n q : Nat) (hn : n ≤ 12) (hq : q < C.length) (hl : (∀ x ∈ rd_L1 C q, 0 ≤ x ∧ x < n) ∧ (rd_L1 C q).length ≤ n + 1) (r : List Int) : ∀ (d i : Nat) (o : List Int), (rd_L1 C q).length - i = d → i ≤ (rd_L1 C q).length → o.length = n →
    Ev (fun k => impl_vertexOf.l0 k (((rd_L1 C q).drop i).foldl (fun o d => o.set d.toNat (q : Int)) o) C C.length (wrap64 ((q : Int) + 1))) r → Ev (fun k => impl_vertexOf.l1 k o q C C.length q (rd_L1 C q) (rd_L1 C q).length i) r
  | 0, i, o, hd, hi, ho, h => by
    have : i = (rd_L1 C q).length := by omega
    rw [List.drop_eq_nil_of_le (by omega)] at h
    refine Ev.s ?_
    simp only [impl_vertexOf.l1, show ¬ (i : Int) < ((rd_L1 C q).length : Int) by omega, if_true, if_false]
    exact h
  | d + 1, i, o, hd, hi, ho, h => by
    have hlt : i < (rd_L1 C q).length := by omega
    have e := rd_lt _ i hlt
    have hr := hl.1 _ (List.getElem_mem hlt)
    rw [List.drop_eq_getElem_cons hlt, List.foldl_cons, ← e] at h
    rw [← e] at hr
    refine Ev.s ?_
    simp only [impl_vertexOf.l1, show (i : Int) < ((rd_L1 C q).length : Int) by omega, show (0 : Int) ≤ (i : Int) by omega, hr.1, ho, hr.2, if_true, w64n (show i < 4611686018427387904 by omega)]
    exact iv_l1 C n q hn hq hl r d (i + 1) _ (by omega) (by omega) (by simpa using ho) h
theorem iv_l0 (C : List (List Int)) (n : Nat) (hn : n ≤ 12) (hC : ∀ l ∈ C, (∀ x ∈ l, 0 ≤ x ∧ x < n) ∧ l.length ≤ n + 1) (hCl : C.length ≤ n) : ∀ (d q : Nat), C.length - q = d → q ≤ C.length → Ev (fun k => impl_vertexOf.l0 k (vt C n q) C C.length q) (vt C n C.length)
  | 0, q, hd, hq => by
    have : q = C.length := by omega
    subst this
    refine Ev.s ?_
    simp only [impl_vertexOf.l0, show ¬ (C.length : Int) < (C.length : Int) by omega, if_false]
    exact Ev.const rfl
  | d + 1, q, hd, hq => by
    have ih := iv_l0 C n hn hC hCl d (q + 1) (by omega) (by omega)
    have ok := rdL_ok C _ hC q (by omega)
    refine Ev.s ?_
    simp only [impl_vertexOf.l0, show (q : Int) < (C.length : Int) by omega, show (0 : Int) ≤ (q : Int) by omega, if_true]
    refine iv_l1 C n q hn (by omega) ok _ _ 0 _ rfl (by omega) (vt_len C n q) ?_
    rw [List.drop_zero, w64n (by omega)]
    exact ih
def vtx (t : List Int) (n : Nat) : List Int := vt (cyS t n n).2 n (cyS t n n).2.length
theorem implVert_ev (t f : List Int) (n : Nat) (hn : n ≤ 12) (ht : inR n t) : Ev (fun k => impl_vertexOf.f k t f) (vtx t n) := by
  unfold impl_vertexOf.f
  rw [ht.1]
  simp only [show (0 : Int) ≤ (n : Int) by omega, Int.toNat_natCast, show n ≤ 35184372088832 by omega, if_true]
  refine Ev.bind (implCyc_ev t n (by omega) ht) ?_
  exact iv_l0 _ n hn (cyS_ok t n ht n (Nat.le_refl _)) (cyS_many t n n) _ 0 rfl (by omega)
theorem mem_restL (c : List Int) (m : Nat) (x : Int) : x ∈ restL c m ↔ ∃ j : Nat, j < m ∧ x = (j : Int) ∧ (j : Int) ∉ c := by
  unfold restL
  rw [List.mem_map]
  constructor
  · rintro ⟨j, hj, rfl⟩
    rw [List.mem_filter, List.mem_range] at hj
    exact ⟨j, hj.1, rfl, by simpa using hj.2⟩
  · rintro ⟨j, h1, rfl, h2⟩
    exact ⟨j, by rw [List.mem_filter, List.mem_range]; exact ⟨h1, by simpa using h2⟩, rfl⟩
theorem choice_of (c : List Int) (m : Int) (h1 : ∀ x ∈ c, 0 ≤ x ∧ x < m) (h2 : c.Pairwise (· < ·)) : isChoice c m := by
  intro i hi
  have e := rd_lt c i hi
  have h := h1 _ (List.getElem_mem hi)
  rw [← e] at h
  refine ⟨?_, h.2⟩
  cases i with
  | zero => rw [ahead_zero]; omega
  | succ i =>
    rw [ahead_succ, rd_lt c i (by omega), e]
    exact List.pairwise_iff_getElem.1 h2 i (i + 1) (by omega) hi (by omega)
theorem restL_choice (c : List Int) (m : Nat) : isChoice (restL c m) m := by
  refine choice_of _ _ (fun x hx => ?_) ?_
  · obtain ⟨j, h1, rfl, _⟩ := (mem_restL c m x).1 hx
    omega
  · unfold restL
    rw [List.pairwise_map]
    exact ((List.pairwise_lt_range (n := m)).filter _).imp (fun h => by omega)
theorem pc_cnt (o : List Int) : ∀ n, Cnt n (fun i => (i : Int) = rd o i) (pc o n)
  | 0 => ⟨[], List.nodup_nil, by simp, rfl⟩
  | n + 1 => by
    obtain ⟨L, h1, h2, h3⟩ := pc_cnt o n
    simp only [pc]
    by_cases h : (n : Int) = rd o n
    · rw [if_pos h]
      refine ⟨n :: L, List.nodup_cons.2 ⟨fun z => by have := ((h2 n).1 z).1; omega, h1⟩, fun x => ?_, by simp [h3]⟩
      rw [List.mem_cons, h2]
      constructor
      · rintro (rfl | ⟨a, b⟩)
        · exact ⟨by omega, h⟩
        · exact ⟨by omega, b⟩
      · rintro ⟨a, b⟩
        by_cases e : x = n
        · exact .inl e
        · exact .inr ⟨by omega, b⟩
    · rw [if_neg h]
      refine ⟨L, h1, fun x => ?_, h3⟩
      rw [h2]
      constructor
      · rintro ⟨a, b⟩; exact ⟨by omega, b⟩
      · rintro ⟨a, b⟩
        by_cases e : x = n
        · exact absurd (e ▸ b) h
        · exact ⟨by omega, b⟩
theorem geL_lt (f : List Int) (n : Nat) (hf : inR n f) (hfl : ∀ i : Nat, i < n → flipAt f i) (d : Nat) (hd : d < n) : ∃ j : Nat, j < (edL f n).length ∧ rd (geL f n n) d = (j : Int) := by
  have l := least_lt f n hf hfl d hd
  exact ⟨_, edL_lt f _ l.2 n l.1, geL_at f n hf hfl n (Nat.le_refl _) d hd l.1⟩
def MapOk (t f : List Int) (n : Nat) : Prop := n ≤ 12 ∧ 1 ≤ n ∧ inR n t ∧ injR n t ∧ inR n f ∧ (∀ i : Nat, i < n → flipAt f i) ∧ ∀ i j : Nat, i < n → j < n → Reach [t, f] n i j
theorem mapOk_of (t f : List Int) (h : isMap t f) : MapOk t f t.length := by
  obtain ⟨hn, h1, ht, hti, hf, hfl, _, _⟩ := ribOk_of t f [] h (fun i hi => by simp at hi) (by simp)
  exact ⟨hn, h1, ht, hti, hf, hfl, by have := h.2.2.2.2; rwa [← h.2.2.1] at this⟩
theorem MapOk.rib {t f : List Int} {n : Nat} (h : MapOk t f n) {c : List Int} (hc : isChoice c ((edL f n).length : Int)) (hcl : c.length ≤ 1048576) : RibOk t f c n :=
  ⟨h.1, h.2.1, h.2.2.1, h.2.2.2.1, h.2.2.2.2.1, h.2.2.2.2.2.1, hc, hcl⟩
theorem parts_cl (t f c : List Int) (n : Nat) (h1 : 1 ≤ n) (ht : inR n t) (hf : inR n f) (o : List Int) (ho : orbOk [t, flC f n c] n o) : Cl n (Reach [t, flC f n c] n) (pc o n) := by
  have hin : ∀ p ∈ [t, flC f n c], inR n p := by
    intro p hp
    rcases List.mem_cons.1 hp with rfl | hp
    · exact ht
    · rw [List.mem_singleton.1 hp]; exact flC_inR f n hf _
  refine (pc_cnt o n).congr fun x hx => ⟨fun h j hj hr => ?_, fun h => ?_⟩
  · have h1 := orbOk_const ho hin hr
    have h2 := ho.1.2 j (by omega)
    have h : (x : Int) = rd o x := h
    omega
  · have h2 := ho.1.2 x hx
    by_cases e : rd o x = x
    · exact e.symm
    · exact absurd h2.2.2 (h _ (by omega))
theorem sg_flC (t f c : List Int) (n : Nat) (hf : inR n f) (x y : Nat) (h : Reach [sgL t f n c] n x y) : Reach [t, flC f n c] n x y := by
  intro S hS
  refine h S fun p hp k hk => ?_
  rw [List.mem_singleton.1 hp, sgL_rd t f n c k hk]
  have fr := (flC_inR f n hf c).2 k hk
  have h1 := hS (flC f n c) (by simp) k hk
  have h2 := hS t (by simp) (rd (flC f n c) k).toNat (by omega)
  rw [show (((rd (flC f n c) k).toNat : Nat) : Int) = rd (flC f n c) k by omega] at h2
  exact h1.trans h2
theorem add_edge (t f : List Int) (n : Nat) (H : MapOk t f n) (c : List Int) (e : Nat) (he : e < (edL f n).length) (hec : (e : Int) ∉ c) (a b : Nat) (ha : a < n) (hb : b < n) (hab : a ≠ b) (e2 : rd f a = b) (e3 : rd f b = a) (e4 : ∀ d : Nat, d < n → (rd (geL f n n) (d : Int) = e ↔ d = a ∨ d = b))
    (P S P' S' : Nat) (hP : Cl n (Reach [t, flC f n c] n) P) (hS : Cl n (Reach [sgL t f n c] n) S) (hP' : Cl n (Reach [t, flC f n (c ++ [(e : Int)])] n) P') (hS' : Cl n (Reach [sgL t f n (c ++ [(e : Int)])] n) S') :
    (Reach [t, flC f n c] n a b → P' = P) ∧ (¬ Reach [t, flC f n c] n a b → P' + 1 = P) ∧ (¬ Reach [sgL t f n c] n a b → S' + 1 = S) ∧ (Reach [sgL t f n c] n a b → S' = S + 1) := by
  obtain ⟨hn, h1, ht, hti, hf, hfl, hcon⟩ := id H
  have chA : ∀ d : Nat, d < n → chB f n (c ++ [(e : Int)]) (d : Int) = (chB f n c (d : Int) || decide (d = a ∨ d = b)) := by
    intro d hd
    unfold chB
    rw [Bool.eq_iff_iff, Bool.or_eq_true, decide_eq_true_eq, decide_eq_true_eq, decide_eq_true_eq, List.mem_append, List.mem_singleton, e4 d hd]
  have un : ∀ d : Nat, d < n → d = a ∨ d = b → chB f n c (d : Int) = false := by
    intro d hd h
    unfold chB
    rw [(e4 d hd).2 h]
    exact decide_eq_false hec
  have fa : rd (flC f n c) a = a := by rw [flC_rd f n c a ha, un a ha (.inl rfl)]; simp
  have fb : rd (flC f n c) b = b := by rw [flC_rd f n c b hb, un b hb (.inr rfl)]; simp
  have fa' : rd (flC f n (c ++ [(e : Int)])) a = b := by rw [flC_rd f n _ a ha, chA a ha]; simp [e2]
  have fb' : rd (flC f n (c ++ [(e : Int)])) b = a := by rw [flC_rd f n _ b hb, chA b hb]; simp [e3]
  have fo : ∀ d : Nat, d < n → d ≠ a → d ≠ b → rd (flC f n (c ++ [(e : Int)])) d = rd (flC f n c) d := by
    intro d hd ka kb
    rw [flC_rd f n _ d hd, flC_rd f n _ d hd, chA d hd]
    simp [ka, kb]
  have rel : ∀ x y, Reach [t, flC f n (c ++ [(e : Int)])] n x y ↔ Reach [t, flC f n c] n x y ∨ (Reach [t, flC f n c] n x a ∧ Reach [t, flC f n c] n b y) ∨ (Reach [t, flC f n c] n x b ∧ Reach [t, flC f n c] n a y) := by
    have up : ∀ x y, Reach [t, flC f n c] n x y → Reach [t, flC f n (c ++ [(e : Int)])] n x y := by
      intro x y h S hS
      refine h S fun p hp k hk => ?_
      rcases List.mem_cons.1 hp with rfl | hp
      · exact hS p (by simp) k hk
      · rw [List.mem_singleton.1 hp]
        by_cases ka : k = a
        · subst ka; rw [fa, Int.toNat_natCast]
        · by_cases kb : k = b
          · subst kb; rw [fb, Int.toNat_natCast]
          · rw [← fo k hk ka kb]
            exact hS _ (by simp) k hk
    have uab : Reach [t, flC f n (c ++ [(e : Int)])] n a b := by
      have := Reach.step (ps := [t, flC f n (c ++ [(e : Int)])]) (n := n) (p := flC f n (c ++ [(e : Int)])) (by simp) ha
      rwa [fa', Int.toNat_natCast] at this
    intro x y
    constructor
    · intro h
      refine (h (fun z => Reach [t, flC f n c] n x z ∨ (Reach [t, flC f n c] n x a ∧ Reach [t, flC f n c] n b z) ∨ (Reach [t, flC f n c] n x b ∧ Reach [t, flC f n c] n a z)) ?_).1 (.inl (Reach.refl _ _ _))
      intro p hp k hk
      rcases List.mem_cons.1 hp with rfl | hp
      · have s := Reach.step (ps := [p, flC f n c]) (n := n) (p := p) (by simp) hk
        constructor
        · rintro (z | ⟨z1, z2⟩ | ⟨z1, z2⟩)
          · exact .inl (z.trans s)
          · exact .inr (.inl ⟨z1, z2.trans s⟩)
          · exact .inr (.inr ⟨z1, z2.trans s⟩)
        · rintro (z | ⟨z1, z2⟩ | ⟨z1, z2⟩)
          · exact .inl (z.trans s.symm)
          · exact .inr (.inl ⟨z1, z2.trans s.symm⟩)
          · exact .inr (.inr ⟨z1, z2.trans s.symm⟩)
      · rw [List.mem_singleton.1 hp]
        by_cases ka : k = a
        · subst ka
          rw [fa', Int.toNat_natCast]
          constructor
          · rintro (z | ⟨z1, z2⟩ | ⟨z1, z2⟩)
            · exact .inr (.inl ⟨z, Reach.refl _ _ _⟩)
            · exact .inr (.inl ⟨z1, Reach.refl _ _ _⟩)
            · exact .inl z1
          · rintro (z | ⟨z1, z2⟩ | ⟨z1, z2⟩)
            · exact .inr (.inr ⟨z, Reach.refl _ _ _⟩)
            · exact .inl z1
            · exact .inr (.inr ⟨z1, Reach.refl _ _ _⟩)
        · by_cases kb : k = b
          · subst kb
            rw [fb', Int.toNat_natCast]
            constructor
            · rintro (z | ⟨z1, z2⟩ | ⟨z1, z2⟩)
              · exact .inr (.inr ⟨z, Reach.refl _ _ _⟩)
              · exact .inl z1
              · exact .inr (.inr ⟨z1, Reach.refl _ _ _⟩)
            · rintro (z | ⟨z1, z2⟩ | ⟨z1, z2⟩)
              · exact .inr (.inl ⟨z, Reach.refl _ _ _⟩)
              · exact .inr (.inl ⟨z1, Reach.refl _ _ _⟩)
              · exact .inl z1
          · have s := Reach.step (ps := [t, flC f n c]) (n := n) (p := flC f n c) (by simp) hk
            rw [fo k hk ka kb]
            constructor
            · rintro (z | ⟨z1, z2⟩ | ⟨z1, z2⟩)
              · exact .inl (z.trans s)
              · exact .inr (.inl ⟨z1, z2.trans s⟩)
              · exact .inr (.inr ⟨z1, z2.trans s⟩)
            · rintro (z | ⟨z1, z2⟩ | ⟨z1, z2⟩)
              · exact .inl (z.trans s.symm)
              · exact .inr (.inl ⟨z1, z2.trans s.symm⟩)
              · exact .inr (.inr ⟨z1, z2.trans s.symm⟩)
    · rintro (z | ⟨z1, z2⟩ | ⟨z1, z2⟩)
      · exact up _ _ z
      · exact (up _ _ z1).trans (uab.trans (up _ _ z2))
      · exact (up _ _ z1).trans (uab.symm.trans (up _ _ z2))
  have ex : Exch n (sgL t f n c) (sgL t f n (c ++ [(e : Int)])) a b := by
    refine ⟨ha, hb, hab, ?_, ?_, fun x hx ka kb => ?_⟩
    · rw [sgL_rd t f n _ a ha, sgL_rd t f n _ b hb, fa', fb]
    · rw [sgL_rd t f n _ a ha, sgL_rd t f n _ b hb, fb', fa]
    · rw [sgL_rd t f n _ x hx, sgL_rd t f n _ x hx, fo x hx ka kb]
  have xc := exch_count (sgL_inR t f n ht hf c) (sgL_inR t f n ht hf _) (sgL_inj t f n ht hti hf hfl c) (sgL_inj t f n ht hti hf hfl _) ex hS hS'
  refine ⟨fun h => ?_, fun h => ?_, xc.1, xc.2⟩
  · refine Cnt.same hP' hP fun x hx => ?_
    have : ∀ i, Reach [t, flC f n (c ++ [(e : Int)])] n i x ↔ Reach [t, flC f n c] n i x := fun i => by
      rw [rel]
      exact ⟨fun z => z.elim id (fun z => z.elim (fun z => z.1.trans (h.trans z.2)) (fun z => z.1.trans (h.symm.trans z.2))), .inl⟩
    exact ⟨fun z i hi hr => z i hi ((this i).2 hr), fun z i hi hr => z i hi ((this i).1 hr)⟩
  · have := Cl.merge (S := Reach [t, flC f n (c ++ [(e : Int)])] n) (fun x => Reach.refl _ _ x) (fun _ _ h => h.symm) (fun _ _ _ h h' => h.trans h') hP a b ha hb h rel
    have u := Cl.uniq hP' this.2
    omega
def Gen (t f : List Int) (n : Nat) (c : List Int) (K g : Nat) : Prop := ∃ P S V, Cl n (Reach [t, flC f n c] n) P ∧ Cl n (Reach [sgL t f n c] n) S ∧ Cl n (Reach [t] n) V ∧ 2 * P + K = V + S + 2 * g ∧ V ≤ K + P
theorem flC_nil (f : List Int) (n : Nat) : flC f n [] = stl n := by
  have := flC_zero f n []
  simpa using this
theorem gen_nil (t f : List Int) (n : Nat) (H : MapOk t f n) : Gen t f n [] 0 0 := by
  obtain ⟨hn, h1, ht, hti, hf, hfl, hcon⟩ := id H
  obtain ⟨V, hV, _⟩ := Cl.ex n (Reach [t] n)
  have e1 : ∀ x y, Reach [t, flC f n []] n x y ↔ Reach [t] n x y := by
    intro x y
    constructor
    · intro h S hS
      refine h S fun p hp k hk => ?_
      rcases List.mem_cons.1 hp with rfl | hp
      · exact hS p (by simp) k hk
      · rw [List.mem_singleton.1 hp, flC_nil, stl_rd n k hk, Int.toNat_natCast]
    · intro h S hS
      exact h S fun p hp k hk => by rw [List.mem_singleton.1 hp]; exact hS t (by simp) k hk
  have e2 : sgL t f n [] = t := by
    refine list_ext _ _ (by rw [sgL_len, ht.1]) fun d hd => ?_
    rw [sgL_len] at hd
    rw [sgL_rd t f n [] d hd, flC_nil, stl_rd n d hd]
  refine ⟨V, V, V, ?_, by rw [e2]; exact hV, hV, by omega, by omega⟩
  exact Cnt.congr hV fun x hx => ⟨fun z i hi hr => z i hi ((e1 i x).1 hr), fun z i hi hr => z i hi ((e1 i x).2 hr)⟩
theorem gen_step (t f : List Int) (n : Nat) (H : MapOk t f n) (c : List Int) (K g : Nat) (hG : Gen t f n c K g) (e : Nat) (he : e < (edL f n).length) (hec : (e : Int) ∉ c) : ∃ g', g ≤ g' ∧ Gen t f n (c ++ [(e : Int)]) (K + 1) g' := by
  obtain ⟨hn, h1, ht, hti, hf, hfl, hcon⟩ := id H
  obtain ⟨P, S, V, hP, hS, hV, g1, g2⟩ := hG
  obtain ⟨a, b, ha, hb, hab, _, e2, e3, e4⟩ := edge_at f n hf hfl e he
  obtain ⟨P', hP', _⟩ := Cl.ex n (Reach [t, flC f n (c ++ [(e : Int)])] n)
  obtain ⟨S', hS', _⟩ := Cl.ex n (Reach [sgL t f n (c ++ [(e : Int)])] n)
  obtain ⟨x1, x2, x3, x4⟩ := add_edge t f n H c e he hec a b ha hb hab e2 e3 e4 P S P' S' hP hS hP' hS'
  by_cases r : Reach [t, flC f n c] n a b
  · have p1 := x1 r
    by_cases q : Reach [sgL t f n c] n a b
    · have s1 := x4 q
      exact ⟨g, Nat.le_refl _, P', S', V, hP', hS', hV, by omega, by omega⟩
    · have s1 := x3 q
      exact ⟨g + 1, by omega, P', S', V, hP', hS', hV, by omega, by omega⟩
  · have p1 := x2 r
    have s1 := x3 fun q => r (sg_flC t f c n hf a b q)
    exact ⟨g, Nat.le_refl _, P', S', V, hP', hS', hV, by omega, by omega⟩
theorem gen_run (t f : List Int) (n : Nat) (H : MapOk t f n) : ∀ (L c : List Int) (K g : Nat), Gen t f n c K g → L.Nodup → (∀ x ∈ L, 0 ≤ x ∧ x < (edL f n).length ∧ x ∉ c) → ∃ g', g ≤ g' ∧ Gen t f n (c ++ L) (K + L.length) g'
  | [], c, K, g, hG, _, _ => ⟨g, Nat.le_refl _, by simpa using hG⟩
  | x :: L, c, K, g, hG, hN, hL => by
    obtain ⟨n1, n2⟩ := List.nodup_cons.1 hN
    have hx := hL x (by simp)
    have ex : ((x.toNat : Nat) : Int) = x := by omega
    obtain ⟨g1, l1, G1⟩ := gen_step t f n H c K g hG x.toNat (by omega) (by rw [ex]; exact hx.2.2)
    rw [ex] at G1
    obtain ⟨g2, l2, G2⟩ := gen_run t f n H L (c ++ [x]) (K + 1) g1 G1 n2 (fun y hy => by
      have := hL y (by simp [hy])
      refine ⟨this.1, this.2.1, fun z => ?_⟩
      rw [List.mem_append, List.mem_singleton] at z
      exact z.elim this.2.2 (fun z => n1 (z ▸ hy)))
    refine ⟨g2, by omega, ?_⟩
    rw [List.append_assoc, List.singleton_append] at G2
    rw [List.length_cons, show K + (L.length + 1) = K + 1 + L.length by omega]
    exact G2
theorem gen_uniq {t f : List Int} {n : Nat} {c : List Int} {K g P S V : Nat} (hG : Gen t f n c K g) (hP : Cl n (Reach [t, flC f n c] n) P) (hS : Cl n (Reach [sgL t f n c] n) S) (hV : Cl n (Reach [t] n) V) : 2 * P + K = V + S + 2 * g ∧ V ≤ K + P := by
  obtain ⟨P', S', V', p, s, v, h1, h2⟩ := hG
  rw [Cl.uniq hP p, Cl.uniq hS s, Cl.uniq hV v]
  exact ⟨h1, h2⟩
theorem choice_nodup (c : List Int) (m : Int) (hc : isChoice c m) : c.Nodup := by
  rw [List.Nodup, List.pairwise_iff_getElem]
  intro i j hi hj hij e
  have := asc_mono c m hc j i hj hij
  rw [rd_lt c i hi, rd_lt c j hj, e] at this
  omega
theorem choice_mem (c : List Int) (m : Int) (hc : isChoice c m) (x : Int) (hx : x ∈ c) : 0 ≤ x ∧ x < m := by
  obtain ⟨i, hi, rfl⟩ := List.getElem_of_mem hx
  have := choice_range c m hc i hi
  rwa [rd_lt c i hi] at this
def faces (t f : List Int) (n : Nat) : List Int := (List.range n).map fun (d : Nat) => rd t (rd f (d : Int))
theorem faces_len (t f : List Int) (n : Nat) : (faces t f n).length = n := by simp [faces]
theorem faces_rd (t f : List Int) (n d : Nat) (h : d < n) : rd (faces t f n) (d : Int) = rd t (rd f (d : Int)) := by
  rw [rd_lt _ _ (by simp [faces]; exact h)]
  simp [faces]
theorem flC_all (f : List Int) (n : Nat) (hf : inR n f) (hfl : ∀ i : Nat, i < n → flipAt f i) (c : List Int) (hc : ∀ j : Nat, j < (edL f n).length → (j : Int) ∈ c) : flC f n c = f := by
  refine list_ext _ _ (by rw [flC_len, hf.1]) fun d hd => ?_
  rw [flC_len] at hd
  obtain ⟨j, j1, j2⟩ := geL_lt f n hf hfl d hd
  have : chB f n c (d : Int) = true := by
    unfold chB
    rw [j2]
    exact decide_eq_true (hc j j1)
  rw [flC_rd f n c d hd, if_pos this]
theorem sgL_all (t f : List Int) (n : Nat) (c : List Int) (h : flC f n c = f) : sgL t f n c = faces t f n := by
  unfold sgL faces
  rw [h]
theorem rest_count (c : List Int) (m : Nat) (hc : isChoice c m) : (restL c m).length + c.length = m := by
  have h1 := len_le_of_sub ((restL c m).map Int.toNat ++ c.map Int.toNat) (List.range m) ?_ ?_
  · have h2 := len_le_of_sub (List.range m) ((restL c m).map Int.toNat ++ c.map Int.toNat) List.nodup_range ?_
    · simp only [List.length_append, List.length_map, List.length_range] at h1 h2
      omega
    · intro x hx
      rw [List.mem_range] at hx
      rw [List.mem_append, List.mem_map, List.mem_map]
      by_cases e : (x : Int) ∈ c
      · exact .inr ⟨_, e, by omega⟩
      · exact .inl ⟨x, (mem_restL c m _).2 ⟨x, hx, rfl, e⟩, by omega⟩
  · have inj : ∀ L : List Int, L.Nodup → (∀ x ∈ L, 0 ≤ x) → (L.map Int.toNat).Nodup := by
      intro L hL h0
      rw [List.Nodup, List.pairwise_map]
      refine List.Pairwise.imp_of_mem ?_ hL
      intro a b ha hb hab e
      have := h0 a ha
      have := h0 b hb
      omega
    refine List.nodup_append.2 ⟨inj _ (choice_nodup _ _ (restL_choice c m)) (fun x hx => (choice_mem _ _ (restL_choice c m) x hx).1), inj _ (choice_nodup _ _ hc) (fun x hx => (choice_mem _ _ hc x hx).1), ?_⟩
    intro a ha b hb e
    obtain ⟨x, hx, rfl⟩ := List.mem_map.1 ha
    obtain ⟨y, hy, rfl⟩ := List.mem_map.1 hb
    obtain ⟨j, j1, rfl, j2⟩ := (mem_restL c m x).1 hx
    have := (choice_mem _ _ hc y hy).1
    exact j2 (by rw [show (j : Int) = y by omega]; exact hy)
  · intro x hx
    rw [List.mem_append, List.mem_map, List.mem_map] at hx
    rw [List.mem_range]
    rcases hx with ⟨y, hy, rfl⟩ | ⟨y, hy, rfl⟩
    · have := choice_mem _ _ (restL_choice c m) y hy
      omega
    · have := choice_mem _ _ hc y hy
      omega
theorem five_math (t f c : List Int) (n : Nat) (H : MapOk t f n) (hc : isChoice c ((edL f n).length : Int)) (P S V F : Nat) (hP : Cl n (Reach [t, flC f n c] n) P) (hS : Cl n (Reach [sgL t f n c] n) S) (hV : Cl n (Reach [t] n) V) (hF : Cl n (Reach [faces t f n] n) F) :
    ∃ g G : Nat, 2 * P + c.length = V + S + 2 * g ∧ V ≤ c.length + P ∧ g ≤ G ∧ 2 + (edL f n).length = V + F + 2 * G := by
  obtain ⟨hn, h1, ht, hti, hf, hfl, hcon⟩ := id H
  obtain ⟨g, _, G1⟩ := gen_run t f n H c [] 0 0 (gen_nil t f n H) (choice_nodup _ _ hc) (fun x hx => by have := choice_mem _ _ hc x hx; exact ⟨this.1, this.2, by simp⟩)
  rw [List.nil_append, Nat.zero_add] at G1
  obtain ⟨u1, u2⟩ := gen_uniq G1 hP hS hV
  obtain ⟨G, l2, G2⟩ := gen_run t f n H (restL c (edL f n).length) c c.length g G1 (choice_nodup _ _ (restL_choice _ _)) (fun x hx => by
    have := choice_mem _ _ (restL_choice c (edL f n).length) x hx
    obtain ⟨j, _, rfl, j2⟩ := (mem_restL _ _ x).1 hx
    exact ⟨this.1, this.2, j2⟩)
  have ea : flC f n (c ++ restL c (edL f n).length) = f := flC_all f n hf hfl _ fun j hj => by
    rw [List.mem_append]
    by_cases e : (j : Int) ∈ c
    · exact .inl e
    · exact .inr ((mem_restL _ _ _).2 ⟨j, hj, rfl, e⟩)
  have cnt := rest_count c (edL f n).length hc
  have one : Cl n (Reach [t, flC f n (c ++ restL c (edL f n).length)] n) 1 := by
    rw [ea]
    refine ⟨[0], by simp, fun x => ?_, rfl⟩
    rw [List.mem_singleton]
    constructor
    · rintro rfl
      exact ⟨by omega, fun i hi _ => by omega⟩
    · rintro ⟨hx, hl⟩
      by_cases e : x = 0
      · exact e
      · exact absurd (hcon 0 x (by omega) hx) (hl 0 (by omega))
  obtain ⟨v1, v2⟩ := gen_uniq G2 one (by rw [sgL_all t f n _ ea]; exact hF) hV
  exact ⟨g, G, u1, u2, l2, by omega⟩
theorem perm_of (l : List Int) (n : Nat) (h1 : 1 ≤ n) (h12 : n ≤ 12) (hl : inR n l) (hi : injR n l) : isPerm l := by
  refine ⟨by rw [hl.1]; exact h1, by rw [hl.1]; exact h12, fun i hi' => ?_⟩
  rw [hl.1] at hi'
  have := hl.2 i hi'
  refine ⟨this.1, by rw [hl.1]; exact this.2, fun k hk e => ?_⟩
  have := hi k i (by omega) hi' e
  omega
theorem flip_inj (f : List Int) (n : Nat) (hf : inR n f) (hfl : ∀ i : Nat, i < n → flipAt f i) : injR n f := by
  intro i j hi hj e
  have h1 := (hfl i hi).2
  rw [e, (hfl j hj).2] at h1
  omega
theorem isMap_of {t f : List Int} {n : Nat} (H : MapOk t f n) : isMap t f := by
  obtain ⟨hn, h1, ht, hti, hf, hfl, hcon⟩ := H
  refine ⟨perm_of t n h1 hn ht hti, perm_of f n h1 hn hf (flip_inj f n hf hfl), by rw [ht.1, hf.1], ?_, ?_⟩
  · rw [hf.1]; exact hfl
  · rw [hf.1]; exact hcon
theorem faces_inR (t f : List Int) (n : Nat) (ht : inR n t) (hf : inR n f) : inR n (faces t f n) := by
  refine ⟨faces_len t f n, fun i hi => ?_⟩
  rw [faces_rd t f n i hi]
  have h1 := hf.2 i hi
  have h2 := ht.2 (rd f i).toNat (by omega)
  rwa [show (((rd f i).toNat : Nat) : Int) = rd f i by omega] at h2
theorem faces_inj (t f : List Int) (n : Nat) (ht : inR n t) (hti : injR n t) (hf : inR n f) (hfl : ∀ i : Nat, i < n → flipAt f i) : injR n (faces t f n) := by
  intro i j hi hj e
  rw [faces_rd t f n i hi, faces_rd t f n j hj] at e
  have h1 := hf.2 i hi
  have h2 := hf.2 j hj
  have e1 : (((rd f i).toNat : Nat) : Int) = rd f i := by omega
  have e2 : (((rd f j).toNat : Nat) : Int) = rd f j := by omega
  rw [← e1, ← e2] at e
  have := hti _ _ (by omega) (by omega) e
  exact flip_inj f n hf hfl i j hi hj (by omega)
theorem dual_ok {t f : List Int} {n : Nat} (H : MapOk t f n) : MapOk (faces t f n) f n := by
  obtain ⟨hn, h1, ht, hti, hf, hfl, hcon⟩ := H
  refine ⟨hn, h1, faces_inR t f n ht hf, faces_inj t f n ht hti hf hfl, hf, hfl, fun i j hi hj S hS => hcon i j hi hj S fun p hp k hk => ?_⟩
  have sf := hS f (by simp)
  rcases List.mem_cons.1 hp with rfl | hp
  · have fr := hf.2 k hk
    have h2 := hS (faces p f n) (by simp) (rd f k).toNat (by omega)
    have e1 : (((rd f k).toNat : Nat) : Int) = rd f k := by omega
    rw [faces_rd p f n _ (by omega), e1, (hfl k hk).2] at h2
    exact (sf k hk).trans h2
  · rw [List.mem_singleton.1 hp]
    exact sf k hk
theorem chB_rest (f : List Int) (n : Nat) (hf : inR n f) (hfl : ∀ i : Nat, i < n → flipAt f i) (c : List Int) (d : Nat) (hd : d < n) : chB f n (restL c (edL f n).length) (d : Int) = !chB f n c (d : Int) := by
  obtain ⟨j, j1, j2⟩ := geL_lt f n hf hfl d hd
  unfold chB
  rw [j2]
  by_cases e : (j : Int) ∈ c
  · rw [decide_eq_true e]
    exact decide_eq_false fun z => by
      obtain ⟨q, _, e1, e2⟩ := (mem_restL _ _ _).1 z
      exact e2 (e1 ▸ e)
  · rw [decide_eq_false e]
    exact decide_eq_true ((mem_restL _ _ _).2 ⟨j, j1, rfl, e⟩)
theorem dual_sg (t f : List Int) (n : Nat) (H : MapOk t f n) (c : List Int) : sgL (faces t f n) f n (restL c (edL f n).length) = sgL t f n c := by
  obtain ⟨hn, h1, ht, hti, hf, hfl, hcon⟩ := H
  refine list_ext _ _ (by rw [sgL_len, sgL_len]) fun d hd => ?_
  rw [sgL_len] at hd
  have fr := hf.2 d hd
  have e1 : (((rd f d).toNat : Nat) : Int) = rd f d := by omega
  rw [sgL_rd _ f n _ d hd, sgL_rd t f n c d hd, flC_rd f n _ d hd, flC_rd f n c d hd, chB_rest f n hf hfl c d hd]
  cases chB f n c (d : Int) with
  | true =>
    simp only [Bool.not_true, Bool.false_eq_true, if_false, if_true]
    rw [faces_rd t f n d hd]
  | false =>
    simp only [Bool.not_false, Bool.false_eq_true, if_false, if_true]
    rw [← e1, faces_rd t f n _ (by omega), e1, (hfl d hd).2]
def leadsBack (n : Nat) (b t : List Int) : Prop := b.length = n ∧ ∀ i : Nat, i < n → rd b (rd t i) = i
theorem surj (t : List Int) (n : Nat) (ht : inR n t) (hti : injR n t) (i : Nat) (hi : i < n) : ∃ j : Nat, j < n ∧ rd t j = i := by
  obtain ⟨k, _, h2⟩ := itr_back t n ht hti i (by omega)
  have hin := itr_in t n ht k i (by omega)
  refine ⟨(itr t k i).toNat, by omega, ?_⟩
  rw [show (((itr t k i).toNat : Nat) : Int) = itr t k i by omega]
  have := itr_add t k 1 (i : Int)
  rw [h2] at this
  exact this.symm
theorem back_inR (b t : List Int) (n : Nat) (ht : inR n t) (hti : injR n t) (hb : leadsBack n b t) : inR n b := by
  refine ⟨hb.1, fun i hi => ?_⟩
  obtain ⟨j, hj, e⟩ := surj t n ht hti i hi
  rw [← e, hb.2 j hj]
  omega
theorem back_inj (b t : List Int) (n : Nat) (ht : inR n t) (hti : injR n t) (hb : leadsBack n b t) : injR n b := by
  intro i j hi hj e
  obtain ⟨i', hi', ei⟩ := surj t n ht hti i hi
  obtain ⟨j', hj', ej⟩ := surj t n ht hti j hj
  rw [← ei, ← ej, hb.2 i' hi', hb.2 j' hj'] at e
  have : i' = j' := by omega
  subst this
  omega
theorem back_closed (b t : List Int) (n : Nat) (ht : inR n t) (hti : injR n t) (hb : leadsBack n b t) (S : Nat → Prop) : (∀ k, k < n → (S k ↔ S (rd b k).toNat)) ↔ (∀ k, k < n → (S k ↔ S (rd t k).toNat)) := by
  constructor
  · intro h k hk
    have tr := ht.2 k hk
    have := h (rd t k).toNat (by omega)
    rw [show (((rd t k).toNat : Nat) : Int) = rd t k by omega, hb.2 k hk, Int.toNat_natCast] at this
    exact this.symm
  · intro h k hk
    obtain ⟨j, hj, e⟩ := surj t n ht hti k hk
    have := h j hj
    rw [e, Int.toNat_natCast] at this
    rw [← e, hb.2 j hj, Int.toNat_natCast]
    exact this.symm
theorem back_reach1 (b t : List Int) (n : Nat) (ht : inR n t) (hti : injR n t) (hb : leadsBack n b t) (x y : Nat) : Reach [b] n x y ↔ Reach [t] n x y := by
  have e : ∀ S, closedL [b] n S ↔ closedL [t] n S := by
    intro S
    constructor
    · intro h p hp
      rw [List.mem_singleton.1 hp]
      exact (back_closed b t n ht hti hb S).1 (h b (by simp))
    · intro h p hp
      rw [List.mem_singleton.1 hp]
      exact (back_closed b t n ht hti hb S).2 (h t (by simp))
  exact ⟨fun h S hS => h S ((e S).2 hS), fun h S hS => h S ((e S).1 hS)⟩
theorem back_reach2 (b t F : List Int) (n : Nat) (ht : inR n t) (hti : injR n t) (hb : leadsBack n b t) (x y : Nat) : Reach [b, F] n x y ↔ Reach [t, F] n x y := by
  have e : ∀ S, closedL [b, F] n S ↔ closedL [t, F] n S := by
    intro S
    constructor
    · intro h p hp
      rcases List.mem_cons.1 hp with rfl | hp
      · exact (back_closed b p n ht hti hb S).1 (h b (by simp))
      · exact h p (by simp [List.mem_singleton.1 hp])
    · intro h p hp
      rcases List.mem_cons.1 hp with rfl | hp
      · exact (back_closed p t n ht hti hb S).2 (h t (by simp))
      · exact h p (by simp [List.mem_singleton.1 hp])
  exact ⟨fun h S hS => h S ((e S).2 hS), fun h S hS => h S ((e S).1 hS)⟩
theorem back_ok {b t f : List Int} {n : Nat} (H : MapOk t f n) (hb : leadsBack n b t) : MapOk b f n := by
  obtain ⟨hn, h1, ht, hti, hf, hfl, hcon⟩ := H
  exact ⟨hn, h1, back_inR b t n ht hti hb, back_inj b t n ht hti hb, hf, hfl, fun i j hi hj => (back_reach2 b t f n ht hti hb i j).2 (hcon i j hi hj)⟩
theorem cyS_reps (p : List Int) (n : Nat) (hp : inR n p) (hi : injR n p) : ∀ i, i ≤ n → ∃ reps : List Nat, reps.length = (cyS p n i).2.length ∧ reps.Nodup ∧ (∀ j, j ∈ reps ↔ j < i ∧ lst (Reach [p] n) j) ∧ ∀ (q : Nat) (h : q < reps.length) (x : Nat), x < n → ((x : Int) ∈ rd_L1 (cyS p n i).2 q ↔ Reach [p] n reps[q] x)
  | 0, _ => ⟨[], by simp [cyS], List.nodup_nil, by simp, fun q h => by simp at h⟩
  | i + 1, hi' => by
    obtain ⟨reps, r1, r2, r3, r4⟩ := cyS_reps p n hp hi i (by omega)
    have seen := cyS_seen p n hp hi i (by omega) i (by omega)
    have l1 := cyS_len p n i
    simp only [cyS]
    by_cases e : (cyS p n i).1.getD i false = true
    · rw [cw_seen p (n + 1) _ _ _ (by rw [rdOf_nat _ _ (by omega), Int.toNat_natCast]; exact e)]
      rw [if_pos rfl]
      obtain ⟨j, hj, h⟩ := seen.1 e
      refine ⟨reps, r1, r2, fun q => ?_, r4⟩
      rw [r3]
      constructor
      · rintro ⟨a, b⟩; exact ⟨by omega, b⟩
      · rintro ⟨a, b⟩
        by_cases z : q = i
        · subst z; exact absurd h (b j hj)
        · exact ⟨by omega, b⟩
    · have e' : ¬ rdOf false (cyS p n i).1 (i : Int) = true := by rw [rdOf_nat _ _ (by omega), Int.toNat_natCast]; exact e
      have hl : lst (Reach [p] n) i := fun j hj h => e (seen.2 ⟨j, hj, h⟩)
      obtain ⟨w1, w2, w3, w4, w5, w6⟩ := cw_ends p n hp i (by omega) (fun x => x < n ∧ (cyS p n i).1.getD x false = true) (n + 1) (cyS p n i).1 [] i l1 (by omega) (by have := fresh_le (cyS p n i).1; omega)
        (fun y hy hsy => .inl (by
          have pr := hp.2 y hy
          obtain ⟨j, hj, h⟩ := (cyS_seen p n hp hi i (by omega) y hy).1 hsy
          exact (cyS_seen p n hp hi i (by omega) _ (by omega)).2 ⟨j, hj, h.trans (Reach.step (by simp) hy)⟩))
        (Reach.refl _ _ _) (fun y hy hsy => .inl ⟨hy, hsy⟩) (fun y hy => hy.2) (.inr rfl) (by simp) (fun z => absurd rfl z) (fun y hy hsy => .inl ⟨hy, hsy⟩)
      have hc := closed_of_fwd p n hp hi (fun y => (cw p (n + 1) (cyS p n i).1 [] i).1.getD y false = true) w1
      rw [if_neg (cw_new p n _ i e')]
      refine ⟨reps ++ [i], by rw [List.length_append, List.length_append, r1]; rfl, List.nodup_append.2 ⟨r2, by simp, fun a ha b hb z => ?_⟩, fun q => ?_, fun q hq x hx => ?_⟩
      · have := ((r3 a).1 ha).1
        rw [List.mem_singleton] at hb
        omega
      · rw [List.mem_append, List.mem_singleton, r3]
        constructor
        · rintro (⟨a, b⟩ | rfl)
          · exact ⟨by omega, b⟩
          · exact ⟨by omega, hl⟩
        · rintro ⟨a, b⟩
          by_cases z : q = i
          · exact .inr z
          · exact .inl ⟨by omega, b⟩
      · by_cases hq' : q < reps.length
        · rw [rdL_nth _ q (by simp; omega), List.getElem_append_left (by omega), List.getElem_append_left hq', ← rdL_nth _ q (by omega)]
          exact r4 q hq' x hx
        · have hq2 : q = reps.length := by simp at hq; omega
          subst hq2
          rw [rdL_nth _ _ (by simp; omega), List.getElem_append_right (by omega), List.getElem_append_right (Nat.le_refl _)]
          simp only [r1, Nat.sub_self, List.getElem_cons_zero]
          constructor
          · intro hm
            have := (w5 x hm).2.2
            rwa [Int.toNat_natCast] at this
          · intro h
            have z := (h _ hc).1 w4
            rcases w6 x hx z with ⟨_, z⟩ | z
            · obtain ⟨j, hj, hr⟩ := (cyS_seen p n hp hi i (by omega) x hx).1 z
              exact absurd (hr.trans h.symm) (hl j hj)
            · exact z
theorem fold_rd (v : Int) (n : Nat) : ∀ (l o : List Int), o.length = n → (∀ x ∈ l, 0 ≤ x ∧ x < n) → ∀ x : Nat, x < n → rd (l.foldl (fun o d => o.set d.toNat v) o) (x : Int) = if (x : Int) ∈ l then v else rd o (x : Int)
  | [], o, ho, hl, x, hx => by simp
  | y :: l, o, ho, hl, x, hx => by
    have hy := hl y (by simp)
    rw [List.foldl_cons, fold_rd v n l _ (by simpa using ho) (fun z hz => hl z (by simp [hz])) x hx]
    by_cases e : (x : Int) ∈ l
    · rw [if_pos e, if_pos (by simp [e])]
    · rw [if_neg e]
      by_cases e2 : y.toNat = x
      · subst e2
        rw [rd_set_self _ _ _ (by omega), if_pos]
        rw [show ((y.toNat : Nat) : Int) = y by omega]
        simp
      · rw [rd_set_ne _ _ _ _ e2, if_neg]
        rw [List.mem_cons]
        rintro (z | z)
        · omega
        · exact e z
theorem vt_rd (C : List (List Int)) (n : Nat) (hC : ∀ l ∈ C, (∀ x ∈ l, 0 ≤ x ∧ x < n) ∧ l.length ≤ n + 1) (x : Nat) (hx : x < n) (q : Nat) (hxq : (x : Int) ∈ rd_L1 C q) (hu : ∀ q', q' < C.length → (x : Int) ∈ rd_L1 C q' → q' = q) : ∀ Q, Q ≤ C.length → q < Q → rd (vt C n Q) (x : Int) = q
  | Q + 1, hQ, h => by
    simp only [vt]
    rw [fold_rd _ n _ _ (vt_len C n Q) (rdL_ok C _ hC Q (by omega)).1 x hx]
    by_cases e : (x : Int) ∈ rd_L1 C Q
    · rw [if_pos e, hu Q (by omega) e]
    · rw [if_neg e]
      have : q ≠ Q := by rintro rfl; exact e hxq
      exact vt_rd C n hC x hx q hxq hu Q (by omega) (by omega)
theorem nodup_at (l : List Nat) (h : l.Nodup) (i j : Nat) (hi : i < l.length) (hj : j < l.length) (e : l[i] = l[j]) : i = j := by
  rw [List.Nodup, List.pairwise_iff_getElem] at h
  by_cases a : i < j
  · exact absurd e (h i j hi hj a)
  · by_cases b : j < i
    · exact absurd e.symm (h j i hj hi b)
    · omega
theorem vtx_same (t : List Int) (n : Nat) (ht : inR n t) (hti : injR n t) (x y : Nat) (hx : x < n) (hy : y < n) : rd (vtx t n) (x : Int) = rd (vtx t n) (y : Int) ↔ Reach [t] n x y := by
  obtain ⟨reps, r1, r2, r3, r4⟩ := cyS_reps t n ht hti n (Nat.le_refl _)
  have at_ : ∀ x, x < n → ∃ (q : Nat) (h : q < reps.length), Reach [t] n reps[q] x ∧ rd (vtx t n) (x : Int) = q := by
    intro x hx
    obtain ⟨j, j1, j2, j3⟩ := lst_ex (Reach [t] n) (fun x => Reach.refl _ _ x) (fun _ _ h => h.symm) (fun _ _ _ h h' => h.trans h') x
    obtain ⟨q, hq, e⟩ := List.getElem_of_mem ((r3 j).2 ⟨by omega, j2⟩)
    refine ⟨q, hq, by rw [e]; exact j3, ?_⟩
    refine vt_rd _ n (cyS_ok t n ht n (Nat.le_refl _)) x hx q ((r4 q hq x hx).2 (by rw [e]; exact j3)) (fun q' hq' hm => ?_) _ (Nat.le_refl _) (by omega)
    have hq2 : q' < reps.length := by omega
    have hr := (r4 q' hq2 x hx).1 hm
    have ll := ((r3 reps[q']).1 (List.getElem_mem hq2)).2
    have := lst_uniq _ (fun _ _ h => h.symm) _ _ ll j2 (hr.trans j3.symm)
    rw [← e] at this
    exact nodup_at reps r2 _ _ hq2 hq this
  obtain ⟨q, hq, a1, a2⟩ := at_ x hx
  obtain ⟨q', hq', b1, b2⟩ := at_ y hy
  rw [a2, b2]
  constructor
  · intro e
    have : q = q' := by omega
    subst this
    exact a1.symm.trans b1
  · intro h
    have l1 := ((r3 reps[q]).1 (List.getElem_mem hq)).2
    have l2 := ((r3 reps[q']).1 (List.getElem_mem hq')).2
    have := lst_uniq _ (fun _ _ h => h.symm) _ _ l1 l2 ((a1.trans h).trans b1.symm)
    rw [nodup_at reps r2 _ _ hq hq' this]
theorem vt_range (C : List (List Int)) (n : Nat) (hC : ∀ l ∈ C, (∀ x ∈ l, 0 ≤ x ∧ x < n) ∧ l.length ≤ n + 1) (x : Nat) (hx : x < n) : ∀ Q, Q ≤ C.length → 0 ≤ rd (vt C n Q) (x : Int) ∧ (rd (vt C n Q) (x : Int) < Q ∨ rd (vt C n Q) (x : Int) = 0)
  | 0, _ => by
    have : rd (vt C n 0) (x : Int) = 0 := by
      simp only [vt]
      rw [rd_lt _ _ (by simpa using hx)]
      simp
    omega
  | Q + 1, hQ => by
    have ih := vt_range C n hC x hx Q (by omega)
    simp only [vt]
    rw [fold_rd _ n _ _ (vt_len C n Q) (rdL_ok C _ hC Q (by omega)).1 x hx]
    split <;> omega
theorem cyS_next (p : List Int) (n i : Nat) (e : ¬ rdOf false (cyS p n i).1 (i : Int) = true) : (cyS p n (i + 1)).2.length = (cyS p n i).2.length + 1 := by
  simp only [cyS]
  rw [if_neg (cw_new p n _ i e)]
  simp
theorem cyS_one (p : List Int) (n : Nat) (h1 : 1 ≤ n) : ∀ i, 1 ≤ i → 1 ≤ (cyS p n i).2.length
  | 1, _ => by
    have this : ¬ rdOf false (cyS p n 0).1 ((0 : Nat) : Int) = true := by
      show ¬ rdOf false (List.replicate n false) ((0 : Nat) : Int) = true
      rw [rdOf_nat _ _ (by omega), Int.toNat_natCast, List.getD_eq_getElem?_getD, List.getElem?_replicate, if_pos (show 0 < n by omega)]
      simp
    have h := cyS_next p n 0 this
    show 1 ≤ (cyS p n (0 + 1)).2.length
    omega
  | i + 2, _ => by
    have ih := cyS_one p n h1 (i + 1) (by omega)
    rw [cyS]
    simp only
    split
    · exact ih
    · simp
theorem vtx_len (t : List Int) (n : Nat) : (vtx t n).length = n := vt_len _ n _
theorem vtx_range (t : List Int) (n : Nat) (h1 : 1 ≤ n) (ht : inR n t) (x : Nat) (hx : x < n) : 0 ≤ rd (vtx t n) (x : Int) ∧ rd (vtx t n) (x : Int) < ((cyS t n n).2.length : Int) := by
  have := vt_range _ n (cyS_ok t n ht n (Nat.le_refl _)) x hx (cyS t n n).2.length (Nat.le_refl _)
  have h0 := cyS_one t n h1 n h1
  unfold vtx
  omega
def ctv (A f : List Int) (v j : Int) (e : Nat) : Int := if rd A (e : Int) = v ∧ ¬ rd A (rd f (e : Int)) = v then (if j = v then 1 else if j = rd A (rd f (e : Int)) then -1 else 0) else 0
def SS (A f : List Int) (d : Nat) (v j : Int) : Int := sm d (ctv A f v j)
theorem ctv_small (A f : List Int) (v j : Int) (e : Nat) : -1 ≤ ctv A f v j e ∧ ctv A f v j e ≤ 1 := by
  unfold ctv
  split
  · split
    · omega
    · split <;> omega
  · omega
theorem SS_small (A f : List Int) (v j : Int) : ∀ d : Nat, -(d : Int) ≤ SS A f d v j ∧ SS A f d v j ≤ d
  | 0 => by simp [SS, sm]
  | d + 1 => by
    have ih := SS_small A f v j d
    have h := ctv_small A f v j d
    simp only [SS, sm] at ih ⊢
    omega
def rowS (A f : List Int) (o m d : Nat) (v : Int) : List Int := (List.range m).map fun (j : Nat) => SS A f d v ((o + j : Nat) : Int)
theorem rowS_len (A f : List Int) (o m d : Nat) (v : Int) : (rowS A f o m d v).length = m := by simp [rowS]
theorem rowS_rd (A f : List Int) (o m d : Nat) (v : Int) (j : Nat) (h : j < m) : rd (rowS A f o m d v) (j : Int) = SS A f d v ((o + j : Nat) : Int) := by
  rw [rd_lt _ _ (by rw [rowS_len]; exact h)]
  simp [rowS]
theorem rowS_zero (A f : List Int) (o m : Nat) (v : Int) : rowS A f o m 0 v = List.replicate m 0 := by
  refine list_ext _ _ (by simp [rowS_len]) fun j hj => ?_
  rw [rowS_len] at hj
  rw [rowS_rd _ _ _ _ _ _ j hj, rd_lt _ _ (by simpa using hj)]
  simp [SS, sm]
theorem rowS_no (A f : List Int) (o m d : Nat) (v : Int) (h : ¬ (rd A (d : Int) = v ∧ ¬ rd A (rd f (d : Int)) = v)) : rowS A f o m (d + 1) v = rowS A f o m d v := by
  refine list_ext _ _ (by simp [rowS_len]) fun j hj => ?_
  rw [rowS_len] at hj
  rw [rowS_rd _ _ _ _ _ _ j hj, rowS_rd _ _ _ _ _ _ j hj]
  simp only [SS, sm]
  rw [show ctv A f v ((o + j : Nat) : Int) d = 0 by unfold ctv; rw [if_neg h]]
  omega
theorem rowS_one (A f : List Int) (o m d a : Nat) (ha : a < m) (h1 : rd A (d : Int) = ((o + a : Nat) : Int)) (hx : ¬ rd A (rd f (d : Int)) = ((o + a : Nat) : Int)) (hout : ∀ b : Nat, b < m → rd A (rd f (d : Int)) ≠ ((o + b : Nat) : Int)) :
    (rowS A f o m d ((o + a : Nat) : Int)).set a (SS A f d ((o + a : Nat) : Int) ((o + a : Nat) : Int) + 1) = rowS A f o m (d + 1) ((o + a : Nat) : Int) := by
  refine list_ext _ _ (by simp [rowS_len]) fun j hj => ?_
  have hj' : j < m := by simpa [rowS_len] using hj
  rw [rowS_rd _ _ _ _ _ _ j hj']
  simp only [SS, sm]
  by_cases e : a = j
  · subst e
    rw [rd_set_self _ _ _ (by rw [rowS_len]; exact ha)]
    have : ctv A f ((o + a : Nat) : Int) ((o + a : Nat) : Int) d = 1 := by
      unfold ctv
      rw [if_pos ⟨h1, hx⟩, if_pos rfl]
    rw [this]
  · rw [rd_set_ne _ _ _ _ e, rowS_rd _ _ _ _ _ _ j hj']
    have : ctv A f ((o + a : Nat) : Int) ((o + j : Nat) : Int) d = 0 := by
      unfold ctv
      rw [if_pos ⟨h1, hx⟩, if_neg (by omega), if_neg (fun z => hout j hj' z.symm)]
    rw [this]
    simp only [SS]
    omega
theorem rowS_two (A f : List Int) (o m d a b : Nat) (ha : a < m) (hb : b < m) (hab : a ≠ b) (h1 : rd A (d : Int) = ((o + a : Nat) : Int)) (h2 : rd A (rd f (d : Int)) = ((o + b : Nat) : Int)) :
    ((rowS A f o m d ((o + a : Nat) : Int)).set a (SS A f d ((o + a : Nat) : Int) ((o + a : Nat) : Int) + 1)).set b (SS A f d ((o + a : Nat) : Int) ((o + b : Nat) : Int) - 1) = rowS A f o m (d + 1) ((o + a : Nat) : Int) := by
  have hx : ¬ rd A (rd f (d : Int)) = ((o + a : Nat) : Int) := by omega
  refine list_ext _ _ (by simp [rowS_len]) fun j hj => ?_
  have hj' : j < m := by simpa [rowS_len] using hj
  rw [rowS_rd _ _ _ _ _ _ j hj']
  simp only [SS, sm]
  by_cases e2 : b = j
  · subst e2
    rw [rd_set_self _ _ _ (by simp [rowS_len]; exact hb)]
    have : ctv A f ((o + a : Nat) : Int) ((o + b : Nat) : Int) d = -1 := by
      unfold ctv
      rw [if_pos ⟨h1, hx⟩, if_neg (by omega), if_pos h2.symm]
    rw [this]
    omega
  · rw [rd_set_ne _ _ _ _ e2]
    by_cases e : a = j
    · subst e
      rw [rd_set_self _ _ _ (by rw [rowS_len]; exact ha)]
      have : ctv A f ((o + a : Nat) : Int) ((o + a : Nat) : Int) d = 1 := by
        unfold ctv
        rw [if_pos ⟨h1, hx⟩, if_pos rfl]
      rw [this]
    · rw [rd_set_ne _ _ _ _ e, rowS_rd _ _ _ _ _ _ j hj']
      have : ctv A f ((o + a : Nat) : Int) ((o + j : Nat) : Int) d = 0 := by
        unfold ctv
        rw [if_pos ⟨h1, hx⟩, if_neg (by omega), if_neg (by omega)]
      rw [this]
      simp only [SS]
      omega
def Num (A f : List Int) (n nv : Nat) : Prop := n ≤ 12 ∧ 1 ≤ nv ∧ nv ≤ n ∧ inR n f ∧ A.length = n ∧ ∀ i : Nat, i < n → 0 ≤ rd A (i : Int) ∧ rd A (i : Int) < nv
theorem Num.far {A f : List Int} {n nv : Nat} (H : Num A f n nv) (i : Nat) (hi : i < n) : 0 ≤ rd A (rd f (i : Int)) ∧ rd A (rd f (i : Int)) < nv := by
  have fr := H.2.2.2.1.2 i hi
  have := H.2.2.2.2.2 (rd f i).toNat (by omega)
  rwa [show (((rd f i).toNat : Nat) : Int) = rd f i by omega] at this
def tabT (A f : List Int) (N d : Nat) : List (List Int) := (List.range N).map fun (i : Nat) => rowS A f 1 N d ((1 + i : Nat) : Int)
theorem tabT_len (A f : List Int) (N d : Nat) : (tabT A f N d).length = N := by simp [tabT]
theorem tabT_row (A f : List Int) (N d i : Nat) (h : i < N) : rd_L1 (tabT A f N d) (i : Int) = rowS A f 1 N d ((1 + i : Nat) : Int) := by
  rw [ll_rd _ i (by rw [tabT_len]; exact h)]
  simp [tabT]
theorem ll_ext (a b : List (List Int)) (h : a.length = b.length) (hr : ∀ i : Nat, i < a.length → rd_L1 a (i : Int) = rd_L1 b (i : Int)) : a = b := by
  refine List.ext_getElem h fun i h1 h2 => ?_
  have := hr i h1
  rwa [ll_rd a i h1, ll_rd b i h2] at this
theorem ll_set_self (L : List (List Int)) (i : Nat) (x : List Int) (h : i < L.length) : rd_L1 (L.set i x) (i : Int) = x := by
  rw [ll_rd _ _ (by simpa using h), List.getElem_set_self]
theorem ll_set_ne (L : List (List Int)) (i j : Nat) (x : List Int) (h : i ≠ j) (hj : j < L.length) : rd_L1 (L.set i x) (j : Int) = rd_L1 L (j : Int) := by
  rw [ll_rd _ _ (by simpa using hj), ll_rd L j hj, List.getElem_set_ne h]
theorem tabT_set (A f : List Int) (N d a : Nat) (ha : a < N) (h1 : rd A (d : Int) = ((1 + a : Nat) : Int)) (x : List Int) (hx : x = rowS A f 1 N (d + 1) ((1 + a : Nat) : Int)) : (tabT A f N d).set a x = tabT A f N (d + 1) := by
  refine ll_ext _ _ (by simp [tabT_len]) fun i hi => ?_
  have hi' : i < N := by simpa [tabT_len] using hi
  rw [tabT_row A f N (d + 1) i hi']
  by_cases e : a = i
  · subst e
    rw [ll_set_self _ _ _ (by rw [tabT_len]; exact ha), hx]
  · rw [ll_set_ne _ _ _ _ e (by rw [tabT_len]; exact hi'), tabT_row A f N d i hi', rowS_no A f 1 N d _ (fun z => by omega)]
theorem tabT_no (A f : List Int) (N d : Nat) (h : ∀ i : Nat, i < N → ¬ (rd A (d : Int) = ((1 + i : Nat) : Int) ∧ ¬ rd A (rd f (d : Int)) = ((1 + i : Nat) : Int))) : tabT A f N (d + 1) = tabT A f N d := by
  refine ll_ext _ _ (by simp [tabT_len]) fun i hi => ?_
  rw [tabT_len] at hi
  rw [tabT_row A f N (d + 1) i hi, tabT_row A f N d i hi, rowS_no A f 1 N d _ (h i hi)]
theorem im_l1 (A f : List Int) (n N : Nat) (H : Num A f n (N + 1)) (r : Int) (h : Ev (fun k => impl_determinant.f k (tabT A f N n)) r) : ∀ (e d : Nat), n - d = e → d ≤ n → Ev (fun k => impl_RibbonMatrix.l1 k A (tabT A f N d) f n d) r
  | 0, d, he, hd => by
    have : d = n := by omega
    subst this
    refine Ev.s ?_
    simp only [impl_RibbonMatrix.l1, show ¬ (d : Int) < (d : Int) by omega, if_false]
    exact Ev.bind h (Ev.const rfl)
  | e + 1, d, he, hd => by
    obtain ⟨hn, h1, h2, hf, hA, hr⟩ := id H
    have ih := im_l1 A f n N H r h e (d + 1) (by omega) (by omega)
    have fr := hf.2 d (by omega)
    have ra := hr d (by omega)
    have fa := H.far d (by omega)
    have wd : d < 4611686018427387904 := by omega
    have w1 : -9223372036854775808 ≤ rd A (d : Int) - 1 ∧ rd A (d : Int) - 1 < 9223372036854775808 := by omega
    have w2 : -9223372036854775808 ≤ rd A (rd f (d : Int)) - 1 ∧ rd A (rd f (d : Int)) - 1 < 9223372036854775808 := by omega
    refine Ev.s ?_
    simp only [impl_RibbonMatrix.l1, hf.1, hA, show (d : Int) < (n : Int) by omega, show (0 : Int) ≤ (d : Int) by omega, fr.1, fr.2, if_true, w64r w1, w64r w2]
    by_cases c0 : rd A (d : Int) - 1 ≥ 0
    · simp only [c0, if_true]
      obtain ⟨a, ha⟩ : ∃ a : Nat, rd A (d : Int) = ((1 + a : Nat) : Int) := ⟨(rd A (d : Int) - 1).toNat, by omega⟩
      have ea : rd A (d : Int) - 1 = (a : Int) := by omega
      rw [ea]
      by_cases c1 : rd A (rd f (d : Int)) = rd A (d : Int)
      · have : (((a : Int)) != (rd A (rd f (d : Int)) - 1)) = false := by
          rw [bne_eq_false_iff_eq]; omega
        rw [this]
        refine Ev.s ?_
        simp only [impl_RibbonMatrix.j2, Bool.false_eq_true, if_false, w64n wd]
        rw [tabT_no A f N d (fun i hi z => z.2 (by omega))] at ih
        exact ih
      · have : (((a : Int)) != (rd A (rd f (d : Int)) - 1)) = true := by
          rw [bne_iff_ne]; omega
        rw [this]
        have tr := tabT_row A f N d a (by omega)
        have rr := rowS_rd A f 1 N d ((1 + a : Nat) : Int) a (by omega)
        have sv := SS_small A f ((1 + a : Nat) : Int) ((1 + a : Nat) : Int) d
        have wv : -9223372036854775808 ≤ SS A f d ((1 + a : Nat) : Int) ((1 + a : Nat) : Int) + 1 ∧ SS A f d ((1 + a : Nat) : Int) ((1 + a : Nat) : Int) + 1 < 9223372036854775808 := by omega
        refine Ev.s ?_
        simp only [impl_RibbonMatrix.j2, if_true, show (0 : Int) ≤ (a : Int) by omega, tabT_len, show (a : Int) < (N : Int) by omega, tr, rowS_len, rr, w64r wv, Option.bind_some, Int.toNat_natCast, w64n wd]
        by_cases c2 : rd A (rd f (d : Int)) - 1 ≥ 0
        · obtain ⟨b, hb⟩ : ∃ b : Nat, rd A (rd f (d : Int)) = ((1 + b : Nat) : Int) := ⟨(rd A (rd f (d : Int)) - 1).toNat, by omega⟩
          have eb : rd A (rd f (d : Int)) - 1 = (b : Int) := by omega
          have two := rowS_two A f 1 N d a b (by omega) (by omega) (by omega) ha hb
          have rb := rowS_rd A f 1 N d ((1 + a : Nat) : Int) b (by omega)
          have sb := SS_small A f ((1 + a : Nat) : Int) ((1 + b : Nat) : Int) d
          have wb : -9223372036854775808 ≤ SS A f d ((1 + a : Nat) : Int) ((1 + b : Nat) : Int) - 1 ∧ SS A f d ((1 + a : Nat) : Int) ((1 + b : Nat) : Int) - 1 < 9223372036854775808 := by omega
          have ls := ll_set_self (tabT A f N d) a ((rowS A f 1 N d ((1 + a : Nat) : Int)).set a (SS A f d ((1 + a : Nat) : Int) ((1 + a : Nat) : Int) + 1)) (by rw [tabT_len]; omega)
          have rset : rd ((rowS A f 1 N d ((1 + a : Nat) : Int)).set a (SS A f d ((1 + a : Nat) : Int) ((1 + a : Nat) : Int) + 1)) (b : Int) = SS A f d ((1 + a : Nat) : Int) ((1 + b : Nat) : Int) := by
            rw [rd_set_ne _ _ _ _ (by omega), rb]
          rw [eb] at c2 ⊢
          simp only [c2, if_true, show (0 : Int) ≤ (b : Int) by omega, ls, List.length_set, rowS_len, show (b : Int) < (N : Int) by omega, rset, w64r wb, Int.toNat_natCast]
          rw [two, List.set_set, tabT_set A f N d a (by omega) ha _ rfl]
          exact ih
        · simp only [c2, if_false]
          rw [rowS_one A f 1 N d a (by omega) ha (by omega) (fun b hb => by omega), tabT_set A f N d a (by omega) ha _ rfl]
          exact ih
    · simp only [c0, if_false]
      refine Ev.s ?_
      simp only [impl_RibbonMatrix.j2, Bool.false_eq_true, if_false, w64n wd]
      rw [tabT_no A f N d (fun i hi z => by omega)] at ih
      exact ih
def tabM (N k : Nat) : List (List Int) := (List.range N).map fun (i : Nat) => if i < k then List.replicate N 0 else []
theorem tabM_len (N k : Nat) : (tabM N k).length = N := by simp [tabM]
theorem tabM_row (N k i : Nat) (h : i < N) : rd_L1 (tabM N k) (i : Int) = if i < k then List.replicate N 0 else [] := by
  rw [ll_rd _ i (by rw [tabM_len]; exact h)]
  simp [tabM]
theorem im_l0 (t A f : List Int) (n N : Nat) (H : Num A f n (N + 1)) (r : Int) (h : Ev (fun k => impl_RibbonMatrix.l1 k A (tabT A f N 0) f n 0) r) : ∀ (e i : Nat), N - i = e → i ≤ N → Ev (fun k => impl_RibbonMatrix.l0 k A N (tabM N i) N i t f) r
  | 0, i, he, hi => by
    obtain ⟨hn, h1, h2, hf, hA, hr⟩ := id H
    have : i = N := by omega
    subst this
    have e : tabM i i = tabT A f i 0 := by
      refine ll_ext _ _ (by rw [tabM_len, tabT_len]) fun q hq => ?_
      rw [tabM_len] at hq
      rw [tabM_row i i q hq, if_pos hq, tabT_row A f i 0 q hq, rowS_zero]
    refine Ev.s ?_
    simp only [impl_RibbonMatrix.l0, show ¬ (i : Int) < (i : Int) by omega, if_false, hf.1]
    rw [e]
    exact h
  | e + 1, i, he, hi => by
    obtain ⟨hn, h1, h2, hf, hA, hr⟩ := id H
    have ih := im_l0 t A f n N H r h e (i + 1) (by omega) (by omega)
    have st : (tabM N i).set i (List.replicate N 0) = tabM N (i + 1) := by
      refine ll_ext _ _ (by simp [tabM_len]) fun q hq => ?_
      have hq' : q < N := by simpa [tabM_len] using hq
      rw [tabM_row N (i + 1) q hq']
      by_cases z : i = q
      · subst z
        rw [ll_set_self _ _ _ (by rw [tabM_len]; exact hq'), if_pos (by omega)]
      · rw [ll_set_ne _ _ _ _ z (by rw [tabM_len]; exact hq'), tabM_row N i q hq']
        by_cases y : q < i
        · rw [if_pos y, if_pos (by omega)]
        · rw [if_neg y, if_neg (by omega)]
    refine Ev.s ?_
    simp only [impl_RibbonMatrix.l0, show (i : Int) < (N : Int) by omega, show (0 : Int) ≤ (N : Int) by omega, Int.toNat_natCast, show N ≤ 35184372088832 by omega, show (0 : Int) ≤ (i : Int) by omega, tabM_len, if_true, w64n (show i < 4611686018427387904 by omega), st]
    exact ih
theorem skip_ne (i a : Nat) : skip i a ≠ i := by unfold skip; split <;> omega
theorem skip_inj (i a b : Nat) (h : skip i a = skip i b) : a = b := by
  unfold skip at h
  split at h <;> split at h <;> omega
theorem skip_pre (r i n : Nat) (hi : i < n + 1) (hr : r < n + 1) (h : i ≠ r) : ∃ i', i' < n ∧ skip r i' = i := by
  by_cases z : i < r
  · exact ⟨i, by omega, by unfold skip; rw [if_pos z]⟩
  · exact ⟨i - 1, by omega, by unfold skip; rw [if_neg (by omega)]; omega⟩
theorem sm_all (g : Nat → Int) (n : Nat) (h : ∀ i, i < n → g i = 0) : sm n g = 0 := by
  rw [sm_congr g (fun _ => 0) n h, sm_zero]
theorem sm_one (g : Nat → Int) (i : Nat) : ∀ n, i < n → (∀ r, r < n → r ≠ i → g r = 0) → sm n g = g i
  | n + 1, hi, h => by
    rw [sm]
    by_cases z : i = n
    · rw [sm_all g n fun r hr => h r (by omega) (by omega), z]; omega
    · rw [sm_one g i n (by omega) fun r hr hn => h r (by omega) hn, h n (by omega) (fun y => z y.symm)]; omega
theorem sm_two (g : Nat → Int) (i j : Nat) (hij : i < j) : ∀ n, j < n → (∀ r, r < n → r ≠ i → r ≠ j → g r = 0) → sm n g = g i + g j
  | n + 1, hj, h => by
    rw [sm]
    by_cases z : j = n
    · rw [sm_one g i n (by omega) fun r hr hn => h r (by omega) hn (by omega), z]
    · rw [sm_two g i j hij n (by omega) fun r hr h1 h2 => h r (by omega) h1 h2, h n (by omega) (by omega) (fun y => z y.symm)]; omega
theorem dC_add : ∀ (n i : Nat) (M N K : Nat → Nat → Int), i < n → (∀ b, b < n → M i b = N i b + K i b) → (∀ a b, a < n → b < n → a ≠ i → N a b = M a b ∧ K a b = M a b) → dC n M = dC n N + dC n K
  | n + 1, i, M, N, K, hi, h1, h2 => by
    simp only [dC]
    rw [sm_add]
    refine sm_congr _ _ _ fun r hr => ?_
    by_cases z : r = i
    · subst z
      have e1 : dC n (fun a b => N (skip r a) (b + 1)) = dC n (fun a b => M (skip r a) (b + 1)) := dC_congr n _ _ fun a b ha hb => (h2 _ _ (skip_lt r a n ha) (by omega) (skip_ne r a)).1
      have e2 : dC n (fun a b => K (skip r a) (b + 1)) = dC n (fun a b => M (skip r a) (b + 1)) := dC_congr n _ _ fun a b ha hb => (h2 _ _ (skip_lt r a n ha) (by omega) (skip_ne r a)).2
      rw [e1, e2, h1 0 (by omega), Int.mul_add, Int.add_mul]
    · obtain ⟨i', hi', e⟩ := skip_pre r i n hi hr (fun y => z y.symm)
      obtain ⟨e1, e2⟩ := h2 r 0 hr (by omega) z
      rw [e1, e2, dC_add n i' (fun a b => M (skip r a) (b + 1)) (fun a b => N (skip r a) (b + 1)) (fun a b => K (skip r a) (b + 1)) hi' (fun b hb => by
        show M (skip r i') (b + 1) = N (skip r i') (b + 1) + K (skip r i') (b + 1)
        rw [e]; exact h1 _ (by omega)) (fun a b ha hb hn => h2 _ _ (skip_lt r a n ha) (by omega) (fun y => hn (skip_inj r a i' (by rw [e]; exact y)))), Int.mul_add]
theorem dC_adj : ∀ (n i : Nat) (M : Nat → Nat → Int), i + 1 < n → (∀ b, b < n → M i b = M (i + 1) b) → dC n M = 0
  | n + 1, i, M, hi, h => by
    simp only [dC]
    rw [sm_two _ i (i + 1) (by omega) (n + 1) hi fun r hr h1 h2 => ?_]
    · have e : dC n (fun a b => M (skip (i + 1) a) (b + 1)) = dC n (fun a b => M (skip i a) (b + 1)) := dC_congr n _ _ fun a b ha hb => by
        unfold skip
        by_cases y : a < i
        · rw [if_pos y, if_pos (by omega)]
        · rw [if_neg y]
          by_cases w : a < i + 1
          · rw [if_pos w]
            have : a = i := by omega
            rw [this]
            exact h _ (by omega)
          · rw [if_neg w]
      rw [e, ← h 0 (by omega)]
      simp only [sgn]
      rw [Int.neg_mul, Int.neg_mul]
      omega
    · have : dC n (fun a b => M (skip r a) (b + 1)) = 0 := by
        by_cases y : r < i
        · refine dC_adj n (i - 1) _ (by omega) fun b hb => ?_
          show M (skip r (i - 1)) (b + 1) = M (skip r (i - 1 + 1)) (b + 1)
          unfold skip
          rw [if_neg (by omega), if_neg (by omega), show i - 1 + 1 = i by omega]
          exact h _ (by omega)
        · refine dC_adj n i _ (by omega) fun b hb => ?_
          show M (skip r i) (b + 1) = M (skip r (i + 1)) (b + 1)
          unfold skip
          rw [if_pos (by omega), if_pos (by omega)]
          exact h _ (by omega)
      rw [this, Int.mul_zero]
def rw2 (M : Nat → Nat → Int) (i : Nat) (u v : Nat → Int) : Nat → Nat → Int := fun a b => if a = i then u b else if a = i + 1 then v b else M a b
theorem dC_swap (n i : Nat) (M : Nat → Nat → Int) (hi : i + 1 < n) (u v : Nat → Int) : dC n (rw2 M i u v) = -dC n (rw2 M i v u) := by
  have h0 : dC n (rw2 M i (fun b => u b + v b) (fun b => u b + v b)) = 0 := dC_adj n i _ hi fun b hb => by
    unfold rw2
    rw [if_pos rfl, if_neg (by omega), if_pos rfl]
  have top : ∀ x : Nat → Int, dC n (rw2 M i (fun b => u b + v b) x) = dC n (rw2 M i u x) + dC n (rw2 M i v x) := fun x => dC_add n i _ _ _ (by omega) (fun b hb => by
    unfold rw2
    rw [if_pos rfl, if_pos rfl, if_pos rfl]) fun a b ha hb hn => by
    unfold rw2
    rw [if_neg hn, if_neg hn, if_neg hn]
    exact ⟨rfl, rfl⟩
  have bot : ∀ x : Nat → Int, dC n (rw2 M i x (fun b => u b + v b)) = dC n (rw2 M i x u) + dC n (rw2 M i x v) := fun x => dC_add n (i + 1) _ _ _ hi (fun b hb => by
    unfold rw2
    rw [if_neg (by omega), if_pos rfl, if_neg (by omega), if_pos rfl, if_neg (by omega), if_pos rfl]) fun a b ha hb hn => by
    unfold rw2
    rw [if_neg hn, if_neg hn, if_neg hn]
    exact ⟨rfl, rfl⟩
  have same : ∀ x : Nat → Int, dC n (rw2 M i x x) = 0 := fun x => dC_adj n i _ hi fun b hb => by
    unfold rw2
    rw [if_pos rfl, if_neg (by omega), if_pos rfl]
  rw [top, bot, bot, same, same] at h0
  omega
theorem dC_eq (n i : Nat) : ∀ (k : Nat) (M : Nat → Nat → Int), i < k → k < n → (∀ b, b < n → M i b = M k b) → dC n M = 0
  | 0, M, h1, h2, h => by omega
  | k + 1, M, h1, h2, h => by
    by_cases z : i = k
    · rw [z] at h
      exact dC_adj n k M h2 h
    · have e : dC n M = dC n (rw2 M k (M k) (M (k + 1))) := dC_congr n _ _ fun a b ha hb => by
        unfold rw2
        by_cases y : a = k
        · rw [if_pos y, y]
        · rw [if_neg y]
          by_cases w : a = k + 1
          · rw [if_pos w, w]
          · rw [if_neg w]
      rw [e, dC_swap n k M h2, dC_eq n i k _ (by omega) (by omega) fun b hb => ?_]
      · rfl
      · unfold rw2
        rw [if_neg z, if_neg (by omega), if_pos rfl]
        exact h b hb
theorem dC_id : ∀ (n : Nat) (M : Nat → Nat → Int), (∀ a b, a < n → b < n → M a b = if a = b then 1 else 0) → dC n M = 1
  | 0, M, h => rfl
  | n + 1, M, h => by
    rw [dC, sm_shift, sm_all _ n fun r hr => by rw [h (r + 1) 0 (by omega) (by omega), if_neg (by omega)]; simp]
    rw [h 0 0 (by omega) (by omega), if_pos rfl, dC_id n _ fun a b ha hb => ?_]
    · rfl
    · show M (skip 0 a) (b + 1) = _
      unfold skip
      rw [if_neg (by omega), h _ _ (by omega) (by omega)]
      by_cases z : a = b
      · rw [if_pos (by omega), if_pos z]
      · rw [if_neg (by omega), if_neg z]
theorem dC_turn : ∀ (n : Nat) (M : Nat → Nat → Int), dC n M = dR n (fun a b => M b a)
  | 0, M => rfl
  | n + 1, M => by
    simp only [dC, dR]
    refine sm_congr _ _ _ fun r hr => ?_
    rw [dC_turn n]
theorem dC_flip (n : Nat) (M : Nat → Nat → Int) : dC n M = dC n (fun a b => M b a) := by
  rw [dC_turn, (det_same n).1]
def setR (M : Nat → Nat → Int) (c : Nat) (v : Nat → Int) : Nat → Nat → Int := fun a b => if a = c then v b else M a b
theorem setR_self (n : Nat) (M : Nat → Nat → Int) (c : Nat) : dC n (setR M c (M c)) = dC n M := dC_congr n _ _ fun a b ha hb => by
  unfold setR
  by_cases z : a = c
  · rw [if_pos z, z]
  · rw [if_neg z]
theorem setR_add (n : Nat) (M : Nat → Nat → Int) (c : Nat) (hc : c < n) (u v w : Nat → Int) (h : ∀ b, b < n → w b = u b + v b) : dC n (setR M c w) = dC n (setR M c u) + dC n (setR M c v) :=
  dC_add n c _ _ _ hc (fun b hb => by
    unfold setR
    rw [if_pos rfl, if_pos rfl, if_pos rfl]
    exact h b hb) fun a b ha hb hn => by
    unfold setR
    rw [if_neg hn, if_neg hn, if_neg hn]
    exact ⟨rfl, rfl⟩
theorem setR_zero (n : Nat) (M : Nat → Nat → Int) (c : Nat) (hc : c < n) (v : Nat → Int) (h : ∀ b, b < n → v b = 0) : dC n (setR M c v) = 0 := by
  have := setR_add n M c hc v v v fun b hb => by rw [h b hb]; rfl
  omega
theorem setR_other (n : Nat) (M : Nat → Nat → Int) (c k : Nat) (hc : c < n) (hk : k < n) (h : k ≠ c) : dC n (setR M c (M k)) = 0 := by
  by_cases z : c < k
  · refine dC_eq n c k _ z hk fun b hb => ?_
    unfold setR
    rw [if_pos rfl, if_neg h]
  · refine dC_eq n k c _ (by omega) hc fun b hb => ?_
    unfold setR
    rw [if_neg h, if_pos rfl]
theorem dC_rows (n : Nat) (M : Nat → Nat → Int) (S : Nat → Bool) (c : Nat) (hc : c < n) (hS : S c = true) (h : ∀ b, b < n → sm n (fun a => if S a = true then M a b else 0) = 0) : dC n M = 0 := by
  have key : ∀ m, m ≤ n → dC n (setR M c fun b => sm m (fun a => if S a = true then M a b else 0)) = if c < m then dC n M else 0 := by
    intro m
    induction m with
    | zero =>
      intro _
      rw [if_neg (by omega)]
      exact setR_zero n M c hc _ fun b _ => rfl
    | succ m ih =>
      intro hm
      rw [setR_add n M c hc (fun b => sm m (fun a => if S a = true then M a b else 0)) (fun b => if S m = true then M m b else 0) (fun b => sm (m + 1) (fun a => if S a = true then M a b else 0)) fun b _ => rfl, ih (by omega)]
      by_cases z : m = c
      · have e : dC n (setR M c fun b => if S m = true then M m b else 0) = dC n M := by
          rw [← setR_self n M c]
          refine dC_congr n _ _ fun a b ha hb => ?_
          unfold setR
          by_cases y : a = c
          · rw [if_pos y, if_pos y, z]
            show (if S c = true then M c b else 0) = M c b
            rw [if_pos hS]
          · rw [if_neg y, if_neg y]
        rw [e, if_neg (by omega), if_pos (by omega)]
        omega
      · have e : dC n (setR M c fun b => if S m = true then M m b else 0) = 0 := by
          by_cases y : S m = true
          · refine Eq.trans (dC_congr n _ _ fun a b ha hb => ?_) (setR_other n M c m hc (by omega) z)
            unfold setR
            by_cases w : a = c
            · rw [if_pos w, if_pos w]
              show (if S m = true then M m b else 0) = M m b
              rw [if_pos y]
            · rw [if_neg w, if_neg w]
          · exact setR_zero n M c hc _ fun b _ => by rw [if_neg y]
        rw [e]
        by_cases w : c < m
        · rw [if_pos w, if_pos (by omega)]; omega
        · rw [if_neg w, if_neg (by omega)]; omega
  have h1 := key n (Nat.le_refl _)
  rw [if_pos hc] at h1
  rw [← h1]
  exact setR_zero n M c hc _ fun b hb => h b hb
theorem dC_cols (n : Nat) (M : Nat → Nat → Int) (S : Nat → Bool) (c : Nat) (hc : c < n) (hS : S c = true) (h : ∀ a, a < n → sm n (fun b => if S b = true then M a b else 0) = 0) : dC n M = 0 := by
  rw [dC_flip]
  exact dC_rows n _ S c hc hS h
theorem ss_l1 (t f c : List Int) (n : Nat) (H : RibOk t f c n) (F : List Int) (C : List (List Int)) (q : Nat) (hq : q < C.length) (hl : (∀ x ∈ rd_L1 C q, 0 ≤ x ∧ x < n) ∧ (rd_L1 C q).length ≤ n + 1) (B : Int) (r : Int) : ∀ (d i K : Nat), (rd_L1 C q).length - i = d → i ≤ (rd_L1 C q).length → K ≤ i →
    ((K = 0 ∧ ((rd_L1 C q).drop i).any (chB f n c) = false) → Ev (fun k => spec_l7Sides.l0 k c (geL f n n) F (wrap64 (B + 1)) C (wrap64 ((q : Int) + 1)) t f) r → Ev (fun k => spec_l7Sides.l1 k c (geL f n n) F B C q K i t f) r) ∧
    (¬ (K = 0 ∧ ((rd_L1 C q).drop i).any (chB f n c) = false) → Ev (fun k => spec_l7Sides.l0 k c (geL f n n) F B C (wrap64 ((q : Int) + 1)) t f) r → Ev (fun k => spec_l7Sides.l1 k c (geL f n n) F B C q K i t f) r)
  | 0, i, K, hd, hi, hK => by
    have : i = (rd_L1 C q).length := by omega
    rw [List.drop_eq_nil_of_le (by omega)]
    refine ⟨fun ⟨h, _⟩ hr => Ev.s ?_, fun h hr => Ev.s ?_⟩
    · simp only [spec_l7Sides.l1, show (0 : Int) ≤ (q : Int) by omega, show (q : Int) < (C.length : Int) by omega, show ¬ (i : Int) < ((rd_L1 C q).length : Int) by omega, show (K : Int) = 0 by omega, if_true, if_false]
      exact hr
    · have hK0 : ¬ (K : Int) = 0 := fun z => h ⟨by omega, by simp⟩
      simp only [spec_l7Sides.l1, show (0 : Int) ≤ (q : Int) by omega, show (q : Int) < (C.length : Int) by omega, show ¬ (i : Int) < ((rd_L1 C q).length : Int) by omega, hK0, if_true, if_false]
      exact hr
  | d + 1, i, K, hd, hi, hK => by
    obtain ⟨hn, h1, ht, hti, hf, hfl, hc, hcl⟩ := id H
    have hlt : i < (rd_L1 C q).length := by omega
    have e := rd_lt _ i hlt
    have hr := hl.1 _ (List.getElem_mem hlt)
    rw [← e] at hr
    have g1 : (i : Int) < ((rd_L1 C q).length : Int) := by omega
    have g2 : (0 : Int) ≤ (i : Int) := by omega
    have g3 : (0 : Int) ≤ (q : Int) := by omega
    have g4 : (q : Int) < (C.length : Int) := by omega
    have wi : i < 4611686018427387904 := by omega
    have wK : K < 4611686018427387904 := by omega
    have ih0 := ss_l1 t f c n H F C q hq hl B r d (i + 1) K (by omega) (by omega) (by omega)
    have ih1 := ss_l1 t f c n H F C q hq hl B r d (i + 1) (K + 1) (by omega) (by omega) (by omega)
    have hd2 : ((rd_L1 C q).drop i).any (chB f n c) = (chB f n c (rd (rd_L1 C q) i) || ((rd_L1 C q).drop (i + 1)).any (chB f n c)) := by
      rw [List.drop_eq_getElem_cons hlt, List.any_cons, e]
    rw [hd2]
    cases hb : chB f n c (rd (rd_L1 C q) i) with
    | true =>
      have hd3 : decide (rd (geL f n n) (rd (rd_L1 C q) i) ∈ c) = true := hb
      refine ⟨fun ⟨_, h⟩ => by simp at h, fun h hr' => Ev.s ?_⟩
      simp only [spec_l7Sides.l1, g1, g2, g3, g4, hr.1, geL_len, hr.2, if_true]
      refine Ev.bind (has_ev c hcl _) ?_
      simp only [hd3, if_true, w64n wi, w64n wK]
      exact ih1.2 (fun z => by omega) hr'
    | false =>
      have hd3 : decide (rd (geL f n n) (rd (rd_L1 C q) i) ∈ c) = false := hb
      rw [Bool.false_or]
      refine ⟨fun h hr' => Ev.s ?_, fun h hr' => Ev.s ?_⟩
      · simp only [spec_l7Sides.l1, g1, g2, g3, g4, hr.1, geL_len, hr.2, if_true]
        refine Ev.bind (has_ev c hcl _) ?_
        simp only [hd3, Bool.false_eq_true, if_false, w64n wi]
        exact ih0.1 h hr'
      · simp only [spec_l7Sides.l1, g1, g2, g3, g4, hr.1, geL_len, hr.2, if_true]
        refine Ev.bind (has_ev c hcl _) ?_
        simp only [hd3, Bool.false_eq_true, if_false, w64n wi]
        exact ih0.2 h hr'
theorem ss_l0 (t f c : List Int) (n : Nat) (H : RibOk t f c n) (F : List Int) (C : List (List Int)) (hC : ∀ l ∈ C, (∀ x ∈ l, 0 ≤ x ∧ x < n) ∧ l.length ≤ n + 1) (hCl : C.length ≤ n) (r : Int) (h : Ev (fun k => spec_l7Sides.l2 k c (geL f n n) F (bc C (chB f n c) C.length) 0 t f) r) : ∀ (d i : Nat), C.length - i = d → i ≤ C.length → Ev (fun k => spec_l7Sides.l0 k c (geL f n n) F (bc C (chB f n c) i) C i t f) r
  | 0, i, hd, hi => by
    have : i = C.length := by omega
    subst this
    refine Ev.s ?_
    simp only [spec_l7Sides.l0, show ¬ (C.length : Int) < (C.length : Int) by omega, if_false]
    exact h
  | d + 1, i, hd, hi => by
    obtain ⟨hn, h1, ht, hti, hf, hfl, hc, hcl⟩ := id H
    have ih := ss_l0 t f c n H F C hC hCl r h d (i + 1) (by omega) (by omega)
    have hb := bc_le C (chB f n c) i
    have ok := rdL_ok C _ hC i (by omega)
    have in1 := ss_l1 t f c n H F C i (by omega) ok (bc C (chB f n c) i) r _ 0 0 rfl (by omega) (by omega)
    rw [w64n (show i < 4611686018427387904 by omega), w64n (show bc C (chB f n c) i < 4611686018427387904 by omega), List.drop_zero] at in1
    refine Ev.s ?_
    simp only [spec_l7Sides.l0, show (i : Int) < (C.length : Int) by omega, if_true]
    simp only [bc] at ih
    by_cases e : (rd_L1 C i).any (chB f n c) = true
    · simp only [if_pos e] at ih
      exact in1.2 (fun z => by rw [e] at z; simp at z) ih
    · simp only [if_neg e] at ih
      exact in1.1 ⟨rfl, by simpa using e⟩ ih
theorem ss_l3 (t f c : List Int) (n : Nat) (H : RibOk t f c n) (F : List Int) (hF : F.length = n) (B : Int) (i : Nat) (hi : i < n) (r : Int) : ∀ (m : Nat) (x : Int), 0 ≤ x ∧ x < n → (∃ k : Nat, k ≤ m ∧ chB f n c (itr t k x) = true) → Ev (fun k => spec_l7Sides.l2 k c (geL f n n) (F.set i (fc t (chB f n c) m x)) B (wrap64 ((i : Int) + 1)) t f) r → Ev (fun k => spec_l7Sides.l3 k c (geL f n n) F B i x t f) r
  | 0, x, hx, ⟨k, hk, hh⟩, h => by
    obtain ⟨hn, h1, ht, hti, hf, hfl, hc, hcl⟩ := id H
    have : k = 0 := by omega
    subst this
    have hh' : chB f n c x = true := hh
    have hd3 : decide (rd (geL f n n) x ∈ c) = true := hh'
    refine Ev.s ?_
    simp only [spec_l7Sides.l3, hx.1, geL_len, hx.2, if_true]
    refine Ev.bind (has_ev c hcl _) ?_
    simp only [hd3, hF, show (0 : Int) ≤ (i : Int) by omega, show (i : Int) < (n : Int) by omega, if_true, Int.toNat_natCast]
    exact h
  | m + 1, x, hx, ⟨k, hk, hh⟩, h => by
    obtain ⟨hn, h1, ht, hti, hf, hfl, hc, hcl⟩ := id H
    refine Ev.s ?_
    simp only [spec_l7Sides.l3, hx.1, geL_len, hx.2, if_true]
    refine Ev.bind (has_ev c hcl _) ?_
    rw [show decide (rd (geL f n n) x ∈ c) = chB f n c x from rfl]
    simp only [fc] at h
    have h5 := ht.2 x.toNat (by omega)
    rw [show ((x.toNat : Nat) : Int) = x by omega] at h5
    simp only [hF, ht.1, hx.2, show (0 : Int) ≤ (i : Int) by omega, show (i : Int) < (n : Int) by omega, if_true, Int.toNat_natCast]
    by_cases e : chB f n c x = true
    · simp only [if_pos e] at h ⊢; exact h
    · simp only [if_neg e] at h ⊢
      cases k with
      | zero => exact absurd hh e
      | succ k => exact ss_l3 t f c n H F hF B i hi r m _ h5 ⟨k, by omega, hh⟩ h
theorem ss_l2 (t f c : List Int) (n : Nat) (H : RibOk t f c n) (B : Nat) (hB : B ≤ n) : ∀ (d i : Nat), n - i = d → i ≤ n → Ev (fun k => spec_l7Sides.l2 k c (geL f n n) (mixL (faL t f n c) (stl n) n i) B i t f) ((B + (ribS (faL t f n c) n (chB f n c) n).2 : Nat) : Int)
  | 0, i, hd, hi => by
    obtain ⟨hn, h1, ht, hti, hf, hfl, hc, hcl⟩ := id H
    have : i = n := by omega
    subst this
    refine Ev.s ?_
    simp only [spec_l7Sides.l2, mixL_len, show ¬ (i : Int) < (i : Int) by omega, if_false]
    rw [mixL_all _ _ _ (faL_len t f i c)]
    refine Ev.bind (specCyc_ev _ i (by omega) (faL_inR t f i ht hf c)) (Ev.const ?_)
    have e1 := (ribS_cyS (faL t f i c) i (chB f i c) (fun d hd hcd => fa_ch t f i ht hti hf hfl c d hd hcd) (fun d hd hcd => by rw [faL_rd t f i c d hd, hcd]; simp) i (Nat.le_refl _)).1
    have e2 := ch_fresh f i hf hfl c hc c.length (Nat.le_refl _)
    rw [List.take_length] at e2
    have e3 := uc_fresh (chB f i c) (chL f i c) (fun d hd => chL_getD f i c d (by rwa [chL_len] at hd))
    rw [chL_len] at e3
    have e4 := ribS_le (faL t f i c) i (chB f i c) i
    congr 1
    rw [e1, w64r (x := 2 * (c.length : Int)) (by omega), w64r (x := (i : Int) - 2 * (c.length : Int)) (by omega)]
    rw [w64r (x := (((ribS (faL t f i c) i (chB f i c) i).2 + uc (chB f i c) i : Nat) : Int) - ((i : Int) - 2 * (c.length : Int))) (by omega)]
    rw [w64r (by omega)]
    omega
  | d + 1, i, hd, hi => by
    obtain ⟨hn, h1, ht, hti, hf, hfl, hc, hcl⟩ := id H
    have ih := ss_l2 t f c n H B hB d (i + 1) (by omega) (by omega)
    have g1 : (i : Int) < (n : Int) := by omega
    have g2 : (0 : Int) ≤ (i : Int) := by omega
    have fl := faL_rd t f n c i (by omega)
    have fr := hf.2 i (by omega)
    have tr := ht.2 (rd f i).toNat (by omega)
    rw [show (((rd f i).toNat : Nat) : Int) = rd f i by omega] at tr
    refine Ev.s ?_
    simp only [spec_l7Sides.l2, mixL_len, g1, g2, geL_len, if_true]
    refine Ev.bind (has_ev c hcl (rd (geL f n n) i)) ?_
    rw [show decide (rd (geL f n n) (i : Int) ∈ c) = chB f n c i from rfl]
    simp only [hf.1, g1, fr.1, ht.1, fr.2, if_true]
    by_cases e : chB f n c i = true
    · rw [if_pos e] at fl
      simp only [if_pos e]
      refine ss_l3 t f c n H _ (mixL_len _ _ _ _) B i (by omega) _ n _ tr (meets t n ht hti _ _ fr (by rw [chB_flip f n hf hfl c i (by omega)]; exact e)) ?_
      rw [← mixL_set _ _ _ _ (by omega : i < n), fl] at ih
      rw [w64n (by omega)]
      exact ih
    · rw [if_neg e] at fl
      simp only [if_neg e]
      rw [← mixL_skip _ _ _ _ (by omega : i < n) (by rw [fl, stl_rd n i (by omega)])] at ih
      rw [w64n (by omega)]
      exact ih
theorem specSides_ev (t f c : List Int) (n : Nat) (H : RibOk t f c n) : Ev (fun k => spec_l7Sides.f k t f c) (sidesN t f n c : Int) := by
  obtain ⟨hn, h1, ht, hti, hf, hfl, hc, hcl⟩ := id H
  unfold spec_l7Sides.f
  refine Ev.bind (specEdges_ev n (by omega) t f hf) ?_
  rw [hf.1]
  refine Ev.bind (same_ev n (by omega)) ?_
  refine Ev.bind (specCyc_ev t n (by omega) ht) ?_
  have hCl := cyS_many t n n
  have hb := bc_le (cyS t n n).2 (chB f n c) (cyS t n n).2.length
  refine ss_l0 t f c n H (stl n) _ (cyS_ok t n ht n (Nat.le_refl _)) hCl _ ?_ _ 0 rfl (by omega)
  have := ss_l2 t f c n H _ (by omega : bc (cyS t n n).2 (chB f n c) (cyS t n n).2.length ≤ n) n 0 (by omega) (by omega)
  rw [mixL_zero _ _ _ (stl_length n)] at this
  exact this
theorem ribbon_both (t f c : List Int) (n : Nat) (H : RibOk t f c n) : ∃ o, orbOk [t, flC f n c] n o ∧ Ev (fun k => spec_l7Parts.f k t f c) (pc o n : Int) ∧
    Ev (fun k => spec_l7Counts.f k t f c) (fiveN (pc o n) (sidesN t f n c) ((cyS t n n).2.length : Int) c.length) ∧ Ev (fun k => impl_ribbon.f k t f c) (fiveN (pc o n) (sidesN t f n c) ((cyS t n n).2.length : Int) c.length) := by
  obtain ⟨o, o1, hp, h3⟩ := ribbon_parts t f c n H
  obtain ⟨hn, h1, ht, hti, hf, hfl, hc, hcl⟩ := id H
  refine ⟨o, o1, hp, ?_, h3⟩
  unfold spec_l7Counts.f
  refine Ev.bind hp ?_
  refine Ev.bind (specSides_ev t f c n H) ?_
  exact Ev.bind (specCyc_ev t n (by omega) ht) (Ev.const rfl)
theorem counts_both (t f c : List Int) (ht : t.length ≤ 1048576) (hf : f.length ≤ 1048576) (hc : c.length ≤ 1048576) : ∃ (P S V : Nat) (b : Bool), Ev (fun k => spec_ChoiceValid.f k t f c) b ∧ Ev (fun k => impl_ChoiceValid.f k t f c) b ∧ (b = true → Ev (fun k => spec_l7Counts.f k t f c) (fiveN P S V c.length) ∧ Ev (fun k => impl_ribbon.f k t f c) (fiveN P S V c.length)) := by
  obtain ⟨b, b1, b2, b3⟩ := choiceValid_both t f c ht hf hc
  cases b with
  | false => exact ⟨0, 0, 0, false, b1, b2, fun h => by cases h⟩
  | true =>
    have hv := b3.1 rfl
    obtain ⟨o, _, _, h2, h3⟩ := ribbon_both t f c t.length (ribOk_of t f c hv.1 hv.2 hc)
    exact ⟨_, _, _, true, b1, b2, fun _ => ⟨h2, h3⟩⟩
theorem specCounts_ev {t f c r : List Int} (b1 : Ev (fun k => spec_ChoiceValid.f k t f c) true) (h2 : Ev (fun k => spec_l7Counts.f k t f c) r) : Ev (fun k => spec_ChoiceCounts.f k t f c) (r, true) := by
  unfold spec_ChoiceCounts.f
  refine Ev.bind b1 ?_
  simp only [if_true]
  exact Ev.bind h2 (Ev.const rfl)
theorem specCounts_no {t f c : List Int} (b1 : Ev (fun k => spec_ChoiceValid.f k t f c) false) : Ev (fun k => spec_ChoiceCounts.f k t f c) ([], false) := by
  unfold spec_ChoiceCounts.f
  refine Ev.bind b1 ?_
  simp only [Bool.false_eq_true, if_false]
  exact Ev.const rfl
theorem choiceTree_both (t f c : List Int) (ht : t.length ≤ 1048576) (hf : f.length ≤ 1048576) (hc : c.length ≤ 1048576) : ∃ r : Bool, Ev (fun k => spec_ChoiceTree.f k t f c) r ∧ Ev (fun k => impl_ChoiceTree.f k t f c) r := by
  obtain ⟨P, S, V, b, b1, b2, b3⟩ := counts_both t f c ht hf hc
  unfold spec_ChoiceTree.f impl_ChoiceTree.f
  cases b with
  | true =>
    obtain ⟨h2, h3⟩ := b3 rfl
    have e0 : rd (fiveN P S V c.length) 0 = P := rfl
    by_cases hP : (P : Int) = 1
    · refine ⟨rd (fiveN P S V c.length) 3 == 0, ?_, ?_⟩
      · refine Ev.bind (specCounts_ev b1 h2) ?_
        simp only [if_true, five_len, e0, hP, show (0 : Int) < ((5 : Nat) : Int) by omega, show (3 : Int) < ((5 : Nat) : Int) by omega]
        exact Ev.const rfl
      · refine Ev.bind b2 ?_
        simp only [if_true]
        refine Ev.bind h3 ?_
        simp only [if_true, five_len, e0, hP, show (0 : Int) < ((5 : Nat) : Int) by omega, show (3 : Int) < ((5 : Nat) : Int) by omega]
        exact Ev.const rfl
    · refine ⟨false, ?_, ?_⟩
      · refine Ev.bind (specCounts_ev b1 h2) ?_
        simp only [if_true, five_len, e0, hP, if_false, show (0 : Int) < ((5 : Nat) : Int) by omega]
        exact Ev.const rfl
      · refine Ev.bind b2 ?_
        simp only [if_true]
        refine Ev.bind h3 ?_
        simp only [if_true, five_len, e0, hP, if_false, show (0 : Int) < ((5 : Nat) : Int) by omega]
        exact Ev.const rfl
  | false =>
    refine ⟨false, ?_, ?_⟩
    · refine Ev.bind (specCounts_no b1) ?_
      simp only [Bool.false_eq_true, if_false]
      exact Ev.const rfl
    · refine Ev.bind b2 ?_
      simp only [Bool.false_eq_true, if_false]
      exact Ev.const rfl
end Go.Proofs.Ytjgknblneokhlaa.PK

namespace Go.Proofs.Ytjgknblneokhlaa.PK
open Go.RowKit Go.Proofs.YtjgknblneokhlaaW.PrintWords Go.Proofs.YtjgknblneokhlaaW.PrintLast Go.Proofs.YtjgknblneokhlaaW.PrintMore
attribute [local go_sem] max2_int min2_int max_two min_two max_three min_three max_four min_four   -- for this text's walks alone
set_option linter.unusedVariables false
set_option linter.unusedSimpArgs false
def vtell.T1 : Bool × List (List Nat × List Nat) := (true, [([], []), ([], []), ([], []), ([2], [2]), ([3], [3]), ([4], [4]), ([1, 5], [1, 5]), ([], []), ([], []), ([8], [8]), ([9], [9]), ([7, 10, 6], [7, 10]), ([6, 11], [6, 11]), ([], []), ([], []), ([14], [14]), ([15], [15]), ([13, 16, 11], [13, 16]), ([12, 17], [12, 17]), ([0, 18], [0, 18]), ([19, 17, 0, 1, 2, 3, 4, 5, 6, 7, 8, 9, 10, 11, 12, 13, 14, 15, 16, 17, 18, 19], [19])])
def vtell.B1 : List Nat := [0, 0, 0, 4, 12, 28, 62, 0, 0, 256, 768, 2046, 4094, 0, 0, 16384, 49152, 126974, 262142, 524287, 1048575]
def vch.l1 : Nat → List Int → Int → Int → Int → Option (List Int)
 | 0, _, _, _, _ => none
 | k + 1, c, s, e, E => if e < E then (if 0 ≤ e then (if Go.bits .and .i64 (s / 2 ^ min e.toNat 64) 1 = 1 then (if c.length < 17592186044416 then vch.l1 k (c ++ [e]) s (wrap64 (e + 1)) E else none) else vch.l1 k c s (wrap64 (e + 1)) E) else none) else some c
theorem vch.mono_l1 : ∀ k, (∀ y0 y1 y2 y3, LeO (vch.l1 k y0 y1 y2 y3) (vch.l1 (k + 1) y0 y1 y2 y3))
 | 0 => fun _ _ _ _ r h => by simp [vch.l1] at h
 | k + 1 => by
  have ih0 := vch.mono_l1 k
  intro y0 y1 y2 y3
  unfold vch.l1
  repeat' first
   | (with_reducible exact ih0 _ _ _ _)
   | (with_reducible exact LeO.refl _)
   | (with_reducible refine LeO.ite ?_ ?_)
end Go.Proofs.Ytjgknblneokhlaa.PK

set_option linter.unusedVariables false
set_option linter.unusedSimpArgs false
namespace Go.Proofs.Ytjgknblneokhlaa.PK
open Go.RowKit Go.Proofs.YtjgknblneokhlaaW.PrintWords Go.Proofs.YtjgknblneokhlaaW.PrintLast Go.Proofs.YtjgknblneokhlaaW.PrintMore
def vallE : Nat → List (List Int)
  | 0 => [[]]
  | n + 1 => vallE n ++ (vallE n).map (fun c => c ++ [(n : Int)])
theorem mulF_run (t f : List Int) (n : Nat) (hn : n ≤ 12) (ht : inR n t) (hf : inR n f) : ∀ (d i : Nat), n - i = d → i ≤ n → Ev (fun k => impl_mul.l0 k t (mixL (faces t f n) (List.replicate n 0) n i) f n i) (faces t f n)
  | 0, i, hd, hi => by
    have : i = n := by omega
    subst this
    refine Ev.s ?_
    simp only [impl_mul.l0, show ¬ (i : Int) < (i : Int) by omega, if_false]
    rw [mixL_all _ _ _ (faces_len t f i)]
    exact Ev.const rfl
  | d + 1, i, hd, hi => by
    have ih := mulF_run t f n hn ht hf d (i + 1) (by omega) (by omega)
    have fr := hf.2 i (by omega)
    have fe := faces_rd t f n i (by omega)
    refine Ev.s ?_
    simp only [impl_mul.l0, hf.1, ht.1, mixL_len, show (i : Int) < (n : Int) by omega, show (0 : Int) ≤ (i : Int) by omega, fr.1, fr.2, if_true, w64n (show i < 4611686018427387904 by omega), Int.toNat_natCast]
    rw [← fe, mixL_set _ _ _ _ (by omega)]
    exact ih
theorem mulF_ev (t f : List Int) (n : Nat) (hn : n ≤ 12) (ht : inR n t) (hf : inR n f) : Ev (fun k => impl_mul.f k f t) (faces t f n) := by
  unfold impl_mul.f
  rw [hf.1]
  simp only [show (0 : Int) ≤ (n : Int) by omega, Int.toNat_natCast, show n ≤ 35184372088832 by omega, if_true]
  have := mulF_run t f n hn ht hf n 0 (by omega) (by omega)
  rw [mixL_zero _ _ _ (by simp)] at this
  exact this
def threeN (V E F : Nat) : List Int := [(V : Int), (E : Int), (F : Int)]
theorem mapCounts_ev (t f : List Int) (hm : isMap t f) (ht : t.length ≤ 1048576) (hf : f.length ≤ 1048576) : ∃ F : Nat, Cl t.length (Reach [faces t f t.length] t.length) F ∧ Ev (fun k => impl_MapCounts.f k t f) (threeN (cyS t t.length t.length).2.length (edL f t.length).length F, true) := by
  obtain ⟨hn, h1, ht', hti, hf', hfl, hcon⟩ := mapOk_of t f hm
  obtain ⟨b, _, b2, b3⟩ := mapValid_both t f ht hf
  have hb : b = true := b3.2 hm
  subst hb
  have hF := faces_inR t f t.length ht' hf'
  refine ⟨(cyS (faces t f t.length) t.length t.length).2.length, cyS_cl _ _ hF (faces_inj t f t.length ht' hti hf' hfl), ?_⟩
  have hh := edL_half f t.length hf' hfl
  have hlen := hf'.1
  unfold impl_MapCounts.f
  refine Ev.bind b2 ?_
  simp only [if_true]
  refine Ev.bind (implCyc_ev t t.length (by omega) ht') ?_
  refine Ev.bind (mulF_ev t f t.length hn ht' hf') ?_
  refine Ev.bind (implCyc_ev _ t.length (by omega) hF) (Ev.const ?_)
  unfold threeN
  rw [w64 (by omega) (by omega), show (f.length : Int) / 2 = (((edL f t.length).length : Nat) : Int) by omega]
theorem choice_half (t f c : List Int) (hm : isMap t f) : isChoice c ((f.length : Int) / 2) ↔ isChoice c ((edL f t.length).length : Int) := by
  obtain ⟨hn, h1, ht', hti, hf', hfl, hcon⟩ := mapOk_of t f hm
  have hh := edL_half f t.length hf' hfl
  have hlen := hf'.1
  rw [show (f.length : Int) / 2 = (((edL f t.length).length : Nat) : Int) by omega]
theorem five_ev (t f c : List Int) (hm : isMap t f) (hc : isChoice c ((edL f t.length).length : Int)) (hcl : c.length ≤ 1048576) : ∃ P S : Nat, Cl t.length (Reach [t, flC f t.length c] t.length) P ∧ Cl t.length (Reach [sgL t f t.length c] t.length) S ∧ Ev (fun k => spec_l7Counts.f k t f c) (fiveN P S ((cyS t t.length t.length).2.length : Int) c.length) ∧ Ev (fun k => impl_ribbon.f k t f c) (fiveN P S ((cyS t t.length t.length).2.length : Int) c.length) := by
  have H := mapOk_of t f hm
  obtain ⟨hn, h1, ht', hti, hf', hfl, hcon⟩ := id H
  have hR := H.rib hc hcl
  obtain ⟨o, o1, _, h2, h3⟩ := ribbon_both t f c t.length hR
  exact ⟨_, _, parts_cl t f c t.length h1 ht' hf' o o1, sides_cl t f c t.length hR, h2, h3⟩
def sumB : Nat → ((Nat → Bool) → Int) → Int
  | 0, F => F (fun _ => false)
  | E + 1, F => sumB E (fun s => F (fun j => if j = E then false else s j)) + sumB E (fun s => F (fun j => if j = E then true else s j))
def lstS (s : Nat → Bool) : Nat → List Int
  | 0 => []
  | E + 1 => if s E = true then lstS s E ++ [(E : Int)] else lstS s E
theorem lstS_congr (s s' : Nat → Bool) : ∀ E, (∀ j, j < E → s j = s' j) → lstS s E = lstS s' E
  | 0, _ => rfl
  | E + 1, h => by
    simp only [lstS, h E (by omega), lstS_congr s s' E fun j hj => h j (by omega)]
theorem sumB_congr : ∀ (E : Nat) (F G : (Nat → Bool) → Int), (∀ s, (∀ j, E ≤ j → s j = false) → F s = G s) → sumB E F = sumB E G
  | 0, F, G, h => h _ fun _ _ => rfl
  | E + 1, F, G, h => by
    simp only [sumB]
    congr 1
    · refine sumB_congr E _ _ fun s hs => h _ fun j hj => ?_
      by_cases z : j = E
      · rw [if_pos z]
      · rw [if_neg z]; exact hs j (by omega)
    · refine sumB_congr E _ _ fun s hs => h _ fun j hj => ?_
      rw [if_neg (by omega)]; exact hs j (by omega)
theorem sum_vall : ∀ (E : Nat) (F : List Int → Int), ((vallE E).map F).sum = sumB E (fun s => F (lstS s E))
  | 0, F => by simp [vallE, sumB, lstS]
  | E + 1, F => by
    simp only [vallE, List.map_append, List.sum_append, List.map_map, sumB]
    congr 1
    · rw [sum_vall E F]
      refine sumB_congr E _ _ fun s _ => ?_
      simp only [lstS, if_true, Bool.false_eq_true, if_false]
      rw [lstS_congr s _ E fun j hj => ?_]
      rw [if_neg (by omega)]
    · rw [sum_vall E]
      refine sumB_congr E _ _ fun s _ => ?_
      simp only [lstS, if_true, Function.comp]
      rw [lstS_congr s _ E fun j hj => ?_]
      rw [if_neg (by omega)]
theorem mem_lstS (s : Nat → Bool) : ∀ (E : Nat) (x : Int), x ∈ lstS s E ↔ ∃ j : Nat, j < E ∧ s j = true ∧ x = j
  | 0, x => by simp [lstS]
  | E + 1, x => by
    have ih := mem_lstS s E x
    simp only [lstS]
    by_cases h : s E = true
    · rw [if_pos h, List.mem_append, ih, List.mem_singleton]
      constructor
      · rintro (⟨j, a, b, c⟩ | z)
        · exact ⟨j, by omega, b, c⟩
        · exact ⟨E, by omega, h, z⟩
      · rintro ⟨j, a, b, c⟩
        by_cases z : j = E
        · exact .inr (by rw [c, z])
        · exact .inl ⟨j, by omega, b, c⟩
    · rw [if_neg h, ih]
      constructor
      · rintro ⟨j, a, b, c⟩; exact ⟨j, by omega, b, c⟩
      · rintro ⟨j, a, b, c⟩
        refine ⟨j, ?_, b, c⟩
        by_cases z : j = E
        · rw [z] at b; exact absurd b h
        · omega
theorem lstS_choice (s : Nat → Bool) (E : Nat) : isChoice (lstS s E) (E : Int) := by
  refine choice_of _ _ (fun x hx => ?_) ?_
  · obtain ⟨j, a, b, c⟩ := (mem_lstS s E x).1 hx
    omega
  · induction E with
    | zero => exact List.Pairwise.nil
    | succ E ih =>
      simp only [lstS]
      by_cases h : s E = true
      · rw [if_pos h]
        refine List.pairwise_append.2 ⟨ih, by simp, fun a ha b hb => ?_⟩
        obtain ⟨j, a1, _, a3⟩ := (mem_lstS s E a).1 ha
        have := List.mem_singleton.1 hb
        omega
      · rw [if_neg h]; exact ih
theorem lstS_len (s : Nat → Bool) : ∀ E, (lstS s E).length ≤ E
  | 0 => Nat.le_refl _
  | E + 1 => by
    have := lstS_len s E
    simp only [lstS]
    split <;> simp <;> omega
noncomputable def clN (n : Nat) (R : Nat → Nat → Prop) : Nat := Classical.choose (Cl.ex n R)
theorem clN_cl (n : Nat) (R : Nat → Nat → Prop) : Cl n R (clN n R) := (Classical.choose_spec (Cl.ex n R)).1
theorem Cl.eq {n : Nat} {R : Nat → Nat → Prop} {k : Nat} (h : Cl n R k) : clN n R = k := (clN_cl n R).uniq h
noncomputable def pN (t f : List Int) (n : Nat) (c : List Int) : Nat := clN n (Reach [t, flC f n c] n)
noncomputable def sN (t f : List Int) (n : Nat) (c : List Int) : Nat := clN n (Reach [sgL t f n c] n)
noncomputable def vN (t : List Int) (n : Nat) : Nat := clN n (Reach [t] n)
noncomputable def tmV (t f : List Int) (n : Nat) (X Y Z : Int) (c : List Int) : Int :=
  X ^ (pN t f n c - 1) * Y ^ (c.length + pN t f n c - vN t n) * Z ^ ((2 * pN t f n c + c.length - vN t n - sN t f n c) / 2)
noncomputable def valS (t f : List Int) (n : Nat) (X Y Z : Int) : Int := sumB (edL f n).length fun s => tmV t f n X Y Z (lstS s (edL f n).length)
theorem nums (t f : List Int) (n : Nat) (H : MapOk t f n) (c : List Int) (hc : isChoice c ((edL f n).length : Int)) :
    ∃ g G : Nat, 2 * pN t f n c + c.length = vN t n + sN t f n c + 2 * g ∧ vN t n ≤ c.length + pN t f n c ∧ g ≤ G ∧ 2 + (edL f n).length = vN t n + vN (faces t f n) n + 2 * G :=
  five_math t f c n H hc _ _ _ _ (clN_cl _ _) (clN_cl _ _) (clN_cl _ _) (clN_cl _ _)
theorem Cl.pos {n : Nat} {R : Nat → Nat → Prop} {k : Nat} (h : Cl n R k) (hn : 1 ≤ n) : 1 ≤ k := by
  obtain ⟨L, _, h2, h3⟩ := h
  have : (0 : Nat) ∈ L := (h2 0).2 ⟨by omega, fun i hi => by omega⟩
  have := List.length_pos_of_mem this
  omega
theorem reach_wide (t F : List Int) (n x y : Nat) (h : Reach [t] n x y) : Reach [t, F] n x y := fun S hS => h S fun p hp => by
  rw [List.mem_singleton.1 hp]
  exact hS t (by simp)
theorem vallE_choice (E : Nat) : ∀ c ∈ vallE E, isChoice c (E : Int) ∧ c.length ≤ E := by
  intro c hc
  have : ∃ s, c = lstS s E := by
    induction E generalizing c with
    | zero =>
      simp only [vallE, List.mem_singleton] at hc
      exact ⟨fun _ => false, by rw [hc]; rfl⟩
    | succ E ih =>
      simp only [vallE, List.mem_append, List.mem_map] at hc
      rcases hc with h | ⟨c', h, rfl⟩
      · obtain ⟨s, rfl⟩ := ih c h
        refine ⟨fun j => if j = E then false else s j, ?_⟩
        simp only [lstS, if_true, Bool.false_eq_true, if_false]
        exact lstS_congr _ _ _ fun j hj => by rw [if_neg (by omega)]
      · obtain ⟨s, rfl⟩ := ih c' h
        refine ⟨fun j => if j = E then true else s j, ?_⟩
        simp only [lstS, if_true]
        congr 1
        exact lstS_congr _ _ _ fun j hj => by rw [if_neg (by omega)]
  obtain ⟨s, rfl⟩ := this
  exact ⟨lstS_choice s E, lstS_len s E⟩
theorem drop_sum (L : List Int) (s : Nat) (h : s < L.length) : (L.drop s).sum = L[s] + (L.drop (s + 1)).sum := by
  rw [List.drop_eq_getElem_cons h, List.sum_cons]
theorem le_step (s : Nat) (x B : Int) (hB : 0 ≤ B) (h : s ≤ 64) (h1 : x ≤ (s : Int) * B) : x ≤ 64 * B := by
  have : (s : Int) * B ≤ 64 * B := Int.mul_le_mul_of_nonneg_right (by omega) hB
  exact Int.le_trans h1 this
theorem step_le (s : Nat) (x B y : Int) (h1 : x ≤ (s : Int) * B) (h2 : y ≤ B) : x + y ≤ ((s + 1 : Nat) : Int) * B := by
  have : ((s + 1 : Nat) : Int) * B = (s : Int) * B + B := by
    rw [Int.natCast_succ, Int.add_mul, Int.one_mul]
  rw [this]
  exact Int.add_le_add h1 h2
theorem vfacts (N s d l : Nat) (hd : N - s = d + 1) (hs : s ≤ N) (hN : l = N) (h64 : N ≤ 64) : (s : Int) < (N : Int) ∧ s < l ∧ s ≤ 64 ∧ s < N ∧ N - (s + 1) = d ∧ s + 1 ≤ N ∧ s + 1 < 4611686018427387904 ∧ s < 4611686018427387904 := by
  refine ⟨?_, ?_, ?_, ?_, ?_, ?_, ?_, ?_⟩ <;> omega
theorem vzero (N s : Nat) (hd : N - s = 0) (hs : s ≤ N) : s = N := by omega
theorem faces_faces (t f : List Int) (n : Nat) (H : MapOk t f n) : faces (faces t f n) f n = t := by
  obtain ⟨hn, h1, ht, hti, hf, hfl, hcon⟩ := H
  refine list_ext _ _ (by rw [faces_len, ht.1]) fun d hd => ?_
  rw [faces_len] at hd
  have fr := hf.2 d hd
  have e1 : (((rd f d).toNat : Nat) : Int) = rd f d := by omega
  rw [faces_rd _ f n d hd, ← e1, faces_rd t f n _ (by omega), e1, (hfl d hd).2]
def tallE : Nat → List (List Int)
  | 0 => [[]]
  | n + 1 => tallE n ++ (tallE n).map (fun c => c ++ [(n : Int)])
theorem tchk_list : (List.range 7).all (fun (E : Nat) => decide (spec_l7All.f 300 (E : Int) = some (tallE E)) && decide ((tallE E).length = 2 ^ E)) = true := by decide +kernel
theorem tchk_bits : (List.range 7).all (fun (E : Nat) => (List.range (2 ^ E)).all fun (s : Nat) => decide (tch.l1 30 [] (s : Int) 0 (E : Int) = some ((tallE E).getD s [])) && decide (((tallE E).getD s []).length ≤ 20)) = true := by decide +kernel
theorem tchk (E : Nat) (h : E ≤ 6) : spec_l7All.f 300 (E : Int) = some (tallE E) ∧ (tallE E).length = 2 ^ E ∧ ∀ s : Nat, s < 2 ^ E → tch.l1 30 [] (s : Int) 0 (E : Int) = some ((tallE E).getD s []) ∧ ((tallE E).getD s []).length ≤ 20 := by
  have h1 := List.all_eq_true.1 tchk_list E (List.mem_range.2 (by omega))
  have h2 := List.all_eq_true.1 tchk_bits E (List.mem_range.2 (by omega))
  simp only [Bool.and_eq_true, decide_eq_true_eq] at h1
  refine ⟨h1.1, h1.2, fun s hs => ?_⟩
  have h3 := List.all_eq_true.1 h2 s (List.mem_range.2 hs)
  simp only [Bool.and_eq_true, decide_eq_true_eq] at h3
  exact h3
theorem tpow (E : Nat) (h : E ≤ 6) : wrap64 ((2 : Int) ^ E) = ((2 ^ E : Nat) : Int) ∧ 2 ^ E ≤ 64 := by
  have : E = 0 ∨ E = 1 ∨ E = 2 ∨ E = 3 ∨ E = 4 ∨ E = 5 ∨ E = 6 := by omega
  rcases this with rfl | rfl | rfl | rfl | rfl | rfl | rfl <;> exact ⟨by decide +kernel, by decide⟩
theorem trun (t f : List Int) (ht : t.length ≤ 1048576) (hf : f.length ≤ 1048576) (E : Nat) (hfE : (f.length : Int) / 2 = (E : Int)) (L : List (List Int)) (N : Nat) (hN : N ≤ 64) (hl : L.length = N) (hc : ∀ s : Nat, s < N → tch.l1 30 [] (s : Int) 0 (E : Int) = some (L.getD s []) ∧ (L.getD s []).length ≤ 20) : ∀ (d s : Nat), N - s = d → s ≤ N → ∀ x : Int, ∃ r : Int, Ev (fun k => tch.l0 k t f x s (N : Int)) r ∧ Ev (fun k => spec_RibbonTrees.l0 k x (L) s t f) r
  | 0, s, hd, hs, x => by
    have hsN : s = N := by omega
    rw [hsN]
    refine ⟨x, Ev.s ?_, Ev.s ?_⟩
    · simp only [tch.l0, show ¬ (N : Int) < (N : Int) by omega, if_false]
      exact Ev.const rfl
    · simp only [spec_RibbonTrees.l0, hl, show ¬ (N : Int) < (N : Int) by omega, if_false]
      exact Ev.const rfl
  | d + 1, s, hd, hs, x => by
    obtain ⟨h1, h2⟩ := hc s (by omega)
    obtain ⟨b, b1, b2⟩ := choiceTree_both t f (L.getD s []) ht hf (by omega)
    have hrd : rd_L1 (L) (s : Int) = L.getD s [] := by unfold rd_L1; rw [Int.toNat_natCast]
    have hlt : (s : Int) < (N : Int) := by omega
    have e1 : Ev (fun k => tch.l1 k [] (s : Int) 0 (E : Int)) (L.getD s []) := Ev.of (fun k => tch.mono_l1 k _ _ _ _) h1
    have h0s : (0 : Int) ≤ (s : Int) := by omega
    have hd' : N - (s + 1) = d := by omega
    have hs' : s + 1 ≤ N := by omega
    have hw : wrap64 ((s : Int) + 1) = ((s + 1 : Nat) : Int) := w64n (by omega)
    cases b with
    | true =>
      obtain ⟨r, r1, r2⟩ := trun t f ht hf E hfE L N hN hl hc d (s + 1) hd' hs' (wrap64 (x + 1))
      refine ⟨r, Ev.s ?_, Ev.s ?_⟩
      · simp only [tch.l0, hlt, hfE, if_true]
        refine Ev.bind e1 ?_
        refine Ev.bind b2 ?_
        simp only [hw, if_true]
        exact r1
      · simp only [spec_RibbonTrees.l0, hl, hlt, hrd, h0s, if_true]
        refine Ev.bind b1 ?_
        simp only [hw, if_true]
        exact r2
    | false =>
      obtain ⟨r, r1, r2⟩ := trun t f ht hf E hfE L N hN hl hc d (s + 1) hd' hs' x
      refine ⟨r, Ev.s ?_, Ev.s ?_⟩
      · simp only [tch.l0, hlt, hfE, if_true]
        refine Ev.bind e1 ?_
        refine Ev.bind b2 ?_
        simp only [hw, Bool.false_eq_true, if_false]
        exact r1
      · simp only [spec_RibbonTrees.l0, hl, hlt, hrd, h0s, if_true]
        refine Ev.bind b1 ?_
        simp only [hw, Bool.false_eq_true, if_false]
        exact r2
theorem ribbonTrees_both (t f : List Int) (ht : t.length ≤ 1048576) (hf : f.length ≤ 1048576) : ∃ r : Int, Ev (fun k => spec_RibbonTrees.f k t f) r ∧ Ev (fun k => impl_RibbonTrees.f k t f) r := by
  obtain ⟨b, b1, b2, b3⟩ := mapValid_both t f ht hf
  cases b with
  | false =>
    refine ⟨-1, ?_, ?_⟩
    · unfold spec_RibbonTrees.f
      refine Ev.bind b1 ?_
      simp only [Bool.false_eq_true, if_false]
      exact Ev.const rfl
    · unfold impl_RibbonTrees.f
      refine Ev.bind b2 ?_
      simp only [Bool.false_eq_true, if_false]
      exact Ev.const rfl
  | true =>
    have hm := b3.1 rfl
    obtain ⟨hn, h1, ht', hti, hf', hfl, _, _⟩ := ribOk_of t f [] hm (fun i hi => by simp at hi) (by simp)
    have hfl12 : f.length ≤ 12 := by have := hf'.1; omega
    obtain ⟨E, hE⟩ : ∃ E : Nat, E = f.length / 2 := ⟨_, rfl⟩
    have hE6 : E ≤ 6 := by omega
    have hfE : (f.length : Int) / 2 = (E : Int) := by omega
    have hwE : wrap64 (E : Int) = (E : Int) := w64 (by omega) (by omega)
    obtain ⟨hp, hp2⟩ := tpow E hE6
    obtain ⟨hall, hl, hc⟩ := tchk E hE6
    obtain ⟨r, r1, r2⟩ := trun t f ht hf E hfE (tallE E) (2 ^ E) hp2 hl hc (2 ^ E) 0 (Nat.sub_zero _) (Nat.zero_le _) 0
    refine ⟨r, ?_, ?_⟩
    · unfold spec_RibbonTrees.f
      refine Ev.bind b1 ?_
      simp only [if_true, hfE, hwE]
      refine Ev.bind (Ev.of (fun k => spec_l7All.mono _ k) hall) ?_
      exact r2
    · unfold impl_RibbonTrees.f
      refine Ev.bind b2 ?_
      simp only [if_true, hfl12, ← hE, hp]
      exact r1
def cplB (E : Nat) (s : Nat → Bool) : Nat → Bool := fun j => if j < E then !s j else s j
theorem cplB_succ (E : Nat) (b : Bool) (s : Nat → Bool) : cplB (E + 1) (fun j => if j = E then b else s j) = fun j => if j = E then !b else cplB E s j := by
  funext j
  show (if j < E + 1 then !(if j = E then b else s j) else (if j = E then b else s j)) = if j = E then !b else (if j < E then !s j else s j)
  by_cases z : j = E
  · rw [if_pos (by omega : j < E + 1), if_pos z, if_pos z]
  · rw [if_neg z, if_neg z]
    by_cases y : j < E
    · rw [if_pos y, if_pos (by omega)]
    · rw [if_neg y, if_neg (by omega)]
theorem sumB_cpl : ∀ (E : Nat) (F : (Nat → Bool) → Int), sumB E (fun s => F (cplB E s)) = sumB E F
  | 0, F => by
    show F (cplB 0 fun _ => false) = F fun _ => false
    congr 1
  | E + 1, F => by
    have h1 := sumB_cpl E (fun s => F (fun j => if j = E then true else s j))
    have h2 := sumB_cpl E (fun s => F (fun j => if j = E then false else s j))
    simp only [sumB, cplB_succ, Bool.not_false, Bool.not_true]
    rw [h1, h2, Int.add_comm]
theorem rest_lst (s : Nat → Bool) (E : Nat) : ∀ m, m ≤ E → restL (lstS s E) m = lstS (cplB E s) m
  | 0, _ => rfl
  | m + 1, hm => by
    have ih := rest_lst s E m (by omega)
    have hmem : (m : Int) ∈ lstS s E ↔ s m = true := by
      rw [mem_lstS]
      constructor
      · rintro ⟨j, a, b, c⟩
        rwa [show m = j by omega]
      · intro h
        exact ⟨m, by omega, h, rfl⟩
    have hc : cplB E s m = !s m := by unfold cplB; rw [if_pos (by omega)]
    rw [restL_succ, ih]
    simp only [lstS, hc]
    by_cases h : s m = true
    · rw [if_pos (hmem.2 h), h]
      simp
    · rw [if_neg (fun z => h (hmem.1 z))]
      have h' : s m = false := by cases q : s m with | true => exact absurd q h | false => rfl
      rw [h']
      simp
theorem cpl_len (s : Nat → Bool) (E : Nat) : ∀ m, m ≤ E → (lstS s m).length + (lstS (cplB E s) m).length = m
  | 0, _ => rfl
  | m + 1, hm => by
    have ih := cpl_len s E m (by omega)
    have hc : cplB E s m = !s m := by unfold cplB; rw [if_pos (by omega)]
    simp only [lstS, hc]
    cases s m with
    | true => simp; omega
    | false => simp; omega
theorem dual_nums (t f : List Int) (n : Nat) (H : MapOk t f n) (hG : 2 + (edL f n).length = vN t n + vN (faces t f n) n) (s : Nat → Bool) (X Y Z : Int) :
    tmV (faces t f n) f n Y X Z (lstS (cplB (edL f n).length s) (edL f n).length) = tmV t f n X Y Z (lstS s (edL f n).length) := by
  have hc := lstS_choice s (edL f n).length
  have hc' := lstS_choice (cplB (edL f n).length s) (edL f n).length
  have hl := cpl_len s (edL f n).length (edL f n).length (Nat.le_refl _)
  have hr := rest_lst s (edL f n).length (edL f n).length (Nat.le_refl _)
  obtain ⟨g, G, a1, a2, a3, a4⟩ := nums t f n H _ hc
  obtain ⟨g', G', b1, b2, b3, b4⟩ := nums (faces t f n) f n (dual_ok H) _ hc'
  rw [faces_faces t f n H] at b4
  have hS : sN (faces t f n) f n (lstS (cplB (edL f n).length s) (edL f n).length) = sN t f n (lstS s (edL f n).length) := by
    unfold sN
    rw [← hr, dual_sg t f n H]
  have p1 := (clN_cl n (Reach [t, flC f n (lstS s (edL f n).length)] n)).pos H.2.1
  have p2 := (clN_cl n (Reach [faces t f n, flC f n (lstS (cplB (edL f n).length s) (edL f n).length)] n)).pos H.2.1
  change 1 ≤ pN t f n (lstS s (edL f n).length) at p1
  change 1 ≤ pN (faces t f n) f n (lstS (cplB (edL f n).length s) (edL f n).length) at p2
  unfold tmV
  rw [hS] at b1 ⊢
  generalize (lstS s (edL f n).length).length = A at *
  generalize (lstS (cplB (edL f n).length s) (edL f n).length).length = B at *
  generalize pN t f n (lstS s (edL f n).length) = P at *
  generalize pN (faces t f n) f n (lstS (cplB (edL f n).length s) (edL f n).length) = Q at *
  generalize sN t f n (lstS s (edL f n).length) = S at *
  have e1 : Q - 1 = A + P - vN t n := by omega
  have e2 : B + Q - vN (faces t f n) n = P - 1 := by omega
  have e3 : (2 * Q + B - vN (faces t f n) n - S) / 2 = 0 := by omega
  have e4 : (2 * P + A - vN t n - S) / 2 = 0 := by omega
  rw [e1, e2, e3, e4, Int.mul_comm (Y ^ (A + P - vN t n))]
theorem val_dual (t f : List Int) (n : Nat) (H : MapOk t f n) (hG : 2 + (edL f n).length = vN t n + vN (faces t f n) n) (X Y Z : Int) : valS (faces t f n) f n Y X Z = valS t f n X Y Z := by
  unfold valS
  rw [← sumB_cpl (edL f n).length (fun s => tmV (faces t f n) f n Y X Z (lstS s (edL f n).length))]
  exact sumB_congr _ _ _ fun s _ => dual_nums t f n H hG s X Y Z
theorem term_zero (t f : List Int) (n : Nat) (H : MapOk t f n) (Z : Int) (c : List Int) (hc : isChoice c ((edL f n).length : Int)) :
    tmV t f n 0 0 Z c = if pN t f n c = 1 ∧ c.length + 1 = vN t n then 1 else 0 := by
  obtain ⟨g, G, a1, a2, a3, a4⟩ := nums t f n H c hc
  have p1 := (clN_cl n (Reach [t, flC f n c] n)).pos H.2.1
  have s1 := (clN_cl n (Reach [sgL t f n c] n)).pos H.2.1
  change 1 ≤ pN t f n c at p1
  change 1 ≤ sN t f n c at s1
  unfold tmV
  by_cases h : pN t f n c = 1 ∧ c.length + 1 = vN t n
  · obtain ⟨h1, h2⟩ := h
    rw [if_pos ⟨h1, h2⟩, show pN t f n c - 1 = 0 by omega, show c.length + pN t f n c - vN t n = 0 by omega, show (2 * pN t f n c + c.length - vN t n - sN t f n c) / 2 = 0 by omega]
    simp
  · rw [if_neg h]
    by_cases h1 : pN t f n c = 1
    · have : ∃ k, c.length + pN t f n c - vN t n = k + 1 := ⟨c.length + pN t f n c - vN t n - 1, by omega⟩
      obtain ⟨k, hk⟩ := this
      rw [hk, Int.pow_succ]
      simp
    · have : ∃ k, pN t f n c - 1 = k + 1 := ⟨pN t f n c - 2, by omega⟩
      obtain ⟨k, hk⟩ := this
      rw [hk, Int.pow_succ]
      simp
theorem tree_ev (t f : List Int) (hm : isMap t f) (c : List Int) (hc : isChoice c ((edL f t.length).length : Int)) (hcl : c.length ≤ (edL f t.length).length) :
    Ev (fun k => impl_ChoiceTree.f k t f c) (decide (pN t f t.length c = 1 ∧ c.length + 1 = vN t t.length)) := by
  have H := mapOk_of t f hm
  obtain ⟨hn, n1, ht', hti, hf', hfl, hcon⟩ := id H
  have hh := edL_half f t.length hf' hfl
  have hlen := hf'.1
  obtain ⟨P, S, hP, hS, _, g2⟩ := five_ev t f c hm hc (by omega)
  have eP : pN t f t.length c = P := hP.eq
  have eV : vN t t.length = (cyS t t.length t.length).2.length := (cyS_cl t t.length ht' hti).eq
  have pn : P ≤ t.length := by
    obtain ⟨q, hq, hk⟩ := Cl.ex t.length (Reach [t, flC f t.length c] t.length)
    rw [Cl.uniq hP hq]
    exact hk
  have vn := cyS_many t t.length t.length
  obtain ⟨b, _, v2, v3⟩ := choiceValid_both t f c (by omega) (by omega) (by omega)
  have hb : b = true := v3.2 ⟨hm, (choice_half t f c hm).2 hc⟩
  subst hb
  rw [eP, eV]
  generalize (cyS t t.length t.length).2.length = V at *
  have l5 : (fiveN P S V c.length).length = 5 := rfl
  have w1 : wrap64 ((V : Int) - P) = (V : Int) - P := w64 (by omega) (by omega)
  have w2 : wrap64 ((c.length : Int) - ((V : Int) - P)) = (c.length : Int) - ((V : Int) - P) := w64 (by omega) (by omega)
  unfold impl_ChoiceTree.f
  refine Ev.bind v2 ?_
  simp only [if_true]
  refine Ev.bind g2 ?_
  simp only [l5, show rd (fiveN P S V c.length) 0 = (P : Int) from rfl, show rd (fiveN P S V c.length) 3 = wrap64 ((c.length : Int) - wrap64 ((V : Int) - P)) from rfl, w1, w2, show (0 : Int) < ((5 : Nat) : Int) by decide, show (3 : Int) < ((5 : Nat) : Int) by decide, if_true]
  by_cases hp : (P : Int) = 1
  · simp only [hp, if_true]
    refine Ev.const ?_
    congr 1
    have : P = 1 := by omega
    subst this
    refine decide_eq_decide.2 ⟨fun h => ⟨rfl, by omega⟩, fun h => by omega⟩
  · simp only [hp, if_false]
    refine Ev.const ?_
    congr 1
    exact (decide_eq_false fun h => hp (by omega)).symm
theorem trunI (t f : List Int) (E : Nat) (hfE : (f.length : Int) / 2 = (E : Int)) (T : List Int → Bool) (L : List (List Int)) (N : Nat) (hN : L.length = N) (hN64 : N ≤ 64)
    (hT : ∀ c ∈ L, Ev (fun k => impl_ChoiceTree.f k t f c) (T c))
    (hc : ∀ s : Nat, s < N → tch.l1 30 [] (s : Int) 0 (E : Int) = some (L.getD s [])) : ∀ (d s : Nat), N - s = d → s ≤ N → ∀ x : Int, 0 ≤ x → x ≤ (s : Int) * 1 → Ev (fun k => tch.l0 k t f x s (N : Int)) (x + ((L.map fun c => if T c = true then (1 : Int) else 0).drop s).sum)
  | 0, s, hd, hs, x, h0, h1 => by
    have hsN : s = N := vzero N s hd hs
    subst hsN
    have : (L.map fun c => if T c = true then (1 : Int) else 0).drop s = [] := List.drop_eq_nil_of_le (by simp [hN])
    rw [this]
    refine Ev.s ?_
    simp only [tch.l0, show ¬ (s : Int) < (s : Int) by omega, if_false, List.sum_nil, Int.add_zero]
    exact Ev.const rfl
  | d + 1, s, hd, hs, x, h0, h1 => by
    obtain ⟨hlt, hsl, hs64, hsN, hd1, hs1, hb1, hb2⟩ := vfacts N s d L.length hd hs hN hN64
    have hg : L.getD s [] = L[s] := by simp [List.getD, hsl]
    have hT' := hT _ (List.getElem_mem hsl)
    have e1 : Ev (fun k => tch.l1 k [] (s : Int) 0 (E : Int)) (L[s]) := by
      rw [← hg]
      exact Ev.of (fun k => tch.mono_l1 k _ _ _ _) (hc s hsN)
    have hw : wrap64 ((s : Int) + 1) = ((s + 1 : Nat) : Int) := w64n hb2
    have hd' := drop_sum (L.map fun c => if T c = true then (1 : Int) else 0) s (by simp [hsl])
    rw [List.getElem_map] at hd'
    rw [hd', ← Int.add_assoc]
    have hx := le_step s x 1 (by decide) hs64 h1
    refine Ev.s ?_
    simp only [tch.l0, hlt, hfE, if_true]
    refine Ev.bind e1 ?_
    refine Ev.bind hT' ?_
    cases hb : T (L[s]) with
    | true =>
      have ih := trunI t f E hfE T L N hN hN64 hT hc d (s + 1) hd1 hs1 (x + 1) (Int.add_nonneg h0 (by decide)) (step_le s x 1 1 h1 (by decide))
      simp only [hw, if_true, w64 (x := x + 1) (by omega) (by omega)]
      exact ih
    | false =>
      have ih := trunI t f E hfE T L N hN hN64 hT hc d (s + 1) hd1 hs1 (x + 0) (Int.add_nonneg h0 (by decide)) (step_le s x 1 0 h1 (by decide))
      simp only [hw, Bool.false_eq_true, if_false]
      simp only [Int.add_zero] at ih ⊢
      exact ih
theorem tall_vall : ∀ E, tallE E = vallE E
  | 0 => rfl
  | E + 1 => by simp only [tallE, vallE, tall_vall E]
theorem treesI_ev (t f : List Int) (hm : isMap t f) (Z : Int) : Ev (fun k => impl_RibbonTrees.f k t f) (valS t f t.length 0 0 Z) := by
  have H := mapOk_of t f hm
  obtain ⟨hn, n1, ht', hti, hf', hfl, hcon⟩ := id H
  have hh := edL_half f t.length hf' hfl
  have hlen := hf'.1
  have hfl12 : f.length ≤ 12 := by omega
  obtain ⟨b, _, b2, b3⟩ := mapValid_both t f (by omega) (by omega)
  have hb : b = true := b3.2 hm
  subst hb
  obtain ⟨E, hE⟩ : ∃ E : Nat, E = f.length / 2 := ⟨_, rfl⟩
  have hE6 : E ≤ 6 := by omega
  obtain ⟨hp, hp2⟩ := tpow E hE6
  obtain ⟨_, hl, hc⟩ := tchk E hE6
  have hEe : (edL f t.length).length = E := by omega
  have := trunI t f E (by omega) (fun c => decide (pN t f t.length c = 1 ∧ c.length + 1 = vN t t.length)) (tallE E) (2 ^ E) hl hp2 (fun c hc' => by
    rw [tall_vall] at hc'
    obtain ⟨q1, q2⟩ := vallE_choice E c hc'
    rw [← hEe] at q1 q2
    exact tree_ev t f hm c q1 q2) (fun s hs => (hc s hs).1) (2 ^ E) 0 (Nat.sub_zero _) (Nat.zero_le _) 0 (Int.le_refl 0) (by rw [show ((0 : Nat) : Int) = 0 from rfl, Int.zero_mul]; exact Int.le_refl 0)
  rw [List.drop_zero, tall_vall, sum_vall, Int.zero_add] at this
  have hv : valS t f t.length 0 0 Z = sumB E fun s => if decide (pN t f t.length (lstS s E) = 1 ∧ (lstS s E).length + 1 = vN t t.length) = true then (1 : Int) else 0 := by
    unfold valS
    rw [hEe]
    refine sumB_congr _ _ _ fun s _ => ?_
    have q := lstS_choice s E
    rw [← hEe] at q
    rw [hEe] at q
    rw [term_zero t f t.length H Z (lstS s E) (by rw [hEe]; exact q)]
    simp only [decide_eq_true_eq]
  rw [hv]
  unfold impl_RibbonTrees.f
  refine Ev.bind b2 ?_
  simp only [if_true, hfl12, ← hE, hp]
  exact this
end Go.Proofs.Ytjgknblneokhlaa.PK

namespace Go.Proofs.Ytjgknblneokhlaa.PK
open Go.RowKit Go.Proofs.YtjgknblneokhlaaW.PrintWords Go.Proofs.YtjgknblneokhlaaW.PrintLast Go.Proofs.YtjgknblneokhlaaW.PrintMore
attribute [local go_sem] max2_int min2_int max_two min_two max_three min_three max_four min_four   -- for this text's walks alone
set_option linter.unusedVariables false
set_option linter.unusedSimpArgs false
def spec_l7Leave.T15 : Bool × List (List Nat × List Nat) := (true, [([], []), ([0], [0]), ([], []), ([], []), ([], []), ([3, 4], [3, 4]), ([5], [5]), ([2, 6], [2, 6]), ([7], [7]), ([8], [8]), ([1, 9], [1, 9]), ([0, 1, 2, 3, 4, 5, 6, 7, 8, 9, 10], []), ([11, 10, 10, 0, 1, 2, 3, 4, 5, 6, 7, 8, 9, 10], [10, 11])])
def spec_l7Leave.B15 : List Nat := [0, 1, 0, 0, 0, 24, 56, 124, 252, 508, 1023, 2047, 4095]
end Go.Proofs.Ytjgknblneokhlaa.PK

set_option linter.unusedVariables false
set_option linter.unusedSimpArgs false
namespace Go.Proofs.Ytjgknblneokhlaa.PK
open Go.RowKit Go.Proofs.YtjgknblneokhlaaW.PrintWords Go.Proofs.YtjgknblneokhlaaW.PrintLast Go.Proofs.YtjgknblneokhlaaW.PrintMore
def nmA (a b : Nat) : Nat → Nat
  | 0 => 0
  | d + 1 => nmA a b d + if d = a ∨ d = b then 0 else 1
def kept (a b d : Nat) : Prop := d ≠ a ∧ d ≠ b
theorem nm_kept (a b d : Nat) (h : kept a b d) : nmA a b (d + 1) = nmA a b d + 1 := by
  simp only [nmA]
  rw [if_neg (fun z => z.elim h.1 h.2)]
theorem nm_mono (a b : Nat) : ∀ (e d : Nat), nmA a b d ≤ nmA a b (d + e)
  | 0, d => Nat.le_refl _
  | e + 1, d => by
    have := nm_mono a b e d
    rw [show d + (e + 1) = d + e + 1 by omega]
    simp only [nmA]
    omega
theorem nm_lt (a b d e : Nat) (h : kept a b d) (hd : d < e) : nmA a b d < nmA a b e := by
  have h1 := nm_kept a b d h
  have h2 := nm_mono a b (e - (d + 1)) (d + 1)
  rw [show d + 1 + (e - (d + 1)) = e by omega] at h2
  omega
theorem nm_inj (a b d e : Nat) (h : kept a b d) (h' : kept a b e) (z : nmA a b d = nmA a b e) : d = e := by
  by_cases h1 : d < e
  · have := nm_lt a b d e h h1; omega
  · by_cases h2 : e < d
    · have := nm_lt a b e d h' h2; omega
    · omega
theorem nm_all (a b : Nat) (hab : a ≠ b) : ∀ m, nmA a b m + (if a < m then 1 else 0) + (if b < m then 1 else 0) = m
  | 0 => by simp [nmA]
  | m + 1 => by
    have ih := nm_all a b hab m
    simp only [nmA]
    by_cases c1 : m = a
    · subst c1
      rw [if_neg (Nat.lt_irrefl _)] at ih
      rw [if_pos (.inl rfl), if_pos (by omega)]
      by_cases c2 : b < m
      · rw [if_pos c2] at ih
        rw [if_pos (by omega)]
        omega
      · rw [if_neg c2] at ih
        rw [if_neg (by omega)]
        omega
    · by_cases c2 : m = b
      · subst c2
        rw [if_neg (Nat.lt_irrefl m)] at ih
        rw [if_pos (.inr rfl), if_pos (show m < m + 1 by omega)]
        by_cases c3 : a < m
        · rw [if_pos c3] at ih
          rw [if_pos (by omega)]
          omega
        · rw [if_neg c3] at ih
          rw [if_neg (by omega)]
          omega
      · rw [if_neg (fun z => z.elim c1 c2)]
        have e1 : (if a < m + 1 then 1 else 0) = (if a < m then 1 else 0) := by
          by_cases c3 : a < m
          · rw [if_pos c3, if_pos (by omega)]
          · rw [if_neg c3, if_neg (by omega)]
        have e2 : (if b < m + 1 then 1 else 0) = (if b < m then 1 else 0) := by
          by_cases c3 : b < m
          · rw [if_pos c3, if_pos (by omega)]
          · rw [if_neg c3, if_neg (by omega)]
        rw [e1, e2]
        omega
theorem nm_total (a b n : Nat) (ha : a < n) (hb : b < n) (hab : a ≠ b) : nmA a b n + 2 = n := by
  have := nm_all a b hab n
  rw [if_pos ha, if_pos hb] at this
  omega
theorem nm_surj (a b : Nat) : ∀ (i m : Nat), m < nmA a b i → ∃ d, d < i ∧ kept a b d ∧ nmA a b d = m
  | 0, m, h => by simp [nmA] at h
  | i + 1, m, h => by
    by_cases c : m < nmA a b i
    · obtain ⟨d, h1, h2, h3⟩ := nm_surj a b i m c
      exact ⟨d, by omega, h2, h3⟩
    · simp only [nmA] at h
      by_cases c2 : i = a ∨ i = b
      · rw [if_pos c2] at h; omega
      · rw [if_neg c2] at h
        exact ⟨i, by omega, ⟨fun z => c2 (.inl z), fun z => c2 (.inr z)⟩, by omega⟩
theorem nm_bound (a b n d : Nat) (ha : a < n) (hb : b < n) (hab : a ≠ b) (hd : d < n) (hk : kept a b d) : nmA a b d < n - 2 := by
  have h1 := nm_lt a b d n hk hd
  have h2 := nm_total a b n ha hb hab
  omega
def TellsQ (a b n : Nat) (q : Nat → Nat) (L : List Int) : Prop := L.length = n - 2 ∧ ∀ d, d < n → kept a b d → q d < n ∧ kept a b (q d) ∧ rd L (nmA a b d : Int) = (nmA a b (q d) : Int)
theorem TellsQ.inR {a b n : Nat} {q : Nat → Nat} {L : List Int} (h : TellsQ a b n q L) (ha : a < n) (hb : b < n) (hab : a ≠ b) : inR (n - 2) L := by
  refine ⟨h.1, fun m hm => ?_⟩
  have ht := nm_total a b n ha hb hab
  obtain ⟨d, h1, h2, rfl⟩ := nm_surj a b n m (by omega)
  obtain ⟨q1, q2, q3⟩ := h.2 d h1 h2
  have := nm_bound a b n (q d) ha hb hab q1 q2
  rw [q3]
  omega
theorem TellsQ.injR {a b n : Nat} {q : Nat → Nat} {L : List Int} (h : TellsQ a b n q L) (ha : a < n) (hb : b < n) (hab : a ≠ b) (hq : ∀ d e, d < n → e < n → kept a b d → kept a b e → q d = q e → d = e) : injR (n - 2) L := by
  intro i j hi hj e
  have ht := nm_total a b n ha hb hab
  obtain ⟨d, h1, h2, rfl⟩ := nm_surj a b n i (by omega)
  obtain ⟨d', h1', h2', rfl⟩ := nm_surj a b n j (by omega)
  obtain ⟨q1, q2, q3⟩ := h.2 d h1 h2
  obtain ⟨q1', q2', q3'⟩ := h.2 d' h1' h2'
  rw [q3, q3'] at e
  have := nm_inj a b _ _ q2 q2' (by omega)
  rw [hq d d' h1 h1' h2 h2' this]
theorem cl_one {n : Nat} {R : Nat → Nat → Prop} (hr : ∀ x, R x x) (hs : ∀ x y, R x y → R y x) (ht : ∀ x y z, R x y → R y z → R x z) (h : Cl n R 1) (x y : Nat) (hx : x < n) (hy : y < n) : R x y := by
  obtain ⟨L, l1, l2, l3⟩ := h
  obtain ⟨p, p1, p2, p3⟩ := lst_ex R hr hs ht x
  obtain ⟨q, q1, q2, q3⟩ := lst_ex R hr hs ht y
  have hp := (l2 p).2 ⟨by omega, p2⟩
  have hq := (l2 q).2 ⟨by omega, q2⟩
  obtain ⟨z, hz⟩ := List.length_eq_one_iff.1 l3
  rw [hz, List.mem_singleton] at hp hq
  rw [hp] at p3
  rw [hq] at q3
  exact ht _ _ _ (hs _ _ p3) q3
def insB (e : Nat) (b : Bool) (s : Nat → Bool) : Nat → Bool := fun j => if j < e then s j else if j = e then b else s (j - 1)
theorem sumB_at : ∀ (E e : Nat) (F : (Nat → Bool) → Int), e ≤ E → sumB (E + 1) F = sumB E (fun s => F (insB e false s)) + sumB E (fun s => F (insB e true s))
  | 0, e, F, he => by
    have : e = 0 := by omega
    subst this
    simp only [sumB]
    congr 2
  | E + 1, e, F, he => by
    by_cases q : e = E + 1
    · subst q
      rw [sumB]
      congr 1
      · refine sumB_congr _ _ _ fun s hs => ?_
        congr 1
        funext j
        unfold insB
        by_cases z : j = E + 1
        · rw [if_pos z, if_neg (by omega), if_pos z]
        · rw [if_neg z, if_neg z]
          by_cases y : j < E + 1
          · rw [if_pos y]
          · rw [if_neg y, hs j (by omega), hs (j - 1) (by omega)]
      · refine sumB_congr _ _ _ fun s hs => ?_
        congr 1
        funext j
        unfold insB
        by_cases z : j = E + 1
        · rw [if_pos z, if_neg (by omega), if_pos z]
        · rw [if_neg z, if_neg z]
          by_cases y : j < E + 1
          · rw [if_pos y]
          · rw [if_neg y, hs j (by omega), hs (j - 1) (by omega)]
    · have h1 := sumB_at E e (fun s => F (fun j => if j = E + 1 then false else s j)) (by omega)
      have h2 := sumB_at E e (fun s => F (fun j => if j = E + 1 then true else s j)) (by omega)
      have key : ∀ (b' b : Bool) (s : Nat → Bool), (fun j => if j = E + 1 then b' else insB e b s j) = insB e b (fun j => if j = E then b' else s j) := by
        intro b' b s
        funext j
        show (if j = E + 1 then b' else (if j < e then s j else if j = e then b else s (j - 1))) = (if j < e then (if j = E then b' else s j) else if j = e then b else (if j - 1 = E then b' else s (j - 1)))
        by_cases z : j = E + 1
        · rw [if_pos z, if_neg (by omega), if_neg (by omega), if_pos (by omega)]
        · rw [if_neg z]
          by_cases y : j < e
          · rw [if_pos y, if_pos y, if_neg (by omega)]
          · rw [if_neg y, if_neg y]
            by_cases w : j = e
            · rw [if_pos w, if_pos w]
            · rw [if_neg w, if_neg w, if_neg (by omega)]
      rw [sumB, h1, h2]
      simp only [key]
      simp only [sumB]
      omega
theorem lst_ins_lt (e : Nat) (b : Bool) (s : Nat → Bool) : ∀ m, m ≤ e → lstS (insB e b s) m = lstS s m := fun m hm => lstS_congr _ _ _ fun j hj => by unfold insB; rw [if_pos (by omega)]
theorem lst_ins_len (e : Nat) (b : Bool) (s : Nat → Bool) : ∀ m, e ≤ m → (lstS (insB e b s) (m + 1)).length = (lstS s m).length + (if b = true then 1 else 0)
  | 0, hm => by
    have : e = 0 := by omega
    subst this
    simp only [lstS, insB, Nat.lt_irrefl, if_false, if_true]
    cases b <;> rfl
  | m + 1, hm => by
    by_cases q : e = m + 1
    · subst q
      have h1 := lst_ins_lt (m + 1) b s (m + 1) (Nat.le_refl _)
      have h2 : insB (m + 1) b s (m + 1) = b := by unfold insB; rw [if_neg (Nat.lt_irrefl _), if_pos rfl]
      rw [lstS, h2, h1]
      cases b <;> simp
    · have ih := lst_ins_len e b s m (by omega)
      have h2 : insB e b s (m + 1) = s m := by unfold insB; rw [if_neg (by omega), if_neg (by omega), Nat.add_sub_cancel]
      rw [lstS, h2]
      rw [show lstS s (m + 1) = if s m = true then lstS s m ++ [(m : Int)] else lstS s m from rfl]
      by_cases z : s m = true
      · rw [if_pos z, if_pos z, List.length_append, List.length_append, ih]
        simp only [List.length_cons, List.length_nil]
        omega
      · rw [if_neg z, if_neg z, ih]
theorem geL_rd (f : List Int) (n : Nat) (hf : inR n f) (hfl : ∀ i : Nat, i < n → flipAt f i) (d : Nat) (hd : d < n) : rd (geL f n n) (d : Int) = ((edL f (least f d)).length : Int) := geL_at f n hf hfl n (Nat.le_refl _) d hd (least_lt f n hf hfl d hd).1
theorem chB_lst (f : List Int) (n : Nat) (hf : inR n f) (hfl : ∀ i : Nat, i < n → flipAt f i) (s : Nat → Bool) (d : Nat) (hd : d < n) : chB f n (lstS s (edL f n).length) (d : Int) = s (edL f (least f d)).length := by
  have l := least_lt f n hf hfl d hd
  have hlt := edL_lt f (least f d) l.2 n l.1
  unfold chB
  rw [geL_rd f n hf hfl d hd]
  cases h : s (edL f (least f d)).length with
  | true => exact decide_eq_true ((mem_lstS _ _ _).2 ⟨_, hlt, h, rfl⟩)
  | false =>
    refine decide_eq_false fun z => ?_
    obtain ⟨k, k1, k2, k3⟩ := (mem_lstS _ _ _).1 z
    have : k = (edL f (least f d)).length := by omega
    rw [this, h] at k2
    cases k2
theorem Cl.rel {n : Nat} {R S : Nat → Nat → Prop} {k : Nat} (h : ∀ x y, R x y ↔ S x y) (hk : Cl n R k) : Cl n S k := by
  have : R = S := by funext x y; exact propext (h x y)
  rwa [← this]
noncomputable def ind (P : Prop) : Int := @ite Int P (Classical.propDecidable P) 1 0
theorem ind_yes {P : Prop} (h : P) : ind P = 1 := by unfold ind; exact if_pos h
theorem ind_no {P : Prop} (h : ¬ P) : ind P = 0 := by unfold ind; exact if_neg h
theorem ind_iff {P Q : Prop} (h : P ↔ Q) : ind P = ind Q := by rw [propext h]
def cB : Nat → (Nat → Bool) → Nat
  | 0, _ => 0
  | k + 1, R => cB k R + if R k = true then 1 else 0
theorem cB_all (R : Nat → Bool) : ∀ k, (∀ v, v < k → R v = true) → cB k R = k
  | 0, _ => rfl
  | k + 1, h => by simp only [cB]; rw [cB_all R k fun v hv => h v (by omega), if_pos (h k (by omega))]
theorem cB_add (R : Nat → Bool) (q : Nat) (hq : R q = false) : ∀ k, cB k (fun v => R v || decide (v = q)) = cB k R + if q < k then 1 else 0
  | 0 => by simp [cB]
  | k + 1 => by
    simp only [cB]
    rw [cB_add R q hq k]
    by_cases z : k = q
    · subst z
      simp only [hq, Nat.lt_irrefl, Nat.lt_succ_self, Bool.false_or, decide_true, if_true, if_false, Bool.false_eq_true]
    · have : decide (k = q) = false := decide_eq_false z
      simp only [this, Bool.or_false]
      by_cases y : q < k
      · rw [if_pos y, if_pos (by omega : q < k + 1)]; omega
      · rw [if_neg y, if_neg (by omega : ¬ q < k + 1)]; omega
theorem cB_zero : ∀ k, cB k (fun v => decide (v = 0)) = if 0 < k then 1 else 0
  | 0 => rfl
  | k + 1 => by
    simp only [cB]
    rw [cB_zero k, if_pos (Nat.succ_pos k)]
    by_cases z : k = 0
    · rw [z]; rfl
    · have : decide (k = 0) = false := decide_eq_false z
      simp only [this, Bool.false_eq_true, if_false, Nat.add_zero]
      rw [if_pos (by omega)]
theorem cB_drop (W : Nat → Bool) (e : Nat) (he : W e = true) : ∀ k, e < k → cB k (fun j => if j = e then false else W j) + 1 = cB k W
  | k + 1, h => by
    simp only [cB]
    by_cases z : k = e
    · subst z
      have : ∀ m, m ≤ k → cB m (fun j => if j = k then false else W j) = cB m W := by
        intro m
        induction m with
        | zero => intro _; rfl
        | succ m ih =>
          intro hm
          simp only [cB]
          have hmk : ¬ m = k := by omega
          simp only [hmk, if_false]
          rw [ih (by omega)]
      simp only [if_true, he, Bool.false_eq_true, if_false, Nat.add_zero]
      rw [this k (Nat.le_refl _)]
    · simp only [z, if_false]
      rw [← cB_drop W e he k (by omega)]
      omega
theorem sumB_zero : ∀ E, sumB E (fun _ => 0) = 0
  | 0 => rfl
  | E + 1 => by simp only [sumB]; rw [sumB_zero E]; rfl
theorem sumB_none : ∀ E, sumB E (fun s => ind (∀ j, j < E → s j = false)) = 1
  | 0 => by
    simp only [sumB]
    exact ind_yes fun j hj => by omega
  | E + 1 => by
    simp only [sumB]
    have h1 : sumB E (fun s => ind (∀ j, j < E + 1 → (if j = E then false else s j) = false)) = 1 := by
      rw [← sumB_none E]
      refine sumB_congr _ _ _ fun s _ => ind_iff ⟨fun h j hj => ?_, fun h j hj => ?_⟩
      · have := h j (by omega)
        rwa [if_neg (by omega)] at this
      · by_cases z : j = E
        · rw [if_pos z]
        · rw [if_neg z]; exact h j (by omega)
    have h2 : sumB E (fun s => ind (∀ j, j < E + 1 → (if j = E then true else s j) = false)) = 0 := by
      rw [← sumB_zero E]
      refine sumB_congr _ _ _ fun s _ => ind_no fun h => ?_
      have := h E (Nat.lt_succ_self _)
      rw [if_pos rfl] at this
      cases this
    rw [h1, h2]
    rfl
theorem lst_none (s : Nat → Bool) : ∀ E, (lstS s E).length = 0 ↔ ∀ j, j < E → s j = false
  | 0 => ⟨fun _ j hj => by omega, fun _ => rfl⟩
  | E + 1 => by
    have ih := lst_none s E
    simp only [lstS]
    by_cases h : s E = true
    · rw [if_pos h, List.length_append]
      constructor
      · intro z
        simp only [List.length_cons, List.length_nil] at z
        omega
      · intro z
        rw [z E (Nat.lt_succ_self _)] at h
        cases h
    · rw [if_neg h, ih]
      have h' : s E = false := by cases q : s E with | true => exact absurd q h | false => rfl
      constructor
      · intro z j hj
        by_cases y : j = E
        · rw [y]; exact h'
        · exact z j (by omega)
      · exact fun z j hj => z j (by omega)
def nmE (f : List Int) (d : Nat) : Nat := (edL f (least f d)).length
def rooted (t f A : List Int) (n : Nat) (R s : Nat → Bool) : Prop := ∀ x : Nat, x < n → ∃ y : Nat, y < n ∧ R (rd A (y : Int)).toNat = true ∧ Reach [t, flC f n (lstS s (edL f n).length)] n x y
noncomputable def nF (t f A : List Int) (n nv : Nat) (R W : Nat → Bool) : Int := sumB (edL f n).length fun s => ind ((∀ j, j < (edL f n).length → s j = true → W j = true) ∧ (lstS s (edL f n).length).length + cB nv R = nv ∧ rooted t f A n R s)
def mW (f A : List Int) (n : Nat) (R W : Nat → Bool) : Nat → Nat → Int := fun a b => if R (a + 1) = true then (if a = b then 1 else 0) else sm n fun d => if W (nmE f d) = true then ctv A f ((a + 1 : Nat) : Int) ((b + 1 : Nat) : Int) d else 0
def VOk (t f A : List Int) (n nv : Nat) : Prop := MapOk t f n ∧ (∀ x : Nat, x < n → 0 ≤ rd A (x : Int) ∧ rd A (x : Int) < nv) ∧ (∀ x y : Nat, x < n → y < n → (rd A (x : Int) = rd A (y : Int) ↔ Reach [t] n x y)) ∧ ∀ v : Nat, v < nv → ∃ x : Nat, x < n ∧ rd A (x : Int) = v
theorem ins_flC (f : List Int) (n : Nat) (hf : inR n f) (hfl : ∀ i : Nat, i < n → flipAt f i) (e p q : Nat) (he : e < (edL f n).length) (hp : p < n) (hq : q < n) (fp : rd f (p : Int) = q) (fq : rd f (q : Int) = p) (hn : ∀ d : Nat, d < n → (nmE f d = e ↔ d = p ∨ d = q)) (bb : Bool) (s : Nat → Bool) (d : Nat) (hd : d < n) :
    rd (flC f n (lstS (insB e bb s) (edL f n).length)) (d : Int) = if d = p ∨ d = q then (if bb = true then rd f (d : Int) else (d : Int)) else if s (if nmE f d < e then nmE f d else nmE f d - 1) = true then rd f (d : Int) else (d : Int) := by
  rw [flC_rd f n _ d hd, chB_lst f n hf hfl _ d hd]
  show (if insB e bb s (nmE f d) = true then _ else _) = _
  unfold insB
  by_cases z : d = p ∨ d = q
  · rw [if_pos z, (hn d hd).2 z, if_neg (Nat.lt_irrefl _), if_pos rfl]
  · rw [if_neg z]
    have : nmE f d ≠ e := fun y => z ((hn d hd).1 y)
    by_cases y : nmE f d < e
    · rw [if_pos y, if_pos y]
    · rw [if_neg y, if_neg this, if_neg y]
theorem rooted_step (t f A : List Int) (n nv : Nat) (O : VOk t f A n nv) (R : Nat → Bool) (e p q : Nat) (he : e < (edL f n).length) (hp : p < n) (hq : q < n) (fp : rd f (p : Int) = q) (fq : rd f (q : Int) = p) (hn : ∀ d : Nat, d < n → (nmE f d = e ↔ d = p ∨ d = q)) (hRp : R (rd A (p : Int)).toNat = true) (s : Nat → Bool) :
    rooted t f A n R (insB e true s) ↔ rooted t f A n (fun v => R v || decide (v = (rd A (q : Int)).toNat)) (insB e false s) := by
  obtain ⟨H, ra, rs, rv⟩ := O
  obtain ⟨hn12, h1, ht, hti, hf, hfl, hcon⟩ := id H
  have F1 := fun d hd => ins_flC f n hf hfl e p q he hp hq fp fq hn true s d hd
  have F0 := fun d hd => ins_flC f n hf hfl e p q he hp hq fp fq hn false s d hd
  have hF0 := flC_inR f n hf (lstS (insB e false s) (edL f n).length)
  constructor
  · intro h x hx
    obtain ⟨y, hy, y1, y2⟩ := h x hx
    -- what reaches the new roots
    refine ((y2 (fun z => z < n → ∃ w : Nat, w < n ∧ (R (rd A (w : Int)).toNat || decide ((rd A (w : Int)).toNat = (rd A (q : Int)).toNat)) = true ∧ Reach [t, flC f n (lstS (insB e false s) (edL f n).length)] n z w) ?_).2 (fun _ => ⟨y, hy, by rw [y1]; rfl, Reach.refl _ _ _⟩)) hx
    have move : ∀ z z' : Nat, z < n → z' < n → Reach [t, flC f n (lstS (insB e false s) (edL f n).length)] n z z' → ((z < n → ∃ w : Nat, w < n ∧ (R (rd A (w : Int)).toNat || decide ((rd A (w : Int)).toNat = (rd A (q : Int)).toNat)) = true ∧ Reach [t, flC f n (lstS (insB e false s) (edL f n).length)] n z w) ↔ (z' < n → ∃ w : Nat, w < n ∧ (R (rd A (w : Int)).toNat || decide ((rd A (w : Int)).toNat = (rd A (q : Int)).toNat)) = true ∧ Reach [t, flC f n (lstS (insB e false s) (edL f n).length)] n z' w)) := by
      intro z z' hz hz' hr
      constructor
      · intro k _
        obtain ⟨w, w1, w2, w3⟩ := k hz
        exact ⟨w, w1, w2, hr.symm.trans w3⟩
      · intro k _
        obtain ⟨w, w1, w2, w3⟩ := k hz'
        exact ⟨w, w1, w2, hr.trans w3⟩
    intro L hL k hk
    rcases List.mem_cons.1 hL with rfl | hL
    · have r := ht.2 k hk
      exact move k _ hk (by omega) (Reach.step (by simp) hk)
    · rw [List.mem_singleton.1 hL, F1 k hk]
      by_cases z : k = p ∨ k = q
      · rw [if_pos z, if_pos rfl]
        have both : ∀ d : Nat, d = p ∨ d = q → ∃ w : Nat, w < n ∧ (R (rd A (w : Int)).toNat || decide ((rd A (w : Int)).toNat = (rd A (q : Int)).toNat)) = true ∧ Reach [t, flC f n (lstS (insB e false s) (edL f n).length)] n d w := by
          rintro d (rfl | rfl)
          · exact ⟨_, hp, by rw [hRp]; rfl, Reach.refl _ _ _⟩
          · exact ⟨_, hq, by simp, Reach.refl _ _ _⟩
        have z' : (rd f (k : Int)).toNat = p ∨ (rd f (k : Int)).toNat = q := by
          rcases z with rfl | rfl
          · right; rw [fp, Int.toNat_natCast]
          · left; rw [fq, Int.toNat_natCast]
        exact ⟨fun _ _ => both _ z', fun _ _ => both _ z⟩
      · have := Reach.step (ps := [t, flC f n (lstS (insB e false s) (edL f n).length)]) (n := n) (p := flC f n (lstS (insB e false s) (edL f n).length)) (by simp) hk
        have r := hF0.2 k hk
        have e0 := F0 k hk
        rw [if_neg z] at e0
        rw [if_neg z, ← e0]
        exact move k _ hk (by omega) this
  · intro h x hx
    obtain ⟨y, hy, y1, y2⟩ := h x hx
    have up : ∀ z w, Reach [t, flC f n (lstS (insB e false s) (edL f n).length)] n z w → Reach [t, flC f n (lstS (insB e true s) (edL f n).length)] n z w := by
      intro z w hr S hS
      refine hr S fun L hL k hk => ?_
      have hSt : ∀ k, k < n → (S k ↔ S (rd t (k : Int)).toNat) := hS t (by simp)
      have hSF : ∀ k, k < n → (S k ↔ S (rd (flC f n (lstS (insB e true s) (edL f n).length)) (k : Int)).toNat) := hS _ (by simp)
      rcases List.mem_cons.1 hL with rfl | hL
      · exact hSt k hk
      · rw [List.mem_singleton.1 hL, F0 k hk]
        by_cases z : k = p ∨ k = q
        · rw [if_pos z, if_neg (by decide), Int.toNat_natCast]
        · have := hSF k hk
          rw [F1 k hk, if_neg z] at this
          rw [if_neg z]
          exact this
    by_cases z : R (rd A (y : Int)).toNat = true
    · exact ⟨y, hy, z, up _ _ y2⟩
    · have e1 : (rd A (y : Int)).toNat = (rd A (q : Int)).toNat := by
        have z' : R (rd A (y : Int)).toNat = false := by cases w : R (rd A (y : Int)).toNat with | true => exact absurd w z | false => rfl
        simp only [z', Bool.false_or, decide_eq_true_eq] at y1
        exact y1
      have a1 := ra y hy
      have a2 := ra q hq
      have yq : Reach [t] n y q := (rs y q hy hq).1 (by omega)
      have qp : Reach [t, flC f n (lstS (insB e true s) (edL f n).length)] n q p := by
        have := Reach.step (ps := [t, flC f n (lstS (insB e true s) (edL f n).length)]) (n := n) (p := flC f n (lstS (insB e true s) (edL f n).length)) (by simp) hq
        rwa [F1 q hq, if_pos (.inr rfl), if_pos rfl, fq, Int.toNat_natCast] at this
      exact ⟨p, hp, hRp, ((up _ _ y2).trans (reach_wide t _ n y q yq)).trans qp⟩
theorem mt_all (f A : List Int) (n N : Nat) (R W : Nat → Bool) (hR : ∀ v, v < N + 1 → R v = true) : dC N (mW f A n R W) = 1 := dC_id N _ fun a b ha hb => by
  unfold mW
  rw [if_pos (hR _ (by omega))]
theorem nF_all (t f A : List Int) (n nv : Nat) (R W : Nat → Bool) (hR : ∀ v, v < nv → R v = true) (hA : ∀ x : Nat, x < n → 0 ≤ rd A (x : Int) ∧ rd A (x : Int) < nv) : nF t f A n nv R W = 1 := by
  unfold nF
  rw [← sumB_none (edL f n).length]
  refine sumB_congr _ _ _ fun s _ => ind_iff ?_
  have hc := cB_all R nv hR
  constructor
  · rintro ⟨_, h, _⟩
    exact (lst_none s _).1 (by omega)
  · intro h
    have h0 := (lst_none s _).2 h
    refine ⟨fun j hj z => ?_, by omega, fun x hx => ⟨x, hx, ?_, Reach.refl _ _ _⟩⟩
    · rw [h j hj] at z; cases z
    · have := hA x hx
      exact hR _ (by omega)
def stuck (f A : List Int) (n : Nat) (R W : Nat → Bool) : Prop := ∀ d : Nat, d < n → W (nmE f d) = true → R (rd A (d : Int)).toNat = true → R (rd A (rd f (d : Int))).toNat = true
theorem nm_flip (f : List Int) (n : Nat) (hf : inR n f) (hfl : ∀ i : Nat, i < n → flipAt f i) (d : Nat) (hd : d < n) : nmE f (rd f (d : Int)).toNat = nmE f d := by
  have fr := hf.2 d hd
  obtain ⟨f1, f2⟩ := hfl d hd
  unfold nmE
  congr 2
  unfold least
  rw [show (((rd f (d : Int)).toNat : Nat) : Int) = rd f (d : Int) by omega, f2]
  by_cases z : (d : Int) < rd f (d : Int)
  · rw [if_neg (by omega), if_pos z, Int.toNat_natCast]
  · rw [if_pos (by omega), if_neg z]
theorem nF_stuck (t f A : List Int) (n nv : Nat) (O : VOk t f A n nv) (R W : Nat → Bool) (hs : stuck f A n R W) (v : Nat) (hv : v < nv) (hRv : R v = false) : nF t f A n nv R W = 0 := by
  obtain ⟨H, ra, rs, rv⟩ := O
  obtain ⟨hn12, h1, ht, hti, hf, hfl, hcon⟩ := id H
  unfold nF
  rw [← sumB_zero (edL f n).length]
  refine sumB_congr _ _ _ fun s _ => ind_no ?_
  rintro ⟨h1', _, h3⟩
  obtain ⟨x, hx, ex⟩ := rv v hv
  obtain ⟨y, hy, y1, y2⟩ := h3 x hx
  have := (y2 (fun z => z < n → R (rd A (z : Int)).toNat = true) ?_).2 (fun _ => y1) hx
  · rw [ex, Int.toNat_natCast, hRv] at this
    cases this
  · intro L hL k hk
    rcases List.mem_cons.1 hL with rfl | hL
    · have r := ht.2 k hk
      have e : rd A (k : Int) = rd A ((rd L (k : Int)).toNat : Int) := (rs k _ hk (by omega)).2 (Reach.step (by simp) hk)
      show (k < n → R (rd A (k : Int)).toNat = true) ↔ ((rd L (k : Int)).toNat < n → R (rd A ((rd L (k : Int)).toNat : Int)).toNat = true)
      rw [← e]
      exact ⟨fun q _ => q hk, fun q _ => q (by omega)⟩
    · rw [List.mem_singleton.1 hL, flC_rd f n _ k hk, chB_lst f n hf hfl s k hk]
      have fr := hf.2 k hk
      by_cases z : s (edL f (least f k)).length = true
      · rw [if_pos z]
        have hlt : (edL f (least f k)).length < (edL f n).length := by
          have l := least_lt f n hf hfl k hk
          exact edL_lt f (least f k) l.2 n l.1
        have hw := h1' _ hlt z
        have e0 : (((rd f (k : Int)).toNat : Nat) : Int) = rd f (k : Int) := by omega
        constructor
        · intro q _
          rw [e0]
          exact hs k hk hw (q hk)
        · intro q _
          have := hs (rd f (k : Int)).toNat (by omega) (by rw [nm_flip f n hf hfl k hk]; exact hw) (q (by omega))
          rwa [e0, (hfl k hk).2] at this
      · rw [if_neg z, Int.toNat_natCast]
theorem mt_stuck (t f A : List Int) (n N : Nat) (O : VOk t f A n (N + 1)) (R W : Nat → Bool) (h0 : R 0 = true) (hs : stuck f A n R W) (v : Nat) (hv : v < N + 1) (hRv : R v = false) : dC N (mW f A n R W) = 0 := by
  obtain ⟨H, ra, rs, rv⟩ := O
  obtain ⟨hn12, h1, ht, hti, hf, hfl, hcon⟩ := id H
  have hv0 : v ≠ 0 := fun z => by rw [z, h0] at hRv; cases hRv
  refine dC_cols N _ (fun b => !R (b + 1)) (v - 1) (by omega) (by show (!R (v - 1 + 1)) = true; rw [show v - 1 + 1 = v by omega, hRv]; rfl) fun a ha => ?_
  by_cases hRa : R (a + 1) = true
  · refine sm_all _ N fun b hb => ?_
    unfold mW
    rw [if_pos hRa]
    by_cases z : a = b
    · rw [← z, hRa]; rfl
    · rw [if_neg z]; split <;> rfl
  · have hRa' : R (a + 1) = false := by cases q : R (a + 1) with | true => exact absurd q hRa | false => rfl
    have e1 : sm N (fun b => if (!R (b + 1)) = true then mW f A n R W a b else 0) = sm N (fun b => sm n fun d => if (!R (b + 1)) = true then (if W (nmE f d) = true then ctv A f ((a + 1 : Nat) : Int) ((b + 1 : Nat) : Int) d else 0) else 0) := by
      refine sm_congr _ _ N fun b hb => ?_
      by_cases z : (!R (b + 1)) = true
      · rw [if_pos z]
        unfold mW
        rw [if_neg hRa]
        refine sm_congr _ _ n fun d hd => ?_
        rw [if_pos z]
      · rw [if_neg z]
        exact (sm_all _ n fun d hd => by rw [if_neg z]).symm
    show sm N (fun b => if (!R (b + 1)) = true then mW f A n R W a b else 0) = 0
    rw [e1, sm_comm]
    refine sm_all _ n fun d hd => ?_
    by_cases hw : W (nmE f d) = true
    · by_cases hA : rd A (d : Int) = ((a + 1 : Nat) : Int) ∧ ¬ rd A (rd f (d : Int)) = ((a + 1 : Nat) : Int)
      · -- the other end is no root either
        have fr := hf.2 d hd
        have e0 : (((rd f (d : Int)).toNat : Nat) : Int) = rd f (d : Int) := by omega
        have ro := ra (rd f (d : Int)).toNat (by omega)
        rw [e0] at ro
        have hno : R (rd A (rd f (d : Int))).toNat = false := by
          cases q : R (rd A (rd f (d : Int))).toNat with
          | false => rfl
          | true =>
            have := hs (rd f (d : Int)).toNat (by omega) (by rw [nm_flip f n hf hfl d hd]; exact hw) (by rw [e0]; exact q)
            rw [e0, (hfl d hd).2, hA.1, Int.toNat_natCast, hRa'] at this
            cases this
        obtain ⟨o, ho⟩ : ∃ o : Nat, rd A (rd f (d : Int)) = ((o + 1 : Nat) : Int) := by
          refine ⟨(rd A (rd f (d : Int))).toNat - 1, ?_⟩
          have : (rd A (rd f (d : Int))).toNat ≠ 0 := fun z => by rw [z, h0] at hno; cases hno
          omega
        have hoa : o ≠ a := fun z => hA.2 (by rw [ho, z])
        have hoN : o < N := by omega
        rw [ho, Int.toNat_natCast] at hno
        have val : ∀ b : Nat, ctv A f ((a + 1 : Nat) : Int) ((b + 1 : Nat) : Int) d = if b = a then 1 else if b = o then -1 else 0 := by
          intro b
          unfold ctv
          rw [if_pos hA, ho]
          by_cases z : b = a
          · rw [if_pos z, if_pos (by omega)]
          · rw [if_neg z, if_neg (by omega)]
            by_cases y : b = o
            · rw [if_pos y, if_pos (by omega)]
            · rw [if_neg y, if_neg (by omega)]
        simp only [hw, if_true, val]
        have hz : ∀ r, r ≠ a → r ≠ o → (if (!R (r + 1)) = true then (if r = a then (1 : Int) else if r = o then -1 else 0) else 0) = 0 := fun r y1 y2 => by
          rw [if_neg y1, if_neg y2]; split <;> rfl
        have ga : (if (!R (a + 1)) = true then (if a = a then (1 : Int) else if a = o then -1 else 0) else 0) = 1 := by rw [hRa']; simp
        have go : (if (!R (o + 1)) = true then (if o = a then (1 : Int) else if o = o then -1 else 0) else 0) = -1 := by rw [hno, if_neg hoa]; simp
        by_cases y : a < o
        · rw [sm_two _ a o y N hoN fun r hr y1 y2 => hz r y1 y2, ga, go]; rfl
        · rw [sm_two _ o a (by omega) N ha fun r hr y1 y2 => hz r y2 y1, ga, go]; rfl
      · refine sm_all _ N fun b hb => ?_
        unfold ctv
        rw [if_neg hA]
        simp
    · refine sm_all _ N fun b hb => ?_
      rw [if_neg hw]
      simp
def leaving (f A : List Int) (n : Nat) (R W : Nat → Bool) (e p q : Nat) : Prop := e < (edL f n).length ∧ p < n ∧ q < n ∧ rd f (p : Int) = q ∧ rd f (q : Int) = p ∧ (∀ d : Nat, d < n → (nmE f d = e ↔ d = p ∨ d = q)) ∧ W e = true ∧ R (rd A (p : Int)).toNat = true ∧ R (rd A (q : Int)).toNat = false
theorem nF_step (t f A : List Int) (n nv : Nat) (O : VOk t f A n nv) (R W : Nat → Bool) (e p q : Nat) (L : leaving f A n R W e p q) :
    nF t f A n nv R W = nF t f A n nv R (fun j => if j = e then false else W j) + nF t f A n nv (fun v => R v || decide (v = (rd A (q : Int)).toNat)) (fun j => if j = e then false else W j) := by
  obtain ⟨he, hp, hq, fp, fq, hn, hW, hRp, hRq⟩ := L
  obtain ⟨E', hE⟩ : ∃ E', (edL f n).length = E' + 1 := ⟨(edL f n).length - 1, by omega⟩
  have key : ∀ F, sumB (edL f n).length F = sumB E' (fun s => F (insB e false s)) + sumB E' (fun s => F (insB e true s)) := fun F => by rw [hE]; exact sumB_at E' e F (by omega)
  have ie : ∀ (b : Bool) (s : Nat → Bool), insB e b s e = b := fun b s => by unfold insB; rw [if_neg (Nat.lt_irrefl _), if_pos rfl]
  have io : ∀ (s : Nat → Bool) (j : Nat), j ≠ e → insB e true s j = insB e false s j := fun s j hj => by
    unfold insB
    by_cases y : j < e
    · rw [if_pos y, if_pos y]
    · rw [if_neg y, if_neg y, if_neg hj, if_neg hj]
  have ln : ∀ (b : Bool) (s : Nat → Bool), (lstS (insB e b s) (edL f n).length).length = (lstS s E').length + (if b = true then 1 else 0) := fun b s => by rw [hE]; exact lst_ins_len e b s E' (by omega)
  have rq := O.2.1 q hq
  have hcb := cB_add R (rd A (q : Int)).toNat hRq nv
  rw [if_pos (by omega)] at hcb
  unfold nF
  rw [key, key, key]
  have z1 : sumB E' (fun s => ind ((∀ j, j < (edL f n).length → insB e true s j = true → (if j = e then false else W j) = true) ∧ (lstS (insB e true s) (edL f n).length).length + cB nv R = nv ∧ rooted t f A n R (insB e true s))) = 0 := by
    rw [← sumB_zero E']
    refine sumB_congr _ _ _ fun s _ => ind_no fun h => ?_
    have := h.1 e he (ie true s)
    rw [if_pos rfl] at this
    cases this
  have z2 : sumB E' (fun s => ind ((∀ j, j < (edL f n).length → insB e true s j = true → (if j = e then false else W j) = true) ∧ (lstS (insB e true s) (edL f n).length).length + cB nv (fun v => R v || decide (v = (rd A (q : Int)).toNat)) = nv ∧ rooted t f A n (fun v => R v || decide (v = (rd A (q : Int)).toNat)) (insB e true s))) = 0 := by
    rw [← sumB_zero E']
    refine sumB_congr _ _ _ fun s _ => ind_no fun h => ?_
    have := h.1 e he (ie true s)
    rw [if_pos rfl] at this
    cases this
  rw [z1, z2, Int.add_zero, Int.add_zero]
  congr 1
  · refine sumB_congr _ _ _ fun s _ => ind_iff ⟨fun h => ⟨fun j hj z => ?_, h.2⟩, fun h => ⟨fun j hj z => ?_, h.2⟩⟩
    · by_cases y : j = e
      · rw [y, ie] at z; cases z
      · show (if j = e then false else W j) = true
        rw [if_neg y]; exact h.1 j hj z
    · by_cases y : j = e
      · rw [y]; exact hW
      · have : (if j = e then false else W j) = true := h.1 j hj z
        rwa [if_neg y] at this
  · refine sumB_congr _ _ _ fun s _ => ind_iff ?_
    have r := rooted_step t f A n nv O R e p q he hp hq fp fq hn hRp s
    have l1 := ln true s
    have l0 := ln false s
    rw [if_pos rfl] at l1
    rw [if_neg (by decide)] at l0
    constructor
    · rintro ⟨h1, h2, h3⟩
      refine ⟨fun j hj z => ?_, by omega, r.1 h3⟩
      by_cases y : j = e
      · rw [y, ie] at z; cases z
      · show (if j = e then false else W j) = true
        rw [if_neg y]; exact h1 j hj (by rw [io s j y]; exact z)
    · rintro ⟨h1, h2, h3⟩
      refine ⟨fun j hj z => ?_, by omega, r.2 h3⟩
      by_cases y : j = e
      · rw [y]; exact hW
      · have : (if j = e then false else W j) = true := h1 j hj (by rw [← io s j y]; exact z)
        rwa [if_neg y] at this
theorem mt_step (t f A : List Int) (n N : Nat) (O : VOk t f A n (N + 1)) (R W : Nat → Bool) (h0 : R 0 = true) (e p q : Nat) (L : leaving f A n R W e p q) :
    dC N (mW f A n R W) = dC N (mW f A n R (fun j => if j = e then false else W j)) + dC N (mW f A n (fun v => R v || decide (v = (rd A (q : Int)).toNat)) (fun j => if j = e then false else W j)) := by
  obtain ⟨he, hp, hq, fp, fq, hn, hW, hRp, hRq⟩ := L
  have rq := O.2.1 q hq
  have rp := O.2.1 p hp
  have q0 : (rd A (q : Int)).toNat ≠ 0 := fun z => by rw [z, h0] at hRq; cases hRq
  obtain ⟨i, hi⟩ : ∃ i : Nat, rd A (q : Int) = ((i + 1 : Nat) : Int) := ⟨(rd A (q : Int)).toNat - 1, by omega⟩
  have hiN : i < N := by omega
  have hqi : (rd A (q : Int)).toNat = i + 1 := by omega
  rw [hqi] at hRq ⊢
  have hRi : ¬ R (i + 1) = true := by rw [hRq]; decide
  have pne : ∀ a : Nat, R (a + 1) = false → ¬ rd A (p : Int) = ((a + 1 : Nat) : Int) := fun a ha z => by rw [z, Int.toNat_natCast, ha] at hRp; cases hRp
  have old : ∀ a b, a < N → b < N → a ≠ i → mW f A n R (fun j => if j = e then false else W j) a b = mW f A n R W a b := by
    intro a b ha hb hai
    unfold mW
    by_cases z : R (a + 1) = true
    · rw [if_pos z, if_pos z]
    · have z' : R (a + 1) = false := by cases w : R (a + 1) with | true => exact absurd w z | false => rfl
      rw [if_neg z, if_neg z]
      refine sm_congr _ _ n fun d hd => ?_
      show (if (if nmE f d = e then false else W (nmE f d)) = true then ctv A f ((a + 1 : Nat) : Int) ((b + 1 : Nat) : Int) d else 0) = _
      by_cases y : nmE f d = e
      · simp only [y, hW, if_true, Bool.false_eq_true, if_false]
        unfold ctv
        refine (if_neg ?_).symm
        rintro ⟨w, _⟩
        rcases (hn d hd).1 y with rfl | rfl
        · exact pne a z' w
        · rw [hi] at w
          omega
      · simp only [y, if_false]
  have row : ∀ b, b < N → mW f A n R W i b = mW f A n R (fun j => if j = e then false else W j) i b + ((if b = i then 1 else 0) - (if rd A (p : Int) = ((b + 1 : Nat) : Int) then 1 else 0)) := by
    intro b hb
    unfold mW
    rw [if_neg hRi, if_neg hRi]
    have one : sm n (fun d => if nmE f d = e then ctv A f ((i + 1 : Nat) : Int) ((b + 1 : Nat) : Int) d else 0) = (if b = i then 1 else 0) - (if rd A (p : Int) = ((b + 1 : Nat) : Int) then 1 else 0) := by
      rw [sm_one _ q n hq fun d hd hdq => ?_]
      · rw [if_pos ((hn q hq).2 (.inr rfl))]
        unfold ctv
        rw [fq, if_pos ⟨hi, pne i hRq⟩]
        by_cases z : b = i
        · rw [if_pos (by omega), if_pos z, if_neg (by rw [z]; exact pne i hRq)]; rfl
        · rw [if_neg (by omega), if_neg z]
          by_cases y : rd A (p : Int) = ((b + 1 : Nat) : Int)
          · rw [if_pos y.symm, if_pos y]; rfl
          · rw [if_neg (fun w => y w.symm), if_neg y]; rfl
      · by_cases y : nmE f d = e
        · rw [if_pos y]
          rcases (hn d hd).1 y with rfl | w
          · unfold ctv
            rw [if_neg]
            exact fun w => pne i hRq w.1
          · exact absurd w hdq
        · rw [if_neg y]
    rw [← one, sm_add]
    refine sm_congr _ _ n fun d hd => ?_
    by_cases y : nmE f d = e
    · simp only [y, hW, if_true, Bool.false_eq_true, if_false, Int.zero_add]
    · simp only [y, if_false, Int.add_zero]
  have s1 : dC N (mW f A n R W) = dC N (mW f A n R (fun j => if j = e then false else W j)) + dC N (setR (mW f A n R (fun j => if j = e then false else W j)) i fun b => (if b = i then 1 else 0) - (if rd A (p : Int) = ((b + 1 : Nat) : Int) then 1 else 0)) :=
    dC_add N i _ _ _ hiN (fun b hb => by
      unfold setR
      rw [if_pos rfl]
      exact row b hb) fun a b ha hb hai => by
      unfold setR
      rw [if_neg hai]
      exact ⟨old a b ha hb hai, old a b ha hb hai⟩
  have s2 := setR_add N (mW f A n R (fun j => if j = e then false else W j)) i hiN (fun b => (if b = i then 1 else 0) - (if rd A (p : Int) = ((b + 1 : Nat) : Int) then 1 else 0)) (fun b => if rd A (p : Int) = ((b + 1 : Nat) : Int) then 1 else 0) (fun b => if b = i then 1 else 0) (fun b hb => by omega)
  have s3 : dC N (setR (mW f A n R (fun j => if j = e then false else W j)) i fun b => if rd A (p : Int) = ((b + 1 : Nat) : Int) then 1 else 0) = 0 := by
    by_cases z : rd A (p : Int) = 0
    · exact setR_zero N _ i hiN _ fun b hb => if_neg (by omega)
    · obtain ⟨k, hk⟩ : ∃ k : Nat, rd A (p : Int) = ((k + 1 : Nat) : Int) := ⟨(rd A (p : Int)).toNat - 1, by omega⟩
      have hRk : R (k + 1) = true := by rw [hk, Int.toNat_natCast] at hRp; exact hRp
      have hki : k ≠ i := fun w => hRi (by rw [← w]; exact hRk)
      refine Eq.trans (dC_congr N _ (setR (mW f A n R (fun j => if j = e then false else W j)) i (mW f A n R (fun j => if j = e then false else W j) k)) fun a b ha hb => ?_) (setR_other N _ i k hiN (by omega) hki)
      unfold setR
      by_cases y : a = i
      · rw [if_pos y, if_pos y]
        unfold mW
        rw [if_pos hRk, hk]
        show (if ((k + 1 : Nat) : Int) = ((b + 1 : Nat) : Int) then (1 : Int) else 0) = if k = b then 1 else 0
        by_cases w : k = b
        · rw [if_pos w, if_pos (by omega)]
        · rw [if_neg w, if_neg (by omega)]
      · rw [if_neg y, if_neg y]
  have s4 : dC N (setR (mW f A n R (fun j => if j = e then false else W j)) i fun b => if b = i then 1 else 0) = dC N (mW f A n (fun v => R v || decide (v = i + 1)) (fun j => if j = e then false else W j)) := by
    refine dC_congr N _ _ fun a b ha hb => ?_
    unfold setR
    by_cases y : a = i
    · rw [if_pos y]
      unfold mW
      rw [if_pos (by rw [y]; simp), y]
      show (if b = i then (1 : Int) else 0) = if i = b then 1 else 0
      by_cases w : b = i
      · rw [if_pos w, if_pos w.symm]
      · rw [if_neg w, if_neg (fun u => w u.symm)]
    · rw [if_neg y]
      unfold mW
      have : (R (a + 1) || decide (a + 1 = i + 1)) = R (a + 1) := by rw [decide_eq_false (by omega), Bool.or_false]
      simp only [this]
  rw [s1, ← s4, s2, s3, Int.add_zero]
theorem mt (t f A : List Int) (n N : Nat) (O : VOk t f A n (N + 1)) : ∀ (k : Nat) (W R : Nat → Bool), cB (edL f n).length W = k → R 0 = true → dC N (mW f A n R W) = nF t f A n (N + 1) R W := by
  obtain ⟨H, ra, rs, rv⟩ := id O
  obtain ⟨hn12, h1, ht, hti, hf, hfl, hcon⟩ := id H
  intro k
  induction k with
  | zero =>
    intro W R hk h0
    by_cases hall : ∀ v, v < N + 1 → R v = true
    · rw [mt_all f A n N R W hall, nF_all t f A n (N + 1) R W hall ra]
    · obtain ⟨v, hv⟩ := Classical.not_forall.1 hall
      obtain ⟨hv, hRv⟩ := Classical.not_imp.1 hv
      have hRv' : R v = false := by cases w : R v with | true => exact absurd w hRv | false => rfl
      have hst : stuck f A n R W := fun d hd hw => by
        have l := least_lt f n hf hfl d hd
        have hlt := edL_lt f (least f d) l.2 n l.1
        have := cB_drop W (nmE f d) hw (edL f n).length hlt
        omega
      rw [mt_stuck t f A n N O R W h0 hst v hv hRv', nF_stuck t f A n (N + 1) O R W hst v hv hRv']
  | succ k ih =>
    intro W R hk h0
    by_cases hall : ∀ v, v < N + 1 → R v = true
    · rw [mt_all f A n N R W hall, nF_all t f A n (N + 1) R W hall ra]
    · obtain ⟨v, hv⟩ := Classical.not_forall.1 hall
      obtain ⟨hv, hRv⟩ := Classical.not_imp.1 hv
      have hRv' : R v = false := by cases w : R v with | true => exact absurd w hRv | false => rfl
      by_cases hst : stuck f A n R W
      · rw [mt_stuck t f A n N O R W h0 hst v hv hRv', nF_stuck t f A n (N + 1) O R W hst v hv hRv']
      · -- an edge leaves the roots
        obtain ⟨d, hd⟩ := Classical.not_forall.1 hst
        obtain ⟨hd, hd2⟩ := Classical.not_imp.1 hd
        obtain ⟨hw, hd3⟩ := Classical.not_imp.1 hd2
        obtain ⟨hRd, hRo⟩ := Classical.not_imp.1 hd3
        have l := least_lt f n hf hfl d hd
        have hlt : nmE f d < (edL f n).length := edL_lt f (least f d) l.2 n l.1
        have fr := hf.2 d hd
        have e0 : (((rd f (d : Int)).toNat : Nat) : Int) = rd f (d : Int) := by omega
        have hRo' : R (rd A (rd f (d : Int))).toNat = false := by cases w : R (rd A (rd f (d : Int))).toNat with | true => exact absurd w hRo | false => rfl
        obtain ⟨a, b, ha, hb, hab, e1, e2, e3, e4⟩ := edge_at f n hf hfl (nmE f d) hlt
        have gl : ∀ x : Nat, x < n → rd (geL f n n) (x : Int) = (nmE f x : Int) := fun x hx => geL_rd f n hf hfl x hx
        have hname : ∀ x : Nat, x < n → (nmE f x = nmE f d ↔ x = d ∨ x = (rd f (d : Int)).toNat) := by
          intro x hx
          have w := e4 x hx
          rw [gl x hx] at w
          have wd := (e4 d hd).1 (gl d hd)
          constructor
          · intro y
            have := w.1 (by omega)
            rcases wd with rfl | rfl
            · rw [e2, Int.toNat_natCast]; exact this
            · rw [e3, Int.toNat_natCast]; exact this.symm
          · rintro (rfl | rfl)
            · rfl
            · exact nm_flip f n hf hfl d hd
        have L : leaving f A n R W (nmE f d) d (rd f (d : Int)).toNat := ⟨hlt, hd, by omega, by omega, by rw [e0]; exact (hfl d hd).2, hname, hw, hRd, by rw [e0]; exact hRo'⟩
        have hk' := cB_drop W (nmE f d) hw (edL f n).length hlt
        rw [mt_step t f A n N O R W h0 _ _ _ L, nF_step t f A n (N + 1) O R W _ _ _ L, ih _ R (by omega) h0, ih _ _ (by omega) (by rw [h0]; rfl)]
theorem vOk_of (t f : List Int) (hm : isMap t f) : VOk t f (vtx t t.length) t.length (cyS t t.length t.length).2.length := by
  have H := mapOk_of t f hm
  obtain ⟨hn, h1, ht, hti, hf, hfl, hcon⟩ := id H
  have hr := fun x hx => vtx_range t t.length h1 ht x hx
  have hs := fun x y hx hy => vtx_same t t.length ht hti x y hx hy
  refine ⟨H, hr, hs, fun v hv => ?_⟩
  obtain ⟨L, l1, l2, l3⟩ := cyS_cl t t.length ht hti
  by_cases z : v ∈ L.map (fun (x : Nat) => (rd (vtx t t.length) (x : Int)).toNat)
  · obtain ⟨x, hx, e⟩ := List.mem_map.1 z
    have hx' := ((l2 x).1 hx).1
    have := hr x hx'
    exact ⟨x, hx', by omega⟩
  · exfalso
    have nd : (L.map (fun (x : Nat) => (rd (vtx t t.length) (x : Int)).toNat)).Nodup := by
      refine List.pairwise_map.2 (List.Pairwise.imp_of_mem (fun {a b} ha hb hab e => hab ?_) l1)
      have ha' := (l2 a).1 ha
      have hb' := (l2 b).1 hb
      have r1 := hr a ha'.1
      have r2 := hr b hb'.1
      have : Reach [t] t.length a b := (hs a b ha'.1 hb'.1).1 (by omega)
      exact lst_uniq _ (fun x y h => h.symm) a b ha'.2 hb'.2 this
    have := len_le_of_sub (v :: L.map (fun (x : Nat) => (rd (vtx t t.length) (x : Int)).toNat)) (List.range (cyS t t.length t.length).2.length) (List.nodup_cons.2 ⟨z, nd⟩) (fun x hx => by
      rcases List.mem_cons.1 hx with rfl | hx
      · exact List.mem_range.2 hv
      · obtain ⟨y, hy, rfl⟩ := List.mem_map.1 hx
        have := hr y ((l2 y).1 hy).1
        exact List.mem_range.2 (by omega))
    simp only [List.length_cons, List.length_map, List.length_range] at this
    omega
theorem rooted_one (t f A : List Int) (n nv : Nat) (O : VOk t f A n nv) (h1 : 1 ≤ nv) (s : Nat → Bool) : rooted t f A n (fun v => decide (v = 0)) s ↔ pN t f n (lstS s (edL f n).length) = 1 := by
  obtain ⟨H, ra, rs, rv⟩ := O
  obtain ⟨hn12, hn1, ht, hti, hf, hfl, hcon⟩ := id H
  constructor
  · intro h
    have all : ∀ x, x < n → Reach [t, flC f n (lstS s (edL f n).length)] n 0 x := by
      intro x hx
      obtain ⟨y0, hy0, a0, r0⟩ := h 0 hn1
      obtain ⟨y, hy, a1, r1⟩ := h x hx
      have b0 := ra y0 hy0
      have b1 := ra y hy
      have a0 := of_decide_eq_true a0
      have a1 := of_decide_eq_true a1
      have : Reach [t] n y0 y := (rs y0 y hy0 hy).1 (by omega)
      exact (r0.trans (reach_wide t _ n y0 y this)).trans r1.symm
    have : Cl n (Reach [t, flC f n (lstS s (edL f n).length)] n) 1 := by
      refine ⟨[0], by simp, fun x => ?_, rfl⟩
      rw [List.mem_singleton]
      constructor
      · rintro rfl
        exact ⟨hn1, fun i hi => by omega⟩
      · rintro ⟨hx, hl⟩
        by_cases z : x = 0
        · exact z
        · exact absurd (all x hx) (hl 0 (by omega))
    exact this.eq
  · intro h x hx
    obtain ⟨y, hy, ey⟩ := rv 0 h1
    have c := clN_cl n (Reach [t, flC f n (lstS s (edL f n).length)] n)
    have h' : clN n (Reach [t, flC f n (lstS s (edL f n).length)] n) = 1 := h
    rw [h'] at c
    exact ⟨y, hy, by rw [ey]; rfl, cl_one (fun x => Reach.refl _ _ x) (fun x y h => h.symm) (fun x y z h h' => h.trans h') c x y hx hy⟩
theorem nF_trees (t f A : List Int) (n nv : Nat) (O : VOk t f A n nv) (h1 : 1 ≤ nv) (hV : vN t n = nv) (Z : Int) : nF t f A n nv (fun v => decide (v = 0)) (fun _ => true) = valS t f n 0 0 Z := by
  unfold nF valS
  refine sumB_congr _ _ _ fun s _ => ?_
  rw [term_zero t f n O.1 Z _ (lstS_choice s _), cB_zero, if_pos (by omega), hV]
  have r := rooted_one t f A n nv O h1 s
  by_cases z : pN t f n (lstS s (edL f n).length) = 1 ∧ (lstS s (edL f n).length).length + 1 = nv
  · rw [if_pos z]
    exact ind_yes ⟨fun _ _ _ => rfl, z.2, r.2 z.1⟩
  · rw [if_neg z]
    exact ind_no fun h => z ⟨r.1 h.2.2, h.2.1⟩
theorem tree_det (t f A : List Int) (n N : Nat) (O : VOk t f A n (N + 1)) (hV : vN t n = N + 1) (Z : Int) : dC N (ent (tabT A f N n)) = valS t f n 0 0 Z := by
  rw [← nF_trees t f A n (N + 1) O (by omega) hV Z, ← mt t f A n N O _ _ _ rfl (by rfl)]
  refine dC_congr N _ _ fun a b ha hb => ?_
  unfold ent mW
  rw [tabT_row A f N n a ha, rowS_rd A f 1 N n _ b hb, if_neg (by simp)]
  unfold SS
  refine sm_congr _ _ n fun d hd => ?_
  rw [if_pos rfl, Nat.add_comm 1 a, Nat.add_comm 1 b]
theorem trees_small (t f : List Int) (n : Nat) (H : MapOk t f n) : 0 ≤ valS t f n 0 0 0 ∧ valS t f n 0 0 0 ≤ 64 := by
  have h := fun s : Nat → Bool => term_zero t f n H 0 (lstS s (edL f n).length) (lstS_choice s _)
  have hh := edL_half f n H.2.2.2.2.1 H.2.2.2.2.2.1
  have hn := H.1
  have key : ∀ (E : Nat) (F : (Nat → Bool) → Int), (∀ s, 0 ≤ F s ∧ F s ≤ 1) → 0 ≤ sumB E F ∧ sumB E F ≤ ((2 ^ E : Nat) : Int) := by
    intro E
    induction E with
    | zero =>
      intro F hF
      have := hF (fun _ => false)
      simp only [sumB, Nat.pow_zero]
      omega
    | succ E ih =>
      intro F hF
      have h1 := ih (fun s => F (fun j => if j = E then false else s j)) fun s => hF _
      have h2 := ih (fun s => F (fun j => if j = E then true else s j)) fun s => hF _
      simp only [sumB]
      rw [show ((2 ^ (E + 1) : Nat) : Int) = ((2 ^ E : Nat) : Int) + ((2 ^ E : Nat) : Int) by rw [Nat.pow_succ]; omega]
      omega
  obtain ⟨a, b⟩ := key (edL f n).length (fun s => tmV t f n 0 0 0 (lstS s (edL f n).length)) fun s => by
    rw [h s]
    split <;> decide
  have hp : 2 ^ (edL f n).length ≤ 64 := by
    have : 2 ^ (edL f n).length ≤ 2 ^ 6 := Nat.pow_le_pow_right (by omega) (by omega)
    omega
  exact ⟨a, Int.le_trans b (by omega)⟩
theorem matrixI_ev (t f : List Int) (hm : isMap t f) : Ev (fun k => impl_RibbonMatrix.f k t f) (valS t f t.length 0 0 0) := by
  have H0 := mapOk_of t f hm
  obtain ⟨hn, h1, ht', hti, hf', hfl, hcon⟩ := id H0
  obtain ⟨b, _, b2, b3⟩ := mapValid_both t f (by omega) (by have := hf'.1; omega)
  have hb : b = true := b3.2 hm
  subst hb
  have O := vOk_of t f hm
  have hl := vtx_len t t.length
  have hr := fun i hi => vtx_range t t.length h1 ht' i hi
  have hmany := cyS_many t t.length t.length
  have hone := cyS_one t t.length h1 t.length h1
  have hV : vN t t.length = (cyS t t.length t.length).2.length := (cyS_cl t t.length ht' hti).eq
  obtain ⟨N, hN⟩ : ∃ N, (cyS t t.length t.length).2.length = N + 1 := ⟨_, (Nat.sub_add_cancel hone).symm⟩
  have H : Num (vtx t t.length) f t.length (N + 1) := ⟨hn, by omega, by omega, hf', hl, fun i hi => by have := hr i hi; rwa [hN] at this⟩
  have sqT : sq (tabT (vtx t t.length) f N t.length) N := ⟨tabT_len _ _ _ _, fun i hi => by rw [tabT_row _ _ _ _ i hi, rowS_len]⟩
  have dI := implDet_ev N _ (by omega) sqT
  rw [hN] at O hV
  rw [tree_det t f (vtx t t.length) t.length N O hV 0] at dI
  obtain ⟨s0, s1⟩ := trees_small t f t.length H0
  rw [w64 (by omega) (by omega)] at dI
  unfold impl_RibbonMatrix.f
  refine Ev.bind b2 ?_
  simp only [if_true]
  refine Ev.bind (implCyc_ev t t.length (by omega) ht') ?_
  refine Ev.bind (implVert_ev t f t.length hn ht') ?_
  have wN : wrap64 (((cyS t t.length t.length).2.length : Int) - 1) = (N : Int) := by rw [hN, w64 (by omega) (by omega)]; omega
  have e0 : List.replicate N ([] : List Int) = tabM N 0 := by
    refine ll_ext _ _ (by simp [tabM_len]) fun q hq => ?_
    have hq' : q < N := by simpa using hq
    rw [tabM_row N 0 q hq', if_neg (by omega), ll_rd _ _ hq]
    simp
  simp only [wN, show (0 : Int) ≤ (N : Int) by omega, Int.toNat_natCast, show N ≤ 11728124029610 by omega, if_true, Option.bind_some, e0, tabM_len]
  exact im_l0 t _ f t.length N H _ (im_l1 _ f t.length N H _ dI t.length 0 (by omega) (by omega)) N 0 (by omega) (by omega)
theorem trees_mirror (t f b : List Int) (n : Nat) (H : MapOk t f n) (hb : leadsBack n b t) (Z : Int) : valS b f n 0 0 Z = valS t f n 0 0 Z := by
  obtain ⟨hn, h1, ht, hti, hf, hfl, hcon⟩ := id H
  have HB := back_ok H hb
  have eV : vN b n = vN t n := by
    unfold vN
    exact ((clN_cl n (Reach [t] n)).rel fun x y => (back_reach1 b t n ht hti hb x y).symm).eq
  unfold valS
  refine sumB_congr _ _ _ fun s _ => ?_
  have eP : pN b f n (lstS s (edL f n).length) = pN t f n (lstS s (edL f n).length) := by
    unfold pN
    exact ((clN_cl n (Reach [t, flC f n (lstS s (edL f n).length)] n)).rel fun x y => (back_reach2 b t _ n ht hti hb x y).symm).eq
  rw [term_zero b f n HB Z _ (lstS_choice s _), term_zero t f n H Z _ (lstS_choice s _), eP, eV]
theorem nF_nonneg (t f A : List Int) (n nv : Nat) (R W : Nat → Bool) : 0 ≤ nF t f A n nv R W := by
  have key : ∀ (E : Nat) (F : (Nat → Bool) → Int), (∀ s, 0 ≤ F s) → 0 ≤ sumB E F := by
    intro E
    induction E with
    | zero => intro F hF; exact hF _
    | succ E ih =>
      intro F hF
      have h1 := ih (fun s => F (fun j => if j = E then false else s j)) fun s => hF _
      have h2 := ih (fun s => F (fun j => if j = E then true else s j)) fun s => hF _
      simp only [sumB]
      omega
  refine key _ _ fun s => ?_
  unfold ind
  split <;> decide
theorem stuck_all (t f A : List Int) (n nv : Nat) (O : VOk t f A n nv) (R W : Nat → Bool) (hs : stuck f A n R W) (hr : rooted t f A n R W) (v : Nat) (hv : v < nv) : R v = true := by
  obtain ⟨H, ra, rs, rv⟩ := O
  obtain ⟨hn12, h1, ht, hti, hf, hfl, hcon⟩ := id H
  obtain ⟨x, hx, ex⟩ := rv v hv
  obtain ⟨y, hy, y1, y2⟩ := hr x hx
  have := (y2 (fun z => z < n → R (rd A (z : Int)).toNat = true) ?_).2 (fun _ => y1) hx
  · rw [ex, Int.toNat_natCast] at this
    exact this
  · intro L hL k hk
    rcases List.mem_cons.1 hL with rfl | hL
    · have r := ht.2 k hk
      have e : rd A (k : Int) = rd A ((rd L (k : Int)).toNat : Int) := (rs k _ hk (by omega)).2 (Reach.step (by simp) hk)
      show (k < n → R (rd A (k : Int)).toNat = true) ↔ ((rd L (k : Int)).toNat < n → R (rd A ((rd L (k : Int)).toNat : Int)).toNat = true)
      rw [← e]
      exact ⟨fun q _ => q hk, fun q _ => q (by omega)⟩
    · rw [List.mem_singleton.1 hL, flC_rd f n _ k hk, chB_lst f n hf hfl W k hk]
      have fr := hf.2 k hk
      by_cases z : W (edL f (least f k)).length = true
      · rw [if_pos z]
        have e0 : (((rd f (k : Int)).toNat : Nat) : Int) = rd f (k : Int) := by omega
        constructor
        · intro q _
          rw [e0]
          exact hs k hk z (q hk)
        · intro q _
          have := hs (rd f (k : Int)).toNat (by omega) (by rw [nm_flip f n hf hfl k hk]; exact z) (q (by omega))
          rwa [e0, (hfl k hk).2] at this
      · rw [if_neg z, Int.toNat_natCast]
theorem nF_pos (t f A : List Int) (n nv : Nat) (O : VOk t f A n nv) : ∀ (k : Nat) (W R : Nat → Bool), cB (edL f n).length W = k → rooted t f A n R W → 1 ≤ nF t f A n nv R W := by
  obtain ⟨H, ra, rs, rv⟩ := id O
  obtain ⟨hn12, h1, ht, hti, hf, hfl, hcon⟩ := id H
  intro k
  induction k with
  | zero =>
    intro W R hk hr
    have hst : stuck f A n R W := fun d hd hw => by
      have l := least_lt f n hf hfl d hd
      have hlt := edL_lt f (least f d) l.2 n l.1
      have := cB_drop W (nmE f d) hw (edL f n).length hlt
      omega
    rw [nF_all t f A n nv R W (fun v hv => stuck_all t f A n nv O R W hst hr v hv) ra]
    decide
  | succ k ih =>
    intro W R hk hr
    by_cases hst : stuck f A n R W
    · rw [nF_all t f A n nv R W (fun v hv => stuck_all t f A n nv O R W hst hr v hv) ra]
      decide
    · obtain ⟨d, hd⟩ := Classical.not_forall.1 hst
      obtain ⟨hd, hd2⟩ := Classical.not_imp.1 hd
      obtain ⟨hw, hd3⟩ := Classical.not_imp.1 hd2
      obtain ⟨hRd, hRo⟩ := Classical.not_imp.1 hd3
      have l := least_lt f n hf hfl d hd
      have hlt : nmE f d < (edL f n).length := edL_lt f (least f d) l.2 n l.1
      have fr := hf.2 d hd
      have e0 : (((rd f (d : Int)).toNat : Nat) : Int) = rd f (d : Int) := by omega
      have hRo' : R (rd A (rd f (d : Int))).toNat = false := by cases w : R (rd A (rd f (d : Int))).toNat with | true => exact absurd w hRo | false => rfl
      obtain ⟨a, b, ha, hb, hab, e1, e2, e3, e4⟩ := edge_at f n hf hfl (nmE f d) hlt
      have gl : ∀ x : Nat, x < n → rd (geL f n n) (x : Int) = (nmE f x : Int) := fun x hx => geL_rd f n hf hfl x hx
      have hname : ∀ x : Nat, x < n → (nmE f x = nmE f d ↔ x = d ∨ x = (rd f (d : Int)).toNat) := by
        intro x hx
        have w := e4 x hx
        rw [gl x hx] at w
        have wd := (e4 d hd).1 (gl d hd)
        constructor
        · intro y
          have := w.1 (by omega)
          rcases wd with rfl | rfl
          · rw [e2, Int.toNat_natCast]; exact this
          · rw [e3, Int.toNat_natCast]; exact this.symm
        · rintro (rfl | rfl)
          · rfl
          · exact nm_flip f n hf hfl d hd
      have L : leaving f A n R W (nmE f d) d (rd f (d : Int)).toNat := ⟨hlt, hd, by omega, by omega, by rw [e0]; exact (hfl d hd).2, hname, hw, hRd, by rw [e0]; exact hRo'⟩
      have hk' := cB_drop W (nmE f d) hw (edL f n).length hlt
      have w1 : W = insB (nmE f d) true (fun j => if j < nmE f d then W j else W (j + 1)) := by
        funext j
        show W j = if j < nmE f d then (if j < nmE f d then W j else W (j + 1)) else if j = nmE f d then true else (if j - 1 < nmE f d then W (j - 1) else W (j - 1 + 1))
        by_cases y : j < nmE f d
        · rw [if_pos y, if_pos y]
        · rw [if_neg y]
          by_cases z : j = nmE f d
          · rw [if_pos z, z, hw]
          · rw [if_neg z, if_neg (by omega : ¬ j - 1 < nmE f d), show j - 1 + 1 = j by omega]
      have w0 : (fun j => if j = nmE f d then false else W j) = insB (nmE f d) false (fun j => if j < nmE f d then W j else W (j + 1)) := by
        funext j
        show (if j = nmE f d then false else W j) = if j < nmE f d then (if j < nmE f d then W j else W (j + 1)) else if j = nmE f d then false else (if j - 1 < nmE f d then W (j - 1) else W (j - 1 + 1))
        by_cases y : j < nmE f d
        · rw [if_pos y, if_pos y, if_neg (by omega : ¬ j = nmE f d)]
        · rw [if_neg y]
          by_cases z : j = nmE f d
          · rw [if_pos z, if_pos z]
          · rw [if_neg z, if_neg z, if_neg (by omega : ¬ j - 1 < nmE f d), show j - 1 + 1 = j by omega]
      have hr' := hr
      rw [w1] at hr'
      have hr2 := (rooted_step t f A n nv O R (nmE f d) d (rd f (d : Int)).toNat hlt hd (by omega) (by omega) (by rw [e0]; exact (hfl d hd).2) hname hRd _).1 hr'
      rw [← w0] at hr2
      rw [nF_step t f A n nv O R W _ _ _ L]
      have p1 := nF_nonneg t f A n nv R (fun j => if j = nmE f d then false else W j)
      have p2 := ih (fun j => if j = nmE f d then false else W j) (fun v => R v || decide (v = (rd A ((rd f (d : Int)).toNat : Int)).toNat)) (by omega) hr2
      omega
theorem trees_pos (t f : List Int) (hm : isMap t f) (Z : Int) : 1 ≤ valS t f t.length 0 0 Z := by
  have O := vOk_of t f hm
  obtain ⟨H, ra, rs, rv⟩ := id O
  obtain ⟨hn12, h1, ht, hti, hf, hfl, hcon⟩ := id H
  have hV : vN t t.length = (cyS t t.length t.length).2.length := (cyS_cl t t.length ht hti).eq
  have hone := cyS_one t t.length h1 t.length h1
  rw [← nF_trees t f _ t.length _ O hone hV Z]
  refine nF_pos t f _ t.length _ O _ _ _ rfl fun x hx => ?_
  obtain ⟨y, hy, ey⟩ := rv 0 hone
  refine ⟨y, hy, by rw [ey]; rfl, ?_⟩
  have hall : flC f t.length (lstS (fun _ => true) (edL f t.length).length) = f := flC_all f t.length hf hfl _ fun j hj => (mem_lstS _ _ _).2 ⟨j, hj, rfl, rfl⟩
  rw [hall]
  exact hcon x y hx hy
theorem back_run (t : List Int) (n : Nat) (hn : n ≤ 12) (ht : inR n t) (hti : injR n t) : ∀ (d i : Nat) (b : List Int), n - i = d → i ≤ n → b.length = n → (∀ j : Nat, j < i → rd b (rd t j) = j) → ∃ b', Ev (fun k => impl_back.l0 k b t n i) b' ∧ leadsBack n b' t
  | 0, i, b, hd, hi, hb, hj => by
    have : i = n := by omega
    subst this
    refine ⟨b, Ev.s ?_, hb, hj⟩
    simp only [impl_back.l0, show ¬ (i : Int) < (i : Int) by omega, if_false]
    exact Ev.const rfl
  | d + 1, i, b, hd, hi, hb, hj => by
    have tr := ht.2 i (by omega)
    obtain ⟨b', e, h⟩ := back_run t n hn ht hti d (i + 1) (b.set (rd t i).toNat (i : Int)) (by omega) (by omega) (by simpa using hb) (fun j hj' => by
      have tj := ht.2 j (by omega)
      have ej : (((rd t j).toNat : Nat) : Int) = rd t j := by omega
      by_cases z : j = i
      · subst z
        have h0 := rd_set_self b (rd t j).toNat (j : Int) (by omega)
        rw [ej] at h0
        exact h0
      · have ne : (rd t i).toNat ≠ (rd t j).toNat := fun e => by
          have := hti i j (by omega) (by omega) (by omega)
          omega
        rw [← ej, rd_set_ne _ _ _ _ ne, ej]
        exact hj j (by omega))
    refine ⟨b', Ev.s ?_, h⟩
    simp only [impl_back.l0, ht.1, hb, show (i : Int) < (n : Int) by omega, show (0 : Int) ≤ (i : Int) by omega, tr.1, tr.2, if_true, w64n (show i < 4611686018427387904 by omega)]
    exact e
theorem mapMirror_ev (t f : List Int) (hm : isMap t f) (ht : t.length ≤ 1048576) (hf : f.length ≤ 1048576) : ∃ b : List Int, Ev (fun k => impl_MapMirror.f k t f) (b, f, true) ∧ leadsBack t.length b t := by
  obtain ⟨hn, h1, ht', hti, hf', hfl, hcon⟩ := mapOk_of t f hm
  obtain ⟨b, _, b2, b3⟩ := mapValid_both t f ht hf
  have hb : b = true := b3.2 hm
  subst hb
  have hc : slices_Clone_int_int.f f = some f := by
    unfold slices_Clone_int_int.f
    rw [if_pos (by omega)]
  obtain ⟨q, q1, q2⟩ := back_run t t.length hn ht' hti t.length 0 (List.replicate t.length 0) (by omega) (by omega) (by simp) (fun j hj => by omega)
  refine ⟨q, ?_, q2⟩
  unfold impl_MapMirror.f
  refine Ev.bind b2 ?_
  simp only [if_true]
  refine Ev.bind (a := q) ?_ ?_
  · unfold impl_back.f
    simp only [show (0 : Int) ≤ (t.length : Int) by omega, Int.toNat_natCast, show t.length ≤ 35184372088832 by omega, if_true]
    exact q1
  · simp only [hc, Option.bind_some]
    exact Ev.const rfl
theorem mapDualD_ev (t f : List Int) (hm : isMap t f) (ht : t.length ≤ 1048576) (hf : f.length ≤ 1048576) : Ev (fun k => impl_MapDual.f k t f) (faces t f t.length, f, true) := by
  obtain ⟨hn, h1, ht', hti, hf', hfl, hcon⟩ := mapOk_of t f hm
  obtain ⟨b, _, b2, b3⟩ := mapValid_both t f ht hf
  have hb : b = true := b3.2 hm
  subst hb
  have hc : slices_Clone_int_int.f f = some f := by
    unfold slices_Clone_int_int.f
    rw [if_pos (by omega)]
  unfold impl_MapDual.f
  refine Ev.bind b2 ?_
  simp only [if_true]
  refine Ev.bind (mulF_ev t f t.length hn ht' hf') ?_
  simp only [hc, Option.bind_some]
  exact Ev.const rfl
theorem Cl.le {n : Nat} {R : Nat → Nat → Prop} {k : Nat} (h : Cl n R k) : k ≤ n := by
  obtain ⟨l, h1, h2⟩ := Cl.ex n R
  rw [h.uniq h1]
  exact h2
theorem genusI_ev (t f : List Int) (hm : isMap t f) (ht : t.length ≤ 1048576) (hf : f.length ≤ 1048576) (V F G : Nat) (hV : Cl t.length (Reach [t] t.length) V) (hF : Cl t.length (Reach [faces t f t.length] t.length) F) (hG : 2 + (edL f t.length).length = V + F + 2 * G) : Ev (fun k => impl_MapGenus.f k t f) (G : Int) := by
  have H := mapOk_of t f hm
  obtain ⟨hn, h1, ht', hti, hf', hfl, hcon⟩ := id H
  obtain ⟨b, _, b2, b3⟩ := mapValid_both t f ht hf
  have hb : b = true := b3.2 hm
  subst hb
  have hFi := faces_inR t f t.length ht' hf'
  have hV' := hV.uniq (cyS_cl t t.length ht' hti)
  have hF' := hF.uniq (cyS_cl _ _ hFi (faces_inj t f t.length ht' hti hf' hfl))
  have v1 := hV.le
  have v2 := hF.le
  have hh := edL_half f t.length hf' hfl
  have hlen := hf'.1
  unfold impl_MapGenus.f
  refine Ev.bind b2 ?_
  simp only [if_true]
  refine Ev.bind (a := (G : Int)) ?_ (Ev.const rfl)
  unfold impl_genusOf.f
  refine Ev.bind (implCyc_ev t t.length (by omega) ht') ?_
  refine Ev.bind (mulF_ev t f t.length hn ht' hf') ?_
  refine Ev.bind (implCyc_ev _ t.length (by omega) hFi) (Ev.const ?_)
  rw [← hV', ← hF']
  congr 1
  rw [w64 (x := 2 - (V : Int)) (by omega) (by omega), w64 (x := (f.length : Int) / 2) (by omega) (by omega), w64 (x := 2 - (V : Int) + (f.length : Int) / 2) (by omega) (by omega), w64 (x := 2 - (V : Int) + (f.length : Int) / 2 - F) (by omega) (by omega)]
  rw [show 2 - (V : Int) + (f.length : Int) / 2 - F = (G : Int) * 2 by omega, Int.mul_tdiv_cancel _ (by decide), w64 (by omega) (by omega)]
theorem xor_nonneg (a b : Int) (ha : 0 ≤ a) (hb : 0 ≤ b) (ha' : a < 9223372036854775808) (hb' : b < 9223372036854775808) : 0 ≤ Go.bits .xor .i64 a b := by
  obtain ⟨n, rfl⟩ := Int.eq_ofNat_of_zero_le ha
  obtain ⟨m, rfl⟩ := Int.eq_ofNat_of_zero_le hb
  have hn : n % 2 ^ 64 = n := Nat.mod_eq_of_lt (by omega)
  have hm : m % 2 ^ 64 = m := Nat.mod_eq_of_lt (by omega)
  have hx : n ^^^ m < 2 ^ 63 := Nat.xor_lt_two_pow (by omega) (by omega)
  have e : Go.bits .xor .i64 (n : Int) (m : Int) = IntKind.i64.wrap ((n ^^^ m : Nat) : Int) := by
    simp only [Go.bits, BitVec.ofInt_natCast]
    show IntKind.i64.wrap (((BitVec.ofNat 64 n ^^^ BitVec.ofNat 64 m).toNat : Nat) : Int) = _
    rw [BitVec.toNat_xor, BitVec.toNat_ofNat, BitVec.toNat_ofNat, hn, hm]
  rw [e, IntKind.wrap_i64]
  omega
def bytesOk (l : List Int) : Prop := l.length ≤ 2000 ∧ ∀ x ∈ l, 0 ≤ x ∧ x ≤ 255
theorem rd_byte (l : List Int) (h : bytesOk l) (i : Int) : 0 ≤ rd l i ∧ rd l i ≤ 255 := by
  unfold rd
  by_cases hi : i.toNat < l.length
  · rw [List.getD_eq_getElem?_getD, List.getElem?_eq_getElem hi]
    exact h.2 _ (List.getElem_mem hi)
  · rw [List.getD_eq_getElem?_getD, List.getElem?_eq_none (by omega)]
    decide
theorem pick_ev (l : List Int) (h : bytesOk l) (p : Int) (hp : 0 ≤ p) (hp' : p ≤ 1000000) (n : Int) (hn : 1 ≤ n) (hn' : n ≤ 1000000) : ∃ v, Ev (fun k => spec_l6Rd_pick.f k l p n) (v, p + 1) ∧ 0 ≤ v ∧ v < n := by
  have w0 : wrap64 (p + 1) = p + 1 := w64 (by omega) (by omega)
  have w1 : wrap64 (p + 1 - 1) = p := by rw [w64 (by omega) (by omega)]; omega
  have hl := h.1
  unfold spec_l6Rd_pick.f
  simp only [show ¬ n < 1 by omega, if_false, w0]
  by_cases hz : l.length = 0
  · refine ⟨0, Ev.s ?_, by omega, by omega⟩
    have : (((l.length : Int)) == 0) = true := by simp [hz]
    simp only [this, spec_l6Rd_pick.j0, if_true]
    exact Ev.const rfl
  · have hb : (((l.length : Int)) == 0) = false := by rw [beq_eq_false_iff_ne]; omega
    have hn0 : ¬ n = 0 := by omega
    by_cases hlt : p < (l.length : Int)
    · have hr := rd_byte l h p
      have wr : wrap64 (rd l p) = rd l p := w64 (by omega) (by omega)
      refine ⟨Int.tmod (rd l p) n, Ev.s ?_, Int.tmod_nonneg _ (by omega), Int.tmod_lt_of_pos _ (by omega)⟩
      simp only [hb, spec_l6Rd_pick.j0, w1, hlt, hp, hn0, wr, Bool.false_eq_true, if_true, if_false]
      exact Ev.const rfl
    · have hl0 : ¬ (l.length : Int) = 0 := by omega
      have wk : wrap64 (p * 7) = p * 7 := w64 (by omega) (by omega)
      have wk3 : wrap64 (p * 7 + 3) = p * 7 + 3 := w64 (by omega) (by omega)
      have t1 := Int.tmod_nonneg (a := p) (l.length : Int) hp
      have t2 := Int.tmod_lt_of_pos p (b := (l.length : Int)) (by omega)
      have t3 := Int.tmod_nonneg (a := p * 7 + 3) (l.length : Int) (by omega)
      have t4 := Int.tmod_lt_of_pos (p * 7 + 3) (b := (l.length : Int)) (by omega)
      have r1 := rd_byte l h (Int.tmod p (l.length : Int))
      have r2 := rd_byte l h (Int.tmod (p * 7 + 3) (l.length : Int))
      have d1 : 0 ≤ Int.tdiv p (l.length : Int) := Int.tdiv_nonneg hp (by omega)
      have d2 : Int.tdiv p (l.length : Int) ≤ p := Int.tdiv_le_self _ hp
      obtain ⟨X, hX, hX0, hX1⟩ : ∃ X, (wrap64 ((wrap64 ((wrap64 ((wrap64 ((wrap64 (rd l (Int.tmod p (l.length : Int)))) * 131)) + (wrap64 ((wrap64 (rd l (Int.tmod (p * 7 + 3) (l.length : Int)))) * 1117)))) + (wrap64 (p * 29)))) + (wrap64 ((wrap64 (Int.tdiv p (l.length : Int))) * 53)))) = X ∧ 0 ≤ X ∧ X < 4611686018427387904 := by
        refine ⟨_, rfl, ?_, ?_⟩
        all_goals
          generalize rd l (Int.tmod p (l.length : Int)) = a at *
          generalize rd l (Int.tmod (p * 7 + 3) (l.length : Int)) = b at *
          generalize Int.tdiv p (l.length : Int) = c at *
          rw [w64 (x := a) (by omega) (by omega), w64 (x := b) (by omega) (by omega), w64 (x := a * 131) (by omega) (by omega), w64 (x := b * 1117) (by omega) (by omega), w64 (x := a * 131 + b * 1117) (by omega) (by omega), w64 (x := p * 29) (by omega) (by omega), w64 (x := a * 131 + b * 1117 + p * 29) (by omega) (by omega), w64 (x := c) (by omega) (by omega), w64 (x := c * 53) (by omega) (by omega), w64 (x := a * 131 + b * 1117 + p * 29 + c * 53) (by omega) (by omega)]
          omega
      have hd : 0 ≤ wrap64 (Int.tdiv X 64) ∧ wrap64 (Int.tdiv X 64) < 9223372036854775808 := by
        have := Int.tdiv_nonneg hX0 (show (0 : Int) ≤ 64 by decide)
        have := Int.tdiv_le_self 64 hX0
        rw [w64 (by omega) (by omega)]
        omega
      have hx := xor_nonneg X (wrap64 (Int.tdiv X 64)) hX0 hd.1 (by omega) hd.2
      refine ⟨Int.tmod (Go.bits .xor .i64 X (wrap64 (Int.tdiv X 64))) n, Ev.s ?_, Int.tmod_nonneg _ hx, Int.tmod_lt_of_pos _ (by omega)⟩
      simp only [hb, spec_l6Rd_pick.j0, w1, hlt, hl0, wk, wk3, t1, t2, t3, t4, hn0, hX, Bool.false_eq_true, if_true, if_false]
      exact Ev.const rfl
theorem open_ev (l : List Int) (hb : ∀ x ∈ l, (Lit.int .u8 x).wf = true) : ∃ l', spec_l6Open.f l = some (l', 0) ∧ bytesOk l' := by
  have hb' : ∀ x ∈ l, 0 ≤ x ∧ x ≤ 255 := by
    intro x hx
    have := hb x hx
    simp only [Lit.wf, IntKind.min, IntKind.max, IntKind.signed, IntKind.bits, Bool.and_eq_true, decide_eq_true_eq, Bool.false_eq_true, if_false] at this
    omega
  unfold spec_l6Open.f
  by_cases h : (l.length : Int) > 2000
  · refine ⟨l.take 2000, ?_, ?_, fun x hx => hb' x (List.mem_of_mem_take hx)⟩
    · rw [if_pos h, if_pos (by omega)]
    · rw [List.length_take]; omega
  · exact ⟨l, by rw [if_neg h], by omega, hb'⟩
theorem push_self (o : List Int) (i : Nat) (ho : inR i o) (hi : injR i o) : inR (i + 1) (o ++ [(i : Int)]) ∧ injR (i + 1) (o ++ [(i : Int)]) := by
  have last : rd (o ++ [(i : Int)]) (i : Int) = i := by
    rw [rd_lt _ _ (by simp [ho.1]), List.getElem_append_right (by rw [ho.1]; exact Nat.le_refl _)]
    simp
  have old : ∀ j : Nat, j < i → rd (o ++ [(i : Int)]) (j : Int) = rd o (j : Int) := fun j hj => rd_app_lt _ _ _ (by rw [ho.1]; exact hj)
  refine ⟨⟨by simp [ho.1], fun j hj => ?_⟩, fun j k hj hk e => ?_⟩
  · by_cases h : j < i
    · rw [old j h]
      have := ho.2 j h
      omega
    · rw [show j = i by omega, last]
      omega
  · by_cases h : j < i
    · have a := ho.2 j h
      by_cases h' : k < i
      · rw [old j h, old k h'] at e
        exact hi j k h h' e
      · rw [show k = i by omega, last, old j h] at e
        omega
    · by_cases h' : k < i
      · have a := ho.2 k h'
        rw [show j = i by omega, last, old k h'] at e
        omega
      · omega
theorem set_perm (o : List Int) (n a b : Nat) (ho : inR n o) (hi : injR n o) (ha : a < n) (hb : b < n) : inR n ((o.set a (rd o b)).set b (rd o a)) ∧ injR n ((o.set a (rd o b)).set b (rd o a)) := by
  have val : ∀ j : Nat, j < n → rd ((o.set a (rd o b)).set b (rd o a)) (j : Int) = if b = j then rd o a else if a = j then rd o b else rd o j := by
    intro j hj
    by_cases e1 : b = j
    · subst e1
      rw [rd_set_self _ _ _ (by simp [ho.1]; exact hb), if_pos rfl]
    · rw [rd_set_ne _ _ _ _ e1, if_neg e1]
      by_cases e2 : a = j
      · subst e2
        rw [rd_set_self _ _ _ (by rw [ho.1]; exact ha), if_pos rfl]
      · rw [rd_set_ne _ _ _ _ e2, if_neg e2]
  have ra := ho.2 a ha
  have rb := ho.2 b hb
  refine ⟨⟨by simp [ho.1], fun j hj => ?_⟩, fun j k hj hk e => ?_⟩
  · rw [val j hj]
    have := ho.2 j hj
    split
    · exact ra
    · split
      · exact rb
      · exact this
  · rw [val j hj, val k hk] at e
    have i1 := hi a b ha hb
    have i2 := hi a j ha hj
    have i3 := hi a k ha hk
    have i4 := hi b j hb hj
    have i5 := hi b k hb hk
    have i6 := hi j k hj hk
    by_cases c1 : b = j
    · rw [if_pos c1] at e
      by_cases c2 : b = k
      · omega
      · rw [if_neg c2] at e
        by_cases c3 : a = k
        · rw [if_pos c3] at e
          have := i1 e
          omega
        · rw [if_neg c3] at e
          exact absurd (i3 e) c3
    · rw [if_neg c1] at e
      by_cases c4 : a = j
      · rw [if_pos c4] at e
        by_cases c2 : b = k
        · rw [if_pos c2] at e
          have := i1 e.symm
          omega
        · rw [if_neg c2] at e
          by_cases c3 : a = k
          · omega
          · rw [if_neg c3] at e
            exact absurd (i5 e) c2
      · rw [if_neg c4] at e
        by_cases c2 : b = k
        · rw [if_pos c2] at e
          exact absurd (i2 e.symm) c4
        · rw [if_neg c2] at e
          by_cases c3 : a = k
          · rw [if_pos c3] at e
            exact absurd (i4 e.symm) c1
          · rw [if_neg c3] at e
            exact i6 e
theorem push_swap (o : List Int) (i k : Nat) (hk : k < i) (ho : inR i o) (hi : injR i o) : inR (i + 1) ((o ++ [rd o k]).set k (i : Int)) ∧ injR (i + 1) ((o ++ [rd o k]).set k (i : Int)) := by
  obtain ⟨p1, p2⟩ := push_self o i ho hi
  have e : ((o ++ [(i : Int)]).set k (rd (o ++ [(i : Int)]) i)).set i (rd (o ++ [(i : Int)]) k) = (o ++ [rd o k]).set k (i : Int) := by
    have last : rd (o ++ [(i : Int)]) (i : Int) = i := by
      rw [rd_lt _ _ (by simp [ho.1]), List.getElem_append_right (by rw [ho.1]; exact Nat.le_refl _)]
      simp
    have last' : ∀ v : Int, rd (o ++ [v]) (i : Int) = v := by
      intro v
      rw [rd_lt _ _ (by simp [ho.1]), List.getElem_append_right (by rw [ho.1]; exact Nat.le_refl _)]
      simp
    refine list_ext _ _ (by simp) fun j hj => ?_
    have hj' : j < i + 1 := by simp [ho.1] at hj; omega
    have l1 : (o ++ [(i : Int)]).length = i + 1 := by simp [ho.1]
    have l2 : (o ++ [rd o k]).length = i + 1 := by simp [ho.1]
    rw [last, rd_app_lt o _ k (by rw [ho.1]; exact hk)]
    by_cases e1 : i = j
    · subst e1
      rw [rd_set_self _ _ _ (by simp [ho.1]), rd_set_ne _ _ _ _ (by omega), last']
    · rw [rd_set_ne _ _ _ _ e1]
      by_cases e2 : k = j
      · subst e2
        rw [rd_set_self _ _ _ (by omega), rd_set_self _ _ _ (by omega)]
      · rw [rd_set_ne _ _ _ _ e2, rd_set_ne _ _ _ _ e2, rd_app_lt _ _ _ (by rw [ho.1]; omega), rd_app_lt _ _ _ (by rw [ho.1]; omega)]
  have := set_perm (o ++ [(i : Int)]) (i + 1) k i p1 p2 (by omega) (by omega)
  rwa [e] at this
theorem perm_run (l : List Int) (h : bytesOk l) (n : Nat) (hn : n ≤ 100) : ∀ (d i : Nat) (o : List Int) (p : Int), n - i = d → i ≤ n → inR i o → injR i o → 0 ≤ p → p + d ≤ 1000 → ∃ (o' : List Int), Ev (fun k => spec_l91Perm.l0 k n o i l p) (o', p + d) ∧ inR n o' ∧ injR n o'
  | 0, i, o, p, hd, hi, ho, hoi, hp, hp' => by
    have : i = n := by omega
    subst this
    refine ⟨o, Ev.s ?_, ho, hoi⟩
    simp only [spec_l91Perm.l0, show ¬ (i : Int) < (i : Int) by omega, if_false]
    exact Ev.const (by simp)
  | d + 1, i, o, p, hd, hi, ho, hoi, hp, hp' => by
    obtain ⟨v, hv, v0, v1⟩ := pick_ev l h p hp (by omega) ((i + 1 : Nat) : Int) (by omega) (by omega)
    have w1 : i < 4611686018427387904 := by omega
    have w2 : o.length < 17592186044416 := by rw [ho.1]; omega
    have w3 : o.length = i := ho.1
    by_cases e : v = (i : Int)
    · obtain ⟨q1, q2⟩ := push_self o i ho hoi
      obtain ⟨o', r1, r2, r3⟩ := perm_run l h n hn d (i + 1) _ (p + 1) (by omega) (by omega) q1 q2 (by omega) (by omega)
      refine ⟨o', Ev.s ?_, r2, r3⟩
      simp only [spec_l91Perm.l0, show (i : Int) < (n : Int) by omega, if_true, w64n w1]
      refine Ev.bind hv ?_
      simp only [e, w2, if_true]
      rw [show p + ((d + 1 : Nat) : Int) = p + 1 + d by omega]
      exact r1
    · obtain ⟨q1, q2⟩ := push_swap o i v.toNat (by omega) ho hoi
      obtain ⟨o', r1, r2, r3⟩ := perm_run l h n hn d (i + 1) _ (p + 1) (by omega) (by omega) q1 q2 (by omega) (by omega)
      rw [show ((v.toNat : Nat) : Int) = v by omega] at r1
      have w4 : v < (i : Int) := by omega
      have w5 : v < ((o ++ [rd o v]).length : Int) := by simp [w3]; omega
      refine ⟨o', Ev.s ?_, r2, r3⟩
      simp only [spec_l91Perm.l0, show (i : Int) < (n : Int) by omega, if_true, w64n w1]
      refine Ev.bind hv ?_
      simp only [e, if_false, v0, w3, w4, w2, if_true, Option.bind_some, w5]
      rw [show p + ((d + 1 : Nat) : Int) = p + 1 + d by omega]
      rw [w3] at w2
      simp only [w2, if_true, w5]
      exact r1
theorem l91Perm_ev (l : List Int) (h : bytesOk l) (n : Nat) (hn : n ≤ 100) (p : Int) (hp : 0 ≤ p) (hp' : p ≤ 500) : ∃ (o : List Int), Ev (fun k => spec_l91Perm.f k l p n) (o, p + n) ∧ inR n o ∧ injR n o := by
  unfold spec_l91Perm.f
  have := perm_run l h n hn n 0 [] p (by omega) (by omega) ⟨rfl, fun i hi => by omega⟩ (fun i j hi _ _ => by omega) hp (by omega)
  exact this
def paired (n : Nat) (q g : List Int) (i : Nat) : Prop := inR n g ∧ ∀ j : Nat, 2 * j + 1 < i → rd g (rd q ((2 * j : Nat) : Int)) = rd q ((2 * j + 1 : Nat) : Int) ∧ rd g (rd q ((2 * j + 1 : Nat) : Int)) = rd q ((2 * j : Nat) : Int)
theorem toNat_eq {a b : Int} (ha : 0 ≤ a) (hb : 0 ≤ b) (h : a.toNat = b.toNat) : a = b := by omega
theorem pair_step (n : Nat) (q g : List Int) (hq : inR n q) (hqi : injR n q) (i : Nat) (hi : 2 * i + 1 < n) (h : paired n q g (2 * i)) :
    paired n q ((g.set (rd q ((2 * i : Nat) : Int)).toNat (rd q ((2 * i + 1 : Nat) : Int))).set (rd q ((2 * i + 1 : Nat) : Int)).toNat (rd q ((2 * i : Nat) : Int))) (2 * i + 2) := by
  have ra := hq.2 (2 * i) (by omega)
  have rb := hq.2 (2 * i + 1) (by omega)
  have ne : (rd q ((2 * i : Nat) : Int)).toNat ≠ (rd q ((2 * i + 1 : Nat) : Int)).toNat := by
    intro e
    have := hqi (2 * i) (2 * i + 1) (by omega) (by omega) (toNat_eq ra.1 rb.1 e)
    omega
  have val : ∀ x : Nat, x < n → rd ((g.set (rd q ((2 * i : Nat) : Int)).toNat (rd q ((2 * i + 1 : Nat) : Int))).set (rd q ((2 * i + 1 : Nat) : Int)).toNat (rd q ((2 * i : Nat) : Int))) (x : Int) = if (rd q ((2 * i + 1 : Nat) : Int)).toNat = x then rd q ((2 * i : Nat) : Int) else if (rd q ((2 * i : Nat) : Int)).toNat = x then rd q ((2 * i + 1 : Nat) : Int) else rd g x := by
    intro x hx
    by_cases e1 : (rd q ((2 * i + 1 : Nat) : Int)).toNat = x
    · rw [if_pos e1, ← e1, rd_set_self _ _ _ (by rw [List.length_set, h.1.1]; omega)]
    · rw [rd_set_ne _ _ _ _ e1, if_neg e1]
      by_cases e2 : (rd q ((2 * i : Nat) : Int)).toNat = x
      · rw [if_pos e2, ← e2, rd_set_self _ _ _ (by rw [h.1.1]; omega)]
      · rw [rd_set_ne _ _ _ _ e2, if_neg e2]
  refine ⟨⟨by simp [h.1.1], fun x hx => ?_⟩, fun j hj => ?_⟩
  · rw [val x hx]
    have := h.1.2 x hx
    split
    · exact ra
    · split
      · exact rb
      · exact this
  · have sa := hq.2 (2 * j) (by omega)
    have sb := hq.2 (2 * j + 1) (by omega)
    have ea : (((rd q ((2 * j : Nat) : Int)).toNat : Nat) : Int) = rd q ((2 * j : Nat) : Int) := by omega
    have eb : (((rd q ((2 * j + 1 : Nat) : Int)).toNat : Nat) : Int) = rd q ((2 * j + 1 : Nat) : Int) := by omega
    rw [← ea, ← eb, val _ (by omega), val _ (by omega), ea, eb]
    by_cases z : j = i
    · subst z
      rw [if_neg (fun e => ne e.symm), if_pos rfl, if_pos rfl]
      exact ⟨rfl, rfl⟩
    · have old := h.2 j (by omega)
      have n1 : (rd q ((2 * i + 1 : Nat) : Int)).toNat ≠ (rd q ((2 * j : Nat) : Int)).toNat := fun e => by
        have := hqi (2 * i + 1) (2 * j) (by omega) (by omega) (toNat_eq rb.1 sa.1 e)
        omega
      have n2 : (rd q ((2 * i : Nat) : Int)).toNat ≠ (rd q ((2 * j : Nat) : Int)).toNat := fun e => by
        have := hqi (2 * i) (2 * j) (by omega) (by omega) (toNat_eq ra.1 sa.1 e)
        omega
      have n3 : (rd q ((2 * i + 1 : Nat) : Int)).toNat ≠ (rd q ((2 * j + 1 : Nat) : Int)).toNat := fun e => by
        have := hqi (2 * i + 1) (2 * j + 1) (by omega) (by omega) (toNat_eq rb.1 sb.1 e)
        omega
      have n4 : (rd q ((2 * i : Nat) : Int)).toNat ≠ (rd q ((2 * j + 1 : Nat) : Int)).toNat := fun e => by
        have := hqi (2 * i) (2 * j + 1) (by omega) (by omega) (toNat_eq ra.1 sb.1 e)
        omega
      rw [if_neg n1, if_neg n2, if_neg n3, if_neg n4]
      exact old
theorem paired_flip (n m : Nat) (hm : n = 2 * m) (q g : List Int) (hq : inR n q) (hqi : injR n q) (h : paired n q g n) : ∀ d : Nat, d < n → flipAt g d := by
  intro d hd
  obtain ⟨j, hj, e⟩ := surj q n hq hqi d hd
  have rep : ∃ i, (j = 2 * i ∨ j = 2 * i + 1) ∧ 2 * i + 1 < n := by
    refine ⟨j / 2, by omega, by omega⟩
  obtain ⟨i, hj', hi⟩ := rep
  have o := h.2 i hi
  have ne : rd q ((2 * i : Nat) : Int) ≠ rd q ((2 * i + 1 : Nat) : Int) := by
    intro e
    have := hqi (2 * i) (2 * i + 1) (by omega) (by omega) e
    omega
  rcases hj' with rfl | rfl
  · rw [e] at o ne
    unfold flipAt
    rw [o.1]
    exact ⟨fun z => ne z.symm, o.2⟩
  · rw [e] at o ne
    unfold flipAt
    rw [o.2]
    exact ⟨ne, o.1⟩
def drewMap (F : Nat → Option (List Int × List Int × Int)) (p : Int) : Prop := ∃ (t f : List Int) (p' : Int), Ev F (t, f, p') ∧ t.length ≤ 12 ∧ f.length ≤ 12 ∧ 0 ≤ p' ∧ p' ≤ p + 1
theorem map_end (l : List Int) (h : bytesOk l) (n : Nat) (h1 : 1 ≤ n) (hn : n ≤ 12) (i : Int) (p : Int) (hp : 0 ≤ p) (hp' : p ≤ 500) (t f : List Int) (ht : t.length = n) (hf : f.length = n) : drewMap (fun k => spec_l91Map.j2 k n i false l p t f) p := by
  obtain ⟨v, hv, v0, v1⟩ := pick_ev l h p hp (by omega) 50 (by omega) (by omega)
  have g1 : (0 : Int) < (f.length : Int) := by omega
  have g2 : (1 : Int) ≤ (t.length : Int) := by omega
  have g3 : (0 : Int) < (t.length : Int) := by omega
  by_cases c0 : v = 0
  · refine ⟨t, f.set 0 0, p + 1, Ev.s ?_, by omega, by simp; omega, by omega, by omega⟩
    simp only [spec_l91Map.j2, Bool.false_eq_true, if_false]
    refine Ev.bind hv ?_
    simp only [c0, g1, if_true]
    exact Ev.const rfl
  · by_cases c1 : v = 1
    · refine ⟨t.drop 1, f, p + 1, Ev.s ?_, by simp; omega, by omega, by omega, by omega⟩
      simp only [spec_l91Map.j2, Bool.false_eq_true, if_false]
      refine Ev.bind hv ?_
      simp only [c0, c1, g2, show ¬ (1 : Int) = 0 by decide, if_true, if_false]
      exact Ev.const rfl
    · by_cases c2 : v = 2
      · refine ⟨t.set 0 n, f, p + 1, Ev.s ?_, by simp; omega, by omega, by omega, by omega⟩
        simp only [spec_l91Map.j2, Bool.false_eq_true, if_false]
        refine Ev.bind hv ?_
        simp only [c2, g3, show ¬ (2 : Int) = 0 by decide, show ¬ (2 : Int) = 1 by decide, if_true, if_false]
        exact Ev.const rfl
      · refine ⟨t, f, p + 1, Ev.s ?_, by omega, by omega, by omega, by omega⟩
        simp only [spec_l91Map.j2, Bool.false_eq_true, if_false]
        refine Ev.bind hv ?_
        simp only [c0, c1, c2, if_false]
        exact Ev.const rfl
theorem map_find (n : Nat) (hn : n ≤ 12) (o : List Int) (ho : o.length = n) (i : Int) (l : List Int) (p : Int) (t f : List Int) (ht : t.length = n) (z : Nat) (hz : z < n) (hz0 : rd o z ≠ 0) (hz1 : ∀ y : Nat, y < z → rd o y = 0) (r : List Int × List Int × Int)
    (h : Ev (fun k => spec_l91Map.l1 k n (wrap64 (i + 1)) l p ((t.set 0 (rd t (z : Int))).set z (rd t 0)) f) r) : ∀ (d y : Nat), z - y = d → y ≤ z → Ev (fun k => spec_l91Map.l2 k n i o y l p t f) r
  | 0, y, hd, hy => by
    have : y = z := by omega
    subst this
    refine Ev.s ?_
    simp only [spec_l91Map.l2, ho, ht, show (0 : Int) ≤ (y : Int) by omega, show (y : Int) < (n : Int) by omega, hz0, show (0 : Int) < (n : Int) by omega, if_true, if_false, Int.toNat_natCast]
    exact h
  | d + 1, y, hd, hy => by
    refine Ev.s ?_
    simp only [spec_l91Map.l2, ho, show (0 : Int) ≤ (y : Int) by omega, show (y : Int) < (n : Int) by omega, hz1 y (by omega), if_true, w64n (show y < 4611686018427387904 by omega)]
    exact map_find n hn o ho i l p t f ht z hz hz0 hz1 r h d (y + 1) (by omega) (by omega)
theorem map_loop (l : List Int) (h : bytesOk l) (n : Nat) (h1 : 1 ≤ n) (hn : n ≤ 12) (f : List Int) (hf : inR n f) (hfl : ∀ d : Nat, d < n → flipAt f d) (p : Int) (hp : 0 ≤ p) (hp' : p ≤ 500) : ∀ (d i : Nat) (t : List Int), n - i = d → i ≤ n → inR n t → injR n t → drewMap (fun k => spec_l91Map.l1 k n i l p t f) p
  | 0, i, t, hd, hi, ht, hti => by
    have : i = n := by omega
    subst this
    obtain ⟨a, b, c, e1, e2⟩ := map_end l h i h1 hn i p hp hp' t f ht.1 hf.1
    refine ⟨a, b, c, Ev.s ?_, e2⟩
    simp only [spec_l91Map.l1, show ¬ (i : Int) < (i : Int) by omega, if_false]
    exact e1
  | d + 1, i, t, hd, hi, ht, hti => by
    obtain ⟨b, b1, _, b3⟩ := mapValid_both t f (by rw [ht.1]; omega) (by rw [hf.1]; omega)
    cases b with
    | true =>
      obtain ⟨a, b', c, e1, e2⟩ := map_end l h n h1 hn i p hp hp' t f ht.1 hf.1
      refine ⟨a, b', c, Ev.s ?_, e2⟩
      simp only [spec_l91Map.l1, show (i : Int) < (n : Int) by omega, if_true]
      refine Ev.bind b1 ?_
      exact e1
    | false =>
      obtain ⟨o, o1, o2, _⟩ := orb_both t f n hn h1 ht hf
      have nz : ∃ z, z < n ∧ rd o (z : Int) ≠ 0 := by
        by_cases q : ∃ z, z < n ∧ rd o ((z : Nat) : Int) ≠ 0
        · exact q
        · exfalso
          have all0 : ∀ q : Nat, q < n → rd o q = 0 := fun z hz => by
            by_cases e : rd o (z : Int) = 0
            · exact e
            · exact absurd ⟨z, hz, e⟩ q
          have hc := (orb_zero t f n h1 ht hf o o1).1 all0
          have hm : isMap t f := isMap_of ⟨hn, h1, ht, hti, hf, hfl, hc⟩
          have := b3.2 hm
          cases this
      have least : ∃ z, z < n ∧ rd o (z : Int) ≠ 0 ∧ ∀ y : Nat, y < z → rd o y = 0 := by
        obtain ⟨z, hz, hz0⟩ := nz
        induction z using Nat.strongRecOn with
        | ind z ih =>
          by_cases q : ∃ y, y < z ∧ rd o ((y : Nat) : Int) ≠ 0
          · obtain ⟨y, y1, y2⟩ := q
            exact ih y y1 (by omega) y2
          · exact ⟨z, hz, hz0, fun y hy => by
              by_cases e : rd o (y : Int) = 0
              · exact e
              · exact absurd ⟨y, hy, e⟩ q⟩
      obtain ⟨z, hz, hz0, hz1⟩ := least
      obtain ⟨q1, q2⟩ := set_perm t n 0 z ht hti (by omega) hz
      obtain ⟨a, b', c, e1, e2⟩ := map_loop l h n h1 hn f hf hfl p hp hp' d (i + 1) _ (by omega) (by omega) q1 q2
      refine ⟨a, b', c, Ev.s ?_, e2⟩
      simp only [spec_l91Map.l1, show (i : Int) < (n : Int) by omega, if_true]
      refine Ev.bind b1 ?_
      refine Ev.s ?_
      simp only [spec_l91Map.j2, Bool.not_false, if_true]
      refine Ev.bind o2 ?_
      refine map_find n hn o o1.1.1 i l p t f ht.1 z hz hz0 hz1 _ ?_ z 0 (by omega) (by omega)
      rw [w64n (by omega)]
      exact e1
theorem map_pairs (l : List Int) (h : bytesOk l) (n m : Nat) (hm : n = 2 * m) (h1 : 1 ≤ m) (hn : n ≤ 12) (q : List Int) (hq : inR n q) (hqi : injR n q) (p : Int) (hp : 0 ≤ p) (hp' : p ≤ 400) : ∀ (d i : Nat) (g : List Int), m - i = d → i ≤ m → paired n q g (2 * i) → ∃ (t f : List Int) (p' : Int), Ev (fun k => spec_l91Map.l0 k n q g ((2 * i : Nat) : Int) l p) (t, f, p') ∧ t.length ≤ 12 ∧ f.length ≤ 12 ∧ 0 ≤ p' ∧ p' ≤ p + 13
  | 0, i, g, hd, hi, hg => by
    have : i = m := by omega
    subst this
    rw [← hm] at hg
    obtain ⟨t, t1, t2, t3⟩ := l91Perm_ev l h n (by omega) p hp (by omega)
    obtain ⟨a, b, c, e1, e2, e3, e4, e5⟩ := map_loop l h n (by omega) hn g hg.1 (paired_flip n i hm q g hq hqi hg) (p + n) (by omega) (by omega) n 0 t (by omega) (by omega) t2 t3
    refine ⟨a, b, c, Ev.s ?_, e2, e3, e4, by omega⟩
    have w : i < 1000 := by omega
    simp only [spec_l91Map.l0, w64n (show 2 * i < 4611686018427387904 by omega), show ¬ ((2 * i + 1 : Nat) : Int) < (n : Int) by omega, if_false]
    exact Ev.bind t1 e1
  | d + 1, i, g, hd, hi, hg => by
    have ra := hq.2 (2 * i) (by omega)
    have rb := hq.2 (2 * i + 1) (by omega)
    obtain ⟨a, b, c, e1, e2⟩ := map_pairs l h n m hm h1 hn q hq hqi p hp hp' d (i + 1) _ (by omega) (by omega) (pair_step n q g hq hqi i (by omega) hg)
    refine ⟨a, b, c, Ev.s ?_, e2⟩
    have w2 : wrap64 (((2 * i : Nat) : Int) + 2) = ((2 * (i + 1) : Nat) : Int) := by rw [w64 (by omega) (by omega)]; omega
    simp only [spec_l91Map.l0, w64n (show 2 * i < 4611686018427387904 by omega), show ((2 * i + 1 : Nat) : Int) < (n : Int) by omega, show (0 : Int) ≤ ((2 * i : Nat) : Int) by omega, show (0 : Int) ≤ ((2 * i + 1 : Nat) : Int) by omega, hq.1, show ((2 * i : Nat) : Int) < (n : Int) by omega, hg.1.1, ra.1, ra.2, rb.1, rb.2, if_true, w2]
    exact e1
theorem l91Map_at (l : List Int) (h : bytesOk l) (p : Int) (hp : 0 ≤ p) (hp' : p ≤ 200) (edges : Nat) (h1 : 1 ≤ edges) (h6 : edges ≤ 6) : ∃ (t f : List Int) (p' : Int), Ev (fun k => spec_l91Map.f k l p edges) (t, f, p') ∧ t.length ≤ 12 ∧ f.length ≤ 12 ∧ 0 ≤ p' ∧ p' ≤ p + 100 := by
  obtain ⟨v, hv, v0, v1⟩ := pick_ev l h p hp (by omega) (edges : Int) (by omega) (by omega)
  obtain ⟨V, rfl⟩ : ∃ V : Nat, v = (V : Int) := ⟨v.toNat, by omega⟩
  obtain ⟨q, q1, q2, q3⟩ := l91Perm_ev l h (2 * (1 + V)) (by omega) (p + 1) (by omega) (by omega)
  have rep : paired (2 * (1 + V)) q (List.replicate (2 * (1 + V)) 0) (2 * 0) := by
    refine ⟨⟨by simp, fun i hi => ?_⟩, fun j hj => by omega⟩
    rw [rd_lt _ _ (by simpa using hi)]
    simp
    omega
  obtain ⟨a, b, c, e1, e2, e3, e4, e5⟩ := map_pairs l h (2 * (1 + V)) (1 + V) rfl (by omega) (by omega) q q2 q3 (p + 1 + ((2 * (1 + V) : Nat) : Int)) (by omega) (by omega) (1 + V) 0 _ (by omega) (by omega) rep
  refine ⟨a, b, c, ?_, e2, e3, e4, by omega⟩
  unfold spec_l91Map.f
  refine Ev.bind hv ?_
  have w1 : wrap64 (1 + (V : Int)) = ((1 + V : Nat) : Int) := by rw [w64 (by omega) (by omega)]; omega
  have w2 : wrap64 (2 * ((1 + V : Nat) : Int)) = ((2 * (1 + V) : Nat) : Int) := by rw [w64 (by omega) (by omega)]; omega
  simp only [w1, w2]
  refine Ev.bind q1 ?_
  simp only [show (0 : Int) ≤ ((2 * (1 + V) : Nat) : Int) by omega, Int.toNat_natCast, show 2 * (1 + V) ≤ 35184372088832 by omega, if_true]
  exact e1
theorem l91Map_ev (l : List Int) (h : bytesOk l) (edges : Nat) (h1 : 1 ≤ edges) (h6 : edges ≤ 6) : ∃ (t f : List Int) (p' : Int), Ev (fun k => spec_l91Map.f k l 0 edges) (t, f, p') ∧ t.length ≤ 12 ∧ f.length ≤ 12 ∧ 0 ≤ p' ∧ p' ≤ 100 := by
  obtain ⟨t, f, p', h⟩ := l91Map_at l h 0 (by omega) (by omega) edges h1 h6
  exact ⟨t, f, p', by simpa using h⟩
end Go.Proofs.Ytjgknblneokhlaa.PK

set_option linter.unusedVariables false
set_option linter.unusedSimpArgs false
namespace Go.Proofs.Ytjgknblneokhlaa.Pure
open Go.RowKit Go.Proofs.Ytjgknblneokhlaa.PK Go.Proofs.YtjgknblneokhlaaW.PrintWords Go.Proofs.YtjgknblneokhlaaW.PrintLast Go.Proofs.YtjgknblneokhlaaW.PrintMore
theorem drawTrees_ev (l : List Int) (hb : ∀ x ∈ l, (Lit.int .u8 x).wf = true) : ∃ t f : List Int, Ev (fun k => spec_DrawRibbonTrees.f k l) (t, f) ∧ t.length ≤ 12 ∧ f.length ≤ 12 := by
  obtain ⟨l', e, h⟩ := open_ev l hb
  obtain ⟨t, f, p, e1, e2, e3, e4, e5⟩ := l91Map_ev l' h 6 (by omega) (by omega)
  refine ⟨t, f, ?_, e2, e3⟩
  unfold spec_DrawRibbonTrees.f
  simp only [e, Option.bind_some]
  exact Ev.bind e1 (Ev.const rfl)
theorem FnTreesMatrix : laws_FnTreesMatrix.Pure := by
  intro l hl _ hb
  by_cases c0 : (l.length : Int) > 1048576
  · exact ⟨0, by unfold laws_FnTreesMatrix.f; rw [if_pos c0]⟩
  obtain ⟨t, f, dr, d2, d3⟩ := drawTrees_ev l hb
  obtain ⟨r, r1, r2⟩ := ribbonTrees_both t f (by omega) (by omega)
  refine Ev.rounds (r := true) ?_
  unfold laws_FnTreesMatrix.f
  simp only [c0, if_false]
  refine Ev.bind dr ?_
  refine Ev.bind r2 ?_
  refine Ev.bind r1 ?_
  simp only [if_true]
  refine Ev.s ?_
  by_cases hr : r < 0
  · simp only [laws_FnTreesMatrix.j0, decide_eq_true hr, if_true, beq_self_eq_true]
    exact Ev.const rfl
  obtain ⟨b, _, b2, b3⟩ := mapValid_both t f (by omega) (by omega)
  cases b with
  | false =>
    exfalso
    have h : Ev (fun k => impl_RibbonTrees.f k t f) (-1) := by
      unfold impl_RibbonTrees.f
      refine Ev.bind b2 ?_
      simp only [Bool.false_eq_true, if_false]
      exact Ev.const rfl
    have := Ev.uniq r2 h
    omega
  | true =>
    have hm := b3.1 rfl
    have er := Ev.uniq r2 (treesI_ev t f hm 0)
    have H := mapOk_of t f hm
    obtain ⟨hn, h1, ht', hti, hf', hfl, hcon⟩ := id H
    have eV : Cl t.length (Go.Proofs.Ytjgknblneokhlaa.PK.Reach [t] t.length) (cyS t t.length t.length).2.length := cyS_cl t t.length ht' hti
    obtain ⟨q, mi, lb⟩ := mapMirror_ev t f hm (by omega) (by omega)
    have dm := mapDualD_ev t f hm (by omega) (by omega)
    have lq : q.length = t.length := lb.1
    have hq := isMap_of (back_ok H lb)
    have tq := treesI_ev q f hq 0
    rw [lq, trees_mirror t f q t.length H lb 0, ← er] at tq
    have mx := matrixI_ev t f hm
    rw [← er] at mx
    have pos := trees_pos t f hm 0
    rw [← er] at pos
    obtain ⟨F, w1, w2⟩ := mapCounts_ev t f hm (by omega) (by omega)
    obtain ⟨g, G, n1, n2, n3, n4⟩ := nums t f t.length H [] (fun i hi => by simp at hi)
    rw [show vN t t.length = (cyS t t.length t.length).2.length from eV.eq, show vN (faces t f t.length) t.length = F from w1.eq] at n4
    have gI := genusI_ev t f hm (by omega) (by omega) _ F G eV w1 n4
    simp only [laws_FnTreesMatrix.j0, decide_eq_false hr, Bool.false_eq_true, if_false]
    refine Ev.bind mi ?_
    refine Ev.bind dm ?_
    simp only [if_true, show r ≥ 1 by omega]
    refine Ev.bind mx ?_
    simp only [if_true]
    refine Ev.bind tq ?_
    simp only [if_true]
    refine Ev.bind gI ?_
    by_cases hG : (G : Int) > 0
    · simp only [hG, if_true]
      exact Ev.const rfl
    · simp only [hG, if_false]
      have hmD := isMap_of (dual_ok H)
      have hlD := faces_len t f t.length
      have vd := treesI_ev (faces t f t.length) f hmD 0
      rw [hlD, val_dual t f t.length H (by rw [show vN t t.length = (cyS t t.length t.length).2.length from eV.eq, show vN (faces t f t.length) t.length = F from w1.eq]; omega), ← er] at vd
      refine Ev.bind vd ?_
      simp only [beq_self_eq_true]
      exact Ev.const rfl
end Go.Proofs.Ytjgknblneokhlaa.Pure

namespace Go.Proofs.Ytjgknblneokhlaa.fnTreesMatrix
open Go.ChangeShapes Go.WideShapes Go.ChangeAt Go.RowKit
open Go.ChangeMaps (open_string shut_string)
set_option linter.unusedVariables false
theorem own : ownKnob Try.prog.godebug = none := by kernel_rfl
theorem laidOut : laidOutB Try.prog = true := by kernel_rfl
def IsRow (k : IntKind) (w : World) (a : Option Addr) (len cap : Nat) (zs : List Int) : Prop :=
 (a = none ∧ len = 0 ∧ cap = 0 ∧ zs = []) ∨
 ∃ x, a = some x ∧ len ≤ cap ∧ cap ≤ maxLen ∧ zs.length = cap ∧ (∀ i, i < zs.length → w.cell? (x.add i) = some (.int k (zs.getD i 0))) ∧ ∀ n ∈ zs, (Lit.int k n).wf = true
set_option maxRecDepth 100000 in
theorem lifted (os : Os) (started : os.Started) (H : Type) (enc : TypeId × Value → H) :
  ReturnsInHanded {} Try.checked os 13 .any (Rows.fnTreesMatrixSpec.pre6 enc Try.prog Try.f13 Rows.fnTreesMatrixRow.domain false) (Rows.fnTreesMatrixSpec.post enc Try.prog Try.f13 false true false false) := by
 refine returnsInHanded_of_change_sized (C := Try.checked) own started (by kernel_rfl) Try.func13
  (ChangeSpec.witness6 (enc := enc) (C := Try.checked) false ⟨#[], #[.slice none 0 0], []⟩ 8 (by kernel_rfl) (by kernel_rfl) (by kernel_rfl) (by kernel_rfl)) ?_
 intro W base args ds gs before hval0 hW hcnd hsz0 _
 have hsz : (DataW.weightsEach Try.prog (Try.f13.params.toList ++ Rows.fnTreesMatrixSpec.plain.varTypes Try.prog) (ds ++ gs)).all (· ≤ reachBytes) = true := hsz0
 have hval : ∀ (j : Nat) t v, Try.f13.params[j]? = some t → args[j]? = some v → Value.okWide Try.prog W .any base t v := hval0
 have hW' := hW
 obtain ⟨p, q, hA0, hV, rfl, hfz, hnd⟩ := hW
 have hA : DataW.TrodAll enc Try.prog W 0 (fun _ => true) true Try.f13.params.toList args.toList ds p := hA0
 rw [Try.params13] at hA hval hsz
 obtain ⟨v0, vs0, d0, ds0, p0, q0, hargs, rfl, rfl, h0, r0⟩ := trodAll_cons hA
 obtain ⟨rfl, rfl, rfl⟩ := trodAll_nil r0
 obtain rfl : args = #[v0] := by cases args; simp_all
 obtain ⟨rfl, rfl⟩ := trodVars_none hV
 obtain ⟨a0, len0, cap0, rfl⟩ := okWide_slice Try.underlying22 (hval 0 22 v0 rfl rfl)
 have k0 := h0
 have lt0 : ∀ x ∈ p0, x.block < W.heap.size := by obtain ⟨m, hm⟩ := k0; exact DataW.trod_lt m _ _ _ hm
 obtain ⟨z0, w0⟩ : ∃ zs, IsRow .u8 W a0 len0 cap0 zs := by
  obtain ⟨fuel, hf⟩ := h0
  rcases open_ints Try.underlying22 Try.underlying5 (by kernel_rfl) hf with ⟨hcs, _⟩ | ⟨x, l, c, zs, hcs, _, hl, hm, hz, _, hcell, hwz⟩
  ·
   simp [Value.cells] at hcs
   obtain ⟨rfl, rfl, rfl⟩ := hcs
   exact ⟨[], .inl ⟨rfl, rfl, rfl, rfl⟩⟩
  ·
   simp [Value.cells] at hcs
   obtain ⟨rfl, rfl, rfl⟩ := hcs
   exact ⟨zs, .inr ⟨_, rfl, hl, hm, by simpa using hz, hcell, hwz⟩⟩
 have y0 : len0 * 1 ≤ 140737488351232 := Go.Proofs.YtjgknblneokhlaaW.PrintWords.sized_ints hsz (j := 0) (t := 22) rfl rfl Try.underlying22 Try.underlying5 (by kernel_rfl) (by kernel_rfl) h0
 clear hA0 hval0 hsz0 hsz
 refine (PK.laws_FnTreesMatrix.walk Pure.FnTreesMatrix a0 len0 cap0 z0 W w0 y0).mono fun e W' ⟨he, bel⟩ => ?_
 subst he
 exact ⟨_, rfl, _, _, _, [], _, [], hW', trodAll_mk1 (shut_bool Try.underlying4 _), (trodAll_cons_mk (Below.trod laidOut (by kernel_rfl) (of_decide_eq_true (by kernel_rfl)) k0 bel lt0) trodAll_mk0), rfl, bel.frame _, fun h => by cases h⟩
theorem over : Rows.fnTreesMatrixRow.holds Try.pinned (OpenSpec.ofChange Rows.fnTreesMatrixSpec) :=
 OpenClaim.holds_of_wide 13 Try.f13 rfl rfl rfl rfl rfl rfl rfl ⟨rfl, rfl, rfl, rfl, rfl⟩ rfl rfl rfl rfl rfl (by kernel_rfl) Try.func13 (by kernel_rfl)
  (of_decide_eq_true (by kernel_rfl)) (by unfold Func.isWrapper; first | (rw [if_pos (by decide +kernel)]; kernel_rfl) | (rw [if_neg (by decide +kernel)]; exact ⟨rfl, rfl⟩))
  (fun os started H enc _ => lifted os started H enc)
theorem proved : Rows.FnTreesMatrixSaid := over
#print axioms proved
end Go.Proofs.Ytjgknblneokhlaa.fnTreesMatrix
namespace Go.Proofs.Ytjgknblneokhlaa
theorem fnTreesMatrix_holds : Rows.FnTreesMatrixSaid := fnTreesMatrix.proved
end Go.Proofs.Ytjgknblneokhlaa
