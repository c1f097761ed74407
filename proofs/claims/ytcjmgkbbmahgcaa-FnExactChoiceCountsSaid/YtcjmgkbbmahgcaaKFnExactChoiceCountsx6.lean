/- For every map and list, ChoiceCounts of the program answers what ChoiceCounts of the reference answers, leaves both as they were, and hands back memory of its own. There are no conditions. -/
import Derived.Test.YtcjmgkbbmahgcaaKFnExactChoiceCountsx5
import Derived.Deep.OwnRows
import Derived.Laws.Rows
import Derived.Test.YtcjmgkbbmahgcaaRows
set_option linter.unusedVariables false
set_option linter.unusedSimpArgs false
namespace Go.Proofs.Ytcjmgkbbmahgcaa.PC
open Go.RowKit Go.Proofs.YtcjmgkbbmahgcaaW.PrintWords Go.Proofs.YtcjmgkbbmahgcaaW.PrintLast Go.Proofs.YtcjmgkbbmahgcaaW.PrintMore
def chL (f : List Int) (n : Nat) (c : List Int) : List Bool := (List.range n).map fun (d : Nat) => chB f n c (d : Int)
theorem chL_len (f : List Int) (n : Nat) (c : List Int) : (chL f n c).length = n := by simp [chL]
theorem chL_getD (f : List Int) (n : Nat) (c : List Int) (d : Nat) (h : d < n) : (chL f n c).getD d false = chB f n c (d : Int) := by
  rw [List.getD_eq_getElem?_getD, List.getElem?_eq_getElem (by rw [chL_len]; exact h)]
  simp [chL]
theorem chL_rd (f : List Int) (n : Nat) (c : List Int) (x : Int) (h0 : 0 ≤ x) (h : x < n) : rdOf false (chL f n c) x = chB f n c x := by
  rw [rdOf_nat _ x h0, chL_getD f n c x.toNat (by omega), show ((x.toNat : Nat) : Int) = x by omega]
theorem bl_ext (a b : List Bool) (h : a.length = b.length) (hr : ∀ i : Nat, i < a.length → a.getD i false = b.getD i false) : a = b := by
  refine List.ext_getElem h fun i h1 h2 => ?_
  have := hr i h1
  rw [List.getD_eq_getElem?_getD, List.getD_eq_getElem?_getD, List.getElem?_eq_getElem h1, List.getElem?_eq_getElem h2] at this
  simpa using this
theorem chB_take (f : List Int) (n : Nat) (c : List Int) (i : Nat) (hi : i < c.length) (d : Int) : chB f n (c.take (i + 1)) d = (chB f n (c.take i) d || decide (rd (geL f n n) d = rd c i)) := by
  unfold chB
  rw [take_get c i hi, Bool.eq_iff_iff, Bool.or_eq_true, decide_eq_true_eq, decide_eq_true_eq, decide_eq_true_eq, List.mem_append, List.mem_singleton]
theorem step_ch (f : List Int) (n : Nat) (c : List Int) (i : Nat) (hi : i < c.length) (a b : Nat) (ha : a < n) (hb : b < n) (h : ∀ d : Nat, d < n → (rd (geL f n n) (d : Int) = rd c i ↔ d = a ∨ d = b)) :
    ((chL f n (c.take i)).set a true).set b true = chL f n (c.take (i + 1)) := by
  refine bl_ext _ _ (by simp [chL_len]) fun d hd => ?_
  have hd' : d < n := by simpa [chL_len] using hd
  rw [getD_set _ _ _ _ (by rw [List.length_set, chL_len]; exact hb), getD_set _ _ _ _ (by rw [chL_len]; exact ha), chL_getD _ _ _ d hd', chL_getD _ _ _ d hd', chB_take f n c i hi]
  have e := h d hd'
  by_cases e1 : b = d
  · rw [if_pos e1, decide_eq_true (e.2 (.inr e1.symm)), Bool.or_true]
  · by_cases e2 : a = d
    · rw [if_neg e1, if_pos e2, decide_eq_true (e.2 (.inl e2.symm)), Bool.or_true]
    · rw [if_neg e1, if_neg e2, decide_eq_false (fun z => (e.1 z).elim (fun z => e2 z.symm) (fun z => e1 z.symm)), Bool.or_false]
theorem step_fl (f : List Int) (n : Nat) (c : List Int) (i : Nat) (hi : i < c.length) (a b : Nat) (ha : a < n) (hb : b < n) (hab : rd f a = b) (hba : rd f b = a) (h : ∀ d : Nat, d < n → (rd (geL f n n) (d : Int) = rd c i ↔ d = a ∨ d = b)) :
    ((flC f n (c.take i)).set a (b : Int)).set b (a : Int) = flC f n (c.take (i + 1)) := by
  refine list_ext _ _ (by simp [flC_len]) fun d hd => ?_
  have hd' : d < n := by simpa [flC_len] using hd
  have e := h d hd'
  rw [flC_rd f n _ d hd', chB_take f n c i hi]
  by_cases e1 : b = d
  · subst e1
    rw [rd_set_self _ _ _ (by simpa [flC_len] using hb), decide_eq_true (e.2 (.inr rfl)), Bool.or_true, if_pos rfl, hba]
  · rw [rd_set_ne _ _ _ _ e1]
    by_cases e2 : a = d
    · subst e2
      rw [rd_set_self _ _ _ (by simpa [flC_len] using ha), decide_eq_true (e.2 (.inl rfl)), Bool.or_true, if_pos rfl, hab]
    · rw [rd_set_ne _ _ _ _ e2, flC_rd f n _ d hd', decide_eq_false (fun z => (e.1 z).elim (fun z => e2 z.symm) (fun z => e1 z.symm)), Bool.or_false]
theorem ch_fresh (f : List Int) (n : Nat) (hf : inR n f) (hfl : ∀ i : Nat, i < n → flipAt f i) (c : List Int) (hc : isChoice c ((edL f n).length : Int)) : ∀ i, i ≤ c.length → fresh (chL f n (c.take i)) + 2 * i = n
  | 0, _ => by
    have e : chL f n (c.take 0) = List.replicate n false := by
      refine bl_ext _ _ (by simp [chL_len]) fun d hd => ?_
      rw [chL_getD f n _ d (by rwa [chL_len] at hd)]
      have hd' : d < n := by rwa [chL_len] at hd
      simp [chB, List.getD_eq_getElem?_getD, List.getElem?_replicate, hd']
    rw [e]
    simp [fresh, List.countP_replicate]
  | i + 1, hi => by
    have ih := ch_fresh f n hf hfl c hc i (by omega)
    have hr := choice_range c _ hc i (by omega)
    obtain ⟨a, b, ha, hb, hab, _, _, _, h⟩ := edge_at f n hf hfl (rd c i).toNat (by omega)
    rw [show (((rd c i).toNat : Nat) : Int) = rd c i by omega] at h
    have hna := not_ahead c _ hc i (by omega)
    have fa : chB f n (c.take i) a = false := by
      unfold chB
      rw [(h a ha).2 (.inl rfl)]
      exact decide_eq_false hna
    have fb : chB f n (c.take i) b = false := by
      unfold chB
      rw [(h b hb).2 (.inr rfl)]
      exact decide_eq_false hna
    rw [← step_ch f n c i (by omega) a b ha hb h]
    have l := chL_len f n (c.take i)
    have g1 := fresh_set (chL f n (c.take i)) a (by omega) (by rw [chL_getD f n _ a ha, fa])
    have g2 := fresh_set ((chL f n (c.take i)).set a true) b (by simp; omega) (by rw [getD_set _ _ _ _ (by omega), if_neg hab, chL_getD f n _ b hb, fb])
    omega
theorem flC_zero (f : List Int) (n : Nat) (c : List Int) : flC f n (c.take 0) = stl n := by
  refine list_ext _ _ (by simp [flC_len, stl_length]) fun d hd => ?_
  have hd' : d < n := by rwa [flC_len] at hd
  rw [flC_rd f n _ d hd', stl_rd n d hd']
  simp [chB]
theorem chL_zero (f : List Int) (n : Nat) (c : List Int) : chL f n (c.take 0) = List.replicate n false := by
  refine bl_ext _ _ (by simp [chL_len]) fun d hd => ?_
  have hd' : d < n := by rwa [chL_len] at hd
  rw [chL_getD f n _ d hd']
  simp [chB, List.getD_eq_getElem?_getD, List.getElem?_replicate, hd']
def pc (o : List Int) : Nat → Nat
  | 0 => 0
  | i + 1 => if (i : Int) = rd o i then pc o i + 1 else pc o i
theorem pc_le (o : List Int) : ∀ i, pc o i ≤ i
  | 0 => Nat.le_refl _
  | i + 1 => by
    have := pc_le o i
    simp only [pc]
    split <;> omega
def bc (C : List (List Int)) (ch : Int → Bool) : Nat → Nat
  | 0 => 0
  | i + 1 => if (rd_L1 C i).any ch = true then bc C ch i else bc C ch i + 1
theorem bc_le (C : List (List Int)) (ch : Int → Bool) : ∀ i, bc C ch i ≤ i
  | 0 => Nat.le_refl _
  | i + 1 => by
    have := bc_le C ch i
    simp only [bc]
    split <;> omega
def sidesN (t f : List Int) (n : Nat) (c : List Int) : Nat := bc (cyS t n n).2 (chB f n c) (cyS t n n).2.length + (ribS (faL t f n c) n (chB f n c) n).2
theorem contF_run (l : List Int) (hl : l.length ≤ 1048576) (f : List Int) (n : Nat) (c : List Int) (hr : ∀ x ∈ l, 0 ≤ x ∧ x < n) : ∀ (d i : Nat), l.length - i = d → i ≤ l.length → ∃ v : Int, Ev (fun k => containsF.l0 k l (chL f n c) i) v ∧ (v ≥ 0 ↔ (l.drop i).any (chB f n c) = true)
  | 0, i, hd, hi => by
    refine ⟨-1, Ev.s ?_, ?_⟩
    · simp only [containsF.l0, show ¬ (i : Int) < (l.length : Int) by omega, if_false]
      exact Ev.const rfl
    · rw [List.drop_eq_nil_of_le (by omega)]
      simp
  | d + 1, i, hd, hi => by
    have hlt : i < l.length := by omega
    have e := rd_lt l i hlt
    have h1 := hr _ (List.getElem_mem hlt)
    rw [← e] at h1
    have g1 : (i : Int) < (l.length : Int) := by omega
    have g2 : (0 : Int) ≤ (i : Int) := by omega
    have g3 := chL_len f n c
    obtain ⟨v, v1, v2⟩ := contF_run l hl f n c hr d (i + 1) (by omega) (by omega)
    cases h : chB f n c (rd l i) with
    | true =>
      refine ⟨i, Ev.s ?_, ?_⟩
      · simp only [containsF.l0, g1, g2, h1.1, g3, h1.2, chL_rd f n c _ h1.1 h1.2, h, if_true]
        exact Ev.const rfl
      · rw [List.drop_eq_getElem_cons hlt, ← e, List.any_cons, h, Bool.true_or]
        exact ⟨fun _ => rfl, fun _ => by omega⟩
    | false =>
      refine ⟨v, Ev.s ?_, ?_⟩
      · simp only [containsF.l0, g1, g2, h1.1, g3, h1.2, chL_rd f n c _ h1.1 h1.2, h, if_true, Bool.false_eq_true, if_false, w64n (show i < 4611686018427387904 by omega)]
        exact v1
      · rw [v2, List.drop_eq_getElem_cons hlt, ← e, List.any_cons, h, Bool.false_or]
theorem contF_ev (l : List Int) (hl : l.length ≤ 1048576) (f : List Int) (n : Nat) (c : List Int) (hr : ∀ x ∈ l, 0 ≤ x ∧ x < n) : Ev (fun k => containsF.f k l (chL f n c)) (l.any (chB f n c)) := by
  obtain ⟨v, v1, v2⟩ := contF_run l hl f n c hr l.length 0 (by omega) (by omega)
  unfold containsF.f
  refine Ev.bind v1 (Ev.const ?_)
  rw [List.drop_zero] at v2
  congr 1
  rw [Bool.eq_iff_iff, decide_eq_true_eq]
  exact v2
theorem cw_ok (p : List Int) (n : Nat) (hp : inR n p) : ∀ (f : Nat) (s : List Bool) (c : List Int) (a : Int), s.length = n → 0 ≤ a → a < n → (∀ x ∈ c, 0 ≤ x ∧ x < n) → (∀ x ∈ (cw p f s c a).2, 0 ≤ x ∧ x < n) ∧ (cw p f s c a).2.length ≤ c.length + f
  | 0, s, c, a, hs, h0, h1, hc => ⟨hc, by simp [cw]⟩
  | f + 1, s, c, a, hs, h0, h1, hc => by
    simp only [cw]
    split
    · exact ⟨hc, by simp only; omega⟩
    · have h5 := hp.2 a.toNat (by omega)
      rw [show ((a.toNat : Nat) : Int) = a by omega] at h5
      have ih := cw_ok p n hp f (s.set a.toNat true) (c ++ [a]) (rd p a) (by simpa using hs) h5.1 h5.2 (fun x hx => by
        rw [List.mem_append, List.mem_singleton] at hx
        exact hx.elim (hc x) (fun e => by rw [e]; exact ⟨h0, h1⟩))
      refine ⟨ih.1, ?_⟩
      have := ih.2
      simp only [List.length_append, List.length_cons, List.length_nil] at this
      omega
theorem cyS_ok (p : List Int) (n : Nat) (hp : inR n p) : ∀ i, i ≤ n → ∀ l ∈ (cyS p n i).2, (∀ x ∈ l, 0 ≤ x ∧ x < n) ∧ l.length ≤ n + 1
  | 0, _, l, hl => by simp [cyS] at hl
  | i + 1, hi, l, hl => by
    have ih := cyS_ok p n hp i (by omega)
    have ok := cw_ok p n hp (n + 1) (cyS p n i).1 [] i (cyS_len p n i) (by omega) (by omega) (by simp)
    simp only [cyS] at hl
    split at hl
    · exact ih l hl
    · rw [List.mem_append, List.mem_singleton] at hl
      rcases hl with hl | rfl
      · exact ih l hl
      · exact ⟨ok.1, by simpa using ok.2⟩
theorem rdL_ok (C : List (List Int)) (P : List Int → Prop) (h : ∀ l ∈ C, P l) (i : Nat) (hi : i < C.length) : P (rd_L1 C i) := by
  rw [rdL_nth C i hi]
  exact h _ (List.getElem_mem hi)
def RibOk (t f c : List Int) (n : Nat) : Prop := n ≤ 12 ∧ 1 ≤ n ∧ inR n t ∧ injR n t ∧ inR n f ∧ (∀ i : Nat, i < n → flipAt f i) ∧ isChoice c ((edL f n).length : Int) ∧ c.length ≤ 1048576
theorem ir_l0 (t f c : List Int) (n : Nat) (H : RibOk t f c n) (m : Int) (r : List Int) (h : Ev (fun k => (impl_orbits.f k [t, flC f n c]).bind fun o => impl_ribbon.l1 k c m (flC f n c) 0 o (o.length : Int) 0 t f (chL f n c)) r) : ∀ (d i : Nat), c.length - i = d → i ≤ c.length → Ev (fun k => impl_ribbon.l0 k c m (flC f n (c.take i)) c c.length i t f (chL f n (c.take i))) r
  | 0, i, hd, hi => by
    obtain ⟨hn, h1, ht, hti, hf, hfl, hc, hcl⟩ := id H
    have : i = c.length := by omega
    subst this
    refine Ev.s ?_
    simp only [impl_ribbon.l0, show ¬ (c.length : Int) < (c.length : Int) by omega, if_false, List.take_length]
    exact h
  | d + 1, i, hd, hi => by
    obtain ⟨hn, h1, ht, hti, hf, hfl, hc, hcl⟩ := id H
    have ih := ir_l0 t f c n H m r h d (i + 1) (by omega) (by omega)
    have hr := choice_range c _ hc i (by omega)
    obtain ⟨a, b, ha, hb, hab, e1, e2, e3, e4⟩ := edge_at f n hf hfl (rd c i).toNat (by omega)
    rw [show (((rd c i).toNat : Nat) : Int) = rd c i by omega] at e1 e4
    rw [← step_ch f n c i (by omega) a b ha hb e4, ← step_fl f n c i (by omega) a b ha hb e2 e3 e4] at ih
    have l1 := chL_len f n (c.take i)
    have l2 := flC_len f n (c.take i)
    refine Ev.s ?_
    simp only [impl_ribbon.l0, show (i : Int) < (c.length : Int) by omega, show (0 : Int) ≤ (i : Int) by omega, if_true]
    refine Ev.bind (implEdges_ev n (by omega) t f hf) ?_
    simp only [hr.1, hr.2, e1, e2, hf.1, l1, l2, show (0 : Int) ≤ (a : Int) by omega, show (a : Int) < (n : Int) by omega, show (0 : Int) ≤ (b : Int) by omega, show (b : Int) < (n : Int) by omega, if_true, w64n (show i < 4611686018427387904 by omega), Int.toNat_natCast]
    exact ih
theorem ir_l1 (t f c : List Int) (n : Nat) (H : RibOk t f c n) (m : Int) (g : List Int) (s : List Bool) (o : List Int) (ho : o.length = n) (r : List Int) (h : Ev (fun k => (impl_cyclesOf.f k t).bind fun C => impl_ribbon.l2 k c m g (pc o n) 0 C (C.length : Int) 0 t f s) r) : ∀ (d i : Nat), n - i = d → i ≤ n → Ev (fun k => impl_ribbon.l1 k c m g (pc o i) o n i t f s) r
  | 0, i, hd, hi => by
    obtain ⟨hn, h1, ht, hti, hf, hfl, hc, hcl⟩ := id H
    have : i = n := by omega
    subst this
    refine Ev.s ?_
    simp only [impl_ribbon.l1, show ¬ (i : Int) < (i : Int) by omega, if_false]
    exact h
  | d + 1, i, hd, hi => by
    obtain ⟨hn, h1, ht, hti, hf, hfl, hc, hcl⟩ := id H
    have ih := ir_l1 t f c n H m g s o ho r h d (i + 1) (by omega) (by omega)
    have hp := pc_le o i
    refine Ev.s ?_
    simp only [impl_ribbon.l1, ho, show (i : Int) < (n : Int) by omega, show (0 : Int) ≤ (i : Int) by omega, if_true, w64n (show i < 4611686018427387904 by omega), w64n (show pc o i < 4611686018427387904 by omega)]
    simp only [pc] at ih
    by_cases e : (i : Int) = rd o i
    · simp only [if_pos e] at ih ⊢; exact ih
    · simp only [if_neg e] at ih ⊢; exact ih
theorem ir_l2 (t f c : List Int) (n : Nat) (H : RibOk t f c n) (g : List Int) (P : Int) (C : List (List Int)) (hC : ∀ l ∈ C, (∀ x ∈ l, 0 ≤ x ∧ x < n) ∧ l.length ≤ n + 1) (hCl : C.length ≤ n) (r : List Int) (h : Ev (fun k => impl_ribbon.l3 k c g P (bc C (chB f n c) C.length) (List.replicate n false) n 0 t f (chL f n c)) r) : ∀ (d i : Nat), C.length - i = d → i ≤ C.length → Ev (fun k => impl_ribbon.l2 k c n g P (bc C (chB f n c) i) C C.length i t f (chL f n c)) r
  | 0, i, hd, hi => by
    obtain ⟨hn, h1, ht, hti, hf, hfl, hc, hcl⟩ := id H
    have : i = C.length := by omega
    subst this
    refine Ev.s ?_
    simp only [impl_ribbon.l2, show ¬ (C.length : Int) < (C.length : Int) by omega, if_false, show (0 : Int) ≤ (n : Int) by omega, if_true, Int.toNat_natCast, show n ≤ 281474976710656 by omega]
    exact h
  | d + 1, i, hd, hi => by
    obtain ⟨hn, h1, ht, hti, hf, hfl, hc, hcl⟩ := id H
    have ih := ir_l2 t f c n H g P C hC hCl r h d (i + 1) (by omega) (by omega)
    have hb := bc_le C (chB f n c) i
    have ok := rdL_ok C _ hC i (by omega)
    refine Ev.s ?_
    simp only [impl_ribbon.l2, show (i : Int) < (C.length : Int) by omega, show (0 : Int) ≤ (i : Int) by omega, if_true, w64n (show i < 4611686018427387904 by omega), w64n (show bc C (chB f n c) i < 4611686018427387904 by omega)]
    refine Ev.bind (contF_ev (rd_L1 C i) (by omega) f n c ok.1) ?_
    simp only [bc] at ih
    by_cases e : (rd_L1 C i).any (chB f n c) = true
    · simp only [if_pos e] at ih ⊢; exact ih
    · simp only [if_neg e] at ih ⊢; exact ih
theorem ir_l5 (t f c : List Int) (n : Nat) (H : RibOk t f c n) (g : List Int) (P S : Int) (s : List Bool) (i : Int) (r : List Int) : ∀ (m : Nat) (x : Int), 0 ≤ x ∧ x < n → (∃ k : Nat, k ≤ m ∧ chB f n c (itr t k x) = true) → Ev (fun k => impl_ribbon.l4 k c g P S s (fc t (chB f n c) m x) n i t f (chL f n c)) r → Ev (fun k => impl_ribbon.l5 k c g P S s x n i t f (chL f n c)) r
  | 0, x, hx, ⟨k, hk, hh⟩, h => by
    obtain ⟨hn, h1, ht, hti, hf, hfl, hc, hcl⟩ := id H
    have : k = 0 := by omega
    subst this
    have hh' : chB f n c x = true := hh
    refine Ev.s ?_
    simp only [impl_ribbon.l5, hx.1, chL_len, hx.2, chL_rd f n c x hx.1 hx.2, hh', if_true]
    exact h
  | m + 1, x, hx, ⟨k, hk, hh⟩, h => by
    obtain ⟨hn, h1, ht, hti, hf, hfl, hc, hcl⟩ := id H
    refine Ev.s ?_
    simp only [impl_ribbon.l5, hx.1, chL_len, hx.2, chL_rd f n c x hx.1 hx.2, ht.1, if_true]
    simp only [fc] at h
    have h5 := ht.2 x.toNat (by omega)
    rw [show ((x.toNat : Nat) : Int) = x by omega] at h5
    by_cases e : chB f n c x = true
    · simp only [if_pos e] at h ⊢; exact h
    · simp only [if_neg e] at h ⊢
      cases k with
      | zero => exact absurd hh e
      | succ k => exact ir_l5 t f c n H g P S s i r m _ h5 ⟨k, by omega, hh⟩ h
theorem ir_l4 (t f c : List Int) (n : Nat) (H : RibOk t f c n) (P S : Int) (i : Nat) (r : List Int) : ∀ (m : Nat) (s : List Bool) (l : List Int) (a : Nat), s.length = n → a < n → chB f n c a = true → fresh s < m → Ev (fun k => impl_ribbon.l3 k c (flC f n c) P S (cw (faL t f n c) m s l a).1 n (wrap64 ((i : Int) + 1)) t f (chL f n c)) r → Ev (fun k => impl_ribbon.l4 k c (flC f n c) P S s a n i t f (chL f n c)) r
  | 0, s, l, a, hs, ha, hca, hm, h => absurd hm (Nat.not_lt_zero _)
  | m + 1, s, l, a, hs, ha, hca, hm, h => by
    obtain ⟨hn, h1, ht, hti, hf, hfl, hc, hcl⟩ := id H
    refine Ev.s ?_
    simp only [cw] at h
    have g1 : (a : Int) < (n : Int) := by omega
    have g2 : (0 : Int) ≤ (a : Int) := by omega
    simp only [impl_ribbon.l4, g2, hs, g1, if_true]
    by_cases e : rdOf false s (a : Int) = true
    · simp only [e, if_true] at h ⊢
      exact h
    · simp only [e, if_false] at h ⊢
      have fl := flC_rd f n c a ha
      rw [if_pos hca] at fl
      have fr := hf.2 a ha
      have tr := ht.2 (rd f a).toNat (by omega)
      rw [show (((rd f a).toNat : Nat) : Int) = rd f a by omega] at tr
      have fx := fa_ch t f n ht hti hf hfl c a ha hca
      have h3 : s.getD a false = false := by
        rw [rdOf_nat s a g2, Int.toNat_natCast] at e
        simpa using e
      have h4 := fresh_set s a (by omega) h3
      simp only [flC_len, g1, fl, fr.1, ht.1, fr.2, if_true, Int.toNat_natCast]
      simp only [Int.toNat_natCast] at h
      refine ir_l5 t f c n H (flC f n c) P S _ i r n _ tr (meets t n ht hti _ _ fr (by rw [chB_flip f n hf hfl c a ha]; exact hca)) ?_
      have fe := faL_rd t f n c a ha
      rw [if_pos hca] at fe
      rw [← fe]
      rw [show rd (faL t f n c) a = (((rd (faL t f n c) a).toNat : Nat) : Int) by omega] at h ⊢
      exact ir_l4 t f c n H P S i r m (s.set a true) (l ++ [(a : Int)]) _ (by simpa using hs) (by omega) (by rw [show (((rd (faL t f n c) a).toNat : Nat) : Int) = rd (faL t f n c) a by omega]; exact fx.1) (by omega) h
def fiveN (P S V c : Int) : List Int := [P, S, wrap64 (V - P), wrap64 (c - wrap64 (V - P)), wrap64 (Int.tdiv (wrap64 (wrap64 (wrap64 (wrap64 (2 * P) - V) + c) - S)) 2)]
theorem ir_l3 (t f c : List Int) (n : Nat) (H : RibOk t f c n) (P : Int) (B : Nat) (hB : B ≤ n) : ∀ (d i : Nat), n - i = d → i ≤ n → Ev (fun k => impl_ribbon.l3 k c (flC f n c) P ((B + (ribS (faL t f n c) n (chB f n c) i).2 : Nat) : Int) (ribS (faL t f n c) n (chB f n c) i).1 n i t f (chL f n c)) (fiveN P ((B + (ribS (faL t f n c) n (chB f n c) n).2 : Nat) : Int) ((cyS t n n).2.length : Int) c.length)
  | 0, i, hd, hi => by
    obtain ⟨hn, h1, ht, hti, hf, hfl, hc, hcl⟩ := id H
    have : i = n := by omega
    subst this
    refine Ev.s ?_
    simp only [impl_ribbon.l3, show ¬ (i : Int) < (i : Int) by omega, if_false]
    exact Ev.bind (implCyc_ev t i (by omega) ht) (Ev.const rfl)
  | d + 1, i, hd, hi => by
    obtain ⟨hn, h1, ht, hti, hf, hfl, hc, hcl⟩ := id H
    have ih := ir_l3 t f c n H P B hB d (i + 1) (by omega) (by omega)
    have l1 := ribS_len (faL t f n c) n (chB f n c) i
    have l2 := ribS_le (faL t f n c) n (chB f n c) i
    have fr := fresh_le (ribS (faL t f n c) n (chB f n c) i).1
    have g1 : (i : Int) < (n : Int) := by omega
    have g2 : (0 : Int) ≤ (i : Int) := by omega
    refine Ev.s ?_
    simp only [impl_ribbon.l3, g1, g2, chL_len, if_true, chL_rd f n c _ g2 g1, l1]
    simp only [ribS] at ih
    have wi : wrap64 ((i : Int) + 1) = ((i + 1 : Nat) : Int) := w64n (by omega)
    cases hci : chB f n c (i : Int) with
    | true =>
      simp only [hci, true_and, if_true] at ih ⊢
      refine Ev.s ?_
      cases hs : (ribS (faL t f n c) n (chB f n c) i).1.getD i false with
      | true =>
        rw [hs] at ih
        simp only [Bool.true_eq_false, if_false] at ih
        simp only [impl_ribbon.j4, rdOf_nat _ _ g2, Int.toNat_natCast, hs, if_true, wi]
        exact ih
      | false =>
        rw [hs] at ih
        simp only [if_true] at ih
        simp only [impl_ribbon.j4, rdOf_nat _ _ g2, Int.toNat_natCast, hs, Bool.false_eq_true, if_false, w64n (show B + (ribS (faL t f n c) n (chB f n c) i).2 < 4611686018427387904 by omega)]
        refine ir_l4 t f c n H P _ i _ (n + 1) _ [] i l1 (by omega) hci (by omega) ?_
        rw [wi]
        exact ih
    | false =>
      simp only [hci, Bool.false_eq_true, false_and, if_false] at ih ⊢
      refine Ev.s ?_
      simp only [impl_ribbon.j4, if_true, wi]
      exact ih
def mixL (A B : List Int) (n i : Nat) : List Int := (List.range n).map fun (d : Nat) => if d < i then rd A (d : Int) else rd B (d : Int)
theorem mixL_len (A B : List Int) (n i : Nat) : (mixL A B n i).length = n := by simp [mixL]
theorem mixL_rd (A B : List Int) (n i d : Nat) (h : d < n) : rd (mixL A B n i) (d : Int) = if d < i then rd A (d : Int) else rd B (d : Int) := by
  rw [rd_lt _ _ (by simp [mixL]; exact h)]
  simp [mixL]
theorem mixL_zero (A B : List Int) (n : Nat) (hB : B.length = n) : mixL A B n 0 = B := by
  refine list_ext _ _ (by rw [mixL_len, hB]) fun d hd => ?_
  rw [mixL_len] at hd
  rw [mixL_rd A B n 0 d hd, if_neg (by omega)]
theorem mixL_all (A B : List Int) (n : Nat) (hA : A.length = n) : mixL A B n n = A := by
  refine list_ext _ _ (by rw [mixL_len, hA]) fun d hd => ?_
  rw [mixL_len] at hd
  rw [mixL_rd A B n n d hd, if_pos hd]
theorem mixL_set (A B : List Int) (n i : Nat) (hi : i < n) : (mixL A B n i).set i (rd A i) = mixL A B n (i + 1) := by
  refine list_ext _ _ (by simp [mixL_len]) fun d hd => ?_
  have hd' : d < n := by simpa [mixL_len] using hd
  rw [mixL_rd A B n (i + 1) d hd']
  by_cases e : i = d
  · subst e
    rw [rd_set_self _ _ _ (by rw [mixL_len]; exact hi), if_pos (by omega)]
  · rw [rd_set_ne _ _ _ _ e, mixL_rd A B n i d hd']
    by_cases e2 : d < i
    · rw [if_pos e2, if_pos (by omega)]
    · rw [if_neg e2, if_neg (by omega)]
theorem mixL_skip (A B : List Int) (n i : Nat) (hi : i < n) (h : rd A i = rd B i) : mixL A B n i = mixL A B n (i + 1) := by
  refine list_ext _ _ (by simp [mixL_len]) fun d hd => ?_
  have hd' : d < n := by simpa [mixL_len] using hd
  rw [mixL_rd A B n (i + 1) d hd', mixL_rd A B n i d hd']
  by_cases e2 : d < i
  · rw [if_pos e2, if_pos (by omega)]
  · rw [if_neg e2]
    by_cases e : d < i + 1
    · have : d = i := by omega
      subst this
      rw [if_pos e, h]
    · rw [if_neg e]
theorem sp_l1 (o : List Int) (n : Nat) (hn : n ≤ 12) (ho : o.length = n) : ∀ (d i : Nat), n - i = d → i ≤ n → Ev (fun k => spec_l7Parts.l1 k o (pc o i) i) (pc o n : Int)
  | 0, i, hd, hi => by
    have : i = n := by omega
    subst this
    refine Ev.s ?_
    simp only [spec_l7Parts.l1, ho, show ¬ (i : Int) < (i : Int) by omega, if_false]
    exact Ev.const rfl
  | d + 1, i, hd, hi => by
    have ih := sp_l1 o n hn ho d (i + 1) (by omega) (by omega)
    have hp := pc_le o i
    refine Ev.s ?_
    simp only [spec_l7Parts.l1, ho, show (i : Int) < (n : Int) by omega, show (0 : Int) ≤ (i : Int) by omega, if_true, w64n (show i < 4611686018427387904 by omega), w64n (show pc o i < 4611686018427387904 by omega)]
    simp only [pc] at ih
    by_cases e : (i : Int) = rd o i
    · simp only [if_pos e] at ih
      simp only [if_pos e.symm]
      exact ih
    · simp only [if_neg e] at ih
      have e' : ¬ rd o i = (i : Int) := fun z => e z.symm
      simp only [if_neg e']
      exact ih
theorem sp_l0 (t f c : List Int) (n : Nat) (H : RibOk t f c n) (r : Int) (h : Ev (fun k => (spec_l1Orbits.f k t (flC f n c)).bind fun o => spec_l7Parts.l1 k o 0 0) r) : ∀ (d i : Nat), n - i = d → i ≤ n → Ev (fun k => spec_l7Parts.l0 k c (mixL (flC f n c) (stl n) n i) (geL f n n) i t f) r
  | 0, i, hd, hi => by
    have : i = n := by omega
    subst this
    refine Ev.s ?_
    simp only [spec_l7Parts.l0, mixL_len, show ¬ (i : Int) < (i : Int) by omega, if_false]
    rw [mixL_all _ _ _ (flC_len f i c)]
    exact h
  | d + 1, i, hd, hi => by
    obtain ⟨hn, h1, ht, hti, hf, hfl, hc, hcl⟩ := id H
    have ih := sp_l0 t f c n H r h d (i + 1) (by omega) (by omega)
    have g1 : (i : Int) < (n : Int) := by omega
    have g2 : (0 : Int) ≤ (i : Int) := by omega
    have fl := flC_rd f n c i (by omega)
    refine Ev.s ?_
    simp only [spec_l7Parts.l0, mixL_len, g1, g2, geL_len, if_true]
    refine Ev.bind (has_ev c hcl (rd (geL f n n) i)) ?_
    rw [show decide (rd (geL f n n) (i : Int) ∈ c) = chB f n c i from rfl]
    simp only [hf.1, g1, if_true, w64n (show i < 4611686018427387904 by omega), Int.toNat_natCast]
    by_cases e : chB f n c i = true
    · rw [if_pos e] at fl
      simp only [if_pos e]
      rw [← mixL_set _ _ _ _ (by omega : i < n), fl] at ih
      exact ih
    · rw [if_neg e] at fl
      simp only [if_neg e]
      rw [← mixL_skip _ _ _ _ (by omega : i < n) (by rw [fl, stl_rd n i (by omega)])] at ih
      exact ih
theorem ss_l1 (t f c : List Int) (n : Nat) (H : RibOk t f c n) (F : List Int) (C : List (List Int)) (q : Nat) (hq : q < C.length) (hl : (∀ x ∈ rd_L1 C q, 0 ≤ x ∧ x < n) ∧ (rd_L1 C q).length ≤ n + 1) (B : Int) (r : Int) : ∀ (d i K : Nat), (rd_L1 C q).length - i = d → i ≤ (rd_L1 C q).length → K ≤ i →
    ((K = 0 ∧ ((rd_L1 C q).drop i).any (chB f n c) = false) → Ev (fun k => spec_l7Sides.l0 k c (geL f n n) F (wrap64 (B + 1)) C (wrap64 ((q : Int) + 1)) t f) r → Ev (fun k => spec_l7Sides.l1 k c (geL f n n) F B C q K i t f) r) ∧
    (¬ (K = 0 ∧ ((rd_L1 C q).drop i).any (chB f n c) = false) → Ev (fun k => spec_l7Sides.l0 k c (geL f n n) F B C (wrap64 ((q : Int) + 1)) t f) r → Ev (fun k => spec_l7Sides.l1 k c (geL f n n) F B C q K i t f) r)
  | 0, i, K, hd, hi, hK => by
    have : i = (rd_L1 C q).length := by omega
    rw [List.drop_eq_nil_of_le (by omega)]
    refine ⟨fun ⟨h, _⟩ hr => Ev.s ?_, fun h hr => Ev.s ?_⟩
    · simp only [spec_l7Sides.l1, show (0 : Int) ≤ (q : Int) by omega, show (q : Int) < (C.length : Int) by omega, show ¬ (i : Int) < ((rd_L1 C q).length : Int) by omega, show (K : Int) = 0 by omega, if_true, if_false]
      exact hr
    · have hK0 : ¬ (K : Int) = 0 := fun z => h ⟨by omega, by simp⟩
      simp only [spec_l7Sides.l1, show (0 : Int) ≤ (q : Int) by omega, show (q : Int) < (C.length : Int) by omega, show ¬ (i : Int) < ((rd_L1 C q).length : Int) by omega, hK0, if_true, if_false]
      exact hr
  | d + 1, i, K, hd, hi, hK => by
    obtain ⟨hn, h1, ht, hti, hf, hfl, hc, hcl⟩ := id H
    have hlt : i < (rd_L1 C q).length := by omega
    have e := rd_lt _ i hlt
    have hr := hl.1 _ (List.getElem_mem hlt)
    rw [← e] at hr
    have g1 : (i : Int) < ((rd_L1 C q).length : Int) := by omega
    have g2 : (0 : Int) ≤ (i : Int) := by omega
    have g3 : (0 : Int) ≤ (q : Int) := by omega
    have g4 : (q : Int) < (C.length : Int) := by omega
    have wi : i < 4611686018427387904 := by omega
    have wK : K < 4611686018427387904 := by omega
    have ih0 := ss_l1 t f c n H F C q hq hl B r d (i + 1) K (by omega) (by omega) (by omega)
    have ih1 := ss_l1 t f c n H F C q hq hl B r d (i + 1) (K + 1) (by omega) (by omega) (by omega)
    have hd2 : ((rd_L1 C q).drop i).any (chB f n c) = (chB f n c (rd (rd_L1 C q) i) || ((rd_L1 C q).drop (i + 1)).any (chB f n c)) := by
      rw [List.drop_eq_getElem_cons hlt, List.any_cons, e]
    rw [hd2]
    cases hb : chB f n c (rd (rd_L1 C q) i) with
    | true =>
      have hd3 : decide (rd (geL f n n) (rd (rd_L1 C q) i) ∈ c) = true := hb
      refine ⟨fun ⟨_, h⟩ => by simp at h, fun h hr' => Ev.s ?_⟩
      simp only [spec_l7Sides.l1, g1, g2, g3, g4, hr.1, geL_len, hr.2, if_true]
      refine Ev.bind (has_ev c hcl _) ?_
      simp only [hd3, if_true, w64n wi, w64n wK]
      exact ih1.2 (fun z => by omega) hr'
    | false =>
      have hd3 : decide (rd (geL f n n) (rd (rd_L1 C q) i) ∈ c) = false := hb
      rw [Bool.false_or]
      refine ⟨fun h hr' => Ev.s ?_, fun h hr' => Ev.s ?_⟩
      · simp only [spec_l7Sides.l1, g1, g2, g3, g4, hr.1, geL_len, hr.2, if_true]
        refine Ev.bind (has_ev c hcl _) ?_
        simp only [hd3, Bool.false_eq_true, if_false, w64n wi]
        exact ih0.1 h hr'
      · simp only [spec_l7Sides.l1, g1, g2, g3, g4, hr.1, geL_len, hr.2, if_true]
        refine Ev.bind (has_ev c hcl _) ?_
        simp only [hd3, Bool.false_eq_true, if_false, w64n wi]
        exact ih0.2 h hr'
theorem ss_l0 (t f c : List Int) (n : Nat) (H : RibOk t f c n) (F : List Int) (C : List (List Int)) (hC : ∀ l ∈ C, (∀ x ∈ l, 0 ≤ x ∧ x < n) ∧ l.length ≤ n + 1) (hCl : C.length ≤ n) (r : Int) (h : Ev (fun k => spec_l7Sides.l2 k c (geL f n n) F (bc C (chB f n c) C.length) 0 t f) r) : ∀ (d i : Nat), C.length - i = d → i ≤ C.length → Ev (fun k => spec_l7Sides.l0 k c (geL f n n) F (bc C (chB f n c) i) C i t f) r
  | 0, i, hd, hi => by
    have : i = C.length := by omega
    subst this
    refine Ev.s ?_
    simp only [spec_l7Sides.l0, show ¬ (C.length : Int) < (C.length : Int) by omega, if_false]
    exact h
  | d + 1, i, hd, hi => by
    obtain ⟨hn, h1, ht, hti, hf, hfl, hc, hcl⟩ := id H
    have ih := ss_l0 t f c n H F C hC hCl r h d (i + 1) (by omega) (by omega)
    have hb := bc_le C (chB f n c) i
    have ok := rdL_ok C _ hC i (by omega)
    have in1 := ss_l1 t f c n H F C i (by omega) ok (bc C (chB f n c) i) r _ 0 0 rfl (by omega) (by omega)
    rw [w64n (show i < 4611686018427387904 by omega), w64n (show bc C (chB f n c) i < 4611686018427387904 by omega), List.drop_zero] at in1
    refine Ev.s ?_
    simp only [spec_l7Sides.l0, show (i : Int) < (C.length : Int) by omega, if_true]
    simp only [bc] at ih
    by_cases e : (rd_L1 C i).any (chB f n c) = true
    · simp only [if_pos e] at ih
      exact in1.2 (fun z => by rw [e] at z; simp at z) ih
    · simp only [if_neg e] at ih
      exact in1.1 ⟨rfl, by simpa using e⟩ ih
theorem ss_l3 (t f c : List Int) (n : Nat) (H : RibOk t f c n) (F : List Int) (hF : F.length = n) (B : Int) (i : Nat) (hi : i < n) (r : Int) : ∀ (m : Nat) (x : Int), 0 ≤ x ∧ x < n → (∃ k : Nat, k ≤ m ∧ chB f n c (itr t k x) = true) → Ev (fun k => spec_l7Sides.l2 k c (geL f n n) (F.set i (fc t (chB f n c) m x)) B (wrap64 ((i : Int) + 1)) t f) r → Ev (fun k => spec_l7Sides.l3 k c (geL f n n) F B i x t f) r
  | 0, x, hx, ⟨k, hk, hh⟩, h => by
    obtain ⟨hn, h1, ht, hti, hf, hfl, hc, hcl⟩ := id H
    have : k = 0 := by omega
    subst this
    have hh' : chB f n c x = true := hh
    have hd3 : decide (rd (geL f n n) x ∈ c) = true := hh'
    refine Ev.s ?_
    simp only [spec_l7Sides.l3, hx.1, geL_len, hx.2, if_true]
    refine Ev.bind (has_ev c hcl _) ?_
    simp only [hd3, hF, show (0 : Int) ≤ (i : Int) by omega, show (i : Int) < (n : Int) by omega, if_true, Int.toNat_natCast]
    exact h
  | m + 1, x, hx, ⟨k, hk, hh⟩, h => by
    obtain ⟨hn, h1, ht, hti, hf, hfl, hc, hcl⟩ := id H
    refine Ev.s ?_
    simp only [spec_l7Sides.l3, hx.1, geL_len, hx.2, if_true]
    refine Ev.bind (has_ev c hcl _) ?_
    rw [show decide (rd (geL f n n) x ∈ c) = chB f n c x from rfl]
    simp only [fc] at h
    have h5 := ht.2 x.toNat (by omega)
    rw [show ((x.toNat : Nat) : Int) = x by omega] at h5
    simp only [hF, ht.1, hx.2, show (0 : Int) ≤ (i : Int) by omega, show (i : Int) < (n : Int) by omega, if_true, Int.toNat_natCast]
    by_cases e : chB f n c x = true
    · simp only [if_pos e] at h ⊢; exact h
    · simp only [if_neg e] at h ⊢
      cases k with
      | zero => exact absurd hh e
      | succ k => exact ss_l3 t f c n H F hF B i hi r m _ h5 ⟨k, by omega, hh⟩ h
theorem ss_l2 (t f c : List Int) (n : Nat) (H : RibOk t f c n) (B : Nat) (hB : B ≤ n) : ∀ (d i : Nat), n - i = d → i ≤ n → Ev (fun k => spec_l7Sides.l2 k c (geL f n n) (mixL (faL t f n c) (stl n) n i) B i t f) ((B + (ribS (faL t f n c) n (chB f n c) n).2 : Nat) : Int)
  | 0, i, hd, hi => by
    obtain ⟨hn, h1, ht, hti, hf, hfl, hc, hcl⟩ := id H
    have : i = n := by omega
    subst this
    refine Ev.s ?_
    simp only [spec_l7Sides.l2, mixL_len, show ¬ (i : Int) < (i : Int) by omega, if_false]
    rw [mixL_all _ _ _ (faL_len t f i c)]
    refine Ev.bind (specCyc_ev _ i (by omega) (faL_inR t f i ht hf c)) (Ev.const ?_)
    have e1 := (ribS_cyS (faL t f i c) i (chB f i c) (fun d hd hcd => fa_ch t f i ht hti hf hfl c d hd hcd) (fun d hd hcd => by rw [faL_rd t f i c d hd, hcd]; simp) i (Nat.le_refl _)).1
    have e2 := ch_fresh f i hf hfl c hc c.length (Nat.le_refl _)
    rw [List.take_length] at e2
    have e3 := uc_fresh (chB f i c) (chL f i c) (fun d hd => chL_getD f i c d (by rwa [chL_len] at hd))
    rw [chL_len] at e3
    have e4 := ribS_le (faL t f i c) i (chB f i c) i
    congr 1
    rw [e1, w64r (x := 2 * (c.length : Int)) (by omega), w64r (x := (i : Int) - 2 * (c.length : Int)) (by omega)]
    rw [w64r (x := (((ribS (faL t f i c) i (chB f i c) i).2 + uc (chB f i c) i : Nat) : Int) - ((i : Int) - 2 * (c.length : Int))) (by omega)]
    rw [w64r (by omega)]
    omega
  | d + 1, i, hd, hi => by
    obtain ⟨hn, h1, ht, hti, hf, hfl, hc, hcl⟩ := id H
    have ih := ss_l2 t f c n H B hB d (i + 1) (by omega) (by omega)
    have g1 : (i : Int) < (n : Int) := by omega
    have g2 : (0 : Int) ≤ (i : Int) := by omega
    have fl := faL_rd t f n c i (by omega)
    have fr := hf.2 i (by omega)
    have tr := ht.2 (rd f i).toNat (by omega)
    rw [show (((rd f i).toNat : Nat) : Int) = rd f i by omega] at tr
    refine Ev.s ?_
    simp only [spec_l7Sides.l2, mixL_len, g1, g2, geL_len, if_true]
    refine Ev.bind (has_ev c hcl (rd (geL f n n) i)) ?_
    rw [show decide (rd (geL f n n) (i : Int) ∈ c) = chB f n c i from rfl]
    simp only [hf.1, g1, fr.1, ht.1, fr.2, if_true]
    by_cases e : chB f n c i = true
    · rw [if_pos e] at fl
      simp only [if_pos e]
      refine ss_l3 t f c n H _ (mixL_len _ _ _ _) B i (by omega) _ n _ tr (meets t n ht hti _ _ fr (by rw [chB_flip f n hf hfl c i (by omega)]; exact e)) ?_
      rw [← mixL_set _ _ _ _ (by omega : i < n), fl] at ih
      rw [w64n (by omega)]
      exact ih
    · rw [if_neg e] at fl
      simp only [if_neg e]
      rw [← mixL_skip _ _ _ _ (by omega : i < n) (by rw [fl, stl_rd n i (by omega)])] at ih
      rw [w64n (by omega)]
      exact ih
theorem specSides_ev (t f c : List Int) (n : Nat) (H : RibOk t f c n) : Ev (fun k => spec_l7Sides.f k t f c) (sidesN t f n c : Int) := by
  obtain ⟨hn, h1, ht, hti, hf, hfl, hc, hcl⟩ := id H
  unfold spec_l7Sides.f
  refine Ev.bind (specEdges_ev n (by omega) t f hf) ?_
  rw [hf.1]
  refine Ev.bind (same_ev n (by omega)) ?_
  refine Ev.bind (specCyc_ev t n (by omega) ht) ?_
  have hCl := cyS_many t n n
  have hb := bc_le (cyS t n n).2 (chB f n c) (cyS t n n).2.length
  refine ss_l0 t f c n H (stl n) _ (cyS_ok t n ht n (Nat.le_refl _)) hCl _ ?_ _ 0 rfl (by omega)
  have := ss_l2 t f c n H _ (by omega : bc (cyS t n n).2 (chB f n c) (cyS t n n).2.length ≤ n) n 0 (by omega) (by omega)
  rw [mixL_zero _ _ _ (stl_length n)] at this
  exact this
theorem ribbon_both (t f c : List Int) (n : Nat) (H : RibOk t f c n) : ∃ o, orbOk [t, flC f n c] n o ∧ Ev (fun k => spec_l7Parts.f k t f c) (pc o n : Int) ∧
    Ev (fun k => spec_l7Counts.f k t f c) (fiveN (pc o n) (sidesN t f n c) ((cyS t n n).2.length : Int) c.length) ∧ Ev (fun k => impl_ribbon.f k t f c) (fiveN (pc o n) (sidesN t f n c) ((cyS t n n).2.length : Int) c.length) := by
  obtain ⟨hn, h1, ht, hti, hf, hfl, hc, hcl⟩ := id H
  obtain ⟨o, o1, o2, o3⟩ := orb_both t (flC f n c) n hn h1 ht (flC_inR f n hf c)
  have hp : Ev (fun k => spec_l7Parts.f k t f c) (pc o n : Int) := by
    unfold spec_l7Parts.f
    rw [hf.1]
    refine Ev.bind (same_ev n (by omega)) ?_
    refine Ev.bind (specEdges_ev n (by omega) t f hf) ?_
    have := sp_l0 t f c n H _ (Ev.bind o2 (sp_l1 o n hn o1.1.1 n 0 (by omega) (by omega))) n 0 (by omega) (by omega)
    rw [mixL_zero _ _ _ (stl_length n)] at this
    exact this
  refine ⟨o, o1, hp, ?_, ?_⟩
  · unfold spec_l7Counts.f
    refine Ev.bind hp ?_
    refine Ev.bind (specSides_ev t f c n H) ?_
    exact Ev.bind (specCyc_ev t n (by omega) ht) (Ev.const rfl)
  · unfold impl_ribbon.f
    rw [ht.1]
    simp only [show (0 : Int) ≤ (n : Int) by omega, Int.toNat_natCast, show n ≤ 281474976710656 by omega, if_true]
    refine Ev.bind (still_ev n (by omega)) ?_
    have hCl := cyS_many t n n
    have hb := bc_le (cyS t n n).2 (chB f n c) (cyS t n n).2.length
    rw [← flC_zero f n c, ← chL_zero f n c]
    refine ir_l0 t f c n H n _ (Ev.bind o3 ?_) c.length 0 (by omega) (by omega)
    rw [o1.1.1]
    refine ir_l1 t f c n H n _ _ o o1.1.1 _ (Ev.bind (implCyc_ev t n (by omega) ht) ?_) n 0 (by omega) (by omega)
    refine ir_l2 t f c n H _ _ _ (cyS_ok t n ht n (Nat.le_refl _)) hCl _ ?_ _ 0 rfl (by omega)
    exact ir_l3 t f c n H (pc o n) _ (by omega) n 0 (by omega) (by omega)
end Go.Proofs.Ytcjmgkbbmahgcaa.PC

set_option linter.unusedVariables false
set_option linter.unusedSimpArgs false
namespace Go.Proofs.Ytcjmgkbbmahgcaa.PC
open Go.RowKit Go.Proofs.YtcjmgkbbmahgcaaW.PrintWords Go.Proofs.YtcjmgkbbmahgcaaW.PrintLast Go.Proofs.YtcjmgkbbmahgcaaW.PrintMore
theorem perm_injR (l : List Int) (h : isPerm l) : injR l.length l := by
  intro i j hi hj e
  by_cases h1 : i < j
  · exact absurd e ((h.2.2 j hj).2.2 i h1)
  · by_cases h2 : j < i
    · exact absurd e.symm ((h.2.2 i hi).2.2 j h2)
    · omega
theorem ribOk_of (t f c : List Int) (h : isMap t f) (hc : isChoice c ((f.length : Int) / 2)) (hcl : c.length ≤ 1048576) : RibOk t f c t.length := by
  obtain ⟨pt, pf, e, fl, _⟩ := h
  have hf : inR t.length f := by rw [e]; exact isPerm_inR f pf
  have hfl : ∀ i : Nat, i < t.length → flipAt f i := fun i hi => fl i (by omega)
  refine ⟨pt.2.1, pt.1, isPerm_inR t pt, perm_injR t pt, hf, hfl, ?_, hcl⟩
  have := edL_half f t.length hf hfl
  rw [show (((edL f t.length).length : Nat) : Int) = (f.length : Int) / 2 by omega]
  exact hc
theorem counts_both (t f c : List Int) (ht : t.length ≤ 1048576) (hf : f.length ≤ 1048576) (hc : c.length ≤ 1048576) : ∃ (P S V : Nat) (b : Bool), Ev (fun k => spec_ChoiceValid.f k t f c) b ∧ Ev (fun k => impl_ChoiceValid.f k t f c) b ∧ (b = true → Ev (fun k => spec_l7Counts.f k t f c) (fiveN P S V c.length) ∧ Ev (fun k => impl_ribbon.f k t f c) (fiveN P S V c.length)) := by
  obtain ⟨b, b1, b2, b3⟩ := choiceValid_both t f c ht hf hc
  cases b with
  | false => exact ⟨0, 0, 0, false, b1, b2, fun h => by cases h⟩
  | true =>
    have hv := b3.1 rfl
    obtain ⟨o, _, _, h2, h3⟩ := ribbon_both t f c t.length (ribOk_of t f c hv.1 hv.2 hc)
    exact ⟨_, _, _, true, b1, b2, fun _ => ⟨h2, h3⟩⟩
theorem choiceCounts_both (t f c : List Int) (ht : t.length ≤ 1048576) (hf : f.length ≤ 1048576) (hc : c.length ≤ 1048576) : ∃ (r : List Int) (b : Bool), Ev (fun k => spec_ChoiceCounts.f k t f c) (r, b) ∧ Ev (fun k => impl_ChoiceCounts.f k t f c) (r, b) ∧ r.length ≤ 5 := by
  obtain ⟨P, S, V, b, b1, b2, b3⟩ := counts_both t f c ht hf hc
  unfold spec_ChoiceCounts.f impl_ChoiceCounts.f
  cases b with
  | true =>
    obtain ⟨h2, h3⟩ := b3 rfl
    refine ⟨fiveN P S V c.length, true, ?_, ?_, by simp [fiveN]⟩
    · refine Ev.bind b1 ?_
      simp only [if_true]
      exact Ev.bind h2 (Ev.const rfl)
    · refine Ev.bind b2 ?_
      simp only [if_true]
      exact Ev.bind h3 (Ev.const rfl)
  | false =>
    refine ⟨[], false, ?_, ?_, by simp⟩
    · refine Ev.bind b1 ?_
      simp only [Bool.false_eq_true, if_false]
      exact Ev.const rfl
    · refine Ev.bind b2 ?_
      simp only [Bool.false_eq_true, if_false]
      exact Ev.const rfl
end Go.Proofs.Ytcjmgkbbmahgcaa.PC

set_option linter.unusedVariables false
set_option linter.unusedSimpArgs false
namespace Go.Proofs.Ytcjmgkbbmahgcaa.PC
open Go.RowKit Go.Proofs.YtcjmgkbbmahgcaaW.PrintWords Go.Proofs.YtcjmgkbbmahgcaaW.PrintLast Go.Proofs.YtcjmgkbbmahgcaaW.PrintMore
theorem szMap_cases (t f : List Int) (ht : t.length ≤ maxLen) (hf : f.length ≤ maxLen) : ∃ s, laws_szMap.f t f 1048576 = some s ∧ (s < 0 ∨ t.length ≤ 1048576 ∧ f.length ≤ 1048576 ∧ ¬ s < 0) := by
  unfold maxLen at ht hf
  have h1 : wrap64 (1048576 - (t.length : Int)) = 1048576 - (t.length : Int) := w64 (by omega) (by omega)
  by_cases c1 : (1048576 - (t.length : Int)) < 0
  · refine ⟨-1, ?_, .inl (by decide)⟩
    unfold laws_szMap.f laws_szIntS.f
    simp [h1, c1]
  · have h2 : wrap64 (1048576 - (t.length : Int) - (f.length : Int)) = 1048576 - (t.length : Int) - (f.length : Int) := w64 (by omega) (by omega)
    by_cases c2 : (1048576 - (t.length : Int) - (f.length : Int)) < 0
    · refine ⟨-1, ?_, .inl (by decide)⟩
      unfold laws_szMap.f laws_szIntS.f
      simp [h1, c1, h2, c2]
    · refine ⟨1048576 - (t.length : Int) - (f.length : Int), ?_, .inr ⟨by omega, by omega, c2⟩⟩
      unfold laws_szMap.f laws_szIntS.f
      simp [h1, c1, h2, c2]
theorem toMap_ev (t f : List Int) (ht : t.length ≤ 1048576) (hf : f.length ≤ 1048576) : Ev (fun k => laws_toMap.f k t f) (t, f) := by
  unfold laws_toMap.f
  refine Ev.bind (toIntS_ev t ht) ?_
  exact Ev.bind (toIntS_ev f hf) (Ev.const rfl)
end Go.Proofs.Ytcjmgkbbmahgcaa.PC

set_option linter.unusedVariables false
set_option linter.unusedSimpArgs false
namespace Go.Proofs.Ytcjmgkbbmahgcaa.PC
open Go.RowKit Go.Proofs.YtcjmgkbbmahgcaaW.PrintWords Go.Proofs.YtcjmgkbbmahgcaaW.PrintLast Go.Proofs.YtcjmgkbbmahgcaaW.PrintMore
theorem eqMap_same (t f : List Int) (ht : t.length ≤ 1048576) (hf : f.length ≤ 1048576) : Ev (fun k => laws_eqMap.f k t f t f) true := by
  unfold laws_eqMap.f
  refine Ev.bind (eqIntS_same t ht) ?_
  simp only [if_true]
  exact Ev.bind (eqIntS_same f hf) (Ev.const rfl)
end Go.Proofs.Ytcjmgkbbmahgcaa.PC

set_option linter.unusedVariables false
set_option linter.unusedSimpArgs false
namespace Go.Proofs.Ytcjmgkbbmahgcaa.PC
open Go.RowKit Go.Proofs.YtcjmgkbbmahgcaaW.PrintWords Go.Proofs.YtcjmgkbbmahgcaaW.PrintLast Go.Proofs.YtcjmgkbbmahgcaaW.PrintMore
def marks (n : Nat) (m : Int) : List Int := (List.range n).map fun (i : Nat) => m + (i : Int)
theorem marks_length (n : Nat) (m : Int) : (marks n m).length = n := by simp [marks]
theorem marks_rd (n : Nat) (m : Int) (i : Nat) (h : i < n) : rd (marks n m) i = m + i := by
  rw [rd_lt _ _ (by rw [marks_length]; exact h)]
  simp [marks]
theorem mark_run (m : Int) (hm : 0 ≤ m) (hm' : m ≤ 4611686018427387904) : ∀ (d : Nat) (l : List Int) (i : Nat), l.length ≤ 4194304 → l.length - i = d → i ≤ l.length → l.take i = (marks l.length m).take i → Ev (fun k => laws_markIntS.l0 k l (m + i) i) (m + l.length, marks l.length m)
  | 0, l, i, hl, hd, hi, ht => by
    refine Ev.s ?_
    simp only [laws_markIntS.l0, show ¬ (i : Int) < (l.length : Int) by omega, if_false]
    have hi' : i = l.length := by omega
    subst hi'
    rw [List.take_length] at ht
    have e : (marks l.length m).take l.length = marks l.length m := by
      rw [List.take_of_length_le]; rw [marks_length]; exact Nat.le_refl _
    rw [e] at ht
    refine Ev.const ?_
    rw [← ht]
  | d + 1, l, i, hl, hd, hi, ht => by
    have hlt : i < l.length := by omega
    refine Ev.s ?_
    simp only [laws_markIntS.l0, show (i : Int) < (l.length : Int) by omega, show (0 : Int) ≤ i by omega, if_true]
    rw [w64 (x := (i : Int) + 1) (by omega) (by omega), w64 (x := m + (i : Int) + 1) (by omega) (by omega), show ((i : Int) + 1) = ((i + 1 : Nat) : Int) by omega, show m + (i : Int) + 1 = m + ((i + 1 : Nat) : Int) by omega]
    have hL : (l.set i (m + (i : Int))).length = l.length := by simp
    have ih := mark_run m hm hm' d (l.set i (m + (i : Int))) (i + 1) (by omega) (by omega) (by omega) ?_
    · rw [hL] at ih
      rw [Int.toNat_natCast]
      exact ih
    · rw [hL]
      have h2 : i < (marks l.length m).length := by rw [marks_length]; exact hlt
      rw [List.take_succ_eq_append_getElem (by simpa using hlt), List.take_succ_eq_append_getElem h2, List.take_set_of_le (Nat.le_refl _), ht]
      simp [marks]
theorem mark_ev (l : List Int) (m : Int) (hm : 0 ≤ m) (hm' : m ≤ 4611686018427387904) (hl : l.length ≤ 4194304) : Ev (fun k => laws_markIntS.f k l m) (m + l.length, marks l.length m) := by
  have := mark_run m hm hm' l.length l 0 hl (by omega) (by omega) (by simp)
  unfold laws_markIntS.f
  simpa using this
theorem held_run (n : Nat) (m : Int) (hn : n ≤ 4194304) (hm : 0 ≤ m) (hm' : m ≤ 4611686018427387904) : ∀ (d i : Nat), n - i = d → i ≤ n → Ev (fun k => laws_heldIntS.l0 k (marks n m) (m + i) i) (m + n)
  | 0, i, hd, hi => by
    refine Ev.s ?_
    simp only [laws_heldIntS.l0, marks_length, show ¬ (i : Int) < (n : Int) by omega, if_false]
    have : i = n := by omega
    subst this
    exact Ev.const rfl
  | d + 1, i, hd, hi => by
    refine Ev.s ?_
    simp only [laws_heldIntS.l0, marks_length, show (i : Int) < (n : Int) by omega, show (0 : Int) ≤ i by omega, if_true, marks_rd n m i (by omega)]
    rw [w64 (x := (i : Int) + 1) (by omega) (by omega), w64 (x := m + (i : Int) + 1) (by omega) (by omega), show ((i : Int) + 1) = ((i + 1 : Nat) : Int) by omega, show m + (i : Int) + 1 = m + ((i + 1 : Nat) : Int) by omega]
    exact held_run n m hn hm hm' d (i + 1) (by omega) (by omega)
theorem held_ev (n : Nat) (m : Int) (hn : n ≤ 4194304) (hm : 0 ≤ m) (hm' : m ≤ 4611686018427387904) : Ev (fun k => laws_heldIntS.f k (marks n m) m) (m + n) := by
  have := held_run n m hn hm hm' n 0 (by omega) (by omega)
  unfold laws_heldIntS.f
  simpa using this
end Go.Proofs.Ytcjmgkbbmahgcaa.PC

set_option linter.unusedVariables false
set_option linter.unusedSimpArgs false
namespace Go.Proofs.Ytcjmgkbbmahgcaa.PC
open Go.RowKit Go.Proofs.YtcjmgkbbmahgcaaW.PrintWords Go.Proofs.YtcjmgkbbmahgcaaW.PrintLast Go.Proofs.YtcjmgkbbmahgcaaW.PrintMore
theorem markMap_ev (t f : List Int) (ht : t.length ≤ 1048576) (hf : f.length ≤ 1048576) : Ev (fun k => laws_markMap.f k t f 1) (1 + (t.length : Int) + (f.length : Int), marks t.length 1, marks f.length (1 + (t.length : Int))) := by
  unfold laws_markMap.f
  refine Ev.bind (mark_ev t 1 (by omega) (by omega) (by omega)) ?_
  exact Ev.bind (mark_ev f (1 + (t.length : Int)) (by omega) (by omega) (by omega)) (Ev.const rfl)
end Go.Proofs.Ytcjmgkbbmahgcaa.PC

set_option linter.unusedVariables false
set_option linter.unusedSimpArgs false
namespace Go.Proofs.Ytcjmgkbbmahgcaa.Pure
open Go.RowKit Go.Proofs.Ytcjmgkbbmahgcaa.PC Go.Proofs.YtcjmgkbbmahgcaaW.PrintWords Go.Proofs.YtcjmgkbbmahgcaaW.PrintLast Go.Proofs.YtcjmgkbbmahgcaaW.PrintMore
theorem FnExactChoiceCounts : laws_FnExactChoiceCounts.Pure := by
  intro t f c ht _ hf _ hc _
  by_cases c0 : (c.length : Int) > 1048576
  · exact ⟨0, by unfold laws_FnExactChoiceCounts.f; rw [if_pos c0]⟩
  · obtain ⟨s, hs, h0 | ⟨ht', hf', h0⟩⟩ := szMap_cases t f ht hf
    · refine ⟨0, ?_⟩
      unfold laws_FnExactChoiceCounts.f
      rw [if_neg c0, hs, Option.bind_some, if_pos h0]
    · have hc' : c.length ≤ 1048576 := by omega
      obtain ⟨r, b, e1, e2, hr⟩ := choiceCounts_both t f c ht' hf' hc'
      have hb : (b != b) = false := by simp
      refine Ev.rounds (r := true) ?_
      unfold laws_FnExactChoiceCounts.f
      simp only [c0, hs, Option.bind_some, h0, if_false]
      refine Ev.bind (toMap_ev t f ht' hf') ?_
      refine Ev.bind (toIntS_ev c hc') ?_
      refine Ev.bind e1 ?_
      refine Ev.bind (toMap_ev t f ht' hf') ?_
      refine Ev.bind (toIntS_ev c hc') ?_
      refine Ev.bind e2 ?_
      refine Ev.bind (eqIntS_same r (by omega)) ?_
      simp only [if_true, hb]
      refine Ev.s ?_
      simp only [laws_FnExactChoiceCounts.j0, Bool.false_eq_true, if_false]
      refine Ev.bind (toMap_ev t f ht' hf') ?_
      refine Ev.bind (eqMap_same t f ht' hf') ?_
      simp only [if_true]
      refine Ev.bind (toIntS_ev c hc') ?_
      refine Ev.bind (eqIntS_same c hc') ?_
      simp only [if_true]
      refine Ev.bind (markMap_ev t f ht' hf') ?_
      refine Ev.bind (mark_ev c (1 + (t.length : Int) + (f.length : Int)) (by omega) (by omega) (by omega)) ?_
      simp only [show ¬ 1 + (t.length : Int) + (f.length : Int) + (c.length : Int) < 0 by omega, if_false]
      refine Ev.bind (eqIntS_same r (by omega)) ?_
      simp only [if_true, hb]
      refine Ev.s ?_
      simp only [laws_FnExactChoiceCounts.j1, Bool.false_eq_true, if_false]
      refine Ev.bind (mark_ev r 1 (by omega) (by omega) (by omega)) ?_
      refine Ev.bind (held_ev r.length 1 (by omega) (by omega) (by omega)) ?_
      simp only [show ¬ 1 + (r.length : Int) < 0 by omega, if_false, if_true]
      refine Ev.bind (toMap_ev t f ht' hf') ?_
      refine Ev.bind (toIntS_ev c hc') ?_
      refine Ev.bind e2 ?_
      refine Ev.bind (eqIntS_same r (by omega)) ?_
      simp only [if_true, hb]
      refine Ev.s ?_
      simp only [laws_FnExactChoiceCounts.j2, Bool.false_eq_true, if_false]
      refine Ev.bind (held_ev r.length 1 (by omega) (by omega) (by omega)) ?_
      simp only [show ¬ 1 + (r.length : Int) < 0 by omega, if_false, if_true]
      exact Ev.const rfl
end Go.Proofs.Ytcjmgkbbmahgcaa.Pure

namespace Go.Proofs.Ytcjmgkbbmahgcaa.fnExactChoiceCounts
open Go.ChangeShapes Go.WideShapes Go.ChangeAt Go.RowKit Go.Joins Go.Proofs.YtcjmgkbbmahgcaaW.PrintWords Go.Proofs.YtcjmgkbbmahgcaaW.PrintLast
open Go.ChangeMaps (open_string shut_string)
set_option linter.unusedVariables false
theorem own : ownKnob Try.prog.godebug = none := by kernel_rfl
theorem laidOut : laidOutB Try.prog = true := by kernel_rfl
def IsRow (k : IntKind) (w : World) (a : Option Addr) (len cap : Nat) (zs : List Int) : Prop :=
  (a = none ∧ len = 0 ∧ cap = 0 ∧ zs = []) ∨
  ∃ x, a = some x ∧ len ≤ cap ∧ cap ≤ maxLen ∧ zs.length = cap ∧ (∀ i, i < zs.length → w.cell? (x.add i) = some (.int k (zs.getD i 0))) ∧ ∀ n ∈ zs, (Lit.int k n).wf = true
theorem cells24 : Try.prog.cellsOf 24 = 2 := by kernel_rfl
set_option maxRecDepth 100000 in
theorem lifted (os : Os) (started : os.Started) (H : Type) (enc : TypeId × Value → H) :
    ReturnsInHanded {} Try.checked os 7 .any (Rows.fnExactChoiceCountsSpec.pre6 enc Try.prog Try.f7 Rows.fnExactChoiceCountsRow.domain false) (Rows.fnExactChoiceCountsSpec.post enc Try.prog Try.f7 false true false false) := by
  refine returnsInHanded_of_change_sized (C := Try.checked) own started (by kernel_rfl) Try.func7
    (ChangeSpec.witness6 (enc := enc) (C := Try.checked) false ⟨#[], #[.agg #[.slice none 0 0, .slice none 0 0], .slice none 0 0], []⟩ 8 (by kernel_rfl) (by kernel_rfl) (by kernel_rfl) (by kernel_rfl)) ?_
  intro W base args ds gs before hval0 hW hcnd hsz0 _
  have hval : ∀ (j : Nat) t v, Try.f7.params[j]? = some t → args[j]? = some v → Value.okWide Try.prog W .any base t v := hval0
  have hW' := hW
  obtain ⟨p, q, hA0, hV, rfl, hfz, hnd⟩ := hW
  have hA : DataW.TrodAll enc Try.prog W 0 (fun _ => true) true Try.f7.params.toList args.toList ds p := hA0
  rw [Try.params7] at hA hval
  obtain ⟨v0, vs0, d0, ds0, p0, q0, hargs, rfl, rfl, h0, r0⟩ := trodAll_cons hA
  obtain ⟨v1, vs1, d1, ds1, p1, q1, rfl, rfl, rfl, h1, r1⟩ := trodAll_cons r0
  obtain ⟨rfl, rfl, rfl⟩ := trodAll_nil r1
  obtain rfl : args = #[v0, v1] := by cases args; simp_all
  obtain ⟨rfl, rfl⟩ := trodVars_none hV
  have k0 := h0
  have lt0 : ∀ x ∈ p0, x.block < W.heap.size := by obtain ⟨m, hm⟩ := k0; exact DataW.trod_lt m _ _ _ hm
  obtain ⟨c0_0, c0_1, y0_0, y0_1, m0, e0, _, _, hy0_0, hy0_1⟩ := open_agg2 Try.underlying24 (by kernel_rfl) cells24 (hval 0 24 v0 rfl rfl) h0
  subst e0
  obtain ⟨a0_0, len0_0, cap0_0, z0_0, ec0_0, w0_0⟩ : ∃ a len cap zs, c0_0 = .slice a len cap ∧ IsRow .i64 W a len cap zs := by
    rcases open_ints Try.underlying22 Try.underlying3 (by kernel_rfl) hy0_0 with ⟨hcs, _⟩ | ⟨x, l, c, zs, hcs, _, hl, hm, hz, _, hcell, hwz⟩
    · simp at hcs; exact ⟨none, 0, 0, [], hcs, .inl ⟨rfl, rfl, rfl, rfl⟩⟩
    · simp at hcs; exact ⟨_, _, _, zs, hcs, .inr ⟨_, rfl, hl, hm, by simpa using hz, hcell, hwz⟩⟩
  subst ec0_0
  obtain ⟨l0_0, el0_0, hr0_0, hm0_0, hw0_0, hc0_0⟩ := ReadsInt.ofRowC w0_0
  subst el0_0
  obtain ⟨a0_1, len0_1, cap0_1, z0_1, ec0_1, w0_1⟩ : ∃ a len cap zs, c0_1 = .slice a len cap ∧ IsRow .i64 W a len cap zs := by
    rcases open_ints Try.underlying22 Try.underlying3 (by kernel_rfl) hy0_1 with ⟨hcs, _⟩ | ⟨x, l, c, zs, hcs, _, hl, hm, hz, _, hcell, hwz⟩
    · simp at hcs; exact ⟨none, 0, 0, [], hcs, .inl ⟨rfl, rfl, rfl, rfl⟩⟩
    · simp at hcs; exact ⟨_, _, _, zs, hcs, .inr ⟨_, rfl, hl, hm, by simpa using hz, hcell, hwz⟩⟩
  subst ec0_1
  obtain ⟨l0_1, el0_1, hr0_1, hm0_1, hw0_1, hc0_1⟩ := ReadsInt.ofRowC w0_1
  subst el0_1
  obtain ⟨a1, len1, cap1, rfl⟩ := okWide_slice Try.underlying22 (hval 1 22 v1 rfl rfl)
  have k1 := h1
  have lt1 : ∀ x ∈ p1, x.block < W.heap.size := by obtain ⟨m, hm⟩ := k1; exact DataW.trod_lt m _ _ _ hm
  obtain ⟨z1, w1⟩ : ∃ zs, IsRow .i64 W a1 len1 cap1 zs := by
    obtain ⟨fuel, hf⟩ := h1
    rcases open_ints Try.underlying22 Try.underlying3 (by kernel_rfl) hf with ⟨hcs, _⟩ | ⟨x, l, c, zs, hcs, _, hl, hm, hz, _, hcell, hwz⟩
    · simp [Value.cells] at hcs
      obtain ⟨rfl, rfl, rfl⟩ := hcs
      exact ⟨[], .inl ⟨rfl, rfl, rfl, rfl⟩⟩
    · simp [Value.cells] at hcs
      obtain ⟨rfl, rfl, rfl⟩ := hcs
      exact ⟨zs, .inr ⟨_, rfl, hl, hm, by simpa using hz, hcell, hwz⟩⟩
  obtain ⟨l1, el1, hr1, hm1, hw1, hc1⟩ := ReadsInt.ofRowC w1
  subst el1
  clear hA0 hval0 hsz0
  obtain ⟨k, h⟩ := Pure.FnExactChoiceCounts l0_0 l0_1 l1 hm0_0 hw0_0 hm0_1 hw0_1 hm1 hw1
  refine (PC.laws_FnExactChoiceCounts.calls k _ _ l0_0 _ _ l0_1 _ _ l1 true W (Kd.C_of_reads (d := (0 : Int)) (h1 := fun _ => rfl) hr0_0) hc0_0 (Kd.C_of_reads (d := (0 : Int)) (h1 := fun _ => rfl) hr0_1) hc0_1 (Kd.C_of_reads (d := (0 : Int)) (h1 := fun _ => rfl) hr1) hc1 h).mono fun e W' ⟨he, bel0⟩ => ?_
  have bel : Below W.heap.size W W' := bel0
  subst he
  exact ⟨_, rfl, _, _, _, [], _, [], hW', trodAll_mk1 (shut_bool Try.underlying4 _), (trodAll_cons_mk (Below.trod laidOut (by kernel_rfl) (of_decide_eq_true (by kernel_rfl)) k0 bel lt0) (trodAll_cons_mk (Below.trod laidOut (by kernel_rfl) (of_decide_eq_true (by kernel_rfl)) k1 bel lt1) trodAll_mk0)), rfl, bel.frame _, fun h => by cases h⟩
theorem over : Rows.fnExactChoiceCountsRow.holds Try.pinned (OpenSpec.ofChange Rows.fnExactChoiceCountsSpec) :=
  OpenClaim.holds_of_wide 7 Try.f7 rfl rfl rfl rfl rfl rfl rfl ⟨rfl, rfl, rfl, rfl, rfl⟩ rfl rfl rfl rfl rfl (by kernel_rfl) Try.func7 (by kernel_rfl)
    (of_decide_eq_true (by kernel_rfl)) (by unfold Func.isWrapper; first | (rw [if_pos (by decide +kernel)]; kernel_rfl) | (rw [if_neg (by decide +kernel)]; exact ⟨rfl, rfl⟩))
    (fun os started H enc _ => lifted os started H enc)
theorem proved : Rows.FnExactChoiceCountsSaid := over
#print axioms proved
end Go.Proofs.Ytcjmgkbbmahgcaa.fnExactChoiceCounts
namespace Go.Proofs.Ytcjmgkbbmahgcaa
theorem fnExactChoiceCounts_holds : Rows.FnExactChoiceCountsSaid := fnExactChoiceCounts.proved
end Go.Proofs.Ytcjmgkbbmahgcaa
