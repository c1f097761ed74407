/- For every two codes: of the map and the three numbers that the statement draws, RibbonValue of the program answers what the reference answers; for an edge that is no loop, the value is the sum of the values without the edge and with it contracted; for a bridge, the value with the edge contracted, x + 1 times. There are no conditions. -/
import Derived.Test.YtjgknblneokhlaaKFnValueOwnx6
set_option linter.unusedVariables false
set_option linter.unusedSimpArgs false
namespace Go.Proofs.Ytjgknblneokhlaa.PK
open Go.RowKit Go.Proofs.YtjgknblneokhlaaW.PrintWords Go.Proofs.YtjgknblneokhlaaW.PrintLast Go.Proofs.YtjgknblneokhlaaW.PrintMore
theorem z7_0 {p : Prop} (h : p := by exact (below_step (bU1 HB.out GW788.out) hb)) : p := h
def chL (f : List Int) (n : Nat) (c : List Int) : List Bool := (List.range n).map fun (d : Nat) => chB f n c (d : Int)
theorem chL_len (f : List Int) (n : Nat) (c : List Int) : (chL f n c).length = n := by simp [chL]
theorem chL_getD (f : List Int) (n : Nat) (c : List Int) (d : Nat) (h : d < n) : (chL f n c).getD d false = chB f n c (d : Int) := by
  rw [List.getD_eq_getElem?_getD, List.getElem?_eq_getElem (by rw [chL_len]; exact h)]
  simp [chL]
theorem chL_rd (f : List Int) (n : Nat) (c : List Int) (x : Int) (h0 : 0 ≤ x) (h : x < n) : rdOf false (chL f n c) x = chB f n c x := by
  rw [rdOf_nat _ x h0, chL_getD f n c x.toNat (by omega), show ((x.toNat : Nat) : Int) = x by omega]
theorem bl_ext (a b : List Bool) (h : a.length = b.length) (hr : ∀ i : Nat, i < a.length → a.getD i false = b.getD i false) : a = b := by
  refine List.ext_getElem h fun i h1 h2 => ?_
  have := hr i h1; rw [List.getD_eq_getElem?_getD, List.getD_eq_getElem?_getD, List.getElem?_eq_getElem h1, List.getElem?_eq_getElem h2] at this
  simpa using this
theorem chB_take (f : List Int) (n : Nat) (c : List Int) (i : Nat) (hi : i < c.length) (d : Int) : chB f n (c.take (i + 1)) d = (chB f n (c.take i) d || decide (rd (geL f n n) d = rd c i)) := by
  unfold chB
  rw [take_get c i hi, Bool.eq_iff_iff, Bool.or_eq_true, decide_eq_true_eq, decide_eq_true_eq, decide_eq_true_eq, List.mem_append, List.mem_singleton]
theorem step_ch (f : List Int) (n : Nat) (c : List Int) (i : Nat) (hi : i < c.length) (a b : Nat) (ha : a < n) (hb : b < n) (h : ∀ d : Nat, d < n → (rd (geL f n n) (d : Int) = rd c i ↔ d = a ∨ d = b)) :
    ((chL f n (c.take i)).set a true).set b true = chL f n (c.take (i + 1)) := by
  refine bl_ext _ _ (by simp [chL_len]) fun d hd => ?_
  have hd' : d < n := by simpa [chL_len] using hd
  rw [getD_set _ _ _ _ (by rw [List.length_set, chL_len]; exact hb), getD_set _ _ _ _ (by rw [chL_len]; exact ha), chL_getD _ _ _ d hd', chL_getD _ _ _ d hd', chB_take f n c i hi]; have e := h d hd'
  by_cases e1 : b = d
  · rw [if_pos e1, decide_eq_true (e.2 (.inr e1.symm)), Bool.or_true]
  · by_cases e2 : a = d
    · rw [if_neg e1, if_pos e2, decide_eq_true (e.2 (.inl e2.symm)), Bool.or_true]
    · rw [if_neg e1, if_neg e2, decide_eq_false (fun z => (e.1 z).elim (fun z => e2 z.symm) (fun z => e1 z.symm)), Bool.or_false]
theorem step_fl (f : List Int) (n : Nat) (c : List Int) (i : Nat) (hi : i < c.length) (a b : Nat) (ha : a < n) (hb : b < n) (hab : rd f a = b) (hba : rd f b = a) (h : ∀ d : Nat, d < n → (rd (geL f n n) (d : Int) = rd c i ↔ d = a ∨ d = b)) :
    ((flC f n (c.take i)).set a (b : Int)).set b (a : Int) = flC f n (c.take (i + 1)) := by
  refine list_ext _ _ (by simp [flC_len]) fun d hd => ?_
  have hd' : d < n := by simpa [flC_len] using hd
  have e := h d hd'; rw [flC_rd f n _ d hd', chB_take f n c i hi]
  by_cases e1 : b = d
  · subst e1
    rw [rd_set_self _ _ _ (by simpa [flC_len] using hb), decide_eq_true (e.2 (.inr rfl)), Bool.or_true, if_pos rfl, hba]
  · rw [rd_set_ne _ _ _ _ e1]
    by_cases e2 : a = d
    · subst e2
      rw [rd_set_self _ _ _ (by simpa [flC_len] using ha), decide_eq_true (e.2 (.inl rfl)), Bool.or_true, if_pos rfl, hab]
    · rw [rd_set_ne _ _ _ _ e2, flC_rd f n _ d hd', decide_eq_false (fun z => (e.1 z).elim (fun z => e2 z.symm) (fun z => e1 z.symm)), Bool.or_false]
theorem ch_fresh (f : List Int) (n : Nat) (hf : inR n f) (hfl : ∀ i : Nat, i < n → flipAt f i) (c : List Int) (hc : isChoice c ((edL f n).length : Int)) : ∀ i, i ≤ c.length → fresh (chL f n (c.take i)) + 2 * i = n
  | 0, _ => by
    have e : chL f n (c.take 0) = List.replicate n false := by
      refine bl_ext _ _ (by simp [chL_len]) fun d hd => ?_
      rw [chL_getD f n _ d (by rwa [chL_len] at hd)]
      have hd' : d < n := by rwa [chL_len] at hd
      simp [chB, List.getD_eq_getElem?_getD, List.getElem?_replicate, hd']
    rw [e]
    simp [fresh, List.countP_replicate]
  | i + 1, hi => by
    have ih := ch_fresh f n hf hfl c hc i (by omega); have hr := choice_range c _ hc i (by omega); obtain ⟨a, b, ha, hb, hab, _, _, _, h⟩ := edge_at f n hf hfl (rd c i).toNat (by omega); rw [show (((rd c i).toNat : Nat) : Int) = rd c i by omega] at h; have hna := not_ahead c _ hc i (by omega)
    have fa : chB f n (c.take i) a = false := by
      unfold chB
      rw [(h a ha).2 (.inl rfl)]; exact decide_eq_false hna
    have fb : chB f n (c.take i) b = false := by
      unfold chB
      rw [(h b hb).2 (.inr rfl)]; exact decide_eq_false hna
    rw [← step_ch f n c i (by omega) a b ha hb h]; have l := chL_len f n (c.take i); have g1 := fresh_set (chL f n (c.take i)) a (by omega) (by rw [chL_getD f n _ a ha, fa]); have g2 := fresh_set ((chL f n (c.take i)).set a true) b (by simp; omega) (by rw [getD_set _ _ _ _ (by omega), if_neg hab, chL_getD f n _ b hb, fb]); omega
theorem flC_zero (f : List Int) (n : Nat) (c : List Int) : flC f n (c.take 0) = stl n := by
  refine list_ext _ _ (by simp [flC_len, stl_length]) fun d hd => ?_
  have hd' : d < n := by rwa [flC_len] at hd
  rw [flC_rd f n _ d hd', stl_rd n d hd']
  simp [chB]
theorem chL_zero (f : List Int) (n : Nat) (c : List Int) : chL f n (c.take 0) = List.replicate n false := by
  refine bl_ext _ _ (by simp [chL_len]) fun d hd => ?_
  have hd' : d < n := by rwa [chL_len] at hd
  rw [chL_getD f n _ d hd']
  simp [chB, List.getD_eq_getElem?_getD, List.getElem?_replicate, hd']
def pc (o : List Int) : Nat → Nat
  | 0 => 0
  | i + 1 => if (i : Int) = rd o i then pc o i + 1 else pc o i
theorem pc_le (o : List Int) : ∀ i, pc o i ≤ i
  | 0 => Nat.le_refl _
  | i + 1 => by
    have := pc_le o i; simp only [pc]
    split <;> omega
def bc (C : List (List Int)) (ch : Int → Bool) : Nat → Nat
  | 0 => 0
  | i + 1 => if (rd_L1 C i).any ch = true then bc C ch i else bc C ch i + 1
theorem bc_le (C : List (List Int)) (ch : Int → Bool) : ∀ i, bc C ch i ≤ i
  | 0 => Nat.le_refl _
  | i + 1 => by
    have := bc_le C ch i; simp only [bc]
    split <;> omega
def sidesN (t f : List Int) (n : Nat) (c : List Int) : Nat := bc (cyS t n n).2 (chB f n c) (cyS t n n).2.length + (ribS (faL t f n c) n (chB f n c) n).2
theorem contF_run (l : List Int) (hl : l.length ≤ 1048576) (f : List Int) (n : Nat) (c : List Int) (hr : ∀ x ∈ l, 0 ≤ x ∧ x < n) : ∀ (d i : Nat), l.length - i = d → i ≤ l.length → ∃ v : Int, Ev (fun k => containsF.l0 k l (chL f n c) i) v ∧ (v ≥ 0 ↔ (l.drop i).any (chB f n c) = true)
  | 0, i, hd, hi => by
    refine ⟨-1, Ev.s ?_, ?_⟩
    · simp only [containsF.l0, show ¬ (i : Int) < (l.length : Int) by omega, if_false]
      exact Ev.const rfl
    · rw [List.drop_eq_nil_of_le (by omega)]
      simp
  | d + 1, i, hd, hi => by
    have hlt : i < l.length := by omega
    have e := rd_lt l i hlt; have h1 := hr _ (List.getElem_mem hlt); rw [← e] at h1
    have g1 : (i : Int) < (l.length : Int) := by omega
    have g2 : (0 : Int) ≤ (i : Int) := by omega
    have g3 := chL_len f n c; obtain ⟨v, v1, v2⟩ := contF_run l hl f n c hr d (i + 1) (by omega) (by omega)
    cases h : chB f n c (rd l i) with
    | true =>
      refine ⟨i, Ev.s ?_, ?_⟩
      · simp only [containsF.l0, g1, g2, h1.1, g3, h1.2, chL_rd f n c _ h1.1 h1.2, h, if_true]
        exact Ev.const rfl
      · rw [List.drop_eq_getElem_cons hlt, ← e, List.any_cons, h, Bool.true_or]
        exact ⟨fun _ => rfl, fun _ => by omega⟩
    | false =>
      refine ⟨v, Ev.s ?_, ?_⟩
      · simp only [containsF.l0, g1, g2, h1.1, g3, h1.2, chL_rd f n c _ h1.1 h1.2, h, if_true, Bool.false_eq_true, if_false, w64n (show i < 4611686018427387904 by omega)]
        exact v1
      · rw [v2, List.drop_eq_getElem_cons hlt, ← e, List.any_cons, h, Bool.false_or]
theorem contF_ev (l : List Int) (hl : l.length ≤ 1048576) (f : List Int) (n : Nat) (c : List Int) (hr : ∀ x ∈ l, 0 ≤ x ∧ x < n) : Ev (fun k => containsF.f k l (chL f n c)) (l.any (chB f n c)) := by
  obtain ⟨v, v1, v2⟩ := contF_run l hl f n c hr l.length 0 (by omega) (by omega)
  unfold containsF.f
  refine Ev.bind v1 (Ev.const ?_); rw [List.drop_zero] at v2
  congr 1
  rw [Bool.eq_iff_iff, decide_eq_true_eq]; exact v2
theorem cw_ok (p : List Int) (n : Nat) (hp : inR n p) : ∀ (f : Nat) (s : List Bool) (c : List Int) (a : Int), s.length = n → 0 ≤ a → a < n → (∀ x ∈ c, 0 ≤ x ∧ x < n) → (∀ x ∈ (cw p f s c a).2, 0 ≤ x ∧ x < n) ∧ (cw p f s c a).2.length ≤ c.length + f
  | 0, s, c, a, hs, h0, h1, hc => ⟨hc, by simp [cw]⟩
  | f + 1, s, c, a, hs, h0, h1, hc => by
    simp only [cw]
    split
    · exact ⟨hc, by simp only; omega⟩
    · have h5 := hp.2 a.toNat (by omega)
      rw [show ((a.toNat : Nat) : Int) = a by omega] at h5; have ih := cw_ok p n hp f (s.set a.toNat true) (c ++ [a]) (rd p a) (by simpa using hs) h5.1 h5.2 (fun x hx => by
        rw [List.mem_append, List.mem_singleton] at hx; exact hx.elim (hc x) (fun e => by rw [e]; exact ⟨h0, h1⟩))
      refine ⟨ih.1, ?_⟩; have := ih.2; simp only [List.length_append, List.length_cons, List.length_nil] at this; omega
theorem cyS_ok (p : List Int) (n : Nat) (hp : inR n p) : ∀ i, i ≤ n → ∀ l ∈ (cyS p n i).2, (∀ x ∈ l, 0 ≤ x ∧ x < n) ∧ l.length ≤ n + 1
  | 0, _, l, hl => by simp [cyS] at hl
  | i + 1, hi, l, hl => by
    have ih := cyS_ok p n hp i (by omega); have ok := cw_ok p n hp (n + 1) (cyS p n i).1 [] i (cyS_len p n i) (by omega) (by omega) (by simp); simp only [cyS] at hl
    split at hl
    · exact ih l hl
    · rw [List.mem_append, List.mem_singleton] at hl
      rcases hl with hl | rfl
      · exact ih l hl
      · exact ⟨ok.1, by simpa using ok.2⟩
theorem rdL_ok (C : List (List Int)) (P : List Int → Prop) (h : ∀ l ∈ C, P l) (i : Nat) (hi : i < C.length) : P (rd_L1 C i) := by
  rw [rdL_nth C i hi]; exact h _ (List.getElem_mem hi)
def RibOk (t f c : List Int) (n : Nat) : Prop := n ≤ 12 ∧ 1 ≤ n ∧ inR n t ∧ injR n t ∧ inR n f ∧ (∀ i : Nat, i < n → flipAt f i) ∧ isChoice c ((edL f n).length : Int) ∧ c.length ≤ 1048576
theorem ir_l0 (t f c : List Int) (n : Nat) (H : RibOk t f c n) (m : Int) (r : List Int) (h : Ev (fun k => (impl_orbits.f k [t, flC f n c]).bind fun o => impl_ribbon.l1 k c m (flC f n c) 0 o (o.length : Int) 0 t f (chL f n c)) r) : ∀ (d i : Nat), c.length - i = d → i ≤ c.length → Ev (fun k => impl_ribbon.l0 k c m (flC f n (c.take i)) c c.length i t f (chL f n (c.take i))) r
  | 0, i, hd, hi => by
    obtain ⟨hn, h1, ht, hti, hf, hfl, hc, hcl⟩ := id H
    have : i = c.length := by omega
    subst this; refine Ev.s ?_; simp only [impl_ribbon.l0, show ¬ (c.length : Int) < (c.length : Int) by omega, if_false, List.take_length]; exact h
  | d + 1, i, hd, hi => by
    obtain ⟨hn, h1, ht, hti, hf, hfl, hc, hcl⟩ := id H; have ih := ir_l0 t f c n H m r h d (i + 1) (by omega) (by omega); have hr := choice_range c _ hc i (by omega); obtain ⟨a, b, ha, hb, hab, e1, e2, e3, e4⟩ := edge_at f n hf hfl (rd c i).toNat (by omega); rw [show (((rd c i).toNat : Nat) : Int) = rd c i by omega] at e1 e4; rw [← step_ch f n c i (by omega) a b ha hb e4, ← step_fl f n c i (by omega) a b ha hb e2 e3 e4] at ih; have l1 := chL_len f n (c.take i); have l2 := flC_len f n (c.take i); refine Ev.s ?_; simp only [impl_ribbon.l0, show (i : Int) < (c.length : Int) by omega, show (0 : Int) ≤ (i : Int) by omega, if_true]; refine Ev.bind (implEdges_ev n (by omega) t f hf) ?_; simp only [hr.1, hr.2, e1, e2, hf.1, l1, l2, show (0 : Int) ≤ (a : Int) by omega, show (a : Int) < (n : Int) by omega, show (0 : Int) ≤ (b : Int) by omega, show (b : Int) < (n : Int) by omega, if_true, w64n (show i < 4611686018427387904 by omega), Int.toNat_natCast]; exact ih
theorem ir_l1 (t f c : List Int) (n : Nat) (H : RibOk t f c n) (m : Int) (g : List Int) (s : List Bool) (o : List Int) (ho : o.length = n) (r : List Int) (h : Ev (fun k => (impl_cyclesOf.f k t).bind fun C => impl_ribbon.l2 k c m g (pc o n) 0 C (C.length : Int) 0 t f s) r) : ∀ (d i : Nat), n - i = d → i ≤ n → Ev (fun k => impl_ribbon.l1 k c m g (pc o i) o n i t f s) r
  | 0, i, hd, hi => by
    obtain ⟨hn, h1, ht, hti, hf, hfl, hc, hcl⟩ := id H
    have : i = n := by omega
    subst this; refine Ev.s ?_; simp only [impl_ribbon.l1, show ¬ (i : Int) < (i : Int) by omega, if_false]; exact h
  | d + 1, i, hd, hi => by
    obtain ⟨hn, h1, ht, hti, hf, hfl, hc, hcl⟩ := id H; have ih := ir_l1 t f c n H m g s o ho r h d (i + 1) (by omega) (by omega); have hp := pc_le o i; refine Ev.s ?_; simp only [impl_ribbon.l1, ho, show (i : Int) < (n : Int) by omega, show (0 : Int) ≤ (i : Int) by omega, if_true, w64n (show i < 4611686018427387904 by omega), w64n (show pc o i < 4611686018427387904 by omega)]; simp only [pc] at ih
    by_cases e : (i : Int) = rd o i
    · simp only [if_pos e] at ih ⊢; exact ih
    · simp only [if_neg e] at ih ⊢; exact ih
theorem ir_l2 (t f c : List Int) (n : Nat) (H : RibOk t f c n) (g : List Int) (P : Int) (C : List (List Int)) (hC : ∀ l ∈ C, (∀ x ∈ l, 0 ≤ x ∧ x < n) ∧ l.length ≤ n + 1) (hCl : C.length ≤ n) (r : List Int) (h : Ev (fun k => impl_ribbon.l3 k c g P (bc C (chB f n c) C.length) (List.replicate n false) n 0 t f (chL f n c)) r) : ∀ (d i : Nat), C.length - i = d → i ≤ C.length → Ev (fun k => impl_ribbon.l2 k c n g P (bc C (chB f n c) i) C C.length i t f (chL f n c)) r
  | 0, i, hd, hi => by
    obtain ⟨hn, h1, ht, hti, hf, hfl, hc, hcl⟩ := id H
    have : i = C.length := by omega
    subst this; refine Ev.s ?_; simp only [impl_ribbon.l2, show ¬ (C.length : Int) < (C.length : Int) by omega, if_false, show (0 : Int) ≤ (n : Int) by omega, if_true, Int.toNat_natCast, show n ≤ 281474976710656 by omega]; exact h
  | d + 1, i, hd, hi => by
    obtain ⟨hn, h1, ht, hti, hf, hfl, hc, hcl⟩ := id H; have ih := ir_l2 t f c n H g P C hC hCl r h d (i + 1) (by omega) (by omega); have hb := bc_le C (chB f n c) i; have ok := rdL_ok C _ hC i (by omega); refine Ev.s ?_; simp only [impl_ribbon.l2, show (i : Int) < (C.length : Int) by omega, show (0 : Int) ≤ (i : Int) by omega, if_true, w64n (show i < 4611686018427387904 by omega), w64n (show bc C (chB f n c) i < 4611686018427387904 by omega)]; refine Ev.bind (contF_ev (rd_L1 C i) (by omega) f n c ok.1) ?_; simp only [bc] at ih
    by_cases e : (rd_L1 C i).any (chB f n c) = true
    · simp only [if_pos e] at ih ⊢; exact ih
    · simp only [if_neg e] at ih ⊢; exact ih
theorem ir_l5 (t f c : List Int) (n : Nat) (H : RibOk t f c n) (g : List Int) (P S : Int) (s : List Bool) (i : Int) (r : List Int) : ∀ (m : Nat) (x : Int), 0 ≤ x ∧ x < n → (∃ k : Nat, k ≤ m ∧ chB f n c (itr t k x) = true) → Ev (fun k => impl_ribbon.l4 k c g P S s (fc t (chB f n c) m x) n i t f (chL f n c)) r → Ev (fun k => impl_ribbon.l5 k c g P S s x n i t f (chL f n c)) r
  | 0, x, hx, ⟨k, hk, hh⟩, h => by
    obtain ⟨hn, h1, ht, hti, hf, hfl, hc, hcl⟩ := id H
    have : k = 0 := by omega
    subst this; have hh' : chB f n c x = true := hh; refine Ev.s ?_; simp only [impl_ribbon.l5, hx.1, chL_len, hx.2, chL_rd f n c x hx.1 hx.2, hh', if_true]; exact h
  | m + 1, x, hx, ⟨k, hk, hh⟩, h => by
    obtain ⟨hn, h1, ht, hti, hf, hfl, hc, hcl⟩ := id H; refine Ev.s ?_; simp only [impl_ribbon.l5, hx.1, chL_len, hx.2, chL_rd f n c x hx.1 hx.2, ht.1, if_true]; simp only [fc] at h; have h5 := ht.2 x.toNat (by omega); rw [show ((x.toNat : Nat) : Int) = x by omega] at h5
    by_cases e : chB f n c x = true
    · simp only [if_pos e] at h ⊢; exact h
    · simp only [if_neg e] at h ⊢
      cases k with
      | zero => exact absurd hh e
      | succ k => exact ir_l5 t f c n H g P S s i r m _ h5 ⟨k, by omega, hh⟩ h
theorem ir_l4 (t f c : List Int) (n : Nat) (H : RibOk t f c n) (P S : Int) (i : Nat) (r : List Int) : ∀ (m : Nat) (s : List Bool) (l : List Int) (a : Nat), s.length = n → a < n → chB f n c a = true → fresh s < m → Ev (fun k => impl_ribbon.l3 k c (flC f n c) P S (cw (faL t f n c) m s l a).1 n (wrap64 ((i : Int) + 1)) t f (chL f n c)) r → Ev (fun k => impl_ribbon.l4 k c (flC f n c) P S s a n i t f (chL f n c)) r
  | 0, s, l, a, hs, ha, hca, hm, h => absurd hm (Nat.not_lt_zero _)
  | m + 1, s, l, a, hs, ha, hca, hm, h => by
    obtain ⟨hn, h1, ht, hti, hf, hfl, hc, hcl⟩ := id H; refine Ev.s ?_; simp only [cw] at h
    have g1 : (a : Int) < (n : Int) := by omega
    have g2 : (0 : Int) ≤ (a : Int) := by omega
    simp only [impl_ribbon.l4, g2, hs, g1, if_true]
    by_cases e : rdOf false s (a : Int) = true
    · simp only [e, if_true] at h ⊢
      exact h
    · simp only [e, if_false] at h ⊢
      have fl := flC_rd f n c a ha; rw [if_pos hca] at fl; have fr := hf.2 a ha; have tr := ht.2 (rd f a).toNat (by omega); rw [show (((rd f a).toNat : Nat) : Int) = rd f a by omega] at tr; have fx := fa_ch t f n ht hti hf hfl c a ha hca
      have h3 : s.getD a false = false := by
        rw [rdOf_nat s a g2, Int.toNat_natCast] at e
        simpa using e
      have h4 := fresh_set s a (by omega) h3; simp only [flC_len, g1, fl, fr.1, ht.1, fr.2, if_true, Int.toNat_natCast]; simp only [Int.toNat_natCast] at h; refine ir_l5 t f c n H (flC f n c) P S _ i r n _ tr (meets t n ht hti _ _ fr (by rw [chB_flip f n hf hfl c a ha]; exact hca)) ?_; have fe := faL_rd t f n c a ha; rw [if_pos hca] at fe; rw [← fe]; rw [show rd (faL t f n c) a = (((rd (faL t f n c) a).toNat : Nat) : Int) by omega] at h ⊢; exact ir_l4 t f c n H P S i r m (s.set a true) (l ++ [(a : Int)]) _ (by simpa using hs) (by omega) (by rw [show (((rd (faL t f n c) a).toNat : Nat) : Int) = rd (faL t f n c) a by omega]; exact fx.1) (by omega) h
def fiveN (P S V c : Int) : List Int := [P, S, wrap64 (V - P), wrap64 (c - wrap64 (V - P)), wrap64 (Int.tdiv (wrap64 (wrap64 (wrap64 (wrap64 (2 * P) - V) + c) - S)) 2)]
theorem ir_l3 (t f c : List Int) (n : Nat) (H : RibOk t f c n) (P : Int) (B : Nat) (hB : B ≤ n) : ∀ (d i : Nat), n - i = d → i ≤ n → Ev (fun k => impl_ribbon.l3 k c (flC f n c) P ((B + (ribS (faL t f n c) n (chB f n c) i).2 : Nat) : Int) (ribS (faL t f n c) n (chB f n c) i).1 n i t f (chL f n c)) (fiveN P ((B + (ribS (faL t f n c) n (chB f n c) n).2 : Nat) : Int) ((cyS t n n).2.length : Int) c.length)
  | 0, i, hd, hi => by
    obtain ⟨hn, h1, ht, hti, hf, hfl, hc, hcl⟩ := id H
    have : i = n := by omega
    subst this; refine Ev.s ?_; simp only [impl_ribbon.l3, show ¬ (i : Int) < (i : Int) by omega, if_false]; exact Ev.bind (implCyc_ev t i (by omega) ht) (Ev.const rfl)
  | d + 1, i, hd, hi => by
    obtain ⟨hn, h1, ht, hti, hf, hfl, hc, hcl⟩ := id H; have ih := ir_l3 t f c n H P B hB d (i + 1) (by omega) (by omega); have l1 := ribS_len (faL t f n c) n (chB f n c) i; have l2 := ribS_le (faL t f n c) n (chB f n c) i; have fr := fresh_le (ribS (faL t f n c) n (chB f n c) i).1
    have g1 : (i : Int) < (n : Int) := by omega
    have g2 : (0 : Int) ≤ (i : Int) := by omega
    refine Ev.s ?_; simp only [impl_ribbon.l3, g1, g2, chL_len, if_true, chL_rd f n c _ g2 g1, l1]; simp only [ribS] at ih; have wi : wrap64 ((i : Int) + 1) = ((i + 1 : Nat) : Int) := w64n (by omega)
    cases hci : chB f n c (i : Int) with
    | true =>
      simp only [hci, true_and, if_true] at ih ⊢; refine Ev.s ?_
      cases hs : (ribS (faL t f n c) n (chB f n c) i).1.getD i false with
      | true =>
        rw [hs] at ih; simp only [Bool.true_eq_false, if_false] at ih; simp only [impl_ribbon.j4, rdOf_nat _ _ g2, Int.toNat_natCast, hs, if_true, wi]; exact ih
      | false =>
        rw [hs] at ih; simp only [if_true] at ih; simp only [impl_ribbon.j4, rdOf_nat _ _ g2, Int.toNat_natCast, hs, Bool.false_eq_true, if_false, w64n (show B + (ribS (faL t f n c) n (chB f n c) i).2 < 4611686018427387904 by omega)]; refine ir_l4 t f c n H P _ i _ (n + 1) _ [] i l1 (by omega) hci (by omega) ?_; rw [wi]; exact ih
    | false =>
      simp only [hci, Bool.false_eq_true, false_and, if_false] at ih ⊢; refine Ev.s ?_; simp only [impl_ribbon.j4, if_true, wi]; exact ih
def mixL (A B : List Int) (n i : Nat) : List Int := (List.range n).map fun (d : Nat) => if d < i then rd A (d : Int) else rd B (d : Int)
theorem mixL_len (A B : List Int) (n i : Nat) : (mixL A B n i).length = n := by simp [mixL]
theorem mixL_rd (A B : List Int) (n i d : Nat) (h : d < n) : rd (mixL A B n i) (d : Int) = if d < i then rd A (d : Int) else rd B (d : Int) := by
  rw [rd_lt _ _ (by simp [mixL]; exact h)]
  simp [mixL]
theorem mixL_zero (A B : List Int) (n : Nat) (hB : B.length = n) : mixL A B n 0 = B := by
  refine list_ext _ _ (by rw [mixL_len, hB]) fun d hd => ?_
  rw [mixL_len] at hd; rw [mixL_rd A B n 0 d hd, if_neg (by omega)]
theorem mixL_all (A B : List Int) (n : Nat) (hA : A.length = n) : mixL A B n n = A := by
  refine list_ext _ _ (by rw [mixL_len, hA]) fun d hd => ?_
  rw [mixL_len] at hd; rw [mixL_rd A B n n d hd, if_pos hd]
theorem mixL_set (A B : List Int) (n i : Nat) (hi : i < n) : (mixL A B n i).set i (rd A i) = mixL A B n (i + 1) := by
  refine list_ext _ _ (by simp [mixL_len]) fun d hd => ?_
  have hd' : d < n := by simpa [mixL_len] using hd
  rw [mixL_rd A B n (i + 1) d hd']
  by_cases e : i = d
  · subst e
    rw [rd_set_self _ _ _ (by rw [mixL_len]; exact hi), if_pos (by omega)]
  · rw [rd_set_ne _ _ _ _ e, mixL_rd A B n i d hd']
    by_cases e2 : d < i
    · rw [if_pos e2, if_pos (by omega)]
    · rw [if_neg e2, if_neg (by omega)]
theorem mixL_skip (A B : List Int) (n i : Nat) (hi : i < n) (h : rd A i = rd B i) : mixL A B n i = mixL A B n (i + 1) := by
  refine list_ext _ _ (by simp [mixL_len]) fun d hd => ?_
  have hd' : d < n := by simpa [mixL_len] using hd
  rw [mixL_rd A B n (i + 1) d hd', mixL_rd A B n i d hd']
  by_cases e2 : d < i
  · rw [if_pos e2, if_pos (by omega)]
  · rw [if_neg e2]
    by_cases e : d < i + 1
    · have : d = i := by omega
      subst this; rw [if_pos e, h]
    · rw [if_neg e]
theorem sp_l1 (o : List Int) (n : Nat) (hn : n ≤ 12) (ho : o.length = n) : ∀ (d i : Nat), n - i = d → i ≤ n → Ev (fun k => spec_l7Parts.l1 k o (pc o i) i) (pc o n : Int)
  | 0, i, hd, hi => by
    have : i = n := by omega
    subst this; refine Ev.s ?_; simp only [spec_l7Parts.l1, ho, show ¬ (i : Int) < (i : Int) by omega, if_false]; exact Ev.const rfl
  | d + 1, i, hd, hi => by
    have ih := sp_l1 o n hn ho d (i + 1) (by omega) (by omega); have hp := pc_le o i; refine Ev.s ?_; simp only [spec_l7Parts.l1, ho, show (i : Int) < (n : Int) by omega, show (0 : Int) ≤ (i : Int) by omega, if_true, w64n (show i < 4611686018427387904 by omega), w64n (show pc o i < 4611686018427387904 by omega)]; simp only [pc] at ih
    by_cases e : (i : Int) = rd o i
    · simp only [if_pos e] at ih
      simp only [if_pos e.symm]; exact ih
    · simp only [if_neg e] at ih
      have e' : ¬ rd o i = (i : Int) := fun z => e z.symm
      simp only [if_neg e']; exact ih
theorem sp_l0 (t f c : List Int) (n : Nat) (H : RibOk t f c n) (r : Int) (h : Ev (fun k => (spec_l1Orbits.f k t (flC f n c)).bind fun o => spec_l7Parts.l1 k o 0 0) r) : ∀ (d i : Nat), n - i = d → i ≤ n → Ev (fun k => spec_l7Parts.l0 k c (mixL (flC f n c) (stl n) n i) (geL f n n) i t f) r
  | 0, i, hd, hi => by
    have : i = n := by omega
    subst this; refine Ev.s ?_; simp only [spec_l7Parts.l0, mixL_len, show ¬ (i : Int) < (i : Int) by omega, if_false]; rw [mixL_all _ _ _ (flC_len f i c)]; exact h
  | d + 1, i, hd, hi => by
    obtain ⟨hn, h1, ht, hti, hf, hfl, hc, hcl⟩ := id H; have ih := sp_l0 t f c n H r h d (i + 1) (by omega) (by omega)
    have g1 : (i : Int) < (n : Int) := by omega
    have g2 : (0 : Int) ≤ (i : Int) := by omega
    have fl := flC_rd f n c i (by omega); refine Ev.s ?_; simp only [spec_l7Parts.l0, mixL_len, g1, g2, geL_len, if_true]; refine Ev.bind (has_ev c hcl (rd (geL f n n) i)) ?_; rw [show decide (rd (geL f n n) (i : Int) ∈ c) = chB f n c i from rfl]; simp only [hf.1, g1, if_true, w64n (show i < 4611686018427387904 by omega), Int.toNat_natCast]
    by_cases e : chB f n c i = true
    · rw [if_pos e] at fl
      simp only [if_pos e]; rw [← mixL_set _ _ _ _ (by omega : i < n), fl] at ih; exact ih
    · rw [if_neg e] at fl
      simp only [if_neg e]; rw [← mixL_skip _ _ _ _ (by omega : i < n) (by rw [fl, stl_rd n i (by omega)])] at ih; exact ih
theorem ribbon_parts (t f c : List Int) (n : Nat) (H : RibOk t f c n) : ∃ o, orbOk [t, flC f n c] n o ∧ Ev (fun k => spec_l7Parts.f k t f c) (pc o n : Int) ∧
    Ev (fun k => impl_ribbon.f k t f c) (fiveN (pc o n) (sidesN t f n c) ((cyS t n n).2.length : Int) c.length) := by
  obtain ⟨hn, h1, ht, hti, hf, hfl, hc, hcl⟩ := id H; obtain ⟨o, o1, o2, o3⟩ := orb_both t (flC f n c) n hn h1 ht (flC_inR f n hf c)
  have hp : Ev (fun k => spec_l7Parts.f k t f c) (pc o n : Int) := by
    unfold spec_l7Parts.f
    rw [hf.1]; refine Ev.bind (same_ev n (by omega)) ?_; refine Ev.bind (specEdges_ev n (by omega) t f hf) ?_; have := sp_l0 t f c n H _ (Ev.bind o2 (sp_l1 o n hn o1.1.1 n 0 (by omega) (by omega))) n 0 (by omega) (by omega); rw [mixL_zero _ _ _ (stl_length n)] at this; exact this
  refine ⟨o, o1, hp, ?_⟩
  · unfold impl_ribbon.f
    rw [ht.1]; simp only [show (0 : Int) ≤ (n : Int) by omega, Int.toNat_natCast, show n ≤ 281474976710656 by omega, if_true]; refine Ev.bind (still_ev n (by omega)) ?_; have hCl := cyS_many t n n; have hb := bc_le (cyS t n n).2 (chB f n c) (cyS t n n).2.length; rw [← flC_zero f n c, ← chL_zero f n c]; refine ir_l0 t f c n H n _ (Ev.bind o3 ?_) c.length 0 (by omega) (by omega); rw [o1.1.1]; refine ir_l1 t f c n H n _ _ o o1.1.1 _ (Ev.bind (implCyc_ev t n (by omega) ht) ?_) n 0 (by omega) (by omega); refine ir_l2 t f c n H _ _ _ (cyS_ok t n ht n (Nat.le_refl _)) hCl _ ?_ _ 0 rfl (by omega); exact ir_l3 t f c n H (pc o n) _ (by omega) n 0 (by omega) (by omega)
theorem ss_l1 (t f c : List Int) (n : Nat) (H : RibOk t f c n) (F : List Int) (C : List (List Int)) (q : Nat) (hq : q < C.length) (hl : (∀ x ∈ rd_L1 C q, 0 ≤ x ∧ x < n) ∧ (rd_L1 C q).length ≤ n + 1) (B : Int) (r : Int) : ∀ (d i K : Nat), (rd_L1 C q).length - i = d → i ≤ (rd_L1 C q).length → K ≤ i →
    ((K = 0 ∧ ((rd_L1 C q).drop i).any (chB f n c) = false) → Ev (fun k => spec_l7Sides.l0 k c (geL f n n) F (wrap64 (B + 1)) C (wrap64 ((q : Int) + 1)) t f) r → Ev (fun k => spec_l7Sides.l1 k c (geL f n n) F B C q K i t f) r) ∧
    (¬ (K = 0 ∧ ((rd_L1 C q).drop i).any (chB f n c) = false) → Ev (fun k => spec_l7Sides.l0 k c (geL f n n) F B C (wrap64 ((q : Int) + 1)) t f) r → Ev (fun k => spec_l7Sides.l1 k c (geL f n n) F B C q K i t f) r)
  | 0, i, K, hd, hi, hK => by
    have : i = (rd_L1 C q).length := by omega
    rw [List.drop_eq_nil_of_le (by omega)]; refine ⟨fun ⟨h, _⟩ hr => Ev.s ?_, fun h hr => Ev.s ?_⟩
    · simp only [spec_l7Sides.l1, show (0 : Int) ≤ (q : Int) by omega, show (q : Int) < (C.length : Int) by omega, show ¬ (i : Int) < ((rd_L1 C q).length : Int) by omega, show (K : Int) = 0 by omega, if_true, if_false]
      exact hr
    · have hK0 : ¬ (K : Int) = 0 := fun z => h ⟨by omega, by simp⟩
      simp only [spec_l7Sides.l1, show (0 : Int) ≤ (q : Int) by omega, show (q : Int) < (C.length : Int) by omega, show ¬ (i : Int) < ((rd_L1 C q).length : Int) by omega, hK0, if_true, if_false]; exact hr
  | d + 1, i, K, hd, hi, hK => by
    obtain ⟨hn, h1, ht, hti, hf, hfl, hc, hcl⟩ := id H
    have hlt : i < (rd_L1 C q).length := by omega
    have e := rd_lt _ i hlt; have hr := hl.1 _ (List.getElem_mem hlt); rw [← e] at hr
    have g1 : (i : Int) < ((rd_L1 C q).length : Int) := by omega
    have g2 : (0 : Int) ≤ (i : Int) := by omega
    have g3 : (0 : Int) ≤ (q : Int) := by omega
    have g4 : (q : Int) < (C.length : Int) := by omega
    have wi : i < 4611686018427387904 := by omega
    have wK : K < 4611686018427387904 := by omega
    have ih0 := ss_l1 t f c n H F C q hq hl B r d (i + 1) K (by omega) (by omega) (by omega); have ih1 := ss_l1 t f c n H F C q hq hl B r d (i + 1) (K + 1) (by omega) (by omega) (by omega)
    have hd2 : ((rd_L1 C q).drop i).any (chB f n c) = (chB f n c (rd (rd_L1 C q) i) || ((rd_L1 C q).drop (i + 1)).any (chB f n c)) := by
      rw [List.drop_eq_getElem_cons hlt, List.any_cons, e]
    rw [hd2]
    cases hb : chB f n c (rd (rd_L1 C q) i) with
    | true =>
      have hd3 : decide (rd (geL f n n) (rd (rd_L1 C q) i) ∈ c) = true := hb; refine ⟨fun ⟨_, h⟩ => by simp at h, fun h hr' => Ev.s ?_⟩; simp only [spec_l7Sides.l1, g1, g2, g3, g4, hr.1, geL_len, hr.2, if_true]; refine Ev.bind (has_ev c hcl _) ?_; simp only [hd3, if_true, w64n wi, w64n wK]; exact ih1.2 (fun z => by omega) hr'
    | false =>
      have hd3 : decide (rd (geL f n n) (rd (rd_L1 C q) i) ∈ c) = false := hb; rw [Bool.false_or]; refine ⟨fun h hr' => Ev.s ?_, fun h hr' => Ev.s ?_⟩
      · simp only [spec_l7Sides.l1, g1, g2, g3, g4, hr.1, geL_len, hr.2, if_true]
        refine Ev.bind (has_ev c hcl _) ?_; simp only [hd3, Bool.false_eq_true, if_false, w64n wi]; exact ih0.1 h hr'
      · simp only [spec_l7Sides.l1, g1, g2, g3, g4, hr.1, geL_len, hr.2, if_true]
        refine Ev.bind (has_ev c hcl _) ?_; simp only [hd3, Bool.false_eq_true, if_false, w64n wi]; exact ih0.2 h hr'
theorem ss_l0 (t f c : List Int) (n : Nat) (H : RibOk t f c n) (F : List Int) (C : List (List Int)) (hC : ∀ l ∈ C, (∀ x ∈ l, 0 ≤ x ∧ x < n) ∧ l.length ≤ n + 1) (hCl : C.length ≤ n) (r : Int) (h : Ev (fun k => spec_l7Sides.l2 k c (geL f n n) F (bc C (chB f n c) C.length) 0 t f) r) : ∀ (d i : Nat), C.length - i = d → i ≤ C.length → Ev (fun k => spec_l7Sides.l0 k c (geL f n n) F (bc C (chB f n c) i) C i t f) r
  | 0, i, hd, hi => by
    have : i = C.length := by omega
    subst this; refine Ev.s ?_; simp only [spec_l7Sides.l0, show ¬ (C.length : Int) < (C.length : Int) by omega, if_false]; exact h
  | d + 1, i, hd, hi => by
    obtain ⟨hn, h1, ht, hti, hf, hfl, hc, hcl⟩ := id H; have ih := ss_l0 t f c n H F C hC hCl r h d (i + 1) (by omega) (by omega); have hb := bc_le C (chB f n c) i; have ok := rdL_ok C _ hC i (by omega); have in1 := ss_l1 t f c n H F C i (by omega) ok (bc C (chB f n c) i) r _ 0 0 rfl (by omega) (by omega); rw [w64n (show i < 4611686018427387904 by omega), w64n (show bc C (chB f n c) i < 4611686018427387904 by omega), List.drop_zero] at in1; refine Ev.s ?_; simp only [spec_l7Sides.l0, show (i : Int) < (C.length : Int) by omega, if_true]; simp only [bc] at ih
    by_cases e : (rd_L1 C i).any (chB f n c) = true
    · simp only [if_pos e] at ih
      exact in1.2 (fun z => by rw [e] at z; simp at z) ih
    · simp only [if_neg e] at ih
      exact in1.1 ⟨rfl, by simpa using e⟩ ih
theorem ss_l3 (t f c : List Int) (n : Nat) (H : RibOk t f c n) (F : List Int) (hF : F.length = n) (B : Int) (i : Nat) (hi : i < n) (r : Int) : ∀ (m : Nat) (x : Int), 0 ≤ x ∧ x < n → (∃ k : Nat, k ≤ m ∧ chB f n c (itr t k x) = true) → Ev (fun k => spec_l7Sides.l2 k c (geL f n n) (F.set i (fc t (chB f n c) m x)) B (wrap64 ((i : Int) + 1)) t f) r → Ev (fun k => spec_l7Sides.l3 k c (geL f n n) F B i x t f) r
  | 0, x, hx, ⟨k, hk, hh⟩, h => by
    obtain ⟨hn, h1, ht, hti, hf, hfl, hc, hcl⟩ := id H
    have : k = 0 := by omega
    subst this; have hh' : chB f n c x = true := hh; have hd3 : decide (rd (geL f n n) x ∈ c) = true := hh'; refine Ev.s ?_; simp only [spec_l7Sides.l3, hx.1, geL_len, hx.2, if_true]; refine Ev.bind (has_ev c hcl _) ?_; simp only [hd3, hF, show (0 : Int) ≤ (i : Int) by omega, show (i : Int) < (n : Int) by omega, if_true, Int.toNat_natCast]; exact h
  | m + 1, x, hx, ⟨k, hk, hh⟩, h => by
    obtain ⟨hn, h1, ht, hti, hf, hfl, hc, hcl⟩ := id H; refine Ev.s ?_; simp only [spec_l7Sides.l3, hx.1, geL_len, hx.2, if_true]; refine Ev.bind (has_ev c hcl _) ?_; rw [show decide (rd (geL f n n) x ∈ c) = chB f n c x from rfl]; simp only [fc] at h; have h5 := ht.2 x.toNat (by omega); rw [show ((x.toNat : Nat) : Int) = x by omega] at h5; simp only [hF, ht.1, hx.2, show (0 : Int) ≤ (i : Int) by omega, show (i : Int) < (n : Int) by omega, if_true, Int.toNat_natCast]
    by_cases e : chB f n c x = true
    · simp only [if_pos e] at h ⊢; exact h
    · simp only [if_neg e] at h ⊢
      cases k with
      | zero => exact absurd hh e
      | succ k => exact ss_l3 t f c n H F hF B i hi r m _ h5 ⟨k, by omega, hh⟩ h
theorem ss_l2 (t f c : List Int) (n : Nat) (H : RibOk t f c n) (B : Nat) (hB : B ≤ n) : ∀ (d i : Nat), n - i = d → i ≤ n → Ev (fun k => spec_l7Sides.l2 k c (geL f n n) (mixL (faL t f n c) (stl n) n i) B i t f) ((B + (ribS (faL t f n c) n (chB f n c) n).2 : Nat) : Int)
  | 0, i, hd, hi => by
    obtain ⟨hn, h1, ht, hti, hf, hfl, hc, hcl⟩ := id H
    have : i = n := by omega
    subst this; refine Ev.s ?_; simp only [spec_l7Sides.l2, mixL_len, show ¬ (i : Int) < (i : Int) by omega, if_false]; rw [mixL_all _ _ _ (faL_len t f i c)]; refine Ev.bind (specCyc_ev _ i (by omega) (faL_inR t f i ht hf c)) (Ev.const ?_); have e1 := (ribS_cyS (faL t f i c) i (chB f i c) (fun d hd hcd => fa_ch t f i ht hti hf hfl c d hd hcd) (fun d hd hcd => by rw [faL_rd t f i c d hd, hcd]; simp) i (Nat.le_refl _)).1; have e2 := ch_fresh f i hf hfl c hc c.length (Nat.le_refl _); rw [List.take_length] at e2; have e3 := uc_fresh (chB f i c) (chL f i c) (fun d hd => chL_getD f i c d (by rwa [chL_len] at hd)); rw [chL_len] at e3; have e4 := ribS_le (faL t f i c) i (chB f i c) i
    congr 1
    rw [e1, w64r (x := 2 * (c.length : Int)) (by omega), w64r (x := (i : Int) - 2 * (c.length : Int)) (by omega)]; rw [w64r (x := (((ribS (faL t f i c) i (chB f i c) i).2 + uc (chB f i c) i : Nat) : Int) - ((i : Int) - 2 * (c.length : Int))) (by omega)]; rw [w64r (by omega)]; omega
  | d + 1, i, hd, hi => by
    obtain ⟨hn, h1, ht, hti, hf, hfl, hc, hcl⟩ := id H; have ih := ss_l2 t f c n H B hB d (i + 1) (by omega) (by omega)
    have g1 : (i : Int) < (n : Int) := by omega
    have g2 : (0 : Int) ≤ (i : Int) := by omega
    have fl := faL_rd t f n c i (by omega); have fr := hf.2 i (by omega); have tr := ht.2 (rd f i).toNat (by omega); rw [show (((rd f i).toNat : Nat) : Int) = rd f i by omega] at tr; refine Ev.s ?_; simp only [spec_l7Sides.l2, mixL_len, g1, g2, geL_len, if_true]; refine Ev.bind (has_ev c hcl (rd (geL f n n) i)) ?_; rw [show decide (rd (geL f n n) (i : Int) ∈ c) = chB f n c i from rfl]; simp only [hf.1, g1, fr.1, ht.1, fr.2, if_true]
    by_cases e : chB f n c i = true
    · rw [if_pos e] at fl
      simp only [if_pos e]; refine ss_l3 t f c n H _ (mixL_len _ _ _ _) B i (by omega) _ n _ tr (meets t n ht hti _ _ fr (by rw [chB_flip f n hf hfl c i (by omega)]; exact e)) ?_; rw [← mixL_set _ _ _ _ (by omega : i < n), fl] at ih; rw [w64n (by omega)]; exact ih
    · rw [if_neg e] at fl
      simp only [if_neg e]; rw [← mixL_skip _ _ _ _ (by omega : i < n) (by rw [fl, stl_rd n i (by omega)])] at ih; rw [w64n (by omega)]; exact ih
theorem specSides_ev (t f c : List Int) (n : Nat) (H : RibOk t f c n) : Ev (fun k => spec_l7Sides.f k t f c) (sidesN t f n c : Int) := by
  obtain ⟨hn, h1, ht, hti, hf, hfl, hc, hcl⟩ := id H
  unfold spec_l7Sides.f
  refine Ev.bind (specEdges_ev n (by omega) t f hf) ?_; rw [hf.1]; refine Ev.bind (same_ev n (by omega)) ?_; refine Ev.bind (specCyc_ev t n (by omega) ht) ?_; have hCl := cyS_many t n n; have hb := bc_le (cyS t n n).2 (chB f n c) (cyS t n n).2.length; refine ss_l0 t f c n H (stl n) _ (cyS_ok t n ht n (Nat.le_refl _)) hCl _ ?_ _ 0 rfl (by omega); have := ss_l2 t f c n H _ (by omega : bc (cyS t n n).2 (chB f n c) (cyS t n n).2.length ≤ n) n 0 (by omega) (by omega); rw [mixL_zero _ _ _ (stl_length n)] at this; exact this
theorem ribbon_both (t f c : List Int) (n : Nat) (H : RibOk t f c n) : ∃ o, orbOk [t, flC f n c] n o ∧ Ev (fun k => spec_l7Parts.f k t f c) (pc o n : Int) ∧
    Ev (fun k => spec_l7Counts.f k t f c) (fiveN (pc o n) (sidesN t f n c) ((cyS t n n).2.length : Int) c.length) ∧ Ev (fun k => impl_ribbon.f k t f c) (fiveN (pc o n) (sidesN t f n c) ((cyS t n n).2.length : Int) c.length) := by
  obtain ⟨o, o1, hp, h3⟩ := ribbon_parts t f c n H; obtain ⟨hn, h1, ht, hti, hf, hfl, hc, hcl⟩ := id H; refine ⟨o, o1, hp, ?_, h3⟩
  unfold spec_l7Counts.f
  refine Ev.bind hp ?_; refine Ev.bind (specSides_ev t f c n H) ?_; exact Ev.bind (specCyc_ev t n (by omega) ht) (Ev.const rfl)
theorem perm_injR (l : List Int) (h : isPerm l) : injR l.length l := by
  intro i j hi hj e
  by_cases h1 : i < j
  · exact absurd e ((h.2.2 j hj).2.2 i h1)
  · by_cases h2 : j < i
    · exact absurd e.symm ((h.2.2 i hi).2.2 j h2)
    · omega
theorem ribOk_of (t f c : List Int) (h : isMap t f) (hc : isChoice c ((f.length : Int) / 2)) (hcl : c.length ≤ 1048576) : RibOk t f c t.length := by
  obtain ⟨pt, pf, e, fl, _⟩ := h
  have hf : inR t.length f := by rw [e]; exact isPerm_inR f pf
  have hfl : ∀ i : Nat, i < t.length → flipAt f i := fun i hi => fl i (by omega)
  refine ⟨pt.2.1, pt.1, isPerm_inR t pt, perm_injR t pt, hf, hfl, ?_, hcl⟩; have := edL_half f t.length hf hfl; rw [show (((edL f t.length).length : Nat) : Int) = (f.length : Int) / 2 by omega]; exact hc
theorem five_len (P S V c : Int) : (fiveN P S V c).length = 5 := rfl
end Go.Proofs.Ytjgknblneokhlaa.PK

namespace Go.Proofs.Ytjgknblneokhlaa.PK
open Go.RowKit Go.Proofs.YtjgknblneokhlaaW.PrintWords Go.Proofs.YtjgknblneokhlaaW.PrintLast Go.Proofs.YtjgknblneokhlaaW.PrintMore
attribute [local go_sem] max2_int min2_int max_two min_two max_three min_three max_four min_four   -- for this text's walks alone
set_option linter.unusedVariables false
set_option linter.unusedSimpArgs false
def impl_MapMirror.T3 : Bool × List (List Nat × List Nat) := (true, [([], []), ([0], [0]), ([1], [1]), ([], []), ([3], [3]), ([4, 2], [4]), ([2, 5], [2, 5]), ([6, 5, 0, 1, 2, 3, 4, 5, 6], [6]), ([7, 0, 1, 2, 3, 4, 5, 6, 7], [])])
def impl_MapMirror.B3 : List Nat := [0, 1, 3, 0, 8, 31, 63, 127, 255]
def impl_genusOf.T1 : Bool × List (List Nat × List Nat) := (true, [([], []), ([0], [0]), ([1], [1]), ([2], [2]), ([3], [3]), ([], []), ([5], [5]), ([6], [6]), ([7], [7]), ([4, 8], [4, 8]), ([], []), ([10], [10]), ([], []), ([12], [12]), ([11, 13, 2], [11, 13]), ([14, 14], [14]), ([15], [15]), ([9, 16], [9, 16]), ([17], [17]), ([18, 15, 0, 1, 2, 3, 4, 5, 6, 7, 8, 9, 10, 11, 12, 13, 14, 15, 16, 17, 18], [18])])
def impl_genusOf.B1 : List Nat := [0, 1, 3, 7, 15, 0, 32, 96, 224, 511, 0, 1024, 0, 4096, 15367, 31751, 64519, 131071, 262143, 524287]
def impl_ChoiceTree.f (k : Nat) (l0_0 : List Int) (l0_1 : List Int) (l1 : List Int) : Option (Bool) := (impl_ChoiceValid.f k l0_0 l0_1 l1).bind fun t789 => (if t789 = true then ((impl_ribbon.f k l0_0 l0_1 l1).bind fun t790 => (if 0 < (t790.length : Int) then (if (rd t790 0) = 1 then (if 3 < (t790.length : Int) then (some ((rd t790 3) == 0)) else (none)) else (some false)) else (none))) else (some false))
set_option maxHeartbeats 8000000 in
set_option maxRecDepth 100000 in
theorem impl_ChoiceTree.calls (k : Nat) (A0_0 : Option Addr) (c0_0 : Nat) (l0_0 : List Int) (A0_1 : Option Addr) (c0_1 : Nat) (l0_1 : List Int) (A1 : Option Addr) (c1 : Nat) (l1 : List Int) (r : Bool) (w : World) (hr0_0 : Kd.C (Kd.int .i64) w A0_0 l0_0.length l0_0) (hc0_0 : l0_0.length ≤ c0_0) (hr0_1 : Kd.C (Kd.int .i64) w A0_1 l0_1.length l0_1) (hc0_1 : l0_1.length ≤ c0_1) (hr1 : Kd.C (Kd.int .i64) w A1 l1.length l1) (hc1 : l1.length ≤ c1) (h : impl_ChoiceTree.f k l0_0 l0_1 l1 = some r) :
  Calls Try.prog 28 #[.agg #[.slice A0_0 l0_0.length c0_0, .slice A0_1 l0_1.length c0_1], .slice A1 l1.length c1] w fun e w' => e = .returned (.bool r) ∧ Below w.heap.size w w' := by
 have hu25 := Try.underlying25; have HR0_0 := Az hr0_0; have HC0_0 := Az hc0_0; clear hr0_0 hc0_0; have HR0_1 := Az hr0_1; have HC0_1 := Az hc0_1; clear hr0_1 hc0_1; have HR1 := Az hr1; have HC1 := Az hc1; clear hr1 hc1; have HB := bZ w; have H := h; clear h; unfold impl_ChoiceTree.f at H; replace H := bd H; obtain ⟨t789, A3, H⟩ := H
 by_cases c4 : t789 = true
 ·
  subst c4; rw [if_pos rfl] at H; replace H := bd H; obtain ⟨t790, A5, H⟩ := H; replace H := gP H; obtain ⟨c6, H⟩ := H; have c6b0 := decide_eq_true c6; have c6b1 : decide (0 < t790.length) = true := decide_eq_true (by omega); clear c6
  replace H := gQ H; rcases H with ⟨c7b0, c7b1, H⟩ | ⟨c7b0, c7b1, H⟩
  ·
   replace H := gP H; obtain ⟨c8, H⟩ := H; have c8b0 := decide_eq_true c8; have c8b1 : decide (3 < t790.length) = true := decide_eq_true (by omega); clear c8; obtain rfl := Option.some.inj H; go_enter Try.func28, Try.ntmps28
   go_wp2_with (first | ((with_reducible refine gd 2 rfl ?_); refine bE 2 #[.slice A0_0 l0_0.length c0_0, .slice A0_1 l0_1.length c0_1] 25 ?_; intro gb788 hg w9 hbox hb; have BK788 := Az (hbox); have GW788 := gW hg (bU0 HB.out); replace HB := Az (below_step (bU0 HB.out) hb); clear hb hbox hg; have hz10 := bc2 BK788.out) | ((with_reducible refine gK 16 rfl ?_); refine gC (some 8) Try.func16 #[.agg #[.slice A0_0 l0_0.length c0_0, .slice A0_1 l0_1.length c0_1], .slice A1 l1.length c1] ?_; (with_reducible refine (impl_ChoiceValid.calls k _ _ l0_0 _ _ l0_1 _ _ l1 true _ ?_ ?_ ?_ ?_ ?_ ?_ A3.out).mono ?_); exact cU (Kd.C_below HR0_0.out HB.out); exact HC0_0.out; exact cU (Kd.C_below HR0_1.out HB.out); exact HC0_1.out; exact cU (Kd.C_below HR1.out HB.out); exact HC1.out; rintro e w11 ⟨rfl, hb⟩; refine ⟨_, rfl, ?_⟩; replace BK788 := kB BK788.out hb; replace HB := Az z7_0; clear hb; have hz12 := bc2 BK788.out) | ((with_reducible refine gK 65 rfl ?_); refine gC (some 12) Try.func65 #[.agg #[.slice A0_0 l0_0.length c0_0, .slice A0_1 l0_1.length c0_1], .slice A1 l1.length c1] ?_; (with_reducible refine (impl_ribbon.calls k (fun k_ => k_ < w.heap.size) _ _ l0_0 _ _ l0_1 _ _ l1 t790 _ ?_ ?_ ?_ ?_ ?_ A5.out).mono ?_); exact Kd.V_mk HC0_0.out (Kd.F_below (Kd.C_F (Kd.heap_int .i64) HR0_0.out) (bU1 HB.out GW788.out)); exact cU (Kd.C_below HR0_1.out HB.out); exact HC0_1.out; exact cU (Kd.C_below HR1.out HB.out); exact HC1.out; rintro e w13 ⟨v791, rfl, ho0, hb⟩; refine ⟨_, rfl, ?_⟩; have HO792 := Az (Kd.R_lower (Kd.R_mono (ok' := fun k_ => True) ho0 (fun _ hk_ => trivial)) (below_size (bU1 HB.out GW788.out))); replace BK788 := kB BK788.out hb; replace HB := Az z7_0; clear hb ho0; obtain ⟨Ao14, co14, eo14⟩ := Kd.R_slice HO792.out; subst eo14; have p793 : 0 ≤ (0 : Int) := (by omega); have q793 : 0 < (t790.length : Int) := oA; obtain ⟨ad793, e793, hx793_0⟩ := Kd.at_int (Kd.R_reads' HO792.out).2.2 0 p793 q793; cases e793; have qi793 : (0 < t790.length) = True := eq_true (by omega); rw [show ((0 : Int)).toNat = 0 from rfl] at hx793_0; rw [Addr.add_zero'] at hx793_0; replace p793 := eq_true p793; replace q793 := eq_true q793; have p794 : 0 ≤ (3 : Int) := (by omega); have q794 : 3 < (t790.length : Int) := oA; obtain ⟨ad794, e794, hx794_0⟩ := Kd.at_int (Kd.R_reads' HO792.out).2.2 3 p794 q794; obtain rfl : ad793 = ad794 := (by injection e794); simp only [show (3 : Int).toNat = 3 from rfl, Nat.reduceMul, Nat.reduceEqDiff, Go.Addr.add, ↓reduceIte] at hx794_0; have qi794 : (3 < t790.length) = True := eq_true (by omega); replace p794 := eq_true p794; replace q794 := eq_true q794))
   go_ret; exact ⟨rE, bU1 HB.out GW788.out⟩
  ·
   obtain rfl := Option.some.inj H; go_enter Try.func28, Try.ntmps28
   go_wp2_with (first | ((with_reducible refine gd 2 rfl ?_); refine bE 2 #[.slice A0_0 l0_0.length c0_0, .slice A0_1 l0_1.length c0_1] 25 ?_; intro gb788 hg w15 hbox hb; have BK788 := Az (hbox); have GW788 := gW hg (bU0 HB.out); replace HB := Az (below_step (bU0 HB.out) hb); clear hb hbox hg; have hz16 := bc2 BK788.out) | ((with_reducible refine gK 16 rfl ?_); refine gC (some 8) Try.func16 #[.agg #[.slice A0_0 l0_0.length c0_0, .slice A0_1 l0_1.length c0_1], .slice A1 l1.length c1] ?_; (with_reducible refine (impl_ChoiceValid.calls k _ _ l0_0 _ _ l0_1 _ _ l1 true _ ?_ ?_ ?_ ?_ ?_ ?_ A3.out).mono ?_); exact cU (Kd.C_below HR0_0.out HB.out); exact HC0_0.out; exact cU (Kd.C_below HR0_1.out HB.out); exact HC0_1.out; exact cU (Kd.C_below HR1.out HB.out); exact HC1.out; rintro e w17 ⟨rfl, hb⟩; refine ⟨_, rfl, ?_⟩; replace BK788 := kB BK788.out hb; replace HB := Az z7_0; clear hb; have hz18 := bc2 BK788.out) | ((with_reducible refine gK 65 rfl ?_); refine gC (some 12) Try.func65 #[.agg #[.slice A0_0 l0_0.length c0_0, .slice A0_1 l0_1.length c0_1], .slice A1 l1.length c1] ?_; (with_reducible refine (impl_ribbon.calls k (fun k_ => k_ < w.heap.size) _ _ l0_0 _ _ l0_1 _ _ l1 t790 _ ?_ ?_ ?_ ?_ ?_ A5.out).mono ?_); exact Kd.V_mk HC0_0.out (Kd.F_below (Kd.C_F (Kd.heap_int .i64) HR0_0.out) (bU1 HB.out GW788.out)); exact cU (Kd.C_below HR0_1.out HB.out); exact HC0_1.out; exact cU (Kd.C_below HR1.out HB.out); exact HC1.out; rintro e w19 ⟨v791, rfl, ho0, hb⟩; refine ⟨_, rfl, ?_⟩; have HO792 := Az (Kd.R_lower (Kd.R_mono (ok' := fun k_ => True) ho0 (fun _ hk_ => trivial)) (below_size (bU1 HB.out GW788.out))); replace BK788 := kB BK788.out hb; replace HB := Az z7_0; clear hb ho0; obtain ⟨Ao20, co20, eo20⟩ := Kd.R_slice HO792.out; subst eo20; have p793 : 0 ≤ (0 : Int) := (by omega); have q793 : 0 < (t790.length : Int) := oA; obtain ⟨ad793, e793, hx793_0⟩ := Kd.at_int (Kd.R_reads' HO792.out).2.2 0 p793 q793; cases e793; have qi793 : (0 < t790.length) = True := eq_true (by omega); rw [show ((0 : Int)).toNat = 0 from rfl] at hx793_0; rw [Addr.add_zero'] at hx793_0; replace p793 := eq_true p793; replace q793 := eq_true q793))
   go_ret; exact ⟨rE, bU1 HB.out GW788.out⟩
 ·
  replace c4 := Bool.eq_false_iff.mpr c4; subst c4; rw [if_neg nT] at H; obtain rfl := Option.some.inj H; go_enter Try.func28, Try.ntmps28
  go_wp2_with (first | ((with_reducible refine gd 2 rfl ?_); refine bE 2 #[.slice A0_0 l0_0.length c0_0, .slice A0_1 l0_1.length c0_1] 25 ?_; intro gb788 hg w21 hbox hb; have BK788 := Az (hbox); have GW788 := gW hg (bU0 HB.out); replace HB := Az (below_step (bU0 HB.out) hb); clear hb hbox hg; have hz22 := bc2 BK788.out) | ((with_reducible refine gK 16 rfl ?_); refine gC (some 8) Try.func16 #[.agg #[.slice A0_0 l0_0.length c0_0, .slice A0_1 l0_1.length c0_1], .slice A1 l1.length c1] ?_; (with_reducible refine (impl_ChoiceValid.calls k _ _ l0_0 _ _ l0_1 _ _ l1 false _ ?_ ?_ ?_ ?_ ?_ ?_ A3.out).mono ?_); exact cU (Kd.C_below HR0_0.out HB.out); exact HC0_0.out; exact cU (Kd.C_below HR0_1.out HB.out); exact HC0_1.out; exact cU (Kd.C_below HR1.out HB.out); exact HC1.out; rintro e w23 ⟨rfl, hb⟩; refine ⟨_, rfl, ?_⟩; replace BK788 := kB BK788.out hb; replace HB := Az z7_0; clear hb))
  go_ret; exact ⟨rE, bU1 HB.out GW788.out⟩
def tch.l1 : Nat → List Int → Int → Int → Int → Option (List Int)
 | 0, _, _, _, _ => none
 | k + 1, c, s, e, E => if e < E then (if 0 ≤ e then (if Go.bits .and .i64 (s / 2 ^ min e.toNat 64) 1 = 1 then (if c.length < 17592186044416 then tch.l1 k (c ++ [e]) s (wrap64 (e + 1)) E else none) else tch.l1 k c s (wrap64 (e + 1)) E) else none) else some c
theorem tch.mono_l1 : ∀ k, (∀ y0 y1 y2 y3, LeO (tch.l1 k y0 y1 y2 y3) (tch.l1 (k + 1) y0 y1 y2 y3))
 | 0 => fun _ _ _ _ r h => by simp [tch.l1] at h
 | k + 1 => by
  have ih0 := tch.mono_l1 k; intro y0 y1 y2 y3
  unfold tch.l1
  repeat' first
   | (with_reducible exact ih0 _ _ _ _)
   | (with_reducible exact LeO.refl _)
   | (with_reducible refine LeO.ite ?_ ?_)
set_option maxHeartbeats 4000000 in
set_option maxRecDepth 100000 in
theorem ttell.no (k : Nat) (A0 : Option Addr) (c0 : Nat) (l0 : List Int) (A1 : Option Addr) (c1 : Nat) (l1 : List Int) (A2 : Option Addr) (c2 : Nat) (l2 : List Int) (gm gn : Nat) (x : Int) (w : World)
  (hbm : w.heap[gm]? = some (.cells #[.slice A0 l0.length c0, .slice A1 l1.length c1] 25 (0, 0))) (hbn : w.heap[gn]? = some (.cells #[.int .i64 x] 3 (0, 0)))
  (hr0 : Kd.C (Kd.int .i64) w A0 l0.length l0) (hc0 : l0.length ≤ c0) (hr1 : Kd.C (Kd.int .i64) w A1 l1.length l1) (hc1 : l1.length ≤ c1) (hr2 : Kd.C (Kd.int .i64) w A2 l2.length l2) (hc2 : l2.length ≤ c2)
  (h : impl_ChoiceTree.f k l0 l1 l2 = some false) : Calls Try.prog 77 #[.slice A2 l2.length c2, .pointer (some ⟨gm, 0, none⟩), .pointer (some ⟨gn, 0, none⟩)] w fun e w' => e = .returned (.tuple #[]) ∧ Below w.heap.size w w' := by
 have hu25 := Try.underlying25; have hcm0 : w.cell? ⟨gm, 0, none⟩ = some (.slice A0 l0.length c0) := (blk_cell hbm 0).trans rfl; have hcm1 : w.cell? ⟨gm, 1, none⟩ = some (.slice A1 l1.length c1) := (blk_cell hbm 1).trans rfl; have Hbn := Az hbn; have HR0 := Az hr0; have HR1 := Az hr1; have HR2 := Az hr2; have HH := Az h; clear hbn hbm hr0 hr1 hr2 h; go_enter Try.func77, Try.ntmps77
 go_wp2_with (first | (go_at_call 28; refine (impl_ChoiceTree.calls k A0 c0 l0 A1 c1 l1 A2 c2 l2 false _ HR0.out hc0 HR1.out hc1 HR2.out hc2 HH.out).mono ?_; rintro e w1 ⟨rfl, hb⟩; have Hb := Az hb; clear hb))
 refine bodyPost_end (results_none rfl _ _ _) rfl ?_; exact ⟨rfl, Hb.out⟩
end Go.Proofs.Ytjgknblneokhlaa.PK

set_option linter.unusedVariables false
set_option linter.unusedSimpArgs false
namespace Go.Proofs.Ytjgknblneokhlaa.PK
open Go.RowKit Go.Proofs.YtjgknblneokhlaaW.PrintWords Go.Proofs.YtjgknblneokhlaaW.PrintLast Go.Proofs.YtjgknblneokhlaaW.PrintMore
theorem counts_both (t f c : List Int) (ht : t.length ≤ 1048576) (hf : f.length ≤ 1048576) (hc : c.length ≤ 1048576) : ∃ (P S V : Nat) (b : Bool), Ev (fun k => spec_ChoiceValid.f k t f c) b ∧ Ev (fun k => impl_ChoiceValid.f k t f c) b ∧ (b = true → Ev (fun k => spec_l7Counts.f k t f c) (fiveN P S V c.length) ∧ Ev (fun k => impl_ribbon.f k t f c) (fiveN P S V c.length)) := by
  obtain ⟨b, b1, b2, b3⟩ := choiceValid_both t f c ht hf hc
  cases b with
  | false => exact ⟨0, 0, 0, false, b1, b2, fun h => by cases h⟩
  | true =>
    have hv := b3.1 rfl; obtain ⟨o, _, _, h2, h3⟩ := ribbon_both t f c t.length (ribOk_of t f c hv.1 hv.2 hc); exact ⟨_, _, _, true, b1, b2, fun _ => ⟨h2, h3⟩⟩
def vallE : Nat → List (List Int)
  | 0 => [[]]
  | n + 1 => vallE n ++ (vallE n).map (fun c => c ++ [(n : Int)])
def vchk1 (c : List Int) (m : Int) : Bool := (List.range c.length).all fun (i : Nat) => decide (ahead c i < rd c i ∧ rd c i < m)
theorem vchk1_ok (c : List Int) (m : Int) (h : vchk1 c m = true) : isChoice c m := fun i hi => of_decide_eq_true (p := ahead c i < rd c i ∧ rd c i < m) (List.all_eq_true.1 h i (List.mem_range.2 hi))
theorem vchk_list : (List.range 7).all (fun (E : Nat) => decide (spec_l7All.f 300 (E : Int) = some (vallE E)) && decide ((vallE E).length = 2 ^ E)) = true := by decide +kernel
theorem vchk_bits : (List.range 7).all (fun (E : Nat) => (List.range (2 ^ E)).all fun (s : Nat) => decide (vch.l1 30 [] (s : Int) 0 (E : Int) = some ((vallE E).getD s [])) && (decide (((vallE E).getD s []).length ≤ 20) && vchk1 ((vallE E).getD s []) (E : Int))) = true := by decide +kernel
theorem vchk (E : Nat) (h : E ≤ 6) : spec_l7All.f 300 (E : Int) = some (vallE E) ∧ (vallE E).length = 2 ^ E ∧ ∀ s : Nat, s < 2 ^ E → vch.l1 30 [] (s : Int) 0 (E : Int) = some ((vallE E).getD s []) ∧ ((vallE E).getD s []).length ≤ 20 ∧ isChoice ((vallE E).getD s []) (E : Int) := by
  have h1 := List.all_eq_true.1 vchk_list E (List.mem_range.2 (by omega)); have h2 := List.all_eq_true.1 vchk_bits E (List.mem_range.2 (by omega)); simp only [Bool.and_eq_true, decide_eq_true_eq] at h1; refine ⟨h1.1, h1.2, fun s hs => ?_⟩; have h3 := List.all_eq_true.1 h2 s (List.mem_range.2 hs); simp only [Bool.and_eq_true, decide_eq_true_eq] at h3; exact ⟨h3.1, h3.2.1, vchk1_ok _ _ h3.2.2⟩
theorem vpow (E : Nat) (h : E ≤ 6) : wrap64 ((2 : Int) ^ E) = ((2 ^ E : Nat) : Int) ∧ 2 ^ E ≤ 64 := by
  have : E = 0 ∨ E = 1 ∨ E = 2 ∨ E = 3 ∨ E = 4 ∨ E = 5 ∨ E = 6 := by omega
  rcases this with rfl | rfl | rfl | rfl | rfl | rfl | rfl <;> exact ⟨by decide +kernel, by decide⟩
theorem wrap64_lt (x : Int) : wrap64 x ≤ 9223372036854775807 := by unfold wrap64; omega
theorem power_run (x n : Int) (hn : n ≤ 9223372036854775807) : ∀ (d : Nat) (i o : Int), 0 ≤ i → (n - i).toNat = d → ∃ r : Int, Ev (fun k => impl_power.l0 k x o n i) r ∧ Ev (fun k => spec_l7Power.l0 k x n o i) r
  | 0, i, o, h0, hd => by
    have : ¬ i < n := by omega
    refine ⟨o, Ev.s ?_, Ev.s ?_⟩
    · simp only [impl_power.l0, this, if_false]
      exact Ev.const rfl
    · simp only [spec_l7Power.l0, this, if_false]
      exact Ev.const rfl
  | d + 1, i, o, h0, hd => by
    have hi : i < n := by omega
    obtain ⟨r, r1, r2⟩ := power_run x n hn d (i + 1) (wrap64 (o * x)) (by omega) (by omega); have w : wrap64 (i + 1) = i + 1 := w64 (by omega) (by omega); refine ⟨r, Ev.s ?_, Ev.s ?_⟩
    · simp only [impl_power.l0, hi, if_true, w]
      exact r1
    · simp only [spec_l7Power.l0, hi, if_true, w, Int.mul_comm x o]
      exact r2
theorem power_both (x n : Int) (hn : n ≤ 9223372036854775807) : ∃ r : Int, Ev (fun k => impl_power.f k x n) r ∧ Ev (fun k => spec_l7Power.f k x n) r := by
  unfold impl_power.f spec_l7Power.f
  exact power_run x n hn _ 0 1 (by omega) rfl
theorem five_zero (P S V c : Int) : rd (fiveN P S V c) 0 = P := rfl
theorem five_le3 (P S V c : Int) : rd (fiveN P S V c) 3 ≤ 9223372036854775807 := wrap64_lt _
theorem five_le4 (P S V c : Int) : rd (fiveN P S V c) 4 ≤ 9223372036854775807 := wrap64_lt _
theorem one_value (t f c : List Int) (X Y Z : Int) (P S V C : Int) (x : Int) (g1 : Ev (fun k => spec_l7Counts.f k t f c) (fiveN P S V C)) (g2 : Ev (fun k => impl_ribbon.f k t f c) (fiveN P S V C)) :
    ∃ v : Int, Ev (fun k => vtell.f k c t f x X Y Z) v ∧ ∀ (F : Nat → Int → Option Int) (r : Int), Ev (fun k => F k v) r → Ev (fun k => (spec_l7Counts.f k t f c).bind fun t599 => (if 0 < (t599.length : Int) then ((spec_l7Power.f k X (wrap64 ((rd t599 0) - 1))).bind fun t603 => (if 3 < (t599.length : Int) then ((spec_l7Power.f k Y (rd t599 3)).bind fun t605 => (if 4 < (t599.length : Int) then ((spec_l7Power.f k Z (rd t599 4)).bind fun t607 => F k (wrap64 (x + (wrap64 ((wrap64 (t603 * t605)) * t607))))) else (none))) else (none))) else (none))) r := by
  obtain ⟨q1, q2, q3⟩ := power_both X (wrap64 (P - 1)) (wrap64_lt _); obtain ⟨q4, q5, q6⟩ := power_both Y (rd (fiveN P S V C) 3) (five_le3 P S V C); obtain ⟨q7, q8, q9⟩ := power_both Z (rd (fiveN P S V C) 4) (five_le4 P S V C); have l5 : (fiveN P S V C).length = 5 := rfl
  have h0 : (0 : Int) < ((5 : Nat) : Int) := by decide
  have h3 : (3 : Int) < ((5 : Nat) : Int) := by decide
  have h4 : (4 : Int) < ((5 : Nat) : Int) := by decide
  refine ⟨wrap64 (x + wrap64 (wrap64 (q1 * q4) * q7)), ?_, fun F r hF => ?_⟩
  · unfold vtell.f
    refine Ev.bind g2 ?_; simp only [l5, five_zero, h0, h3, h4, if_true]; refine Ev.bind q2 ?_; refine Ev.bind q5 ?_; exact Ev.bind q8 (Ev.const rfl)
  · refine Ev.bind g1 ?_
    simp only [l5, five_zero, h0, h3, h4, if_true]; refine Ev.bind q3 ?_; refine Ev.bind q6 ?_; exact Ev.bind q9 hF
theorem vrun (t f : List Int) (X Y Z : Int) (ht : t.length ≤ 1048576) (hf : f.length ≤ 1048576) (hm : isMap t f) (E : Nat) (hfE : (f.length : Int) / 2 = (E : Int)) (L : List (List Int)) (N : Nat) (hN : N ≤ 64) (hl : L.length = N) (hc : ∀ s : Nat, s < N → vch.l1 30 [] (s : Int) 0 (E : Int) = some (L.getD s []) ∧ (L.getD s []).length ≤ 20 ∧ isChoice (L.getD s []) (E : Int)) : ∀ (d s : Nat), N - s = d → s ≤ N → ∀ x : Int, ∃ r : Int, Ev (fun k => vch.l0 k t f X Y Z x s (N : Int)) r ∧ Ev (fun k => spec_RibbonValue.l0 k X Y Z x (L) s t f) r
  | 0, s, hd, hs, x => by
    have hsN : s = N := by omega
    rw [hsN]; refine ⟨x, Ev.s ?_, Ev.s ?_⟩
    · simp only [vch.l0, show ¬ (N : Int) < (N : Int) by omega, if_false]
      exact Ev.const rfl
    · simp only [spec_RibbonValue.l0, hl, show ¬ (N : Int) < (N : Int) by omega, if_false]
      exact Ev.const rfl
  | d + 1, s, hd, hs, x => by
    have hs1 : s + 1 ≤ N := by omega
    have hd1 : N - (s + 1) = d := by omega
    have hlt : (s : Int) < (N : Int) := by omega
    have h0s : (0 : Int) ≤ (s : Int) := by omega
    obtain ⟨h1, h2, h3⟩ := hc s (by omega); obtain ⟨P, S, V, b, b1, b2, b3⟩ := counts_both t f (L.getD s []) ht hf (by omega)
    have hb : b = true := by
      obtain ⟨b', c1, c2, c3⟩ := choiceValid_both t f (L.getD s []) ht hf (by omega); have := Ev.uniq b1 c1; rw [this]; exact c3.2 ⟨hm, by rw [hfE]; exact h3⟩
    obtain ⟨g1, g2⟩ := b3 hb; obtain ⟨v, v1, v2⟩ := one_value t f (L.getD s []) X Y Z P S V (L.getD s []).length x g1 g2
    have hrd : rd_L1 (L) (s : Int) = L.getD s [] := by unfold rd_L1; rw [Int.toNat_natCast]
    have e1 : Ev (fun k => vch.l1 k [] (s : Int) 0 (E : Int)) (L.getD s []) := Ev.of (fun k => vch.mono_l1 k _ _ _ _) h1; have hw : wrap64 ((s : Int) + 1) = ((s + 1 : Nat) : Int) := w64n (by omega); obtain ⟨r, r1, r2⟩ := vrun t f X Y Z ht hf hm E hfE L N hN hl hc d (s + 1) hd1 hs1 v; refine ⟨r, Ev.s ?_, Ev.s ?_⟩
    · simp only [vch.l0, hlt, hfE, if_true]
      refine Ev.bind e1 ?_; refine Ev.bind v1 ?_; simp only [hw]; exact r1
    · simp only [spec_RibbonValue.l0, hl, hlt, hrd, h0s, if_true]
      refine v2 (fun k z => spec_RibbonValue.l0 k X Y Z z L (wrap64 ((s : Int) + 1)) t f) r ?_; simp only [hw]; exact r2
theorem valueIn_ev (a : Int) : Ev (fun k => spec_l6In.f a 0 3) (decide (0 ≤ a ∧ a ≤ 3)) := Ev.const (l6In_eq a 0 3)
theorem ribbonValue_both (t f : List Int) (X Y Z : Int) (ht : t.length ≤ 1048576) (hf : f.length ≤ 1048576) : ∃ r : Int, Ev (fun k => spec_RibbonValue.f k t f X Y Z) r ∧ Ev (fun k => impl_RibbonValue.f k t f X Y Z) r := by
  obtain ⟨b, b1, b2, b3⟩ := mapValid_both t f ht hf
  have no : ∀ b' : Bool, b' = true → Ev (fun k => spec_RibbonValue.j0 k X Y Z b' t f) (-1) := fun b' h => by
    refine Ev.s ?_; simp only [spec_RibbonValue.j0, h, if_true]; exact Ev.const rfl
  cases b with
  | false =>
    refine ⟨-1, ?_, ?_⟩
    · unfold spec_RibbonValue.f
      refine Ev.bind b1 ?_; simp only [Bool.false_eq_true, if_false]; exact no true rfl
    · unfold impl_RibbonValue.f
      refine Ev.bind b2 ?_; simp only [Bool.false_eq_true, if_false]; exact Ev.const rfl
  | true =>
    by_cases cx : 0 ≤ X ∧ X ≤ 3
    · by_cases cy : 0 ≤ Y ∧ Y ≤ 3
      · by_cases cz : 0 ≤ Z ∧ Z ≤ 3
        · have hm := b3.1 rfl
          obtain ⟨hn, h1, ht', hti, hf', hfl, _, _⟩ := ribOk_of t f [] hm (fun i hi => by simp at hi) (by simp)
          have hfl12 : f.length ≤ 12 := by have := hf'.1; omega
          obtain ⟨E, hE⟩ : ∃ E : Nat, E = f.length / 2 := ⟨_, rfl⟩
          have hE6 : E ≤ 6 := by omega
          have hfE : (f.length : Int) / 2 = (E : Int) := by omega
          have hwE : wrap64 (E : Int) = (E : Int) := w64 (by omega) (by omega); obtain ⟨hp, hp2⟩ := vpow E hE6; obtain ⟨hall, hl, hc⟩ := vchk E hE6; obtain ⟨r, r1, r2⟩ := vrun t f X Y Z ht hf hm E hfE (vallE E) (2 ^ E) hp2 hl hc (2 ^ E) 0 (Nat.sub_zero _) (Nat.zero_le _) 0; refine ⟨r, ?_, ?_⟩
          · unfold spec_RibbonValue.f
            refine Ev.bind b1 ?_; simp only [if_true]; refine Ev.bind (valueIn_ev X) ?_; simp only [cx, and_self, decide_true, if_true]; refine Ev.bind (valueIn_ev Y) ?_; simp only [cy, and_self, decide_true, if_true]; refine Ev.bind (valueIn_ev Z) ?_; simp only [cz, and_self, decide_true, Bool.not_true]; refine Ev.s ?_; simp only [spec_RibbonValue.j0, Bool.false_eq_true, if_false, hfE, hwE]; refine Ev.bind (Ev.of (fun k => spec_l7All.mono _ k) hall) ?_; exact r2
          · unfold impl_RibbonValue.f
            refine Ev.bind b2 ?_; simp only [if_true, show ¬ X < 0 by omega, show ¬ X > 3 by omega, show ¬ Y < 0 by omega, show ¬ Y > 3 by omega, show ¬ Z < 0 by omega, show ¬ Z > 3 by omega, if_false, hfl12, ← hE, hp]; exact r1
        · refine ⟨-1, ?_, ?_⟩
          · unfold spec_RibbonValue.f
            refine Ev.bind b1 ?_; simp only [if_true]; refine Ev.bind (valueIn_ev X) ?_; simp only [cx, and_self, decide_true, if_true]; refine Ev.bind (valueIn_ev Y) ?_; simp only [cy, and_self, decide_true, if_true]; refine Ev.bind (valueIn_ev Z) ?_; exact no _ (by rw [decide_eq_false cz]; rfl)
          · unfold impl_RibbonValue.f
            refine Ev.bind b2 ?_; simp only [if_true, show ¬ X < 0 by omega, show ¬ X > 3 by omega, show ¬ Y < 0 by omega, show ¬ Y > 3 by omega, if_false]
            by_cases c1 : Z < 0
            · simp only [c1, if_true]
              exact Ev.const rfl
            · simp only [c1, show Z > 3 by omega, if_true, if_false]
              exact Ev.const rfl
      · refine ⟨-1, ?_, ?_⟩
        · unfold spec_RibbonValue.f
          refine Ev.bind b1 ?_; simp only [if_true]; refine Ev.bind (valueIn_ev X) ?_; simp only [cx, and_self, decide_true, if_true]; refine Ev.bind (valueIn_ev Y) ?_; simp only [decide_eq_false cy, Bool.false_eq_true, if_false]; exact no true rfl
        · unfold impl_RibbonValue.f
          refine Ev.bind b2 ?_; simp only [if_true, show ¬ X < 0 by omega, show ¬ X > 3 by omega, if_false]
          by_cases c1 : Y < 0
          · simp only [c1, if_true]
            exact Ev.const rfl
          · simp only [c1, show Y > 3 by omega, if_true, if_false]
            exact Ev.const rfl
    · refine ⟨-1, ?_, ?_⟩
      · unfold spec_RibbonValue.f
        refine Ev.bind b1 ?_; simp only [if_true]; refine Ev.bind (valueIn_ev X) ?_; simp only [decide_eq_false cx, Bool.false_eq_true, if_false]; exact no true rfl
      · unfold impl_RibbonValue.f
        refine Ev.bind b2 ?_; simp only [if_true]
        by_cases c1 : X < 0
        · simp only [c1, if_true]
          exact Ev.const rfl
        · simp only [c1, show X > 3 by omega, if_true, if_false]
          exact Ev.const rfl
def Cnt (n : Nat) (P : Nat → Prop) (k : Nat) : Prop := ∃ L : List Nat, L.Nodup ∧ (∀ x, x ∈ L ↔ x < n ∧ P x) ∧ L.length = k
theorem Cnt.ex (P : Nat → Prop) : ∀ n, ∃ k, Cnt n P k ∧ k ≤ n
  | 0 => ⟨0, ⟨[], List.nodup_nil, by simp, rfl⟩, Nat.le_refl _⟩
  | n + 1 => by
    obtain ⟨k, ⟨L, h1, h2, h3⟩, hk⟩ := Cnt.ex P n
    by_cases h : P n
    · refine ⟨k + 1, ⟨n :: L, List.nodup_cons.2 ⟨fun z => by have := ((h2 n).1 z).1; omega, h1⟩, fun x => ?_, by simp [h3]⟩, by omega⟩
      rw [List.mem_cons, h2]
      constructor
      · rintro (rfl | ⟨a, b⟩)
        · exact ⟨by omega, h⟩
        · exact ⟨by omega, b⟩
      · rintro ⟨a, b⟩
        by_cases e : x = n
        · exact .inl e
        · exact .inr ⟨by omega, b⟩
    · refine ⟨k, ⟨L, h1, fun x => ?_, h3⟩, by omega⟩
      rw [h2]
      constructor
      · rintro ⟨a, b⟩; exact ⟨by omega, b⟩
      · rintro ⟨a, b⟩
        by_cases e : x = n
        · exact absurd (e ▸ b) h
        · exact ⟨by omega, b⟩
theorem Cnt.le {n : Nat} {P Q : Nat → Prop} {k l : Nat} (hp : Cnt n P k) (hq : Cnt n Q l) (g : Nat → Nat) (hg : ∀ x, x < n → P x → g x < n ∧ Q (g x)) (hi : ∀ x y, x < n → P x → y < n → P y → g x = g y → x = y) : k ≤ l := by
  obtain ⟨L, h1, h2, rfl⟩ := hp; obtain ⟨M, m1, m2, rfl⟩ := hq; rw [← List.length_map (f := g)]; refine len_le_of_sub _ _ ?_ ?_
  · rw [List.Nodup, List.pairwise_map]
    refine List.Pairwise.imp_of_mem ?_ h1; intro a b ha hb hab e; exact hab (hi a b ((h2 a).1 ha).1 ((h2 a).1 ha).2 ((h2 b).1 hb).1 ((h2 b).1 hb).2 e)
  · intro y hy
    obtain ⟨a, ha, rfl⟩ := List.mem_map.1 hy; exact (m2 _).2 (hg a ((h2 a).1 ha).1 ((h2 a).1 ha).2)
theorem Cnt.sub {n : Nat} {P Q : Nat → Prop} {k l : Nat} (hp : Cnt n P k) (hq : Cnt n Q l) (h : ∀ x, x < n → P x → Q x) : k ≤ l :=
  hp.le hq (fun x => x) (fun x hx px => ⟨hx, h x hx px⟩) (fun _ _ _ _ _ _ e => e)
theorem Cnt.same {n : Nat} {P Q : Nat → Prop} {k l : Nat} (hp : Cnt n P k) (hq : Cnt n Q l) (h : ∀ x, x < n → (P x ↔ Q x)) : k = l :=
  Nat.le_antisymm (hp.sub hq fun x hx => (h x hx).1) (hq.sub hp fun x hx => (h x hx).2)
theorem Cnt.congr {n : Nat} {P Q : Nat → Prop} {k : Nat} (hp : Cnt n P k) (h : ∀ x, x < n → (P x ↔ Q x)) : Cnt n Q k := by
  obtain ⟨L, h1, h2, h3⟩ := hp; exact ⟨L, h1, fun x => by rw [h2]; exact ⟨fun z => ⟨z.1, (h x z.1).1 z.2⟩, fun z => ⟨z.1, (h x z.1).2 z.2⟩⟩, h3⟩
theorem Cnt.reps {n : Nat} {P Q : Nat → Prop} {k l : Nat} (R : Nat → Nat → Prop) (hs : ∀ x y, R x y → R y x) (ht : ∀ x y z, R x y → R y z → R x z) (hp : Cnt n P k) (hq : Cnt n Q l)
    (h : ∀ x, x < n → P x → ∃ y, y < n ∧ Q y ∧ R x y) (hu : ∀ x y, x < n → P x → y < n → P y → R x y → x = y) : k ≤ l := by
  classical
  refine hp.le hq (fun x => if hx : x < n ∧ P x then Classical.choose (h x hx.1 hx.2) else 0) (fun x hx px => ?_) (fun x y hx px hy py e => ?_)
  · rw [dif_pos ⟨hx, px⟩]
    have := Classical.choose_spec (h x hx px); exact ⟨this.1, this.2.1⟩
  · rw [dif_pos ⟨hx, px⟩, dif_pos ⟨hy, py⟩] at e
    have h1 := (Classical.choose_spec (h x hx px)).2.2; have h2 := (Classical.choose_spec (h y hy py)).2.2; rw [e] at h1; exact hu x y hx px hy py (ht _ _ _ h1 (hs _ _ h2))
theorem Cnt.drop {n : Nat} {P Q : Nat → Prop} {k : Nat} (hp : Cnt n P k) (z : Nat) (hz : z < n) (pz : P z) (h : ∀ x, x < n → (Q x ↔ P x ∧ x ≠ z)) : 1 ≤ k ∧ Cnt n Q (k - 1) := by
  obtain ⟨L, h1, h2, rfl⟩ := hp; have hm : z ∈ L := (h2 z).2 ⟨hz, pz⟩; have := List.length_pos_of_mem hm; refine ⟨this, L.erase z, h1.erase z, fun x => ?_, List.length_erase_of_mem hm⟩; rw [h1.mem_erase_iff, h2]
  constructor
  · rintro ⟨a, b, c⟩; exact ⟨b, (h x b).2 ⟨c, a⟩⟩
  · rintro ⟨a, b⟩; have := (h x a).1 b; exact ⟨this.2, a, this.1⟩
def lst (R : Nat → Nat → Prop) (j : Nat) : Prop := ∀ i, i < j → ¬ R i j
def Cl (n : Nat) (R : Nat → Nat → Prop) (k : Nat) : Prop := Cnt n (lst R) k
theorem lst_ex (R : Nat → Nat → Prop) (hr : ∀ x, R x x) (hs : ∀ x y, R x y → R y x) (ht : ∀ x y z, R x y → R y z → R x z) : ∀ x, ∃ y, y ≤ x ∧ lst R y ∧ R y x := by
  intro x
  induction x using Nat.strongRecOn with
  | ind x ih =>
    by_cases h : ∃ i, i < x ∧ R i x
    · obtain ⟨i, hi, hri⟩ := h
      obtain ⟨y, y1, y2, y3⟩ := ih i hi; exact ⟨y, by omega, y2, ht _ _ _ y3 hri⟩
    · exact ⟨x, Nat.le_refl _, fun i hi hri => h ⟨i, hi, hri⟩, hr x⟩
theorem lst_uniq (R : Nat → Nat → Prop) (hs : ∀ x y, R x y → R y x) (x y : Nat) (hx : lst R x) (hy : lst R y) (h : R x y) : x = y := by
  by_cases h1 : x < y
  · exact absurd h (hy x h1)
  · by_cases h2 : y < x
    · exact absurd (hs _ _ h) (hx y h2)
    · omega
theorem Cl.merge {n : Nat} {R S : Nat → Nat → Prop} {k : Nat} (hr : ∀ x, R x x) (hs : ∀ x y, R x y → R y x) (ht : ∀ x y z, R x y → R y z → R x z) (hk : Cl n R k) (a b : Nat) (ha : a < n) (hb : b < n) (hab : ¬ R a b)
    (hS : ∀ x y, S x y ↔ R x y ∨ (R x a ∧ R b y) ∨ (R x b ∧ R a y)) : 1 ≤ k ∧ Cl n S (k - 1) := by
  obtain ⟨p, p1, p2, p3⟩ := lst_ex R hr hs ht a; obtain ⟨q, q1, q2, q3⟩ := lst_ex R hr hs ht b
  have hpq : p ≠ q := by rintro rfl; exact hab (ht _ _ _ (hs _ _ p3) q3)
  have key : ∀ (p q a b : Nat), p < q → lst R p → lst R q → R p a → R q b → q < n → ¬ R a b → (∀ x y, S x y ↔ R x y ∨ (R x a ∧ R b y) ∨ (R x b ∧ R a y)) → 1 ≤ k ∧ Cl n S (k - 1) := by
    intro p q a b hlt p2 q2 p3 q3 hq hab hS
    refine Cnt.drop hk q hq q2 fun x hx => ⟨fun h => ⟨fun i hi z => h i hi ((hS _ _).2 (.inl z)), ?_⟩, fun ⟨h1, h2⟩ i hi z => ?_⟩
    · rintro rfl
      exact h p hlt ((hS _ _).2 (.inr (.inl ⟨p3, hs _ _ q3⟩)))
    · rcases (hS _ _).1 z with z | ⟨z1, z2⟩ | ⟨z1, z2⟩
      · exact h1 i hi z
      · exact h2 (lst_uniq R hs x q h1 q2 (ht _ _ _ (hs _ _ z2) (hs _ _ q3)))
      · have e := lst_uniq R hs x p h1 p2 (ht _ _ _ (hs _ _ z2) (hs _ _ p3))
        subst e; exact q2 i (by omega) (ht _ _ _ z1 (hs _ _ q3))
  rcases Nat.lt_or_gt_of_ne hpq with h | h
  · exact key p q a b h p2 q2 p3 q3 (by omega) hab hS
  · exact key q p b a h q2 p2 q3 p3 (by omega) (fun z => hab (hs _ _ z)) (fun x y => by rw [hS]; exact ⟨fun z => z.elim .inl (fun z => .inr (z.elim .inr .inl)), fun z => z.elim .inl (fun z => .inr (z.elim .inr .inl))⟩)
theorem closed_of_fwd (p : List Int) (n : Nat) (hp : inR n p) (hi : injR n p) (S : Nat → Prop) (h : ∀ k, k < n → S k → S (rd p k).toNat) : closedL [p] n S := by
  intro q hq k hk
  have e : q = p := by simpa using hq
  subst e; refine ⟨h k hk, fun hs => ?_⟩; obtain ⟨m, h1, h2⟩ := itr_back q n hp hi k (by omega)
  have g : ∀ (j : Nat) (x : Int), 0 ≤ x ∧ x < n → S x.toNat → S (itr q j x).toNat := by
    intro j
    induction j with
    | zero => intro x _ h; exact h
    | succ j ih =>
      intro x hx hsx; have := hp.2 x.toNat (by omega); have e := h x.toNat (by omega) hsx; rw [show ((x.toNat : Nat) : Int) = x by omega] at this e; exact ih _ this e
  have := g m (rd q k) (hp.2 k hk) hs; rw [show itr q m (rd q k) = itr q (m + 1) k from rfl, h2] at this
  simpa using this
theorem itr_reach (ps : List (List Int)) (p : List Int) (n : Nat) (hp : inR n p) (hm : p ∈ ps) : ∀ (k : Nat) (x : Int), 0 ≤ x ∧ x < n → Reach ps n x.toNat (itr p k x).toNat
  | 0, x, h => Reach.refl _ _ _
  | k + 1, x, h => by
    have h1 := hp.2 x.toNat (by omega); have h2 := Reach.step (ps := ps) (n := n) hm (k := x.toNat) (by omega); rw [show ((x.toNat : Nat) : Int) = x by omega] at h1 h2; exact h2.trans (itr_reach ps p n hp hm k _ h1)
theorem reach_itr (p : List Int) (n : Nat) (hp : inR n p) (hi : injR n p) (a b : Nat) (ha : a < n) (h : Reach [p] n a b) : ∃ k : Nat, itr p k (rd p a) = b := by
  have hc := closed_of_fwd p n hp hi (fun x => ∃ k : Nat, itr p k (rd p a) = x) (fun k hk ⟨m, hm⟩ => ⟨m + 1, by
    rw [itr_add p m 1, hm]; have := hp.2 k hk
    show rd p k = _
    omega⟩)
  obtain ⟨m, h1, h2⟩ := itr_back p n hp hi a (by omega); exact (h _ hc).1 ⟨m, h2⟩
theorem first_itr (p : List Int) (x : Int) (b : Int) (k : Nat) (h : itr p k x = b) : ∃ m, m ≤ k ∧ itr p m x = b ∧ ∀ j, j < m → itr p j x ≠ b := by
  induction k using Nat.strongRecOn with
  | ind k ih =>
    by_cases e : ∃ j, j < k ∧ itr p j x = b
    · obtain ⟨j, h1, h2⟩ := e
      obtain ⟨m, m1, m2, m3⟩ := ih j h1 h2; exact ⟨m, by omega, m2, m3⟩
    · exact ⟨k, Nat.le_refl _, h, fun j hj z => e ⟨j, hj, z⟩⟩
def Exch (n : Nat) (p q : List Int) (a b : Nat) : Prop := a < n ∧ b < n ∧ a ≠ b ∧ rd q a = rd p b ∧ rd q b = rd p a ∧ ∀ x : Nat, x < n → x ≠ a → x ≠ b → rd q x = rd p x
theorem Exch.symm {n : Nat} {p q : List Int} {a b : Nat} (h : Exch n p q a b) : Exch n q p a b := ⟨h.1, h.2.1, h.2.2.1, h.2.2.2.2.1.symm, h.2.2.2.1.symm, fun x hx h1 h2 => (h.2.2.2.2.2 x hx h1 h2).symm⟩
theorem exch_join {n : Nat} {p q : List Int} {a b : Nat} (hp : inR n p) (hq : inR n q) (ip : injR n p) (iq : injR n q) (h : Exch n p q a b) (hab : ¬ Reach [p] n a b) : Reach [q] n a b := by
  obtain ⟨ha, hb, hne, e1, e2, e3⟩ := h; obtain ⟨k, hk⟩ := reach_itr p n hp ip b b hb (Reach.refl _ _ _); obtain ⟨m, m1, m2, m3⟩ := first_itr p (rd p b) b k hk; have pb := hp.2 b hb
  have run : ∀ j, j ≤ m → Reach [q] n a (itr p j (rd p b)).toNat := by
    intro j
    induction j with
    | zero =>
      intro _; have := Reach.step (ps := [q]) (n := n) (p := q) (by simp) ha; rw [e1] at this; exact this
    | succ j ih =>
      intro hj; have h1 := ih (by omega); have h2 := itr_in p n hp j _ pb; have h3 := m3 j (by omega)
      have h4 : (itr p j (rd p b)).toNat ≠ a := by
        intro e
        apply hab
        have z := itr_reach [p] p n hp (by simp) (j + 1) (b : Int) (by omega); rw [show itr p (j + 1) (b : Int) = itr p j (rd p b) from rfl, e] at z; exact z.symm
      have s := Reach.step (ps := [q]) (n := n) (p := q) (by simp) (k := (itr p j (rd p b)).toNat) (by omega); rw [e3 _ (by omega) h4 (by omega), show (((itr p j (rd p b)).toNat : Nat) : Int) = itr p j (rd p b) by omega] at s; rw [itr_add p j 1]; exact h1.trans s
  have := run m (Nat.le_refl _); rw [m2] at this; exact this
theorem exch_split {n : Nat} {p q : List Int} {a b : Nat} (hp : inR n p) (hq : inR n q) (ip : injR n p) (iq : injR n q) (h : Exch n p q a b) (hab : Reach [p] n a b) : ¬ Reach [q] n a b := by
  obtain ⟨ha, hb, hne, e1, e2, e3⟩ := h; obtain ⟨k, hk⟩ := reach_itr p n hp ip b a hb hab.symm; obtain ⟨m, m1, m2, m3⟩ := first_itr p (rd p b) a k hk; have pb := hp.2 b hb
  have nb : ∀ j, j ≤ m → itr p j (rd p b) ≠ b := by
    intro j hj e
    by_cases ej : j = m
    · rw [ej, m2] at e
      omega
    · have : itr p (m - j - 1) (rd p b) = a := by
        have z : itr p m (rd p b) = itr p (m - j - 1) (rd p (itr p j (rd p b))) := by
          rw [show m = j + (1 + (m - j - 1)) by omega, itr_add, itr_add p 1]; rw [show j + (1 + (m - j - 1)) - j - 1 = m - j - 1 by omega]; rfl
        rw [e, m2] at z; exact z.symm
      exact m3 (m - j - 1) (by omega) this
  have hc := closed_of_fwd q n hq iq (fun x => ∃ j, j ≤ m ∧ itr p j (rd p b) = x) (fun x hx ⟨j, hj, hjx⟩ => by
    have qx := hq.2 x hx
    by_cases ex : x = a
    · subst ex
      exact ⟨0, by omega, by rw [e1]; show rd p b = _; omega⟩
    · have hxb : x ≠ b := by
        intro e; exact nb j hj (by rw [hjx, e])
      have jm : j ≠ m := by
        rintro rfl; rw [m2] at hjx; omega
      refine ⟨j + 1, by omega, ?_⟩; rw [itr_add p j 1, hjx, e3 x hx ex hxb]; have := hp.2 x hx
      show rd p x = _
      omega)
  intro hr; obtain ⟨j, hj, hjb⟩ := (hr _ hc).1 ⟨m, Nat.le_refl _, m2⟩; exact nb j hj hjb
theorem Cl.ex (n : Nat) (R : Nat → Nat → Prop) : ∃ k, Cl n R k ∧ k ≤ n := Cnt.ex _ n
theorem Cl.uniq {n : Nat} {R : Nat → Nat → Prop} {k l : Nat} (h : Cl n R k) (h' : Cl n R l) : k = l := Cnt.same h h' fun _ _ => Iff.rfl
theorem exch_rel {n : Nat} {p q : List Int} {a b : Nat} (hp : inR n p) (hq : inR n q) (ip : injR n p) (iq : injR n q) (h : Exch n p q a b) (hab : ¬ Reach [p] n a b) (x y : Nat) :
    Reach [q] n x y ↔ Reach [p] n x y ∨ (Reach [p] n x a ∧ Reach [p] n b y) ∨ (Reach [p] n x b ∧ Reach [p] n a y) := by
  have hj := exch_join hp hq ip iq h hab; obtain ⟨ha, hb, hne, e1, e2, e3⟩ := h
  have up : ∀ x y, Reach [p] n x y → Reach [q] n x y := by
    intro x y hr S hS
    refine hr S fun r hr' k hk => ?_
    have : r = p := by simpa using hr'
    subst this; have sq := hS q (by simp)
    by_cases ka : k = a
    · subst ka
      have z := sq b hb; rw [e2] at z; exact (hj S hS).trans z
    · by_cases kb : k = b
      · subst kb
        have z := sq a ha; rw [e1] at z; exact (hj S hS).symm.trans z
      · have z := sq k hk
        rw [e3 k hk ka kb] at z; exact z
  constructor
  · intro hr
    have hc : closedL [q] n (fun z => Reach [p] n x z ∨ (Reach [p] n x a ∧ Reach [p] n b z) ∨ (Reach [p] n x b ∧ Reach [p] n a z)) := by
      refine closed_of_fwd q n hq iq _ fun k hk hz => ?_
      have stp : ∀ z, z < n → Reach [p] n z (rd p z).toNat := fun z hz => Reach.step (by simp) hz
      by_cases ka : k = a
      · subst ka
        rw [e1]
        rcases hz with z | ⟨z1, z2⟩ | ⟨z1, z2⟩
        · exact .inr (.inl ⟨z, stp b hb⟩)
        · exact .inr (.inl ⟨z1, stp b hb⟩)
        · exact .inl (z1.trans (stp b hb))
      · by_cases kb : k = b
        · subst kb
          rw [e2]
          rcases hz with z | ⟨z1, z2⟩ | ⟨z1, z2⟩
          · exact .inr (.inr ⟨z, stp a ha⟩)
          · exact .inl (z1.trans (stp a ha))
          · exact .inr (.inr ⟨z1, stp a ha⟩)
        · rw [e3 k hk ka kb]
          have s := stp k hk
          rcases hz with z | ⟨z1, z2⟩ | ⟨z1, z2⟩
          · exact .inl (z.trans s)
          · exact .inr (.inl ⟨z1, z2.trans s⟩)
          · exact .inr (.inr ⟨z1, z2.trans s⟩)
    exact (hr _ hc).1 (.inl (Reach.refl _ _ _))
  · rintro (z | ⟨z1, z2⟩ | ⟨z1, z2⟩)
    · exact up _ _ z
    · exact (up _ _ z1).trans (hj.trans (up _ _ z2))
    · exact (up _ _ z1).trans (hj.symm.trans (up _ _ z2))
theorem exch_count {n : Nat} {p q : List Int} {a b k l : Nat} (hp : inR n p) (hq : inR n q) (ip : injR n p) (iq : injR n q) (h : Exch n p q a b) (hk : Cl n (Reach [p] n) k) (hl : Cl n (Reach [q] n) l) :
    (¬ Reach [p] n a b → l + 1 = k) ∧ (Reach [p] n a b → l = k + 1) := by
  have sy : ∀ p : List Int, ∀ x y, Reach [p] n x y → Reach [p] n y x := fun p x y h => h.symm
  have tr : ∀ p : List Int, ∀ x y z, Reach [p] n x y → Reach [p] n y z → Reach [p] n x z := fun p x y z h h' => h.trans h'
  constructor
  · intro hab
    have := Cl.merge (S := Reach [q] n) (fun x => Reach.refl _ _ x) (sy p) (tr p) hk a b h.1 h.2.1 hab (exch_rel hp hq ip iq h hab); have e := Cl.uniq hl this.2; omega
  · intro hab
    have hab' := exch_split hp hq ip iq h hab; have := Cl.merge (S := Reach [p] n) (fun x => Reach.refl _ _ x) (sy q) (tr q) hl a b h.1 h.2.1 hab' (exch_rel hq hp iq ip h.symm hab'); have e := Cl.uniq hk this.2; omega
theorem cw_ends (p : List Int) (n : Nat) (hp : inR n p) (a0 : Nat) (ha0 : a0 < n) (s0 : Nat → Prop) : ∀ (m : Nat) (s : List Bool) (c : List Int) (a : Nat), s.length = n → a < n → fresh s < m →
    (∀ x, x < n → s.getD x false = true → s.getD (rd p x).toNat false = true ∨ (rd p x).toNat = a) → Reach [p] n a0 a → (∀ x, x < n → s.getD x false = true → s0 x ∨ Reach [p] n a0 x) → (∀ x, s0 x → s.getD x false = true) → (s.getD a0 false = true ∨ a = a0) → (∀ x ∈ c, 0 ≤ x ∧ x < n ∧ Reach [p] n a0 x.toNat) → (a0 ≠ a → (a0 : Int) ∈ c) → (∀ x, x < n → s.getD x false = true → s0 x ∨ (x : Int) ∈ c) →
    (∀ x, x < n → (cw p m s c a).1.getD x false = true → (cw p m s c a).1.getD (rd p x).toNat false = true) ∧ (∀ x, x < n → (cw p m s c a).1.getD x false = true → s0 x ∨ Reach [p] n a0 x) ∧ (∀ x, s0 x → (cw p m s c a).1.getD x false = true) ∧ (cw p m s c a).1.getD a0 false = true ∧ (∀ x ∈ (cw p m s c a).2, 0 ≤ x ∧ x < n ∧ Reach [p] n a0 x.toNat) ∧ (∀ x, x < n → (cw p m s c a).1.getD x false = true → s0 x ∨ (x : Int) ∈ (cw p m s c a).2)
  | 0, s, c, a, hs, ha, hm, h1, h2, h3, h4, h5, h6, h7, h8 => absurd hm (Nat.not_lt_zero _)
  | m + 1, s, c, a, hs, ha, hm, h1, h2, h3, h4, h5, h6, h7, h8 => by
    simp only [cw]; rw [rdOf_nat s a (by omega), Int.toNat_natCast]
    by_cases e : s.getD a false = true
    · rw [if_pos e]
      refine ⟨fun x hx hsx => (h1 x hx hsx).elim id (fun z => by rw [z]; exact e), h3, h4, h5.elim id (fun z => by rw [← z]; exact e), h6, h8⟩
    · rw [if_neg e]
      have pr := hp.2 a ha
      have e0 : s.getD a false = false := by simpa using e
      have fr := fresh_set s a (by omega) e0
      have back : (((rd p a).toNat : Nat) : Int) = rd p a := by omega
      have st := Reach.step (ps := [p]) (n := n) (p := p) (by simp) ha; have ih := cw_ends p n hp a0 ha0 s0 m (s.set a true) (c ++ [(a : Int)]) (rd p a).toNat (by simpa using hs) (by omega) (by omega)
        (fun x hx hsx => by
          rw [getD_set _ _ _ _ (by omega)] at hsx ⊢
          by_cases z : a = x
          · subst z; exact .inr rfl
          · rw [if_neg z] at hsx
            by_cases y : a = (rd p x).toNat
            · rw [if_pos y]; exact .inl rfl
            · rw [if_neg y]
              exact .inl ((h1 x hx hsx).elim id (fun q => absurd q.symm y)))
        (h2.trans st)
        (fun x hx hsx => by
          rw [getD_set _ _ _ _ (by omega)] at hsx
          by_cases z : a = x
          · subst z; exact .inr h2
          · rw [if_neg z] at hsx
            exact h3 x hx hsx)
        (fun x hx => by
          rw [getD_set _ _ _ _ (by omega)]
          split
          · rfl
          · exact h4 x hx)
        (.inl (by
          rw [getD_set _ _ _ _ (by omega)]
          by_cases z : a = a0
          · rw [if_pos z]
          · rw [if_neg z]
            exact h5.elim id (fun q => absurd q z)))
        (fun x hx => by
          rw [List.mem_append, List.mem_singleton] at hx
          rcases hx with hx | rfl
          · exact h6 x hx
          · exact ⟨by omega, by omega, by rw [Int.toNat_natCast]; exact h2⟩)
        (fun _ => by
          rw [List.mem_append, List.mem_singleton]
          by_cases z : a0 = a
          · right; rw [z]
          · exact .inl (h7 z))
        (fun x hx hsx => by
          rw [List.mem_append, List.mem_singleton]; rw [getD_set _ _ _ _ (by omega)] at hsx
          by_cases z : a = x
          · subst z; exact .inr (.inr rfl)
          · rw [if_neg z] at hsx
            exact (h8 x hx hsx).imp id .inl)
      rw [back] at ih; exact ih
theorem cyS_seen (p : List Int) (n : Nat) (hp : inR n p) (hi : injR n p) : ∀ i, i ≤ n → ∀ x, x < n → ((cyS p n i).1.getD x false = true ↔ ∃ j, j < i ∧ Reach [p] n j x)
  | 0, _, x, hx => by
    constructor
    · intro h
      simp [cyS, List.getD_eq_getElem?_getD, List.getElem?_replicate, hx] at h
    · rintro ⟨j, hj, _⟩; omega
  | i + 1, hi', x, hx => by
    have ih := cyS_seen p n hp hi i (by omega); have l1 := cyS_len p n i; simp only [cyS]
    by_cases e : (cyS p n i).1.getD i false = true
    · rw [cw_seen p (n + 1) _ _ _ (by rw [rdOf_nat _ _ (by omega), Int.toNat_natCast]; exact e)]
      rw [ih x hx]; obtain ⟨q, q1, q2⟩ := (ih i (by omega)).1 e
      constructor
      · rintro ⟨j, hj, h⟩; exact ⟨j, by omega, h⟩
      · rintro ⟨j, hj, h⟩
        by_cases z : j = i
        · subst z; exact ⟨q, q1, q2.trans h⟩
        · exact ⟨j, by omega, h⟩
    · obtain ⟨w1, w2, w3, w4, w5, w6⟩ := cw_ends p n hp i (by omega) (fun x => x < n ∧ (cyS p n i).1.getD x false = true) (n + 1) (cyS p n i).1 [] i l1 (by omega) (by have := fresh_le (cyS p n i).1; omega)
        (fun y hy hsy => .inl (by
          have pr := hp.2 y hy; obtain ⟨j, hj, h⟩ := (ih y hy).1 hsy; exact (ih _ (by omega)).2 ⟨j, hj, h.trans (Reach.step (by simp) hy)⟩))
        (Reach.refl _ _ _) (fun y hy hsy => .inl ⟨hy, hsy⟩) (fun y hy => hy.2) (.inr rfl) (by simp) (fun z => absurd rfl z) (fun y hy hsy => .inl ⟨hy, hsy⟩)
      constructor
      · intro h
        rcases w2 x hx h with ⟨_, h⟩ | h
        · obtain ⟨j, hj, h⟩ := (ih x hx).1 h
          exact ⟨j, by omega, h⟩
        · exact ⟨i, by omega, h⟩
      · rintro ⟨j, hj, h⟩
        by_cases z : j = i
        · subst z
          have hc := closed_of_fwd p n hp hi (fun y => (cw p (n + 1) (cyS p n j).1 [] j).1.getD y false = true) w1; exact (h _ hc).1 w4
        · exact w3 x ⟨hx, (ih x hx).2 ⟨j, by omega, h⟩⟩
theorem Cnt.succ_yes {P : Nat → Prop} {i n k : Nat} (h : Cnt n (fun x => x < i ∧ P x) k) (hi : i < n) (hp : P i) : Cnt n (fun x => x < i + 1 ∧ P x) (k + 1) := by
  obtain ⟨L, h1, h2, h3⟩ := h; refine ⟨i :: L, List.nodup_cons.2 ⟨fun z => by have := ((h2 i).1 z).2.1; omega, h1⟩, fun x => ?_, by simp [h3]⟩; rw [List.mem_cons, h2]
  constructor
  · rintro (rfl | ⟨a, b, c⟩)
    · exact ⟨hi, by omega, hp⟩
    · exact ⟨a, by omega, c⟩
  · rintro ⟨a, b, c⟩
    by_cases e : x = i
    · exact .inl e
    · exact .inr ⟨a, by omega, c⟩
theorem Cnt.succ_no {P : Nat → Prop} {i n k : Nat} (h : Cnt n (fun x => x < i ∧ P x) k) (hp : ¬ P i) : Cnt n (fun x => x < i + 1 ∧ P x) k := by
  refine h.congr fun x hx => ⟨fun ⟨a, b⟩ => ⟨by omega, b⟩, fun ⟨a, b⟩ => ⟨?_, b⟩⟩
  by_cases e : x = i
  · exact absurd (e ▸ b) hp
  · omega
theorem Cnt.none {P : Nat → Prop} {n : Nat} (h : ∀ x, x < n → ¬ P x) : Cnt n P 0 := ⟨[], List.nodup_nil, fun x => ⟨fun z => by simp at z, fun z => absurd z.2 (h x z.1)⟩, rfl⟩
theorem cyS_cnt (p : List Int) (n : Nat) (hp : inR n p) (hi : injR n p) (ch : Int → Bool) : ∀ i, i ≤ n → Cnt n (fun x => x < i ∧ lst (Reach [p] n) x) (cyS p n i).2.length ∧ Cnt n (fun x => x < i ∧ (lst (Reach [p] n) x ∧ ∀ y, y < n → ch (y : Int) = true → ¬ Reach [p] n x y)) (bc (cyS p n i).2 ch (cyS p n i).2.length)
  | 0, _ => ⟨Cnt.none fun x _ z => by omega, Cnt.none fun x _ z => by omega⟩
  | i + 1, hi' => by
    obtain ⟨ih1, ih2⟩ := cyS_cnt p n hp hi ch i (by omega); have seen := cyS_seen p n hp hi i (by omega) i (by omega); have l1 := cyS_len p n i; simp only [cyS]
    by_cases e : (cyS p n i).1.getD i false = true
    · rw [cw_seen p (n + 1) _ _ _ (by rw [rdOf_nat _ _ (by omega), Int.toNat_natCast]; exact e)]
      rw [if_pos rfl]; obtain ⟨j, hj, h⟩ := seen.1 e
      have nl : ¬ lst (Reach [p] n) i := fun z => z j hj h
      exact ⟨ih1.succ_no nl, ih2.succ_no fun z => nl z.1⟩
    · have e' : ¬ rdOf false (cyS p n i).1 (i : Int) = true := by rw [rdOf_nat _ _ (by omega), Int.toNat_natCast]; exact e
      have hl : lst (Reach [p] n) i := fun j hj h => e (seen.2 ⟨j, hj, h⟩)
      obtain ⟨w1, w2, w3, w4, w5, w6⟩ := cw_ends p n hp i (by omega) (fun x => x < n ∧ (cyS p n i).1.getD x false = true) (n + 1) (cyS p n i).1 [] i l1 (by omega) (by have := fresh_le (cyS p n i).1; omega)
        (fun y hy hsy => .inl (by
          have pr := hp.2 y hy; obtain ⟨j, hj, h⟩ := (cyS_seen p n hp hi i (by omega) y hy).1 hsy; exact (cyS_seen p n hp hi i (by omega) _ (by omega)).2 ⟨j, hj, h.trans (Reach.step (by simp) hy)⟩))
        (Reach.refl _ _ _) (fun y hy hsy => .inl ⟨hy, hsy⟩) (fun y hy => hy.2) (.inr rfl) (by simp) (fun z => absurd rfl z) (fun y hy hsy => .inl ⟨hy, hsy⟩)
      have hc := closed_of_fwd p n hp hi (fun y => (cw p (n + 1) (cyS p n i).1 [] i).1.getD y false = true) w1; rw [if_neg (cw_new p n _ i e')]; rw [List.length_append, List.length_singleton]; refine ⟨ih1.succ_yes (by omega) hl, ?_⟩
      have bcp : ∀ (L : List (List Int)) (q : List Int) (j : Nat), j ≤ L.length → bc (L ++ [q]) ch j = bc L ch j := by
        intro L q j
        induction j with
        | zero => intro _; rfl
        | succ j ih =>
          intro hj; simp only [bc]; rw [ih (by omega), rdL_nth _ j (by simp; omega), rdL_nth L j (by omega), List.getElem_append_left (by omega)]
      have bcs : ∀ (L : List (List Int)) (q : List Int), bc (L ++ [q]) ch (L.length + 1) = if q.any ch = true then bc L ch L.length else bc L ch L.length + 1 := by
        intro L q; simp only [bc]; rw [bcp L q L.length (Nat.le_refl _), rdL_nth _ L.length (by simp), List.getElem_append_right (Nat.le_refl _)]
        simp
      rw [bcs]
      have key : (cw p (n + 1) (cyS p n i).1 [] i).2.any ch = true ↔ ∃ y, y < n ∧ ch (y : Int) = true ∧ Reach [p] n i y := by
        rw [List.any_eq_true]
        constructor
        · rintro ⟨x, hx, hcx⟩
          obtain ⟨a, b, c⟩ := w5 x hx; exact ⟨x.toNat, by omega, by rw [show ((x.toNat : Nat) : Int) = x by omega]; exact hcx, c⟩
        · rintro ⟨y, hy, hcy, h⟩
          have z := (h _ hc).1 w4
          rcases w6 y hy z with ⟨_, z⟩ | z
          · obtain ⟨j, hj, hr⟩ := (cyS_seen p n hp hi i (by omega) y hy).1 z
            exact absurd (hr.trans h.symm) (hl j hj)
          · exact ⟨y, z, hcy⟩
      by_cases ea : (cw p (n + 1) (cyS p n i).1 [] i).2.any ch = true
      · rw [if_pos ea]
        obtain ⟨y, hy, hcy, h⟩ := key.1 ea
        exact ih2.succ_no fun z => z.2 y hy hcy h
      · rw [if_neg ea]
        exact ih2.succ_yes (by omega) ⟨hl, fun y hy hcy h => ea (key.2 ⟨y, hy, hcy, h⟩)⟩
theorem cyS_cl (p : List Int) (n : Nat) (hp : inR n p) (hi : injR n p) : Cl n (Reach [p] n) (cyS p n n).2.length :=
  (cyS_cnt p n hp hi (fun _ => false) n (Nat.le_refl _)).1.congr fun x hx => ⟨fun z => z.2, fun z => ⟨hx, z⟩⟩
def sgL (t f : List Int) (n : Nat) (c : List Int) : List Int := (List.range n).map fun (d : Nat) => rd t (rd (flC f n c) (d : Int))
theorem sgL_len (t f : List Int) (n : Nat) (c : List Int) : (sgL t f n c).length = n := by simp [sgL]
theorem sgL_rd (t f : List Int) (n : Nat) (c : List Int) (d : Nat) (h : d < n) : rd (sgL t f n c) (d : Int) = rd t (rd (flC f n c) (d : Int)) := by
  rw [rd_lt _ _ (by simp [sgL]; exact h)]
  simp [sgL]
theorem sgL_inR (t f : List Int) (n : Nat) (ht : inR n t) (hf : inR n f) (c : List Int) : inR n (sgL t f n c) := by
  refine ⟨sgL_len t f n c, fun i hi => ?_⟩; rw [sgL_rd t f n c i hi]; have h1 := (flC_inR f n hf c).2 i hi; have h2 := ht.2 (rd (flC f n c) i).toNat (by omega)
  rwa [show (((rd (flC f n c) i).toNat : Nat) : Int) = rd (flC f n c) i by omega] at h2
theorem flC_inj (f : List Int) (n : Nat) (hf : inR n f) (hfl : ∀ i : Nat, i < n → flipAt f i) (c : List Int) : injR n (flC f n c) := by
  have inv : ∀ i : Nat, i < n → rd (flC f n c) (rd (flC f n c) i) = i := by
    intro i hi; have h1 := hf.2 i hi; have h3 := chB_flip f n hf hfl c i hi; rw [flC_rd f n c i hi]
    by_cases e : chB f n c i = true
    · rw [if_pos e]
      have := flC_rd f n c (rd f i).toNat (by omega); rw [show (((rd f i).toNat : Nat) : Int) = rd f i by omega, h3, if_pos e] at this; rw [this, (hfl i hi).2]
    · rw [if_neg e, flC_rd f n c i hi, if_neg e]
  intro i j hi hj e; have := inv i hi; rw [e, inv j hj] at this; omega
theorem sgL_inj (t f : List Int) (n : Nat) (ht : inR n t) (hti : injR n t) (hf : inR n f) (hfl : ∀ i : Nat, i < n → flipAt f i) (c : List Int) : injR n (sgL t f n c) := by
  intro i j hi hj e; rw [sgL_rd t f n c i hi, sgL_rd t f n c j hj] at e; have h1 := (flC_inR f n hf c).2 i hi; have h2 := (flC_inR f n hf c).2 j hj
  have e1 : (((rd (flC f n c) i).toNat : Nat) : Int) = rd (flC f n c) i := by omega
  have e2 : (((rd (flC f n c) j).toNat : Nat) : Int) = rd (flC f n c) j := by omega
  rw [← e1, ← e2] at e; have := hti _ _ (by omega) (by omega) e; exact flC_inj f n hf hfl c i j hi hj (by omega)
theorem fc_more (t : List Int) (ch : Int → Bool) : ∀ (m : Nat) (x : Int), (∃ k, k ≤ m ∧ ch (itr t k x) = true) → fc t ch (m + 1) x = fc t ch m x
  | 0, x, ⟨k, hk, h⟩ => by
    have : k = 0 := by omega
    subst this; have h' : ch x = true := h
    simp [fc, h']
  | m + 1, x, ⟨k, hk, h⟩ => by
    rw [fc]
    conv => rhs; rw [fc]
    by_cases e : ch x = true
    · rw [if_pos e, if_pos e]
    · rw [if_neg e, if_neg e]
      cases k with
      | zero => exact absurd h e
      | succ k => exact fc_more t ch m _ ⟨k, by omega, h⟩
theorem fc_none (t : List Int) (ch : Int → Bool) : ∀ (m : Nat) (x : Int), (∀ k, k ≤ m → ch (itr t k x) = false) → ch (fc t ch m x) = false
  | 0, x, h => h 0 (Nat.le_refl _)
  | m + 1, x, h => by
    have h0 : ch x = false := h 0 (by omega); simp only [fc, h0, Bool.false_eq_true, if_false]
    exact fc_none t ch m _ fun k hk => h (k + 1) (by omega)
theorem fc_reach (t f : List Int) (n : Nat) (ht : inR n t) (hf : inR n f) (c : List Int) : ∀ (m : Nat) (x : Int), 0 ≤ x ∧ x < n → Reach [sgL t f n c] n x.toNat (fc t (chB f n c) m x).toNat
  | 0, x, hx => Reach.refl _ _ _
  | m + 1, x, hx => by
    simp only [fc]
    split
    · exact Reach.refl _ _ _
    · rename_i e
      have ex : ((x.toNat : Nat) : Int) = x := by omega
      have tr := ht.2 x.toNat (by omega); have st := Reach.step (ps := [sgL t f n c]) (n := n) (p := sgL t f n c) (by simp) (k := x.toNat) (by omega); rw [sgL_rd t f n c _ (by omega), flC_rd f n c _ (by omega), ex, if_neg e] at st; rw [ex] at tr; exact st.trans (fc_reach t f n ht hf c m _ tr)
theorem ribS_seen (t f c : List Int) (n : Nat) (H : RibOk t f c n) : ∀ i, i ≤ n → (∀ x, x < n → ((ribS (faL t f n c) n (chB f n c) i).1.getD x false = true ↔ chB f n c (x : Int) = true ∧ ∃ j : Nat, j < i ∧ chB f n c (j : Int) = true ∧ Reach [sgL t f n c] n j x)) ∧
    Cnt n (fun x => x < i ∧ (chB f n c (x : Int) = true ∧ ∀ j : Nat, j < x → chB f n c (j : Int) = true → ¬ Reach [sgL t f n c] n j x)) (ribS (faL t f n c) n (chB f n c) i).2
  | 0, _ => by
    refine ⟨fun x hx => ⟨fun h => ?_, fun ⟨_, j, hj, _⟩ => by omega⟩, Cnt.none fun x _ z => by omega⟩
    simp [ribS, List.getD_eq_getElem?_getD, List.getElem?_replicate, hx] at h
  | i + 1, hi => by
    obtain ⟨hn, h1, ht, hti, hf, hfl, hc, hcl⟩ := id H; obtain ⟨ih1, ih2⟩ := ribS_seen t f c n H i (by omega); have l1 := ribS_len (faL t f n c) n (chB f n c) i; simp only [ribS]
    by_cases e : chB f n c (i : Int) = true ∧ (ribS (faL t f n c) n (chB f n c) i).1.getD i false = false
    · rw [if_pos e]
      have hFin := faL_inR t f n ht hf c
      have F1 : ∀ x : Nat, x < n → chB f n c (x : Int) = true → chB f n c (rd (faL t f n c) x) = true ∧ Reach [sgL t f n c] n x (rd (faL t f n c) x).toNat := by
        intro x hx hcx; have a1 := fa_ch t f n ht hti hf hfl c x hx hcx; refine ⟨a1.1, ?_⟩; have fr := hf.2 x hx; have tr := ht.2 (rd f x).toNat (by omega); rw [show (((rd f x).toNat : Nat) : Int) = rd f x by omega] at tr; have st := Reach.step (ps := [sgL t f n c]) (n := n) (p := sgL t f n c) (by simp) hx; rw [sgL_rd t f n c x hx, flC_rd f n c x hx, if_pos hcx] at st; have := faL_rd t f n c x hx; rw [if_pos hcx] at this; rw [this]; exact st.trans (fc_reach t f n ht hf c n _ tr)
      -- the walk stays within chosen darts; its ends
      have al := cw_alike (faL t f n c) n (chB f n c) (fun d hd hcd => fa_ch t f n ht hti hf hfl c d hd hcd) (n + 1) i (ribS (faL t f n c) n (chB f n c) i).1 (ribS (faL t f n c) n (chB f n c) i).1 [] [] (by omega) e.1 l1 l1 (fun _ _ _ => rfl); obtain ⟨w1, w2, w3, w4, w5, w6⟩ := cw_ends (faL t f n c) n hFin i (by omega) (fun x => x < n ∧ (ribS (faL t f n c) n (chB f n c) i).1.getD x false = true) (n + 1) (ribS (faL t f n c) n (chB f n c) i).1 [] i l1 (by omega) (by have := fresh_le (ribS (faL t f n c) n (chB f n c) i).1; omega)
        (fun y hy hsy => .inl (by
          have pr := hFin.2 y hy; obtain ⟨hcy, j, hj, hcj, h⟩ := (ih1 y hy).1 hsy; have a1 := F1 y hy hcy; exact (ih1 _ (by omega)).2 ⟨by rw [show (((rd (faL t f n c) y).toNat : Nat) : Int) = rd (faL t f n c) y by omega]; exact a1.1, j, hj, hcj, h.trans a1.2⟩))
        (Reach.refl _ _ _) (fun y hy hsy => .inl ⟨hy, hsy⟩) (fun y hy => hy.2) (.inr rfl) (by simp) (fun z => absurd rfl z) (fun y hy hsy => .inl ⟨hy, hsy⟩)
      -- what the sides' permutation reaches from a chosen dart along chosen darts of a set led into itself
      have hc' := closed_of_fwd (sgL t f n c) n (sgL_inR t f n ht hf c) (sgL_inj t f n ht hti hf hfl c) (fun y => chB f n c (fc t (chB f n c) n (y : Int)) = true ∧ (cw (faL t f n c) (n + 1) (ribS (faL t f n c) n (chB f n c) i).1 [] i).1.getD (fc t (chB f n c) n (y : Int)).toNat false = true) (fun y hy ⟨g1, g2⟩ => by
        have sr := (sgL_inR t f n ht hf c).2 y hy; rw [show (((rd (sgL t f n c) y).toNat : Nat) : Int) = rd (sgL t f n c) y by omega, sgL_rd t f n c y hy, flC_rd f n c y hy]
        by_cases hcy : chB f n c (y : Int) = true
        · rw [if_pos hcy]
          have e1 : fc t (chB f n c) n (y : Int) = y := by
            cases n with
            | zero => omega
            | succ n => simp only [fc, hcy, if_true]
          rw [e1, Int.toNat_natCast] at g2; have := faL_rd t f n c y hy; rw [if_pos hcy] at this; rw [← this]; exact ⟨(F1 y hy hcy).1, w1 y hy g2⟩
        · rw [if_neg hcy]
          have hits : ∃ k, k ≤ n ∧ chB f n c (itr t k (y : Int)) = true := by
            by_cases hh : ∃ k, k ≤ n ∧ chB f n c (itr t k (y : Int)) = true
            · exact hh
            · have := fc_none t (chB f n c) n (y : Int) (fun k hk => by
                cases hb : chB f n c (itr t k (y : Int)) with
                | true => exact absurd ⟨k, hk, hb⟩ hh
                | false => rfl)
              rw [this] at g1
              cases g1
          obtain ⟨k, hk, hk2⟩ := hits
          cases k with
          | zero => exact absurd hk2 hcy
          | succ k =>
            have e1 : fc t (chB f n c) n (y : Int) = fc t (chB f n c) n (rd t y) := by
              rw [← fc_more t (chB f n c) n (y : Int) ⟨k + 1, hk, hk2⟩]; simp only [fc, hcy, Bool.false_eq_true, if_false]
            rw [← e1]; exact ⟨g1, g2⟩)
      have fci : ∀ x : Nat, x < n → chB f n c (x : Int) = true → fc t (chB f n c) n (x : Int) = x := by
        intro x hx hcx
        cases n with
        | zero => omega
        | succ n => simp only [fc, hcx, if_true]
      constructor
      · intro x hx
        constructor
        · intro h
          have hcx : chB f n c (x : Int) = true := by
            cases hb : chB f n c (x : Int) with
            | true => rfl
            | false =>
              have z := (al.2 x hx hb).1; rw [z] at h; have := ((ih1 x hx).1 h).1; rw [hb] at this
              cases this
          refine ⟨hcx, ?_⟩
          rcases w2 x hx h with ⟨_, h⟩ | h
          · obtain ⟨_, j, hj, hcj, hr⟩ := (ih1 x hx).1 h
            exact ⟨j, by omega, hcj, hr⟩
          · refine ⟨i, by omega, e.1, ?_⟩
            -- along the sides' first returns, the sides' permutation reaches
            have hcl : closedL [faL t f n c] n (fun y => chB f n c (y : Int) = true → True) := fun _ _ _ _ => ⟨fun _ _ => trivial, fun _ _ => trivial⟩
            have hz : closedL [faL t f n c] n (fun y => Reach [sgL t f n c] n i y) := by
              intro p hp k hk; rw [List.mem_singleton.1 hp]
              by_cases hck : chB f n c (k : Int) = true
              · exact ⟨fun h => h.trans (F1 k hk hck).2, fun h => h.trans (F1 k hk hck).2.symm⟩
              · rw [faL_rd t f n c k hk, if_neg hck, Int.toNat_natCast]
            exact (h _ hz).1 (Reach.refl _ _ _)
        · rintro ⟨hcx, j, hj, hcj, hr⟩
          by_cases z : j = i
          · subst z
            have h0 := (hr _ hc').1 ⟨by rw [fci j (by omega) hcj]; exact hcj, by rw [fci j (by omega) hcj, Int.toNat_natCast]; exact w4⟩; rw [fci x hx hcx, Int.toNat_natCast] at h0; exact h0.2
          · exact w3 x ⟨hx, (ih1 x hx).2 ⟨hcx, j, by omega, hcj, hr⟩⟩
      · refine ih2.succ_yes (by omega) ⟨e.1, fun j hj hcj hr => ?_⟩
        have := (ih1 i (by omega)).2 ⟨e.1, j, hj, hcj, hr⟩; rw [e.2] at this
        cases this
    · rw [if_neg e]
      constructor
      · intro x hx
        rw [ih1 x hx]
        constructor
        · rintro ⟨a, j, hj, b, d⟩; exact ⟨a, j, by omega, b, d⟩
        · rintro ⟨a, j, hj, b, d⟩
          refine ⟨a, ?_⟩
          by_cases z : j = i
          · subst z
            have hs : (ribS (faL t f n c) n (chB f n c) j).1.getD j false = true := by
              cases hb : (ribS (faL t f n c) n (chB f n c) j).1.getD j false with
              | true => rfl
              | false => exact absurd ⟨b, hb⟩ e
            obtain ⟨_, q, q1, q2, q3⟩ := (ih1 j (by omega)).1 hs; exact ⟨q, q1, q2, q3.trans d⟩
          · exact ⟨j, by omega, b, d⟩
      · refine ih2.succ_no fun z => e ⟨z.1, ?_⟩
        cases hb : (ribS (faL t f n c) n (chB f n c) i).1.getD i false with
        | false => rfl
        | true =>
          obtain ⟨_, q, q1, q2, q3⟩ := (ih1 i (by omega)).1 hb; exact absurd q3 (z.2 q q1 q2)
theorem Cnt.union {n : Nat} {P Q : Nat → Prop} {k l : Nat} (hp : Cnt n P k) (hq : Cnt n Q l) (h : ∀ x, x < n → P x → ¬ Q x) : Cnt n (fun x => P x ∨ Q x) (k + l) := by
  obtain ⟨L, h1, h2, h3⟩ := hp; obtain ⟨M, m1, m2, m3⟩ := hq; refine ⟨L ++ M, List.nodup_append.2 ⟨h1, m1, fun a ha b hb e => ?_⟩, fun x => ?_, by rw [List.length_append, h3, m3]⟩
  · subst e
    exact h a ((h2 a).1 ha).1 ((h2 a).1 ha).2 ((m2 a).1 hb).2
  · rw [List.mem_append, h2, m2]
    constructor
    · rintro (⟨a, b⟩ | ⟨a, b⟩)
      · exact ⟨a, .inl b⟩
      · exact ⟨a, .inr b⟩
    · rintro ⟨a, b | b⟩
      · exact .inl ⟨a, b⟩
      · exact .inr ⟨a, b⟩
theorem sides_cl (t f c : List Int) (n : Nat) (H : RibOk t f c n) : Cl n (Reach [sgL t f n c] n) (sidesN t f n c) := by
  obtain ⟨hn, h1, ht, hti, hf, hfl, hc, hcl⟩ := id H; have q1 := (cyS_cnt t n ht hti (chB f n c) n (Nat.le_refl _)).2; have q2 := (ribS_seen t f c n H n (Nat.le_refl _)).2
  -- along a bare cycle both permutations are one
  have bareC : ∀ x, x < n → (∀ y, y < n → chB f n c (y : Int) = true → ¬ Reach [t] n x y) → closedL [sgL t f n c] n (fun z => z < n ∧ Reach [t] n x z) := by
    intro x hx hb
    refine closed_of_fwd _ n (sgL_inR t f n ht hf c) (sgL_inj t f n ht hti hf hfl c) _ fun k hk ⟨_, hr⟩ => ?_
    have hck : ¬ chB f n c (k : Int) = true := fun z => hb k hk z hr
    have tr := ht.2 k hk; rw [sgL_rd t f n c k hk, flC_rd f n c k hk, if_neg hck]; exact ⟨by omega, hr.trans (Reach.step (by simp) hk)⟩
  have u := q1.union q2 (fun x hx a b => (a.2.2 x hx b.2.1) (Reach.refl _ _ _)); obtain ⟨K, hK, _⟩ := Cl.ex n (Reach [sgL t f n c] n)
  have sy : ∀ x y, Reach [sgL t f n c] n x y → Reach [sgL t f n c] n y x := fun x y h => h.symm
  have tr : ∀ x y z, Reach [sgL t f n c] n x y → Reach [sgL t f n c] n y z → Reach [sgL t f n c] n x z := fun x y z h h' => h.trans h'
  have a1 := Cnt.reps _ sy tr hK u (fun x hx hlx => by
    by_cases hh : ∃ y, y < n ∧ chB f n c (y : Int) = true ∧ Reach [sgL t f n c] n x y
    · obtain ⟨y, hy, hcy, hr⟩ := hh
      -- the least chosen one of the class
      have : ∀ y, y < n → chB f n c (y : Int) = true → Reach [sgL t f n c] n x y → ∃ z, z < n ∧ (chB f n c (z : Int) = true ∧ ∀ j : Nat, j < z → chB f n c (j : Int) = true → ¬ Reach [sgL t f n c] n j z) ∧ Reach [sgL t f n c] n x z := by
        intro y
        induction y using Nat.strongRecOn with
        | ind y ih =>
          intro hy hcy hr
          by_cases g : ∃ j, j < y ∧ chB f n c ((j : Nat) : Int) = true ∧ Reach [sgL t f n c] n j y
          · obtain ⟨j, j1, j2, j3⟩ := g
            exact ih j j1 (by omega) j2 (hr.trans j3.symm)
          · exact ⟨y, hy, ⟨hcy, fun j hj hcj hrj => g ⟨j, hj, hcj, hrj⟩⟩, hr⟩
      obtain ⟨z, z1, z2, z3⟩ := this y hy hcy hr; exact ⟨z, z1, .inr ⟨z1, z2⟩, z3⟩
    · -- no chosen one: the class is a bare cycle
      obtain ⟨y, y1, y2, y3⟩ := lst_ex (Reach [t] n) (fun x => Reach.refl _ _ x) (fun _ _ h => h.symm) (fun _ _ _ h h' => h.trans h') x
      have hcS : closedL [t] n (fun z => z < n ∧ Reach [sgL t f n c] n x z) := by
        refine closed_of_fwd t n ht hti _ fun k hk ⟨_, hr⟩ => ?_
        have hck : ¬ chB f n c (k : Int) = true := fun z => hh ⟨k, hk, z, hr⟩
        have st := Reach.step (ps := [sgL t f n c]) (n := n) (p := sgL t f n c) (by simp) hk; rw [sgL_rd t f n c k hk, flC_rd f n c k hk, if_neg hck] at st; have tr := ht.2 k hk; exact ⟨by omega, hr.trans st⟩
      have hxy := (y3 _ hcS).2 ⟨hx, Reach.refl _ _ _⟩; refine ⟨y, hxy.1, .inl ⟨hxy.1, y2, fun z hz hcz hrz => ?_⟩, hxy.2⟩; have := (hrz _ hcS).1 hxy
      exact hh ⟨z, hz, hcz, this.2⟩) (fun x y hx hlx hy hly h => lst_uniq _ sy x y hlx hly h)
  have a2 := Cnt.reps _ sy tr u hK (fun x hx _ => by
    obtain ⟨y, y1, y2, y3⟩ := lst_ex (Reach [sgL t f n c] n) (fun x => Reach.refl _ _ x) sy tr x
    exact ⟨y, by omega, y2, sy _ _ y3⟩) (fun x y hx hpx hy hpy h => by
    rcases hpx with ⟨_, px1, px2⟩ | ⟨_, px1, px2⟩
    · have hcB := bareC x hx px2
      have hxy := (h _ hcB).1 ⟨hx, Reach.refl _ _ _⟩
      rcases hpy with ⟨_, py1, py2⟩ | ⟨_, py1, py2⟩
      · exact lst_uniq _ (fun _ _ h => h.symm) x y px1 py1 hxy.2
      · exact absurd hxy.2 (px2 y hy py1)
    · rcases hpy with ⟨_, py1, py2⟩ | ⟨_, py1, py2⟩
      · have hcB := bareC y hy py2
        have hxy := (h _ hcB).2 ⟨hy, Reach.refl _ _ _⟩; exact absurd hxy.2 (py2 x hx px1)
      · by_cases g1 : x < y
        · exact absurd h (py2 x g1 px1)
        · by_cases g2 : y < x
          · exact absurd h.symm (px2 y g2 py1)
          · omega)
  have : K = sidesN t f n c := Nat.le_antisymm a1 a2; rw [← this]; exact hK
def vt (C : List (List Int)) (n : Nat) : Nat → List Int
  | 0 => List.replicate n 0
  | q + 1 => (rd_L1 C q).foldl (fun o d => o.set d.toNat (q : Int)) (vt C n q)
theorem fold_len (v : Int) : ∀ (l o : List Int), (l.foldl (fun o d => o.set d.toNat v) o).length = o.length
  | [], o => rfl
  | x :: l, o => by
    rw [List.foldl_cons, fold_len v l]
    simp
theorem vt_len (C : List (List Int)) (n : Nat) : ∀ q, (vt C n q).length = n
  | 0 => by simp [vt]
  | q + 1 => by
    simp only [vt]; rw [fold_len, vt_len C n q]
theorem sv_l1 (C : List (List Int)) (n q : Nat) (hn : n ≤ 12) (hq : q < C.length) (hl : (∀ x ∈ rd_L1 C q, 0 ≤ x ∧ x < n) ∧ (rd_L1 C q).length ≤ n + 1) (r : List Int) : ∀ (d i : Nat) (o : List Int), (rd_L1 C q).length - i = d → i ≤ (rd_L1 C q).length → o.length = n →
    Ev (fun k => spec_l7Vertices.l0 k (((rd_L1 C q).drop i).foldl (fun o d => o.set d.toNat (q : Int)) o) C (wrap64 ((q : Int) + 1))) r → Ev (fun k => spec_l7Vertices.l1 k o C q i) r
  | 0, i, o, hd, hi, ho, h => by
    have : i = (rd_L1 C q).length := by omega
    rw [List.drop_eq_nil_of_le (by omega)] at h; refine Ev.s ?_; simp only [spec_l7Vertices.l1, show (0 : Int) ≤ (q : Int) by omega, show (q : Int) < (C.length : Int) by omega, show ¬ (i : Int) < ((rd_L1 C q).length : Int) by omega, if_true, if_false]; exact h
  | d + 1, i, o, hd, hi, ho, h => by
    have hlt : i < (rd_L1 C q).length := by omega
    have e := rd_lt _ i hlt; have hr := hl.1 _ (List.getElem_mem hlt); rw [List.drop_eq_getElem_cons hlt, List.foldl_cons, ← e] at h; rw [← e] at hr; refine Ev.s ?_; simp only [spec_l7Vertices.l1, show (0 : Int) ≤ (q : Int) by omega, show (q : Int) < (C.length : Int) by omega, show (i : Int) < ((rd_L1 C q).length : Int) by omega, show (0 : Int) ≤ (i : Int) by omega, hr.1, ho, hr.2, if_true, w64n (show i < 4611686018427387904 by omega)]; exact sv_l1 C n q hn hq hl r d (i + 1) _ (by omega) (by omega) (by simpa using ho) h
theorem sv_l0 (C : List (List Int)) (n : Nat) (hn : n ≤ 12) (hC : ∀ l ∈ C, (∀ x ∈ l, 0 ≤ x ∧ x < n) ∧ l.length ≤ n + 1) (hCl : C.length ≤ n) : ∀ (d q : Nat), C.length - q = d → q ≤ C.length → Ev (fun k => spec_l7Vertices.l0 k (vt C n q) C q) (vt C n C.length)
  | 0, q, hd, hq => by
    have : q = C.length := by omega
    subst this; refine Ev.s ?_; simp only [spec_l7Vertices.l0, show ¬ (C.length : Int) < (C.length : Int) by omega, if_false]; exact Ev.const rfl
  | d + 1, q, hd, hq => by
    have ih := sv_l0 C n hn hC hCl d (q + 1) (by omega) (by omega); have ok := rdL_ok C _ hC q (by omega); refine Ev.s ?_; simp only [spec_l7Vertices.l0, show (q : Int) < (C.length : Int) by omega, if_true]; refine sv_l1 C n q hn (by omega) ok _ _ 0 _ rfl (by omega) (vt_len C n q) ?_; rw [List.drop_zero, w64n (by omega)]; exact ih
theorem iv_l1 (C : List (List Int)) (n q : Nat) (hn : n ≤ 12) (hq : q < C.length) (hl : (∀ x ∈ rd_L1 C q, 0 ≤ x ∧ x < n) ∧ (rd_L1 C q).length ≤ n + 1) (r : List Int) : ∀ (d i : Nat) (o : List Int), (rd_L1 C q).length - i = d → i ≤ (rd_L1 C q).length → o.length = n →
    Ev (fun k => impl_vertexOf.l0 k (((rd_L1 C q).drop i).foldl (fun o d => o.set d.toNat (q : Int)) o) C C.length (wrap64 ((q : Int) + 1))) r → Ev (fun k => impl_vertexOf.l1 k o q C C.length q (rd_L1 C q) (rd_L1 C q).length i) r
  | 0, i, o, hd, hi, ho, h => by
    have : i = (rd_L1 C q).length := by omega
    rw [List.drop_eq_nil_of_le (by omega)] at h; refine Ev.s ?_; simp only [impl_vertexOf.l1, show ¬ (i : Int) < ((rd_L1 C q).length : Int) by omega, if_true, if_false]; exact h
  | d + 1, i, o, hd, hi, ho, h => by
    have hlt : i < (rd_L1 C q).length := by omega
    have e := rd_lt _ i hlt; have hr := hl.1 _ (List.getElem_mem hlt); rw [List.drop_eq_getElem_cons hlt, List.foldl_cons, ← e] at h; rw [← e] at hr; refine Ev.s ?_; simp only [impl_vertexOf.l1, show (i : Int) < ((rd_L1 C q).length : Int) by omega, show (0 : Int) ≤ (i : Int) by omega, hr.1, ho, hr.2, if_true, w64n (show i < 4611686018427387904 by omega)]; exact iv_l1 C n q hn hq hl r d (i + 1) _ (by omega) (by omega) (by simpa using ho) h
theorem iv_l0 (C : List (List Int)) (n : Nat) (hn : n ≤ 12) (hC : ∀ l ∈ C, (∀ x ∈ l, 0 ≤ x ∧ x < n) ∧ l.length ≤ n + 1) (hCl : C.length ≤ n) : ∀ (d q : Nat), C.length - q = d → q ≤ C.length → Ev (fun k => impl_vertexOf.l0 k (vt C n q) C C.length q) (vt C n C.length)
  | 0, q, hd, hq => by
    have : q = C.length := by omega
    subst this; refine Ev.s ?_; simp only [impl_vertexOf.l0, show ¬ (C.length : Int) < (C.length : Int) by omega, if_false]; exact Ev.const rfl
  | d + 1, q, hd, hq => by
    have ih := iv_l0 C n hn hC hCl d (q + 1) (by omega) (by omega); have ok := rdL_ok C _ hC q (by omega); refine Ev.s ?_; simp only [impl_vertexOf.l0, show (q : Int) < (C.length : Int) by omega, show (0 : Int) ≤ (q : Int) by omega, if_true]; refine iv_l1 C n q hn (by omega) ok _ _ 0 _ rfl (by omega) (vt_len C n q) ?_; rw [List.drop_zero, w64n (by omega)]; exact ih
def vtx (t : List Int) (n : Nat) : List Int := vt (cyS t n n).2 n (cyS t n n).2.length
theorem specVert_ev (t : List Int) (n : Nat) (hn : n ≤ 12) (ht : inR n t) : Ev (fun k => spec_l7Vertices.f k t) (vtx t n) := by
  unfold spec_l7Vertices.f
  rw [ht.1]; simp only [show (0 : Int) ≤ (n : Int) by omega, Int.toNat_natCast, show n ≤ 35184372088832 by omega, if_true]; refine Ev.bind (specCyc_ev t n (by omega) ht) ?_; exact sv_l0 _ n hn (cyS_ok t n ht n (Nat.le_refl _)) (cyS_many t n n) _ 0 rfl (by omega)
theorem implVert_ev (t f : List Int) (n : Nat) (hn : n ≤ 12) (ht : inR n t) : Ev (fun k => impl_vertexOf.f k t f) (vtx t n) := by
  unfold impl_vertexOf.f
  rw [ht.1]; simp only [show (0 : Int) ≤ (n : Int) by omega, Int.toNat_natCast, show n ≤ 35184372088832 by omega, if_true]; refine Ev.bind (implCyc_ev t n (by omega) ht) ?_; exact iv_l0 _ n hn (cyS_ok t n ht n (Nat.le_refl _)) (cyS_many t n n) _ 0 rfl (by omega)
theorem dart_run (f : List Int) (n e a : Nat) (hn : n ≤ 12) (ha : a < n) (h1 : rd (geL f n n) (a : Int) = e) (h2 : ∀ d : Nat, d < a → rd (geL f n n) (d : Int) ≠ e) : ∀ (d i : Nat), a - i = d → i ≤ a → Ev (fun k => spec_l7Dart.l0 k e (geL f n n) i) (a : Int)
  | 0, i, hd, hi => by
    have : i = a := by omega
    subst this; refine Ev.s ?_; simp only [spec_l7Dart.l0, geL_len, show (i : Int) < (n : Int) by omega, show (0 : Int) ≤ (i : Int) by omega, h1, if_true]; exact Ev.const rfl
  | d + 1, i, hd, hi => by
    refine Ev.s ?_; simp only [spec_l7Dart.l0, geL_len, show (i : Int) < (n : Int) by omega, show (0 : Int) ≤ (i : Int) by omega, h2 i (by omega), if_true, if_false, w64n (show i < 4611686018427387904 by omega)]; exact dart_run f n e a hn ha h1 h2 d (i + 1) (by omega) (by omega)
theorem mem_restL (c : List Int) (m : Nat) (x : Int) : x ∈ restL c m ↔ ∃ j : Nat, j < m ∧ x = (j : Int) ∧ (j : Int) ∉ c := by
  unfold restL
  rw [List.mem_map]
  constructor
  · rintro ⟨j, hj, rfl⟩
    rw [List.mem_filter, List.mem_range] at hj; exact ⟨j, hj.1, rfl, by simpa using hj.2⟩
  · rintro ⟨j, h1, rfl, h2⟩
    exact ⟨j, by rw [List.mem_filter, List.mem_range]; exact ⟨h1, by simpa using h2⟩, rfl⟩
theorem choice_of (c : List Int) (m : Int) (h1 : ∀ x ∈ c, 0 ≤ x ∧ x < m) (h2 : c.Pairwise (· < ·)) : isChoice c m := by
  intro i hi; have e := rd_lt c i hi; have h := h1 _ (List.getElem_mem hi); rw [← e] at h; refine ⟨?_, h.2⟩
  cases i with
  | zero => rw [ahead_zero]; omega
  | succ i =>
    rw [ahead_succ, rd_lt c i (by omega), e]; exact List.pairwise_iff_getElem.1 h2 i (i + 1) (by omega) hi (by omega)
theorem restL_choice (c : List Int) (m : Nat) : isChoice (restL c m) m := by
  refine choice_of _ _ (fun x hx => ?_) ?_
  · obtain ⟨j, h1, rfl, _⟩ := (mem_restL c m x).1 hx
    omega
  · unfold restL
    rw [List.pairwise_map]; exact ((List.pairwise_lt_range (n := m)).filter _).imp (fun h => by omega)
theorem pc_cnt (o : List Int) : ∀ n, Cnt n (fun i => (i : Int) = rd o i) (pc o n)
  | 0 => ⟨[], List.nodup_nil, by simp, rfl⟩
  | n + 1 => by
    obtain ⟨L, h1, h2, h3⟩ := pc_cnt o n; simp only [pc]
    by_cases h : (n : Int) = rd o n
    · rw [if_pos h]
      refine ⟨n :: L, List.nodup_cons.2 ⟨fun z => by have := ((h2 n).1 z).1; omega, h1⟩, fun x => ?_, by simp [h3]⟩; rw [List.mem_cons, h2]
      constructor
      · rintro (rfl | ⟨a, b⟩)
        · exact ⟨by omega, h⟩
        · exact ⟨by omega, b⟩
      · rintro ⟨a, b⟩
        by_cases e : x = n
        · exact .inl e
        · exact .inr ⟨by omega, b⟩
    · rw [if_neg h]
      refine ⟨L, h1, fun x => ?_, h3⟩; rw [h2]
      constructor
      · rintro ⟨a, b⟩; exact ⟨by omega, b⟩
      · rintro ⟨a, b⟩
        by_cases e : x = n
        · exact absurd (e ▸ b) h
        · exact ⟨by omega, b⟩
theorem geL_lt (f : List Int) (n : Nat) (hf : inR n f) (hfl : ∀ i : Nat, i < n → flipAt f i) (d : Nat) (hd : d < n) : ∃ j : Nat, j < (edL f n).length ∧ rd (geL f n n) d = (j : Int) := by
  have l := least_lt f n hf hfl d hd; exact ⟨_, edL_lt f _ l.2 n l.1, geL_at f n hf hfl n (Nat.le_refl _) d hd l.1⟩
theorem one_or_two (t f : List Int) (n : Nat) (h1 : 1 ≤ n) (ht : inR n t) (hf : inR n f) (hfl : ∀ i : Nat, i < n → flipAt f i) (hcon : ∀ i j : Nat, i < n → j < n → Reach [t, f] n i j) (e : Nat) (he : e < (edL f n).length) (o : List Int) (ho : orbOk [t, flC f n (restL [(e : Int)] (edL f n).length)] n o) : pc o n = 1 ∨ pc o n = 2 := by
  obtain ⟨a, b, ha, hb, hab, e1, e2, e3, e4⟩ := edge_at f n hf hfl e he
  have hin : ∀ p ∈ [t, flC f n (restL [(e : Int)] (edL f n).length)], inR n p := by
    intro p hp
    rcases List.mem_cons.1 hp with rfl | hp
    · exact ht
    · rw [List.mem_singleton.1 hp]; exact flC_inR f n hf _
  have hS : ∀ z, z < n → Reach [t, flC f n (restL [(e : Int)] (edL f n).length)] n z a ∨ Reach [t, flC f n (restL [(e : Int)] (edL f n).length)] n z b := by
    intro z hz
    have hc : closedL [t, f] n (fun z => Reach [t, flC f n (restL [(e : Int)] (edL f n).length)] n z a ∨ Reach [t, flC f n (restL [(e : Int)] (edL f n).length)] n z b) := by
      intro p hp k hk
      rcases List.mem_cons.1 hp with rfl | hp
      · have s := Reach.step (ps := [p, flC f n (restL [(e : Int)] (edL f n).length)]) (n := n) (p := p) (by simp) hk
        exact ⟨fun h => h.imp (fun h => s.symm.trans h) (fun h => s.symm.trans h), fun h => h.imp (fun h => s.trans h) (fun h => s.trans h)⟩
      · rw [List.mem_singleton.1 hp]
        by_cases ka : k = a
        · subst ka
          rw [e2]; exact ⟨fun _ => .inr (Reach.refl _ _ _), fun _ => .inl (Reach.refl _ _ _)⟩
        · by_cases kb : k = b
          · subst kb
            rw [e3]; exact ⟨fun _ => .inl (Reach.refl _ _ _), fun _ => .inr (Reach.refl _ _ _)⟩
          · have s := Reach.step (ps := [t, flC f n (restL [(e : Int)] (edL f n).length)]) (n := n) (p := flC f n (restL [(e : Int)] (edL f n).length)) (by simp) hk
            obtain ⟨j, j1, j2⟩ := geL_lt f n hf hfl k hk
            have hch : chB f n (restL [(e : Int)] (edL f n).length) k = true := by
              unfold chB
              rw [j2]; refine decide_eq_true ((mem_restL _ _ _).2 ⟨j, j1, rfl, ?_⟩); rw [List.mem_singleton]; intro z; rw [z] at j2; exact ((e4 k hk).1 j2).elim ka kb
            rw [flC_rd f n _ k hk, if_pos hch] at s; exact ⟨fun h => h.imp (fun h => s.symm.trans h) (fun h => s.symm.trans h), fun h => h.imp (fun h => s.trans h) (fun h => s.trans h)⟩
    exact ((hcon z a hz ha) _ hc).2 (.inl (Reach.refl _ _ _))
  obtain ⟨L, l1, l2, l3⟩ := pc_cnt o n; have le2 := len_le_of_sub L [(rd o a).toNat, (rd o b).toNat] l1 (fun x hx => by
    have hx' := (l2 x).1 hx; have h2 : (x : Int) = rd o x := hx'.2
    rcases hS x hx'.1 with h | h
    · have := orbOk_const ho hin h
      rw [this] at h2; simp only [List.mem_cons, List.not_mem_nil, or_false]; omega
    · have := orbOk_const ho hin h
      rw [this] at h2; simp only [List.mem_cons, List.not_mem_nil, or_false]
      omega)
  have h0 := ho.1.2 0 h1; have m0 : 0 ∈ L := (l2 0).2 ⟨h1, by have := h0.1; have := h0.2.1; omega⟩; have := List.length_pos_of_mem m0; simp only [List.length_cons, List.length_nil] at le2; omega
theorem edgeKind_more (t f : List Int) (ht : t.length ≤ 1048576) (hf : f.length ≤ 1048576) (e : Int) : ∃ r : Int, Ev (fun k => spec_EdgeKind.f k t f e) r ∧ Ev (fun k => impl_EdgeKind.f k t f e) r ∧ (r = -1 ∨ 0 ≤ r ∧ isMap t f ∧ 0 ≤ e ∧ e ≤ (f.length : Int) / 2 - 1) := by
  obtain ⟨b, b1, b2, b3⟩ := mapValid_both t f ht hf; have wf : wrap64 ((f.length : Int) / 2) = (f.length : Int) / 2 := w64 (by omega) (by omega); have wf1 : wrap64 ((f.length : Int) / 2 - 1) = (f.length : Int) / 2 - 1 := w64 (by omega) (by omega)
  unfold spec_EdgeKind.f impl_EdgeKind.f
  cases b with
  | false =>
    refine ⟨-1, ?_, ?_, .inl rfl⟩
    · refine Ev.bind b1 ?_
      simp only [Bool.false_eq_true, if_false]; refine Ev.s ?_; simp only [spec_EdgeKind.j0, if_true]; exact Ev.const rfl
    · refine Ev.bind b2 ?_
      simp only [Bool.false_eq_true, if_false]; refine Ev.s ?_; simp only [impl_EdgeKind.j0, if_true]; exact Ev.const rfl
  | true =>
    have hm := b3.1 rfl
    by_cases he : 0 ≤ e ∧ e ≤ (f.length : Int) / 2 - 1
    · have H0 := ribOk_of t f [] hm (fun i hi => by simp at hi) (by simp)
      obtain ⟨hn, h1, ht', hti, hf', hfl, _, _⟩ := H0; have hcon := hm.2.2.2.2; have hh := edL_half f t.length hf' hfl; have hlen := hf'.1; obtain ⟨E, rfl⟩ : ∃ E : Nat, e = (E : Int) := ⟨e.toNat, by omega⟩; obtain ⟨a, a', ha, ha', hab, e1, e2, e3, e4⟩ := edge_at f t.length hf' hfl E (by omega); obtain ⟨a2, _, l2, l3, _⟩ := edL_get f t.length E (by omega)
      have haa : a2 = a := by omega
      subst haa
      have hlt : a2 < a' := by omega
      have hch : isChoice [(E : Int)] ((f.length : Int) / 2) := choice_of _ _ (by simp; omega) (by simp); obtain ⟨r, rb, r1, r2, r3, r4, r5⟩ := choiceRest_both t f [(E : Int)] ht hf (by simp); have hrb : rb = true := r5 ⟨hm, hch⟩; subst hrb; have hr := (r4 rfl).1
      have hHalf : f.length / 2 = (edL f t.length).length := by omega
      rw [hHalf] at hr; subst hr; have hR := ribOk_of t f (restL [(E : Int)] (edL f t.length).length) hm (by rw [show (f.length : Int) / 2 = (((edL f t.length).length : Nat) : Int) by omega]; exact restL_choice _ _) r3; obtain ⟨o, o1, o2, o4⟩ := ribbon_parts t f _ t.length hR; have h12 := one_or_two t f t.length h1 ht' hf' hfl (fun i j hi hj => by have := hcon i j (by omega) (by omega); rwa [hlen] at this) E (by omega) o o1; have vl := vt_len (cyS t t.length t.length).2 t.length (cyS t t.length t.length).2.length; have vl' : (vtx t t.length).length = t.length := vl
      by_cases hv : rd (vtx t t.length) (a2 : Int) = rd (vtx t t.length) (a' : Int)
      · refine ⟨2, ?_, ?_, .inr ⟨by decide, hm, he⟩⟩
        · refine Ev.bind b1 ?_
          simp only [if_true, wf, wf1, l6In_eq, Option.bind_some, he, decide_true, and_self, Bool.not_true]; refine Ev.s ?_; simp only [spec_EdgeKind.j0, Bool.false_eq_true, if_false]; refine Ev.bind (Ev.bind (specEdges_ev t.length (by omega) t f hf') (dart_run f t.length E a2 hn ha ((e4 a2 ha).2 (.inl rfl)) (fun d hd z => by rcases (e4 d (by omega)).1 z with h | h <;> omega) _ 0 rfl (by omega))) ?_; refine Ev.bind (specVert_ev t t.length hn ht') ?_; simp only [show (0 : Int) ≤ (a2 : Int) by omega, vl', show (a2 : Int) < (t.length : Int) by omega, hlen, e2, show (0 : Int) ≤ (a' : Int) by omega, show (a' : Int) < (t.length : Int) by omega, hv, if_true]; exact Ev.const rfl
        · refine Ev.bind b2 ?_
          simp only [if_true, show ¬ (E : Int) < 0 by omega, if_false, wf, show ¬ (E : Int) ≥ (f.length : Int) / 2 by omega, decide_false]; refine Ev.s ?_; simp only [impl_EdgeKind.j0, Bool.false_eq_true, if_false]; refine Ev.bind (implEdges_ev t.length (by omega) t f hf') ?_; simp only [show (0 : Int) ≤ (E : Int) by omega, show (E : Int) < ((edL f t.length).length : Int) by omega, if_true]; refine Ev.bind (implVert_ev t f t.length hn ht') ?_; simp only [e1, show (0 : Int) ≤ (a2 : Int) by omega, vl', show (a2 : Int) < (t.length : Int) by omega, hlen, e2, show (0 : Int) ≤ (a' : Int) by omega, show (a' : Int) < (t.length : Int) by omega, hv, if_true]; exact Ev.const rfl
      · refine ⟨wrap64 ((pc o t.length : Int) - 1), ?_, ?_, .inr ⟨by rcases h12 with h | h <;> rw [h] <;> simp [wrap64], hm, he⟩⟩
        · refine Ev.bind b1 ?_
          simp only [if_true, wf, wf1, l6In_eq, Option.bind_some, he, decide_true, and_self, Bool.not_true]; refine Ev.s ?_; simp only [spec_EdgeKind.j0, Bool.false_eq_true, if_false]; refine Ev.bind (Ev.bind (specEdges_ev t.length (by omega) t f hf') (dart_run f t.length E a2 hn ha ((e4 a2 ha).2 (.inl rfl)) (fun d hd z => by rcases (e4 d (by omega)).1 z with h | h <;> omega) _ 0 rfl (by omega))) ?_; refine Ev.bind (specVert_ev t t.length hn ht') ?_; simp only [show (0 : Int) ≤ (a2 : Int) by omega, vl', show (a2 : Int) < (t.length : Int) by omega, hlen, e2, show (0 : Int) ≤ (a' : Int) by omega, show (a' : Int) < (t.length : Int) by omega, hv, if_true, if_false]; refine Ev.bind r1 ?_; exact Ev.bind o2 (Ev.const rfl)
        · refine Ev.bind b2 ?_
          simp only [if_true, show ¬ (E : Int) < 0 by omega, if_false, wf, show ¬ (E : Int) ≥ (f.length : Int) / 2 by omega, decide_false]; refine Ev.s ?_; simp only [impl_EdgeKind.j0, Bool.false_eq_true, if_false]; refine Ev.bind (implEdges_ev t.length (by omega) t f hf') ?_; simp only [show (0 : Int) ≤ (E : Int) by omega, show (E : Int) < ((edL f t.length).length : Int) by omega, if_true]; refine Ev.bind (implVert_ev t f t.length hn ht') ?_; simp only [e1, show (0 : Int) ≤ (a2 : Int) by omega, vl', show (a2 : Int) < (t.length : Int) by omega, hlen, e2, show (0 : Int) ≤ (a' : Int) by omega, show (a' : Int) < (t.length : Int) by omega, hv, if_true, if_false]; refine Ev.bind r2 ?_; refine Ev.bind o4 ?_
          have e0 : ∀ P S V c : Int, rd (fiveN P S V c) 0 = P := fun _ _ _ _ => rfl
          simp only [five_len, show (0 : Int) < ((5 : Nat) : Int) by omega, if_true, e0]
          rcases h12 with h | h
          · rw [h]
            exact Ev.const (by simp [wrap64])
          · rw [h]
            exact Ev.const (by simp [wrap64])
    · refine ⟨-1, ?_, ?_, .inl rfl⟩
      · refine Ev.bind b1 ?_
        simp only [if_true, wf, wf1, l6In_eq, Option.bind_some, he, decide_false, Bool.not_false]; refine Ev.s ?_; simp only [spec_EdgeKind.j0, if_true]; exact Ev.const rfl
      · refine Ev.bind b2 ?_
        simp only [if_true]
        by_cases e0 : e < 0
        · simp only [e0, if_true]
          refine Ev.s ?_; simp only [impl_EdgeKind.j0, if_true]; exact Ev.const rfl
        · simp only [e0, if_false, wf, show e ≥ (f.length : Int) / 2 by omega, decide_true]
          refine Ev.s ?_; simp only [impl_EdgeKind.j0, if_true]; exact Ev.const rfl
def MapOk (t f : List Int) (n : Nat) : Prop := n ≤ 12 ∧ 1 ≤ n ∧ inR n t ∧ injR n t ∧ inR n f ∧ (∀ i : Nat, i < n → flipAt f i) ∧ ∀ i j : Nat, i < n → j < n → Reach [t, f] n i j
theorem mapOk_of (t f : List Int) (h : isMap t f) : MapOk t f t.length := by
  obtain ⟨hn, h1, ht, hti, hf, hfl, _, _⟩ := ribOk_of t f [] h (fun i hi => by simp at hi) (by simp); exact ⟨hn, h1, ht, hti, hf, hfl, by have := h.2.2.2.2; rwa [← h.2.2.1] at this⟩
theorem MapOk.rib {t f : List Int} {n : Nat} (h : MapOk t f n) {c : List Int} (hc : isChoice c ((edL f n).length : Int)) (hcl : c.length ≤ 1048576) : RibOk t f c n :=
  ⟨h.1, h.2.1, h.2.2.1, h.2.2.2.1, h.2.2.2.2.1, h.2.2.2.2.2.1, hc, hcl⟩
theorem chB_congr (f : List Int) (n : Nat) (c c' : List Int) (h : ∀ d : Nat, d < n → chB f n c (d : Int) = chB f n c' (d : Int)) : flC f n c = flC f n c' := by
  refine list_ext _ _ (by rw [flC_len, flC_len]) fun d hd => ?_
  rw [flC_len] at hd; rw [flC_rd f n c d hd, flC_rd f n c' d hd, h d hd]
theorem sgL_congr (t f : List Int) (n : Nat) (c c' : List Int) (h : flC f n c = flC f n c') : sgL t f n c = sgL t f n c' := by
  unfold sgL
  rw [h]
theorem mem_congr (f : List Int) (n : Nat) (c c' : List Int) (h : ∀ x, x ∈ c ↔ x ∈ c') : flC f n c = flC f n c' :=
  chB_congr f n c c' fun d _ => by unfold chB; rw [Bool.eq_iff_iff, decide_eq_true_eq, decide_eq_true_eq]; exact h _
theorem parts_cl (t f c : List Int) (n : Nat) (h1 : 1 ≤ n) (ht : inR n t) (hf : inR n f) (o : List Int) (ho : orbOk [t, flC f n c] n o) : Cl n (Reach [t, flC f n c] n) (pc o n) := by
  have hin : ∀ p ∈ [t, flC f n c], inR n p := by
    intro p hp
    rcases List.mem_cons.1 hp with rfl | hp
    · exact ht
    · rw [List.mem_singleton.1 hp]; exact flC_inR f n hf _
  refine (pc_cnt o n).congr fun x hx => ⟨fun h j hj hr => ?_, fun h => ?_⟩
  · have h1 := orbOk_const ho hin hr
    have h2 := ho.1.2 j (by omega); have h : (x : Int) = rd o x := h; omega
  · have h2 := ho.1.2 x hx
    by_cases e : rd o x = x
    · exact e.symm
    · exact absurd h2.2.2 (h _ (by omega))
theorem sg_flC (t f c : List Int) (n : Nat) (hf : inR n f) (x y : Nat) (h : Reach [sgL t f n c] n x y) : Reach [t, flC f n c] n x y := by
  intro S hS
  refine h S fun p hp k hk => ?_
  rw [List.mem_singleton.1 hp, sgL_rd t f n c k hk]; have fr := (flC_inR f n hf c).2 k hk; have h1 := hS (flC f n c) (by simp) k hk; have h2 := hS t (by simp) (rd (flC f n c) k).toNat (by omega); rw [show (((rd (flC f n c) k).toNat : Nat) : Int) = rd (flC f n c) k by omega] at h2; exact h1.trans h2
theorem add_edge (t f : List Int) (n : Nat) (H : MapOk t f n) (c : List Int) (e : Nat) (he : e < (edL f n).length) (hec : (e : Int) ∉ c) (a b : Nat) (ha : a < n) (hb : b < n) (hab : a ≠ b) (e2 : rd f a = b) (e3 : rd f b = a) (e4 : ∀ d : Nat, d < n → (rd (geL f n n) (d : Int) = e ↔ d = a ∨ d = b))
    (P S P' S' : Nat) (hP : Cl n (Reach [t, flC f n c] n) P) (hS : Cl n (Reach [sgL t f n c] n) S) (hP' : Cl n (Reach [t, flC f n (c ++ [(e : Int)])] n) P') (hS' : Cl n (Reach [sgL t f n (c ++ [(e : Int)])] n) S') :
    (Reach [t, flC f n c] n a b → P' = P) ∧ (¬ Reach [t, flC f n c] n a b → P' + 1 = P) ∧ (¬ Reach [sgL t f n c] n a b → S' + 1 = S) ∧ (Reach [sgL t f n c] n a b → S' = S + 1) := by
  obtain ⟨hn, h1, ht, hti, hf, hfl, hcon⟩ := id H
  have chA : ∀ d : Nat, d < n → chB f n (c ++ [(e : Int)]) (d : Int) = (chB f n c (d : Int) || decide (d = a ∨ d = b)) := by
    intro d hd
    unfold chB
    rw [Bool.eq_iff_iff, Bool.or_eq_true, decide_eq_true_eq, decide_eq_true_eq, decide_eq_true_eq, List.mem_append, List.mem_singleton, e4 d hd]
  have un : ∀ d : Nat, d < n → d = a ∨ d = b → chB f n c (d : Int) = false := by
    intro d hd h
    unfold chB
    rw [(e4 d hd).2 h]; exact decide_eq_false hec
  have fa : rd (flC f n c) a = a := by rw [flC_rd f n c a ha, un a ha (.inl rfl)]; simp
  have fb : rd (flC f n c) b = b := by rw [flC_rd f n c b hb, un b hb (.inr rfl)]; simp
  have fa' : rd (flC f n (c ++ [(e : Int)])) a = b := by rw [flC_rd f n _ a ha, chA a ha]; simp [e2]
  have fb' : rd (flC f n (c ++ [(e : Int)])) b = a := by rw [flC_rd f n _ b hb, chA b hb]; simp [e3]
  have fo : ∀ d : Nat, d < n → d ≠ a → d ≠ b → rd (flC f n (c ++ [(e : Int)])) d = rd (flC f n c) d := by
    intro d hd ka kb; rw [flC_rd f n _ d hd, flC_rd f n _ d hd, chA d hd]
    simp [ka, kb]
  have rel : ∀ x y, Reach [t, flC f n (c ++ [(e : Int)])] n x y ↔ Reach [t, flC f n c] n x y ∨ (Reach [t, flC f n c] n x a ∧ Reach [t, flC f n c] n b y) ∨ (Reach [t, flC f n c] n x b ∧ Reach [t, flC f n c] n a y) := by
    have up : ∀ x y, Reach [t, flC f n c] n x y → Reach [t, flC f n (c ++ [(e : Int)])] n x y := by
      intro x y h S hS
      refine h S fun p hp k hk => ?_
      rcases List.mem_cons.1 hp with rfl | hp
      · exact hS p (by simp) k hk
      · rw [List.mem_singleton.1 hp]
        by_cases ka : k = a
        · subst ka; rw [fa, Int.toNat_natCast]
        · by_cases kb : k = b
          · subst kb; rw [fb, Int.toNat_natCast]
          · rw [← fo k hk ka kb]
            exact hS _ (by simp) k hk
    have uab : Reach [t, flC f n (c ++ [(e : Int)])] n a b := by
      have := Reach.step (ps := [t, flC f n (c ++ [(e : Int)])]) (n := n) (p := flC f n (c ++ [(e : Int)])) (by simp) ha
      rwa [fa', Int.toNat_natCast] at this
    intro x y
    constructor
    · intro h
      refine (h (fun z => Reach [t, flC f n c] n x z ∨ (Reach [t, flC f n c] n x a ∧ Reach [t, flC f n c] n b z) ∨ (Reach [t, flC f n c] n x b ∧ Reach [t, flC f n c] n a z)) ?_).1 (.inl (Reach.refl _ _ _)); intro p hp k hk
      rcases List.mem_cons.1 hp with rfl | hp
      · have s := Reach.step (ps := [p, flC f n c]) (n := n) (p := p) (by simp) hk
        constructor
        · rintro (z | ⟨z1, z2⟩ | ⟨z1, z2⟩)
          · exact .inl (z.trans s)
          · exact .inr (.inl ⟨z1, z2.trans s⟩)
          · exact .inr (.inr ⟨z1, z2.trans s⟩)
        · rintro (z | ⟨z1, z2⟩ | ⟨z1, z2⟩)
          · exact .inl (z.trans s.symm)
          · exact .inr (.inl ⟨z1, z2.trans s.symm⟩)
          · exact .inr (.inr ⟨z1, z2.trans s.symm⟩)
      · rw [List.mem_singleton.1 hp]
        by_cases ka : k = a
        · subst ka
          rw [fa', Int.toNat_natCast]
          constructor
          · rintro (z | ⟨z1, z2⟩ | ⟨z1, z2⟩)
            · exact .inr (.inl ⟨z, Reach.refl _ _ _⟩)
            · exact .inr (.inl ⟨z1, Reach.refl _ _ _⟩)
            · exact .inl z1
          · rintro (z | ⟨z1, z2⟩ | ⟨z1, z2⟩)
            · exact .inr (.inr ⟨z, Reach.refl _ _ _⟩)
            · exact .inl z1
            · exact .inr (.inr ⟨z1, Reach.refl _ _ _⟩)
        · by_cases kb : k = b
          · subst kb
            rw [fb', Int.toNat_natCast]
            constructor
            · rintro (z | ⟨z1, z2⟩ | ⟨z1, z2⟩)
              · exact .inr (.inr ⟨z, Reach.refl _ _ _⟩)
              · exact .inl z1
              · exact .inr (.inr ⟨z1, Reach.refl _ _ _⟩)
            · rintro (z | ⟨z1, z2⟩ | ⟨z1, z2⟩)
              · exact .inr (.inl ⟨z, Reach.refl _ _ _⟩)
              · exact .inr (.inl ⟨z1, Reach.refl _ _ _⟩)
              · exact .inl z1
          · have s := Reach.step (ps := [t, flC f n c]) (n := n) (p := flC f n c) (by simp) hk
            rw [fo k hk ka kb]
            constructor
            · rintro (z | ⟨z1, z2⟩ | ⟨z1, z2⟩)
              · exact .inl (z.trans s)
              · exact .inr (.inl ⟨z1, z2.trans s⟩)
              · exact .inr (.inr ⟨z1, z2.trans s⟩)
            · rintro (z | ⟨z1, z2⟩ | ⟨z1, z2⟩)
              · exact .inl (z.trans s.symm)
              · exact .inr (.inl ⟨z1, z2.trans s.symm⟩)
              · exact .inr (.inr ⟨z1, z2.trans s.symm⟩)
    · rintro (z | ⟨z1, z2⟩ | ⟨z1, z2⟩)
      · exact up _ _ z
      · exact (up _ _ z1).trans (uab.trans (up _ _ z2))
      · exact (up _ _ z1).trans (uab.symm.trans (up _ _ z2))
  have ex : Exch n (sgL t f n c) (sgL t f n (c ++ [(e : Int)])) a b := by
    refine ⟨ha, hb, hab, ?_, ?_, fun x hx ka kb => ?_⟩
    · rw [sgL_rd t f n _ a ha, sgL_rd t f n _ b hb, fa', fb]
    · rw [sgL_rd t f n _ a ha, sgL_rd t f n _ b hb, fb', fa]
    · rw [sgL_rd t f n _ x hx, sgL_rd t f n _ x hx, fo x hx ka kb]
  have xc := exch_count (sgL_inR t f n ht hf c) (sgL_inR t f n ht hf _) (sgL_inj t f n ht hti hf hfl c) (sgL_inj t f n ht hti hf hfl _) ex hS hS'; refine ⟨fun h => ?_, fun h => ?_, xc.1, xc.2⟩
  · refine Cnt.same hP' hP fun x hx => ?_
    have : ∀ i, Reach [t, flC f n (c ++ [(e : Int)])] n i x ↔ Reach [t, flC f n c] n i x := fun i => by
      rw [rel]; exact ⟨fun z => z.elim id (fun z => z.elim (fun z => z.1.trans (h.trans z.2)) (fun z => z.1.trans (h.symm.trans z.2))), .inl⟩
    exact ⟨fun z i hi hr => z i hi ((this i).2 hr), fun z i hi hr => z i hi ((this i).1 hr)⟩
  · have := Cl.merge (S := Reach [t, flC f n (c ++ [(e : Int)])] n) (fun x => Reach.refl _ _ x) (fun _ _ h => h.symm) (fun _ _ _ h h' => h.trans h') hP a b ha hb h rel
    have u := Cl.uniq hP' this.2; omega
def Gen (t f : List Int) (n : Nat) (c : List Int) (K g : Nat) : Prop := ∃ P S V, Cl n (Reach [t, flC f n c] n) P ∧ Cl n (Reach [sgL t f n c] n) S ∧ Cl n (Reach [t] n) V ∧ 2 * P + K = V + S + 2 * g ∧ V ≤ K + P
theorem flC_nil (f : List Int) (n : Nat) : flC f n [] = stl n := by
  have := flC_zero f n []
  simpa using this
theorem gen_nil (t f : List Int) (n : Nat) (H : MapOk t f n) : Gen t f n [] 0 0 := by
  obtain ⟨hn, h1, ht, hti, hf, hfl, hcon⟩ := id H; obtain ⟨V, hV, _⟩ := Cl.ex n (Reach [t] n)
  have e1 : ∀ x y, Reach [t, flC f n []] n x y ↔ Reach [t] n x y := by
    intro x y
    constructor
    · intro h S hS
      refine h S fun p hp k hk => ?_
      rcases List.mem_cons.1 hp with rfl | hp
      · exact hS p (by simp) k hk
      · rw [List.mem_singleton.1 hp, flC_nil, stl_rd n k hk, Int.toNat_natCast]
    · intro h S hS
      exact h S fun p hp k hk => by rw [List.mem_singleton.1 hp]; exact hS t (by simp) k hk
  have e2 : sgL t f n [] = t := by
    refine list_ext _ _ (by rw [sgL_len, ht.1]) fun d hd => ?_
    rw [sgL_len] at hd; rw [sgL_rd t f n [] d hd, flC_nil, stl_rd n d hd]
  refine ⟨V, V, V, ?_, by rw [e2]; exact hV, hV, by omega, by omega⟩
  exact Cnt.congr hV fun x hx => ⟨fun z i hi hr => z i hi ((e1 i x).1 hr), fun z i hi hr => z i hi ((e1 i x).2 hr)⟩
theorem gen_step (t f : List Int) (n : Nat) (H : MapOk t f n) (c : List Int) (K g : Nat) (hG : Gen t f n c K g) (e : Nat) (he : e < (edL f n).length) (hec : (e : Int) ∉ c) : ∃ g', g ≤ g' ∧ Gen t f n (c ++ [(e : Int)]) (K + 1) g' := by
  obtain ⟨hn, h1, ht, hti, hf, hfl, hcon⟩ := id H; obtain ⟨P, S, V, hP, hS, hV, g1, g2⟩ := hG; obtain ⟨a, b, ha, hb, hab, _, e2, e3, e4⟩ := edge_at f n hf hfl e he; obtain ⟨P', hP', _⟩ := Cl.ex n (Reach [t, flC f n (c ++ [(e : Int)])] n); obtain ⟨S', hS', _⟩ := Cl.ex n (Reach [sgL t f n (c ++ [(e : Int)])] n); obtain ⟨x1, x2, x3, x4⟩ := add_edge t f n H c e he hec a b ha hb hab e2 e3 e4 P S P' S' hP hS hP' hS'
  by_cases r : Reach [t, flC f n c] n a b
  · have p1 := x1 r
    by_cases q : Reach [sgL t f n c] n a b
    · have s1 := x4 q
      exact ⟨g, Nat.le_refl _, P', S', V, hP', hS', hV, by omega, by omega⟩
    · have s1 := x3 q
      exact ⟨g + 1, by omega, P', S', V, hP', hS', hV, by omega, by omega⟩
  · have p1 := x2 r
    have s1 := x3 fun q => r (sg_flC t f c n hf a b q)
    exact ⟨g, Nat.le_refl _, P', S', V, hP', hS', hV, by omega, by omega⟩
theorem gen_run (t f : List Int) (n : Nat) (H : MapOk t f n) : ∀ (L c : List Int) (K g : Nat), Gen t f n c K g → L.Nodup → (∀ x ∈ L, 0 ≤ x ∧ x < (edL f n).length ∧ x ∉ c) → ∃ g', g ≤ g' ∧ Gen t f n (c ++ L) (K + L.length) g'
  | [], c, K, g, hG, _, _ => ⟨g, Nat.le_refl _, by simpa using hG⟩
  | x :: L, c, K, g, hG, hN, hL => by
    obtain ⟨n1, n2⟩ := List.nodup_cons.1 hN; have hx := hL x (by simp)
    have ex : ((x.toNat : Nat) : Int) = x := by omega
    obtain ⟨g1, l1, G1⟩ := gen_step t f n H c K g hG x.toNat (by omega) (by rw [ex]; exact hx.2.2); rw [ex] at G1; obtain ⟨g2, l2, G2⟩ := gen_run t f n H L (c ++ [x]) (K + 1) g1 G1 n2 (fun y hy => by
      have := hL y (by simp [hy]); refine ⟨this.1, this.2.1, fun z => ?_⟩; rw [List.mem_append, List.mem_singleton] at z; exact z.elim this.2.2 (fun z => n1 (z ▸ hy)))
    refine ⟨g2, by omega, ?_⟩; rw [List.append_assoc, List.singleton_append] at G2; rw [List.length_cons, show K + (L.length + 1) = K + 1 + L.length by omega]; exact G2
theorem gen_uniq {t f : List Int} {n : Nat} {c : List Int} {K g P S V : Nat} (hG : Gen t f n c K g) (hP : Cl n (Reach [t, flC f n c] n) P) (hS : Cl n (Reach [sgL t f n c] n) S) (hV : Cl n (Reach [t] n) V) : 2 * P + K = V + S + 2 * g ∧ V ≤ K + P := by
  obtain ⟨P', S', V', p, s, v, h1, h2⟩ := hG; rw [Cl.uniq hP p, Cl.uniq hS s, Cl.uniq hV v]; exact ⟨h1, h2⟩
theorem choice_nodup (c : List Int) (m : Int) (hc : isChoice c m) : c.Nodup := by
  rw [List.Nodup, List.pairwise_iff_getElem]; intro i j hi hj hij e; have := asc_mono c m hc j i hj hij; rw [rd_lt c i hi, rd_lt c j hj, e] at this; omega
theorem choice_mem (c : List Int) (m : Int) (hc : isChoice c m) (x : Int) (hx : x ∈ c) : 0 ≤ x ∧ x < m := by
  obtain ⟨i, hi, rfl⟩ := List.getElem_of_mem hx; have := choice_range c m hc i hi
  rwa [rd_lt c i hi] at this
def faces (t f : List Int) (n : Nat) : List Int := (List.range n).map fun (d : Nat) => rd t (rd f (d : Int))
theorem faces_len (t f : List Int) (n : Nat) : (faces t f n).length = n := by simp [faces]
theorem faces_rd (t f : List Int) (n d : Nat) (h : d < n) : rd (faces t f n) (d : Int) = rd t (rd f (d : Int)) := by
  rw [rd_lt _ _ (by simp [faces]; exact h)]
  simp [faces]
theorem flC_all (f : List Int) (n : Nat) (hf : inR n f) (hfl : ∀ i : Nat, i < n → flipAt f i) (c : List Int) (hc : ∀ j : Nat, j < (edL f n).length → (j : Int) ∈ c) : flC f n c = f := by
  refine list_ext _ _ (by rw [flC_len, hf.1]) fun d hd => ?_
  rw [flC_len] at hd; obtain ⟨j, j1, j2⟩ := geL_lt f n hf hfl d hd
  have : chB f n c (d : Int) = true := by
    unfold chB
    rw [j2]; exact decide_eq_true (hc j j1)
  rw [flC_rd f n c d hd, if_pos this]
theorem sgL_all (t f : List Int) (n : Nat) (c : List Int) (h : flC f n c = f) : sgL t f n c = faces t f n := by
  unfold sgL faces
  rw [h]
theorem rest_count (c : List Int) (m : Nat) (hc : isChoice c m) : (restL c m).length + c.length = m := by
  have h1 := len_le_of_sub ((restL c m).map Int.toNat ++ c.map Int.toNat) (List.range m) ?_ ?_
  · have h2 := len_le_of_sub (List.range m) ((restL c m).map Int.toNat ++ c.map Int.toNat) List.nodup_range ?_
    · simp only [List.length_append, List.length_map, List.length_range] at h1 h2
      omega
    · intro x hx
      rw [List.mem_range] at hx; rw [List.mem_append, List.mem_map, List.mem_map]
      by_cases e : (x : Int) ∈ c
      · exact .inr ⟨_, e, by omega⟩
      · exact .inl ⟨x, (mem_restL c m _).2 ⟨x, hx, rfl, e⟩, by omega⟩
  · have inj : ∀ L : List Int, L.Nodup → (∀ x ∈ L, 0 ≤ x) → (L.map Int.toNat).Nodup := by
      intro L hL h0; rw [List.Nodup, List.pairwise_map]; refine List.Pairwise.imp_of_mem ?_ hL; intro a b ha hb hab e; have := h0 a ha; have := h0 b hb; omega
    refine List.nodup_append.2 ⟨inj _ (choice_nodup _ _ (restL_choice c m)) (fun x hx => (choice_mem _ _ (restL_choice c m) x hx).1), inj _ (choice_nodup _ _ hc) (fun x hx => (choice_mem _ _ hc x hx).1), ?_⟩; intro a ha b hb e; obtain ⟨x, hx, rfl⟩ := List.mem_map.1 ha; obtain ⟨y, hy, rfl⟩ := List.mem_map.1 hb; obtain ⟨j, j1, rfl, j2⟩ := (mem_restL c m x).1 hx; have := (choice_mem _ _ hc y hy).1; exact j2 (by rw [show (j : Int) = y by omega]; exact hy)
  · intro x hx
    rw [List.mem_append, List.mem_map, List.mem_map] at hx; rw [List.mem_range]
    rcases hx with ⟨y, hy, rfl⟩ | ⟨y, hy, rfl⟩
    · have := choice_mem _ _ (restL_choice c m) y hy
      omega
    · have := choice_mem _ _ hc y hy
      omega
theorem five_math (t f c : List Int) (n : Nat) (H : MapOk t f n) (hc : isChoice c ((edL f n).length : Int)) (P S V F : Nat) (hP : Cl n (Reach [t, flC f n c] n) P) (hS : Cl n (Reach [sgL t f n c] n) S) (hV : Cl n (Reach [t] n) V) (hF : Cl n (Reach [faces t f n] n) F) :
    ∃ g G : Nat, 2 * P + c.length = V + S + 2 * g ∧ V ≤ c.length + P ∧ g ≤ G ∧ 2 + (edL f n).length = V + F + 2 * G := by
  obtain ⟨hn, h1, ht, hti, hf, hfl, hcon⟩ := id H; obtain ⟨g, _, G1⟩ := gen_run t f n H c [] 0 0 (gen_nil t f n H) (choice_nodup _ _ hc) (fun x hx => by have := choice_mem _ _ hc x hx; exact ⟨this.1, this.2, by simp⟩); rw [List.nil_append, Nat.zero_add] at G1; obtain ⟨u1, u2⟩ := gen_uniq G1 hP hS hV; obtain ⟨G, l2, G2⟩ := gen_run t f n H (restL c (edL f n).length) c c.length g G1 (choice_nodup _ _ (restL_choice _ _)) (fun x hx => by
    have := choice_mem _ _ (restL_choice c (edL f n).length) x hx; obtain ⟨j, _, rfl, j2⟩ := (mem_restL _ _ x).1 hx; exact ⟨this.1, this.2, j2⟩)
  have ea : flC f n (c ++ restL c (edL f n).length) = f := flC_all f n hf hfl _ fun j hj => by
    rw [List.mem_append]
    by_cases e : (j : Int) ∈ c
    · exact .inl e
    · exact .inr ((mem_restL _ _ _).2 ⟨j, hj, rfl, e⟩)
  have cnt := rest_count c (edL f n).length hc
  have one : Cl n (Reach [t, flC f n (c ++ restL c (edL f n).length)] n) 1 := by
    rw [ea]; refine ⟨[0], by simp, fun x => ?_, rfl⟩; rw [List.mem_singleton]
    constructor
    · rintro rfl
      exact ⟨by omega, fun i hi _ => by omega⟩
    · rintro ⟨hx, hl⟩
      by_cases e : x = 0
      · exact e
      · exact absurd (hcon 0 x (by omega) hx) (hl 0 (by omega))
  obtain ⟨v1, v2⟩ := gen_uniq G2 one (by rw [sgL_all t f n _ ea]; exact hF) hV; exact ⟨g, G, u1, u2, l2, by omega⟩
theorem perm_of (l : List Int) (n : Nat) (h1 : 1 ≤ n) (h12 : n ≤ 12) (hl : inR n l) (hi : injR n l) : isPerm l := by
  refine ⟨by rw [hl.1]; exact h1, by rw [hl.1]; exact h12, fun i hi' => ?_⟩; rw [hl.1] at hi'; have := hl.2 i hi'; refine ⟨this.1, by rw [hl.1]; exact this.2, fun k hk e => ?_⟩; have := hi k i (by omega) hi' e; omega
theorem flip_inj (f : List Int) (n : Nat) (hf : inR n f) (hfl : ∀ i : Nat, i < n → flipAt f i) : injR n f := by
  intro i j hi hj e; have h1 := (hfl i hi).2; rw [e, (hfl j hj).2] at h1; omega
theorem isMap_of {t f : List Int} {n : Nat} (H : MapOk t f n) : isMap t f := by
  obtain ⟨hn, h1, ht, hti, hf, hfl, hcon⟩ := H; refine ⟨perm_of t n h1 hn ht hti, perm_of f n h1 hn hf (flip_inj f n hf hfl), by rw [ht.1, hf.1], ?_, ?_⟩
  · rw [hf.1]; exact hfl
  · rw [hf.1]; exact hcon
theorem faces_inR (t f : List Int) (n : Nat) (ht : inR n t) (hf : inR n f) : inR n (faces t f n) := by
  refine ⟨faces_len t f n, fun i hi => ?_⟩; rw [faces_rd t f n i hi]; have h1 := hf.2 i hi; have h2 := ht.2 (rd f i).toNat (by omega)
  rwa [show (((rd f i).toNat : Nat) : Int) = rd f i by omega] at h2
theorem faces_inj (t f : List Int) (n : Nat) (ht : inR n t) (hti : injR n t) (hf : inR n f) (hfl : ∀ i : Nat, i < n → flipAt f i) : injR n (faces t f n) := by
  intro i j hi hj e; rw [faces_rd t f n i hi, faces_rd t f n j hj] at e; have h1 := hf.2 i hi; have h2 := hf.2 j hj
  have e1 : (((rd f i).toNat : Nat) : Int) = rd f i := by omega
  have e2 : (((rd f j).toNat : Nat) : Int) = rd f j := by omega
  rw [← e1, ← e2] at e; have := hti _ _ (by omega) (by omega) e; exact flip_inj f n hf hfl i j hi hj (by omega)
theorem chB_rest (f : List Int) (n : Nat) (hf : inR n f) (hfl : ∀ i : Nat, i < n → flipAt f i) (c : List Int) (d : Nat) (hd : d < n) : chB f n (restL c (edL f n).length) (d : Int) = !chB f n c (d : Int) := by
  obtain ⟨j, j1, j2⟩ := geL_lt f n hf hfl d hd
  unfold chB
  rw [j2]
  by_cases e : (j : Int) ∈ c
  · rw [decide_eq_true e]
    exact decide_eq_false fun z => by
      obtain ⟨q, _, e1, e2⟩ := (mem_restL _ _ _).1 z; exact e2 (e1 ▸ e)
  · rw [decide_eq_false e]
    exact decide_eq_true ((mem_restL _ _ _).2 ⟨j, j1, rfl, e⟩)
theorem surj (t : List Int) (n : Nat) (ht : inR n t) (hti : injR n t) (i : Nat) (hi : i < n) : ∃ j : Nat, j < n ∧ rd t j = i := by
  obtain ⟨k, _, h2⟩ := itr_back t n ht hti i (by omega); have hin := itr_in t n ht k i (by omega); refine ⟨(itr t k i).toNat, by omega, ?_⟩; rw [show (((itr t k i).toNat : Nat) : Int) = itr t k i by omega]; have := itr_add t k 1 (i : Int); rw [h2] at this; exact this.symm
theorem mulF_run (t f : List Int) (n : Nat) (hn : n ≤ 12) (ht : inR n t) (hf : inR n f) : ∀ (d i : Nat), n - i = d → i ≤ n → Ev (fun k => impl_mul.l0 k t (mixL (faces t f n) (List.replicate n 0) n i) f n i) (faces t f n)
  | 0, i, hd, hi => by
    have : i = n := by omega
    subst this; refine Ev.s ?_; simp only [impl_mul.l0, show ¬ (i : Int) < (i : Int) by omega, if_false]; rw [mixL_all _ _ _ (faces_len t f i)]; exact Ev.const rfl
  | d + 1, i, hd, hi => by
    have ih := mulF_run t f n hn ht hf d (i + 1) (by omega) (by omega); have fr := hf.2 i (by omega); have fe := faces_rd t f n i (by omega); refine Ev.s ?_; simp only [impl_mul.l0, hf.1, ht.1, mixL_len, show (i : Int) < (n : Int) by omega, show (0 : Int) ≤ (i : Int) by omega, fr.1, fr.2, if_true, w64n (show i < 4611686018427387904 by omega), Int.toNat_natCast]; rw [← fe, mixL_set _ _ _ _ (by omega)]; exact ih
theorem mulF_ev (t f : List Int) (n : Nat) (hn : n ≤ 12) (ht : inR n t) (hf : inR n f) : Ev (fun k => impl_mul.f k f t) (faces t f n) := by
  unfold impl_mul.f
  rw [hf.1]; simp only [show (0 : Int) ≤ (n : Int) by omega, Int.toNat_natCast, show n ≤ 35184372088832 by omega, if_true]; have := mulF_run t f n hn ht hf n 0 (by omega) (by omega); rw [mixL_zero _ _ _ (by simp)] at this; exact this
def threeN (V E F : Nat) : List Int := [(V : Int), (E : Int), (F : Int)]
theorem mapCounts_ev (t f : List Int) (hm : isMap t f) (ht : t.length ≤ 1048576) (hf : f.length ≤ 1048576) : ∃ F : Nat, Cl t.length (Reach [faces t f t.length] t.length) F ∧ Ev (fun k => impl_MapCounts.f k t f) (threeN (cyS t t.length t.length).2.length (edL f t.length).length F, true) := by
  obtain ⟨hn, h1, ht', hti, hf', hfl, hcon⟩ := mapOk_of t f hm; obtain ⟨b, _, b2, b3⟩ := mapValid_both t f ht hf; have hb : b = true := b3.2 hm; subst hb; have hF := faces_inR t f t.length ht' hf'; refine ⟨(cyS (faces t f t.length) t.length t.length).2.length, cyS_cl _ _ hF (faces_inj t f t.length ht' hti hf' hfl), ?_⟩; have hh := edL_half f t.length hf' hfl; have hlen := hf'.1
  unfold impl_MapCounts.f
  refine Ev.bind b2 ?_; simp only [if_true]; refine Ev.bind (implCyc_ev t t.length (by omega) ht') ?_; refine Ev.bind (mulF_ev t f t.length hn ht' hf') ?_; refine Ev.bind (implCyc_ev _ t.length (by omega) hF) (Ev.const ?_)
  unfold threeN
  rw [w64 (by omega) (by omega), show (f.length : Int) / 2 = (((edL f t.length).length : Nat) : Int) by omega]
theorem map_small (t f : List Int) (hm : isMap t f) : t.length ≤ 12 ∧ f.length ≤ 12 ∧ (edL f t.length).length ≤ 12 := by
  obtain ⟨hn, h1, ht', hti, hf', hfl, hcon⟩ := mapOk_of t f hm; have := edL_le f t.length; have := hf'.1; omega
theorem five_ev (t f c : List Int) (hm : isMap t f) (hc : isChoice c ((edL f t.length).length : Int)) (hcl : c.length ≤ 1048576) : ∃ P S : Nat, Cl t.length (Reach [t, flC f t.length c] t.length) P ∧ Cl t.length (Reach [sgL t f t.length c] t.length) S ∧ Ev (fun k => spec_l7Counts.f k t f c) (fiveN P S ((cyS t t.length t.length).2.length : Int) c.length) ∧ Ev (fun k => impl_ribbon.f k t f c) (fiveN P S ((cyS t t.length t.length).2.length : Int) c.length) := by
  have H := mapOk_of t f hm; obtain ⟨hn, h1, ht', hti, hf', hfl, hcon⟩ := id H; have hR := H.rib hc hcl; obtain ⟨o, o1, _, h2, h3⟩ := ribbon_both t f c t.length hR; exact ⟨_, _, parts_cl t f c t.length h1 ht' hf' o o1, sides_cl t f c t.length hR, h2, h3⟩
def sumB : Nat → ((Nat → Bool) → Int) → Int
  | 0, F => F (fun _ => false)
  | E + 1, F => sumB E (fun s => F (fun j => if j = E then false else s j)) + sumB E (fun s => F (fun j => if j = E then true else s j))
def lstS (s : Nat → Bool) : Nat → List Int
  | 0 => []
  | E + 1 => if s E = true then lstS s E ++ [(E : Int)] else lstS s E
theorem lstS_congr (s s' : Nat → Bool) : ∀ E, (∀ j, j < E → s j = s' j) → lstS s E = lstS s' E
  | 0, _ => rfl
  | E + 1, h => by
    simp only [lstS, h E (by omega), lstS_congr s s' E fun j hj => h j (by omega)]
theorem sumB_congr : ∀ (E : Nat) (F G : (Nat → Bool) → Int), (∀ s, (∀ j, E ≤ j → s j = false) → F s = G s) → sumB E F = sumB E G
  | 0, F, G, h => h _ fun _ _ => rfl
  | E + 1, F, G, h => by
    simp only [sumB]
    congr 1
    · refine sumB_congr E _ _ fun s hs => h _ fun j hj => ?_
      by_cases z : j = E
      · rw [if_pos z]
      · rw [if_neg z]; exact hs j (by omega)
    · refine sumB_congr E _ _ fun s hs => h _ fun j hj => ?_
      rw [if_neg (by omega)]; exact hs j (by omega)
theorem sum_vall : ∀ (E : Nat) (F : List Int → Int), ((vallE E).map F).sum = sumB E (fun s => F (lstS s E))
  | 0, F => by simp [vallE, sumB, lstS]
  | E + 1, F => by
    simp only [vallE, List.map_append, List.sum_append, List.map_map, sumB]
    congr 1
    · rw [sum_vall E F]
      refine sumB_congr E _ _ fun s _ => ?_
      simp only [lstS, if_true, Bool.false_eq_true, if_false]; rw [lstS_congr s _ E fun j hj => ?_]; rw [if_neg (by omega)]
    · rw [sum_vall E]
      refine sumB_congr E _ _ fun s _ => ?_
      simp only [lstS, if_true, Function.comp]; rw [lstS_congr s _ E fun j hj => ?_]; rw [if_neg (by omega)]
theorem mem_lstS (s : Nat → Bool) : ∀ (E : Nat) (x : Int), x ∈ lstS s E ↔ ∃ j : Nat, j < E ∧ s j = true ∧ x = j
  | 0, x => by simp [lstS]
  | E + 1, x => by
    have ih := mem_lstS s E x; simp only [lstS]
    by_cases h : s E = true
    · rw [if_pos h, List.mem_append, ih, List.mem_singleton]
      constructor
      · rintro (⟨j, a, b, c⟩ | z)
        · exact ⟨j, by omega, b, c⟩
        · exact ⟨E, by omega, h, z⟩
      · rintro ⟨j, a, b, c⟩
        by_cases z : j = E
        · exact .inr (by rw [c, z])
        · exact .inl ⟨j, by omega, b, c⟩
    · rw [if_neg h, ih]
      constructor
      · rintro ⟨j, a, b, c⟩; exact ⟨j, by omega, b, c⟩
      · rintro ⟨j, a, b, c⟩
        refine ⟨j, ?_, b, c⟩
        by_cases z : j = E
        · rw [z] at b; exact absurd b h
        · omega
theorem lstS_choice (s : Nat → Bool) (E : Nat) : isChoice (lstS s E) (E : Int) := by
  refine choice_of _ _ (fun x hx => ?_) ?_
  · obtain ⟨j, a, b, c⟩ := (mem_lstS s E x).1 hx
    omega
  · induction E with
    | zero => exact List.Pairwise.nil
    | succ E ih =>
      simp only [lstS]
      by_cases h : s E = true
      · rw [if_pos h]
        refine List.pairwise_append.2 ⟨ih, by simp, fun a ha b hb => ?_⟩; obtain ⟨j, a1, _, a3⟩ := (mem_lstS s E a).1 ha; have := List.mem_singleton.1 hb; omega
      · rw [if_neg h]; exact ih
theorem lstS_len (s : Nat → Bool) : ∀ E, (lstS s E).length ≤ E
  | 0 => Nat.le_refl _
  | E + 1 => by
    have := lstS_len s E; simp only [lstS]
    split <;> simp <;> omega
noncomputable def clN (n : Nat) (R : Nat → Nat → Prop) : Nat := Classical.choose (Cl.ex n R)
theorem clN_cl (n : Nat) (R : Nat → Nat → Prop) : Cl n R (clN n R) := (Classical.choose_spec (Cl.ex n R)).1
theorem Cl.eq {n : Nat} {R : Nat → Nat → Prop} {k : Nat} (h : Cl n R k) : clN n R = k := (clN_cl n R).uniq h
noncomputable def pN (t f : List Int) (n : Nat) (c : List Int) : Nat := clN n (Reach [t, flC f n c] n)
noncomputable def sN (t f : List Int) (n : Nat) (c : List Int) : Nat := clN n (Reach [sgL t f n c] n)
noncomputable def vN (t : List Int) (n : Nat) : Nat := clN n (Reach [t] n)
noncomputable def tmV (t f : List Int) (n : Nat) (X Y Z : Int) (c : List Int) : Int :=
  X ^ (pN t f n c - 1) * Y ^ (c.length + pN t f n c - vN t n) * Z ^ ((2 * pN t f n c + c.length - vN t n - sN t f n c) / 2)
noncomputable def valS (t f : List Int) (n : Nat) (X Y Z : Int) : Int := sumB (edL f n).length fun s => tmV t f n X Y Z (lstS s (edL f n).length)
theorem nums (t f : List Int) (n : Nat) (H : MapOk t f n) (c : List Int) (hc : isChoice c ((edL f n).length : Int)) :
    ∃ g G : Nat, 2 * pN t f n c + c.length = vN t n + sN t f n c + 2 * g ∧ vN t n ≤ c.length + pN t f n c ∧ g ≤ G ∧ 2 + (edL f n).length = vN t n + vN (faces t f n) n + 2 * G :=
  five_math t f c n H hc _ _ _ _ (clN_cl _ _) (clN_cl _ _) (clN_cl _ _) (clN_cl _ _)
theorem Cl.coarse {n : Nat} {R S : Nat → Nat → Prop} {k l : Nat} (h : Cl n R k) (h' : Cl n S l) (hs : ∀ x y, R x y → S x y) : l ≤ k :=
  Cnt.sub h' h fun x _ hx i hi hr => hx i hi (hs i x hr)
theorem Cl.pos {n : Nat} {R : Nat → Nat → Prop} {k : Nat} (h : Cl n R k) (hn : 1 ≤ n) : 1 ≤ k := by
  obtain ⟨L, _, h2, h3⟩ := h; have : (0 : Nat) ∈ L := (h2 0).2 ⟨by omega, fun i hi => by omega⟩; have := List.length_pos_of_mem this; omega
theorem reach_wide (t F : List Int) (n x y : Nat) (h : Reach [t] n x y) : Reach [t, F] n x y := fun S hS => h S fun p hp => by
  rw [List.mem_singleton.1 hp]; exact hS t (by simp)
theorem nums_small (t f : List Int) (n : Nat) (H : MapOk t f n) (hE : (edL f n).length ≤ 6) (c : List Int) (hc : isChoice c ((edL f n).length : Int)) (hcl : c.length ≤ (edL f n).length) :
    1 ≤ pN t f n c ∧ pN t f n c ≤ vN t n ∧ vN t n ≤ (edL f n).length + 1 ∧ 1 ≤ sN t f n c := by
  obtain ⟨hn, h1, ht, hti, hf, hfl, hcon⟩ := id H; have p1 := (clN_cl n (Reach [t, flC f n c] n)).pos h1; have s1 := (clN_cl n (Reach [sgL t f n c] n)).pos h1; have pv := (clN_cl n (Reach [t] n)).coarse (clN_cl n (Reach [t, flC f n c] n)) (fun x y h => reach_wide t _ n x y h); obtain ⟨g, G, _, _, _, h4⟩ := nums t f n H c hc; have w1 := (clN_cl n (Reach [faces t f n] n)).pos h1
  unfold vN at h4
  exact ⟨p1, pv, by unfold vN; omega, s1⟩
theorem pow_small (x : Int) (h0 : 0 ≤ x) (h3 : x ≤ 3) : ∀ n : Nat, 0 ≤ x ^ n ∧ x ^ n ≤ 3 ^ n
  | 0 => by simp
  | n + 1 => by
    obtain ⟨a, b⟩ := pow_small x h0 h3 n; rw [Int.pow_succ, Int.pow_succ]; exact ⟨Int.mul_nonneg a h0, Int.mul_le_mul b h3 h0 (by omega)⟩
theorem pow_six (x : Int) (h0 : 0 ≤ x) (h3 : x ≤ 3) (n : Nat) (hn : n ≤ 6) : 0 ≤ x ^ n ∧ x ^ n ≤ 729 := by
  obtain ⟨a, b⟩ := pow_small x h0 h3 n; refine ⟨a, Int.le_trans b ?_⟩
  have : n = 0 ∨ n = 1 ∨ n = 2 ∨ n = 3 ∨ n = 4 ∨ n = 5 ∨ n = 6 := by omega
  rcases this with rfl | rfl | rfl | rfl | rfl | rfl | rfl <;> decide
theorem power_eq (x : Int) (h0 : 0 ≤ x) (h3 : x ≤ 3) (n : Nat) (hn : n ≤ 6) : ∀ (d i : Nat), n - i = d → i ≤ n → Ev (fun k => impl_power.l0 k x (x ^ i) n i) (x ^ n)
  | 0, i, hd, hi => by
    have : i = n := by omega
    subst this; refine Ev.s ?_; simp only [impl_power.l0, show ¬ (i : Int) < (i : Int) by omega, if_false]; exact Ev.const rfl
  | d + 1, i, hd, hi => by
    have := power_eq x h0 h3 n hn d (i + 1) (by omega) (by omega); obtain ⟨q1, q2⟩ := pow_six x h0 h3 (i + 1) (by omega); refine Ev.s ?_; simp only [impl_power.l0, show (i : Int) < (n : Int) by omega, if_true, w64n (show i < 4611686018427387904 by omega)]; rw [show x ^ i * x = x ^ (i + 1) from (Int.pow_succ x i).symm, w64 (by omega) (by omega)]; exact this
theorem power_ev (x : Int) (h0 : 0 ≤ x) (h3 : x ≤ 3) (n : Nat) (hn : n ≤ 6) : Ev (fun k => impl_power.f k x (n : Int)) (x ^ n) := by
  unfold impl_power.f
  have := power_eq x h0 h3 n hn n 0 (by omega) (by omega)
  rwa [Int.pow_zero] at this
theorem mul_small (a b c : Int) (a0 : 0 ≤ a) (a1 : a ≤ 729) (b0 : 0 ≤ b) (b1 : b ≤ 729) (c0 : 0 ≤ c) (c1 : c ≤ 729) : 0 ≤ a * b ∧ a * b ≤ 531441 ∧ 0 ≤ a * b * c ∧ a * b * c ≤ 387420489 := by
  have h1 := Int.mul_nonneg a0 b0; have h2 : a * b ≤ 729 * 729 := Int.mul_le_mul a1 b1 b0 (by decide); have h3 := Int.mul_nonneg h1 c0; have h4 : a * b * c ≤ 531441 * 729 := Int.mul_le_mul (by omega) c1 c0 (by decide); exact ⟨h1, by omega, h3, by omega⟩
theorem exps (t f : List Int) (n : Nat) (H : MapOk t f n) (c : List Int) (hc : isChoice c ((edL f n).length : Int)) (hcl : c.length ≤ (edL f n).length) :
    pN t f n c - 1 ≤ 6 ∧ c.length + pN t f n c - vN t n ≤ 6 ∧ (2 * pN t f n c + c.length - vN t n - sN t f n c) / 2 ≤ 6 := by
  have hh := edL_half f n H.2.2.2.2.1 H.2.2.2.2.2.1; have hn := H.1; obtain ⟨g, G, n1, n2, n3, n4⟩ := nums t f n H c hc; obtain ⟨m1, m2, m3, m4⟩ := nums_small t f n H (by omega) c hc hcl; exact ⟨by omega, by omega, by omega⟩
theorem tmV_small (t f : List Int) (n : Nat) (H : MapOk t f n) (X Y Z : Int) (x0 : 0 ≤ X) (x3 : X ≤ 3) (y0 : 0 ≤ Y) (y3 : Y ≤ 3) (z0 : 0 ≤ Z) (z3 : Z ≤ 3) (c : List Int) (hc : isChoice c ((edL f n).length : Int)) (hcl : c.length ≤ (edL f n).length) : 0 ≤ tmV t f n X Y Z c ∧ tmV t f n X Y Z c ≤ 387420489 := by
  obtain ⟨e1, e2, e3⟩ := exps t f n H c hc hcl; obtain ⟨a0, a1⟩ := pow_six X x0 x3 _ e1; obtain ⟨b0, b1⟩ := pow_six Y y0 y3 _ e2; obtain ⟨c0, c1⟩ := pow_six Z z0 z3 _ e3; obtain ⟨_, _, m3, m4⟩ := mul_small _ _ _ a0 a1 b0 b1 c0 c1; exact ⟨m3, m4⟩
theorem five_3 (P S V c : Int) : rd (fiveN P S V c) 3 = wrap64 (c - wrap64 (V - P)) := rfl
theorem five_4 (P S V c : Int) : rd (fiveN P S V c) 4 = wrap64 (Int.tdiv (wrap64 (wrap64 (wrap64 (wrap64 (2 * P) - V) + c) - S)) 2) := rfl
theorem five_nums (P S V c g E : Nat) (hE : E ≤ 6) (hc : c ≤ E) (m1 : 2 * P + c = V + S + 2 * g) (m2 : V ≤ c + P) (s1 : 1 ≤ P) (s2 : P ≤ V) (s3 : V ≤ E + 1) (s4 : 1 ≤ S) :
    wrap64 ((P : Int) - 1) = ((P - 1 : Nat) : Int) ∧ rd (fiveN P S V c) 3 = ((c + P - V : Nat) : Int) ∧ rd (fiveN P S V c) 4 = (((2 * P + c - V - S) / 2 : Nat) : Int) := by
  have z : (2 * P + c - V - S) / 2 = g := by omega
  refine ⟨?_, ?_, ?_⟩
  · rw [w64 (by omega) (by omega)]; omega
  · rw [five_3, w64 (x := (V : Int) - P) (by omega) (by omega), w64 (by omega) (by omega)]
    omega
  · rw [z, five_4, w64 (x := 2 * (P : Int)) (by omega) (by omega), w64 (x := 2 * (P : Int) - V) (by omega) (by omega), w64 (x := 2 * (P : Int) - V + c) (by omega) (by omega), w64 (x := 2 * (P : Int) - V + c - S) (by omega) (by omega)]
    rw [show 2 * (P : Int) - V + c - S = (g : Int) * 2 by omega, Int.mul_tdiv_cancel _ (by decide), w64 (by omega) (by omega)]
theorem three_w (x A B C : Int) (h0 : 0 ≤ x) (h1 : x ≤ 64 * 387420489) (a0 : 0 ≤ A) (a1 : A ≤ 729) (b0 : 0 ≤ B) (b1 : B ≤ 729) (c0 : 0 ≤ C) (c1 : C ≤ 729) : wrap64 (x + wrap64 (wrap64 (A * B) * C)) = x + A * B * C := by
  obtain ⟨k1, k2, k3, k4⟩ := mul_small A B C a0 a1 b0 b1 c0 c1; rw [w64 (x := A * B) (by omega) (by omega), w64 (x := A * B * C) (by omega) (by omega), w64 (by omega) (by omega)]
theorem tell_ev (t f : List Int) (hm : isMap t f) (X Y Z : Int) (x0 : 0 ≤ X) (x3 : X ≤ 3) (y0 : 0 ≤ Y) (y3 : Y ≤ 3) (z0 : 0 ≤ Z) (z3 : Z ≤ 3) (c : List Int) (hc : isChoice c ((edL f t.length).length : Int)) (hcl : c.length ≤ (edL f t.length).length) (x : Int) (h0 : 0 ≤ x) (h1 : x ≤ 64 * 387420489) :
    Ev (fun k => vtell.f k c t f x X Y Z) (x + tmV t f t.length X Y Z c) := by
  have H := mapOk_of t f hm; obtain ⟨hn, n1, ht', hti, hf', hfl, hcon⟩ := id H; have hh := edL_half f t.length hf' hfl; obtain ⟨P, S, hP, hS, _, g2⟩ := five_ev t f c hm hc (by omega); have eP : pN t f t.length c = P := hP.eq; have eS : sN t f t.length c = S := hS.eq; have eV : vN t t.length = (cyS t t.length t.length).2.length := (cyS_cl t t.length ht' hti).eq; obtain ⟨e1, e2, e3⟩ := exps t f t.length H c hc hcl; obtain ⟨g, G, m1, m2, m3, m4⟩ := nums t f t.length H c hc; obtain ⟨s1, s2, s3, s4⟩ := nums_small t f t.length H (by omega) c hc hcl; obtain ⟨a0, a1⟩ := pow_six X x0 x3 _ e1; obtain ⟨p0, p1⟩ := pow_six Y y0 y3 _ e2; obtain ⟨c0, c1⟩ := pow_six Z z0 z3 _ e3; rw [eP, eS, eV] at m1; rw [eP, eV] at m2; rw [eP] at s1; rw [eP, eV] at s2; rw [eV] at s3; rw [eS] at s4
  unfold tmV
  simp only [eP, eS, eV] at e1 e2 e3 a0 a1 p0 p1 c0 c1 ⊢; generalize (cyS t t.length t.length).2.length = V at *; obtain ⟨w1, w2, w3⟩ := five_nums P S V c.length g (edL f t.length).length (by omega) hcl m1 m2 s1 s2 s3 s4; have l5 : (fiveN P S V c.length).length = 5 := rfl
  unfold vtell.f
  refine Ev.bind g2 ?_; simp only [l5, five_zero, show (0 : Int) < ((5 : Nat) : Int) by decide, show (3 : Int) < ((5 : Nat) : Int) by decide, show (4 : Int) < ((5 : Nat) : Int) by decide, if_true, w1, w2, w3]; refine Ev.bind (power_ev X x0 x3 _ e1) ?_; refine Ev.bind (power_ev Y y0 y3 _ e2) ?_; refine Ev.bind (power_ev Z z0 z3 _ e3) ?_; exact Ev.const (congrArg some (three_w _ _ _ _ h0 h1 a0 a1 p0 p1 c0 c1))
theorem vallE_choice (E : Nat) : ∀ c ∈ vallE E, isChoice c (E : Int) ∧ c.length ≤ E := by
  intro c hc
  have : ∃ s, c = lstS s E := by
    induction E generalizing c with
    | zero =>
      simp only [vallE, List.mem_singleton] at hc; exact ⟨fun _ => false, by rw [hc]; rfl⟩
    | succ E ih =>
      simp only [vallE, List.mem_append, List.mem_map] at hc
      rcases hc with h | ⟨c', h, rfl⟩
      · obtain ⟨s, rfl⟩ := ih c h
        refine ⟨fun j => if j = E then false else s j, ?_⟩; simp only [lstS, if_true, Bool.false_eq_true, if_false]
        exact lstS_congr _ _ _ fun j hj => by rw [if_neg (by omega)]
      · obtain ⟨s, rfl⟩ := ih c' h
        refine ⟨fun j => if j = E then true else s j, ?_⟩; simp only [lstS, if_true]
        congr 1
        exact lstS_congr _ _ _ fun j hj => by rw [if_neg (by omega)]
  obtain ⟨s, rfl⟩ := this; exact ⟨lstS_choice s E, lstS_len s E⟩
theorem drop_sum (L : List Int) (s : Nat) (h : s < L.length) : (L.drop s).sum = L[s] + (L.drop (s + 1)).sum := by
  rw [List.drop_eq_getElem_cons h, List.sum_cons]
theorem le_step (s : Nat) (x B : Int) (hB : 0 ≤ B) (h : s ≤ 64) (h1 : x ≤ (s : Int) * B) : x ≤ 64 * B := by
  have : (s : Int) * B ≤ 64 * B := Int.mul_le_mul_of_nonneg_right (by omega) hB; exact Int.le_trans h1 this
theorem step_le (s : Nat) (x B y : Int) (h1 : x ≤ (s : Int) * B) (h2 : y ≤ B) : x + y ≤ ((s + 1 : Nat) : Int) * B := by
  have : ((s + 1 : Nat) : Int) * B = (s : Int) * B + B := by
    rw [Int.natCast_succ, Int.add_mul, Int.one_mul]
  rw [this]; exact Int.add_le_add h1 h2
theorem vfacts (N s d l : Nat) (hd : N - s = d + 1) (hs : s ≤ N) (hN : l = N) (h64 : N ≤ 64) : (s : Int) < (N : Int) ∧ s < l ∧ s ≤ 64 ∧ s < N ∧ N - (s + 1) = d ∧ s + 1 ≤ N ∧ s + 1 < 4611686018427387904 ∧ s < 4611686018427387904 := by
  refine ⟨?_, ?_, ?_, ?_, ?_, ?_, ?_, ?_⟩ <;> omega
theorem vzero (N s : Nat) (hd : N - s = 0) (hs : s ≤ N) : s = N := by omega
theorem vrunI (t f : List Int) (X Y Z : Int) (E : Nat) (hfE : (f.length : Int) / 2 = (E : Int)) (B : Int) (hB : 0 ≤ B) (T : List Int → Int) (L : List (List Int)) (N : Nat) (hN : L.length = N) (hN64 : N ≤ 64)
    (hT : ∀ c ∈ L, 0 ≤ T c ∧ T c ≤ B ∧ ∀ x, 0 ≤ x → x ≤ 64 * B → Ev (fun k => vtell.f k c t f x X Y Z) (x + T c))
    (hc : ∀ s : Nat, s < N → vch.l1 30 [] (s : Int) 0 (E : Int) = some (L.getD s [])) : ∀ (d s : Nat), N - s = d → s ≤ N → ∀ x : Int, 0 ≤ x → x ≤ (s : Int) * B → Ev (fun k => vch.l0 k t f X Y Z x s (N : Int)) (x + ((L.map T).drop s).sum)
  | 0, s, hd, hs, x, h0, h1 => by
    have hsN : s = N := vzero N s hd hs; subst hsN; have : (L.map T).drop s = [] := List.drop_eq_nil_of_le (by simp [hN]); rw [this]; refine Ev.s ?_; simp only [vch.l0, show ¬ (s : Int) < (s : Int) by omega, if_false, List.sum_nil, Int.add_zero]; exact Ev.const rfl
  | d + 1, s, hd, hs, x, h0, h1 => by
    obtain ⟨hlt, hsl, hs64, hsN, hd1, hs1, hb1, hb2⟩ := vfacts N s d L.length hd hs hN hN64
    have hg : L.getD s [] = L[s] := by simp [List.getD, hsl]
    obtain ⟨b1, b2, b3⟩ := hT _ (List.getElem_mem hsl)
    have e1 : Ev (fun k => vch.l1 k [] (s : Int) 0 (E : Int)) (L[s]) := by
      rw [← hg]; exact Ev.of (fun k => vch.mono_l1 k _ _ _ _) (hc s hsN)
    have hT' := b3 x h0 (le_step s x B hB hs64 h1); have hw : wrap64 ((s : Int) + 1) = ((s + 1 : Nat) : Int) := w64n hb2; have ih := vrunI t f X Y Z E hfE B hB T L N hN hN64 hT hc d (s + 1) hd1 hs1 (x + T (L[s])) (Int.add_nonneg h0 b1) (step_le s x B _ h1 b2); have hd' := drop_sum (L.map T) s (by simp [hsl]); rw [List.getElem_map] at hd'; rw [hd', ← Int.add_assoc]; refine Ev.s ?_; simp only [vch.l0, hlt, hfE, if_true]; refine Ev.bind e1 ?_; refine Ev.bind hT' ?_; simp only [hw]; exact ih
theorem valI_ev (t f : List Int) (hm : isMap t f) (X Y Z : Int) (x0 : 0 ≤ X) (x3 : X ≤ 3) (y0 : 0 ≤ Y) (y3 : Y ≤ 3) (z0 : 0 ≤ Z) (z3 : Z ≤ 3) : Ev (fun k => impl_RibbonValue.f k t f X Y Z) (valS t f t.length X Y Z) := by
  have H := mapOk_of t f hm; obtain ⟨hn, n1, ht', hti, hf', hfl, hcon⟩ := id H; have hh := edL_half f t.length hf' hfl; have hlen := hf'.1
  have hfl12 : f.length ≤ 12 := by omega
  obtain ⟨b, _, b2, b3⟩ := mapValid_both t f (by omega) (by omega); have hb : b = true := b3.2 hm; subst hb; obtain ⟨E, hE⟩ : ∃ E : Nat, E = f.length / 2 := ⟨_, rfl⟩
  have hE6 : E ≤ 6 := by omega
  obtain ⟨hp, hp2⟩ := vpow E hE6; obtain ⟨_, hl, hc⟩ := vchk E hE6
  have hEe : (edL f t.length).length = E := by omega
  have := vrunI t f X Y Z E (by omega) 387420489 (by decide) (tmV t f t.length X Y Z) (vallE E) (2 ^ E) hl hp2 (fun c hc' => by
    obtain ⟨q1, q2⟩ := vallE_choice E c hc'; rw [← hEe] at q1 q2; obtain ⟨b1, b2⟩ := tmV_small t f t.length H X Y Z x0 x3 y0 y3 z0 z3 c q1 q2
    exact ⟨b1, b2, fun x h0 h1 => tell_ev t f hm X Y Z x0 x3 y0 y3 z0 z3 c q1 q2 x h0 h1⟩) (fun s hs => (hc s hs).1) (2 ^ E) 0 (Nat.sub_zero _) (Nat.zero_le _) 0 (Int.le_refl 0) (by rw [show ((0 : Nat) : Int) = 0 from rfl, Int.zero_mul]; exact Int.le_refl 0)
  rw [List.drop_zero, sum_vall, Int.zero_add] at this
  unfold valS
  rw [hEe]
  unfold impl_RibbonValue.f
  refine Ev.bind b2 ?_; simp only [if_true, show ¬ X < 0 by omega, show ¬ X > 3 by omega, show ¬ Y < 0 by omega, show ¬ Y > 3 by omega, show ¬ Z < 0 by omega, show ¬ Z > 3 by omega, if_false, hfl12, ← hE, hp]; exact this
theorem xor_nonneg (a b : Int) (ha : 0 ≤ a) (hb : 0 ≤ b) (ha' : a < 9223372036854775808) (hb' : b < 9223372036854775808) : 0 ≤ Go.bits .xor .i64 a b := by
  obtain ⟨n, rfl⟩ := Int.eq_ofNat_of_zero_le ha; obtain ⟨m, rfl⟩ := Int.eq_ofNat_of_zero_le hb; have hn : n % 2 ^ 64 = n := Nat.mod_eq_of_lt (by omega); have hm : m % 2 ^ 64 = m := Nat.mod_eq_of_lt (by omega); have hx : n ^^^ m < 2 ^ 63 := Nat.xor_lt_two_pow (by omega) (by omega)
  have e : Go.bits .xor .i64 (n : Int) (m : Int) = IntKind.i64.wrap ((n ^^^ m : Nat) : Int) := by
    simp only [Go.bits, BitVec.ofInt_natCast]
    show IntKind.i64.wrap (((BitVec.ofNat 64 n ^^^ BitVec.ofNat 64 m).toNat : Nat) : Int) = _
    rw [BitVec.toNat_xor, BitVec.toNat_ofNat, BitVec.toNat_ofNat, hn, hm]
  rw [e, IntKind.wrap_i64]; omega
def bytesOk (l : List Int) : Prop := l.length ≤ 2000 ∧ ∀ x ∈ l, 0 ≤ x ∧ x ≤ 255
theorem rd_byte (l : List Int) (h : bytesOk l) (i : Int) : 0 ≤ rd l i ∧ rd l i ≤ 255 := by
  unfold rd
  by_cases hi : i.toNat < l.length
  · rw [List.getD_eq_getElem?_getD, List.getElem?_eq_getElem hi]
    exact h.2 _ (List.getElem_mem hi)
  · rw [List.getD_eq_getElem?_getD, List.getElem?_eq_none (by omega)]
    decide
theorem pick_ev (l : List Int) (h : bytesOk l) (p : Int) (hp : 0 ≤ p) (hp' : p ≤ 1000000) (n : Int) (hn : 1 ≤ n) (hn' : n ≤ 1000000) : ∃ v, Ev (fun k => spec_l6Rd_pick.f k l p n) (v, p + 1) ∧ 0 ≤ v ∧ v < n := by
  have w0 : wrap64 (p + 1) = p + 1 := w64 (by omega) (by omega)
  have w1 : wrap64 (p + 1 - 1) = p := by rw [w64 (by omega) (by omega)]; omega
  have hl := h.1
  unfold spec_l6Rd_pick.f
  simp only [show ¬ n < 1 by omega, if_false, w0]
  by_cases hz : l.length = 0
  · refine ⟨0, Ev.s ?_, by omega, by omega⟩
    have : (((l.length : Int)) == 0) = true := by simp [hz]
    simp only [this, spec_l6Rd_pick.j0, if_true]; exact Ev.const rfl
  · have hb : (((l.length : Int)) == 0) = false := by rw [beq_eq_false_iff_ne]; omega
    have hn0 : ¬ n = 0 := by omega
    by_cases hlt : p < (l.length : Int)
    · have hr := rd_byte l h p
      have wr : wrap64 (rd l p) = rd l p := w64 (by omega) (by omega); refine ⟨Int.tmod (rd l p) n, Ev.s ?_, Int.tmod_nonneg _ (by omega), Int.tmod_lt_of_pos _ (by omega)⟩; simp only [hb, spec_l6Rd_pick.j0, w1, hlt, hp, hn0, wr, Bool.false_eq_true, if_true, if_false]; exact Ev.const rfl
    · have hl0 : ¬ (l.length : Int) = 0 := by omega
      have wk : wrap64 (p * 7) = p * 7 := w64 (by omega) (by omega); have wk3 : wrap64 (p * 7 + 3) = p * 7 + 3 := w64 (by omega) (by omega); have t1 := Int.tmod_nonneg (a := p) (l.length : Int) hp; have t2 := Int.tmod_lt_of_pos p (b := (l.length : Int)) (by omega); have t3 := Int.tmod_nonneg (a := p * 7 + 3) (l.length : Int) (by omega); have t4 := Int.tmod_lt_of_pos (p * 7 + 3) (b := (l.length : Int)) (by omega); have r1 := rd_byte l h (Int.tmod p (l.length : Int)); have r2 := rd_byte l h (Int.tmod (p * 7 + 3) (l.length : Int)); have d1 : 0 ≤ Int.tdiv p (l.length : Int) := Int.tdiv_nonneg hp (by omega); have d2 : Int.tdiv p (l.length : Int) ≤ p := Int.tdiv_le_self _ hp
      obtain ⟨X, hX, hX0, hX1⟩ : ∃ X, (wrap64 ((wrap64 ((wrap64 ((wrap64 ((wrap64 (rd l (Int.tmod p (l.length : Int)))) * 131)) + (wrap64 ((wrap64 (rd l (Int.tmod (p * 7 + 3) (l.length : Int)))) * 1117)))) + (wrap64 (p * 29)))) + (wrap64 ((wrap64 (Int.tdiv p (l.length : Int))) * 53)))) = X ∧ 0 ≤ X ∧ X < 4611686018427387904 := by
        refine ⟨_, rfl, ?_, ?_⟩
        all_goals
          generalize rd l (Int.tmod p (l.length : Int)) = a at *; generalize rd l (Int.tmod (p * 7 + 3) (l.length : Int)) = b at *; generalize Int.tdiv p (l.length : Int) = c at *; rw [w64 (x := a) (by omega) (by omega), w64 (x := b) (by omega) (by omega), w64 (x := a * 131) (by omega) (by omega), w64 (x := b * 1117) (by omega) (by omega), w64 (x := a * 131 + b * 1117) (by omega) (by omega), w64 (x := p * 29) (by omega) (by omega), w64 (x := a * 131 + b * 1117 + p * 29) (by omega) (by omega), w64 (x := c) (by omega) (by omega), w64 (x := c * 53) (by omega) (by omega), w64 (x := a * 131 + b * 1117 + p * 29 + c * 53) (by omega) (by omega)]; omega
      have hd : 0 ≤ wrap64 (Int.tdiv X 64) ∧ wrap64 (Int.tdiv X 64) < 9223372036854775808 := by
        have := Int.tdiv_nonneg hX0 (show (0 : Int) ≤ 64 by decide); have := Int.tdiv_le_self 64 hX0; rw [w64 (by omega) (by omega)]; omega
      have hx := xor_nonneg X (wrap64 (Int.tdiv X 64)) hX0 hd.1 (by omega) hd.2; refine ⟨Int.tmod (Go.bits .xor .i64 X (wrap64 (Int.tdiv X 64))) n, Ev.s ?_, Int.tmod_nonneg _ hx, Int.tmod_lt_of_pos _ (by omega)⟩; simp only [hb, spec_l6Rd_pick.j0, w1, hlt, hl0, wk, wk3, t1, t2, t3, t4, hn0, hX, Bool.false_eq_true, if_true, if_false]; exact Ev.const rfl
theorem open_ev (l : List Int) (hb : ∀ x ∈ l, (Lit.int .u8 x).wf = true) : ∃ l', spec_l6Open.f l = some (l', 0) ∧ bytesOk l' := by
  have hb' : ∀ x ∈ l, 0 ≤ x ∧ x ≤ 255 := by
    intro x hx; have := hb x hx; simp only [Lit.wf, IntKind.min, IntKind.max, IntKind.signed, IntKind.bits, Bool.and_eq_true, decide_eq_true_eq, Bool.false_eq_true, if_false] at this; omega
  unfold spec_l6Open.f
  by_cases h : (l.length : Int) > 2000
  · refine ⟨l.take 2000, ?_, ?_, fun x hx => hb' x (List.mem_of_mem_take hx)⟩
    · rw [if_pos h, if_pos (by omega)]
    · rw [List.length_take]; omega
  · exact ⟨l, by rw [if_neg h], by omega, hb'⟩
theorem push_self (o : List Int) (i : Nat) (ho : inR i o) (hi : injR i o) : inR (i + 1) (o ++ [(i : Int)]) ∧ injR (i + 1) (o ++ [(i : Int)]) := by
  have last : rd (o ++ [(i : Int)]) (i : Int) = i := by
    rw [rd_lt _ _ (by simp [ho.1]), List.getElem_append_right (by rw [ho.1]; exact Nat.le_refl _)]
    simp
  have old : ∀ j : Nat, j < i → rd (o ++ [(i : Int)]) (j : Int) = rd o (j : Int) := fun j hj => rd_app_lt _ _ _ (by rw [ho.1]; exact hj)
  refine ⟨⟨by simp [ho.1], fun j hj => ?_⟩, fun j k hj hk e => ?_⟩
  · by_cases h : j < i
    · rw [old j h]
      have := ho.2 j h; omega
    · rw [show j = i by omega, last]
      omega
  · by_cases h : j < i
    · have a := ho.2 j h
      by_cases h' : k < i
      · rw [old j h, old k h'] at e
        exact hi j k h h' e
      · rw [show k = i by omega, last, old j h] at e
        omega
    · by_cases h' : k < i
      · have a := ho.2 k h'
        rw [show j = i by omega, last, old k h'] at e; omega
      · omega
theorem set_perm (o : List Int) (n a b : Nat) (ho : inR n o) (hi : injR n o) (ha : a < n) (hb : b < n) : inR n ((o.set a (rd o b)).set b (rd o a)) ∧ injR n ((o.set a (rd o b)).set b (rd o a)) := by
  have val : ∀ j : Nat, j < n → rd ((o.set a (rd o b)).set b (rd o a)) (j : Int) = if b = j then rd o a else if a = j then rd o b else rd o j := by
    intro j hj
    by_cases e1 : b = j
    · subst e1
      rw [rd_set_self _ _ _ (by simp [ho.1]; exact hb), if_pos rfl]
    · rw [rd_set_ne _ _ _ _ e1, if_neg e1]
      by_cases e2 : a = j
      · subst e2
        rw [rd_set_self _ _ _ (by rw [ho.1]; exact ha), if_pos rfl]
      · rw [rd_set_ne _ _ _ _ e2, if_neg e2]
  have ra := ho.2 a ha; have rb := ho.2 b hb; refine ⟨⟨by simp [ho.1], fun j hj => ?_⟩, fun j k hj hk e => ?_⟩
  · rw [val j hj]
    have := ho.2 j hj
    split
    · exact ra
    · split
      · exact rb
      · exact this
  · rw [val j hj, val k hk] at e
    have i1 := hi a b ha hb; have i2 := hi a j ha hj; have i3 := hi a k ha hk; have i4 := hi b j hb hj; have i5 := hi b k hb hk; have i6 := hi j k hj hk
    by_cases c1 : b = j
    · rw [if_pos c1] at e
      by_cases c2 : b = k
      · omega
      · rw [if_neg c2] at e
        by_cases c3 : a = k
        · rw [if_pos c3] at e
          have := i1 e; omega
        · rw [if_neg c3] at e
          exact absurd (i3 e) c3
    · rw [if_neg c1] at e
      by_cases c4 : a = j
      · rw [if_pos c4] at e
        by_cases c2 : b = k
        · rw [if_pos c2] at e
          have := i1 e.symm; omega
        · rw [if_neg c2] at e
          by_cases c3 : a = k
          · omega
          · rw [if_neg c3] at e
            exact absurd (i5 e) c2
      · rw [if_neg c4] at e
        by_cases c2 : b = k
        · rw [if_pos c2] at e
          exact absurd (i2 e.symm) c4
        · rw [if_neg c2] at e
          by_cases c3 : a = k
          · rw [if_pos c3] at e
            exact absurd (i4 e.symm) c1
          · rw [if_neg c3] at e
            exact i6 e
theorem push_swap (o : List Int) (i k : Nat) (hk : k < i) (ho : inR i o) (hi : injR i o) : inR (i + 1) ((o ++ [rd o k]).set k (i : Int)) ∧ injR (i + 1) ((o ++ [rd o k]).set k (i : Int)) := by
  obtain ⟨p1, p2⟩ := push_self o i ho hi
  have e : ((o ++ [(i : Int)]).set k (rd (o ++ [(i : Int)]) i)).set i (rd (o ++ [(i : Int)]) k) = (o ++ [rd o k]).set k (i : Int) := by
    have last : rd (o ++ [(i : Int)]) (i : Int) = i := by
      rw [rd_lt _ _ (by simp [ho.1]), List.getElem_append_right (by rw [ho.1]; exact Nat.le_refl _)]
      simp
    have last' : ∀ v : Int, rd (o ++ [v]) (i : Int) = v := by
      intro v; rw [rd_lt _ _ (by simp [ho.1]), List.getElem_append_right (by rw [ho.1]; exact Nat.le_refl _)]
      simp
    refine list_ext _ _ (by simp) fun j hj => ?_
    have hj' : j < i + 1 := by simp [ho.1] at hj; omega
    have l1 : (o ++ [(i : Int)]).length = i + 1 := by simp [ho.1]
    have l2 : (o ++ [rd o k]).length = i + 1 := by simp [ho.1]
    rw [last, rd_app_lt o _ k (by rw [ho.1]; exact hk)]
    by_cases e1 : i = j
    · subst e1
      rw [rd_set_self _ _ _ (by simp [ho.1]), rd_set_ne _ _ _ _ (by omega), last']
    · rw [rd_set_ne _ _ _ _ e1]
      by_cases e2 : k = j
      · subst e2
        rw [rd_set_self _ _ _ (by omega), rd_set_self _ _ _ (by omega)]
      · rw [rd_set_ne _ _ _ _ e2, rd_set_ne _ _ _ _ e2, rd_app_lt _ _ _ (by rw [ho.1]; omega), rd_app_lt _ _ _ (by rw [ho.1]; omega)]
  have := set_perm (o ++ [(i : Int)]) (i + 1) k i p1 p2 (by omega) (by omega)
  rwa [e] at this
theorem perm_run (l : List Int) (h : bytesOk l) (n : Nat) (hn : n ≤ 100) : ∀ (d i : Nat) (o : List Int) (p : Int), n - i = d → i ≤ n → inR i o → injR i o → 0 ≤ p → p + d ≤ 1000 → ∃ (o' : List Int), Ev (fun k => spec_l91Perm.l0 k n o i l p) (o', p + d) ∧ inR n o' ∧ injR n o'
  | 0, i, o, p, hd, hi, ho, hoi, hp, hp' => by
    have : i = n := by omega
    subst this; refine ⟨o, Ev.s ?_, ho, hoi⟩; simp only [spec_l91Perm.l0, show ¬ (i : Int) < (i : Int) by omega, if_false]; exact Ev.const (by simp)
  | d + 1, i, o, p, hd, hi, ho, hoi, hp, hp' => by
    obtain ⟨v, hv, v0, v1⟩ := pick_ev l h p hp (by omega) ((i + 1 : Nat) : Int) (by omega) (by omega)
    have w1 : i < 4611686018427387904 := by omega
    have w2 : o.length < 17592186044416 := by rw [ho.1]; omega
    have w3 : o.length = i := ho.1
    by_cases e : v = (i : Int)
    · obtain ⟨q1, q2⟩ := push_self o i ho hoi
      obtain ⟨o', r1, r2, r3⟩ := perm_run l h n hn d (i + 1) _ (p + 1) (by omega) (by omega) q1 q2 (by omega) (by omega); refine ⟨o', Ev.s ?_, r2, r3⟩; simp only [spec_l91Perm.l0, show (i : Int) < (n : Int) by omega, if_true, w64n w1]; refine Ev.bind hv ?_; simp only [e, w2, if_true]; rw [show p + ((d + 1 : Nat) : Int) = p + 1 + d by omega]; exact r1
    · obtain ⟨q1, q2⟩ := push_swap o i v.toNat (by omega) ho hoi
      obtain ⟨o', r1, r2, r3⟩ := perm_run l h n hn d (i + 1) _ (p + 1) (by omega) (by omega) q1 q2 (by omega) (by omega); rw [show ((v.toNat : Nat) : Int) = v by omega] at r1
      have w4 : v < (i : Int) := by omega
      have w5 : v < ((o ++ [rd o v]).length : Int) := by simp [w3]; omega
      refine ⟨o', Ev.s ?_, r2, r3⟩; simp only [spec_l91Perm.l0, show (i : Int) < (n : Int) by omega, if_true, w64n w1]; refine Ev.bind hv ?_; simp only [e, if_false, v0, w3, w4, w2, if_true, Option.bind_some, w5]; rw [show p + ((d + 1 : Nat) : Int) = p + 1 + d by omega]; rw [w3] at w2; simp only [w2, if_true, w5]; exact r1
theorem l91Perm_ev (l : List Int) (h : bytesOk l) (n : Nat) (hn : n ≤ 100) (p : Int) (hp : 0 ≤ p) (hp' : p ≤ 500) : ∃ (o : List Int), Ev (fun k => spec_l91Perm.f k l p n) (o, p + n) ∧ inR n o ∧ injR n o := by
  unfold spec_l91Perm.f
  have := perm_run l h n hn n 0 [] p (by omega) (by omega) ⟨rfl, fun i hi => by omega⟩ (fun i j hi _ _ => by omega) hp (by omega); exact this
def paired (n : Nat) (q g : List Int) (i : Nat) : Prop := inR n g ∧ ∀ j : Nat, 2 * j + 1 < i → rd g (rd q ((2 * j : Nat) : Int)) = rd q ((2 * j + 1 : Nat) : Int) ∧ rd g (rd q ((2 * j + 1 : Nat) : Int)) = rd q ((2 * j : Nat) : Int)
theorem toNat_eq {a b : Int} (ha : 0 ≤ a) (hb : 0 ≤ b) (h : a.toNat = b.toNat) : a = b := by omega
theorem pair_step (n : Nat) (q g : List Int) (hq : inR n q) (hqi : injR n q) (i : Nat) (hi : 2 * i + 1 < n) (h : paired n q g (2 * i)) :
    paired n q ((g.set (rd q ((2 * i : Nat) : Int)).toNat (rd q ((2 * i + 1 : Nat) : Int))).set (rd q ((2 * i + 1 : Nat) : Int)).toNat (rd q ((2 * i : Nat) : Int))) (2 * i + 2) := by
  have ra := hq.2 (2 * i) (by omega); have rb := hq.2 (2 * i + 1) (by omega)
  have ne : (rd q ((2 * i : Nat) : Int)).toNat ≠ (rd q ((2 * i + 1 : Nat) : Int)).toNat := by
    intro e; have := hqi (2 * i) (2 * i + 1) (by omega) (by omega) (toNat_eq ra.1 rb.1 e); omega
  have val : ∀ x : Nat, x < n → rd ((g.set (rd q ((2 * i : Nat) : Int)).toNat (rd q ((2 * i + 1 : Nat) : Int))).set (rd q ((2 * i + 1 : Nat) : Int)).toNat (rd q ((2 * i : Nat) : Int))) (x : Int) = if (rd q ((2 * i + 1 : Nat) : Int)).toNat = x then rd q ((2 * i : Nat) : Int) else if (rd q ((2 * i : Nat) : Int)).toNat = x then rd q ((2 * i + 1 : Nat) : Int) else rd g x := by
    intro x hx
    by_cases e1 : (rd q ((2 * i + 1 : Nat) : Int)).toNat = x
    · rw [if_pos e1, ← e1, rd_set_self _ _ _ (by rw [List.length_set, h.1.1]; omega)]
    · rw [rd_set_ne _ _ _ _ e1, if_neg e1]
      by_cases e2 : (rd q ((2 * i : Nat) : Int)).toNat = x
      · rw [if_pos e2, ← e2, rd_set_self _ _ _ (by rw [h.1.1]; omega)]
      · rw [rd_set_ne _ _ _ _ e2, if_neg e2]
  refine ⟨⟨by simp [h.1.1], fun x hx => ?_⟩, fun j hj => ?_⟩
  · rw [val x hx]
    have := h.1.2 x hx
    split
    · exact ra
    · split
      · exact rb
      · exact this
  · have sa := hq.2 (2 * j) (by omega)
    have sb := hq.2 (2 * j + 1) (by omega)
    have ea : (((rd q ((2 * j : Nat) : Int)).toNat : Nat) : Int) = rd q ((2 * j : Nat) : Int) := by omega
    have eb : (((rd q ((2 * j + 1 : Nat) : Int)).toNat : Nat) : Int) = rd q ((2 * j + 1 : Nat) : Int) := by omega
    rw [← ea, ← eb, val _ (by omega), val _ (by omega), ea, eb]
    by_cases z : j = i
    · subst z
      rw [if_neg (fun e => ne e.symm), if_pos rfl, if_pos rfl]; exact ⟨rfl, rfl⟩
    · have old := h.2 j (by omega)
      have n1 : (rd q ((2 * i + 1 : Nat) : Int)).toNat ≠ (rd q ((2 * j : Nat) : Int)).toNat := fun e => by
        have := hqi (2 * i + 1) (2 * j) (by omega) (by omega) (toNat_eq rb.1 sa.1 e); omega
      have n2 : (rd q ((2 * i : Nat) : Int)).toNat ≠ (rd q ((2 * j : Nat) : Int)).toNat := fun e => by
        have := hqi (2 * i) (2 * j) (by omega) (by omega) (toNat_eq ra.1 sa.1 e); omega
      have n3 : (rd q ((2 * i + 1 : Nat) : Int)).toNat ≠ (rd q ((2 * j + 1 : Nat) : Int)).toNat := fun e => by
        have := hqi (2 * i + 1) (2 * j + 1) (by omega) (by omega) (toNat_eq rb.1 sb.1 e); omega
      have n4 : (rd q ((2 * i : Nat) : Int)).toNat ≠ (rd q ((2 * j + 1 : Nat) : Int)).toNat := fun e => by
        have := hqi (2 * i) (2 * j + 1) (by omega) (by omega) (toNat_eq ra.1 sb.1 e); omega
      rw [if_neg n1, if_neg n2, if_neg n3, if_neg n4]; exact old
theorem paired_flip (n m : Nat) (hm : n = 2 * m) (q g : List Int) (hq : inR n q) (hqi : injR n q) (h : paired n q g n) : ∀ d : Nat, d < n → flipAt g d := by
  intro d hd; obtain ⟨j, hj, e⟩ := surj q n hq hqi d hd
  have rep : ∃ i, (j = 2 * i ∨ j = 2 * i + 1) ∧ 2 * i + 1 < n := by
    refine ⟨j / 2, by omega, by omega⟩
  obtain ⟨i, hj', hi⟩ := rep; have o := h.2 i hi
  have ne : rd q ((2 * i : Nat) : Int) ≠ rd q ((2 * i + 1 : Nat) : Int) := by
    intro e; have := hqi (2 * i) (2 * i + 1) (by omega) (by omega) e; omega
  rcases hj' with rfl | rfl
  · rw [e] at o ne
    unfold flipAt
    rw [o.1]; exact ⟨fun z => ne z.symm, o.2⟩
  · rw [e] at o ne
    unfold flipAt
    rw [o.2]; exact ⟨ne, o.1⟩
def drewMap (F : Nat → Option (List Int × List Int × Int)) (p : Int) : Prop := ∃ (t f : List Int) (p' : Int), Ev F (t, f, p') ∧ t.length ≤ 12 ∧ f.length ≤ 12 ∧ 0 ≤ p' ∧ p' ≤ p + 1
theorem map_end (l : List Int) (h : bytesOk l) (n : Nat) (h1 : 1 ≤ n) (hn : n ≤ 12) (i : Int) (p : Int) (hp : 0 ≤ p) (hp' : p ≤ 500) (t f : List Int) (ht : t.length = n) (hf : f.length = n) : drewMap (fun k => spec_l91Map.j2 k n i false l p t f) p := by
  obtain ⟨v, hv, v0, v1⟩ := pick_ev l h p hp (by omega) 50 (by omega) (by omega)
  have g1 : (0 : Int) < (f.length : Int) := by omega
  have g2 : (1 : Int) ≤ (t.length : Int) := by omega
  have g3 : (0 : Int) < (t.length : Int) := by omega
  by_cases c0 : v = 0
  · refine ⟨t, f.set 0 0, p + 1, Ev.s ?_, by omega, by simp; omega, by omega, by omega⟩
    simp only [spec_l91Map.j2, Bool.false_eq_true, if_false]; refine Ev.bind hv ?_; simp only [c0, g1, if_true]; exact Ev.const rfl
  · by_cases c1 : v = 1
    · refine ⟨t.drop 1, f, p + 1, Ev.s ?_, by simp; omega, by omega, by omega, by omega⟩
      simp only [spec_l91Map.j2, Bool.false_eq_true, if_false]; refine Ev.bind hv ?_; simp only [c0, c1, g2, show ¬ (1 : Int) = 0 by decide, if_true, if_false]; exact Ev.const rfl
    · by_cases c2 : v = 2
      · refine ⟨t.set 0 n, f, p + 1, Ev.s ?_, by simp; omega, by omega, by omega, by omega⟩
        simp only [spec_l91Map.j2, Bool.false_eq_true, if_false]; refine Ev.bind hv ?_; simp only [c2, g3, show ¬ (2 : Int) = 0 by decide, show ¬ (2 : Int) = 1 by decide, if_true, if_false]; exact Ev.const rfl
      · refine ⟨t, f, p + 1, Ev.s ?_, by omega, by omega, by omega, by omega⟩
        simp only [spec_l91Map.j2, Bool.false_eq_true, if_false]; refine Ev.bind hv ?_; simp only [c0, c1, c2, if_false]; exact Ev.const rfl
theorem map_find (n : Nat) (hn : n ≤ 12) (o : List Int) (ho : o.length = n) (i : Int) (l : List Int) (p : Int) (t f : List Int) (ht : t.length = n) (z : Nat) (hz : z < n) (hz0 : rd o z ≠ 0) (hz1 : ∀ y : Nat, y < z → rd o y = 0) (r : List Int × List Int × Int)
    (h : Ev (fun k => spec_l91Map.l1 k n (wrap64 (i + 1)) l p ((t.set 0 (rd t (z : Int))).set z (rd t 0)) f) r) : ∀ (d y : Nat), z - y = d → y ≤ z → Ev (fun k => spec_l91Map.l2 k n i o y l p t f) r
  | 0, y, hd, hy => by
    have : y = z := by omega
    subst this; refine Ev.s ?_; simp only [spec_l91Map.l2, ho, ht, show (0 : Int) ≤ (y : Int) by omega, show (y : Int) < (n : Int) by omega, hz0, show (0 : Int) < (n : Int) by omega, if_true, if_false, Int.toNat_natCast]; exact h
  | d + 1, y, hd, hy => by
    refine Ev.s ?_; simp only [spec_l91Map.l2, ho, show (0 : Int) ≤ (y : Int) by omega, show (y : Int) < (n : Int) by omega, hz1 y (by omega), if_true, w64n (show y < 4611686018427387904 by omega)]; exact map_find n hn o ho i l p t f ht z hz hz0 hz1 r h d (y + 1) (by omega) (by omega)
theorem map_loop (l : List Int) (h : bytesOk l) (n : Nat) (h1 : 1 ≤ n) (hn : n ≤ 12) (f : List Int) (hf : inR n f) (hfl : ∀ d : Nat, d < n → flipAt f d) (p : Int) (hp : 0 ≤ p) (hp' : p ≤ 500) : ∀ (d i : Nat) (t : List Int), n - i = d → i ≤ n → inR n t → injR n t → drewMap (fun k => spec_l91Map.l1 k n i l p t f) p
  | 0, i, t, hd, hi, ht, hti => by
    have : i = n := by omega
    subst this; obtain ⟨a, b, c, e1, e2⟩ := map_end l h i h1 hn i p hp hp' t f ht.1 hf.1; refine ⟨a, b, c, Ev.s ?_, e2⟩; simp only [spec_l91Map.l1, show ¬ (i : Int) < (i : Int) by omega, if_false]; exact e1
  | d + 1, i, t, hd, hi, ht, hti => by
    obtain ⟨b, b1, _, b3⟩ := mapValid_both t f (by rw [ht.1]; omega) (by rw [hf.1]; omega)
    cases b with
    | true =>
      obtain ⟨a, b', c, e1, e2⟩ := map_end l h n h1 hn i p hp hp' t f ht.1 hf.1; refine ⟨a, b', c, Ev.s ?_, e2⟩; simp only [spec_l91Map.l1, show (i : Int) < (n : Int) by omega, if_true]; refine Ev.bind b1 ?_; exact e1
    | false =>
      obtain ⟨o, o1, o2, _⟩ := orb_both t f n hn h1 ht hf
      have nz : ∃ z, z < n ∧ rd o (z : Int) ≠ 0 := by
        by_cases q : ∃ z, z < n ∧ rd o ((z : Nat) : Int) ≠ 0
        · exact q
        · exfalso
          have all0 : ∀ q : Nat, q < n → rd o q = 0 := fun z hz => by
            by_cases e : rd o (z : Int) = 0
            · exact e
            · exact absurd ⟨z, hz, e⟩ q
          have hc := (orb_zero t f n h1 ht hf o o1).1 all0; have hm : isMap t f := isMap_of ⟨hn, h1, ht, hti, hf, hfl, hc⟩; have := b3.2 hm
          cases this
      have least : ∃ z, z < n ∧ rd o (z : Int) ≠ 0 ∧ ∀ y : Nat, y < z → rd o y = 0 := by
        obtain ⟨z, hz, hz0⟩ := nz
        induction z using Nat.strongRecOn with
        | ind z ih =>
          by_cases q : ∃ y, y < z ∧ rd o ((y : Nat) : Int) ≠ 0
          · obtain ⟨y, y1, y2⟩ := q
            exact ih y y1 (by omega) y2
          · exact ⟨z, hz, hz0, fun y hy => by
              by_cases e : rd o (y : Int) = 0
              · exact e
              · exact absurd ⟨y, hy, e⟩ q⟩
      obtain ⟨z, hz, hz0, hz1⟩ := least; obtain ⟨q1, q2⟩ := set_perm t n 0 z ht hti (by omega) hz; obtain ⟨a, b', c, e1, e2⟩ := map_loop l h n h1 hn f hf hfl p hp hp' d (i + 1) _ (by omega) (by omega) q1 q2; refine ⟨a, b', c, Ev.s ?_, e2⟩; simp only [spec_l91Map.l1, show (i : Int) < (n : Int) by omega, if_true]; refine Ev.bind b1 ?_; refine Ev.s ?_; simp only [spec_l91Map.j2, Bool.not_false, if_true]; refine Ev.bind o2 ?_; refine map_find n hn o o1.1.1 i l p t f ht.1 z hz hz0 hz1 _ ?_ z 0 (by omega) (by omega); rw [w64n (by omega)]; exact e1
theorem map_pairs (l : List Int) (h : bytesOk l) (n m : Nat) (hm : n = 2 * m) (h1 : 1 ≤ m) (hn : n ≤ 12) (q : List Int) (hq : inR n q) (hqi : injR n q) (p : Int) (hp : 0 ≤ p) (hp' : p ≤ 400) : ∀ (d i : Nat) (g : List Int), m - i = d → i ≤ m → paired n q g (2 * i) → ∃ (t f : List Int) (p' : Int), Ev (fun k => spec_l91Map.l0 k n q g ((2 * i : Nat) : Int) l p) (t, f, p') ∧ t.length ≤ 12 ∧ f.length ≤ 12 ∧ 0 ≤ p' ∧ p' ≤ p + 13
  | 0, i, g, hd, hi, hg => by
    have : i = m := by omega
    subst this; rw [← hm] at hg; obtain ⟨t, t1, t2, t3⟩ := l91Perm_ev l h n (by omega) p hp (by omega); obtain ⟨a, b, c, e1, e2, e3, e4, e5⟩ := map_loop l h n (by omega) hn g hg.1 (paired_flip n i hm q g hq hqi hg) (p + n) (by omega) (by omega) n 0 t (by omega) (by omega) t2 t3; refine ⟨a, b, c, Ev.s ?_, e2, e3, e4, by omega⟩
    have w : i < 1000 := by omega
    simp only [spec_l91Map.l0, w64n (show 2 * i < 4611686018427387904 by omega), show ¬ ((2 * i + 1 : Nat) : Int) < (n : Int) by omega, if_false]; exact Ev.bind t1 e1
  | d + 1, i, g, hd, hi, hg => by
    have ra := hq.2 (2 * i) (by omega); have rb := hq.2 (2 * i + 1) (by omega); obtain ⟨a, b, c, e1, e2⟩ := map_pairs l h n m hm h1 hn q hq hqi p hp hp' d (i + 1) _ (by omega) (by omega) (pair_step n q g hq hqi i (by omega) hg); refine ⟨a, b, c, Ev.s ?_, e2⟩
    have w2 : wrap64 (((2 * i : Nat) : Int) + 2) = ((2 * (i + 1) : Nat) : Int) := by rw [w64 (by omega) (by omega)]; omega
    simp only [spec_l91Map.l0, w64n (show 2 * i < 4611686018427387904 by omega), show ((2 * i + 1 : Nat) : Int) < (n : Int) by omega, show (0 : Int) ≤ ((2 * i : Nat) : Int) by omega, show (0 : Int) ≤ ((2 * i + 1 : Nat) : Int) by omega, hq.1, show ((2 * i : Nat) : Int) < (n : Int) by omega, hg.1.1, ra.1, ra.2, rb.1, rb.2, if_true, w2]; exact e1
theorem l91Map_at (l : List Int) (h : bytesOk l) (p : Int) (hp : 0 ≤ p) (hp' : p ≤ 200) (edges : Nat) (h1 : 1 ≤ edges) (h6 : edges ≤ 6) : ∃ (t f : List Int) (p' : Int), Ev (fun k => spec_l91Map.f k l p edges) (t, f, p') ∧ t.length ≤ 12 ∧ f.length ≤ 12 ∧ 0 ≤ p' ∧ p' ≤ p + 100 := by
  obtain ⟨v, hv, v0, v1⟩ := pick_ev l h p hp (by omega) (edges : Int) (by omega) (by omega); obtain ⟨V, rfl⟩ : ∃ V : Nat, v = (V : Int) := ⟨v.toNat, by omega⟩; obtain ⟨q, q1, q2, q3⟩ := l91Perm_ev l h (2 * (1 + V)) (by omega) (p + 1) (by omega) (by omega)
  have rep : paired (2 * (1 + V)) q (List.replicate (2 * (1 + V)) 0) (2 * 0) := by
    refine ⟨⟨by simp, fun i hi => ?_⟩, fun j hj => by omega⟩; rw [rd_lt _ _ (by simpa using hi)]
    simp
    omega
  obtain ⟨a, b, c, e1, e2, e3, e4, e5⟩ := map_pairs l h (2 * (1 + V)) (1 + V) rfl (by omega) (by omega) q q2 q3 (p + 1 + ((2 * (1 + V) : Nat) : Int)) (by omega) (by omega) (1 + V) 0 _ (by omega) (by omega) rep; refine ⟨a, b, c, ?_, e2, e3, e4, by omega⟩
  unfold spec_l91Map.f
  refine Ev.bind hv ?_
  have w1 : wrap64 (1 + (V : Int)) = ((1 + V : Nat) : Int) := by rw [w64 (by omega) (by omega)]; omega
  have w2 : wrap64 (2 * ((1 + V : Nat) : Int)) = ((2 * (1 + V) : Nat) : Int) := by rw [w64 (by omega) (by omega)]; omega
  simp only [w1, w2]; refine Ev.bind q1 ?_; simp only [show (0 : Int) ≤ ((2 * (1 + V) : Nat) : Int) by omega, Int.toNat_natCast, show 2 * (1 + V) ≤ 35184372088832 by omega, if_true]; exact e1
theorem l91Map_ev (l : List Int) (h : bytesOk l) (edges : Nat) (h1 : 1 ≤ edges) (h6 : edges ≤ 6) : ∃ (t f : List Int) (p' : Int), Ev (fun k => spec_l91Map.f k l 0 edges) (t, f, p') ∧ t.length ≤ 12 ∧ f.length ≤ 12 ∧ 0 ≤ p' ∧ p' ≤ 100 := by
  obtain ⟨t, f, p', h⟩ := l91Map_at l h 0 (by omega) (by omega) edges h1 h6; exact ⟨t, f, p', by simpa using h⟩
theorem drawVal_ev (l : List Int) (hb : ∀ x ∈ l, (Lit.int .u8 x).wf = true) : ∃ (t f : List Int) (X Y Z : Int), Ev (fun k => spec_DrawRibbonValue.f k l) (t, f, X, Y, Z) ∧ t.length ≤ 12 ∧ f.length ≤ 12 := by
  obtain ⟨l', eo, h⟩ := open_ev l hb; obtain ⟨t, f, p, e1, e2, e3, e4, e5⟩ := l91Map_ev l' h 4 (by omega) (by omega); obtain ⟨v1, q1, _, _⟩ := pick_ev l' h p e4 (by omega) 4 (by omega) (by omega); obtain ⟨v2, q2, _, _⟩ := pick_ev l' h (p + 1) (by omega) (by omega) 20 (by omega) (by omega); obtain ⟨v3, q3, _, _⟩ := pick_ev l' h (p + 1 + 1) (by omega) (by omega) 4 (by omega) (by omega); obtain ⟨v4, q4, _, _⟩ := pick_ev l' h (p + 1 + 1 + 1) (by omega) (by omega) 20 (by omega) (by omega); obtain ⟨v5, q5, _, _⟩ := pick_ev l' h (p + 1 + 1 + 1 + 1) (by omega) (by omega) 4 (by omega) (by omega); refine ⟨t, f, wrap64 (v1 + wrap64 (wrap64 (Int.tdiv v2 19) * 4)), wrap64 (v3 - wrap64 (wrap64 (Int.tdiv v4 19) * 4)), v5, ?_, e2, e3⟩
  unfold spec_DrawRibbonValue.f
  simp only [eo, Option.bind_some]; refine Ev.bind e1 ?_; refine Ev.bind q1 ?_; refine Ev.bind q2 ?_; refine Ev.bind q3 ?_; refine Ev.bind q4 ?_; refine Ev.bind q5 ?_; exact Ev.const rfl
theorem sumB_le (B : Int) : ∀ (E : Nat) (F : (Nat → Bool) → Int), (∀ s, 0 ≤ F s ∧ F s ≤ B) → 0 ≤ sumB E F ∧ sumB E F ≤ ((2 ^ E : Nat) : Int) * B
  | 0, F, h => by
    have := h (fun _ => false); simp only [sumB, Nat.pow_zero]; omega
  | E + 1, F, h => by
    have h1 := sumB_le B E (fun s => F (fun j => if j = E then false else s j)) fun s => h _
    have h2 := sumB_le B E (fun s => F (fun j => if j = E then true else s j)) fun s => h _
    simp only [sumB]; rw [show ((2 ^ (E + 1) : Nat) : Int) = ((2 ^ E : Nat) : Int) + ((2 ^ E : Nat) : Int) by rw [Nat.pow_succ]; omega, Int.add_mul]; omega
theorem valS_small (t f : List Int) (n : Nat) (H : MapOk t f n) (X Y Z : Int) (x0 : 0 ≤ X) (x3 : X ≤ 3) (y0 : 0 ≤ Y) (y3 : Y ≤ 3) (z0 : 0 ≤ Z) (z3 : Z ≤ 3) : 0 ≤ valS t f n X Y Z ∧ valS t f n X Y Z ≤ 64 * 387420489 := by
  obtain ⟨a, b⟩ := sumB_le 387420489 (edL f n).length (fun s => tmV t f n X Y Z (lstS s (edL f n).length)) fun s => tmV_small t f n H X Y Z x0 x3 y0 y3 z0 z3 _ (lstS_choice s _) (lstS_len s _)
  have hh := edL_half f n H.2.2.2.2.1 H.2.2.2.2.2.1; have hn := H.1
  have hp : 2 ^ (edL f n).length ≤ 64 := by
    have : 2 ^ (edL f n).length ≤ 2 ^ 6 := Nat.pow_le_pow_right (by omega) (by omega); omega
  refine ⟨a, Int.le_trans b ?_⟩; exact Int.mul_le_mul_of_nonneg_right (by omega) (by decide)
theorem valI_or (t f : List Int) (X Y Z : Int) (ht : t.length ≤ 12) (hf : f.length ≤ 12) : Ev (fun k => impl_RibbonValue.f k t f X Y Z) (-1) ∨ isMap t f ∧ 0 ≤ X ∧ X ≤ 3 ∧ 0 ≤ Y ∧ Y ≤ 3 ∧ 0 ≤ Z ∧ Z ≤ 3 := by
  obtain ⟨b, _, b2, b3⟩ := mapValid_both t f (by omega) (by omega)
  cases b with
  | false =>
    left
    unfold impl_RibbonValue.f
    refine Ev.bind b2 ?_; simp only [Bool.false_eq_true, if_false]; exact Ev.const rfl
  | true =>
    have hm := b3.1 rfl
    by_cases x0 : X < 0
    · left
      unfold impl_RibbonValue.f
      refine Ev.bind b2 ?_; simp only [if_true, x0]; exact Ev.const rfl
    by_cases x3 : X > 3
    · left
      unfold impl_RibbonValue.f
      refine Ev.bind b2 ?_; simp only [if_true, x0, x3, if_false]; exact Ev.const rfl
    by_cases y0 : Y < 0
    · left
      unfold impl_RibbonValue.f
      refine Ev.bind b2 ?_; simp only [if_true, x0, x3, y0, if_false]; exact Ev.const rfl
    by_cases y3 : Y > 3
    · left
      unfold impl_RibbonValue.f
      refine Ev.bind b2 ?_; simp only [if_true, x0, x3, y0, y3, if_false]; exact Ev.const rfl
    by_cases z0 : Z < 0
    · left
      unfold impl_RibbonValue.f
      refine Ev.bind b2 ?_; simp only [if_true, x0, x3, y0, y3, z0, if_false]; exact Ev.const rfl
    by_cases z3 : Z > 3
    · left
      unfold impl_RibbonValue.f
      refine Ev.bind b2 ?_; simp only [if_true, x0, x3, y0, y3, z0, z3, if_false]; exact Ev.const rfl
    exact .inr ⟨hm, by omega, by omega, by omega, by omega, by omega, by omega⟩
end Go.Proofs.Ytjgknblneokhlaa.PK

namespace Go.Proofs.Ytjgknblneokhlaa.PK
open Go.RowKit Go.Proofs.YtjgknblneokhlaaW.PrintWords Go.Proofs.YtjgknblneokhlaaW.PrintLast Go.Proofs.YtjgknblneokhlaaW.PrintMore
attribute [local go_sem] max2_int min2_int max_two min_two max_three min_three max_four min_four   -- for this text's walks alone
set_option linter.unusedVariables false
set_option linter.unusedSimpArgs false
def spec_l7Leave.T14 : Bool × List (List Nat × List Nat) := (true, [([], []), ([0], [0]), ([], []), ([], []), ([], []), ([3, 4], [3, 4]), ([5], [5]), ([2, 6], [2, 6]), ([7], [7]), ([8], [8]), ([1, 9], [1, 9]), ([0, 1, 2, 3, 4, 5, 6, 7, 8, 9, 10], []), ([11, 10, 10, 0, 1, 2, 3, 4, 5, 6, 7, 8, 9, 10], [10, 11])])
def spec_l7Leave.B14 : List Nat := [0, 1, 0, 0, 0, 24, 56, 124, 252, 508, 1023, 2047, 4095]
def spec_l7Leave.T15 : Bool × List (List Nat × List Nat) := (true, [([], []), ([0], [0]), ([], []), ([], []), ([], []), ([3, 4], [3, 4]), ([5], [5]), ([2, 6], [2, 6]), ([7], [7]), ([8], [8]), ([1, 9], [1, 9]), ([0, 1, 2, 3, 4, 5, 6, 7, 8, 9, 10], []), ([11, 10, 10, 0, 1, 2, 3, 4, 5, 6, 7, 8, 9, 10], [10, 11])])
def spec_l7Leave.B15 : List Nat := [0, 1, 0, 0, 0, 24, 56, 124, 252, 508, 1023, 2047, 4095]
end Go.Proofs.Ytjgknblneokhlaa.PK

set_option linter.unusedVariables false
set_option linter.unusedSimpArgs false
namespace Go.Proofs.Ytjgknblneokhlaa.PK
open Go.RowKit Go.Proofs.YtjgknblneokhlaaW.PrintWords Go.Proofs.YtjgknblneokhlaaW.PrintLast Go.Proofs.YtjgknblneokhlaaW.PrintMore
def nmA (a b : Nat) : Nat → Nat
  | 0 => 0
  | d + 1 => nmA a b d + if d = a ∨ d = b then 0 else 1
theorem nmA_le (a b : Nat) : ∀ d, nmA a b d ≤ d
  | 0 => Nat.le_refl _
  | d + 1 => by
    have := nmA_le a b d; simp only [nmA]
    split <;> omega
def lvL (a b : Nat) (h : Nat → Int) : Nat → List Int
  | 0 => []
  | i + 1 => if i = a ∨ i = b then lvL a b h i else lvL a b h i ++ [h i]
theorem lvL_len (a b : Nat) (h : Nat → Int) : ∀ i, (lvL a b h i).length = nmA a b i
  | 0 => rfl
  | i + 1 => by
    have ih := lvL_len a b h i; simp only [lvL, nmA]
    split
    · rw [ih]; rfl
    · rw [List.length_append, ih]; rfl
theorem rd_rangeL (h : Nat → Int) (n d : Nat) (hd : d < n) : rd ((List.range n).map h) (d : Int) = h d := by
  rw [rd_lt _ _ (by simp; exact hd)]; simp
def nmT (a b n : Nat) : List Int := (List.range n).map fun (d : Nat) => (nmA a b d : Int)
theorem nmT_rd (a b n d : Nat) (h : d < n) : rd (nmT a b n) (d : Int) = (nmA a b d : Int) := rd_rangeL _ n d h
theorem nmT_len (a b n : Nat) : (nmT a b n).length = n := by simp [nmT]
def skp (p : List Int) (a b : Nat) (x : Int) : Int := if x = a ∨ x = b then (if rd p x = a ∨ rd p x = b then rd p (rd p x) else rd p x) else x
theorem skp_out (p : List Int) (n : Nat) (hp : inR n p) (hi : injR n p) (a b d : Nat) (ha : a < n) (hb : b < n) (hd : d < n) (hab : a ≠ b) (hda : d ≠ a) (hdb : d ≠ b) :
    (skp p a b (rd p (d : Int)) ≠ a ∧ skp p a b (rd p (d : Int)) ≠ b) ∧ 0 ≤ skp p a b (rd p (d : Int)) ∧ skp p a b (rd p (d : Int)) < n := by
  have rd0 := hp.2 d hd; have ra := hp.2 a ha; have rb := hp.2 b hb
  have ia : rd p (d : Int) ≠ rd p (a : Int) := fun z => hda (hi d a hd ha z)
  have ib : rd p (d : Int) ≠ rd p (b : Int) := fun z => hdb (hi d b hd hb z)
  have iab : rd p (a : Int) ≠ rd p (b : Int) := fun z => hab (hi a b ha hb z)
  unfold skp
  by_cases c : rd p (d : Int) = a ∨ rd p (d : Int) = b
  · rw [if_pos c]
    rcases c with c | c
    · rw [c]
      by_cases c2 : rd p (a : Int) = a ∨ rd p (a : Int) = b
      · rw [if_pos c2]
        rcases c2 with c2 | c2
        · exact absurd (c.trans c2.symm) ia
        · rw [c2]
          refine ⟨⟨fun z => ib (c.trans z.symm), fun z => iab (c2.trans z.symm)⟩, rb⟩
      · rw [if_neg c2]
        exact ⟨⟨fun z => c2 (.inl z), fun z => c2 (.inr z)⟩, ra⟩
    · rw [c]
      by_cases c2 : rd p (b : Int) = a ∨ rd p (b : Int) = b
      · rw [if_pos c2]
        rcases c2 with c2 | c2
        · rw [c2]
          refine ⟨⟨fun z => iab (z.trans c2.symm), fun z => ia (c.trans z.symm)⟩, ra⟩
        · exact absurd (c.trans c2.symm) ib
      · rw [if_neg c2]
        exact ⟨⟨fun z => c2 (.inl z), fun z => c2 (.inr z)⟩, rb⟩
  · rw [if_neg c]
    exact ⟨⟨fun z => c (.inl z), fun z => c (.inr z)⟩, rd0⟩
theorem skp_run (F : Nat → Int → Option Int) (p : List Int) (n : Nat) (hp : inR n p) (a b : Nat) (hstop : ∀ x : Int, x ≠ a → x ≠ b → Ev (fun k => F k x) x) (hgo : ∀ x : Int, (x = a ∨ x = b) → ∀ r, Ev (fun k => F k (rd p x)) r → Ev (fun k => F k x) r) (x : Int) (ho : skp p a b x ≠ a ∧ skp p a b x ≠ b) : Ev (fun k => F k x) (skp p a b x) := by
  unfold skp at ho ⊢
  by_cases c : x = a ∨ x = b
  · rw [if_pos c] at ho ⊢
    by_cases c2 : rd p x = a ∨ rd p x = b
    · rw [if_pos c2] at ho ⊢
      exact hgo x c _ (hgo _ c2 _ (hstop _ ho.1 ho.2))
    · rw [if_neg c2] at ho ⊢
      exact hgo x c _ (hstop _ ho.1 ho.2)
  · rw [if_neg c] at ho ⊢
    exact hstop x ho.1 ho.2
def outT (p : List Int) (a b n : Nat) : List Int := lvL a b (fun d => (nmA a b (skp p a b (rd p (d : Int))).toNat : Int)) n
def outF (f : List Int) (a b n : Nat) : List Int := lvL a b (fun d => (nmA a b (rd f (d : Int)).toNat : Int)) n
def kept (a b d : Nat) : Prop := d ≠ a ∧ d ≠ b
theorem nm_kept (a b d : Nat) (h : kept a b d) : nmA a b (d + 1) = nmA a b d + 1 := by
  simp only [nmA]; rw [if_neg (fun z => z.elim h.1 h.2)]
theorem nm_mono (a b : Nat) : ∀ (e d : Nat), nmA a b d ≤ nmA a b (d + e)
  | 0, d => Nat.le_refl _
  | e + 1, d => by
    have := nm_mono a b e d; rw [show d + (e + 1) = d + e + 1 by omega]; simp only [nmA]; omega
theorem nm_lt (a b d e : Nat) (h : kept a b d) (hd : d < e) : nmA a b d < nmA a b e := by
  have h1 := nm_kept a b d h; have h2 := nm_mono a b (e - (d + 1)) (d + 1); rw [show d + 1 + (e - (d + 1)) = e by omega] at h2; omega
theorem nm_inj (a b d e : Nat) (h : kept a b d) (h' : kept a b e) (z : nmA a b d = nmA a b e) : d = e := by
  by_cases h1 : d < e
  · have := nm_lt a b d e h h1; omega
  · by_cases h2 : e < d
    · have := nm_lt a b e d h' h2; omega
    · omega
theorem nm_all (a b : Nat) (hab : a ≠ b) : ∀ m, nmA a b m + (if a < m then 1 else 0) + (if b < m then 1 else 0) = m
  | 0 => by simp [nmA]
  | m + 1 => by
    have ih := nm_all a b hab m; simp only [nmA]
    by_cases c1 : m = a
    · subst c1
      rw [if_neg (Nat.lt_irrefl _)] at ih; rw [if_pos (.inl rfl), if_pos (by omega)]
      by_cases c2 : b < m
      · rw [if_pos c2] at ih
        rw [if_pos (by omega)]; omega
      · rw [if_neg c2] at ih
        rw [if_neg (by omega)]; omega
    · by_cases c2 : m = b
      · subst c2
        rw [if_neg (Nat.lt_irrefl m)] at ih; rw [if_pos (.inr rfl), if_pos (show m < m + 1 by omega)]
        by_cases c3 : a < m
        · rw [if_pos c3] at ih
          rw [if_pos (by omega)]; omega
        · rw [if_neg c3] at ih
          rw [if_neg (by omega)]; omega
      · rw [if_neg (fun z => z.elim c1 c2)]
        have e1 : (if a < m + 1 then 1 else 0) = (if a < m then 1 else 0) := by
          by_cases c3 : a < m
          · rw [if_pos c3, if_pos (by omega)]
          · rw [if_neg c3, if_neg (by omega)]
        have e2 : (if b < m + 1 then 1 else 0) = (if b < m then 1 else 0) := by
          by_cases c3 : b < m
          · rw [if_pos c3, if_pos (by omega)]
          · rw [if_neg c3, if_neg (by omega)]
        rw [e1, e2]; omega
theorem nm_total (a b n : Nat) (ha : a < n) (hb : b < n) (hab : a ≠ b) : nmA a b n + 2 = n := by
  have := nm_all a b hab n; rw [if_pos ha, if_pos hb] at this; omega
theorem nm_surj (a b : Nat) : ∀ (i m : Nat), m < nmA a b i → ∃ d, d < i ∧ kept a b d ∧ nmA a b d = m
  | 0, m, h => by simp [nmA] at h
  | i + 1, m, h => by
    by_cases c : m < nmA a b i
    · obtain ⟨d, h1, h2, h3⟩ := nm_surj a b i m c
      exact ⟨d, by omega, h2, h3⟩
    · simp only [nmA] at h
      by_cases c2 : i = a ∨ i = b
      · rw [if_pos c2] at h; omega
      · rw [if_neg c2] at h
        exact ⟨i, by omega, ⟨fun z => c2 (.inl z), fun z => c2 (.inr z)⟩, by omega⟩
theorem nm_bound (a b n d : Nat) (ha : a < n) (hb : b < n) (hab : a ≠ b) (hd : d < n) (hk : kept a b d) : nmA a b d < n - 2 := by
  have h1 := nm_lt a b d n hk hd; have h2 := nm_total a b n ha hb hab; omega
theorem lvL_rd (a b : Nat) (h : Nat → Int) : ∀ (i d : Nat), d < i → kept a b d → rd (lvL a b h i) (nmA a b d : Int) = h d
  | 0, d, hd, hk => by omega
  | i + 1, d, hd, hk => by
    have hl := lvL_len a b h i; simp only [lvL]
    by_cases c : i = a ∨ i = b
    · rw [if_pos c]
      refine lvL_rd a b h i d ?_ hk
      have : d ≠ i := fun z => c.elim (fun y => hk.1 (z.trans y)) (fun y => hk.2 (z.trans y))
      omega
    · rw [if_neg c]
      by_cases c2 : d = i
      · subst c2
        rw [rd_lt _ (nmA a b d) (by simp [hl])]; rw [List.getElem_append_right (by omega)]
        simp [hl]
      · have h2 := nm_lt a b d i hk (by omega)
        rw [rd_app_lt _ _ _ (by omega)]; exact lvL_rd a b h i d (by omega) hk
def TellsQ (a b n : Nat) (q : Nat → Nat) (L : List Int) : Prop := L.length = n - 2 ∧ ∀ d, d < n → kept a b d → q d < n ∧ kept a b (q d) ∧ rd L (nmA a b d : Int) = (nmA a b (q d) : Int)
theorem TellsQ.inR {a b n : Nat} {q : Nat → Nat} {L : List Int} (h : TellsQ a b n q L) (ha : a < n) (hb : b < n) (hab : a ≠ b) : inR (n - 2) L := by
  refine ⟨h.1, fun m hm => ?_⟩; have ht := nm_total a b n ha hb hab; obtain ⟨d, h1, h2, rfl⟩ := nm_surj a b n m (by omega); obtain ⟨q1, q2, q3⟩ := h.2 d h1 h2; have := nm_bound a b n (q d) ha hb hab q1 q2; rw [q3]; omega
theorem TellsQ.injR {a b n : Nat} {q : Nat → Nat} {L : List Int} (h : TellsQ a b n q L) (ha : a < n) (hb : b < n) (hab : a ≠ b) (hq : ∀ d e, d < n → e < n → kept a b d → kept a b e → q d = q e → d = e) : injR (n - 2) L := by
  intro i j hi hj e; have ht := nm_total a b n ha hb hab; obtain ⟨d, h1, h2, rfl⟩ := nm_surj a b n i (by omega); obtain ⟨d', h1', h2', rfl⟩ := nm_surj a b n j (by omega); obtain ⟨q1, q2, q3⟩ := h.2 d h1 h2; obtain ⟨q1', q2', q3'⟩ := h.2 d' h1' h2'; rw [q3, q3'] at e; have := nm_inj a b _ _ q2 q2' (by omega); rw [hq d d' h1 h1' h2 h2' this]
theorem tells_ext {a b n : Nat} {q q' : Nat → Nat} {L L' : List Int} (h : TellsQ a b n q L) (h' : TellsQ a b n q' L') (ha : a < n) (hb : b < n) (hab : a ≠ b) (hq : ∀ d, d < n → kept a b d → q d = q' d) : L = L' := by
  refine list_ext _ _ (by rw [h.1, h'.1]) fun i hi => ?_
  rw [h.1] at hi; have ht := nm_total a b n ha hb hab; obtain ⟨d, h1, h2, rfl⟩ := nm_surj a b n i (by omega); rw [(h.2 d h1 h2).2.2, (h'.2 d h1 h2).2.2, hq d h1 h2]
theorem cl_skip {a b n : Nat} (ha : a < n) (hb : b < n) (hab : a ≠ b) {R R' : Nat → Nat → Prop} (hr : ∀ x, R x x) (hs : ∀ x y, R x y → R y x) (ht : ∀ x y z, R x y → R y z → R x z)
    (hk : ∀ x y, x < n → y < n → kept a b x → kept a b y → (R' (nmA a b x) (nmA a b y) ↔ R x y)) (he : ∀ x, x < n → ∃ y, y < n ∧ kept a b y ∧ R x y) {V : Nat} (hV : Cl n R V) : Cl (n - 2) R' V := by
  have hl : ∀ x, x < n → ∃ y, y < n ∧ (kept a b y ∧ ∀ z, z < y → kept a b z → ¬ R z y) ∧ R x y := by
    intro x hx; obtain ⟨y, y1, y2, y3⟩ := he x hx
    have key : ∀ y, y < n → kept a b y → ∃ z, z < n ∧ (kept a b z ∧ ∀ w, w < z → kept a b w → ¬ R w z) ∧ R y z := by
      intro y
      induction y using Nat.strongRecOn with
      | ind y ih =>
        intro hy ky
        by_cases c : ∃ w, w < y ∧ kept a b w ∧ R w y
        · obtain ⟨w, w1, w2, w3⟩ := c
          obtain ⟨z, z1, z2, z3⟩ := ih w w1 (by omega) w2; exact ⟨z, z1, z2, ht _ _ _ (hs _ _ w3) z3⟩
        · exact ⟨y, hy, ⟨ky, fun w h1 h2 h3 => c ⟨w, h1, h2, h3⟩⟩, hr y⟩
    obtain ⟨z, z1, z2, z3⟩ := key y y1 y2; exact ⟨z, z1, z2, ht _ _ _ y3 z3⟩
  obtain ⟨k, hkc, _⟩ := Cnt.ex (fun x => kept a b x ∧ ∀ z, z < x → kept a b z → ¬ R z x) n; have e1 : V ≤ k := Cnt.reps R hs ht hV hkc (fun x hx _ => hl x hx) (fun x y hx px hy py h => lst_uniq R hs x y px py h); have e2 : k ≤ V := Cnt.reps R hs ht hkc hV (fun x hx _ => by
      obtain ⟨y, y1, y2, y3⟩ := lst_ex R hr hs ht x
      exact ⟨y, by omega, y2, hs _ _ y3⟩) (fun x y hx px hy py h => by
      by_cases c : x < y
      · exact absurd h (py.2 x c px.1)
      · by_cases c2 : y < x
        · exact absurd (hs _ _ h) (px.2 y c2 py.1)
        · omega)
  have e3 : k = V := by omega
  subst e3; obtain ⟨L, l1, l2, l3⟩ := hkc; have htot := nm_total a b n ha hb hab; refine ⟨L.map (nmA a b), ?_, fun m => ?_, by rw [List.length_map]; exact l3⟩
  · refine List.Pairwise.map _ (fun x y h => h) ?_ |> fun z => z
    have : L.Pairwise (fun x y => nmA a b x ≠ nmA a b y) := by
      refine (List.nodup_iff_pairwise_ne.1 l1).imp_of_mem ?_; intro x y hx hy hne z; exact hne (nm_inj a b x y ((l2 x).1 hx).2.1 ((l2 y).1 hy).2.1 z)
    exact this
  · rw [List.mem_map]
    constructor
    · rintro ⟨x, hx, rfl⟩
      obtain ⟨x1, x2, x3⟩ := (l2 x).1 hx; refine ⟨nm_bound a b n x ha hb hab x1 x2, fun i hi hR => ?_⟩; obtain ⟨y, y1, y2, rfl⟩ := nm_surj a b n i (by have := nm_bound a b n x ha hb hab x1 x2; omega)
      have hyx : y < x := by
        by_cases c : y < x
        · exact c
        · by_cases c2 : y = x
          · subst c2; omega
          · have := nm_lt a b x y x2 (by omega); omega
      exact x3 y hyx y2 ((hk y x y1 x1 y2 x2).1 hR)
    · rintro ⟨hm, hl'⟩
      obtain ⟨x, x1, x2, rfl⟩ := nm_surj a b n m (by omega); refine ⟨x, (l2 x).2 ⟨x1, x2, fun z hz kz hR => ?_⟩, rfl⟩; exact hl' (nmA a b z) (nm_lt a b z x kz hz) ((hk z x (by omega) x1 kz x2).2 hR)
def NoA (p : List Int) (a b : Nat) : Prop := rd p (a : Int) ≠ a ∧ rd p (b : Int) ≠ b ∧ ¬ (rd p (a : Int) = b ∧ rd p (b : Int) = a)
theorem skp_kept (p : List Int) (a b d : Nat) (h : kept a b d) : skp p a b (d : Int) = d := by
  unfold skp
  rw [if_neg (fun z => z.elim (fun y => h.1 (by omega)) (fun y => h.2 (by omega)))]
theorem skp_noA (p : List Int) (n : Nat) (hp : inR n p) (a b : Nat) (ha : a < n) (hb : b < n) (hN : NoA p a b) (x : Nat) (hx : x < n) : 0 ≤ skp p a b (x : Int) ∧ skp p a b (x : Int) < n ∧ kept a b (skp p a b (x : Int)).toNat := by
  obtain ⟨n1, n2, n3⟩ := hN; have ra := hp.2 a ha; have rb := hp.2 b hb
  by_cases c : kept a b x
  · rw [skp_kept p a b x c]
    exact ⟨by omega, by omega, by rw [Int.toNat_natCast]; exact c⟩
  · have c' : x = a ∨ x = b := by
      unfold kept at c
      omega
    unfold skp kept
    rcases c' with rfl | rfl
    · rw [if_pos (.inl rfl)]
      by_cases c2 : rd p (x : Int) = x ∨ rd p (x : Int) = b
      · rw [if_pos c2]
        have e := c2.resolve_left n1; rw [e]
        have e3 : rd p (b : Int) ≠ x := fun z => n3 ⟨e, z⟩
        omega
      · rw [if_neg c2]
        omega
    · rw [if_pos (.inr rfl)]
      by_cases c2 : rd p (x : Int) = a ∨ rd p (x : Int) = x
      · rw [if_pos c2]
        have e := c2.resolve_right n2; rw [e]
        have e3 : rd p (a : Int) ≠ x := fun z => n3 ⟨z, e⟩
        omega
      · rw [if_neg c2]
        omega
theorem skp_step (p : List Int) (n : Nat) (hp : inR n p) (a b : Nat) (hN : NoA p a b) (x : Nat) (hx : ¬ kept a b x) : skp p a b (rd p (x : Int)) = skp p a b (x : Int) := by
  obtain ⟨n1, n2, n3⟩ := hN
  have c' : x = a ∨ x = b := by
    unfold kept at hx
    omega
  unfold skp
  rcases c' with rfl | rfl
  · rw [if_pos (show (x : Int) = x ∨ (x : Int) = b from .inl rfl)]
    by_cases c2 : rd p (x : Int) = x ∨ rd p (x : Int) = b
    · rw [if_pos c2, if_pos c2]
      have e := c2.resolve_left n1; rw [e]; rw [if_neg (fun z => z.elim (fun y => n3 ⟨e, y⟩) n2)]
    · rw [if_neg c2, if_neg c2]
  · rw [if_pos (show (x : Int) = a ∨ (x : Int) = x from .inr rfl)]
    by_cases c2 : rd p (x : Int) = a ∨ rd p (x : Int) = x
    · rw [if_pos c2, if_pos c2]
      have e := c2.resolve_right n2; rw [e]; rw [if_neg (fun z => z.elim n1 (fun y => n3 ⟨y, e⟩))]
    · rw [if_neg c2, if_neg c2]
theorem skp_closed (p : List Int) (n : Nat) (hp : inR n p) (a b : Nat) (S : Nat → Prop) (hS : closedL [p] n S) (x : Nat) (hx : x < n) : S x ↔ S (skp p a b (x : Int)).toNat := by
  have st : ∀ y : Nat, y < n → (S y ↔ S (rd p (y : Int)).toNat) := hS p (by simp)
  unfold skp
  by_cases c : (x : Int) = a ∨ (x : Int) = b
  · rw [if_pos c]
    have rx := hp.2 x hx
    by_cases c2 : rd p (x : Int) = a ∨ rd p (x : Int) = b
    · rw [if_pos c2]
      have h1 := st x hx; have h2 := st (rd p (x : Int)).toNat (by omega); rw [show (((rd p (x : Int)).toNat : Nat) : Int) = rd p (x : Int) by omega] at h2; exact h1.trans h2
    · rw [if_neg c2]
      exact st x hx
  · rw [if_neg c, Int.toNat_natCast]
theorem reach_skip (p F L F' : List Int) (n : Nat) (hp : inR n p) (a b : Nat) (ha : a < n) (hb : b < n) (hab : a ≠ b) (hN : NoA p a b) (hL : TellsQ a b n (fun d => (skp p a b (rd p (d : Int))).toNat) L) (hF : inR n F) (hF' : TellsQ a b n (fun d => (rd F (d : Int)).toNat) F')
    (hFa : ∀ x : Nat, x < n → ¬ kept a b x → ¬ kept a b (rd F (x : Int)).toNat ∧ Reach [p] n x (rd F (x : Int)).toNat) (x y : Nat) (hx : x < n) (hy : y < n) (kx : kept a b x) (ky : kept a b y) :
    Reach [L, F'] (n - 2) (nmA a b x) (nmA a b y) ↔ Reach [p, F] n x y := by
  have htot := nm_total a b n ha hb hab
  constructor
  · intro h S hS
    have hSp : closedL [p] n S := fun q hq => hS q (by rw [List.mem_singleton.1 hq]; simp)
    have hSF : ∀ k : Nat, k < n → (S k ↔ S (rd F (k : Int)).toNat) := hS F (by simp); have hst : ∀ k : Nat, k < n → (S k ↔ S (rd p (k : Int)).toNat) := hS p (by simp)
    have tell : ∀ d, d < n → kept a b d → ((∃ e, e < n ∧ kept a b e ∧ nmA a b e = nmA a b d ∧ S e) ↔ S d) := fun d hd kd => ⟨fun ⟨e, e1, e2, e3, e4⟩ => by rw [← nm_inj a b e d e2 kd e3]; exact e4, fun h => ⟨d, hd, kd, rfl, h⟩⟩
    have := h (fun m => ∃ e, e < n ∧ kept a b e ∧ nmA a b e = m ∧ S e) (by
      intro q hq m hm; obtain ⟨d, d1, d2, rfl⟩ := nm_surj a b n m (by omega)
      rcases List.mem_cons.1 hq with rfl | hq
      · obtain ⟨q1, q2, q3⟩ := hL.2 d d1 d2
        rw [q3, Int.toNat_natCast]; have rx := hp.2 d d1; have h2 := skp_closed p n hp a b S hSp (rd p (d : Int)).toNat (by omega); rw [show (((rd p (d : Int)).toNat : Nat) : Int) = rd p (d : Int) by omega] at h2; exact ((tell d d1 d2).trans ((hst d d1).trans h2)).trans (tell _ q1 q2).symm
      · rw [List.mem_singleton.1 hq]
        obtain ⟨q1, q2, q3⟩ := hF'.2 d d1 d2; rw [q3, Int.toNat_natCast]; exact ((tell d d1 d2).trans (hSF d d1)).trans (tell _ q1 q2).symm)
    exact ((tell x hx kx).symm.trans this).trans (tell y hy ky)
  · intro h S' hS'
    have key : closedL [p] n (fun z => S' (nmA a b (skp p a b (z : Int)).toNat)) := by
      intro q hq z hz; rw [List.mem_singleton.1 hq]; have rz := hp.2 z hz
      show S' (nmA a b (skp p a b (z : Int)).toNat) ↔ S' (nmA a b (skp p a b (((rd p (z : Int)).toNat : Nat) : Int)).toNat)
      rw [show (((rd p (z : Int)).toNat : Nat) : Int) = rd p (z : Int) by omega]
      by_cases c : kept a b z
      · rw [skp_kept p a b z c, Int.toNat_natCast]
        have := hS' L (by simp) (nmA a b z) (by exact nm_bound a b n z ha hb hab hz c); rw [(hL.2 z hz c).2.2, Int.toNat_natCast] at this; exact this
      · rw [skp_step p n hp a b hN z c]
    have := h (fun z => S' (nmA a b (skp p a b (z : Int)).toNat)) (by
      intro q hq z hz
      rcases List.mem_cons.1 hq with rfl | hq
      · exact key q (by simp) z hz
      · rw [List.mem_singleton.1 hq]
        by_cases c : kept a b z
        · obtain ⟨q1, q2, q3⟩ := hF'.2 z hz c
          have h3 := hS' F' (by simp) (nmA a b z) (nm_bound a b n z ha hb hab hz c); rw [q3, Int.toNat_natCast] at h3
          show S' (nmA a b (skp p a b (z : Int)).toNat) ↔ S' (nmA a b (skp p a b (((rd F (z : Int)).toNat : Nat) : Int)).toNat)
          rw [skp_kept p a b z c, Int.toNat_natCast, skp_kept p a b _ q2, Int.toNat_natCast]; exact h3
        · exact (hFa z hz c).2 _ key)
    simp only [skp_kept p a b x kx, skp_kept p a b y ky, Int.toNat_natCast] at this; exact this
theorem reach_skip1 (p L : List Int) (n : Nat) (hp : inR n p) (a b : Nat) (ha : a < n) (hb : b < n) (hab : a ≠ b) (hN : NoA p a b) (hL : TellsQ a b n (fun d => (skp p a b (rd p (d : Int))).toNat) L) (x y : Nat) (hx : x < n) (hy : y < n) (kx : kept a b x) (ky : kept a b y) :
    Reach [L] (n - 2) (nmA a b x) (nmA a b y) ↔ Reach [p] n x y := by
  have st : ∀ (q : List Int) (m : Nat) (u v : Nat), Reach [q, stl m] m u v ↔ Reach [q] m u v := by
    intro q m u v
    constructor
    · intro h S hS
      refine h S fun r hr k hk => ?_
      rcases List.mem_cons.1 hr with rfl | hr
      · exact hS r (by simp) k hk
      · rw [List.mem_singleton.1 hr, stl_rd m k hk, Int.toNat_natCast]
    · intro h S hS
      exact h S fun r hr k hk => hS r (by rw [List.mem_singleton.1 hr]; simp) k hk
  have h := reach_skip p (stl n) L (stl (n - 2)) n hp a b ha hb hab hN hL ⟨stl_length n, fun i hi => by rw [stl_rd n i hi]; omega⟩ ⟨stl_length _, fun d hd kd => by
      show (rd (stl n) (d : Int)).toNat < n ∧ kept a b (rd (stl n) (d : Int)).toNat ∧ rd (stl (n - 2)) (nmA a b d : Int) = (nmA a b (rd (stl n) (d : Int)).toNat : Int)
      rw [stl_rd n d hd, Int.toNat_natCast]
      exact ⟨hd, kd, stl_rd _ _ (nm_bound a b n d ha hb hab hd kd)⟩⟩ (fun z hz hk => by
      rw [stl_rd n z hz, Int.toNat_natCast]; exact ⟨hk, Reach.refl _ _ _⟩) x y hx hy kx ky
  rw [st, st] at h; exact h
theorem skp_reach (p : List Int) (n : Nat) (hp : inR n p) (a b x : Nat) (hx : x < n) : Reach [p] n x (skp p a b (x : Int)).toNat := fun S hS => skp_closed p n hp a b S hS x hx
theorem cl_left (p L : List Int) (n : Nat) (hp : inR n p) (a b : Nat) (ha : a < n) (hb : b < n) (hab : a ≠ b) (hN : NoA p a b) (hL : TellsQ a b n (fun d => (skp p a b (rd p (d : Int))).toNat) L) (V : Nat) (hV : Cl n (Reach [p] n) V) : Cl (n - 2) (Reach [L] (n - 2)) V :=
  cl_skip ha hb hab (fun x => Reach.refl _ _ x) (fun x y h => h.symm) (fun x y z h h' => h.trans h') (fun x y hx hy kx ky => reach_skip1 p L n hp a b ha hb hab hN hL x y hx hy kx ky) (fun x hx => by
    obtain ⟨s1, s2, s3⟩ := skp_noA p n hp a b ha hb hN x hx; exact ⟨_, by omega, s3, skp_reach p n hp a b x hx⟩) hV
theorem cl_left2 (p F L F' : List Int) (n : Nat) (hp : inR n p) (a b : Nat) (ha : a < n) (hb : b < n) (hab : a ≠ b) (hN : NoA p a b) (hL : TellsQ a b n (fun d => (skp p a b (rd p (d : Int))).toNat) L) (hF : inR n F) (hF' : TellsQ a b n (fun d => (rd F (d : Int)).toNat) F')
    (hFa : ∀ x : Nat, x < n → ¬ kept a b x → ¬ kept a b (rd F (x : Int)).toNat ∧ Reach [p] n x (rd F (x : Int)).toNat) (V : Nat) (hV : Cl n (Reach [p, F] n) V) : Cl (n - 2) (Reach [L, F'] (n - 2)) V :=
  cl_skip ha hb hab (fun x => Reach.refl _ _ x) (fun x y h => h.symm) (fun x y z h h' => h.trans h') (fun x y hx hy kx ky => reach_skip p F L F' n hp a b ha hb hab hN hL hF hF' hFa x y hx hy kx ky) (fun x hx => by
    obtain ⟨s1, s2, s3⟩ := skp_noA p n hp a b ha hb hN x hx; exact ⟨_, by omega, s3, fun S hS => skp_reach p n hp a b x hx S fun q hq => hS q (by rw [List.mem_singleton.1 hq]; simp)⟩) hV
theorem outT_tells (p : List Int) (n : Nat) (hp : inR n p) (hi : injR n p) (a b : Nat) (ha : a < n) (hb : b < n) (hab : a ≠ b) : TellsQ a b n (fun d => (skp p a b (rd p (d : Int))).toNat) (outT p a b n) := by
  have htot := nm_total a b n ha hb hab; refine ⟨by unfold outT; rw [lvL_len]; omega, fun d hd kd => ?_⟩; obtain ⟨⟨s1, s2⟩, s3, s4⟩ := skp_out p n hp hi a b d ha hb hd hab kd.1 kd.2
  show (skp p a b (rd p (d : Int))).toNat < n ∧ kept a b (skp p a b (rd p (d : Int))).toNat ∧ rd (outT p a b n) (nmA a b d : Int) = (nmA a b (skp p a b (rd p (d : Int))).toNat : Int)
  refine ⟨by omega, ⟨by omega, by omega⟩, ?_⟩
  unfold outT
  rw [lvL_rd a b _ n d hd kd]
theorem outF_tells (f : List Int) (n : Nat) (hf : inR n f) (a b : Nat) (ha : a < n) (hb : b < n) (hab : a ≠ b) (hk : ∀ d : Nat, d < n → kept a b d → kept a b (rd f (d : Int)).toNat) : TellsQ a b n (fun d => (rd f (d : Int)).toNat) (outF f a b n) := by
  have htot := nm_total a b n ha hb hab; refine ⟨by unfold outF; rw [lvL_len]; omega, fun d hd kd => ?_⟩; have := hf.2 d hd
  show (rd f (d : Int)).toNat < n ∧ kept a b (rd f (d : Int)).toNat ∧ rd (outF f a b n) (nmA a b d : Int) = (nmA a b (rd f (d : Int)).toNat : Int)
  refine ⟨by omega, hk d hd kd, ?_⟩
  unfold outF
  rw [lvL_rd a b _ n d hd kd]
theorem skp_inj (p : List Int) (n : Nat) (hp : inR n p) (hi : injR n p) (a b : Nat) (ha : a < n) (hb : b < n) (d e : Nat) (hd : d < n) (he : e < n) (kd : kept a b d) (ke : kept a b e) (h : skp p a b (rd p (d : Int)) = skp p a b (rd p (e : Int))) : d = e := by
  have inj : ∀ x y : Int, 0 ≤ x → x < n → 0 ≤ y → y < n → rd p x = rd p y → x = y := fun x y h1 h2 h3 h4 h5 => by
    have := hi x.toNat y.toNat (by omega) (by omega) (by rw [show ((x.toNat : Nat) : Int) = x by omega, show ((y.toNat : Nat) : Int) = y by omega]; exact h5); omega
  have rng : ∀ x : Int, 0 ≤ x → x < n → 0 ≤ rd p x ∧ rd p x < n := fun x h1 h2 => by
    have := hp.2 x.toNat (by omega)
    rwa [show ((x.toNat : Nat) : Int) = x by omega] at this
  obtain ⟨d1, d2⟩ := rng (d : Int) (by omega) (by omega); obtain ⟨e1, e2⟩ := rng (e : Int) (by omega) (by omega); obtain ⟨d3, d4⟩ := rng _ d1 d2; obtain ⟨e3, e4⟩ := rng _ e1 e2
  have kd1 : (d : Int) ≠ a := fun z => kd.1 (by omega)
  have kd2 : (d : Int) ≠ b := fun z => kd.2 (by omega)
  have ke1 : (e : Int) ≠ a := fun z => ke.1 (by omega)
  have ke2 : (e : Int) ≠ b := fun z => ke.2 (by omega)
  unfold skp at h
  by_cases c : rd p (d : Int) = a ∨ rd p (d : Int) = b
  · rw [if_pos c] at h
    by_cases c' : rd p (e : Int) = a ∨ rd p (e : Int) = b
    · rw [if_pos c'] at h
      by_cases c2 : rd p (rd p (d : Int)) = a ∨ rd p (rd p (d : Int)) = b
      · rw [if_pos c2] at h
        by_cases c2' : rd p (rd p (e : Int)) = a ∨ rd p (rd p (e : Int)) = b
        · rw [if_pos c2'] at h
          have := inj _ _ (by omega) (by omega) (by omega) (by omega) (inj _ _ d1 d2 e1 e2 (inj _ _ d3 d4 e3 e4 h)); omega
        · rw [if_neg c2'] at h
          have := inj _ _ d1 d2 (by omega) (by omega) (inj _ _ d3 d4 e1 e2 h)
          rcases c with c | c
          · exact absurd (this.symm.trans c) ke1
          · exact absurd (this.symm.trans c) ke2
      · rw [if_neg c2] at h
        by_cases c2' : rd p (rd p (e : Int)) = a ∨ rd p (rd p (e : Int)) = b
        · rw [if_pos c2'] at h
          have := inj _ _ (by omega) (by omega) e1 e2 (inj _ _ d1 d2 e3 e4 h)
          rcases c' with c' | c'
          · exact absurd (this.trans c') kd1
          · exact absurd (this.trans c') kd2
        · rw [if_neg c2'] at h
          have := inj _ _ (by omega) (by omega) (by omega) (by omega) (inj _ _ d1 d2 e1 e2 h); omega
    · rw [if_neg c'] at h
      by_cases c2 : rd p (rd p (d : Int)) = a ∨ rd p (rd p (d : Int)) = b
      · rw [if_pos c2] at h
        have := inj _ _ d3 d4 (by omega) (by omega) h
        rcases c2 with c2 | c2
        · exact absurd (this.symm.trans c2) ke1
        · exact absurd (this.symm.trans c2) ke2
      · rw [if_neg c2] at h
        have := inj _ _ d1 d2 (by omega) (by omega) h
        rcases c with c | c
        · exact absurd (this.symm.trans c) ke1
        · exact absurd (this.symm.trans c) ke2
  · rw [if_neg c] at h
    by_cases c' : rd p (e : Int) = a ∨ rd p (e : Int) = b
    · rw [if_pos c'] at h
      by_cases c2' : rd p (rd p (e : Int)) = a ∨ rd p (rd p (e : Int)) = b
      · rw [if_pos c2'] at h
        have := inj _ _ (by omega) (by omega) e3 e4 h
        rcases c2' with c2' | c2'
        · exact absurd (this.trans c2') kd1
        · exact absurd (this.trans c2') kd2
      · rw [if_neg c2'] at h
        have := inj _ _ (by omega) (by omega) e1 e2 h
        rcases c' with c' | c'
        · exact absurd (this.trans c') kd1
        · exact absurd (this.trans c') kd2
    · rw [if_neg c'] at h
      have := inj _ _ (by omega) (by omega) (by omega) (by omega) h; omega
theorem cyS_reps (p : List Int) (n : Nat) (hp : inR n p) (hi : injR n p) : ∀ i, i ≤ n → ∃ reps : List Nat, reps.length = (cyS p n i).2.length ∧ reps.Nodup ∧ (∀ j, j ∈ reps ↔ j < i ∧ lst (Reach [p] n) j) ∧ ∀ (q : Nat) (h : q < reps.length) (x : Nat), x < n → ((x : Int) ∈ rd_L1 (cyS p n i).2 q ↔ Reach [p] n reps[q] x)
  | 0, _ => ⟨[], by simp [cyS], List.nodup_nil, by simp, fun q h => by simp at h⟩
  | i + 1, hi' => by
    obtain ⟨reps, r1, r2, r3, r4⟩ := cyS_reps p n hp hi i (by omega); have seen := cyS_seen p n hp hi i (by omega) i (by omega); have l1 := cyS_len p n i; simp only [cyS]
    by_cases e : (cyS p n i).1.getD i false = true
    · rw [cw_seen p (n + 1) _ _ _ (by rw [rdOf_nat _ _ (by omega), Int.toNat_natCast]; exact e)]
      rw [if_pos rfl]; obtain ⟨j, hj, h⟩ := seen.1 e; refine ⟨reps, r1, r2, fun q => ?_, r4⟩; rw [r3]
      constructor
      · rintro ⟨a, b⟩; exact ⟨by omega, b⟩
      · rintro ⟨a, b⟩
        by_cases z : q = i
        · subst z; exact absurd h (b j hj)
        · exact ⟨by omega, b⟩
    · have e' : ¬ rdOf false (cyS p n i).1 (i : Int) = true := by rw [rdOf_nat _ _ (by omega), Int.toNat_natCast]; exact e
      have hl : lst (Reach [p] n) i := fun j hj h => e (seen.2 ⟨j, hj, h⟩)
      obtain ⟨w1, w2, w3, w4, w5, w6⟩ := cw_ends p n hp i (by omega) (fun x => x < n ∧ (cyS p n i).1.getD x false = true) (n + 1) (cyS p n i).1 [] i l1 (by omega) (by have := fresh_le (cyS p n i).1; omega)
        (fun y hy hsy => .inl (by
          have pr := hp.2 y hy; obtain ⟨j, hj, h⟩ := (cyS_seen p n hp hi i (by omega) y hy).1 hsy; exact (cyS_seen p n hp hi i (by omega) _ (by omega)).2 ⟨j, hj, h.trans (Reach.step (by simp) hy)⟩))
        (Reach.refl _ _ _) (fun y hy hsy => .inl ⟨hy, hsy⟩) (fun y hy => hy.2) (.inr rfl) (by simp) (fun z => absurd rfl z) (fun y hy hsy => .inl ⟨hy, hsy⟩)
      have hc := closed_of_fwd p n hp hi (fun y => (cw p (n + 1) (cyS p n i).1 [] i).1.getD y false = true) w1; rw [if_neg (cw_new p n _ i e')]; refine ⟨reps ++ [i], by rw [List.length_append, List.length_append, r1]; rfl, List.nodup_append.2 ⟨r2, by simp, fun a ha b hb z => ?_⟩, fun q => ?_, fun q hq x hx => ?_⟩
      · have := ((r3 a).1 ha).1
        rw [List.mem_singleton] at hb; omega
      · rw [List.mem_append, List.mem_singleton, r3]
        constructor
        · rintro (⟨a, b⟩ | rfl)
          · exact ⟨by omega, b⟩
          · exact ⟨by omega, hl⟩
        · rintro ⟨a, b⟩
          by_cases z : q = i
          · exact .inr z
          · exact .inl ⟨by omega, b⟩
      · by_cases hq' : q < reps.length
        · rw [rdL_nth _ q (by simp; omega), List.getElem_append_left (by omega), List.getElem_append_left hq', ← rdL_nth _ q (by omega)]
          exact r4 q hq' x hx
        · have hq2 : q = reps.length := by simp at hq; omega
          subst hq2; rw [rdL_nth _ _ (by simp; omega), List.getElem_append_right (by omega), List.getElem_append_right (Nat.le_refl _)]; simp only [r1, Nat.sub_self, List.getElem_cons_zero]
          constructor
          · intro hm
            have := (w5 x hm).2.2
            rwa [Int.toNat_natCast] at this
          · intro h
            have z := (h _ hc).1 w4
            rcases w6 x hx z with ⟨_, z⟩ | z
            · obtain ⟨j, hj, hr⟩ := (cyS_seen p n hp hi i (by omega) x hx).1 z
              exact absurd (hr.trans h.symm) (hl j hj)
            · exact z
theorem fold_rd (v : Int) (n : Nat) : ∀ (l o : List Int), o.length = n → (∀ x ∈ l, 0 ≤ x ∧ x < n) → ∀ x : Nat, x < n → rd (l.foldl (fun o d => o.set d.toNat v) o) (x : Int) = if (x : Int) ∈ l then v else rd o (x : Int)
  | [], o, ho, hl, x, hx => by simp
  | y :: l, o, ho, hl, x, hx => by
    have hy := hl y (by simp); rw [List.foldl_cons, fold_rd v n l _ (by simpa using ho) (fun z hz => hl z (by simp [hz])) x hx]
    by_cases e : (x : Int) ∈ l
    · rw [if_pos e, if_pos (by simp [e])]
    · rw [if_neg e]
      by_cases e2 : y.toNat = x
      · subst e2
        rw [rd_set_self _ _ _ (by omega), if_pos]; rw [show ((y.toNat : Nat) : Int) = y by omega]
        simp
      · rw [rd_set_ne _ _ _ _ e2, if_neg]
        rw [List.mem_cons]; rintro (z | z)
        · omega
        · exact e z
theorem vt_rd (C : List (List Int)) (n : Nat) (hC : ∀ l ∈ C, (∀ x ∈ l, 0 ≤ x ∧ x < n) ∧ l.length ≤ n + 1) (x : Nat) (hx : x < n) (q : Nat) (hxq : (x : Int) ∈ rd_L1 C q) (hu : ∀ q', q' < C.length → (x : Int) ∈ rd_L1 C q' → q' = q) : ∀ Q, Q ≤ C.length → q < Q → rd (vt C n Q) (x : Int) = q
  | Q + 1, hQ, h => by
    simp only [vt]; rw [fold_rd _ n _ _ (vt_len C n Q) (rdL_ok C _ hC Q (by omega)).1 x hx]
    by_cases e : (x : Int) ∈ rd_L1 C Q
    · rw [if_pos e, hu Q (by omega) e]
    · rw [if_neg e]
      have : q ≠ Q := by rintro rfl; exact e hxq
      exact vt_rd C n hC x hx q hxq hu Q (by omega) (by omega)
theorem nodup_at (l : List Nat) (h : l.Nodup) (i j : Nat) (hi : i < l.length) (hj : j < l.length) (e : l[i] = l[j]) : i = j := by
  rw [List.Nodup, List.pairwise_iff_getElem] at h
  by_cases a : i < j
  · exact absurd e (h i j hi hj a)
  · by_cases b : j < i
    · exact absurd e.symm (h j i hj hi b)
    · omega
theorem vtx_same (t : List Int) (n : Nat) (ht : inR n t) (hti : injR n t) (x y : Nat) (hx : x < n) (hy : y < n) : rd (vtx t n) (x : Int) = rd (vtx t n) (y : Int) ↔ Reach [t] n x y := by
  obtain ⟨reps, r1, r2, r3, r4⟩ := cyS_reps t n ht hti n (Nat.le_refl _)
  have at_ : ∀ x, x < n → ∃ (q : Nat) (h : q < reps.length), Reach [t] n reps[q] x ∧ rd (vtx t n) (x : Int) = q := by
    intro x hx; obtain ⟨j, j1, j2, j3⟩ := lst_ex (Reach [t] n) (fun x => Reach.refl _ _ x) (fun _ _ h => h.symm) (fun _ _ _ h h' => h.trans h') x; obtain ⟨q, hq, e⟩ := List.getElem_of_mem ((r3 j).2 ⟨by omega, j2⟩); refine ⟨q, hq, by rw [e]; exact j3, ?_⟩; refine vt_rd _ n (cyS_ok t n ht n (Nat.le_refl _)) x hx q ((r4 q hq x hx).2 (by rw [e]; exact j3)) (fun q' hq' hm => ?_) _ (Nat.le_refl _) (by omega)
    have hq2 : q' < reps.length := by omega
    have hr := (r4 q' hq2 x hx).1 hm; have ll := ((r3 reps[q']).1 (List.getElem_mem hq2)).2; have := lst_uniq _ (fun _ _ h => h.symm) _ _ ll j2 (hr.trans j3.symm); rw [← e] at this; exact nodup_at reps r2 _ _ hq2 hq this
  obtain ⟨q, hq, a1, a2⟩ := at_ x hx; obtain ⟨q', hq', b1, b2⟩ := at_ y hy; rw [a2, b2]
  constructor
  · intro e
    have : q = q' := by omega
    subst this; exact a1.symm.trans b1
  · intro h
    have l1 := ((r3 reps[q]).1 (List.getElem_mem hq)).2; have l2 := ((r3 reps[q']).1 (List.getElem_mem hq')).2; have := lst_uniq _ (fun _ _ h => h.symm) _ _ l1 l2 ((a1.trans h).trans b1.symm); rw [nodup_at reps r2 _ _ hq hq' this]
def EdgeAt (f : List Int) (n e a b : Nat) : Prop := a < n ∧ b < n ∧ a ≠ b ∧ rd (edL f n) (e : Int) = a ∧ rd f a = b ∧ rd f b = a ∧ ∀ d : Nat, d < n → (rd (geL f n n) (d : Int) = e ↔ d = a ∨ d = b)
theorem kindI_ev (t f : List Int) (hm : isMap t f) (e a b : Nat) (he : e < (edL f t.length).length) (hab : EdgeAt f t.length e a b) : ∃ P : Nat, Cl t.length (Reach [t, flC f t.length (restL [(e : Int)] (edL f t.length).length)] t.length) P ∧ (P = 1 ∨ P = 2) ∧
    (Reach [t] t.length a b → Ev (fun k => impl_EdgeKind.f k t f e) 2) ∧ (¬ Reach [t] t.length a b → Ev (fun k => impl_EdgeKind.f k t f e) ((P : Int) - 1)) := by
  obtain ⟨ha, hb, hne, e1, e2, e3, e4⟩ := hab; have H := mapOk_of t f hm; obtain ⟨hn, h1, ht', hti, hf', hfl, hcon⟩ := id H; obtain ⟨sm1, sm2, sm3⟩ := map_small t f hm
  have ht : t.length ≤ 1048576 := by omega
  have hf : f.length ≤ 1048576 := by omega
  obtain ⟨b0, b1, b2, b3⟩ := mapValid_both t f ht hf; have hb0 : b0 = true := b3.2 hm; subst hb0; have hh := edL_half f t.length hf' hfl; have hlen := hf'.1; have wf : wrap64 ((f.length : Int) / 2) = (f.length : Int) / 2 := w64 (by omega) (by omega); have hch : isChoice [(e : Int)] ((f.length : Int) / 2) := choice_of _ _ (by simp; omega) (by simp); obtain ⟨r, rb, r1, r2, r3, r4, r5⟩ := choiceRest_both t f [(e : Int)] ht hf (by simp); have hrb : rb = true := r5 ⟨hm, hch⟩; subst hrb; have hr := (r4 rfl).1
  have hHalf : f.length / 2 = (edL f t.length).length := by omega
  rw [hHalf] at hr; subst hr; have hR := H.rib (restL_choice [(e : Int)] (edL f t.length).length) r3; obtain ⟨o, o1, o2, o4⟩ := ribbon_parts t f _ t.length hR; have h12 := one_or_two t f t.length h1 ht' hf' hfl hcon e he o o1; have vl' : (vtx t t.length).length = t.length := vt_len _ _ _; have vs := vtx_same t t.length ht' hti a b ha hb; refine ⟨pc o t.length, parts_cl t f _ t.length h1 ht' hf' o o1, h12, fun hv => ?_, fun hv => ?_⟩
  · have hv' := vs.2 hv
    unfold impl_EdgeKind.f
    refine Ev.bind b2 ?_; simp only [if_true, show ¬ (e : Int) < 0 by omega, if_false, wf, show ¬ (e : Int) ≥ (f.length : Int) / 2 by omega, decide_false]; refine Ev.s ?_; simp only [impl_EdgeKind.j0, Bool.false_eq_true, if_false]; refine Ev.bind (implEdges_ev t.length (by omega) t f hf') ?_; simp only [show (0 : Int) ≤ (e : Int) by omega, show (e : Int) < ((edL f t.length).length : Int) by omega, if_true]; refine Ev.bind (implVert_ev t f t.length hn ht') ?_; simp only [e1, show (0 : Int) ≤ (a : Int) by omega, vl', show (a : Int) < (t.length : Int) by omega, hlen, e2, show (0 : Int) ≤ (b : Int) by omega, show (b : Int) < (t.length : Int) by omega, hv', if_true]; exact Ev.const rfl
  · have hv' : ¬ rd (vtx t t.length) (a : Int) = rd (vtx t t.length) (b : Int) := fun z => hv (vs.1 z)
    unfold impl_EdgeKind.f
    refine Ev.bind b2 ?_; simp only [if_true, show ¬ (e : Int) < 0 by omega, if_false, wf, show ¬ (e : Int) ≥ (f.length : Int) / 2 by omega, decide_false]; refine Ev.s ?_; simp only [impl_EdgeKind.j0, Bool.false_eq_true, if_false]; refine Ev.bind (implEdges_ev t.length (by omega) t f hf') ?_; simp only [show (0 : Int) ≤ (e : Int) by omega, show (e : Int) < ((edL f t.length).length : Int) by omega, if_true]; refine Ev.bind (implVert_ev t f t.length hn ht') ?_; simp only [e1, show (0 : Int) ≤ (a : Int) by omega, vl', show (a : Int) < (t.length : Int) by omega, hlen, e2, show (0 : Int) ≤ (b : Int) by omega, show (b : Int) < (t.length : Int) by omega, hv', if_true, if_false]; refine Ev.bind r2 ?_; refine Ev.bind o4 ?_
    have e0 : ∀ P S V c : Int, rd (fiveN P S V c) 0 = P := fun _ _ _ _ => rfl
    simp only [five_len, show (0 : Int) < ((5 : Nat) : Int) by omega, if_true, e0]
    rcases h12 with h | h
    · rw [h]
      exact Ev.const rfl
    · rw [h]
      exact Ev.const rfl
def swp (t : List Int) (a b n : Nat) : List Int := (List.range n).map fun (d : Nat) => if d = a then rd t (b : Int) else if d = b then rd t (a : Int) else rd t (d : Int)
theorem swp_rd (t : List Int) (a b n d : Nat) (h : d < n) : rd (swp t a b n) (d : Int) = if d = a then rd t (b : Int) else if d = b then rd t (a : Int) else rd t (d : Int) := rd_rangeL _ n d h
theorem swp_a (t : List Int) (a b n : Nat) (h : a < n) : rd (swp t a b n) (a : Int) = rd t (b : Int) := by rw [swp_rd t a b n a h, if_pos rfl]
theorem swp_b (t : List Int) (a b n : Nat) (h : b < n) (hab : a ≠ b) : rd (swp t a b n) (b : Int) = rd t (a : Int) := by rw [swp_rd t a b n b h, if_neg (fun z => hab z.symm), if_pos rfl]
theorem swp_kept (t : List Int) (a b n d : Nat) (h : d < n) (k : kept a b d) : rd (swp t a b n) (d : Int) = rd t (d : Int) := by rw [swp_rd t a b n d h, if_neg k.1, if_neg k.2]
theorem swp_inR (t : List Int) (n a b : Nat) (ht : inR n t) (ha : a < n) (hb : b < n) : inR n (swp t a b n) := ⟨by simp [swp], fun i hi => by
  rw [swp_rd t a b n i hi]; have h1 := ht.2 a ha; have h2 := ht.2 b hb; have h3 := ht.2 i hi
  split
  · exact h2
  · split
    · exact h1
    · exact h3⟩
theorem swp_exch (t : List Int) (n a b : Nat) (ha : a < n) (hb : b < n) (hab : a ≠ b) : Exch n t (swp t a b n) a b :=
  ⟨ha, hb, hab, swp_a t a b n ha, swp_b t a b n hb hab, fun x hx h1 h2 => swp_kept t a b n x hx ⟨h1, h2⟩⟩
theorem swp_inj (t : List Int) (n a b : Nat) (hti : injR n t) (ha : a < n) (hb : b < n) (hab : a ≠ b) : injR n (swp t a b n) := fun i j hi hj e => by
  rw [swp_rd t a b n i hi, swp_rd t a b n j hj] at e
  by_cases i1 : i = a
  · rw [if_pos i1] at e
    by_cases j1 : j = a
    · omega
    · rw [if_neg j1] at e
      by_cases j2 : j = b
      · rw [if_pos j2] at e
        exact absurd (hti b a hb ha e).symm hab
      · rw [if_neg j2] at e
        exact absurd (hti b j hb hj e).symm j2
  · rw [if_neg i1] at e
    by_cases i2 : i = b
    · rw [if_pos i2] at e
      by_cases j1 : j = a
      · rw [if_pos j1] at e
        exact absurd (hti a b ha hb e) hab
      · rw [if_neg j1] at e
        by_cases j2 : j = b
        · omega
        · rw [if_neg j2] at e
          exact absurd (hti a j ha hj e).symm j1
    · rw [if_neg i2] at e
      by_cases j1 : j = a
      · rw [if_pos j1] at e
        exact absurd (hti i b hi hb e) i2
      · rw [if_neg j1] at e
        by_cases j2 : j = b
        · rw [if_pos j2] at e
          exact absurd (hti i a hi ha e) i1
        · rw [if_neg j2] at e
          exact hti i j hi hj e
theorem cl_one {n : Nat} {R : Nat → Nat → Prop} (hr : ∀ x, R x x) (hs : ∀ x y, R x y → R y x) (ht : ∀ x y z, R x y → R y z → R x z) (h : Cl n R 1) (x y : Nat) (hx : x < n) (hy : y < n) : R x y := by
  obtain ⟨L, l1, l2, l3⟩ := h; obtain ⟨p, p1, p2, p3⟩ := lst_ex R hr hs ht x; obtain ⟨q, q1, q2, q3⟩ := lst_ex R hr hs ht y; have hp := (l2 p).2 ⟨by omega, p2⟩; have hq := (l2 q).2 ⟨by omega, q2⟩; obtain ⟨z, hz⟩ := List.length_eq_one_iff.1 l3; rw [hz, List.mem_singleton] at hp hq; rw [hp] at p3; rw [hq] at q3; exact ht _ _ _ (hs _ _ p3) q3
theorem edge_kept (f : List Int) (n a b : Nat) (hf : inR n f) (hfl : ∀ i : Nat, i < n → flipAt f i) (fa : rd f (a : Int) = b) (fb : rd f (b : Int) = a) (d : Nat) (hd : d < n) (k : kept a b d) : kept a b (rd f (d : Int)).toNat := by
  have h1 := hf.2 d hd; have h2 := (hfl d hd).2
  constructor
  · intro z
    have : rd f (d : Int) = a := by omega
    rw [this, fa] at h2; exact k.2 (by omega)
  · intro z
    have : rd f (d : Int) = b := by omega
    rw [this, fb] at h2; exact k.1 (by omega)
theorem skp_congr (p p' : List Int) (a b : Nat) (x : Int) (h1 : rd p (a : Int) = rd p' (a : Int)) (h2 : rd p (b : Int) = rd p' (b : Int)) : skp p a b x = skp p' a b x := by
  unfold skp
  by_cases c : x = a ∨ x = b
  · rw [if_pos c, if_pos c]
    have e : rd p x = rd p' x := by rcases c with c | c <;> rw [c] <;> assumption
    rw [e]
    by_cases c2 : rd p' x = a ∨ rd p' x = b
    · rw [if_pos c2, if_pos c2]
      rcases c2 with c2 | c2 <;> rw [c2] <;> assumption
    · rw [if_neg c2, if_neg c2]
  · rw [if_neg c, if_neg c]
theorem outF_ok (f : List Int) (n a b : Nat) (hf : inR n f) (hfl : ∀ i : Nat, i < n → flipAt f i) (ha : a < n) (hb : b < n) (hab : a ≠ b) (fa : rd f (a : Int) = b) (fb : rd f (b : Int) = a) :
    TellsQ a b n (fun d => (rd f (d : Int)).toNat) (outF f a b n) ∧ inR (n - 2) (outF f a b n) ∧ ∀ i : Nat, i < n - 2 → flipAt (outF f a b n) i := by
  have ht := nm_total a b n ha hb hab; have hk := edge_kept f n a b hf hfl fa fb; have hT := outF_tells f n hf a b ha hb hab hk; refine ⟨hT, hT.inR ha hb hab, fun i hi => ?_⟩; obtain ⟨d, d1, d2, rfl⟩ := nm_surj a b n i (by omega); obtain ⟨q1, q2, q3⟩ := hT.2 d d1 d2; have q1 : (rd f (d : Int)).toNat < n := q1; have q3 : rd (outF f a b n) (nmA a b d : Int) = (nmA a b (rd f (d : Int)).toNat : Int) := q3; have fr := hf.2 d d1; obtain ⟨f1, f2⟩ := hfl d d1; obtain ⟨r1, r2, r3⟩ := hT.2 _ q1 q2; have r3 : rd (outF f a b n) (nmA a b (rd f (d : Int)).toNat : Int) = (nmA a b (rd f (((rd f (d : Int)).toNat : Nat) : Int)).toNat : Int) := r3; rw [show (((rd f (d : Int)).toNat : Nat) : Int) = rd f (d : Int) by omega, f2, Int.toNat_natCast] at r3; refine ⟨fun z => ?_, ?_⟩
  · rw [q3] at z
    have z' : nmA a b (rd f (d : Int)).toNat = nmA a b d := by omega
    have : (rd f (d : Int)).toNat = d := nm_inj a b _ _ q2 d2 z'; omega
  · rw [q3, r3]
theorem cut_map (p f : List Int) (n : Nat) (hn : n ≤ 12) (hp : inR n p) (hi : injR n p) (hf : inR n f) (hfl : ∀ i : Nat, i < n → flipAt f i) (a b : Nat) (ha : a < n) (hb : b < n) (hab : a ≠ b) (fa : rd f (a : Int) = b) (fb : rd f (b : Int) = a) (hN : NoA p a b) (h3 : 3 ≤ n)
    (F : List Int) (hF : inR n F) (hFk : ∀ d : Nat, d < n → kept a b d → rd F (d : Int) = rd f (d : Int)) (hFa : ∀ x : Nat, x < n → ¬ kept a b x → ¬ kept a b (rd F (x : Int)).toNat ∧ Reach [p] n x (rd F (x : Int)).toNat) (hcon : ∀ x y : Nat, x < n → y < n → Reach [p, F] n x y) :
    MapOk (outT p a b n) (outF f a b n) (n - 2) := by
  have ht := nm_total a b n ha hb hab; obtain ⟨o1, o2, o3⟩ := outF_ok f n a b hf hfl ha hb hab fa fb; have hT := outT_tells p n hp hi a b ha hb hab; have oF : TellsQ a b n (fun d => (rd F (d : Int)).toNat) (outF f a b n) := ⟨o1.1, fun d hd kd => by
    have := o1.2 d hd kd
    show (rd F (d : Int)).toNat < n ∧ kept a b (rd F (d : Int)).toNat ∧ rd (outF f a b n) (nmA a b d : Int) = (nmA a b (rd F (d : Int)).toNat : Int)
    rw [hFk d hd kd]; exact this⟩
  refine ⟨by omega, by omega, hT.inR ha hb hab, hT.injR ha hb hab (fun d e hd he kd ke z => ?_), o2, o3, fun i j hi' hj' => ?_⟩
  · have s1 := (skp_out p n hp hi a b d ha hb hd hab kd.1 kd.2).2
    have s2 := (skp_out p n hp hi a b e ha hb he hab ke.1 ke.2).2; exact skp_inj p n hp hi a b ha hb d e hd he kd ke (by have z : (skp p a b (rd p (d : Int))).toNat = (skp p a b (rd p (e : Int))).toNat := z; omega)
  · obtain ⟨x, x1, x2, rfl⟩ := nm_surj a b n i (by omega)
    obtain ⟨y, y1, y2, rfl⟩ := nm_surj a b n j (by omega); exact (reach_skip p F _ _ n hp a b ha hb hab hN hT hF oF hFa x y x1 y1 x2 y2).2 (hcon x y x1 y1)
theorem rest_rd (t f : List Int) (n : Nat) (H : MapOk t f n) (e a b : Nat) (he : e < (edL f n).length) (hab : EdgeAt f n e a b) (d : Nat) (hd : d < n) : rd (flC f n (restL [(e : Int)] (edL f n).length)) (d : Int) = if d = a ∨ d = b then (d : Int) else rd f (d : Int) := by
  obtain ⟨hn, h1, ht, hti, hf, hfl, hcon⟩ := id H; obtain ⟨ha, hb, hne, e1, e2, e3, e4⟩ := hab; rw [flC_rd f n _ d hd, chB_rest f n hf hfl [(e : Int)] d hd]
  have : chB f n [(e : Int)] (d : Int) = decide (d = a ∨ d = b) := by
    unfold chB
    rw [decide_eq_decide]; rw [List.mem_singleton]; exact e4 d hd
  rw [this]
  by_cases c : d = a ∨ d = b
  · rw [if_pos c, decide_eq_true c]
    rfl
  · rw [if_neg c, decide_eq_false c]
    rfl
theorem two_only (t f : List Int) (n : Nat) (H : MapOk t f n) (a b : Nat) (ha : a < n) (hb : b < n) (hab : a ≠ b) (fa : rd f (a : Int) = b) (fb : rd f (b : Int) = a) (h : ∀ x : Nat, x < n → ((x = a ∨ x = b) ↔ ((rd t (x : Int)).toNat = a ∨ (rd t (x : Int)).toNat = b))) : n = 2 := by
  obtain ⟨hn, h1, ht, hti, hf, hfl, hcon⟩ := id H
  have all : ∀ x, x < n → x = a ∨ x = b := fun x hx => by
    refine (hcon a x ha hx (fun z => z = a ∨ z = b) (fun q hq k hk => ?_)).1 (.inl rfl)
    rcases List.mem_cons.1 hq with rfl | hq
    · exact h k hk
    · rw [List.mem_singleton.1 hq]
      by_cases c : kept a b k
      · have := edge_kept f n a b hf hfl fa fb k hk c
        exact ⟨fun z => absurd z (fun z => z.elim c.1 c.2), fun z => absurd z (fun z => z.elim this.1 this.2)⟩
      · have c' : k = a ∨ k = b := by unfold kept at c; omega
        rcases c' with rfl | rfl
        · rw [fa, Int.toNat_natCast]
          exact ⟨fun _ => .inr rfl, fun _ => .inl rfl⟩
        · rw [fb, Int.toNat_natCast]
          exact ⟨fun _ => .inl rfl, fun _ => .inr rfl⟩
  have : n ≤ 2 := by
    rcases Nat.lt_or_ge 2 n with h2 | h2
    · have a0 := all 0 (by omega)
      have a1 := all 1 (by omega); have a2 := all 2 (by omega); omega
    · exact h2
  omega
theorem del_map (t f : List Int) (n : Nat) (H : MapOk t f n) (e a b : Nat) (he : e < (edL f n).length) (hab : EdgeAt f n e a b) (hn2 : n ≠ 2) (hk : Reach [t] n a b ∨ Cl n (Reach [t, flC f n (restL [(e : Int)] (edL f n).length)] n) 1) :
    NoA t a b ∧ MapOk (outT t a b n) (outF f a b n) (n - 2) := by
  obtain ⟨hn, h1, ht, hti, hf, hfl, hcon⟩ := id H; obtain ⟨ha, hb, hne, e1, e2, e3, e4⟩ := id hab; have hrd := rest_rd t f n H e a b he hab; have hFi := flC_inR f n hf (restL [(e : Int)] (edL f n).length); generalize flC f n (restL [(e : Int)] (edL f n).length) = F at hrd hFi hk
  have con : ∀ x y : Nat, x < n → y < n → Reach [t, F] n x y := by
    rcases hk with hk | hk
    · intro x y hx hy S hS
      have st : ∀ k : Nat, k < n → (S k ↔ S (rd t (k : Int)).toNat) := hS t (by simp); have sF : ∀ k : Nat, k < n → (S k ↔ S (rd F (k : Int)).toNat) := hS F (by simp)
      have sab : S a ↔ S b := hk S fun q hq => by rw [List.mem_singleton.1 hq]; exact st
      refine hcon x y hx hy S fun q hq k hk' => ?_
      rcases List.mem_cons.1 hq with rfl | hq
      · exact st k hk'
      · rw [List.mem_singleton.1 hq]
        by_cases c : k = a ∨ k = b
        · rcases c with rfl | rfl
          · rw [e2, Int.toNat_natCast]; exact sab
          · rw [e3, Int.toNat_natCast]; exact sab.symm
        · have := sF k hk'
          rw [hrd k hk', if_neg c] at this; exact this
    · exact fun x y hx hy => cl_one (fun x => Reach.refl _ _ x) (fun x y h => h.symm) (fun x y z h h' => h.trans h') hk x y hx hy
  have hFk : ∀ d : Nat, d < n → kept a b d → rd F (d : Int) = rd f (d : Int) := fun d hd kd => by rw [hrd d hd, if_neg (fun z => z.elim kd.1 kd.2)]
  have alone : ∀ x y : Nat, x < n → y < n → x ≠ y → (x = a ∨ x = b) → rd t (x : Int) ≠ x := by
    intro x y hx hy hxy hxab z; have := (con x y hx hy (fun w => w = x) (fun q hq k hk' => by
      rcases List.mem_cons.1 hq with rfl | hq
      · constructor
        · rintro rfl; rw [z, Int.toNat_natCast]
        · intro w
          have r := ht.2 k hk'; exact hti k x hk' hx (by rw [z]; omega)
      · rw [List.mem_singleton.1 hq, hrd k hk']
        by_cases c : k = a ∨ k = b
        · rw [if_pos c, Int.toNat_natCast]
        · rw [if_neg c]
          have kk := edge_kept f n a b hf hfl e2 e3 k hk' ⟨fun z => c (.inl z), fun z => c (.inr z)⟩
          constructor
          · rintro rfl; exact absurd hxab c
          · intro w; rw [w] at kk; exact absurd hxab (fun z => z.elim kk.1 kk.2))).1 rfl
    exact hxy this.symm
  have hN : NoA t a b := by
    refine ⟨alone a b ha hb hne (.inl rfl), alone b a hb ha (fun z => hne z.symm) (.inr rfl), fun ⟨z1, z2⟩ => hn2 (two_only t f n H a b ha hb hne e2 e3 fun x hx => ?_)⟩
    constructor
    · rintro (rfl | rfl)
      · rw [z1, Int.toNat_natCast]; exact .inr rfl
      · rw [z2, Int.toNat_natCast]; exact .inl rfl
    · have r := ht.2 x hx
      rintro (w | w)
      · exact .inr (hti x b hx hb (by rw [z2]; omega))
      · exact .inl (hti x a hx ha (by rw [z1]; omega))
  have hev := edL_half f n hf hfl; refine ⟨hN, cut_map t f n hn ht hti hf hfl a b ha hb hne e2 e3 hN (by omega) F hFi hFk (fun x hx hx' => ?_) con⟩
  have c : x = a ∨ x = b := by unfold kept at hx'; omega
  rw [hrd x hx, if_pos c, Int.toNat_natCast]; exact ⟨hx', Reach.refl _ _ _⟩
theorem con_map (t f : List Int) (n : Nat) (H : MapOk t f n) (e a b : Nat) (he : e < (edL f n).length) (hab : EdgeAt f n e a b) (hn2 : n ≠ 2) (hk : ¬ Reach [t] n a b) :
    NoA (swp t a b n) a b ∧ NoA (faces t f n) a b ∧ MapOk (outT (swp t a b n) a b n) (outF f a b n) (n - 2) := by
  obtain ⟨hn, h1, ht, hti, hf, hfl, hcon⟩ := id H; obtain ⟨ha, hb, hne, e1, e2, e3, e4⟩ := id hab; have sa := swp_a t a b n ha; have sb := swp_b t a b n hb hne; have si := swp_inR t n a b ht ha hb; have sj := swp_inj t n a b hti ha hb hne; have ra := ht.2 a ha; have rb := ht.2 b hb
  have tba : rd t (b : Int) ≠ a := fun z => hk (Reach.symm (by have := Reach.step (ps := [t]) (n := n) (p := t) (by simp) hb; rwa [z, Int.toNat_natCast] at this))
  have tab : rd t (a : Int) ≠ b := fun z => hk (by have := Reach.step (ps := [t]) (n := n) (p := t) (by simp) ha; rwa [z, Int.toNat_natCast] at this)
  have both : ¬ (rd t (b : Int) = b ∧ rd t (a : Int) = a) := fun ⟨z1, z2⟩ => hn2 (two_only t f n H a b ha hb hne e2 e3 fun x hx => by
    constructor
    · rintro (rfl | rfl)
      · rw [z2, Int.toNat_natCast]; exact .inl rfl
      · rw [z1, Int.toNat_natCast]; exact .inr rfl
    · have r := ht.2 x hx
      rintro (w | w)
      · exact .inl (hti x a hx ha (by rw [z2]; omega))
      · exact .inr (hti x b hx hb (by rw [z1]; omega)))
  have hN : NoA (swp t a b n) a b := ⟨by rw [sa]; exact tba, by rw [sb]; exact tab, by rw [sa, sb]; exact both⟩
  have fca : rd (faces t f n) (a : Int) = rd t (b : Int) := by rw [faces_rd t f n a ha, e2]
  have fcb : rd (faces t f n) (b : Int) = rd t (a : Int) := by rw [faces_rd t f n b hb, e3]
  have hNf : NoA (faces t f n) a b := ⟨by rw [fca]; exact tba, by rw [fcb]; exact tab, by rw [fca, fcb]; exact both⟩; have hj := exch_join ht si hti sj (swp_exch t n a b ha hb hne) hk; have hev := edL_half f n hf hfl; refine ⟨hN, hNf, cut_map (swp t a b n) f n hn si sj hf hfl a b ha hb hne e2 e3 hN (by omega) f hf (fun d hd kd => rfl) (fun x hx hx' => ?_) (fun x y hx hy S hS => ?_)⟩
  · have c : x = a ∨ x = b := by unfold kept at hx'; omega
    rcases c with rfl | rfl
    · rw [e2, Int.toNat_natCast]
      exact ⟨fun z => z.2 rfl, hj⟩
    · rw [e3, Int.toNat_natCast]
      exact ⟨fun z => z.1 rfl, hj.symm⟩
  · have ss : ∀ k : Nat, k < n → (S k ↔ S (rd (swp t a b n) (k : Int)).toNat) := hS _ (by simp)
    have sf : ∀ k : Nat, k < n → (S k ↔ S (rd f (k : Int)).toNat) := hS f (by simp)
    have sab : S a ↔ S b := by have := sf a ha; rwa [e2, Int.toNat_natCast] at this
    refine hcon x y hx hy S fun q hq k hk' => ?_
    rcases List.mem_cons.1 hq with rfl | hq
    · by_cases c : kept a b k
      · have := ss k hk'
        rwa [swp_kept _ a b n k hk' c] at this
      · have c' : k = a ∨ k = b := by unfold kept at c; omega
        rcases c' with rfl | rfl
        · have := ss b hb
          rw [sb] at this; exact sab.trans this
        · have := ss a ha
          rw [sa] at this; exact sab.symm.trans this
    · rw [List.mem_singleton.1 hq]
      exact sf k hk'
theorem faces_tells (p f : List Int) (n m : Nat) (a b : Nat) (ha : a < n) (hb : b < n) (hab : a ≠ b) (hf : inR n f) (hp : inR n p) (hi : injR n p) (o1 : TellsQ a b n (fun d => (rd f (d : Int)).toNat) (outF f a b n)) (o2 : inR (n - 2) (outF f a b n)) :
    TellsQ a b n (fun d => (skp p a b (rd p (rd f (d : Int)))).toNat) (faces (outT p a b n) (outF f a b n) (n - 2)) := by
  have hT := outT_tells p n hp hi a b ha hb hab; refine ⟨faces_len _ _ _, fun d hd kd => ?_⟩; obtain ⟨q1, q2, q3⟩ := o1.2 d hd kd; have q1 : (rd f (d : Int)).toNat < n := q1; have q3 : rd (outF f a b n) (nmA a b d : Int) = (nmA a b (rd f (d : Int)).toNat : Int) := q3; have fr := hf.2 d hd; obtain ⟨r1, r2, r3⟩ := hT.2 _ q1 q2
  have e : (((rd f (d : Int)).toNat : Nat) : Int) = rd f (d : Int) := by omega
  have r1 : (skp p a b (rd p (((rd f (d : Int)).toNat : Nat) : Int))).toNat < n := r1; have r2 : kept a b (skp p a b (rd p (((rd f (d : Int)).toNat : Nat) : Int))).toNat := r2; have r3 : rd (outT p a b n) (nmA a b (rd f (d : Int)).toNat : Int) = (nmA a b (skp p a b (rd p (((rd f (d : Int)).toNat : Nat) : Int))).toNat : Int) := r3; rw [e] at r1 r2 r3
  show (skp p a b (rd p (rd f (d : Int)))).toNat < n ∧ kept a b (skp p a b (rd p (rd f (d : Int)))).toNat ∧ rd (faces (outT p a b n) (outF f a b n) (n - 2)) (nmA a b d : Int) = (nmA a b (skp p a b (rd p (rd f (d : Int)))).toNat : Int)
  refine ⟨r1, r2, ?_⟩; rw [faces_rd _ _ _ _ (nm_bound a b n d ha hb hab hd kd), q3, r3]
theorem faces_con (t f : List Int) (n : Nat) (H : MapOk t f n) (e a b : Nat) (hab : EdgeAt f n e a b) : faces (outT (swp t a b n) a b n) (outF f a b n) (n - 2) = outT (faces t f n) a b n := by
  obtain ⟨hn, h1, ht, hti, hf, hfl, hcon⟩ := id H; obtain ⟨ha, hb, hne, e1, e2, e3, e4⟩ := id hab; obtain ⟨o1, o2, o3⟩ := outF_ok f n a b hf hfl ha hb hne e2 e3; have hFi := faces_inR t f n ht hf; have hFj := faces_inj t f n ht hti hf hfl; have si := swp_inR t n a b ht ha hb; have sj := swp_inj t n a b hti ha hb hne
  refine tells_ext (faces_tells _ f n n a b ha hb hne hf si sj o1 o2) (outT_tells _ n hFi hFj a b ha hb hne) ha hb hne fun d hd kd => ?_
  have kf := edge_kept f n a b hf hfl e2 e3 d hd kd; have fr := hf.2 d hd
  show (skp (swp t a b n) a b (rd (swp t a b n) (rd f (d : Int)))).toNat = (skp (faces t f n) a b (rd (faces t f n) (d : Int))).toNat
  have e : (((rd f (d : Int)).toNat : Nat) : Int) = rd f (d : Int) := by omega
  have := swp_kept t a b n (rd f (d : Int)).toNat (by omega) kf; rw [e] at this; rw [this, faces_rd t f n d hd]; rw [skp_congr (swp t a b n) (faces t f n) a b _ (by rw [swp_a _ a b n ha, faces_rd t f n a ha, e2]) (by rw [swp_b _ a b n hb hne, faces_rd t f n b hb, e3])]
theorem del_count (t f : List Int) (n : Nat) (H : MapOk t f n) (e a b : Nat) (hab : EdgeAt f n e a b) (hN : NoA t a b) (V : Nat) (hV : Cl n (Reach [t] n) V) : Cl (n - 2) (Reach [outT t a b n] (n - 2)) V := by
  obtain ⟨hn, h1, ht, hti, hf, hfl, hcon⟩ := id H; obtain ⟨ha, hb, hne, e1, e2, e3, e4⟩ := id hab; exact cl_left t _ n ht a b ha hb hne hN (outT_tells t n ht hti a b ha hb hne) V hV
theorem con_count (t f : List Int) (n : Nat) (H : MapOk t f n) (e a b : Nat) (hab : EdgeAt f n e a b) (hN : NoA (swp t a b n) a b) (hNf : NoA (faces t f n) a b) (hk : ¬ Reach [t] n a b) (V F : Nat) (hV : Cl n (Reach [t] n) V) (hF : Cl n (Reach [faces t f n] n) F) :
    1 ≤ V ∧ Cl (n - 2) (Reach [outT (swp t a b n) a b n] (n - 2)) (V - 1) ∧ Cl (n - 2) (Reach [faces (outT (swp t a b n) a b n) (outF f a b n) (n - 2)] (n - 2)) F := by
  obtain ⟨hn, h1, ht, hti, hf, hfl, hcon⟩ := id H; obtain ⟨ha, hb, hne, e1, e2, e3, e4⟩ := id hab; have si := swp_inR t n a b ht ha hb; have sj := swp_inj t n a b hti ha hb hne; have hFi := faces_inR t f n ht hf; have hFj := faces_inj t f n ht hti hf hfl; obtain ⟨W, hW, _⟩ := Cl.ex n (Reach [swp t a b n] n); have := (exch_count ht si hti sj (swp_exch t n a b ha hb hne) hV hW).1 hk
  have hW' : W = V - 1 := by omega
  rw [hW'] at hW; refine ⟨by omega, cl_left _ _ n si a b ha hb hne hN (outT_tells _ n si sj a b ha hb hne) _ hW, ?_⟩; rw [faces_con t f n H e a b hab]; exact cl_left _ _ n hFi a b ha hb hne hNf (outT_tells _ n hFi hFj a b ha hb hne) F hF
theorem out_edges (f : List Int) (n a b : Nat) (hf : inR n f) (hfl : ∀ i : Nat, i < n → flipAt f i) (ha : a < n) (hb : b < n) (hab : a ≠ b) (fa : rd f (a : Int) = b) (fb : rd f (b : Int) = a) : (edL (outF f a b n) (n - 2)).length + 1 = (edL f n).length := by
  obtain ⟨o1, o2, o3⟩ := outF_ok f n a b hf hfl ha hb hab fa fb; have h1 := edL_half (outF f a b n) (n - 2) o2 o3; have h2 := edL_half f n hf hfl; have ht := nm_total a b n ha hb hab; omega
end Go.Proofs.Ytjgknblneokhlaa.PK
