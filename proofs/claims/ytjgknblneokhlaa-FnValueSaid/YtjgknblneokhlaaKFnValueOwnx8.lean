/- For every two codes: of the map and the three numbers that the statement draws, RibbonValue of the program answers what the reference answers; for an edge that is no loop, the value is the sum of the values without the edge and with it contracted; for a bridge, the value with the edge contracted, x + 1 times. There are no conditions. -/
import Derived.Test.YtjgknblneokhlaaKFnValueOwnx7
set_option linter.unusedVariables false
set_option linter.unusedSimpArgs false
namespace Go.Proofs.Ytjgknblneokhlaa.PK
open Go.RowKit Go.Proofs.YtjgknblneokhlaaW.PrintWords Go.Proofs.YtjgknblneokhlaaW.PrintLast Go.Proofs.YtjgknblneokhlaaW.PrintMore
def insB (e : Nat) (b : Bool) (s : Nat → Bool) : Nat → Bool := fun j => if j < e then s j else if j = e then b else s (j - 1)
theorem sumB_at : ∀ (E e : Nat) (F : (Nat → Bool) → Int), e ≤ E → sumB (E + 1) F = sumB E (fun s => F (insB e false s)) + sumB E (fun s => F (insB e true s))
  | 0, e, F, he => by
    have : e = 0 := by omega
    subst this
    simp only [sumB]
    congr 2
  | E + 1, e, F, he => by
    by_cases q : e = E + 1
    · subst q
      rw [sumB]
      congr 1
      · refine sumB_congr _ _ _ fun s hs => ?_
        congr 1
        funext j
        unfold insB
        by_cases z : j = E + 1
        · rw [if_pos z, if_neg (by omega), if_pos z]
        · rw [if_neg z, if_neg z]
          by_cases y : j < E + 1
          · rw [if_pos y]
          · rw [if_neg y, hs j (by omega), hs (j - 1) (by omega)]
      · refine sumB_congr _ _ _ fun s hs => ?_
        congr 1
        funext j
        unfold insB
        by_cases z : j = E + 1
        · rw [if_pos z, if_neg (by omega), if_pos z]
        · rw [if_neg z, if_neg z]
          by_cases y : j < E + 1
          · rw [if_pos y]
          · rw [if_neg y, hs j (by omega), hs (j - 1) (by omega)]
    · have h1 := sumB_at E e (fun s => F (fun j => if j = E + 1 then false else s j)) (by omega)
      have h2 := sumB_at E e (fun s => F (fun j => if j = E + 1 then true else s j)) (by omega)
      have key : ∀ (b' b : Bool) (s : Nat → Bool), (fun j => if j = E + 1 then b' else insB e b s j) = insB e b (fun j => if j = E then b' else s j) := by
        intro b' b s
        funext j
        show (if j = E + 1 then b' else (if j < e then s j else if j = e then b else s (j - 1))) = (if j < e then (if j = E then b' else s j) else if j = e then b else (if j - 1 = E then b' else s (j - 1)))
        by_cases z : j = E + 1
        · rw [if_pos z, if_neg (by omega), if_neg (by omega), if_pos (by omega)]
        · rw [if_neg z]
          by_cases y : j < e
          · rw [if_pos y, if_pos y, if_neg (by omega)]
          · rw [if_neg y, if_neg y]
            by_cases w : j = e
            · rw [if_pos w, if_pos w]
            · rw [if_neg w, if_neg w, if_neg (by omega)]
      rw [sumB, h1, h2]
      simp only [key]
      simp only [sumB]
      omega
theorem lst_ins_lt (e : Nat) (b : Bool) (s : Nat → Bool) : ∀ m, m ≤ e → lstS (insB e b s) m = lstS s m := fun m hm => lstS_congr _ _ _ fun j hj => by unfold insB; rw [if_pos (by omega)]
theorem lst_ins_len (e : Nat) (b : Bool) (s : Nat → Bool) : ∀ m, e ≤ m → (lstS (insB e b s) (m + 1)).length = (lstS s m).length + (if b = true then 1 else 0)
  | 0, hm => by
    have : e = 0 := by omega
    subst this
    simp only [lstS, insB, Nat.lt_irrefl, if_false, if_true]
    cases b <;> rfl
  | m + 1, hm => by
    by_cases q : e = m + 1
    · subst q
      have h1 := lst_ins_lt (m + 1) b s (m + 1) (Nat.le_refl _)
      have h2 : insB (m + 1) b s (m + 1) = b := by unfold insB; rw [if_neg (Nat.lt_irrefl _), if_pos rfl]
      rw [lstS, h2, h1]
      cases b <;> simp
    · have ih := lst_ins_len e b s m (by omega)
      have h2 : insB e b s (m + 1) = s m := by unfold insB; rw [if_neg (by omega), if_neg (by omega), Nat.add_sub_cancel]
      rw [lstS, h2]
      rw [show lstS s (m + 1) = if s m = true then lstS s m ++ [(m : Int)] else lstS s m from rfl]
      by_cases z : s m = true
      · rw [if_pos z, if_pos z, List.length_append, List.length_append, ih]
        simp only [List.length_cons, List.length_nil]
        omega
      · rw [if_neg z, if_neg z, ih]
theorem out_edL (f : List Int) (n a b : Nat) (hf : inR n f) (hfl : ∀ i : Nat, i < n → flipAt f i) (ha : a < n) (hb : b < n) (hab : a < b) (fa : rd f (a : Int) = b) (fb : rd f (b : Int) = a) : ∀ i, i ≤ n → (edL (outF f a b n) (nmA a b i)).length + (if a < i then 1 else 0) = (edL f i).length
  | 0, _ => by simp [nmA, edL]
  | i + 1, hi => by
    have ih := out_edL f n a b hf hfl ha hb hab fa fb i (by omega)
    obtain ⟨o1, o2, o3⟩ := outF_ok f n a b hf hfl ha hb (by omega) fa fb
    by_cases za : i = a
    · subst za
      have hn : nmA i b (i + 1) = nmA i b i := by simp [nmA]
      rw [hn]
      rw [if_neg (Nat.lt_irrefl _)] at ih
      rw [if_pos (Nat.lt_succ_self _)]
      simp only [edL]
      rw [if_pos (by rw [fa]; omega), List.length_append]
      simp only [List.length_cons, List.length_nil]
      omega
    · by_cases zb : i = b
      · subst zb
        have hn : nmA a i (i + 1) = nmA a i i := by simp [nmA]
        rw [hn]
        rw [if_pos hab] at ih
        rw [if_pos (by omega)]
        simp only [edL]
        rw [if_neg (by rw [fb]; omega)]
        exact ih
      · have k : kept a b i := ⟨za, zb⟩
        rw [nm_kept a b i k]
        obtain ⟨q1, q2, q3⟩ := o1.2 i (by omega) k
        have q1 : (rd f (i : Int)).toNat < n := q1
        have q2 : kept a b (rd f (i : Int)).toNat := q2
        have q3 : rd (outF f a b n) (nmA a b i : Int) = (nmA a b (rd f (i : Int)).toNat : Int) := q3
        have fr := hf.2 i (by omega)
        have hlt : (nmA a b i : Int) < rd (outF f a b n) (nmA a b i : Int) ↔ (i : Int) < rd f (i : Int) := by
          rw [q3]
          constructor
          · intro h
            by_cases z : (i : Int) < rd f (i : Int)
            · exact z
            · have : nmA a b (rd f (i : Int)).toNat ≤ nmA a b i := by
                have := nm_mono a b (i - (rd f (i : Int)).toNat) (rd f (i : Int)).toNat
                rwa [show (rd f (i : Int)).toNat + (i - (rd f (i : Int)).toNat) = i by omega] at this
              omega
          · intro h
            have := nm_lt a b i (rd f (i : Int)).toNat k (by omega)
            omega
        simp only [edL]
        by_cases z : (i : Int) < rd f (i : Int)
        · rw [if_pos z, if_pos (hlt.2 z), List.length_append, List.length_append]
          simp only [List.length_cons, List.length_nil]
          by_cases w : a < i
          · rw [if_pos w] at ih
            rw [if_pos (by omega)]
            omega
          · rw [if_neg w] at ih
            rw [if_neg (by omega)]
            omega
        · rw [if_neg z, if_neg (fun y => z (hlt.1 y))]
          by_cases w : a < i
          · rw [if_pos w] at ih
            rw [if_pos (by omega)]
            exact ih
          · rw [if_neg w] at ih
            rw [if_neg (by omega)]
            exact ih
theorem least_kept (f : List Int) (n a b : Nat) (hf : inR n f) (hfl : ∀ i : Nat, i < n → flipAt f i) (ha : a < n) (hb : b < n) (hab : a ≠ b) (fa : rd f (a : Int) = b) (fb : rd f (b : Int) = a) (d : Nat) (hd : d < n) (k : kept a b d) : kept a b (least f d) ∧ least (outF f a b n) (nmA a b d) = nmA a b (least f d) := by
  obtain ⟨o1, o2, o3⟩ := outF_ok f n a b hf hfl ha hb hab fa fb
  obtain ⟨q1, q2, q3⟩ := o1.2 d hd k
  have q1 : (rd f (d : Int)).toNat < n := q1
  have q2 : kept a b (rd f (d : Int)).toNat := q2
  have q3 : rd (outF f a b n) (nmA a b d : Int) = (nmA a b (rd f (d : Int)).toNat : Int) := q3
  have fr := hf.2 d hd
  unfold least
  rw [q3]
  by_cases z : (d : Int) < rd f (d : Int)
  · have := nm_lt a b d (rd f (d : Int)).toNat k (by omega)
    rw [if_pos z, if_pos (by omega)]
    exact ⟨k, rfl⟩
  · have := nm_mono a b (d - (rd f (d : Int)).toNat) (rd f (d : Int)).toNat
    rw [show (rd f (d : Int)).toNat + (d - (rd f (d : Int)).toNat) = d by omega] at this
    rw [if_neg z, if_neg (by omega), Int.toNat_natCast]
    exact ⟨q2, rfl⟩
theorem geL_rd (f : List Int) (n : Nat) (hf : inR n f) (hfl : ∀ i : Nat, i < n → flipAt f i) (d : Nat) (hd : d < n) : rd (geL f n n) (d : Int) = ((edL f (least f d)).length : Int) := geL_at f n hf hfl n (Nat.le_refl _) d hd (least_lt f n hf hfl d hd).1
theorem chB_lst (f : List Int) (n : Nat) (hf : inR n f) (hfl : ∀ i : Nat, i < n → flipAt f i) (s : Nat → Bool) (d : Nat) (hd : d < n) : chB f n (lstS s (edL f n).length) (d : Int) = s (edL f (least f d)).length := by
  have l := least_lt f n hf hfl d hd
  have hlt := edL_lt f (least f d) l.2 n l.1
  unfold chB
  rw [geL_rd f n hf hfl d hd]
  cases h : s (edL f (least f d)).length with
  | true => exact decide_eq_true ((mem_lstS _ _ _).2 ⟨_, hlt, h, rfl⟩)
  | false =>
    refine decide_eq_false fun z => ?_
    obtain ⟨k, k1, k2, k3⟩ := (mem_lstS _ _ _).1 z
    have : k = (edL f (least f d)).length := by omega
    rw [this, h] at k2
    cases k2
theorem edge_lt (f : List Int) (n : Nat) (hf : inR n f) (hfl : ∀ i : Nat, i < n → flipAt f i) (e a b : Nat) (hab : EdgeAt f n e a b) : a < b ∧ (edL f a).length = e ∧ least f a = a ∧ least f b = a := by
  obtain ⟨ha, hb, hne, e1, e2, e3, e4⟩ := hab
  have g := geL_rd f n hf hfl a ha
  have g2 := (e4 a ha).2 (.inl rfl)
  have l := least_lt f n hf hfl a ha
  have h := edL_at f (least f a) l.2 n l.1
  rw [← g, g2, e1] at h
  have ea : least f a = a := by omega
  rw [ea] at g l
  have l2 := l.2
  rw [e2] at l2
  refine ⟨by omega, by omega, ea, ?_⟩
  unfold least
  rw [if_neg (by rw [e3]; omega), e3, Int.toNat_natCast]
theorem out_name (f : List Int) (n : Nat) (hf : inR n f) (hfl : ∀ i : Nat, i < n → flipAt f i) (e a b : Nat) (hab : EdgeAt f n e a b) (d : Nat) (hd : d < n) (k : kept a b d) (bb : Bool) (s : Nat → Bool) :
    insB e bb s (edL f (least f d)).length = s (edL (outF f a b n) (least (outF f a b n) (nmA a b d))).length ∧ (edL f (least f d)).length ≠ e := by
  obtain ⟨hlt, he, la, lb⟩ := edge_lt f n hf hfl e a b hab
  obtain ⟨ha, hb, hne, e1, e2, e3, e4⟩ := hab
  obtain ⟨k1, k2⟩ := least_kept f n a b hf hfl ha hb hne e2 e3 d hd k
  have l := least_lt f n hf hfl d hd
  have h := out_edL f n a b hf hfl ha hb hlt e2 e3 (least f d) (by omega)
  have hlt0 := edL_lt f a (by rw [e2]; omega)
  rw [k2]
  unfold insB
  by_cases z : a < least f d
  · have := hlt0 (least f d) z
    rw [if_pos z] at h
    refine ⟨?_, by omega⟩
    rw [if_neg (by omega), if_neg (by omega)]
    congr 1
    omega
  · have z' : least f d < a := by
      have := k1.1
      omega
    have := edL_lt f (least f d) l.2 a z'
    rw [if_neg z] at h
    refine ⟨?_, by omega⟩
    rw [if_pos (by omega)]
    congr 1
    omega
theorem out_chB (f : List Int) (n : Nat) (hf : inR n f) (hfl : ∀ i : Nat, i < n → flipAt f i) (e a b : Nat) (hab : EdgeAt f n e a b) (d : Nat) (hd : d < n) (k : kept a b d) (bb : Bool) (s : Nat → Bool) :
    chB (outF f a b n) (n - 2) (lstS s (edL (outF f a b n) (n - 2)).length) (nmA a b d : Int) = chB f n (lstS (insB e bb s) (edL f n).length) (d : Int) := by
  obtain ⟨ha, hb, hne, e1, e2, e3, e4⟩ := id hab
  obtain ⟨o1, o2, o3⟩ := outF_ok f n a b hf hfl ha hb hne e2 e3
  rw [chB_lst f n hf hfl _ d hd, chB_lst _ (n - 2) o2 o3 _ _ (nm_bound a b n d ha hb hne hd k)]
  exact (out_name f n hf hfl e a b hab d hd k bb s).1.symm
theorem in_chB (f : List Int) (n : Nat) (hf : inR n f) (hfl : ∀ i : Nat, i < n → flipAt f i) (e a b : Nat) (hab : EdgeAt f n e a b) (d : Nat) (hd : d < n) (k : ¬ kept a b d) (bb : Bool) (s : Nat → Bool) :
    chB f n (lstS (insB e bb s) (edL f n).length) (d : Int) = bb := by
  obtain ⟨hlt, he, la, lb⟩ := edge_lt f n hf hfl e a b hab
  rw [chB_lst f n hf hfl _ d hd]
  have : least f d = a := by
    by_cases z : d = a
    · rw [z]; exact la
    · by_cases y : d = b
      · rw [y]; exact lb
      · exact absurd ⟨z, y⟩ k
  rw [this, he]
  unfold insB
  rw [if_neg (by omega), if_pos rfl]
theorem out_flC (f : List Int) (n : Nat) (hf : inR n f) (hfl : ∀ i : Nat, i < n → flipAt f i) (e a b : Nat) (hab : EdgeAt f n e a b) (bb : Bool) (s : Nat → Bool) :
    TellsQ a b n (fun d => (rd (flC f n (lstS (insB e bb s) (edL f n).length)) (d : Int)).toNat) (flC (outF f a b n) (n - 2) (lstS s (edL (outF f a b n) (n - 2)).length)) := by
  obtain ⟨ha, hb, hne, e1, e2, e3, e4⟩ := id hab
  obtain ⟨o1, o2, o3⟩ := outF_ok f n a b hf hfl ha hb hne e2 e3
  refine ⟨flC_len _ _ _, fun d hd k => ?_⟩
  have hc := out_chB f n hf hfl e a b hab d hd k bb s
  obtain ⟨q1, q2, q3⟩ := o1.2 d hd k
  have hcn := flC_rd (outF f a b n) (n - 2) (lstS s (edL (outF f a b n) (n - 2)).length) (nmA a b d) (nm_bound a b n d ha hb hne hd k)
  have hcd := flC_rd f n (lstS (insB e bb s) (edL f n).length) d hd
  rw [hc] at hcn
  show (rd (flC f n (lstS (insB e bb s) (edL f n).length)) (d : Int)).toNat < n ∧ kept a b (rd (flC f n (lstS (insB e bb s) (edL f n).length)) (d : Int)).toNat ∧ rd (flC (outF f a b n) (n - 2) (lstS s (edL (outF f a b n) (n - 2)).length)) (nmA a b d : Int) = (nmA a b (rd (flC f n (lstS (insB e bb s) (edL f n).length)) (d : Int)).toNat : Int)
  rw [hcn, hcd]
  by_cases z : chB f n (lstS (insB e bb s) (edL f n).length) (d : Int) = true
  · simp only [if_pos z]
    exact ⟨q1, q2, q3⟩
  · simp only [if_neg z, Int.toNat_natCast]
    exact ⟨hd, k, trivial⟩
theorem cut_nums (p f : List Int) (n : Nat) (hp : inR n p) (hi : injR n p) (hf : inR n f) (hfl : ∀ i : Nat, i < n → flipAt f i) (e a b : Nat) (hab : EdgeAt f n e a b) (hN : NoA p a b) (s : Nat → Bool) (P S : Nat)
    (hP : Cl n (Reach [p, flC f n (lstS (insB e false s) (edL f n).length)] n) P) (hS : Cl n (Reach [sgL p f n (lstS (insB e false s) (edL f n).length)] n) S) :
    Cl (n - 2) (Reach [outT p a b n, flC (outF f a b n) (n - 2) (lstS s (edL (outF f a b n) (n - 2)).length)] (n - 2)) P ∧ Cl (n - 2) (Reach [sgL (outT p a b n) (outF f a b n) (n - 2) (lstS s (edL (outF f a b n) (n - 2)).length)] (n - 2)) S := by
  obtain ⟨ha, hb, hne, e1, e2, e3, e4⟩ := id hab
  have hT := outT_tells p n hp hi a b ha hb hne
  have hF := out_flC f n hf hfl e a b hab false s
  have hFi := flC_inR f n hf (lstS (insB e false s) (edL f n).length)
  have fix : ∀ x : Nat, x < n → ¬ kept a b x → rd (flC f n (lstS (insB e false s) (edL f n).length)) (x : Int) = x := by
    intro x hx k
    rw [flC_rd f n _ x hx, in_chB f n hf hfl e a b hab x hx k false s]
    rfl
  have na : ¬ kept a b a := fun z => z.1 rfl
  have nb : ¬ kept a b b := fun z => z.2 rfl
  have sa : rd (sgL p f n (lstS (insB e false s) (edL f n).length)) (a : Int) = rd p (a : Int) := by rw [sgL_rd p f n _ a ha, fix a ha na]
  have sb : rd (sgL p f n (lstS (insB e false s) (edL f n).length)) (b : Int) = rd p (b : Int) := by rw [sgL_rd p f n _ b hb, fix b hb nb]
  refine ⟨cl_left2 p _ _ _ n hp a b ha hb hne hN hT hFi hF (fun x hx k => ?_) P hP, cl_left _ _ n (sgL_inR p f n hp hf _) a b ha hb hne ?_ ⟨sgL_len _ _ _ _, fun d hd k => ?_⟩ S hS⟩
  · rw [fix x hx k, Int.toNat_natCast]
    exact ⟨k, Reach.refl _ _ x⟩
  · unfold NoA
    rw [sa, sb]
    exact hN
  · obtain ⟨q1, q2, q3⟩ := hF.2 d hd k
    obtain ⟨w1, w2, w3⟩ := hT.2 _ q1 q2
    have fr := hFi.2 d hd
    have e0 : (((rd (flC f n (lstS (insB e false s) (edL f n).length)) (d : Int)).toNat : Nat) : Int) = rd (flC f n (lstS (insB e false s) (edL f n).length)) (d : Int) := by omega
    have es : skp (sgL p f n (lstS (insB e false s) (edL f n).length)) a b (rd (sgL p f n (lstS (insB e false s) (edL f n).length)) (d : Int)) = skp p a b (rd p ((rd (flC f n (lstS (insB e false s) (edL f n).length)) (d : Int)).toNat : Int)) := by
      rw [skp_congr _ p a b _ sa sb, sgL_rd p f n _ d hd, e0]
    show (skp (sgL p f n (lstS (insB e false s) (edL f n).length)) a b (rd (sgL p f n (lstS (insB e false s) (edL f n).length)) (d : Int))).toNat < n ∧ kept a b (skp (sgL p f n (lstS (insB e false s) (edL f n).length)) a b (rd (sgL p f n (lstS (insB e false s) (edL f n).length)) (d : Int))).toNat ∧ rd (sgL (outT p a b n) (outF f a b n) (n - 2) (lstS s (edL (outF f a b n) (n - 2)).length)) (nmA a b d : Int) = (nmA a b (skp (sgL p f n (lstS (insB e false s) (edL f n).length)) a b (rd (sgL p f n (lstS (insB e false s) (edL f n).length)) (d : Int))).toNat : Int)
    rw [es, sgL_rd _ _ _ _ _ (nm_bound a b n d ha hb hne hd k)]
    refine ⟨w1, w2, ?_⟩
    rw [q3]
    exact w3
theorem term_del (t f : List Int) (n : Nat) (H : MapOk t f n) (e a b : Nat) (he : e < (edL f n).length) (hab : EdgeAt f n e a b) (hN : NoA t a b) (X Y Z : Int) (s : Nat → Bool) :
    tmV t f n X Y Z (lstS (insB e false s) (edL f n).length) = tmV (outT t a b n) (outF f a b n) (n - 2) X Y Z (lstS s (edL (outF f a b n) (n - 2)).length) := by
  obtain ⟨hn, h1, ht, hti, hf, hfl, hcon⟩ := id H
  obtain ⟨ha, hb, hne, e1, e2, e3, e4⟩ := id hab
  have oe := out_edges f n a b hf hfl ha hb hne e2 e3
  obtain ⟨c1, c2⟩ := cut_nums t f n ht hti hf hfl e a b hab hN s _ _ (clN_cl _ _) (clN_cl _ _)
  have c3 := del_count t f n H e a b hab hN _ (clN_cl _ _)
  have eP : pN (outT t a b n) (outF f a b n) (n - 2) (lstS s (edL (outF f a b n) (n - 2)).length) = pN t f n (lstS (insB e false s) (edL f n).length) := c1.eq
  have eS : sN (outT t a b n) (outF f a b n) (n - 2) (lstS s (edL (outF f a b n) (n - 2)).length) = sN t f n (lstS (insB e false s) (edL f n).length) := c2.eq
  have eV : vN (outT t a b n) (n - 2) = vN t n := c3.eq
  have hl := lst_ins_len e false s (edL (outF f a b n) (n - 2)).length (by omega)
  rw [oe] at hl
  simp only [Bool.false_eq_true, if_false, Nat.add_zero] at hl
  unfold tmV
  rw [eP, eS, eV, hl]
theorem Cl.rel {n : Nat} {R S : Nat → Nat → Prop} {k : Nat} (h : ∀ x y, R x y ↔ S x y) (hk : Cl n R k) : Cl n S k := by
  have : R = S := by funext x y; exact propext (h x y)
  rwa [← this]
theorem hold_rel (t f : List Int) (n : Nat) (H : MapOk t f n) (e a b : Nat) (hab : EdgeAt f n e a b) (hk : ¬ Reach [t] n a b) (s : Nat → Bool) :
    (∀ x y, Reach [t, flC f n (lstS (insB e true s) (edL f n).length)] n x y ↔ Reach [swp t a b n, flC f n (lstS (insB e false s) (edL f n).length)] n x y) ∧ sgL t f n (lstS (insB e true s) (edL f n).length) = sgL (swp t a b n) f n (lstS (insB e false s) (edL f n).length) := by
  obtain ⟨hn, h1, ht, hti, hf, hfl, hcon⟩ := id H
  obtain ⟨ha, hb, hne, e1, e2, e3, e4⟩ := id hab
  have si := swp_inR t n a b ht ha hb
  have sj := swp_inj t n a b hti ha hb hne
  have hj := exch_join ht si hti sj (swp_exch t n a b ha hb hne) hk
  have na : ¬ kept a b a := fun z => z.1 rfl
  have nb : ¬ kept a b b := fun z => z.2 rfl
  have f0 : ∀ x : Nat, x < n → ¬ kept a b x → rd (flC f n (lstS (insB e false s) (edL f n).length)) (x : Int) = x := by
    intro x hx k
    rw [flC_rd f n _ x hx, in_chB f n hf hfl e a b hab x hx k false s]
    rfl
  have f1 : ∀ x : Nat, x < n → ¬ kept a b x → rd (flC f n (lstS (insB e true s) (edL f n).length)) (x : Int) = rd f (x : Int) := by
    intro x hx k
    rw [flC_rd f n _ x hx, in_chB f n hf hfl e a b hab x hx k true s]
    rfl
  have fk : ∀ x : Nat, x < n → kept a b x → rd (flC f n (lstS (insB e true s) (edL f n).length)) (x : Int) = rd (flC f n (lstS (insB e false s) (edL f n).length)) (x : Int) := by
    intro x hx k
    rw [flC_rd f n _ x hx, flC_rd f n _ x hx, ← out_chB f n hf hfl e a b hab x hx k true s, ← out_chB f n hf hfl e a b hab x hx k false s]
  have kk : ∀ x : Nat, x < n → kept a b x → kept a b (rd (flC f n (lstS (insB e false s) (edL f n).length)) (x : Int)).toNat ∧ (rd (flC f n (lstS (insB e false s) (edL f n).length)) (x : Int)).toNat < n := by
    intro x hx k
    rw [flC_rd f n _ x hx]
    split
    · have := hf.2 x hx
      exact ⟨edge_kept f n a b hf hfl e2 e3 x hx k, by omega⟩
    · rw [Int.toNat_natCast]
      exact ⟨k, hx⟩
  have sa := swp_a t a b n ha
  have sb := swp_b t a b n hb hne
  have cases3 : ∀ x : Nat, x = a ∨ x = b ∨ kept a b x := by
    intro x
    by_cases z : x = a
    · exact .inl z
    · by_cases y : x = b
      · exact .inr (.inl y)
      · exact .inr (.inr ⟨z, y⟩)
  have cl : ∀ S, closedL [t, flC f n (lstS (insB e true s) (edL f n).length)] n S ↔ closedL [swp t a b n, flC f n (lstS (insB e false s) (edL f n).length)] n S := by
    intro S
    constructor
    · intro hS
      have hSt : ∀ k, k < n → (S k ↔ S (rd t (k : Int)).toNat) := hS t (by simp)
      have hSF : ∀ k, k < n → (S k ↔ S (rd (flC f n (lstS (insB e true s) (edL f n).length)) (k : Int)).toNat) := hS _ (by simp)
      have ab : S a ↔ S b := by
        have := hSF a ha
        rwa [f1 a ha na, e2, Int.toNat_natCast] at this
      intro q hq k hkn
      rcases List.mem_cons.1 hq with rfl | hq
      · rcases cases3 k with rfl | rfl | kk'
        · rw [sa, ab]; exact hSt _ hb
        · rw [sb, ← ab]; exact hSt _ ha
        · rw [swp_kept t a b n k hkn kk']; exact hSt _ hkn
      · rw [List.mem_singleton.1 hq]
        rcases cases3 k with rfl | rfl | kk'
        · rw [f0 _ hkn na, Int.toNat_natCast]
        · rw [f0 _ hkn nb, Int.toNat_natCast]
        · rw [← fk k hkn kk']; exact hSF _ hkn
    · intro hS
      have hSs : ∀ k, k < n → (S k ↔ S (rd (swp t a b n) (k : Int)).toNat) := hS _ (by simp)
      have hSF : ∀ k, k < n → (S k ↔ S (rd (flC f n (lstS (insB e false s) (edL f n).length)) (k : Int)).toNat) := hS _ (by simp)
      have ab : S a ↔ S b := hj S fun q hq => hS q (by rw [List.mem_singleton.1 hq]; simp)
      intro q hq k hkn
      rcases List.mem_cons.1 hq with rfl | hq
      · rcases cases3 k with rfl | rfl | kk'
        · have := hSs _ hb
          rw [sb] at this
          rw [ab]; exact this
        · have := hSs _ ha
          rw [sa] at this
          rw [← ab]; exact this
        · have := hSs _ hkn
          rwa [swp_kept _ a b n k hkn kk'] at this
      · rw [List.mem_singleton.1 hq]
        rcases cases3 k with rfl | rfl | kk'
        · rw [f1 _ hkn na, e2, Int.toNat_natCast]; exact ab
        · rw [f1 _ hkn nb, e3, Int.toNat_natCast]; exact ab.symm
        · rw [fk k hkn kk']; exact hSF _ hkn
  refine ⟨fun x y => ⟨fun h S hS => h S ((cl S).2 hS), fun h S hS => h S ((cl S).1 hS)⟩, list_ext _ _ (by rw [sgL_len, sgL_len]) fun d hd => ?_⟩
  rw [sgL_len] at hd
  rw [sgL_rd t f n _ d hd, sgL_rd _ f n _ d hd]
  rcases cases3 d with rfl | rfl | k
  · rw [f1 _ hd na, f0 _ hd na, e2, sa]
  · rw [f1 _ hd nb, f0 _ hd nb, e3, sb]
  · obtain ⟨k1, k2⟩ := kk d hd k
    have fr := (flC_inR f n hf (lstS (insB e false s) (edL f n).length)).2 d hd
    rw [fk d hd k, ← show (((rd (flC f n (lstS (insB e false s) (edL f n).length)) (d : Int)).toNat : Nat) : Int) = rd (flC f n (lstS (insB e false s) (edL f n).length)) (d : Int) by omega, swp_kept t a b n _ k2 k1]
theorem term_con (t f : List Int) (n : Nat) (H : MapOk t f n) (e a b : Nat) (he : e < (edL f n).length) (hab : EdgeAt f n e a b) (hk : ¬ Reach [t] n a b) (hN : NoA (swp t a b n) a b) (hNf : NoA (faces t f n) a b) (X Y Z : Int) (s : Nat → Bool) :
    tmV t f n X Y Z (lstS (insB e true s) (edL f n).length) = tmV (outT (swp t a b n) a b n) (outF f a b n) (n - 2) X Y Z (lstS s (edL (outF f a b n) (n - 2)).length) := by
  obtain ⟨hn, h1, ht, hti, hf, hfl, hcon⟩ := id H
  obtain ⟨ha, hb, hne, e1, e2, e3, e4⟩ := id hab
  have si := swp_inR t n a b ht ha hb
  have sj := swp_inj t n a b hti ha hb hne
  have oe := out_edges f n a b hf hfl ha hb hne e2 e3
  obtain ⟨r1, r2⟩ := hold_rel t f n H e a b hab hk s
  have hP := (clN_cl n (Reach [t, flC f n (lstS (insB e true s) (edL f n).length)] n)).rel r1
  have hS := clN_cl n (Reach [sgL t f n (lstS (insB e true s) (edL f n).length)] n)
  rw [r2] at hS
  obtain ⟨c1, c2⟩ := cut_nums (swp t a b n) f n si sj hf hfl e a b hab hN s _ _ hP hS
  obtain ⟨v1, c3, _⟩ := con_count t f n H e a b hab hN hNf hk _ _ (clN_cl _ _) (clN_cl _ _)
  have eP : pN (outT (swp t a b n) a b n) (outF f a b n) (n - 2) (lstS s (edL (outF f a b n) (n - 2)).length) = pN t f n (lstS (insB e true s) (edL f n).length) := c1.eq
  have eS : sN (outT (swp t a b n) a b n) (outF f a b n) (n - 2) (lstS s (edL (outF f a b n) (n - 2)).length) = sN t f n (lstS (insB e true s) (edL f n).length) := by
    unfold sN
    rw [c2.eq, r2]
  have eV : vN (outT (swp t a b n) a b n) (n - 2) = vN t n - 1 := c3.eq
  have v1 : 1 ≤ vN t n := v1
  have hl := lst_ins_len e true s (edL (outF f a b n) (n - 2)).length (by omega)
  rw [oe] at hl
  simp only [if_true] at hl
  unfold tmV
  rw [eP, eS, eV, hl]
  rw [show (lstS s (edL (outF f a b n) (n - 2)).length).length + 1 + pN t f n (lstS (insB e true s) (edL f n).length) - vN t n = (lstS s (edL (outF f a b n) (n - 2)).length).length + pN t f n (lstS (insB e true s) (edL f n).length) - (vN t n - 1) by omega]
  rw [show 2 * pN t f n (lstS (insB e true s) (edL f n).length) + ((lstS s (edL (outF f a b n) (n - 2)).length).length + 1) - vN t n - sN t f n (lstS (insB e true s) (edL f n).length) = 2 * pN t f n (lstS (insB e true s) (edL f n).length) + (lstS s (edL (outF f a b n) (n - 2)).length).length - (vN t n - 1) - sN t f n (lstS (insB e true s) (edL f n).length) by omega]
theorem term_bridge (t f : List Int) (n : Nat) (H : MapOk t f n) (e a b : Nat) (he : e < (edL f n).length) (hab : EdgeAt f n e a b) (hk : ¬ Reach [t, flC f n (restL [(e : Int)] (edL f n).length)] n a b) (X Y Z : Int) (s : Nat → Bool) :
    tmV t f n X Y Z (lstS (insB e false s) (edL f n).length) = X * tmV t f n X Y Z (lstS (insB e true s) (edL f n).length) := by
  obtain ⟨hn, h1, ht, hti, hf, hfl, hcon⟩ := id H
  obtain ⟨ha, hb, hne, e1, e2, e3, e4⟩ := id hab
  have oe := out_edges f n a b hf hfl ha hb hne e2 e3
  have hec : (e : Int) ∉ lstS (insB e false s) (edL f n).length := by
    intro z
    obtain ⟨k, k1, k2, k3⟩ := (mem_lstS _ _ _).1 z
    have : k = e := by omega
    rw [this] at k2
    unfold insB at k2
    rw [if_neg (Nat.lt_irrefl _), if_pos rfl] at k2
    cases k2
  have hmem : ∀ x, x ∈ lstS (insB e false s) (edL f n).length ++ [(e : Int)] ↔ x ∈ lstS (insB e true s) (edL f n).length := by
    intro x
    rw [List.mem_append, List.mem_singleton, mem_lstS, mem_lstS]
    constructor
    · rintro (⟨k, k1, k2, k3⟩ | rfl)
      · refine ⟨k, k1, ?_, k3⟩
        unfold insB at k2 ⊢
        by_cases y : k < e
        · rw [if_pos y] at k2 ⊢; exact k2
        · rw [if_neg y] at k2 ⊢
          by_cases w : k = e
          · rw [if_pos w]
          · rw [if_neg w] at k2 ⊢; exact k2
      · exact ⟨e, he, by unfold insB; rw [if_neg (Nat.lt_irrefl _), if_pos rfl], rfl⟩
    · rintro ⟨k, k1, k2, k3⟩
      by_cases w : k = e
      · exact .inr (by rw [k3, w])
      · refine .inl ⟨k, k1, ?_, k3⟩
        unfold insB at k2 ⊢
        rw [if_neg w] at k2 ⊢
        exact k2
  have hfc := mem_congr f n _ _ hmem
  have hsg := sgL_congr t f n _ _ hfc
  have hP' := clN_cl n (Reach [t, flC f n (lstS (insB e true s) (edL f n).length)] n)
  have hS' := clN_cl n (Reach [sgL t f n (lstS (insB e true s) (edL f n).length)] n)
  rw [← hfc] at hP'
  rw [← hsg] at hS'
  have hrd := rest_rd t f n H e a b he hab
  have far : ¬ Reach [t, flC f n (lstS (insB e false s) (edL f n).length)] n a b := by
    refine fun h => hk fun S hS => h S ?_
    have hSt : ∀ k, k < n → (S k ↔ S (rd t (k : Int)).toNat) := hS t (by simp)
    have hSF : ∀ k, k < n → (S k ↔ S (rd (flC f n (restL [(e : Int)] (edL f n).length)) (k : Int)).toNat) := hS _ (by simp)
    intro q hq k hkn
    rcases List.mem_cons.1 hq with rfl | hq
    · exact hSt k hkn
    · rw [List.mem_singleton.1 hq]
      by_cases kk : kept a b k
      · rw [flC_rd f n _ k hkn]
        split
        · have := hSF k hkn
          rw [hrd k hkn, if_neg (by intro z; rcases z with z | z; exact kk.1 z; exact kk.2 z)] at this
          exact this
        · rw [Int.toNat_natCast]
      · rw [flC_rd f n _ k hkn, in_chB f n hf hfl e a b hab k hkn kk false s]
        simp
  obtain ⟨x1, x2, x3, x4⟩ := add_edge t f n H _ e he hec a b ha hb hne e2 e3 e4 _ _ _ _ (clN_cl _ _) (clN_cl _ _) hP' hS'
  have p1 := x2 far
  have s1 := x3 fun q => far (sg_flC t f _ n hf a b q)
  rw [hfc] at p1
  rw [hsg] at s1
  have pp := (clN_cl n (Reach [t, flC f n (lstS (insB e true s) (edL f n).length)] n)).pos h1
  have hl0 := lst_ins_len e false s (edL (outF f a b n) (n - 2)).length (by omega)
  have hl1 := lst_ins_len e true s (edL (outF f a b n) (n - 2)).length (by omega)
  rw [oe] at hl0 hl1
  simp only [Bool.false_eq_true, if_false, if_true, Nat.add_zero] at hl0 hl1
  change pN t f n (lstS (insB e true s) (edL f n).length) + 1 = pN t f n (lstS (insB e false s) (edL f n).length) at p1
  change sN t f n (lstS (insB e true s) (edL f n).length) + 1 = sN t f n (lstS (insB e false s) (edL f n).length) at s1
  change 1 ≤ pN t f n (lstS (insB e true s) (edL f n).length) at pp
  unfold tmV
  rw [hl0, hl1, ← p1, ← s1]
  generalize pN t f n (lstS (insB e true s) (edL f n).length) = P at *
  generalize sN t f n (lstS (insB e true s) (edL f n).length) = S at *
  generalize (lstS s (edL (outF f a b n) (n - 2)).length).length = C at *
  generalize vN t n = V at *
  obtain ⟨P', rfl⟩ : ∃ P', P = P' + 1 := ⟨P - 1, by omega⟩
  rw [show P' + 1 + 1 - 1 = P' + 1 by omega, show P' + 1 - 1 = P' by omega, show C + (P' + 1 + 1) - V = C + 1 + (P' + 1) - V by omega, show 2 * (P' + 1 + 1) + C - V - (S + 1) = 2 * (P' + 1) + (C + 1) - V - S by omega, Int.pow_succ, Int.mul_comm (X ^ P') X, Int.mul_assoc X, Int.mul_assoc X]
theorem sumB_mul (X : Int) : ∀ (E : Nat) (F : (Nat → Bool) → Int), sumB E (fun s => X * F s) = X * sumB E F
  | 0, F => rfl
  | E + 1, F => by
    simp only [sumB]
    rw [sumB_mul X E, sumB_mul X E, Int.mul_add]
theorem val_cut (t f : List Int) (n : Nat) (H : MapOk t f n) (e a b : Nat) (he : e < (edL f n).length) (hab : EdgeAt f n e a b) (hk : ¬ Reach [t] n a b) (hNd : NoA t a b) (hN : NoA (swp t a b n) a b) (hNf : NoA (faces t f n) a b) (X Y Z : Int) :
    valS t f n X Y Z = valS (outT t a b n) (outF f a b n) (n - 2) X Y Z + valS (outT (swp t a b n) a b n) (outF f a b n) (n - 2) X Y Z := by
  obtain ⟨hn, h1, ht, hti, hf, hfl, hcon⟩ := id H
  obtain ⟨ha, hb, hne, e1, e2, e3, e4⟩ := id hab
  have oe := out_edges f n a b hf hfl ha hb hne e2 e3
  have h := sumB_at (edL (outF f a b n) (n - 2)).length e (fun s => tmV t f n X Y Z (lstS s (edL f n).length)) (by omega)
  rw [oe] at h
  unfold valS
  rw [h]
  congr 1
  · exact sumB_congr _ _ _ fun s _ => term_del t f n H e a b he hab hNd X Y Z s
  · exact sumB_congr _ _ _ fun s _ => term_con t f n H e a b he hab hk hN hNf X Y Z s
theorem val_bridge (t f : List Int) (n : Nat) (H : MapOk t f n) (e a b : Nat) (he : e < (edL f n).length) (hab : EdgeAt f n e a b) (hk : ¬ Reach [t] n a b) (hr : ¬ Reach [t, flC f n (restL [(e : Int)] (edL f n).length)] n a b) (hN : NoA (swp t a b n) a b) (hNf : NoA (faces t f n) a b) (X Y Z : Int) :
    valS t f n X Y Z = (X + 1) * valS (outT (swp t a b n) a b n) (outF f a b n) (n - 2) X Y Z := by
  obtain ⟨hn, h1, ht, hti, hf, hfl, hcon⟩ := id H
  obtain ⟨ha, hb, hne, e1, e2, e3, e4⟩ := id hab
  have oe := out_edges f n a b hf hfl ha hb hne e2 e3
  have h := sumB_at (edL (outF f a b n) (n - 2)).length e (fun s => tmV t f n X Y Z (lstS s (edL f n).length)) (by omega)
  rw [oe] at h
  unfold valS
  rw [h, sumB_congr _ _ _ fun s _ => term_bridge t f n H e a b he hab hr X Y Z s, sumB_mul, sumB_congr _ _ _ fun s _ => term_con t f n H e a b he hab hk hN hNf X Y Z s, Int.add_mul, Int.one_mul]
def swpL (t : List Int) (a b n : Nat) : List Int := (List.range n).map fun (d : Nat) => if d = a then rd t (b : Int) else if d = b then rd t (a : Int) else rd t (d : Int)
theorem swpL_rd (t : List Int) (a b n d : Nat) (h : d < n) : rd (swpL t a b n) (d : Int) = if d = a then rd t (b : Int) else if d = b then rd t (a : Int) else rd t (d : Int) := rd_rangeL _ n d h
theorem swpL_len (t : List Int) (a b n : Nat) : (swpL t a b n).length = n := by simp [swpL]
theorem swpL_inR (t : List Int) (n a b : Nat) (ht : inR n t) (ha : a < n) (hb : b < n) : inR n (swpL t a b n) := ⟨swpL_len t a b n, fun i hi => by
  rw [swpL_rd t a b n i hi]
  have h1 := ht.2 a ha
  have h2 := ht.2 b hb
  have h3 := ht.2 i hi
  split
  · exact h2
  · split
    · exact h1
    · exact h3⟩
theorem swpL_inj (t : List Int) (n a b : Nat) (hti : injR n t) (ha : a < n) (hb : b < n) (hab : a ≠ b) : injR n (swpL t a b n) := fun i j hi hj e => by
  rw [swpL_rd t a b n i hi, swpL_rd t a b n j hj] at e
  by_cases i1 : i = a
  · rw [if_pos i1] at e
    by_cases j1 : j = a
    · omega
    · rw [if_neg j1] at e
      by_cases j2 : j = b
      · rw [if_pos j2] at e
        exact absurd (hti b a hb ha e).symm hab
      · rw [if_neg j2] at e
        exact absurd (hti b j hb hj e).symm j2
  · rw [if_neg i1] at e
    by_cases i2 : i = b
    · rw [if_pos i2] at e
      by_cases j1 : j = a
      · rw [if_pos j1] at e
        exact absurd (hti a b ha hb e) hab
      · rw [if_neg j1] at e
        by_cases j2 : j = b
        · omega
        · rw [if_neg j2] at e
          exact absurd (hti a j ha hj e).symm j1
    · rw [if_neg i2] at e
      by_cases j1 : j = a
      · rw [if_pos j1] at e
        exact absurd (hti i b hi hb e) i2
      · rw [if_neg j1] at e
        by_cases j2 : j = b
        · rw [if_pos j2] at e
          exact absurd (hti i a hi ha e) i1
        · rw [if_neg j2] at e
          exact hti i j hi hj e
theorem onCon_ev (t f : List Int) (n : Nat) (ht : inR n t) (hti : injR n t) (hf : inR n f) (a b : Nat) (ha : a < n) (hb : b < n) (hab : a ≠ b) (fa : rd f (a : Int) = b) (fb : rd f (b : Int) = a) (d : Nat) (hd : d < n) (hda : d ≠ a) (hdb : d ≠ b) : Ev (fun k => econ.f k a b t f (rd t (d : Int))) (skp (swpL t a b n) a b (rd (swpL t a b n) (d : Int))) := by
  have htl := ht.1
  have hfl := hf.1
  have hpa : rd (swpL t a b n) (a : Int) = rd t (b : Int) := by rw [swpL_rd t a b n a ha, if_pos rfl]
  have hpb : rd (swpL t a b n) (b : Int) = rd t (a : Int) := by rw [swpL_rd t a b n b hb, if_neg (fun z => hab z.symm), if_pos rfl]
  have hpd : rd (swpL t a b n) (d : Int) = rd t (d : Int) := by rw [swpL_rd t a b n d hd, if_neg hda, if_neg hdb]
  rw [← hpd]
  exact skp_run (fun k x => econ.l0 a b t f k x) (swpL t a b n) n (swpL_inR t n a b ht ha hb) a b (fun x h1 h2 => by
      refine Ev.s ?_
      simp only [econ.l0, h1, h2, if_false]
      exact Ev.const rfl) (fun x c r hr => by
      refine Ev.s ?_
      rcases c with c | c
      · subst c
        rw [hpa] at hr
        simp only [econ.l0, if_true, show (0 : Int) ≤ (a : Int) by omega, show (a : Int) < (f.length : Int) by omega, fa, show (0 : Int) ≤ (b : Int) by omega, show (b : Int) < (t.length : Int) by omega]
        exact hr
      · subst c
        rw [hpb] at hr
        simp only [econ.l0, if_true, show ¬ (b : Int) = (a : Int) by omega, if_false, show (0 : Int) ≤ (b : Int) by omega, show (b : Int) < (f.length : Int) by omega, fb, show (0 : Int) ≤ (a : Int) by omega, show (a : Int) < (t.length : Int) by omega]
        exact hr) (rd (swpL t a b n) (d : Int)) (skp_out (swpL t a b n) n (swpL_inR t n a b ht ha hb) (swpL_inj t n a b hti ha hb hab) a b d ha hb hd hab hda hdb).1
theorem namesCon (t f lt lf : List Int) (n : Nat) (hn : n ≤ 12) (a b ca cb : Nat) (r : List Int × List Int) (h : Ev (fun k => leftCon.l1 ca cb lt lf k a b (nmT a b n) (t.length : Int) 0 t f [] []) r) : ∀ (d i : Nat), n - i = d → i ≤ n → Ev (fun k => leftCon.l0 ca cb lt lf k a b (mixL (nmT a b n) (List.replicate n 0) n i) (nmA a b i) n i t f) r
  | 0, i, hd, hi => by
    have : i = n := by omega
    subst this
    rw [mixL_all _ _ _ (nmT_len a b i)]
    refine Ev.s ?_
    simp only [leftCon.l0, show ¬ (i : Int) < (i : Int) by omega, if_false]
    exact h
  | d + 1, i, hd, hi => by
    have ih := namesCon t f lt lf n hn a b ca cb r h d (i + 1) (by omega) (by omega)
    have hl := mixL_len (nmT a b n) (List.replicate n 0) n i
    have hs := mixL_set (nmT a b n) (List.replicate n 0) n i (by omega)
    rw [nmT_rd a b n i (by omega)] at hs
    have hle := nmA_le a b i
    refine Ev.s ?_
    simp only [leftCon.l0, hl, show (i : Int) < (n : Int) by omega, show (0 : Int) ≤ (i : Int) by omega, if_true, Option.bind_some, Int.toNat_natCast, hs, w64n (show i < 4611686018427387904 by omega)]
    simp only [nmA] at ih
    by_cases c1 : i = a
    · rw [if_pos (.inl c1), Nat.add_zero] at ih
      simp only [if_pos (show (i : Int) = (a : Int) by omega)]
      exact ih
    · simp only [if_neg (show ¬ (i : Int) = (a : Int) by omega)]
      by_cases c2 : i = b
      · rw [if_pos (.inr c2), Nat.add_zero] at ih
        simp only [if_pos (show (i : Int) = (b : Int) by omega)]
        exact ih
      · rw [if_neg (fun z => z.elim c1 c2)] at ih
        simp only [if_neg (show ¬ (i : Int) = (b : Int) by omega), w64n (show nmA a b i < 4611686018427387904 by omega)]
        exact ih
theorem leftCon_run (t f : List Int) (n : Nat) (hn : n ≤ 12) (ht : inR n t) (hti : injR n t) (hf : inR n f) (a b : Nat) (ha : a < n) (hb : b < n) (hab : a ≠ b) (fa : rd f (a : Int) = b) (fb : rd f (b : Int) = a) : ∀ (d i : Nat), n - i = d → i ≤ n → Ev (fun k => leftCon.l1 a b t f k a b (nmT a b n) n i t f (lvL a b (fun d => (nmA a b (skp (swpL t a b n) a b (rd (swpL t a b n) (d : Int))).toNat : Int)) i) (lvL a b (fun d => (nmA a b (rd f (d : Int)).toNat : Int)) i)) (outT (swpL t a b n) a b n, outF f a b n)
  | 0, i, hd, hi => by
    have : i = n := by omega
    subst this
    refine Ev.s ?_
    simp only [leftCon.l1, show ¬ (i : Int) < (i : Int) by omega, if_false]
    exact Ev.const rfl
  | d + 1, i, hd, hi => by
    have ih := leftCon_run t f n hn ht hti hf a b ha hb hab fa fb d (i + 1) (by omega) (by omega)
    have hle := nmA_le a b i
    have l1 := lvL_len a b (fun d => (nmA a b (skp (swpL t a b n) a b (rd (swpL t a b n) (d : Int))).toNat : Int)) i
    have l2 := lvL_len a b (fun d => (nmA a b (rd f (d : Int)).toNat : Int)) i
    have htl := ht.1
    have hfl := hf.1
    refine Ev.s ?_
    simp only [leftCon.l1, show (i : Int) < (n : Int) by omega, show (0 : Int) ≤ (i : Int) by omega, if_true, w64n (show i < 4611686018427387904 by omega)]
    simp only [lvL] at ih
    by_cases c1 : i = a
    · rw [if_pos (.inl c1), if_pos (.inl c1)] at ih
      simp only [if_pos (show (i : Int) = (a : Int) by omega)]
      exact ih
    · simp only [if_neg (show ¬ (i : Int) = (a : Int) by omega)]
      by_cases c2 : i = b
      · rw [if_pos (.inr c2), if_pos (.inr c2)] at ih
        simp only [if_pos (show (i : Int) = (b : Int) by omega)]
        exact ih
      · rw [if_neg (fun z => z.elim c1 c2), if_neg (fun z => z.elim c1 c2)] at ih
        simp only [if_neg (show ¬ (i : Int) = (b : Int) by omega), show (i : Int) < (t.length : Int) by omega, if_true]
        refine Ev.bind (onCon_ev t f n ht hti hf a b ha hb hab fa fb i (by omega) c1 c2) ?_
        have r1 := (skp_out (swpL t a b n) n (swpL_inR t n a b ht ha hb) (swpL_inj t n a b hti ha hb hab) a b i ha hb (by omega) hab c1 c2).2
        have r2 := hf.2 i (by omega)
        have e1 := nmT_rd a b n (skp (swpL t a b n) a b (rd (swpL t a b n) (i : Int))).toNat (by omega)
        have e2 := nmT_rd a b n (rd f (i : Int)).toNat (by omega)
        rw [show (((skp (swpL t a b n) a b (rd (swpL t a b n) (i : Int))).toNat : Nat) : Int) = skp (swpL t a b n) a b (rd (swpL t a b n) (i : Int)) by omega] at e1
        rw [show (((rd f (i : Int)).toNat : Nat) : Int) = rd f (i : Int) by omega] at e2
        simp only [r1.1, r1.2, r2.1, r2.2, nmT_len, show (i : Int) < (f.length : Int) by omega, if_true, e1, e2, show (lvL a b (fun d => (nmA a b (skp (swpL t a b n) a b (rd (swpL t a b n) (d : Int))).toNat : Int)) i).length < 17592186044416 by omega, show (lvL a b (fun d => (nmA a b (rd f (d : Int)).toNat : Int)) i).length < 17592186044416 by omega]
        exact ih
theorem leftCon_ev (t f : List Int) (n : Nat) (hn : n ≤ 12) (ht : inR n t) (hti : injR n t) (hf : inR n f) (a b : Nat) (ha : a < n) (hb : b < n) (hab : a ≠ b) (fa : rd f (a : Int) = b) (fb : rd f (b : Int) = a) : Ev (fun k => leftCon.f k t f a b a b t f) (outT (swpL t a b n) a b n, outF f a b n) := by
  have htl := ht.1
  have h1 := leftCon_run t f n hn ht hti hf a b ha hb hab fa fb n 0 (by omega) (by omega)
  have h0 := namesCon t f t f n hn a b a b _ (by rw [htl]; exact h1) n 0 (by omega) (by omega)
  rw [mixL_zero _ _ _ (by simp)] at h0
  unfold leftCon.f
  simp only [htl, show (0 : Int) ≤ (n : Int) by omega, Int.toNat_natCast, show n ≤ 35184372088832 by omega, if_true, Option.bind_some, List.length_replicate]
  exact h0
theorem conI_told (t f : List Int) (hm : isMap t f) (e : Nat) (he : e < (edL f t.length).length) : ∃ a b : Nat, a < t.length ∧ b < t.length ∧ a ≠ b ∧ rd (edL f t.length) (e : Int) = a ∧ rd f a = b ∧ rd f b = a ∧ (∀ d : Nat, d < t.length → (rd (geL f t.length t.length) (d : Int) = e ↔ d = a ∨ d = b)) ∧
    Ev (fun k => impl_EdgeContract.j0 k e false t f) (outT (swpL t a b t.length) a b t.length, outF f a b t.length, true) := by
  obtain ⟨hn, h1, ht, hti, hf, hfl, _, _⟩ := ribOk_of t f [] hm (fun i hi => by simp at hi) (by simp)
  have hlen := hf.1
  obtain ⟨a, b, ha, hb, hab, e1, e2, e3, e4⟩ := edge_at f t.length hf hfl e he
  refine ⟨a, b, ha, hb, hab, e1, e2, e3, e4, ?_⟩
  refine Ev.s ?_
  simp only [impl_EdgeContract.j0, Bool.false_eq_true, if_false]
  refine Ev.bind (implEdges_ev t.length (by omega) t f hf) ?_
  simp only [show (0 : Int) ≤ (e : Int) by omega, show (e : Int) < ((edL f t.length).length : Int) by omega, e1, show (0 : Int) ≤ (a : Int) by omega, show (a : Int) < (f.length : Int) by omega, e2, if_true]
  exact Ev.bind (leftCon_ev t f t.length hn ht hti hf a b ha hb hab e2 e3) (Ev.const rfl)
theorem onDel_ev (t f : List Int) (n : Nat) (ht : inR n t) (hti : injR n t) (hf : inR n f) (a b : Nat) (ha : a < n) (hb : b < n) (hab : a ≠ b) (fa : rd f (a : Int) = b) (fb : rd f (b : Int) = a) (d : Nat) (hd : d < n) (hda : d ≠ a) (hdb : d ≠ b) : Ev (fun k => edel.f k a b t f (rd t (d : Int))) (skp t a b (rd t (d : Int))) := by
  have htl := ht.1
  have hfl := hf.1
  exact skp_run (fun k x => edel.l0 a b t f k x) t n ht a b (fun x h1 h2 => by
      refine Ev.s ?_
      simp only [edel.l0, h1, h2, if_false]
      exact Ev.const rfl) (fun x c r hr => by
      refine Ev.s ?_
      rcases c with c | c
      · subst c
        simp only [edel.l0, if_true, show (0 : Int) ≤ (a : Int) by omega, show (a : Int) < (t.length : Int) by omega]
        exact hr
      · subst c
        simp only [edel.l0, if_true, show ¬ (b : Int) = (a : Int) by omega, if_false, show (0 : Int) ≤ (b : Int) by omega, show (b : Int) < (t.length : Int) by omega]
        exact hr) (rd t (d : Int)) (skp_out t n ht hti a b d ha hb hd hab hda hdb).1
theorem namesDel (t f lt lf : List Int) (n : Nat) (hn : n ≤ 12) (a b ca cb : Nat) (r : List Int × List Int) (h : Ev (fun k => leftDel.l1 ca cb lt lf k a b (nmT a b n) (t.length : Int) 0 t f [] []) r) : ∀ (d i : Nat), n - i = d → i ≤ n → Ev (fun k => leftDel.l0 ca cb lt lf k a b (mixL (nmT a b n) (List.replicate n 0) n i) (nmA a b i) n i t f) r
  | 0, i, hd, hi => by
    have : i = n := by omega
    subst this
    rw [mixL_all _ _ _ (nmT_len a b i)]
    refine Ev.s ?_
    simp only [leftDel.l0, show ¬ (i : Int) < (i : Int) by omega, if_false]
    exact h
  | d + 1, i, hd, hi => by
    have ih := namesDel t f lt lf n hn a b ca cb r h d (i + 1) (by omega) (by omega)
    have hl := mixL_len (nmT a b n) (List.replicate n 0) n i
    have hs := mixL_set (nmT a b n) (List.replicate n 0) n i (by omega)
    rw [nmT_rd a b n i (by omega)] at hs
    have hle := nmA_le a b i
    refine Ev.s ?_
    simp only [leftDel.l0, hl, show (i : Int) < (n : Int) by omega, show (0 : Int) ≤ (i : Int) by omega, if_true, Option.bind_some, Int.toNat_natCast, hs, w64n (show i < 4611686018427387904 by omega)]
    simp only [nmA] at ih
    by_cases c1 : i = a
    · rw [if_pos (.inl c1), Nat.add_zero] at ih
      simp only [if_pos (show (i : Int) = (a : Int) by omega)]
      exact ih
    · simp only [if_neg (show ¬ (i : Int) = (a : Int) by omega)]
      by_cases c2 : i = b
      · rw [if_pos (.inr c2), Nat.add_zero] at ih
        simp only [if_pos (show (i : Int) = (b : Int) by omega)]
        exact ih
      · rw [if_neg (fun z => z.elim c1 c2)] at ih
        simp only [if_neg (show ¬ (i : Int) = (b : Int) by omega), w64n (show nmA a b i < 4611686018427387904 by omega)]
        exact ih
theorem leftDel_run (t f : List Int) (n : Nat) (hn : n ≤ 12) (ht : inR n t) (hti : injR n t) (hf : inR n f) (a b : Nat) (ha : a < n) (hb : b < n) (hab : a ≠ b) (fa : rd f (a : Int) = b) (fb : rd f (b : Int) = a) : ∀ (d i : Nat), n - i = d → i ≤ n → Ev (fun k => leftDel.l1 a b t f k a b (nmT a b n) n i t f (lvL a b (fun d => (nmA a b (skp t a b (rd t (d : Int))).toNat : Int)) i) (lvL a b (fun d => (nmA a b (rd f (d : Int)).toNat : Int)) i)) (outT t a b n, outF f a b n)
  | 0, i, hd, hi => by
    have : i = n := by omega
    subst this
    refine Ev.s ?_
    simp only [leftDel.l1, show ¬ (i : Int) < (i : Int) by omega, if_false]
    exact Ev.const rfl
  | d + 1, i, hd, hi => by
    have ih := leftDel_run t f n hn ht hti hf a b ha hb hab fa fb d (i + 1) (by omega) (by omega)
    have hle := nmA_le a b i
    have l1 := lvL_len a b (fun d => (nmA a b (skp t a b (rd t (d : Int))).toNat : Int)) i
    have l2 := lvL_len a b (fun d => (nmA a b (rd f (d : Int)).toNat : Int)) i
    have htl := ht.1
    have hfl := hf.1
    refine Ev.s ?_
    simp only [leftDel.l1, show (i : Int) < (n : Int) by omega, show (0 : Int) ≤ (i : Int) by omega, if_true, w64n (show i < 4611686018427387904 by omega)]
    simp only [lvL] at ih
    by_cases c1 : i = a
    · rw [if_pos (.inl c1), if_pos (.inl c1)] at ih
      simp only [if_pos (show (i : Int) = (a : Int) by omega)]
      exact ih
    · simp only [if_neg (show ¬ (i : Int) = (a : Int) by omega)]
      by_cases c2 : i = b
      · rw [if_pos (.inr c2), if_pos (.inr c2)] at ih
        simp only [if_pos (show (i : Int) = (b : Int) by omega)]
        exact ih
      · rw [if_neg (fun z => z.elim c1 c2), if_neg (fun z => z.elim c1 c2)] at ih
        simp only [if_neg (show ¬ (i : Int) = (b : Int) by omega), show (i : Int) < (t.length : Int) by omega, if_true]
        refine Ev.bind (onDel_ev t f n ht hti hf a b ha hb hab fa fb i (by omega) c1 c2) ?_
        have r1 := (skp_out t n ht hti a b i ha hb (by omega) hab c1 c2).2
        have r2 := hf.2 i (by omega)
        have e1 := nmT_rd a b n (skp t a b (rd t (i : Int))).toNat (by omega)
        have e2 := nmT_rd a b n (rd f (i : Int)).toNat (by omega)
        rw [show (((skp t a b (rd t (i : Int))).toNat : Nat) : Int) = skp t a b (rd t (i : Int)) by omega] at e1
        rw [show (((rd f (i : Int)).toNat : Nat) : Int) = rd f (i : Int) by omega] at e2
        simp only [r1.1, r1.2, r2.1, r2.2, nmT_len, show (i : Int) < (f.length : Int) by omega, if_true, e1, e2, show (lvL a b (fun d => (nmA a b (skp t a b (rd t (d : Int))).toNat : Int)) i).length < 17592186044416 by omega, show (lvL a b (fun d => (nmA a b (rd f (d : Int)).toNat : Int)) i).length < 17592186044416 by omega]
        exact ih
theorem leftDel_ev (t f : List Int) (n : Nat) (hn : n ≤ 12) (ht : inR n t) (hti : injR n t) (hf : inR n f) (a b : Nat) (ha : a < n) (hb : b < n) (hab : a ≠ b) (fa : rd f (a : Int) = b) (fb : rd f (b : Int) = a) : Ev (fun k => leftDel.f k t f a b a b t f) (outT t a b n, outF f a b n) := by
  have htl := ht.1
  have h1 := leftDel_run t f n hn ht hti hf a b ha hb hab fa fb n 0 (by omega) (by omega)
  have h0 := namesDel t f t f n hn a b a b _ (by rw [htl]; exact h1) n 0 (by omega) (by omega)
  rw [mixL_zero _ _ _ (by simp)] at h0
  unfold leftDel.f
  simp only [htl, show (0 : Int) ≤ (n : Int) by omega, Int.toNat_natCast, show n ≤ 35184372088832 by omega, if_true, Option.bind_some, List.length_replicate]
  exact h0
theorem delI_told (t f : List Int) (hm : isMap t f) (e : Nat) (he : e < (edL f t.length).length) : ∃ a b : Nat, a < t.length ∧ b < t.length ∧ a ≠ b ∧ rd (edL f t.length) (e : Int) = a ∧ rd f a = b ∧ rd f b = a ∧ (∀ d : Nat, d < t.length → (rd (geL f t.length t.length) (d : Int) = e ↔ d = a ∨ d = b)) ∧
    Ev (fun k => impl_EdgeDelete.j0 k e false t f) (outT t a b t.length, outF f a b t.length, true) := by
  obtain ⟨hn, h1, ht, hti, hf, hfl, _, _⟩ := ribOk_of t f [] hm (fun i hi => by simp at hi) (by simp)
  have hlen := hf.1
  obtain ⟨a, b, ha, hb, hab, e1, e2, e3, e4⟩ := edge_at f t.length hf hfl e he
  refine ⟨a, b, ha, hb, hab, e1, e2, e3, e4, ?_⟩
  refine Ev.s ?_
  simp only [impl_EdgeDelete.j0, Bool.false_eq_true, if_false]
  refine Ev.bind (implEdges_ev t.length (by omega) t f hf) ?_
  simp only [show (0 : Int) ≤ (e : Int) by omega, show (e : Int) < ((edL f t.length).length : Int) by omega, e1, show (0 : Int) ≤ (a : Int) by omega, show (a : Int) < (f.length : Int) by omega, e2, if_true]
  exact Ev.bind (leftDel_ev t f t.length hn ht hti hf a b ha hb hab e2 e3) (Ev.const rfl)
end Go.Proofs.Ytjgknblneokhlaa.PK

set_option linter.unusedVariables false
set_option linter.unusedSimpArgs false
namespace Go.Proofs.Ytjgknblneokhlaa.Pure
open Go.RowKit Go.Proofs.Ytjgknblneokhlaa.PK Go.Proofs.YtjgknblneokhlaaW.PrintWords Go.Proofs.YtjgknblneokhlaaW.PrintLast Go.Proofs.YtjgknblneokhlaaW.PrintMore
theorem edge_ev (t f : List Int) (hm : isMap t f) (E : Nat) (hE : E < (edL f t.length).length) (h2 : t.length ≠ 2) : ∃ a b P : Nat, EdgeAt f t.length E a b ∧ Cl t.length (Go.Proofs.Ytjgknblneokhlaa.PK.Reach [t, flC f t.length (restL [(E : Int)] (edL f t.length).length)] t.length) P ∧ (P = 1 ∨ P = 2) ∧
    (Go.Proofs.Ytjgknblneokhlaa.PK.Reach [t] t.length a b → Ev (fun k => impl_EdgeKind.f k t f E) 2) ∧ (¬ Go.Proofs.Ytjgknblneokhlaa.PK.Reach [t] t.length a b → Ev (fun k => impl_EdgeKind.f k t f E) ((P : Int) - 1)) ∧
    (¬ Go.Proofs.Ytjgknblneokhlaa.PK.Reach [t] t.length a b → Ev (fun k => impl_EdgeContract.f k t f E) (outT (swp t a b t.length) a b t.length, outF f a b t.length, true)) ∧
    (¬ Go.Proofs.Ytjgknblneokhlaa.PK.Reach [t] t.length a b → P = 1 → Ev (fun k => impl_EdgeDelete.f k t f E) (outT t a b t.length, outF f a b t.length, true)) := by
  have H := mapOk_of t f hm
  have hfl : f.length = t.length := H.2.2.2.2.1.1
  obtain ⟨a, b, y1, y2, y3, y4, y5, y6, y7, q⟩ := conI_told t f hm E hE
  obtain ⟨a', b', z1, z2, z3, z4, z5, z6, z7, q'⟩ := delI_told t f hm E hE
  have ea : a' = a := by omega
  subst ea
  have eb : b' = b := by omega
  subst eb
  have hab : EdgeAt f t.length E a' b' := ⟨y1, y2, y3, y4, y5, y6, y7⟩
  obtain ⟨P, hP, p12, k1, k2⟩ := kindI_ev t f hm E a' b' hE hab
  refine ⟨a', b', P, hab, hP, p12, k1, k2, fun hr => ?_, fun hr hp => ?_⟩
  · unfold impl_EdgeContract.f
    refine Ev.bind (k2 hr) ?_
    simp only [show ¬ (P : Int) - 1 = -1 by omega, show ¬ (P : Int) - 1 = 2 by omega, if_false]
    rw [show (((f.length : Int) == 2)) = false from beq_eq_false_iff_ne.2 (by omega)]
    exact q
  · unfold impl_EdgeDelete.f
    refine Ev.bind (k2 hr) ?_
    simp only [show ¬ (P : Int) - 1 = -1 by omega, show ¬ (P : Int) - 1 = 1 by omega, if_false]
    rw [show (((f.length : Int) == 2)) = false from beq_eq_false_iff_ne.2 (by omega)]
    exact q'
theorem FnValue : laws_FnValue.Pure := by
  intro l m hl _ hb _ _ _
  refine Ev.rounds (r := true) ?_
  unfold laws_FnValue.f
  by_cases c0 : (l.length : Int) > 1048576
  · simp only [c0, if_true]
    refine Ev.s ?_
    simp only [laws_FnValue.j0, if_true]
    exact Ev.const rfl
  simp only [c0, if_false]
  by_cases c1 : (m.length : Int) > 1048576
  · rw [decide_eq_true c1]
    refine Ev.s ?_
    simp only [laws_FnValue.j0, if_true]
    exact Ev.const rfl
  rw [decide_eq_false c1]
  refine Ev.s ?_
  simp only [laws_FnValue.j0, Bool.false_eq_true, if_false]
  obtain ⟨t, f, X, Y, Z, dr, d2, d3⟩ := drawVal_ev l hb
  obtain ⟨r, r1, r2⟩ := ribbonValue_both t f X Y Z (by omega) (by omega)
  refine Ev.bind dr ?_
  refine Ev.bind r2 ?_
  refine Ev.bind r1 ?_
  simp only [if_true]
  refine Ev.s ?_
  by_cases hr : r < 0
  · simp only [laws_FnValue.j1, decide_eq_true hr, if_true, beq_self_eq_true]
    exact Ev.const rfl
  rcases valI_or t f X Y Z d2 d3 with h | ⟨hm, x0, x3, y0, y3, z0, z3⟩
  · exact absurd (Ev.uniq r2 h) (by omega)
  have er := Ev.uniq r2 (valI_ev t f hm X Y Z x0 x3 y0 y3 z0 z3)
  have H := mapOk_of t f hm
  obtain ⟨hn, h1, ht', hti, hf', hfl, hcon⟩ := id H
  have hh := edL_half f t.length hf' hfl
  obtain ⟨F, w1, w2⟩ := mapCounts_ev t f hm (by omega) (by omega)
  simp only [laws_FnValue.j1, decide_eq_false hr, Bool.false_eq_true, if_false]
  refine Ev.bind w2 ?_
  have l3 : (threeN (cyS t t.length t.length).2.length (edL f t.length).length F).length = 3 := rfl
  have q1 : rd (threeN (cyS t t.length t.length).2.length (edL f t.length).length F) 1 = ((edL f t.length).length : Int) := rfl
  simp only [l3, q1, show (1 : Int) < ((3 : Nat) : Int) by decide, if_true]
  have hE0 : ¬ ((edL f t.length).length : Int) = 0 := by omega
  simp only [hE0, if_false]
  have hmod : ((m.length : Int) % ((edL f t.length).length : Int)) = ((m.length % (edL f t.length).length : Nat) : Int) := by omega
  rw [hmod]
  have hElt : m.length % (edL f t.length).length < (edL f t.length).length := Nat.mod_lt _ (by omega)
  generalize m.length % (edL f t.length).length = E at hElt ⊢
  have rp : decide (r ≥ 0) = true := decide_eq_true (by omega)
  by_cases hE1 : ((edL f t.length).length : Int) = 1
  · -- one edge alone
    obtain ⟨k, k1, k2⟩ : ∃ k : Int, Ev (fun j => impl_EdgeKind.f j t f E) k ∧ True := by
      obtain ⟨k, _, k2, _⟩ := edgeKind_more t f (by omega) (by omega) E
      exact ⟨k, k2, trivial⟩
    refine Ev.bind k1 ?_
    simp only [hE1, if_true]
    refine Ev.s ?_
    simp only [laws_FnValue.j2, if_true, rp]
    exact Ev.const rfl
  have h2 : t.length ≠ 2 := by omega
  obtain ⟨a, b, P, hab, hP, p12, k1, k2, kc, kd⟩ := edge_ev t f hm E hElt h2
  by_cases hk : Go.Proofs.Ytjgknblneokhlaa.PK.Reach [t] t.length a b
  · refine Ev.bind (k1 hk) ?_
    simp only [hE1, if_false, show ((2 : Int) == 2) = true from rfl]
    refine Ev.s ?_
    simp only [laws_FnValue.j2, if_true, rp]
    exact Ev.const rfl
  refine Ev.bind (k2 hk) ?_
  simp only [hE1, if_false]
  rw [show (((P : Int) - 1 == 2)) = false from beq_eq_false_iff_ne.2 (by omega)]
  refine Ev.s ?_
  simp only [laws_FnValue.j2, Bool.false_eq_true, if_false]
  refine Ev.bind (kc hk) ?_
  obtain ⟨N1, N2, M⟩ := con_map t f t.length H E a b hElt hab h2 hk
  have hmC := isMap_of M
  have lC : (outT (swp t a b t.length) a b t.length).length = t.length - 2 := M.2.2.1.1
  have vC := valI_ev _ _ hmC X Y Z x0 x3 y0 y3 z0 z3
  rw [lC] at vC
  obtain ⟨sC0, sC1⟩ := valS_small _ _ _ M X Y Z x0 x3 y0 y3 z0 z3
  rcases p12 with hp | hp
  · -- no bridge
    subst hp
    simp only [show ¬ ((1 : Nat) : Int) - 1 = 1 by omega, if_false]
    refine Ev.bind (kd hk rfl) ?_
    simp only [if_true]
    obtain ⟨N3, D⟩ := del_map t f t.length H E a b hElt hab h2 (.inr hP)
    have hmD := isMap_of D
    have lD : (outT t a b t.length).length = t.length - 2 := D.2.2.1.1
    have vD := valI_ev _ _ hmD X Y Z x0 x3 y0 y3 z0 z3
    rw [lD] at vD
    obtain ⟨sD0, sD1⟩ := valS_small _ _ _ D X Y Z x0 x3 y0 y3 z0 z3
    have vc := val_cut t f t.length H E a b hElt hab hk N3 N1 N2 X Y Z
    refine Ev.bind vD ?_
    refine Ev.bind vC ?_
    rw [w64 (by omega) (by omega), ← vc, ← er, beq_self_eq_true]
    exact Ev.const rfl
  · subst hp
    simp only [show ((2 : Nat) : Int) - 1 = 1 by omega, if_true]
    have far : ¬ Go.Proofs.Ytjgknblneokhlaa.PK.Reach [t, flC f t.length (restL [(E : Int)] (edL f t.length).length)] t.length a b := by
      intro h
      have hrd := rest_rd t f t.length H E a b hElt hab
      obtain ⟨ha, hb', hne, e1, e2, e3, e4⟩ := id hab
      have all : ∀ x y, x < t.length → y < t.length → Go.Proofs.Ytjgknblneokhlaa.PK.Reach [t, flC f t.length (restL [(E : Int)] (edL f t.length).length)] t.length x y := by
        intro x y hx hy S hS
        refine hcon x y hx hy S ?_
        have hSt : ∀ k, k < t.length → (S k ↔ S (rd t (k : Int)).toNat) := hS t (by simp)
        have hSF : ∀ k, k < t.length → (S k ↔ S (rd (flC f t.length (restL [(E : Int)] (edL f t.length).length)) (k : Int)).toNat) := hS _ (by simp)
        have ab : S a ↔ S b := h S hS
        intro q hq k hkn
        rcases List.mem_cons.1 hq with rfl | hq
        · exact hSt k hkn
        · rw [List.mem_singleton.1 hq]
          by_cases za : k = a
          · rw [za, e2, Int.toNat_natCast]; exact ab
          · by_cases zb : k = b
            · rw [zb, e3, Int.toNat_natCast]; exact ab.symm
            · have := hSF k hkn
              rwa [hrd k hkn, if_neg (by intro z; rcases z with z | z; exact za z; exact zb z)] at this
      have one : Cl t.length (Go.Proofs.Ytjgknblneokhlaa.PK.Reach [t, flC f t.length (restL [(E : Int)] (edL f t.length).length)] t.length) 1 := by
        refine ⟨[0], by simp, fun x => ?_, rfl⟩
        rw [List.mem_singleton]
        constructor
        · rintro rfl
          exact ⟨h1, fun i hi => by omega⟩
        · rintro ⟨hx, hl⟩
          by_cases z : x = 0
          · exact z
          · exact absurd (all 0 x h1 hx) (hl 0 (by omega))
      have := hP.uniq one
      omega
    have vb := val_bridge t f t.length H E a b hElt hab hk far N1 N2 X Y Z
    refine Ev.bind vC ?_
    have wX : wrap64 (X + 1) = X + 1 := w64 (by omega) (by omega)
    have b1 : valS (outT (swp t a b t.length) a b t.length) (outF f a b t.length) (t.length - 2) X Y Z * (X + 1) ≤ (64 * 387420489) * 4 := Int.mul_le_mul sC1 (by omega) (by omega) (by decide)
    have b0 : 0 ≤ valS (outT (swp t a b t.length) a b t.length) (outF f a b t.length) (t.length - 2) X Y Z * (X + 1) := Int.mul_nonneg sC0 (by omega)
    rw [wX, w64 (by omega) (by omega), Int.mul_comm, ← vb, ← er, beq_self_eq_true]
    exact Ev.const rfl
end Go.Proofs.Ytjgknblneokhlaa.Pure

namespace Go.Proofs.Ytjgknblneokhlaa.fnValue
open Go.ChangeShapes Go.WideShapes Go.ChangeAt Go.RowKit
open Go.ChangeMaps (open_string shut_string)
set_option linter.unusedVariables false
theorem own : ownKnob Try.prog.godebug = none := by kernel_rfl
theorem laidOut : laidOutB Try.prog = true := by kernel_rfl
def IsRow (k : IntKind) (w : World) (a : Option Addr) (len cap : Nat) (zs : List Int) : Prop :=
 (a = none ∧ len = 0 ∧ cap = 0 ∧ zs = []) ∨
 ∃ x, a = some x ∧ len ≤ cap ∧ cap ≤ maxLen ∧ zs.length = cap ∧ (∀ i, i < zs.length → w.cell? (x.add i) = some (.int k (zs.getD i 0))) ∧ ∀ n ∈ zs, (Lit.int k n).wf = true
set_option maxRecDepth 100000 in
theorem lifted (os : Os) (started : os.Started) (H : Type) (enc : TypeId × Value → H) :
  ReturnsInHanded {} Try.checked os 12 .any (Rows.fnValueSpec.pre6 enc Try.prog Try.f12 Rows.fnValueRow.domain false) (Rows.fnValueSpec.post enc Try.prog Try.f12 false true false false) := by
 refine returnsInHanded_of_change_sized (C := Try.checked) own started (by kernel_rfl) Try.func12
  (ChangeSpec.witness6 (enc := enc) (C := Try.checked) false ⟨#[], #[.slice none 0 0, .slice none 0 0], []⟩ 8 (by kernel_rfl) (by kernel_rfl) (by kernel_rfl) (by kernel_rfl)) ?_
 intro W base args ds gs before hval0 hW hcnd hsz0 _
 have hsz : (DataW.weightsEach Try.prog (Try.f12.params.toList ++ Rows.fnValueSpec.plain.varTypes Try.prog) (ds ++ gs)).all (· ≤ reachBytes) = true := hsz0
 have hval : ∀ (j : Nat) t v, Try.f12.params[j]? = some t → args[j]? = some v → Value.okWide Try.prog W .any base t v := hval0
 have hW' := hW
 obtain ⟨p, q, hA0, hV, rfl, hfz, hnd⟩ := hW
 have hA : DataW.TrodAll enc Try.prog W 0 (fun _ => true) true Try.f12.params.toList args.toList ds p := hA0
 rw [Try.params12] at hA hval hsz
 obtain ⟨v0, vs0, d0, ds0, p0, q0, hargs, rfl, rfl, h0, r0⟩ := trodAll_cons hA
 obtain ⟨v1, vs1, d1, ds1, p1, q1, rfl, rfl, rfl, h1, r1⟩ := trodAll_cons r0
 obtain ⟨rfl, rfl, rfl⟩ := trodAll_nil r1
 obtain rfl : args = #[v0, v1] := by cases args; simp_all
 obtain ⟨rfl, rfl⟩ := trodVars_none hV
 obtain ⟨a0, len0, cap0, rfl⟩ := okWide_slice Try.underlying22 (hval 0 22 v0 rfl rfl)
 have k0 := h0
 have lt0 : ∀ x ∈ p0, x.block < W.heap.size := by obtain ⟨m, hm⟩ := k0; exact DataW.trod_lt m _ _ _ hm
 obtain ⟨z0, w0⟩ : ∃ zs, IsRow .u8 W a0 len0 cap0 zs := by
  obtain ⟨fuel, hf⟩ := h0
  rcases open_ints Try.underlying22 Try.underlying5 (by kernel_rfl) hf with ⟨hcs, _⟩ | ⟨x, l, c, zs, hcs, _, hl, hm, hz, _, hcell, hwz⟩
  ·
   simp [Value.cells] at hcs
   obtain ⟨rfl, rfl, rfl⟩ := hcs
   exact ⟨[], .inl ⟨rfl, rfl, rfl, rfl⟩⟩
  ·
   simp [Value.cells] at hcs
   obtain ⟨rfl, rfl, rfl⟩ := hcs
   exact ⟨zs, .inr ⟨_, rfl, hl, hm, by simpa using hz, hcell, hwz⟩⟩
 have y0 : len0 * 1 ≤ 140737488351232 := Go.Proofs.YtjgknblneokhlaaW.PrintWords.sized_ints hsz (j := 0) (t := 22) rfl rfl Try.underlying22 Try.underlying5 (by kernel_rfl) (by kernel_rfl) h0
 obtain ⟨a1, len1, cap1, rfl⟩ := okWide_slice Try.underlying22 (hval 1 22 v1 rfl rfl)
 have k1 := h1
 have lt1 : ∀ x ∈ p1, x.block < W.heap.size := by obtain ⟨m, hm⟩ := k1; exact DataW.trod_lt m _ _ _ hm
 obtain ⟨z1, w1⟩ : ∃ zs, IsRow .u8 W a1 len1 cap1 zs := by
  obtain ⟨fuel, hf⟩ := h1
  rcases open_ints Try.underlying22 Try.underlying5 (by kernel_rfl) hf with ⟨hcs, _⟩ | ⟨x, l, c, zs, hcs, _, hl, hm, hz, _, hcell, hwz⟩
  ·
   simp [Value.cells] at hcs
   obtain ⟨rfl, rfl, rfl⟩ := hcs
   exact ⟨[], .inl ⟨rfl, rfl, rfl, rfl⟩⟩
  ·
   simp [Value.cells] at hcs
   obtain ⟨rfl, rfl, rfl⟩ := hcs
   exact ⟨zs, .inr ⟨_, rfl, hl, hm, by simpa using hz, hcell, hwz⟩⟩
 have y1 : len1 * 1 ≤ 140737488351232 := Go.Proofs.YtjgknblneokhlaaW.PrintWords.sized_ints hsz (j := 1) (t := 22) rfl rfl Try.underlying22 Try.underlying5 (by kernel_rfl) (by kernel_rfl) h1
 clear hA0 hval0 hsz0 hsz
 refine (PK.laws_FnValue.walk Pure.FnValue a0 len0 cap0 z0 a1 len1 cap1 z1 W w0 y0 w1 y1).mono fun e W' ⟨he, bel⟩ => ?_
 subst he
 exact ⟨_, rfl, _, _, _, [], _, [], hW', trodAll_mk1 (shut_bool Try.underlying4 _), (trodAll_cons_mk (Below.trod laidOut (by kernel_rfl) (of_decide_eq_true (by kernel_rfl)) k0 bel lt0) (trodAll_cons_mk (Below.trod laidOut (by kernel_rfl) (of_decide_eq_true (by kernel_rfl)) k1 bel lt1) trodAll_mk0)), rfl, bel.frame _, fun h => by cases h⟩
theorem over : Rows.fnValueRow.holds Try.pinned (OpenSpec.ofChange Rows.fnValueSpec) :=
 OpenClaim.holds_of_wide 12 Try.f12 rfl rfl rfl rfl rfl rfl rfl ⟨rfl, rfl, rfl, rfl, rfl⟩ rfl rfl rfl rfl rfl (by kernel_rfl) Try.func12 (by kernel_rfl)
  (of_decide_eq_true (by kernel_rfl)) (by unfold Func.isWrapper; first | (rw [if_pos (by decide +kernel)]; kernel_rfl) | (rw [if_neg (by decide +kernel)]; exact ⟨rfl, rfl⟩))
  (fun os started H enc _ => lifted os started H enc)
theorem proved : Rows.FnValueSaid := over
#print axioms proved
end Go.Proofs.Ytjgknblneokhlaa.fnValue
namespace Go.Proofs.Ytjgknblneokhlaa
theorem fnValue_holds : Rows.FnValueSaid := fnValue.proved
end Go.Proofs.Ytjgknblneokhlaa
