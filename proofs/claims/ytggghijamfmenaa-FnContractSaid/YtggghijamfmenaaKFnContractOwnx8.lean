/- For every code: of the map and the edge that the statement draws, EdgeContract of the program answers what the reference answers; one vertex and one edge go, the faces and the genus stay; and where the dual's edge can be deleted, the rest is the dual of what is left. There are no conditions. -/
import Derived.Test.YtggghijamfmenaaKFnContractOwnx7
set_option linter.unusedVariables false
set_option linter.unusedSimpArgs false
namespace Go.Proofs.Ytggghijamfmenaa.PC
open Go.RowKit Go.Proofs.YtggghijamfmenaaW.PrintWords Go.Proofs.YtggghijamfmenaaW.PrintLast Go.Proofs.YtggghijamfmenaaW.PrintMore
def swp (t : List Int) (a b n : Nat) : List Int := (List.range n).map fun (d : Nat) => if d = a then rd t (b : Int) else if d = b then rd t (a : Int) else rd t (d : Int)
theorem swp_rd (t : List Int) (a b n d : Nat) (h : d < n) : rd (swp t a b n) (d : Int) = if d = a then rd t (b : Int) else if d = b then rd t (a : Int) else rd t (d : Int) := rd_rangeL _ n d h
theorem swp_a (t : List Int) (a b n : Nat) (h : a < n) : rd (swp t a b n) (a : Int) = rd t (b : Int) := by rw [swp_rd t a b n a h, if_pos rfl]
theorem swp_b (t : List Int) (a b n : Nat) (h : b < n) (hab : a ≠ b) : rd (swp t a b n) (b : Int) = rd t (a : Int) := by rw [swp_rd t a b n b h, if_neg (fun z => hab z.symm), if_pos rfl]
theorem swp_kept (t : List Int) (a b n d : Nat) (h : d < n) (k : kept a b d) : rd (swp t a b n) (d : Int) = rd t (d : Int) := by rw [swp_rd t a b n d h, if_neg k.1, if_neg k.2]
theorem swp_inR (t : List Int) (n a b : Nat) (ht : inR n t) (ha : a < n) (hb : b < n) : inR n (swp t a b n) := ⟨by simp [swp], fun i hi => by
  rw [swp_rd t a b n i hi]
  have h1 := ht.2 a ha
  have h2 := ht.2 b hb
  have h3 := ht.2 i hi
  split
  · exact h2
  · split
    · exact h1
    · exact h3⟩
theorem swp_exch (t : List Int) (n a b : Nat) (ha : a < n) (hb : b < n) (hab : a ≠ b) : Exch n t (swp t a b n) a b :=
  ⟨ha, hb, hab, swp_a t a b n ha, swp_b t a b n hb hab, fun x hx h1 h2 => swp_kept t a b n x hx ⟨h1, h2⟩⟩
theorem swp_inj (t : List Int) (n a b : Nat) (hti : injR n t) (ha : a < n) (hb : b < n) (hab : a ≠ b) : injR n (swp t a b n) := fun i j hi hj e => by
  rw [swp_rd t a b n i hi, swp_rd t a b n j hj] at e
  by_cases i1 : i = a
  · rw [if_pos i1] at e
    by_cases j1 : j = a
    · omega
    · rw [if_neg j1] at e
      by_cases j2 : j = b
      · rw [if_pos j2] at e
        exact absurd (hti b a hb ha e).symm hab
      · rw [if_neg j2] at e
        exact absurd (hti b j hb hj e).symm j2
  · rw [if_neg i1] at e
    by_cases i2 : i = b
    · rw [if_pos i2] at e
      by_cases j1 : j = a
      · rw [if_pos j1] at e
        exact absurd (hti a b ha hb e) hab
      · rw [if_neg j1] at e
        by_cases j2 : j = b
        · omega
        · rw [if_neg j2] at e
          exact absurd (hti a j ha hj e).symm j1
    · rw [if_neg i2] at e
      by_cases j1 : j = a
      · rw [if_pos j1] at e
        exact absurd (hti i b hi hb e) i2
      · rw [if_neg j1] at e
        by_cases j2 : j = b
        · rw [if_pos j2] at e
          exact absurd (hti i a hi ha e) i1
        · rw [if_neg j2] at e
          exact hti i j hi hj e
theorem edge_kept (f : List Int) (n a b : Nat) (hf : inR n f) (hfl : ∀ i : Nat, i < n → flipAt f i) (fa : rd f (a : Int) = b) (fb : rd f (b : Int) = a) (d : Nat) (hd : d < n) (k : kept a b d) : kept a b (rd f (d : Int)).toNat := by
  have h1 := hf.2 d hd
  have h2 := (hfl d hd).2
  constructor
  · intro z
    have : rd f (d : Int) = a := by omega
    rw [this, fa] at h2
    exact k.2 (by omega)
  · intro z
    have : rd f (d : Int) = b := by omega
    rw [this, fb] at h2
    exact k.1 (by omega)
theorem skp_congr (p p' : List Int) (a b : Nat) (x : Int) (h1 : rd p (a : Int) = rd p' (a : Int)) (h2 : rd p (b : Int) = rd p' (b : Int)) : skp p a b x = skp p' a b x := by
  unfold skp
  by_cases c : x = a ∨ x = b
  · rw [if_pos c, if_pos c]
    have e : rd p x = rd p' x := by rcases c with c | c <;> rw [c] <;> assumption
    rw [e]
    by_cases c2 : rd p' x = a ∨ rd p' x = b
    · rw [if_pos c2, if_pos c2]
      rcases c2 with c2 | c2 <;> rw [c2] <;> assumption
    · rw [if_neg c2, if_neg c2]
  · rw [if_neg c, if_neg c]
theorem outF_ok (f : List Int) (n a b : Nat) (hf : inR n f) (hfl : ∀ i : Nat, i < n → flipAt f i) (ha : a < n) (hb : b < n) (hab : a ≠ b) (fa : rd f (a : Int) = b) (fb : rd f (b : Int) = a) :
    TellsQ a b n (fun d => (rd f (d : Int)).toNat) (outF f a b n) ∧ inR (n - 2) (outF f a b n) ∧ ∀ i : Nat, i < n - 2 → flipAt (outF f a b n) i := by
  have ht := nm_total a b n ha hb hab
  have hk := edge_kept f n a b hf hfl fa fb
  have hT := outF_tells f n hf a b ha hb hab hk
  refine ⟨hT, hT.inR ha hb hab, fun i hi => ?_⟩
  obtain ⟨d, d1, d2, rfl⟩ := nm_surj a b n i (by omega)
  obtain ⟨q1, q2, q3⟩ := hT.2 d d1 d2
  have q1 : (rd f (d : Int)).toNat < n := q1
  have q3 : rd (outF f a b n) (nmA a b d : Int) = (nmA a b (rd f (d : Int)).toNat : Int) := q3
  have fr := hf.2 d d1
  obtain ⟨f1, f2⟩ := hfl d d1
  obtain ⟨r1, r2, r3⟩ := hT.2 _ q1 q2
  have r3 : rd (outF f a b n) (nmA a b (rd f (d : Int)).toNat : Int) = (nmA a b (rd f (((rd f (d : Int)).toNat : Nat) : Int)).toNat : Int) := r3
  rw [show (((rd f (d : Int)).toNat : Nat) : Int) = rd f (d : Int) by omega, f2, Int.toNat_natCast] at r3
  refine ⟨fun z => ?_, ?_⟩
  · rw [q3] at z
    have z' : nmA a b (rd f (d : Int)).toNat = nmA a b d := by omega
    have : (rd f (d : Int)).toNat = d := nm_inj a b _ _ q2 d2 z'
    omega
  · rw [q3, r3]
theorem cut_map (p f : List Int) (n : Nat) (hn : n ≤ 12) (hp : inR n p) (hi : injR n p) (hf : inR n f) (hfl : ∀ i : Nat, i < n → flipAt f i) (a b : Nat) (ha : a < n) (hb : b < n) (hab : a ≠ b) (fa : rd f (a : Int) = b) (fb : rd f (b : Int) = a) (hN : NoA p a b) (h3 : 3 ≤ n)
    (F : List Int) (hF : inR n F) (hFk : ∀ d : Nat, d < n → kept a b d → rd F (d : Int) = rd f (d : Int)) (hFa : ∀ x : Nat, x < n → ¬ kept a b x → ¬ kept a b (rd F (x : Int)).toNat ∧ Reach [p] n x (rd F (x : Int)).toNat) (hcon : ∀ x y : Nat, x < n → y < n → Reach [p, F] n x y) :
    MapOk (outT p a b n) (outF f a b n) (n - 2) := by
  have ht := nm_total a b n ha hb hab
  obtain ⟨o1, o2, o3⟩ := outF_ok f n a b hf hfl ha hb hab fa fb
  have hT := outT_tells p n hp hi a b ha hb hab
  have oF : TellsQ a b n (fun d => (rd F (d : Int)).toNat) (outF f a b n) := ⟨o1.1, fun d hd kd => by
    have := o1.2 d hd kd
    show (rd F (d : Int)).toNat < n ∧ kept a b (rd F (d : Int)).toNat ∧ rd (outF f a b n) (nmA a b d : Int) = (nmA a b (rd F (d : Int)).toNat : Int)
    rw [hFk d hd kd]
    exact this⟩
  refine ⟨by omega, by omega, hT.inR ha hb hab, hT.injR ha hb hab (fun d e hd he kd ke z => ?_), o2, o3, fun i j hi' hj' => ?_⟩
  · have s1 := (skp_out p n hp hi a b d ha hb hd hab kd.1 kd.2).2
    have s2 := (skp_out p n hp hi a b e ha hb he hab ke.1 ke.2).2
    exact skp_inj p n hp hi a b ha hb d e hd he kd ke (by have z : (skp p a b (rd p (d : Int))).toNat = (skp p a b (rd p (e : Int))).toNat := z; omega)
  · obtain ⟨x, x1, x2, rfl⟩ := nm_surj a b n i (by omega)
    obtain ⟨y, y1, y2, rfl⟩ := nm_surj a b n j (by omega)
    exact (reach_skip p F _ _ n hp a b ha hb hab hN hT hF oF hFa x y x1 y1 x2 y2).2 (hcon x y x1 y1)
theorem two_only (t f : List Int) (n : Nat) (H : MapOk t f n) (a b : Nat) (ha : a < n) (hb : b < n) (hab : a ≠ b) (fa : rd f (a : Int) = b) (fb : rd f (b : Int) = a) (h : ∀ x : Nat, x < n → ((x = a ∨ x = b) ↔ ((rd t (x : Int)).toNat = a ∨ (rd t (x : Int)).toNat = b))) : n = 2 := by
  obtain ⟨hn, h1, ht, hti, hf, hfl, hcon⟩ := id H
  have all : ∀ x, x < n → x = a ∨ x = b := fun x hx => by
    refine (hcon a x ha hx (fun z => z = a ∨ z = b) (fun q hq k hk => ?_)).1 (.inl rfl)
    rcases List.mem_cons.1 hq with rfl | hq
    · exact h k hk
    · rw [List.mem_singleton.1 hq]
      by_cases c : kept a b k
      · have := edge_kept f n a b hf hfl fa fb k hk c
        exact ⟨fun z => absurd z (fun z => z.elim c.1 c.2), fun z => absurd z (fun z => z.elim this.1 this.2)⟩
      · have c' : k = a ∨ k = b := by unfold kept at c; omega
        rcases c' with rfl | rfl
        · rw [fa, Int.toNat_natCast]
          exact ⟨fun _ => .inr rfl, fun _ => .inl rfl⟩
        · rw [fb, Int.toNat_natCast]
          exact ⟨fun _ => .inl rfl, fun _ => .inr rfl⟩
  have : n ≤ 2 := by
    rcases Nat.lt_or_ge 2 n with h2 | h2
    · have a0 := all 0 (by omega)
      have a1 := all 1 (by omega)
      have a2 := all 2 (by omega)
      omega
    · exact h2
  omega
theorem con_map (t f : List Int) (n : Nat) (H : MapOk t f n) (e a b : Nat) (he : e < (edL f n).length) (hab : EdgeAt f n e a b) (hn2 : n ≠ 2) (hk : ¬ Reach [t] n a b) :
    NoA (swp t a b n) a b ∧ NoA (faces t f n) a b ∧ MapOk (outT (swp t a b n) a b n) (outF f a b n) (n - 2) := by
  obtain ⟨hn, h1, ht, hti, hf, hfl, hcon⟩ := id H
  obtain ⟨ha, hb, hne, e1, e2, e3, e4⟩ := id hab
  have sa := swp_a t a b n ha
  have sb := swp_b t a b n hb hne
  have si := swp_inR t n a b ht ha hb
  have sj := swp_inj t n a b hti ha hb hne
  have ra := ht.2 a ha
  have rb := ht.2 b hb
  have tba : rd t (b : Int) ≠ a := fun z => hk (Reach.symm (by have := Reach.step (ps := [t]) (n := n) (p := t) (by simp) hb; rwa [z, Int.toNat_natCast] at this))
  have tab : rd t (a : Int) ≠ b := fun z => hk (by have := Reach.step (ps := [t]) (n := n) (p := t) (by simp) ha; rwa [z, Int.toNat_natCast] at this)
  have both : ¬ (rd t (b : Int) = b ∧ rd t (a : Int) = a) := fun ⟨z1, z2⟩ => hn2 (two_only t f n H a b ha hb hne e2 e3 fun x hx => by
    constructor
    · rintro (rfl | rfl)
      · rw [z2, Int.toNat_natCast]; exact .inl rfl
      · rw [z1, Int.toNat_natCast]; exact .inr rfl
    · have r := ht.2 x hx
      rintro (w | w)
      · exact .inl (hti x a hx ha (by rw [z2]; omega))
      · exact .inr (hti x b hx hb (by rw [z1]; omega)))
  have hN : NoA (swp t a b n) a b := ⟨by rw [sa]; exact tba, by rw [sb]; exact tab, by rw [sa, sb]; exact both⟩
  have fca : rd (faces t f n) (a : Int) = rd t (b : Int) := by rw [faces_rd t f n a ha, e2]
  have fcb : rd (faces t f n) (b : Int) = rd t (a : Int) := by rw [faces_rd t f n b hb, e3]
  have hNf : NoA (faces t f n) a b := ⟨by rw [fca]; exact tba, by rw [fcb]; exact tab, by rw [fca, fcb]; exact both⟩
  have hj := exch_join ht si hti sj (swp_exch t n a b ha hb hne) hk
  have hev := edL_half f n hf hfl
  refine ⟨hN, hNf, cut_map (swp t a b n) f n hn si sj hf hfl a b ha hb hne e2 e3 hN (by omega) f hf (fun d hd kd => rfl) (fun x hx hx' => ?_) (fun x y hx hy S hS => ?_)⟩
  · have c : x = a ∨ x = b := by unfold kept at hx'; omega
    rcases c with rfl | rfl
    · rw [e2, Int.toNat_natCast]
      exact ⟨fun z => z.2 rfl, hj⟩
    · rw [e3, Int.toNat_natCast]
      exact ⟨fun z => z.1 rfl, hj.symm⟩
  · have ss : ∀ k : Nat, k < n → (S k ↔ S (rd (swp t a b n) (k : Int)).toNat) := hS _ (by simp)
    have sf : ∀ k : Nat, k < n → (S k ↔ S (rd f (k : Int)).toNat) := hS f (by simp)
    have sab : S a ↔ S b := by have := sf a ha; rwa [e2, Int.toNat_natCast] at this
    refine hcon x y hx hy S fun q hq k hk' => ?_
    rcases List.mem_cons.1 hq with rfl | hq
    · by_cases c : kept a b k
      · have := ss k hk'
        rwa [swp_kept _ a b n k hk' c] at this
      · have c' : k = a ∨ k = b := by unfold kept at c; omega
        rcases c' with rfl | rfl
        · have := ss b hb
          rw [sb] at this
          exact sab.trans this
        · have := ss a ha
          rw [sa] at this
          exact sab.symm.trans this
    · rw [List.mem_singleton.1 hq]
      exact sf k hk'
theorem faces_tells (p f : List Int) (n m : Nat) (a b : Nat) (ha : a < n) (hb : b < n) (hab : a ≠ b) (hf : inR n f) (hp : inR n p) (hi : injR n p) (o1 : TellsQ a b n (fun d => (rd f (d : Int)).toNat) (outF f a b n)) (o2 : inR (n - 2) (outF f a b n)) :
    TellsQ a b n (fun d => (skp p a b (rd p (rd f (d : Int)))).toNat) (faces (outT p a b n) (outF f a b n) (n - 2)) := by
  have hT := outT_tells p n hp hi a b ha hb hab
  refine ⟨faces_len _ _ _, fun d hd kd => ?_⟩
  obtain ⟨q1, q2, q3⟩ := o1.2 d hd kd
  have q1 : (rd f (d : Int)).toNat < n := q1
  have q3 : rd (outF f a b n) (nmA a b d : Int) = (nmA a b (rd f (d : Int)).toNat : Int) := q3
  have fr := hf.2 d hd
  obtain ⟨r1, r2, r3⟩ := hT.2 _ q1 q2
  have e : (((rd f (d : Int)).toNat : Nat) : Int) = rd f (d : Int) := by omega
  have r1 : (skp p a b (rd p (((rd f (d : Int)).toNat : Nat) : Int))).toNat < n := r1
  have r2 : kept a b (skp p a b (rd p (((rd f (d : Int)).toNat : Nat) : Int))).toNat := r2
  have r3 : rd (outT p a b n) (nmA a b (rd f (d : Int)).toNat : Int) = (nmA a b (skp p a b (rd p (((rd f (d : Int)).toNat : Nat) : Int))).toNat : Int) := r3
  rw [e] at r1 r2 r3
  show (skp p a b (rd p (rd f (d : Int)))).toNat < n ∧ kept a b (skp p a b (rd p (rd f (d : Int)))).toNat ∧ rd (faces (outT p a b n) (outF f a b n) (n - 2)) (nmA a b d : Int) = (nmA a b (skp p a b (rd p (rd f (d : Int)))).toNat : Int)
  refine ⟨r1, r2, ?_⟩
  rw [faces_rd _ _ _ _ (nm_bound a b n d ha hb hab hd kd), q3, r3]
theorem faces_con (t f : List Int) (n : Nat) (H : MapOk t f n) (e a b : Nat) (hab : EdgeAt f n e a b) : faces (outT (swp t a b n) a b n) (outF f a b n) (n - 2) = outT (faces t f n) a b n := by
  obtain ⟨hn, h1, ht, hti, hf, hfl, hcon⟩ := id H
  obtain ⟨ha, hb, hne, e1, e2, e3, e4⟩ := id hab
  obtain ⟨o1, o2, o3⟩ := outF_ok f n a b hf hfl ha hb hne e2 e3
  have hFi := faces_inR t f n ht hf
  have hFj := faces_inj t f n ht hti hf hfl
  have si := swp_inR t n a b ht ha hb
  have sj := swp_inj t n a b hti ha hb hne
  refine tells_ext (faces_tells _ f n n a b ha hb hne hf si sj o1 o2) (outT_tells _ n hFi hFj a b ha hb hne) ha hb hne fun d hd kd => ?_
  have kf := edge_kept f n a b hf hfl e2 e3 d hd kd
  have fr := hf.2 d hd
  show (skp (swp t a b n) a b (rd (swp t a b n) (rd f (d : Int)))).toNat = (skp (faces t f n) a b (rd (faces t f n) (d : Int))).toNat
  have e : (((rd f (d : Int)).toNat : Nat) : Int) = rd f (d : Int) := by omega
  have := swp_kept t a b n (rd f (d : Int)).toNat (by omega) kf
  rw [e] at this
  rw [this, faces_rd t f n d hd]
  rw [skp_congr (swp t a b n) (faces t f n) a b _ (by rw [swp_a _ a b n ha, faces_rd t f n a ha, e2]) (by rw [swp_b _ a b n hb hne, faces_rd t f n b hb, e3])]
theorem con_count (t f : List Int) (n : Nat) (H : MapOk t f n) (e a b : Nat) (hab : EdgeAt f n e a b) (hN : NoA (swp t a b n) a b) (hNf : NoA (faces t f n) a b) (hk : ¬ Reach [t] n a b) (V F : Nat) (hV : Cl n (Reach [t] n) V) (hF : Cl n (Reach [faces t f n] n) F) :
    1 ≤ V ∧ Cl (n - 2) (Reach [outT (swp t a b n) a b n] (n - 2)) (V - 1) ∧ Cl (n - 2) (Reach [faces (outT (swp t a b n) a b n) (outF f a b n) (n - 2)] (n - 2)) F := by
  obtain ⟨hn, h1, ht, hti, hf, hfl, hcon⟩ := id H
  obtain ⟨ha, hb, hne, e1, e2, e3, e4⟩ := id hab
  have si := swp_inR t n a b ht ha hb
  have sj := swp_inj t n a b hti ha hb hne
  have hFi := faces_inR t f n ht hf
  have hFj := faces_inj t f n ht hti hf hfl
  obtain ⟨W, hW, _⟩ := Cl.ex n (Reach [swp t a b n] n)
  have := (exch_count ht si hti sj (swp_exch t n a b ha hb hne) hV hW).1 hk
  have hW' : W = V - 1 := by omega
  rw [hW'] at hW
  refine ⟨by omega, cl_left _ _ n si a b ha hb hne hN (outT_tells _ n si sj a b ha hb hne) _ hW, ?_⟩
  rw [faces_con t f n H e a b hab]
  exact cl_left _ _ n hFi a b ha hb hne hNf (outT_tells _ n hFi hFj a b ha hb hne) F hF
theorem out_edges (f : List Int) (n a b : Nat) (hf : inR n f) (hfl : ∀ i : Nat, i < n → flipAt f i) (ha : a < n) (hb : b < n) (hab : a ≠ b) (fa : rd f (a : Int) = b) (fb : rd f (b : Int) = a) : (edL (outF f a b n) (n - 2)).length + 1 = (edL f n).length := by
  obtain ⟨o1, o2, o3⟩ := outF_ok f n a b hf hfl ha hb hab fa fb
  have h1 := edL_half (outF f a b n) (n - 2) o2 o3
  have h2 := edL_half f n hf hfl
  have ht := nm_total a b n ha hb hab
  omega
theorem mapDualD_ev (t f : List Int) (hm : isMap t f) (ht : t.length ≤ 1048576) (hf : f.length ≤ 1048576) : Ev (fun k => impl_MapDual.f k t f) (faces t f t.length, f, true) := by
  obtain ⟨hn, h1, ht', hti, hf', hfl, hcon⟩ := mapOk_of t f hm
  obtain ⟨b, _, b2, b3⟩ := mapValid_both t f ht hf
  have hb : b = true := b3.2 hm
  subst hb
  have hc : slices_Clone_int_int.f f = some f := by
    unfold slices_Clone_int_int.f
    rw [if_pos (by omega)]
  unfold impl_MapDual.f
  refine Ev.bind b2 ?_
  simp only [if_true]
  refine Ev.bind (mulF_ev t f t.length hn ht' hf') ?_
  simp only [hc, Option.bind_some]
  exact Ev.const rfl
theorem Cl.le {n : Nat} {R : Nat → Nat → Prop} {k : Nat} (h : Cl n R k) : k ≤ n := by
  obtain ⟨l, h1, h2⟩ := Cl.ex n R
  rw [h.uniq h1]
  exact h2
theorem genusI_ev (t f : List Int) (hm : isMap t f) (ht : t.length ≤ 1048576) (hf : f.length ≤ 1048576) (V F G : Nat) (hV : Cl t.length (Reach [t] t.length) V) (hF : Cl t.length (Reach [faces t f t.length] t.length) F) (hG : 2 + (edL f t.length).length = V + F + 2 * G) : Ev (fun k => impl_MapGenus.f k t f) (G : Int) := by
  have H := mapOk_of t f hm
  obtain ⟨hn, h1, ht', hti, hf', hfl, hcon⟩ := id H
  obtain ⟨b, _, b2, b3⟩ := mapValid_both t f ht hf
  have hb : b = true := b3.2 hm
  subst hb
  have hFi := faces_inR t f t.length ht' hf'
  have hV' := hV.uniq (cyS_cl t t.length ht' hti)
  have hF' := hF.uniq (cyS_cl _ _ hFi (faces_inj t f t.length ht' hti hf' hfl))
  have v1 := hV.le
  have v2 := hF.le
  have hh := edL_half f t.length hf' hfl
  have hlen := hf'.1
  unfold impl_MapGenus.f
  refine Ev.bind b2 ?_
  simp only [if_true]
  refine Ev.bind (a := (G : Int)) ?_ (Ev.const rfl)
  unfold impl_genusOf.f
  refine Ev.bind (implCyc_ev t t.length (by omega) ht') ?_
  refine Ev.bind (mulF_ev t f t.length hn ht' hf') ?_
  refine Ev.bind (implCyc_ev _ t.length (by omega) hFi) (Ev.const ?_)
  rw [← hV', ← hF']
  congr 1
  rw [w64 (x := 2 - (V : Int)) (by omega) (by omega), w64 (x := (f.length : Int) / 2) (by omega) (by omega), w64 (x := 2 - (V : Int) + (f.length : Int) / 2) (by omega) (by omega), w64 (x := 2 - (V : Int) + (f.length : Int) / 2 - F) (by omega) (by omega)]
  rw [show 2 - (V : Int) + (f.length : Int) / 2 - F = (G : Int) * 2 by omega, Int.mul_tdiv_cancel _ (by decide), w64 (by omega) (by omega)]
theorem sameInts_run (l : List Int) (hl : l.length ≤ 1048576) : ∀ (d : Nat) (i : Nat), l.length - i = d → i ≤ l.length → Ev (fun k => laws_sameInts.l0 k l l i) true
  | 0, i, hd, hi => by
    refine Ev.s ?_
    simp only [laws_sameInts.l0, show ¬ (i : Int) < (l.length : Int) by omega, if_false]
    exact Ev.const rfl
  | d + 1, i, hd, hi => by
    refine Ev.s ?_
    simp only [laws_sameInts.l0, show (i : Int) < (l.length : Int) by omega, show (0 : Int) ≤ i by omega, if_true]
    rw [w64 (x := (i : Int) + 1) (by omega) (by omega), show ((i : Int) + 1) = ((i + 1 : Nat) : Int) by omega]
    exact sameInts_run l hl d (i + 1) (by omega) (by omega)
theorem sameInts_same (l : List Int) (hl : l.length ≤ 1048576) : Ev (fun k => laws_sameInts.f k l l) true := by
  unfold laws_sameInts.f
  simp only [if_true]
  exact sameInts_run l hl l.length 0 (by omega) (by omega)
end Go.Proofs.Ytggghijamfmenaa.PC

set_option linter.unusedVariables false
set_option linter.unusedSimpArgs false
namespace Go.Proofs.Ytggghijamfmenaa.Pure
open Go.RowKit Go.Proofs.Ytggghijamfmenaa.PC Go.Proofs.YtggghijamfmenaaW.PrintWords Go.Proofs.YtggghijamfmenaaW.PrintLast Go.Proofs.YtggghijamfmenaaW.PrintMore
theorem sameMap_same (a b : List Int) (ha : a.length ≤ 1048576) (hb : b.length ≤ 1048576) : Ev (fun k => laws_sameMap.f k a b a b) true := by
  unfold laws_sameMap.f
  refine Ev.bind (sameInts_same a ha) ?_
  simp only [if_true]
  exact Ev.bind (sameInts_same b hb) (Ev.const rfl)
theorem dual_del (t f : List Int) (H : MapOk t f t.length) (e a b : Nat) (he : e < (edL f t.length).length) (hab : EdgeAt f t.length e a b) (hn2 : t.length ≠ 2) :
    Ev (fun k => impl_EdgeDelete.f k (faces t f t.length) f e) ([], [], false) ∨ Ev (fun k => impl_EdgeDelete.f k (faces t f t.length) f e) (outT (faces t f t.length) a b t.length, outF f a b t.length, true) := by
  have hDm := isMap_of (dual_ok H)
  have hf2 := faces_len t f t.length
  have hfl : f.length = t.length := H.2.2.2.2.1.1
  obtain ⟨P, hP, p12, k1, k2⟩ := kindI_ev (faces t f t.length) f hDm e a b (by rw [hf2]; exact he) (by rw [hf2]; exact hab)
  obtain ⟨a', b', y1, y2, y3, y4, y5, y6, y7, q⟩ := delI_told (faces t f t.length) f hDm e (by rw [hf2]; exact he)
  rw [hf2] at y1 y2 y4 y7 q
  obtain ⟨z1, z2, z3, z4, z5, z6, z7⟩ := hab
  have ea : a' = a := by omega
  subst ea
  have eb : b' = b := by omega
  subst eb
  have go : ∀ r : Int, Ev (fun k => impl_EdgeKind.f k (faces t f t.length) f e) r → r ≠ -1 → r ≠ 1 → Ev (fun k => impl_EdgeDelete.f k (faces t f t.length) f e) (outT (faces t f t.length) a' b' t.length, outF f a' b' t.length, true) := fun r hr h0 h1 => by
    unfold impl_EdgeDelete.f
    refine Ev.bind hr ?_
    simp only [h0, h1, if_false]
    rw [show (((f.length : Int) == 2)) = false from beq_eq_false_iff_ne.2 (by omega)]
    exact q
  by_cases hr : Go.Proofs.Ytggghijamfmenaa.PC.Reach [faces t f t.length] t.length a' b'
  · exact .inr (go 2 (k1 (by rw [hf2]; exact hr)) (by decide) (by decide))
  · have kk := k2 (by rw [hf2]; exact hr)
    rcases p12 with p | p
    · exact .inr (go _ kk (by omega) (by omega))
    · left
      unfold impl_EdgeDelete.f
      refine Ev.bind kk ?_
      rw [p]
      simp only [show ¬ ((2 : Nat) : Int) - 1 = -1 by decide, show ((2 : Nat) : Int) - 1 = 1 by decide, if_true, if_false, show ¬ (1 : Int) = -1 by decide]
      refine Ev.s ?_
      simp only [impl_EdgeDelete.j0, if_true]
      exact Ev.const rfl
theorem FnContract : laws_FnContract.Pure := by
  intro l hl _ hb
  by_cases c0 : (l.length : Int) > 1048576
  · exact ⟨0, by unfold laws_FnContract.f; rw [if_pos c0]⟩
  obtain ⟨l', eo, h⟩ := open_ev l hb
  obtain ⟨t, f, e, p, e1, d2, d3⟩ := l92Edge_ev l' h
  have dr : Ev (fun k => spec_DrawEdgeContract.f k l) (t, f, e) := by
    unfold spec_DrawEdgeContract.f
    simp only [eo, Option.bind_some]
    exact Ev.bind e1 (Ev.const rfl)
  have tl : t.length ≤ 1048576 := by omega
  have fl' : f.length ≤ 1048576 := by omega
  obtain ⟨r, r1, r2, r3, r4, r5⟩ := con_more t f e tl fl'
  obtain ⟨T, F, b⟩ := r
  have hT : T.length ≤ 1048576 := Nat.le_trans r3 (by omega)
  have hF : F.length ≤ 1048576 := Nat.le_trans r4 (by omega)
  have sm := sameMap_same T F hT hF
  have hbb : (b != b) = false := by simp
  refine Ev.rounds (r := true) ?_
  unfold laws_FnContract.f
  simp only [c0, if_false]
  refine Ev.bind dr ?_
  refine Ev.bind r2 ?_
  refine Ev.bind r1 ?_
  simp only [hbb, Bool.false_eq_true, if_false]
  refine Ev.bind sm ?_
  simp only [if_true]
  refine Ev.s ?_
  rcases r5 with r5 | ⟨hm, hn2, E, a, b', rfl, hE, hab, ⟨q, q1, q2⟩, r5⟩
  · simp only [Prod.mk.injEq] at r5
    obtain ⟨g1, g2, g3⟩ := r5
    subst g1 g2 g3
    simp only [laws_FnContract.j0, Bool.not_false, if_true, beq_self_eq_true]
    exact Ev.bind sm (Ev.const rfl)
  simp only [Prod.mk.injEq] at r5
  obtain ⟨g1, g2, g3⟩ := r5
  have hab : EdgeAt f t.length E a b' := hab
  have H := mapOk_of t f hm
  obtain ⟨hn, h1, ht', hti, hf', hfl, hcon⟩ := id H
  obtain ⟨ha, hb', hne, y1, y2, y3, y4⟩ := id hab
  have hlen := hf'.1
  have hh := edL_half f t.length hf' hfl
  have hk : ¬ Go.Proofs.Ytggghijamfmenaa.PC.Reach [t] t.length a b' := fun z => by
    obtain ⟨P, hP, p12, k1, k2⟩ := kindI_ev t f hm E a b' hE hab
    have := Ev.uniq q2 (k1 z)
    omega
  obtain ⟨N1, N2, M⟩ := con_map t f t.length H E a b' hE hab hn2 hk
  have g1' : T = outT (swp t a b' t.length) a b' t.length := g1
  have hTl : T.length = t.length - 2 := by rw [g1']; exact M.2.2.1.1
  rw [← g1', ← g2] at M
  have hm2 := isMap_of M
  have hV := cyS_cl t t.length ht' hti
  have hFF := cyS_cl _ _ (faces_inR t f t.length ht' hf') (faces_inj t f t.length ht' hti hf' hfl)
  obtain ⟨v1, v2, v3⟩ := con_count t f t.length H E a b' hab N1 N2 hk _ _ hV hFF
  have oe := out_edges f t.length a b' hf' hfl ha hb' hne y2 y3
  obtain ⟨F1, w1, w2⟩ := mapCounts_ev t f hm tl fl'
  obtain ⟨F2, x1, x2⟩ := mapCounts_ev T F hm2 hT hF
  have gm : ∃ G : Nat, 2 + (edL f t.length).length = (cyS t t.length t.length).2.length + F1 + 2 * G := by
    obtain ⟨P, hP, _⟩ := Cl.ex t.length (Go.Proofs.Ytggghijamfmenaa.PC.Reach [t, flC f t.length []] t.length)
    obtain ⟨S, hS, _⟩ := Cl.ex t.length (Go.Proofs.Ytggghijamfmenaa.PC.Reach [sgL t f t.length []] t.length)
    obtain ⟨g, G, m1, m2, m3, m4⟩ := five_math t f [] t.length H (fun i hi => by simp at hi) P S _ _ hP hS hV w1
    exact ⟨G, m4⟩
  obtain ⟨G, gm⟩ := gm
  have hVT : Cl (t.length - 2) (Go.Proofs.Ytggghijamfmenaa.PC.Reach [T] (t.length - 2)) ((cyS T T.length T.length).2.length) := by
    have := cyS_cl T T.length (by rw [hTl]; exact M.2.2.1) (by rw [hTl]; exact M.2.2.2.1)
    rw [hTl] at this ⊢
    exact this
  rw [← g1'] at v2 v3
  rw [← g2] at v3 oe
  have eF1 := w1.uniq hFF
  rw [hTl] at x1
  have eF2 := x1.uniq v3
  have eV := hVT.uniq v2
  have vle := hV.le
  have fle := w1.le
  have gev := genusI_ev t f hm tl fl' _ F1 G hV w1 gm
  have gev2 := genusI_ev T F hm2 hT hF ((cyS T T.length T.length).2.length) F2 G (by rw [hTl] at hVT ⊢; exact hVT) (by rw [hTl]; exact x1) (by rw [hTl] at eV ⊢; omega)
  have dm := mapDualD_ev t f hm tl fl'
  have dm2 := mapDualD_ev T F hm2 hT hF
  have hfc := faces_con t f t.length H E a b' hab
  rw [← g1', ← g2] at hfc
  rw [hTl, hfc] at dm2
  have hlD : (outT (faces t f t.length) a b' t.length).length ≤ 1048576 := by
    have := (out_len (faces t f t.length) f a b' t.length hn).1
    omega
  have c3 : ∀ A B C : Nat, (threeN A B C).length = 3 ∧ rd (threeN A B C) 0 = (A : Int) ∧ rd (threeN A B C) 1 = (B : Int) ∧ rd (threeN A B C) 2 = (C : Int) := fun _ _ _ => ⟨rfl, rfl, rfl, rfl⟩
  have wV : wrap64 (((cyS t t.length t.length).2.length : Int) - 1) = ((cyS t t.length t.length).2.length : Int) - 1 := w64 (by omega) (by omega)
  have wE : wrap64 (((edL f t.length).length : Int) - 1) = ((edL f t.length).length : Int) - 1 := w64 (by omega) (by omega)
  have n0 : (((cyS T T.length T.length).2.length : Nat) : Int) = ((cyS t t.length t.length).2.length : Int) - 1 := by rw [eV]; omega
  have n1 : (((edL F T.length).length : Nat) : Int) = ((edL f t.length).length : Int) - 1 := by rw [hTl]; omega
  have n2 : (F2 : Int) = (F1 : Int) := by omega
  subst g3
  simp only [laws_FnContract.j0, Bool.not_true, Bool.false_eq_true, if_false]
  refine Ev.bind w2 ?_
  refine Ev.bind x2 ?_
  refine Ev.bind dm ?_
  rcases dual_del t f H E a b' hE hab hn2 with hd | hd
  · refine Ev.bind hd ?_
    refine Ev.bind dm2 ?_
    simp only [c3, n0, n1, n2, wV, wE, if_true, show (0 : Int) < ((3 : Nat) : Int) by decide, show (1 : Int) < ((3 : Nat) : Int) by decide, show (2 : Int) < ((3 : Nat) : Int) by decide]
    refine Ev.bind gev2 ?_
    refine Ev.bind gev ?_
    simp only [if_true, Bool.false_eq_true, if_false]
    exact Ev.const rfl
  · refine Ev.bind hd ?_
    refine Ev.bind dm2 ?_
    simp only [c3, n0, n1, n2, wV, wE, if_true, show (0 : Int) < ((3 : Nat) : Int) by decide, show (1 : Int) < ((3 : Nat) : Int) by decide, show (2 : Int) < ((3 : Nat) : Int) by decide]
    refine Ev.bind gev2 ?_
    refine Ev.bind gev ?_
    simp only [if_true]
    rw [← g2]
    exact Ev.bind (sameMap_same _ F hlD hF) (Ev.const rfl)
end Go.Proofs.Ytggghijamfmenaa.Pure

namespace Go.Proofs.Ytggghijamfmenaa.fnContract
open Go.ChangeShapes Go.WideShapes Go.ChangeAt Go.RowKit
open Go.ChangeMaps (open_string shut_string)
set_option linter.unusedVariables false
theorem own : ownKnob Try.prog.godebug = none := by kernel_rfl
theorem laidOut : laidOutB Try.prog = true := by kernel_rfl
def IsRow (k : IntKind) (w : World) (a : Option Addr) (len cap : Nat) (zs : List Int) : Prop :=
 (a = none ∧ len = 0 ∧ cap = 0 ∧ zs = []) ∨
 ∃ x, a = some x ∧ len ≤ cap ∧ cap ≤ maxLen ∧ zs.length = cap ∧ (∀ i, i < zs.length → w.cell? (x.add i) = some (.int k (zs.getD i 0))) ∧ ∀ n ∈ zs, (Lit.int k n).wf = true
set_option maxRecDepth 100000 in
theorem lifted (os : Os) (started : os.Started) (H : Type) (enc : TypeId × Value → H) :
  ReturnsInHanded {} Try.checked os 3 .any (Rows.fnContractSpec.pre6 enc Try.prog Try.f3 Rows.fnContractRow.domain false) (Rows.fnContractSpec.post enc Try.prog Try.f3 false true false false) := by
 refine returnsInHanded_of_change_sized (C := Try.checked) own started (by kernel_rfl) Try.func3
  (ChangeSpec.witness6 (enc := enc) (C := Try.checked) false ⟨#[], #[.slice none 0 0], []⟩ 8 (by kernel_rfl) (by kernel_rfl) (by kernel_rfl) (by kernel_rfl)) ?_
 intro W base args ds gs before hval0 hW hcnd hsz0 _
 have hsz : (DataW.weightsEach Try.prog (Try.f3.params.toList ++ Rows.fnContractSpec.plain.varTypes Try.prog) (ds ++ gs)).all (· ≤ reachBytes) = true := hsz0
 have hval : ∀ (j : Nat) t v, Try.f3.params[j]? = some t → args[j]? = some v → Value.okWide Try.prog W .any base t v := hval0
 have hW' := hW
 obtain ⟨p, q, hA0, hV, rfl, hfz, hnd⟩ := hW
 have hA : DataW.TrodAll enc Try.prog W 0 (fun _ => true) true Try.f3.params.toList args.toList ds p := hA0
 rw [Try.params3] at hA hval hsz
 obtain ⟨v0, vs0, d0, ds0, p0, q0, hargs, rfl, rfl, h0, r0⟩ := trodAll_cons hA
 obtain ⟨rfl, rfl, rfl⟩ := trodAll_nil r0
 obtain rfl : args = #[v0] := by cases args; simp_all
 obtain ⟨rfl, rfl⟩ := trodVars_none hV
 obtain ⟨a0, len0, cap0, rfl⟩ := okWide_slice Try.underlying22 (hval 0 22 v0 rfl rfl)
 have k0 := h0
 have lt0 : ∀ x ∈ p0, x.block < W.heap.size := by obtain ⟨m, hm⟩ := k0; exact DataW.trod_lt m _ _ _ hm
 obtain ⟨z0, w0⟩ : ∃ zs, IsRow .u8 W a0 len0 cap0 zs := by
  obtain ⟨fuel, hf⟩ := h0
  rcases open_ints Try.underlying22 Try.underlying5 (by kernel_rfl) hf with ⟨hcs, _⟩ | ⟨x, l, c, zs, hcs, _, hl, hm, hz, _, hcell, hwz⟩
  ·
   simp [Value.cells] at hcs
   obtain ⟨rfl, rfl, rfl⟩ := hcs
   exact ⟨[], .inl ⟨rfl, rfl, rfl, rfl⟩⟩
  ·
   simp [Value.cells] at hcs
   obtain ⟨rfl, rfl, rfl⟩ := hcs
   exact ⟨zs, .inr ⟨_, rfl, hl, hm, by simpa using hz, hcell, hwz⟩⟩
 have y0 : len0 * 1 ≤ 140737488351232 := Go.Proofs.YtggghijamfmenaaW.PrintWords.sized_ints hsz (j := 0) (t := 22) rfl rfl Try.underlying22 Try.underlying5 (by kernel_rfl) (by kernel_rfl) h0
 clear hA0 hval0 hsz0 hsz
 refine (PC.laws_FnContract.walk Pure.FnContract a0 len0 cap0 z0 W w0 y0).mono fun e W' ⟨he, bel⟩ => ?_
 subst he
 exact ⟨_, rfl, _, _, _, [], _, [], hW', trodAll_mk1 (shut_bool Try.underlying4 _), (trodAll_cons_mk (Below.trod laidOut (by kernel_rfl) (of_decide_eq_true (by kernel_rfl)) k0 bel lt0) trodAll_mk0), rfl, bel.frame _, fun h => by cases h⟩
theorem over : Rows.fnContractRow.holds Try.pinned (OpenSpec.ofChange Rows.fnContractSpec) :=
 OpenClaim.holds_of_wide 3 Try.f3 rfl rfl rfl rfl rfl rfl rfl ⟨rfl, rfl, rfl, rfl, rfl⟩ rfl rfl rfl rfl rfl (by kernel_rfl) Try.func3 (by kernel_rfl)
  (of_decide_eq_true (by kernel_rfl)) (by unfold Func.isWrapper; first | (rw [if_pos (by decide +kernel)]; kernel_rfl) | (rw [if_neg (by decide +kernel)]; exact ⟨rfl, rfl⟩))
  (fun os started H enc _ => lifted os started H enc)
theorem proved : Rows.FnContractSaid := over
#print axioms proved
end Go.Proofs.Ytggghijamfmenaa.fnContract
namespace Go.Proofs.Ytggghijamfmenaa
theorem fnContract_holds : Rows.FnContractSaid := fnContract.proved
end Go.Proofs.Ytggghijamfmenaa
