/- Whole factorizations have a genus: what FnWhole says holds of all codes. There are no conditions beside the given row's own. -/
import Derived.Test.YtggghijamfmenaaKFnWholeOwnx3
set_option linter.unusedVariables false
set_option linter.unusedSimpArgs false
namespace Go.Proofs.Ytggghijamfmenaa.PM
open Go.RowKit Go.Proofs.YtggghijamfmenaaW.PrintWords Go.Proofs.YtggghijamfmenaaW.PrintLast Go.Proofs.YtggghijamfmenaaW.PrintMore
def picks : List (List Int) → List (List (List Int)) → Prop
  | [], [] => True
  | p :: l, C :: Cs => p ∈ C ∧ picks l Cs
  | _, _ => False
def prodF (n : Nat) : List Int → List (List Int) → List Int
  | pr, [] => pr
  | pr, p :: l => prodF n (mulL pr p n) l
theorem sum_pos : ∀ (L : List Nat), L.sum ≠ 0 → ∃ x ∈ L, x ≠ 0
  | [], h => absurd rfl h
  | x :: L, h => by
    by_cases e : x = 0
    · rw [List.sum_cons, e, Nat.zero_add] at h
      obtain ⟨y, hy, h2⟩ := sum_pos L h
      exact ⟨y, List.mem_cons_of_mem _ hy, h2⟩
    · exact ⟨x, List.mem_cons_self, e⟩
theorem cntF_pos (n : Nat) (leaf : List (List Int) → Nat) : ∀ (Cs : List (List (List Int))) (l : List (List Int)) (pr : List Int), cntF n leaf Cs l pr ≠ 0 → ∃ l2, picks l2 Cs ∧ prodF n pr l2 = stl n ∧ leaf (l ++ l2) ≠ 0
  | [], l, pr, h => by
    simp only [cntF] at h
    by_cases e : pr = stl n
    · rw [if_pos e] at h
      exact ⟨[], trivial, e, by rwa [List.append_nil]⟩
    · rw [if_neg e] at h
      exact absurd rfl h
  | C :: Cs, l, pr, h => by
    simp only [cntF] at h
    obtain ⟨x, hx, h2⟩ := sum_pos _ h
    obtain ⟨p, hp, rfl⟩ := List.mem_map.1 hx
    obtain ⟨l2, a, b, c⟩ := cntF_pos n leaf Cs (l ++ [p]) (mulL pr p n) h2
    exact ⟨p :: l2, ⟨hp, a⟩, b, by rwa [List.append_assoc, List.singleton_append] at c⟩
theorem cntF_congr (n : Nat) (leaf leaf' : List (List Int) → Nat) : ∀ (Cs : List (List (List Int))) (l : List (List Int)) (pr : List Int), (∀ l2, picks l2 Cs → leaf (l ++ l2) = leaf' (l ++ l2)) → cntF n leaf Cs l pr = cntF n leaf' Cs l pr
  | [], l, pr, h => by
    have := h [] trivial
    rw [List.append_nil] at this
    simp only [cntF, this]
  | C :: Cs, l, pr, h => by
    simp only [cntF]
    refine congrArg List.sum (List.map_congr_left fun p hp => ?_)
    refine cntF_congr n leaf leaf' Cs (l ++ [p]) (mulL pr p n) fun l2 h2 => ?_
    have := h (p :: l2) ⟨hp, h2⟩
    rwa [List.append_assoc, List.singleton_append]
theorem sum_le (B : Nat) : ∀ (L : List Nat), (∀ x ∈ L, x ≤ B) → L.sum ≤ L.length * B
  | [], _ => by simp
  | x :: L, h => by
    have h1 := h x List.mem_cons_self
    have h2 := sum_le B L fun y hy => h y (List.mem_cons_of_mem _ hy)
    rw [List.sum_cons, List.length_cons, Nat.add_mul, Nat.one_mul]
    omega
theorem cntF_le (n : Nat) (leaf : List (List Int) → Nat) (hl : ∀ l, leaf l ≤ 1) : ∀ (Cs : List (List (List Int))) (l : List (List Int)) (pr : List Int), (∀ C ∈ Cs, C.length ≤ 24) → cntF n leaf Cs l pr ≤ 24 ^ Cs.length
  | [], l, pr, _ => by
    simp only [cntF, List.length_nil, Nat.pow_zero]
    split
    · exact hl l
    · omega
  | C :: Cs, l, pr, h => by
    simp only [cntF, List.length_cons, Nat.pow_succ]
    have h1 := sum_le (24 ^ Cs.length) (C.map fun p => cntF n leaf Cs (l ++ [p]) (mulL pr p n)) fun x hx => by
      obtain ⟨p, _, rfl⟩ := List.mem_map.1 hx
      exact cntF_le n leaf hl Cs _ _ fun D hD => h D (List.mem_cons_of_mem _ hD)
    rw [List.length_map] at h1
    have h2 := h C List.mem_cons_self
    exact Nat.le_trans h1 (by rw [Nat.mul_comm]; exact Nat.mul_le_mul_left _ h2)
theorem cntT_le (n : Nat) (h1 : 1 ≤ n) (h4 : n ≤ 4) (leaf : List (List Int) → Nat) (hl : ∀ l, leaf l ≤ 1) (ts : List (List Int)) (h3 : ts.length ≤ 3) : cntT n leaf ts ≤ 13824 := by
  obtain ⟨_, _, c3⟩ := chain_all n h1 h4
  have h := cntF_le n leaf hl (ts.map (FL n (PL n))) [] (stl n) fun C hC => by
    obtain ⟨t, _, rfl⟩ := List.mem_map.1 hC
    exact Nat.le_trans (FL_len n (PL n) t) c3
  rw [List.length_map] at h
  exact Nat.le_trans h (Nat.le_trans (Nat.pow_le_pow_right (by omega) h3) (by decide))
theorem picks_mem (n : Nat) : ∀ (l2 ts : List (List Int)), picks l2 (ts.map (FL n (PL n))) → l2.length = ts.length ∧ (∀ p ∈ l2, p ∈ PL n) ∧ l2.map (TY n) = ts
  | [], [], _ => ⟨rfl, by simp, rfl⟩
  | [], t :: ts, h => by simp [picks] at h
  | p :: l2, [], h => by simp [picks] at h
  | p :: l2, t :: ts, h => by
    simp only [List.map_cons, picks] at h
    obtain ⟨a, b, c⟩ := picks_mem n l2 ts h.2
    have hp := List.mem_filter.1 h.1
    refine ⟨by simp [a], fun q hq => ?_, by rw [List.map_cons, c, of_decide_eq_true hp.2]⟩
    rcases List.mem_cons.1 hq with rfl | hq
    · exact hp.1
    · exact b q hq
theorem join_at (n : Nat) (h1 : 1 ≤ n) (h4 : n ≤ 4) (l : List (List Int)) (hl : ∀ x ∈ l, x ∈ PL n) (o q : List Int) (ho : orbOk l n o) (hq : q ∈ PL n) : ∃ z, spec_l5Join.f 40 o q = some z ∧ orbOk (l ++ [q]) n z := by
  obtain ⟨z, ez, hz⟩ := join_ok n h1 h4 l hl o q ho hq
  have hA := allJ_all n h1 h4
  unfold allJ at hA
  rw [List.all_eq_true] at hA
  have hv := hA o (vecs_mem n o ho.1.1 (fun i hi => ⟨(ho.1.2 i hi).1, (ho.1.2 i hi).2.1⟩))
  have hs : stays n o o = true := (stays_iff n o o).2 fun i hi => by
    obtain ⟨g0, g1, g2⟩ := ho.1.2 i hi
    have e := orbOk_const ho (fun p hp => PL_inR n p (hl p hp)) g2
    rw [show (((rd o i).toNat : Nat) : Int) = rd o i by omega] at e
    exact e
  rw [hs, Bool.not_true, Bool.false_or, List.all_eq_true] at hv
  have hj := hv q hq
  unfold joinB at hj
  split at hj
  · rename_i out hout
    have ez2 : Ev (fun k => spec_l5Join.f k o q) out := Ev.of (fun k => spec_l5Join.mono o q k) hout
    have ezz := Ev.uniq ez ez2
    subst ezz
    exact ⟨z, hout, hz⟩
  · cases hj
def JF (l : List (List Int)) (o : List Int) : List Int := l.foldl (fun o p => (spec_l5Join.f 40 o p).getD []) o
theorem JF_ok (n : Nat) (h1 : 1 ≤ n) (h4 : n ≤ 4) : ∀ (l2 l : List (List Int)) (o : List Int), orbOk l n o → (∀ x ∈ l, x ∈ PL n) → (∀ x ∈ l2, x ∈ PL n) → orbOk (l ++ l2) n (JF l2 o)
  | [], l, o, h, _, _ => by rw [List.append_nil]; exact h
  | q :: l2, l, o, h, hl, h2 => by
    obtain ⟨z, ez, hz⟩ := join_at n h1 h4 l hl o q h (h2 q List.mem_cons_self)
    have ih := JF_ok n h1 h4 l2 (l ++ [q]) z hz (fun x hx => by
      rcases List.mem_append.1 hx with hx | hx
      · exact hl x hx
      · have : x = q := by simpa using hx
        rw [this]; exact h2 q List.mem_cons_self) (fun x hx => h2 x (List.mem_cons_of_mem _ hx))
    rw [List.append_assoc, List.singleton_append] at ih
    unfold JF at ih ⊢
    rw [List.foldl_cons, ez]
    exact ih
def zerosB (o : List Int) : Bool := o.all fun x => decide (x = 0)
theorem JF_conn (n : Nat) (h1 : 1 ≤ n) (h4 : n ≤ 4) (l : List (List Int)) (hl : ∀ x ∈ l, x ∈ PL n) : conn n l ↔ zerosB (JF l (stl n)) = true := by
  have ok := JF_ok n h1 h4 l [] (stl n) ⟨stl_orbI [] n, fun p hp => by simp at hp⟩ (by simp) hl
  rw [List.nil_append] at ok
  have hc := orb_conn n h1 l (fun p hp => PL_inR n p (hl p hp)) _ ok
  refine hc.symm.trans ?_
  unfold zerosB
  rw [List.all_eq_true]
  have ol := ok.1.1
  constructor
  · intro h x hx
    obtain ⟨i, hi, rfl⟩ := List.mem_iff_getElem.1 hx
    have := h i (by omega)
    rw [rd_lt _ i hi] at this
    exact decide_eq_true this
  · intro h j hj
    rw [rd_lt _ j (by omega)]
    exact of_decide_eq_true (h _ (List.getElem_mem _))
def twF (n : Nat) (ts : List (List Int)) : Int := 2 - 2 * (n : Int) + (ts.map fun t => (n : Int) - (t.length : Int)).foldr (· + ·) 0
def rhB (n : Nat) (l : List (List Int)) : Bool := decide (0 ≤ twF n (l.map (TY n))) && decide (twF n (l.map (TY n)) % 2 = 0)
def seeB (n : Nat) (l : List (List Int)) : Bool := !(decide (prodF n (stl n) l = stl n)) || !(zerosB (JF l (stl n))) || rhB n l
def see1 (n : Nat) : Bool := (PL n).all fun p => seeB n [p]
def see2 (n : Nat) : Bool := (PL n).all fun p => (PL n).all fun q => seeB n [p, q]
def see3 (n : Nat) : Bool := (PL n).all fun p => (PL n).all fun q => (PL n).all fun r => seeB n [p, q, r]
set_option maxRecDepth 100000 in
theorem see1_ok : (see1 1 && see1 2 && see1 3 && see1 4) = true := by decide +kernel
set_option maxRecDepth 100000 in
theorem see2_ok : (see2 1 && see2 2 && see2 3 && see2 4) = true := by decide +kernel
set_option maxRecDepth 100000 in
theorem see3_3 : (see3 1 && see3 2 && see3 3) = true := by decide +kernel
set_option maxRecDepth 100000 in
theorem see3_4 : see3 4 = true := by decide +kernel
def oneC (n : Nat) : Bool := (PL n).all fun p => !(decide ((TY n p).length = 1)) || zerosB (JF [p] (stl n))
set_option maxRecDepth 100000 in
theorem oneC_ok : (oneC 1 && oneC 2 && oneC 3 && oneC 4) = true := by decide +kernel
theorem four_of (P : Nat → Bool) (h : (P 1 && P 2 && P 3 && P 4) = true) (n : Nat) (h1 : 1 ≤ n) (h4 : n ≤ 4) : P n = true := by
  simp only [Bool.and_eq_true] at h
  rcases n with _ | _ | _ | _ | _ | n
  · omega
  · exact h.1.1.1
  · exact h.1.1.2
  · exact h.1.2
  · exact h.2
  · omega
theorem see_all (n : Nat) (h1 : 1 ≤ n) (h4 : n ≤ 4) (l : List (List Int)) (hl : ∀ x ∈ l, x ∈ PL n) (l1 : 1 ≤ l.length) (l3 : l.length ≤ 3) : seeB n l = true := by
  have e1 := four_of see1 see1_ok n h1 h4
  have e2 := four_of see2 see2_ok n h1 h4
  have e3 := four_of see3 (by rw [see3_3, see3_4]; rfl) n h1 h4
  rcases l with _ | ⟨p, _ | ⟨q, _ | ⟨r, _ | ⟨s, l⟩⟩⟩⟩
  · simp at l1
  · exact List.all_eq_true.1 e1 p (hl p (by simp))
  · exact List.all_eq_true.1 (List.all_eq_true.1 e2 p (hl p (by simp))) q (hl q (by simp))
  · exact List.all_eq_true.1 (List.all_eq_true.1 (List.all_eq_true.1 e3 p (hl p (by simp))) q (hl q (by simp))) r (hl r (by simp))
  · simp only [List.length_cons] at l3
    omega
theorem whole_genus (n : Nat) (h1 : 1 ≤ n) (h4 : n ≤ 4) (ts : List (List Int)) (t1 : 1 ≤ ts.length) (t3 : ts.length ≤ 3) (h : cntT n (leafW n) ts ≠ 0) : 0 ≤ twF n ts ∧ twF n ts % 2 = 0 := by
  obtain ⟨l2, a, b, c⟩ := cntF_pos n (leafW n) _ _ _ h
  obtain ⟨e1, e2, e3⟩ := picks_mem n l2 ts a
  rw [List.nil_append] at c
  have hc : conn n l2 := by
    by_cases hc : conn n l2
    · exact hc
    · unfold leafW at c
      rw [if_neg hc] at c
      exact absurd rfl c
  have hs := see_all n h1 h4 l2 e2 (by omega) (by omega)
  unfold seeB rhB at hs
  rw [decide_eq_true b, (JF_conn n h1 h4 l2 e2).1 hc, e3] at hs
  simp only [Bool.not_true, Bool.false_or, Bool.and_eq_true, decide_eq_true_eq] at hs
  exact hs
theorem Reach.sub {ps ps' : List (List Int)} {n i j : Nat} (hs : ∀ p ∈ ps, p ∈ ps') (h : Reach ps n i j) : Reach ps' n i j := fun S c => h S (fun p hp => c p (hs p hp))
theorem whole_all (n : Nat) (h1 : 1 ≤ n) (h4 : n ≤ 4) (ts : List (List Int)) (h : n = 1 ∨ ∃ t ∈ ts, t.length = 1) : cntT n (leafW n) ts = cntT n (fun _ => 1) ts := by
  refine cntF_congr n _ _ _ _ _ fun l2 hp => ?_
  obtain ⟨e1, e2, e3⟩ := picks_mem n l2 ts hp
  rw [List.nil_append]
  have hc : conn n l2 := by
    rcases h with h | ⟨t, ht, hl⟩
    · subst h
      intro i hi
      have : i = 0 := by omega
      subst this
      exact Reach.refl _ _ _
    · rw [← e3] at ht
      obtain ⟨p, hp2, rfl⟩ := List.mem_map.1 ht
      have o := four_of oneC oneC_ok n h1 h4
      have o2 := List.all_eq_true.1 o p (e2 p hp2)
      rw [decide_eq_true hl, Bool.not_true, Bool.false_or] at o2
      have hc := (JF_conn n h1 h4 [p] (fun x hx => by have : x = p := by simpa using hx
                                                      rw [this]; exact e2 p hp2)).2 o2
      exact fun i hi => (hc i hi).sub (fun x hx => by have : x = p := by simpa using hx
                                                      rw [this]; exact hp2)
  unfold leafW
  rw [if_pos hc]
theorem implEach_ev (l : List (List Int)) (hl : l.length ≤ 1048576) (h2 : ∀ j : Nat, j < l.length → (rd_L1 l (j : Int)).length ≤ 1048576) (s : smallT l) (n : Nat) (hn : totP (rd_L1 l 0) = n) (n1 : 1 ≤ n) (n4 : n ≤ 4) : Ev (fun k => impl_FactorEach.f k l) (wrap64 (cntT n (fun _ => 1) l)) := by
  obtain ⟨r, er, hr⟩ := implTypes_ev l hl h2
  obtain ⟨g, hl3, ht4⟩ := s
  have hre : r = totP (rd_L1 l 0) := hr.elim (fun h => h.2) (fun h => absurd g h.1)
  unfold impl_FactorEach.f
  refine Ev.bind er ?_
  rw [hre, hn]
  simp only [show ¬ (n : Int) < 0 by omega, show ¬ (n : Int) > 4 by omega, show ¬ (l.length : Int) > 3 by omega, if_false]
  obtain ⟨_, _, c3⟩ := chain_all n n1 n4
  exact facs_ev n n1 (by omega) (by omega) (fun _ => 1) _ l hl (fun l m _ _ => Ev.const (congrArg some (by rw [wrap_addl]; rfl)))
theorem xor_nonneg (a b : Int) (ha : 0 ≤ a) (hb : 0 ≤ b) (ha' : a < 9223372036854775808) (hb' : b < 9223372036854775808) : 0 ≤ Go.bits .xor .i64 a b := by
  obtain ⟨n, rfl⟩ := Int.eq_ofNat_of_zero_le ha
  obtain ⟨m, rfl⟩ := Int.eq_ofNat_of_zero_le hb
  have hn : n % 2 ^ 64 = n := Nat.mod_eq_of_lt (by omega)
  have hm : m % 2 ^ 64 = m := Nat.mod_eq_of_lt (by omega)
  have hx : n ^^^ m < 2 ^ 63 := Nat.xor_lt_two_pow (by omega) (by omega)
  have e : Go.bits .xor .i64 (n : Int) (m : Int) = IntKind.i64.wrap ((n ^^^ m : Nat) : Int) := by
    simp only [Go.bits, BitVec.ofInt_natCast]
    show IntKind.i64.wrap (((BitVec.ofNat 64 n ^^^ BitVec.ofNat 64 m).toNat : Nat) : Int) = _
    rw [BitVec.toNat_xor, BitVec.toNat_ofNat, BitVec.toNat_ofNat, hn, hm]
  rw [e, IntKind.wrap_i64]
  omega
def bytesOk (l : List Int) : Prop := l.length ≤ 2000 ∧ ∀ x ∈ l, 0 ≤ x ∧ x ≤ 255
theorem rd_byte (l : List Int) (h : bytesOk l) (i : Int) : 0 ≤ rd l i ∧ rd l i ≤ 255 := by
  unfold rd
  by_cases hi : i.toNat < l.length
  · rw [List.getD_eq_getElem?_getD, List.getElem?_eq_getElem hi]
    exact h.2 _ (List.getElem_mem hi)
  · rw [List.getD_eq_getElem?_getD, List.getElem?_eq_none (by omega)]
    decide
theorem pick_ev (l : List Int) (h : bytesOk l) (p : Int) (hp : 0 ≤ p) (hp' : p ≤ 1000000) (n : Int) (hn : 1 ≤ n) (hn' : n ≤ 1000000) : ∃ v, Ev (fun k => spec_l6Rd_pick.f k l p n) (v, p + 1) ∧ 0 ≤ v ∧ v < n := by
  have w0 : wrap64 (p + 1) = p + 1 := w64 (by omega) (by omega)
  have w1 : wrap64 (p + 1 - 1) = p := by rw [w64 (by omega) (by omega)]; omega
  have hl := h.1
  unfold spec_l6Rd_pick.f
  simp only [show ¬ n < 1 by omega, if_false, w0]
  by_cases hz : l.length = 0
  · refine ⟨0, Ev.s ?_, by omega, by omega⟩
    have : (((l.length : Int)) == 0) = true := by simp [hz]
    simp only [this, spec_l6Rd_pick.j0, if_true]
    exact Ev.const rfl
  · have hb : (((l.length : Int)) == 0) = false := by rw [beq_eq_false_iff_ne]; omega
    have hn0 : ¬ n = 0 := by omega
    by_cases hlt : p < (l.length : Int)
    · have hr := rd_byte l h p
      have wr : wrap64 (rd l p) = rd l p := w64 (by omega) (by omega)
      refine ⟨Int.tmod (rd l p) n, Ev.s ?_, Int.tmod_nonneg _ (by omega), Int.tmod_lt_of_pos _ (by omega)⟩
      simp only [hb, spec_l6Rd_pick.j0, w1, hlt, hp, hn0, wr, Bool.false_eq_true, if_true, if_false]
      exact Ev.const rfl
    · have hl0 : ¬ (l.length : Int) = 0 := by omega
      have wk : wrap64 (p * 7) = p * 7 := w64 (by omega) (by omega)
      have wk3 : wrap64 (p * 7 + 3) = p * 7 + 3 := w64 (by omega) (by omega)
      have t1 := Int.tmod_nonneg (a := p) (l.length : Int) hp
      have t2 := Int.tmod_lt_of_pos p (b := (l.length : Int)) (by omega)
      have t3 := Int.tmod_nonneg (a := p * 7 + 3) (l.length : Int) (by omega)
      have t4 := Int.tmod_lt_of_pos (p * 7 + 3) (b := (l.length : Int)) (by omega)
      have r1 := rd_byte l h (Int.tmod p (l.length : Int))
      have r2 := rd_byte l h (Int.tmod (p * 7 + 3) (l.length : Int))
      have d1 : 0 ≤ Int.tdiv p (l.length : Int) := Int.tdiv_nonneg hp (by omega)
      have d2 : Int.tdiv p (l.length : Int) ≤ p := Int.tdiv_le_self _ hp
      obtain ⟨X, hX, hX0, hX1⟩ : ∃ X, (wrap64 ((wrap64 ((wrap64 ((wrap64 ((wrap64 (rd l (Int.tmod p (l.length : Int)))) * 131)) + (wrap64 ((wrap64 (rd l (Int.tmod (p * 7 + 3) (l.length : Int)))) * 1117)))) + (wrap64 (p * 29)))) + (wrap64 ((wrap64 (Int.tdiv p (l.length : Int))) * 53)))) = X ∧ 0 ≤ X ∧ X < 4611686018427387904 := by
        refine ⟨_, rfl, ?_, ?_⟩
        all_goals
          generalize rd l (Int.tmod p (l.length : Int)) = a at *
          generalize rd l (Int.tmod (p * 7 + 3) (l.length : Int)) = b at *
          generalize Int.tdiv p (l.length : Int) = c at *
          rw [w64 (x := a) (by omega) (by omega), w64 (x := b) (by omega) (by omega), w64 (x := a * 131) (by omega) (by omega), w64 (x := b * 1117) (by omega) (by omega), w64 (x := a * 131 + b * 1117) (by omega) (by omega), w64 (x := p * 29) (by omega) (by omega), w64 (x := a * 131 + b * 1117 + p * 29) (by omega) (by omega), w64 (x := c) (by omega) (by omega), w64 (x := c * 53) (by omega) (by omega), w64 (x := a * 131 + b * 1117 + p * 29 + c * 53) (by omega) (by omega)]
          omega
      have hd : 0 ≤ wrap64 (Int.tdiv X 64) ∧ wrap64 (Int.tdiv X 64) < 9223372036854775808 := by
        have := Int.tdiv_nonneg hX0 (show (0 : Int) ≤ 64 by decide)
        have := Int.tdiv_le_self 64 hX0
        rw [w64 (by omega) (by omega)]
        omega
      have hx := xor_nonneg X (wrap64 (Int.tdiv X 64)) hX0 hd.1 (by omega) hd.2
      refine ⟨Int.tmod (Go.bits .xor .i64 X (wrap64 (Int.tdiv X 64))) n, Ev.s ?_, Int.tmod_nonneg _ hx, Int.tmod_lt_of_pos _ (by omega)⟩
      simp only [hb, spec_l6Rd_pick.j0, w1, hlt, hl0, wk, wk3, t1, t2, t3, t4, hn0, hX, Bool.false_eq_true, if_true, if_false]
      exact Ev.const rfl
theorem open_ev (l : List Int) (hb : ∀ x ∈ l, (Lit.int .u8 x).wf = true) : ∃ l', spec_l6Open.f l = some (l', 0) ∧ bytesOk l' := by
  have hb' : ∀ x ∈ l, 0 ≤ x ∧ x ≤ 255 := by
    intro x hx
    have := hb x hx
    simp only [Lit.wf, IntKind.min, IntKind.max, IntKind.signed, IntKind.bits, Bool.and_eq_true, decide_eq_true_eq, Bool.false_eq_true, if_false] at this
    omega
  unfold spec_l6Open.f
  by_cases h : (l.length : Int) > 2000
  · refine ⟨l.take 2000, ?_, ?_, fun x hx => hb' x (List.mem_of_mem_take hx)⟩
    · rw [if_pos h, if_pos (by omega)]
    · rw [List.length_take]; omega
  · exact ⟨l, by rw [if_neg h], by omega, hb'⟩
def allB (n : Nat) : Bool := match spec_l5All.f 60 n n with
  | some L => decide (1 ≤ L.length) && decide (L.length ≤ 1000) && L.all fun p => decide (1 ≤ p.length) && decide (p.length ≤ 7)
  | none => false
set_option maxRecDepth 100000 in
theorem allB_all (n : Nat) (h1 : 1 ≤ n) (h7 : n ≤ 7) : allB n = true := by
  have h : ∀ m : Fin 8, 1 ≤ m.val → allB m.val = true := by decide +kernel
  exact h ⟨n, by omega⟩ h1
theorem all_ev (n : Nat) (h1 : 1 ≤ n) (h7 : n ≤ 7) : ∃ L, Ev (fun k => spec_l5All.f k n n) L ∧ 1 ≤ L.length ∧ L.length ≤ 1000 ∧ ∀ p ∈ L, 1 ≤ p.length ∧ p.length ≤ 7 := by
  have h := allB_all n h1 h7
  unfold allB at h
  split at h
  · rename_i L e
    simp only [Bool.and_eq_true, decide_eq_true_eq, List.all_eq_true] at h
    exact ⟨L, Ev.of (fun k => spec_l5All.mono n n k) e, h.1.1, h.1.2, fun p hp => h.2 p hp⟩
  · cases h
theorem parts_ev (l : List Int) (h : bytesOk l) (p : Int) (hp : 0 ≤ p) (hp' : p ≤ 100000) (n : Nat) (h1 : 1 ≤ n) (h7 : n ≤ 7) : ∃ q p', Ev (fun k => spec_l91Parts.f k l p n) (q, p') ∧ q.length ≤ 8 ∧ p ≤ p' ∧ p' ≤ p + 3 := by
  obtain ⟨L, eL, L1, L2, L3⟩ := all_ev n h1 h7
  obtain ⟨v, ev, v0, v1⟩ := pick_ev l h p hp (by omega) (L.length : Int) (by omega) (by omega)
  obtain ⟨w, ew, w0, w1⟩ := pick_ev l h (p + 1) (by omega) (by omega) 40 (by omega) (by omega)
  obtain ⟨i, rfl⟩ := Int.eq_ofNat_of_zero_le v0
  have hi : i < L.length := by omega
  have hq := L3 _ (List.getElem_mem hi)
  have hr := rdL_nth L i hi
  have hcp : spec_l2Copy.f (rd_L1 L (i : Int)) = some (rd_L1 L (i : Int)) := by
    unfold spec_l2Copy.f
    rw [hr]
    simp only [Option.bind_some, List.length_nil, Nat.zero_add, show L[i].length < 17592186044416 by omega, if_true, List.nil_append]
  rw [← hr] at hq
  unfold spec_l91Parts.f
  by_cases c0 : w = 0
  · obtain ⟨x, ex, x0, x1⟩ := pick_ev l h (p + 1 + 1) (by omega) (by omega) 3 (by omega) (by omega)
    refine ⟨(rd_L1 L (i : Int)).set (0 : Int).toNat (rd ([0, (-1), 7] : List Int) x), p + 1 + 1 + 1, Ev.bind eL (Ev.bind ev ?_), ?_, by omega, by omega⟩
    · simp only [show (0 : Int) ≤ (i : Int) by omega, show (i : Int) < (L.length : Int) by omega, if_true, hcp, Option.bind_some]
      refine Ev.bind ew ?_
      simp only [c0, if_true]
      refine Ev.bind ex ?_
      simp only [x0, if_true, List.length_cons, List.length_nil, show x < ((0 + 1 + 1 + 1 : Nat) : Int) by omega, show (0 : Int) < ((rd_L1 L (i : Int)).length : Int) by omega]
      exact Ev.const rfl
    · rw [List.length_set]; omega
  · by_cases c1 : w = 1
    · refine ⟨(rd_L1 L (i : Int)) ++ [wrap64 ((rd (rd_L1 L (i : Int)) 0) + 1)], p + 1 + 1, Ev.bind eL (Ev.bind ev ?_), ?_, by omega, by omega⟩
      · simp only [show (0 : Int) ≤ (i : Int) by omega, show (i : Int) < (L.length : Int) by omega, if_true, hcp, Option.bind_some]
        refine Ev.bind ew ?_
        simp only [c0, c1, if_true, if_false, show ¬ (1 : Int) = 0 by omega, show (0 : Int) < ((rd_L1 L (i : Int)).length : Int) by omega, show (rd_L1 L (i : Int)).length < 17592186044416 by omega]
        exact Ev.const rfl
      · rw [List.length_append, List.length_cons, List.length_nil]; omega
    · by_cases c2 : w = 2
      · refine ⟨[], p + 1 + 1, Ev.bind eL (Ev.bind ev ?_), by simp, by omega, by omega⟩
        simp only [show (0 : Int) ≤ (i : Int) by omega, show (i : Int) < (L.length : Int) by omega, if_true, hcp, Option.bind_some]
        refine Ev.bind ew ?_
        simp only [c2, if_true, if_false, show ¬ (2 : Int) = 0 by omega, show ¬ (2 : Int) = 1 by omega]
        exact Ev.const rfl
      · refine ⟨rd_L1 L (i : Int), p + 1 + 1, Ev.bind eL (Ev.bind ev ?_), by omega, by omega, by omega⟩
        simp only [show (0 : Int) ≤ (i : Int) by omega, show (i : Int) < (L.length : Int) by omega, if_true, hcp, Option.bind_some]
        refine Ev.bind ew ?_
        simp only [c0, c1, c2, if_false]
        exact Ev.const rfl
def shortL (T : List (List Int)) : Prop := T.length ≤ 8 ∧ ∀ q ∈ T, q.length ≤ 8
theorem types_run (l : List Int) (h : bytesOk l) (n m : Nat) (h1 : 1 ≤ n) (h7 : n ≤ 7) (hm : m ≤ 7) : ∀ (d i : Nat) (T : List (List Int)) (p : Int), m - i = d → i ≤ m → T.length = i → (∀ q ∈ T, q.length ≤ 8) → 0 ≤ p → p ≤ 1000 + 3 * i → ∃ T' p', Ev (fun k => spec_l91Types.l0 k n T m i l p) (T', p') ∧ shortL T'
  | 0, i, T, p, hd, hi, hT, hq, p0, p1 => by
    have e : i = m := by omega
    subst e
    obtain ⟨v, ev, v0, v1⟩ := pick_ev l h p p0 (by omega) 30 (by omega) (by omega)
    by_cases c0 : v = 0
    · refine ⟨[], p + 1, Ev.s ?_, by simp [shortL]⟩
      simp only [spec_l91Types.l0, show ¬ (i : Int) < (i : Int) by omega, if_false]
      refine Ev.bind ev ?_
      simp only [c0, if_true]
      exact Ev.const rfl
    · by_cases c1 : v = 1
      · obtain ⟨w, ew, w0, w1⟩ := pick_ev l h (p + 1) (by omega) (by omega) 4 (by omega) (by omega)
        obtain ⟨j, rfl⟩ := Int.eq_ofNat_of_zero_le w0
        obtain ⟨q, p', eq, q1, q2, q3⟩ := parts_ev l h (p + 1 + 1) (by omega) (by omega) (j + 1) (by omega) (by omega)
        refine ⟨T ++ [q], p', Ev.s ?_, by rw [List.length_append, List.length_cons, List.length_nil]; omega, fun y hy => ?_⟩
        · simp only [spec_l91Types.l0, show ¬ (i : Int) < (i : Int) by omega, if_false]
          refine Ev.bind ev ?_
          simp only [c1, if_true, if_false, show ¬ (1 : Int) = 0 by omega]
          refine Ev.bind ew ?_
          rw [show wrap64 (1 + ((j : Nat) : Int)) = ((j + 1 : Nat) : Int) by rw [w64 (by omega) (by omega)]; omega]
          refine Ev.bind eq ?_
          simp only [show T.length < 5864062014805 by omega, if_true]
          exact Ev.const rfl
        · rcases List.mem_append.1 hy with hy | hy
          · exact hq y hy
          · have : y = q := by simpa using hy
            rw [this]; exact q1
      · refine ⟨T, p + 1, Ev.s ?_, by omega, hq⟩
        simp only [spec_l91Types.l0, show ¬ (i : Int) < (i : Int) by omega, if_false]
        refine Ev.bind ev ?_
        simp only [c0, c1, if_false]
        exact Ev.const rfl
  | d + 1, i, T, p, hd, hi, hT, hq, p0, p1 => by
    obtain ⟨q, p', eq, q1, q2, q3⟩ := parts_ev l h p p0 (by omega) n h1 h7
    obtain ⟨T', p2, e, hS⟩ := types_run l h n m h1 h7 hm d (i + 1) (T ++ [q]) p' (by omega) (by omega) (by rw [List.length_append, List.length_cons, List.length_nil]; omega) (fun y hy => by
      rcases List.mem_append.1 hy with hy | hy
      · exact hq y hy
      · have : y = q := by simpa using hy
        rw [this]; exact q1) (by omega) (by omega)
    refine ⟨T', p2, Ev.s ?_, hS⟩
    simp only [spec_l91Types.l0, show (i : Int) < (m : Int) by omega, if_true]
    refine Ev.bind eq ?_
    simp only [show T.length < 5864062014805 by omega, if_true, w64n (show i < 4611686018427387904 by omega)]
    exact e
theorem types_ev (l : List Int) (h : bytesOk l) (a b : Int) (a1 : 1 ≤ a) (a7 : a ≤ 7) (b1 : 1 ≤ b) (b7 : b ≤ 7) : ∃ T p', Ev (fun k => spec_l91Types.f k l 0 a b) (T, p') ∧ shortL T := by
  obtain ⟨v, ev, v0, v1⟩ := pick_ev l h 0 (by omega) (by omega) a a1 (by omega)
  obtain ⟨w, ew, w0, w1⟩ := pick_ev l h (0 + 1) (by omega) (by omega) b b1 (by omega)
  obtain ⟨i, rfl⟩ := Int.eq_ofNat_of_zero_le v0
  obtain ⟨j, rfl⟩ := Int.eq_ofNat_of_zero_le w0
  obtain ⟨T, p', e, hS⟩ := types_run l h (i + 1) (j + 1) (by omega) (by omega) (by omega) (j + 1) 0 [] (0 + 1 + 1) (by omega) (by omega) rfl (by simp) (by omega) (by omega)
  refine ⟨T, p', ?_, hS⟩
  unfold spec_l91Types.f
  refine Ev.bind ev (Ev.bind ew ?_)
  simp only [show wrap64 (1 + ((i : Nat) : Int)) = ((i + 1 : Nat) : Int) by rw [w64 (by omega) (by omega)]; omega, show wrap64 (1 + ((j : Nat) : Int)) = ((j + 1 : Nat) : Int) by rw [w64 (by omega) (by omega)]; omega]
  exact e
end Go.Proofs.Ytggghijamfmenaa.PM

set_option linter.unusedVariables false
set_option linter.unusedSimpArgs false
namespace Go.Proofs.Ytggghijamfmenaa.Pure
open Go.RowKit Go.Proofs.Ytggghijamfmenaa.PM Go.Proofs.YtggghijamfmenaaW.PrintWords Go.Proofs.YtggghijamfmenaaW.PrintLast
theorem lawSum_run (p : List Int) (hl : p.length ≤ 6) (h6 : ∀ x ∈ p, 0 ≤ x ∧ x ≤ 6) : ∀ (d i : Nat) (s : Int), p.length - i = d → i ≤ p.length → 0 ≤ s → s ≤ 6 * i → Ev (fun k => laws_sumOf.l0 k p s i) (s + totP (p.drop i))
  | 0, i, s, hd, hi, h0, h1 => by
    refine Ev.s ?_
    have e : i = p.length := by omega
    rw [e, List.drop_length]
    simp only [laws_sumOf.l0, show ¬ (p.length : Int) < (p.length : Int) by omega, if_false, totP, Int.add_zero]
    exact Ev.const rfl
  | d + 1, i, s, hd, hi, h0, h1 => by
    have hlt : i < p.length := by omega
    have hx := h6 _ (List.getElem_mem hlt)
    rw [← rd_lt p i hlt] at hx
    rw [drop_rd p i hlt]
    refine Ev.s ?_
    simp only [laws_sumOf.l0, show (i : Int) < (p.length : Int) by omega, show (0 : Int) ≤ i by omega, if_true, totP]
    rw [w64n (by omega), w64 (x := s + rd p (i : Int)) (by omega) (by omega), ← Int.add_assoc]
    exact lawSum_run p hl h6 d (i + 1) _ (by omega) (by omega) (by omega) (by omega)
theorem lawSum_ev (p : List Int) (h : vP p = true) : Ev (fun k => laws_sumOf.f k p) (totP p) := by
  have h2 := vP_len p h
  unfold laws_sumOf.f
  have h := lawSum_run p h2.1 (fun x hx => by have := h2.2.2.2 x hx; omega) p.length 0 0 (by omega) (by omega) (by omega) (by omega)
  simpa using h
def lackS (n : Nat) (L : List (List Int)) : Int := (L.map fun t => (n : Int) - (t.length : Int)).foldr (· + ·) 0
theorem genus_run (n : Nat) (hn : n ≤ 6) (l : List (List Int)) (hl : l.length ≤ 6) (h6 : ∀ t ∈ l, t.length ≤ 6) : ∀ (d i : Nat) (x : Int), l.length - i = d → i ≤ l.length → -100 ≤ x + 10 * i → x ≤ 100 + 10 * i → ∃ g, Ev (fun k => impl_FactorGenus.l0 k n x l l.length i) g ∧ (0 ≤ x + lackS n (l.drop i) ∧ (x + lackS n (l.drop i)) % 2 = 0 → 0 ≤ g)
  | 0, i, x, hd, hi, h0, h1 => by
    have e : i = l.length := by omega
    subst e
    rw [List.drop_length]
    have e0 : lackS n [] = 0 := rfl
    rw [e0, Int.add_zero]
    by_cases c : x < 0
    · refine ⟨-1, Ev.s ?_, fun h => by omega⟩
      simp only [impl_FactorGenus.l0, show ¬ (l.length : Int) < (l.length : Int) by omega, if_false, c, if_true]
      exact Ev.const rfl
    · have hm : Int.tmod x 2 = x % 2 := Int.tmod_eq_emod_of_nonneg (by omega)
      have hdv : Int.tdiv x 2 = x / 2 := Int.tdiv_eq_ediv_of_nonneg (by omega)
      by_cases z : x % 2 = 0
      · refine ⟨x / 2, Ev.s ?_, fun _ => by omega⟩
        simp only [impl_FactorGenus.l0, show ¬ (l.length : Int) < (l.length : Int) by omega, if_false, c, hm, hdv, z, if_true]
        exact Ev.const (congrArg some (w64 (by omega) (by omega)))
      · refine ⟨-1, Ev.s ?_, fun h => absurd h.2 z⟩
        simp only [impl_FactorGenus.l0, show ¬ (l.length : Int) < (l.length : Int) by omega, if_false, c, hm, z]
        exact Ev.const rfl
  | d + 1, i, x, hd, hi, h0, h1 => by
    have hlt : i < l.length := by omega
    have ht := h6 _ (List.getElem_mem hlt)
    rw [← rdL_nth l i hlt] at ht
    obtain ⟨g, eg, hg⟩ := genus_run n hn l hl h6 d (i + 1) (x + ((n : Int) - ((rd_L1 l (i : Int)).length : Int))) (by omega) (by omega) (by omega) (by omega)
    refine ⟨g, Ev.s ?_, fun h => hg ?_⟩
    · simp only [impl_FactorGenus.l0, show (i : Int) < (l.length : Int) by omega, show (0 : Int) ≤ (i : Int) by omega, if_true, w64n (show i < 4611686018427387904 by omega)]
      rw [w64 (x := (n : Int) - ((rd_L1 l (i : Int)).length : Int)) (by omega) (by omega), w64 (x := x + ((n : Int) - ((rd_L1 l (i : Int)).length : Int))) (by omega) (by omega)]
      exact eg
    · have e : lackS n (l.drop i) = ((n : Int) - ((rd_L1 l (i : Int)).length : Int)) + lackS n (l.drop (i + 1)) := by
        rw [List.drop_eq_getElem_cons hlt, rdL_nth l i hlt]
        rfl
      rw [e, ← Int.add_assoc] at h
      exact h
theorem genus_ev (l : List (List Int)) (hl : l.length ≤ 1048576) (h2 : ∀ j : Nat, j < l.length → (rd_L1 l (j : Int)).length ≤ 1048576) (g : goodT l) (n : Nat) (hn : totP (rd_L1 l 0) = n) (n1 : 1 ≤ n) (n4 : n ≤ 6) : ∃ v, Ev (fun k => impl_FactorGenus.f k l) v ∧ (0 ≤ twF n l ∧ twF n l % 2 = 0 → 0 ≤ v) := by
  obtain ⟨r, er, hr⟩ := implTypes_ev l hl h2
  have hre : r = totP (rd_L1 l 0) := hr.elim (fun h => h.2) (fun h => absurd g h.1)
  obtain ⟨v, ev, hv⟩ := genus_run n n4 l g.2.1 (fun t ht => (vP_len t (goodT_mem g hn t ht).1).1) l.length 0 (2 - 2 * n) (by omega) (by omega) (by omega) (by omega)
  refine ⟨v, ?_, hv⟩
  unfold impl_FactorGenus.f
  refine Ev.bind er ?_
  rw [hre, hn]
  simp only [show ¬ (n : Int) < 0 by omega, if_false]
  rw [w64 (x := 2 * (n : Int)) (by omega) (by omega), w64 (x := 2 - 2 * (n : Int)) (by omega) (by omega)]
  exact ev
theorem whole_end (ts : List (List Int)) (x n E g : Int) (b : Bool) (FE : Ev (fun k => impl_FactorEach.f k ts) E) (FG : Ev (fun k => impl_FactorGenus.f k ts) g) (h1 : b = true → x = E) (h2 : ¬ n > 1 → x = E) (h3 : x = 0 ∨ 0 ≤ g) : Ev (fun k => laws_FnWhole.l0 k ts x n b ts.length) true := by
  have tail : Ev (fun k => if n > 1 then some true else ((impl_FactorEach.f k ts).bind fun t => (some (x == t)))) true := by
    by_cases c : n > 1
    · simp only [c, if_true]
      exact Ev.const rfl
    · simp only [c, if_false]
      refine Ev.bind FE (Ev.const (congrArg some ?_))
      rw [h2 c]
      exact beq_self_eq_true E
  have mid : Ev (fun k => if b = true then ((impl_FactorEach.f k ts).bind fun t553 => (if x = t553 then (if n > 1 then (some true) else ((impl_FactorEach.f k ts).bind fun t554 => (some (x == t554)))) else (some false))) else (if n > 1 then (some true) else ((impl_FactorEach.f k ts).bind fun t555 => (some (x == t555))))) true := by
    cases b with
    | true =>
      simp only [if_true]
      refine Ev.bind FE ?_
      simp only [h1 rfl, if_true]
      rw [← h1 rfl]
      exact tail
    | false =>
      simp only [Bool.false_eq_true, if_false]
      exact tail
  refine Ev.s ?_
  simp only [laws_FnWhole.l0, show ¬ (ts.length : Int) < (ts.length : Int) by omega, if_false]
  by_cases z : x = 0
  · simp only [if_pos z]
    exact mid
  · simp only [if_neg z]
    refine Ev.bind FG ?_
    simp only [show g ≥ 0 from h3.resolve_left z, if_true]
    exact mid
theorem whole_loop (ts : List (List Int)) (hts : ts.length ≤ 1048576) (x n E g : Int) (FE : Ev (fun k => impl_FactorEach.f k ts) E) (FG : Ev (fun k => impl_FactorGenus.f k ts) g) (h0 : ∀ j : Nat, j < ts.length → (rd_L1 ts (j : Int)).length = 1 → x = E) (h2 : ¬ n > 1 → x = E) (h3 : x = 0 ∨ 0 ≤ g) : ∀ (d i : Nat) (b : Bool), ts.length - i = d → i ≤ ts.length → (b = true → x = E) → Ev (fun k => laws_FnWhole.l0 k ts x n b i) true
  | 0, i, b, hd, hi, h1 => by
    have e : i = ts.length := by omega
    subst e
    exact whole_end ts x n E g b FE FG h1 h2 h3
  | d + 1, i, b, hd, hi, h1 => by
    have hlt : i < ts.length := by omega
    refine Ev.s ?_
    cases b with
    | true =>
      simp only [laws_FnWhole.l0, show (i : Int) < (ts.length : Int) by omega, if_true, w64n (show i < 4611686018427387904 by omega)]
      exact whole_loop ts hts x n E g FE FG h0 h2 h3 d (i + 1) true (by omega) (by omega) h1
    | false =>
      simp only [laws_FnWhole.l0, show (i : Int) < (ts.length : Int) by omega, show (0 : Int) ≤ (i : Int) by omega, if_true, Bool.false_eq_true, if_false, w64n (show i < 4611686018427387904 by omega)]
      exact whole_loop ts hts x n E g FE FG h0 h2 h3 d (i + 1) _ (by omega) (by omega) (fun h => h0 i hlt (by have := beq_iff_eq.1 h; omega))
theorem FnWhole : laws_FnWhole.Pure := by
  intro l h0 h1 hb
  refine Ev.rounds (?_ : Ev (fun k => laws_FnWhole.f k l) true)
  unfold laws_FnWhole.f
  by_cases c : (l.length : Int) > 1048576
  · simp only [c, if_true]
    exact Ev.const rfl
  · obtain ⟨l', eo, ok⟩ := open_ev l hb
    obtain ⟨T, p', eT, hS⟩ := types_ev l' ok 4 3 (by omega) (by omega) (by omega) (by omega)
    have eD : Ev (fun k => spec_DrawFactorWhole.f k l) T := by
      unfold spec_DrawFactorWhole.f
      rw [eo]
      simp only [Option.bind_some]
      exact Ev.bind eT (Ev.const rfl)
    have hl : T.length ≤ 1048576 := by have := hS.1; omega
    have h2 : ∀ j : Nat, j < T.length → (rd_L1 T (j : Int)).length ≤ 1048576 := fun j hj => by
      rw [rdL_nth T j hj]
      have := hS.2 _ (List.getElem_mem hj)
      omega
    obtain ⟨r, ei, es⟩ := factorWhole_both T hl h2
    simp only [c, if_false]
    refine Ev.bind eD (Ev.bind ei (Ev.bind es ?_))
    simp only [if_true]
    by_cases neg : r < 0
    · refine Ev.s ?_
      simp only [laws_FnWhole.j0, neg, decide_true, if_true]
      exact Ev.const (congrArg some (beq_self_eq_true r))
    · have hsm : smallT T := by
        by_cases s : smallT T
        · exact s
        · exfalso
          obtain ⟨b, eb, hb2⟩ := specSmall_ev T hl h2
          have hbf : b = false := by
            cases b with
            | false => rfl
            | true => exact absurd (hb2.1 rfl) s
          subst hbf
          have e1 : Ev (fun k => spec_FactorWhole.f k T) (-1) := by
            unfold spec_FactorWhole.f
            refine Ev.bind eb ?_
            simp only [Bool.false_eq_true, if_false]
            exact Ev.const rfl
          have := Ev.uniq es e1
          omega
      have g := hsm.1
      have hg1 := g.1
      have hv : vP (rd_L1 T 0) = true := (g.2.2 0 (by omega)).1
      have hv2 := vP_len _ hv
      have hv3 : 1 ≤ totP (rd_L1 T 0) := hv2.2.1
      have hv4 := hsm.2.2
      obtain ⟨n, hn⟩ : ∃ n : Nat, totP (rd_L1 T 0) = n := ⟨(totP (rd_L1 T 0)).toNat, by omega⟩
      have n1 : 1 ≤ n := by omega
      have n4 : n ≤ 4 := by omega
      have hT := goodT_mem g hn
      have e2 : Ev (fun k => spec_FactorWhole.f k T) (wrap64 (cntT n (leafW n) T)) := by
        obtain ⟨b, eb, hb2⟩ := specSmall_ev T hl h2
        have hbt := hb2.2 hsm
        subst hbt
        unfold spec_FactorWhole.f
        refine Ev.bind eb ?_
        have hsum := specSum_ev _ hv
        rw [hn] at hsum
        simp only [if_true, show (0 : Int) < (T.length : Int) by omega]
        exact Ev.bind hsum (Ev.bind (same_ev n (by omega)) (Ev.bind (whole_leaf n n1 n4 T (by have := hsm.2.1; omega) hT) (Ev.const rfl)))
      have hr := Ev.uniq es e2
      have hle := cntT_le n n1 n4 (leafW n) (leafW_le n) T hsm.2.1
      rw [w64 (x := ((cntT n (leafW n) T : Nat) : Int)) (by omega) (by omega)] at hr
      have hle1 := cntT_le n n1 n4 (fun _ => 1) (fun _ => Nat.le_refl _) T hsm.2.1
      have FE := implEach_ev T hl h2 hsm n hn n1 n4
      rw [w64 (x := ((cntT n (fun _ => 1) T : Nat) : Int)) (by omega) (by omega)] at FE
      obtain ⟨v, FG, hv5⟩ := genus_ev T hl h2 g n hn n1 (by omega)
      have hsum := lawSum_ev _ hv
      rw [hn] at hsum
      refine Ev.s ?_
      simp only [laws_FnWhole.j0, neg, decide_false, Bool.false_eq_true, if_false, show (0 : Int) < (T.length : Int) by omega, if_true]
      refine Ev.bind hsum ?_
      refine whole_loop T hl r n _ v FE FG (fun j hj e => ?_) (fun e => ?_) ?_ T.length 0 false (by omega) (by omega) (fun h => by cases h)
      · have := whole_all n n1 n4 T (Or.inr ⟨T[j], List.getElem_mem hj, by rw [← rdL_nth T j hj]; exact e⟩)
        rw [hr, this]
      · have := whole_all n n1 n4 T (Or.inl (by omega))
        rw [hr, this]
      · by_cases z : cntT n (leafW n) T = 0
        · exact Or.inl (by rw [hr, z]; rfl)
        · exact Or.inr (hv5 (whole_genus n n1 n4 T hg1 hsm.2.1 z))
end Go.Proofs.Ytggghijamfmenaa.Pure

namespace Go.Proofs.Ytggghijamfmenaa.fnWhole
open Go.ChangeShapes Go.WideShapes Go.ChangeAt Go.RowKit
open Go.ChangeMaps (open_string shut_string)
set_option linter.unusedVariables false
theorem own : ownKnob Try.prog.godebug = none := by kernel_rfl
theorem laidOut : laidOutB Try.prog = true := by kernel_rfl
def IsRow (k : IntKind) (w : World) (a : Option Addr) (len cap : Nat) (zs : List Int) : Prop :=
 (a = none ∧ len = 0 ∧ cap = 0 ∧ zs = []) ∨
 ∃ x, a = some x ∧ len ≤ cap ∧ cap ≤ maxLen ∧ zs.length = cap ∧ (∀ i, i < zs.length → w.cell? (x.add i) = some (.int k (zs.getD i 0))) ∧ ∀ n ∈ zs, (Lit.int k n).wf = true
set_option maxRecDepth 100000 in
theorem lifted (os : Os) (started : os.Started) (H : Type) (enc : TypeId × Value → H) :
  ReturnsInHanded {} Try.checked os 10 .any (Rows.fnWholeSpec.pre6 enc Try.prog Try.f10 Rows.fnWholeRow.domain false) (Rows.fnWholeSpec.post enc Try.prog Try.f10 false true false false) := by
 refine returnsInHanded_of_change_sized (C := Try.checked) own started (by kernel_rfl) Try.func10
  (ChangeSpec.witness6 (enc := enc) (C := Try.checked) false ⟨#[], #[.slice none 0 0], []⟩ 8 (by kernel_rfl) (by kernel_rfl) (by kernel_rfl) (by kernel_rfl)) ?_
 intro W base args ds gs before hval0 hW hcnd hsz0 _
 have hsz : (DataW.weightsEach Try.prog (Try.f10.params.toList ++ Rows.fnWholeSpec.plain.varTypes Try.prog) (ds ++ gs)).all (· ≤ reachBytes) = true := hsz0
 have hval : ∀ (j : Nat) t v, Try.f10.params[j]? = some t → args[j]? = some v → Value.okWide Try.prog W .any base t v := hval0
 have hW' := hW
 obtain ⟨p, q, hA0, hV, rfl, hfz, hnd⟩ := hW
 have hA : DataW.TrodAll enc Try.prog W 0 (fun _ => true) true Try.f10.params.toList args.toList ds p := hA0
 rw [Try.params10] at hA hval hsz
 obtain ⟨v0, vs0, d0, ds0, p0, q0, hargs, rfl, rfl, h0, r0⟩ := trodAll_cons hA
 obtain ⟨rfl, rfl, rfl⟩ := trodAll_nil r0
 obtain rfl : args = #[v0] := by cases args; simp_all
 obtain ⟨rfl, rfl⟩ := trodVars_none hV
 obtain ⟨a0, len0, cap0, rfl⟩ := okWide_slice Try.underlying22 (hval 0 22 v0 rfl rfl)
 have k0 := h0
 have lt0 : ∀ x ∈ p0, x.block < W.heap.size := by obtain ⟨m, hm⟩ := k0; exact DataW.trod_lt m _ _ _ hm
 obtain ⟨z0, w0⟩ : ∃ zs, IsRow .u8 W a0 len0 cap0 zs := by
  obtain ⟨fuel, hf⟩ := h0
  rcases open_ints Try.underlying22 Try.underlying5 (by kernel_rfl) hf with ⟨hcs, _⟩ | ⟨x, l, c, zs, hcs, _, hl, hm, hz, _, hcell, hwz⟩
  ·
   simp [Value.cells] at hcs
   obtain ⟨rfl, rfl, rfl⟩ := hcs
   exact ⟨[], .inl ⟨rfl, rfl, rfl, rfl⟩⟩
  ·
   simp [Value.cells] at hcs
   obtain ⟨rfl, rfl, rfl⟩ := hcs
   exact ⟨zs, .inr ⟨_, rfl, hl, hm, by simpa using hz, hcell, hwz⟩⟩
 have y0 : len0 * 1 ≤ 140737488351232 := Go.Proofs.YtggghijamfmenaaW.PrintWords.sized_ints hsz (j := 0) (t := 22) rfl rfl Try.underlying22 Try.underlying5 (by kernel_rfl) (by kernel_rfl) h0
 clear hA0 hval0 hsz0 hsz
 refine (PM.laws_FnWhole.walk Pure.FnWhole a0 len0 cap0 z0 W w0 y0).mono fun e W' ⟨he, bel⟩ => ?_
 subst he
 exact ⟨_, rfl, _, _, _, [], _, [], hW', trodAll_mk1 (shut_bool Try.underlying4 _), (trodAll_cons_mk (Below.trod laidOut (by kernel_rfl) (of_decide_eq_true (by kernel_rfl)) k0 bel lt0) trodAll_mk0), rfl, bel.frame _, fun h => by cases h⟩
theorem over : Rows.fnWholeRow.holds Try.pinned (OpenSpec.ofChange Rows.fnWholeSpec) :=
 OpenClaim.holds_of_wide 10 Try.f10 rfl rfl rfl rfl rfl rfl rfl ⟨rfl, rfl, rfl, rfl, rfl⟩ rfl rfl rfl rfl rfl (by kernel_rfl) Try.func10 (by kernel_rfl)
  (of_decide_eq_true (by kernel_rfl)) (by unfold Func.isWrapper; first | (rw [if_pos (by decide +kernel)]; kernel_rfl) | (rw [if_neg (by decide +kernel)]; exact ⟨rfl, rfl⟩))
  (fun os started H enc _ => lifted os started H enc)
theorem proved : Rows.FnWholeSaid := over
#print axioms proved
end Go.Proofs.Ytggghijamfmenaa.fnWhole
namespace Go.Proofs.Ytggghijamfmenaa
theorem fnWhole_holds : Rows.FnWholeSaid := fnWhole.proved
end Go.Proofs.Ytggghijamfmenaa
