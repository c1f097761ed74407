/- For every map and root, TutteMap of the program answers what TutteMap of the reference answers, leaves the map as it was, and hands back memory of its own. There are no conditions. -/
import Derived.Test.YtlpbalebodlipaaKFnExactTutteMapOwnx4
set_option linter.unusedVariables false
set_option linter.unusedSimpArgs false
namespace Go.Proofs.Ytlpbalebodlipaa.PH
open Go.RowKit Go.Proofs.YtlpbalebodlipaaW.PrintWords Go.Proofs.YtlpbalebodlipaaW.PrintLast Go.Proofs.YtlpbalebodlipaaW.PrintMore
def MapK (t f : List Int) (n : Nat) : Prop := n ≤ 12 ∧ 1 ≤ n ∧ inR n t ∧ injR n t ∧ inR n f ∧ (∀ i : Nat, i < n → flipAt f i) ∧ ∀ i j : Nat, i < n → j < n → Reach [t, f] n i j
def FarOk (t f : List Int) (n a : Nat) (g : List Int)  : Prop := (g.length = n) ∧ (∀ x : Nat, x < n → 0 ≤ rd g x ∧ rd g x < n) ∧ (rd g a = 0) ∧ (∀ x : Nat, x < n → rd g (rd t x) = rd g x) ∧ (∀ x : Nat, x < n → rd g x ≤ rd g (rd f x) + 1) ∧ (∀ x : Nat, x < n → rd g x = 0 → Reach [t] n x a) ∧ (∀ x : Nat, x < n → 0 < rd g x → ∃ y : Nat, y < n ∧ Reach [t] n y x ∧ rd g (rd f y) + 1 = rd g x)
theorem FarOk.len {t f : List Int} {n a : Nat} {g : List Int}  (h : FarOk t f n a g) : g.length = n := h.1
theorem FarOk.rng {t f : List Int} {n a : Nat} {g : List Int}  (h : FarOk t f n a g) : ∀ x : Nat, x < n → 0 ≤ rd g x ∧ rd g x < n := h.2.1
theorem FarOk.start {t f : List Int} {n a : Nat} {g : List Int}  (h : FarOk t f n a g) : rd g a = 0 := h.2.2.1
theorem FarOk.turn {t f : List Int} {n a : Nat} {g : List Int}  (h : FarOk t f n a g) : ∀ x : Nat, x < n → rd g (rd t x) = rd g x := h.2.2.2.1
theorem FarOk.flip {t f : List Int} {n a : Nat} {g : List Int}  (h : FarOk t f n a g) : ∀ x : Nat, x < n → rd g x ≤ rd g (rd f x) + 1 := h.2.2.2.2.1
theorem FarOk.zero {t f : List Int} {n a : Nat} {g : List Int}  (h : FarOk t f n a g) : ∀ x : Nat, x < n → rd g x = 0 → Reach [t] n x a := h.2.2.2.2.2.1
theorem FarOk.back {t f : List Int} {n a : Nat} {g : List Int}  (h : FarOk t f n a g) : ∀ x : Nat, x < n → 0 < rd g x → ∃ y : Nat, y < n ∧ Reach [t] n y x ∧ rd g (rd f y) + 1 = rd g x := h.2.2.2.2.2.2
theorem reach_const {t : List Int} {n : Nat} (ht : inR n t) (hi : injR n t) (g : List Int) (h : ∀ x : Nat, x < n → rd g (rd t x) = rd g x) {x y : Nat} (hr : Reach [t] n x y) : rd g x = rd g y := by
  have hc : closedL [t] n (fun z => rd g z = rd g y) := closed_of_fwd t n ht hi _ fun k hk e => by
    have h1 := ht.2 k hk
    have h2 := h k hk
    rw [show ((rd t k).toNat : Int) = rd t k by omega]
    exact h2.trans e
  exact (hr _ hc).2 rfl
theorem rd_put (l : List Int) (i j : Nat) (v : Int) (h : i < l.length) : rd (l.set i v) j = if j = i then v else rd l j := by
  by_cases e : j = i
  · subst e; rw [if_pos rfl, rd_set_self _ _ _ h]
  · rw [if_neg e, rd_set_ne _ _ _ _ (fun z => e z.symm)]
theorem rd_rep (n : Nat) (v : Int) (z : Nat) (h : z < n) : rd (List.replicate n v) z = v := by
  unfold rd; rw [Int.toNat_natCast, List.getD_eq_getElem?_getD, List.getElem?_replicate, if_pos h]; rfl
theorem lag_rep_lt (ys : List Int) (n c : Nat) (v : Int) (hl : ys.length = n) (hc : c < n) (hne : rd ys c ≠ v) : lag (ys.set c v) (List.replicate n v) n < lag ys (List.replicate n v) n := by
  refine lag_lt ys (ys.set c v) (List.replicate n v) (fun i h => ?_) c ?_ ?_ n hc
  · rw [rd_put _ _ _ _ (by omega)]
    by_cases e : i = c
    · rw [if_pos e, e, rd_rep n v c hc]
    · rw [if_neg e]; exact h
  · rw [rd_rep n v c hc]; exact hne
  · rw [rd_rep n v c hc, rd_put _ _ _ _ (by omega), if_pos rfl]
theorem at_run (t : List Int) (n : Nat) (hn : n ≤ 12) (ht : inR n t) (hi : injR n t) (v : Int) (hv : 0 ≤ v) (d : Nat) (xs : List Int) (hneg : ∀ z : Nat, z < n → Reach [t] n d z → rd xs z < 0) :
    ∀ (m : Nat) (ys : List Int) (c : Nat) (S : Nat → Prop), lag ys (List.replicate n v) n ≤ m → ys.length = n → c < n → Reach [t] n d c →
      (∀ z : Nat, z < n → S z → rd ys z = v ∧ Reach [t] n d z ∧ (S (rd t z).toNat ∨ rd t z = c)) → (∀ z : Nat, z < n → ¬ S z → rd ys z = rd xs z) → (S d ∨ c = d) →
      ∃ r, Ev (fun k => dfar.at k t v ys c) r ∧ r.length = n ∧ ∀ z : Nat, z < n → (Reach [t] n d z → rd r z = v) ∧ (¬ Reach [t] n d z → rd r z = rd xs z) := by
  intro m
  induction m with
  | zero =>
    intro ys c S hm hl hc hr hS hN hd
    have hnn : ¬ rd ys c < 0 := by
      have h0 := lag_zero ys (List.replicate n v) n (by omega) c hc
      rw [h0, rd_rep n v c hc]; omega
    have hSc : S c := Classical.byContradiction fun z => by
      have h1 := hN c hc z
      have h2 := hneg c hc hr
      omega
    have hcl : closedL [t] n S := closed_of_fwd t n ht hi S fun k hk hk' => by
      rcases (hS k hk hk').2.2 with e | e
      · exact e
      · rw [e, Int.toNat_natCast]; exact hSc
    have hSd : S d := by rcases hd with e | e; exact e; rw [← e]; exact hSc
    refine ⟨ys, Ev.s ?_, hl, fun z hz => ⟨fun h => (hS z hz ((h S hcl).1 hSd)).1, fun h => hN z hz fun hs => h (hS z hz hs).2.1⟩⟩
    simp only [dfar.at, hl, show (0 : Int) ≤ (c : Int) by omega, show (c : Int) < (n : Int) by omega, hnn, if_true, if_false]
    exact Ev.const rfl
  | succ m ih =>
    intro ys c S hm hl hc hr hS hN hd
    by_cases hneg' : rd ys c < 0
    · have hSc : ¬ S c := fun z => by
        have := (hS c hc z).1
        omega
      have htc := ht.2 c hc
      obtain ⟨c', hc'⟩ : ∃ c' : Nat, rd t c = c' := ⟨(rd t c).toNat, by omega⟩
      have hc'n : c' < n := by omega
      have hstep := Reach.step (ps := [t]) (p := t) (by simp) hc
      rw [hc', Int.toNat_natCast] at hstep
      have hlag := lag_rep_lt ys n c v hl hc (by omega)
      obtain ⟨r, e1, e2, e3⟩ := ih (ys.set c v) c' (fun z => S z ∨ z = c) (by omega) (by simp [hl]) hc'n (hr.trans hstep)
        (fun z hz hs => by
          rw [rd_put _ _ _ _ (by omega)]
          by_cases e : z = c
          · subst e; rw [if_pos rfl]; exact ⟨rfl, hr, .inr hc'⟩
          · rw [if_neg e]
            have hs' : S z := hs.resolve_right e
            obtain ⟨s1, s2, s3⟩ := hS z hz hs'
            refine ⟨s1, s2, .inl ?_⟩
            rcases s3 with s3 | s3
            · exact .inl s3
            · rw [s3, Int.toNat_natCast]; exact .inr rfl)
        (fun z hz hs => by
          rw [rd_put _ _ _ _ (by omega), if_neg (fun e => hs (.inr e))]
          exact hN z hz fun e => hs (.inl e))
        (by rcases hd with e | e; exact .inl (.inl e); exact .inl (.inr e.symm))
      refine ⟨r, Ev.s ?_, e2, e3⟩
      simp only [dfar.at, hl, ht.1, show (0 : Int) ≤ (c : Int) by omega, show (c : Int) < (n : Int) by omega, hneg', if_true, Int.toNat_natCast, hc']
      exact e1
    · have hSc : S c := Classical.byContradiction fun z => by
        have h1 := hN c hc z
        have h2 := hneg c hc hr
        omega
      have hcl : closedL [t] n S := closed_of_fwd t n ht hi S fun k hk hk' => by
        rcases (hS k hk hk').2.2 with e | e
        · exact e
        · rw [e, Int.toNat_natCast]; exact hSc
      have hSd : S d := by rcases hd with e | e; exact e; rw [← e]; exact hSc
      refine ⟨ys, Ev.s ?_, hl, fun z hz => ⟨fun h => (hS z hz ((h S hcl).1 hSd)).1, fun h => hN z hz fun hs => h (hS z hz hs).2.1⟩⟩
      simp only [dfar.at, hl, show (0 : Int) ≤ (c : Int) by omega, show (c : Int) < (n : Int) by omega, hneg', if_true, if_false]
      exact Ev.const rfl
def LevI (t f : List Int) (n a : Nat) (xs : List Int) (L : Nat)  : Prop := (xs.length = n) ∧ (∀ x : Nat, x < n → -1 ≤ rd xs x ∧ rd xs x ≤ L) ∧ (rd xs a = 0) ∧ (∀ x : Nat, x < n → rd xs (rd t x) = rd xs x) ∧ (∀ x : Nat, x < n → rd xs x = 0 → Reach [t] n x a) ∧ (∀ x : Nat, x < n → 0 < rd xs x → ∃ y : Nat, y < n ∧ Reach [t] n y x ∧ rd xs (rd f y) + 1 = rd xs x)
theorem LevI.len {t f : List Int} {n a : Nat} {xs : List Int} {L : Nat}  (h : LevI t f n a xs L) : xs.length = n := h.1
theorem LevI.rng {t f : List Int} {n a : Nat} {xs : List Int} {L : Nat}  (h : LevI t f n a xs L) : ∀ x : Nat, x < n → -1 ≤ rd xs x ∧ rd xs x ≤ L := h.2.1
theorem LevI.start {t f : List Int} {n a : Nat} {xs : List Int} {L : Nat}  (h : LevI t f n a xs L) : rd xs a = 0 := h.2.2.1
theorem LevI.turn {t f : List Int} {n a : Nat} {xs : List Int} {L : Nat}  (h : LevI t f n a xs L) : ∀ x : Nat, x < n → rd xs (rd t x) = rd xs x := h.2.2.2.1
theorem LevI.zero {t f : List Int} {n a : Nat} {xs : List Int} {L : Nat}  (h : LevI t f n a xs L) : ∀ x : Nat, x < n → rd xs x = 0 → Reach [t] n x a := h.2.2.2.2.1
theorem LevI.back {t f : List Int} {n a : Nat} {xs : List Int} {L : Nat}  (h : LevI t f n a xs L) : ∀ x : Nat, x < n → 0 < rd xs x → ∃ y : Nat, y < n ∧ Reach [t] n y x ∧ rd xs (rd f y) + 1 = rd xs x := h.2.2.2.2.2
theorem at_lev (t f : List Int) (n : Nat) (hn : n ≤ 12) (ht : inR n t) (hi : injR n t) (hf : inR n f) (a : Nat) (xs : List Int) (L : Nat) (hL : 1 ≤ L) (h : LevI t f n a xs L) (e d : Nat) (he : e < n) (hd : d < n) (hfe : rd f e = d) (hfd : rd f d = e) (hed : rd xs d + 1 = L) :
    ∃ r, Ev (fun k => dfar.at k t (L : Int) xs (e : Int)) r ∧ LevI t f n a r L ∧ 0 ≤ rd r e ∧ (∀ z : Nat, z < n → 0 ≤ rd xs z → rd r z = rd xs z) ∧ ∀ z : Nat, z < n → rd r z = L ∨ rd r z = rd xs z := by
  by_cases hneg : rd xs e < 0
  · have hall : ∀ z : Nat, z < n → Reach [t] n e z → rd xs z < 0 := fun z hz hr => by
      have := reach_const ht hi xs h.turn hr
      omega
    obtain ⟨r, e1, e2, e3⟩ := at_run t n hn ht hi L (by omega) e xs hall _ xs e (fun _ => False) (Nat.le_refl _) h.len he (Reach.refl _ _ _) (fun z _ hs => hs.elim) (fun z _ _ => rfl) (.inr rfl)
    have keep : ∀ z : Nat, z < n → 0 ≤ rd xs z → rd r z = rd xs z := fun z hz h0 => (e3 z hz).2 fun hr => by
      have := hall z hz hr
      omega
    have ha0 := h.start
    have hxl := h.len
    have hxa : ∀ z : Nat, z < n → rd r z = L ∨ rd r z = rd xs z := fun z hz => by
      by_cases hr : Reach [t] n e z
      · exact .inl ((e3 z hz).1 hr)
      · exact .inr ((e3 z hz).2 hr)
    refine ⟨r, e1, ⟨e2, fun x hx => ?_, ?_, fun x hx => ?_, fun x hx h0 => ?_, fun x hx h0 => ?_⟩, ?_, keep, hxa⟩
    · rcases hxa x hx with q | q
      · omega
      · rw [q]; exact h.rng x hx
    · by_cases han : a < n
      · rw [keep a han (by omega)]; exact h.start
      · unfold rd at ha0 ⊢
        rw [Int.toNat_natCast, List.getD_eq_getElem?_getD, List.getElem?_eq_none (by omega)] at ha0 ⊢
        exact ha0
    · have htx := ht.2 x hx
      obtain ⟨c, hc⟩ : ∃ c : Nat, rd t x = c := ⟨(rd t x).toNat, by omega⟩
      have hstep := Reach.step (ps := [t]) (p := t) (by simp) hx
      have htu := h.turn x hx
      rw [hc, Int.toNat_natCast] at hstep
      rw [hc] at htu ⊢
      by_cases hr : Reach [t] n e x
      · rw [(e3 x hx).1 hr, (e3 c (by omega)).1 (hr.trans hstep)]
      · rw [(e3 x hx).2 hr, (e3 c (by omega)).2 (fun q => hr (q.trans hstep.symm))]; exact htu
    · rcases hxa x hx with q | q
      · omega
      · rw [q] at h0; exact h.zero x hx h0
    · by_cases hr : Reach [t] n e x
      · refine ⟨e, he, hr, ?_⟩
        rw [hfe, keep d hd (by omega), (e3 x hx).1 hr]; exact hed
      · have q := (e3 x hx).2 hr
        rw [q] at h0 ⊢
        obtain ⟨y, y1, y2, y3⟩ := h.back x hx h0
        have hfy := hf.2 y y1
        refine ⟨y, y1, y2, ?_⟩
        obtain ⟨c, hc⟩ : ∃ c : Nat, rd f y = c := ⟨(rd f y).toNat, by omega⟩
        rw [hc] at y3 ⊢
        rw [keep c (by omega) (by omega)]; exact y3
    · rw [(e3 e he).1 (Reach.refl _ _ _)]; omega
  · refine ⟨xs, Ev.s ?_, h, by omega, fun z _ _ => rfl, fun z _ => .inr rfl⟩
    simp only [dfar.at, h.len, show (0 : Int) ≤ (e : Int) by omega, show (e : Int) < (n : Int) by omega, hneg, if_true, if_false]
    exact Ev.const rfl
theorem l2_run (t f : List Int) (n : Nat) (hn : n ≤ 12) (ht : inR n t) (hi : injR n t) (hf : inR n f) (hfl : ∀ i : Nat, i < n → flipAt f i) (a L : Nat) (hLn : L ≤ 12) :
    ∀ (d i : Nat) (xs : List Int), n - i = d → i ≤ n → LevI t f n a xs (L + 1) → (∀ x : Nat, x < n → 0 ≤ rd xs x → (rd xs x < L ∨ rd xs x = L ∧ x < i) → 0 ≤ rd xs (rd f x) ∧ rd xs (rd f x) ≤ rd xs x + 1) →
      ∃ r, Ev (fun k => dfar.l2 k t f (L : Int) xs (i : Int)) r ∧ LevI t f n a r (L + 1) ∧ ∀ x : Nat, x < n → 0 ≤ rd r x → rd r x < ((L + 1 : Nat) : Int) → 0 ≤ rd r (rd f x) ∧ rd r (rd f x) ≤ rd r x + 1
  | 0, i, xs, hd, hi', h, hE => by
    refine ⟨xs, Ev.s ?_, h, fun x hx h0 h1 => hE x hx h0 (by omega)⟩
    simp only [dfar.l2, hf.1, show ¬ (i : Int) < (n : Int) by omega, if_false]
    exact Ev.const rfl
  | d + 1, i, xs, hd, hi', h, hE => by
    have hlt : i < n := by omega
    have hfi := hf.2 i hlt
    obtain ⟨e, he⟩ : ∃ e : Nat, rd f i = e := ⟨(rd f i).toNat, by omega⟩
    have hen : e < n := by omega
    have hfe : rd f e = i := by have := (hfl i hlt).2; rwa [he] at this
    have g1 : (i : Int) < (n : Int) := by omega
    have g2 : (0 : Int) ≤ (i : Int) := by omega
    by_cases c : rd xs i = L
    · obtain ⟨r, e1, e2, e3, e4, e5⟩ := at_lev t f n hn ht hi hf a xs (L + 1) (by omega) h e i hen hlt hfe he (by omega)
      obtain ⟨r', f1, f2, f3⟩ := l2_run t f n hn ht hi hf hfl a L hLn d (i + 1) r (by omega) (by omega) e2 (fun x hx h0 hc => by
        have hfx := hf.2 x hx
        obtain ⟨q, hq⟩ : ∃ q : Nat, rd f x = q := ⟨(rd f x).toNat, by omega⟩
        by_cases hxi : x = i
        · subst hxi
          rw [he]
          have hb := (e2.rng e hen).2
          have hk := e4 x hx (by omega)
          exact ⟨e3, by omega⟩
        · have hx0 : 0 ≤ rd xs x := by
            rcases e5 x hx with w | w
            · omega
            · rw [← w]; exact h0
          have hv := e4 x hx hx0
          rw [hv] at h0 hc
          have := hE x hx hx0 (by omega)
          rw [hq] at this ⊢
          rw [e4 q (by omega) this.1, hv]; exact this)
      refine ⟨r', Ev.s ?_, f2, f3⟩
      simp only [dfar.l2, hf.1, h.len, g1, g2, c, he, if_true, show wrap64 ((L : Int) + 1) = ((L + 1 : Nat) : Int) from w64n (by omega)]
      refine Ev.bind e1 ?_
      rw [w64n (by omega)]
      exact f1
    · obtain ⟨r', f1, f2, f3⟩ := l2_run t f n hn ht hi hf hfl a L hLn d (i + 1) xs (by omega) (by omega) h (fun x hx h0 hc => hE x hx h0 (by
        rcases hc with hc | hc
        · exact .inl hc
        · refine .inr ⟨hc.1, ?_⟩
          have : x ≠ i := fun e => c (by rw [← e]; exact hc.1)
          omega))
      refine ⟨r', Ev.s ?_, f2, f3⟩
      simp only [dfar.l2, hf.1, h.len, g1, g2, c, if_true, if_false]
      rw [w64n (by omega)]
      exact f1
theorem l1_run (t f : List Int) (n : Nat) (hn : n ≤ 12) (ht : inR n t) (hi : injR n t) (hf : inR n f) (hfl : ∀ i : Nat, i < n → flipAt f i) (a : Nat) :
    ∀ (d L : Nat) (xs : List Int), n - L = d → L ≤ n → LevI t f n a xs L → (∀ x : Nat, x < n → 0 ≤ rd xs x → rd xs x < L → 0 ≤ rd xs (rd f x) ∧ rd xs (rd f x) ≤ rd xs x + 1) →
      ∃ r, Ev (fun k => dfar.l1 k t f xs (L : Int)) r ∧ LevI t f n a r n ∧ ∀ x : Nat, x < n → 0 ≤ rd r x → rd r x < (n : Int) → 0 ≤ rd r (rd f x) ∧ rd r (rd f x) ≤ rd r x + 1
  | 0, L, xs, hd, hL, h, hE => by
    have : L = n := by omega
    subst this
    refine ⟨xs, Ev.s ?_, h, hE⟩
    simp only [dfar.l1, ht.1, show ¬ (L : Int) < (L : Int) by omega, if_false]
    exact Ev.const rfl
  | d + 1, L, xs, hd, hL, h, hE => by
    have h' : LevI t f n a xs (L + 1) := ⟨h.len, fun x hx => ⟨(h.rng x hx).1, by have := (h.rng x hx).2; omega⟩, h.start, h.turn, h.zero, h.back⟩
    obtain ⟨r, e1, e2, e3⟩ := l2_run t f n hn ht hi hf hfl a L (by omega) n 0 xs (by omega) (by omega) h' (fun x hx h0 hc => hE x hx h0 (by omega))
    obtain ⟨r', f1, f2, f3⟩ := l1_run t f n hn ht hi hf hfl a d (L + 1) r (by omega) (by omega) e2 e3
    refine ⟨r', Ev.s ?_, f2, f3⟩
    simp only [dfar.l1, ht.1, show (L : Int) < (n : Int) by omega, if_true]
    refine Ev.bind e1 ?_
    rw [w64n (by omega)]
    exact f1
theorem lev_far (t f : List Int) (n : Nat) (H : MapK t f n) (a : Nat) (ha : a < n) (xs : List Int) (h : LevI t f n a xs n) (hE : ∀ x : Nat, x < n → 0 ≤ rd xs x → rd xs x < (n : Int) → 0 ≤ rd xs (rd f x) ∧ rd xs (rd f x) ≤ rd xs x + 1) : FarOk t f n a xs := by
  obtain ⟨hn, h1, ht, hi, hf, hfl, hcon⟩ := H
  have lt : ∀ x : Nat, x < n → rd xs x < n := by
    intro x hx
    refine Classical.byContradiction fun hno => ?_
    have hb := h.rng x hx
    have hx' : rd xs x = n := by omega
    have chain : ∀ d j : Nat, n - j = d → j ≤ n → ∃ y : Nat, y < n ∧ rd xs y = j := by
      intro d
      induction d with
      | zero => intro j hj hjn; exact ⟨x, hx, by omega⟩
      | succ d ih =>
        intro j hj hjn
        obtain ⟨y, y1, y2⟩ := ih (j + 1) (by omega) (by omega)
        obtain ⟨z, z1, z2, z3⟩ := h.back y y1 (by omega)
        have hfz := hf.2 z z1
        refine ⟨(rd f z).toNat, by omega, ?_⟩
        rw [show ((rd f z).toNat : Int) = rd f z by omega]
        omega
    have hex : ∀ j : Nat, ∃ y : Nat, j ≤ n → y < n ∧ rd xs y = j := fun j => by
      by_cases hj : j ≤ n
      · obtain ⟨y, q⟩ := chain _ j rfl hj
        exact ⟨y, fun _ => q⟩
      · exact ⟨0, fun q => absurd q hj⟩
    have hc1 : Cnt (n + 1) (fun j => j < n + 1) (n + 1) := ⟨List.range (n + 1), List.nodup_range, fun y => by simp, by simp⟩
    have hc2 : Cnt (n + 1) (fun j => j < n) n := ⟨List.range n, List.nodup_range, fun y => by simp; omega, by simp⟩
    have := Cnt.le hc1 hc2 (fun j => Classical.choose (hex j)) (fun j hj _ => by
      have q := Classical.choose_spec (hex j) (by omega)
      exact ⟨by omega, q.1⟩) (fun i j hi' _ hj _ e => by
      have q1 := (Classical.choose_spec (hex i) (by omega)).2
      have q2 := (Classical.choose_spec (hex j) (by omega)).2
      have e' : Classical.choose (hex i) = Classical.choose (hex j) := e
      rw [e', q2] at q1
      omega)
    omega
  have hcl : closedL [t, f] n (fun z => 0 ≤ rd xs z) := by
    intro p hp k hk
    simp at hp
    rcases hp with rfl | rfl
    · have h1 := ht.2 k hk
      have h2 := h.turn k hk
      show 0 ≤ rd xs k ↔ 0 ≤ rd xs ((rd p k).toNat : Nat)
      rw [show ((rd p k).toNat : Int) = rd p k by omega, h2]
    · have h1 := hf.2 k hk
      have h2 := (hfl k hk).2
      show 0 ≤ rd xs k ↔ 0 ≤ rd xs ((rd p k).toNat : Nat)
      constructor
      · intro q
        rw [show ((rd p k).toNat : Int) = rd p k by omega]
        exact (hE k hk q (lt k hk)).1
      · intro q
        have := (hE _ (show (rd p k).toNat < n by omega) q (lt _ (by omega))).1
        rw [show ((rd p k).toNat : Int) = rd p k by omega, h2] at this
        exact this
  have pos : ∀ x : Nat, x < n → 0 ≤ rd xs x := fun x hx => (hcon a x ha hx _ hcl).1 (by show 0 ≤ rd xs a; rw [h.start]; omega)
  refine ⟨h.len, fun x hx => ⟨pos x hx, lt x hx⟩, h.start, h.turn, fun x hx => ?_, h.zero, h.back⟩
  have hfx := hf.2 x hx
  have hff := (hfl x hx).2
  have q := (hE (rd f x).toNat (by omega) (pos _ (by omega)) (lt _ (by omega))).2
  rw [show ((rd f x).toNat : Int) = rd f x by omega, hff] at q
  exact q
theorem l0_run (n : Nat) (hn : n ≤ 12) : ∀ (d i : Nat) (xs : List Int), n - i = d → i ≤ n → xs.length = n → (∀ z : Nat, z < i → rd xs z = -1) → ∃ r, Ev (fun k => dfar.l0 k xs (i : Int) (n : Int)) r ∧ r.length = n ∧ ∀ z : Nat, z < n → rd r z = -1
  | 0, i, xs, hd, hi, hl, h => by
    have : i = n := by omega
    subst this
    refine ⟨xs, Ev.s ?_, hl, h⟩
    simp only [dfar.l0, show ¬ (i : Int) < (i : Int) by omega, if_false]
    exact Ev.const rfl
  | d + 1, i, xs, hd, hi, hl, h => by
    obtain ⟨r, r1, r2, r3⟩ := l0_run n hn d (i + 1) (xs.set i (-1)) (by omega) (by omega) (by simp [hl]) (fun z hz => by
      rw [rd_put _ _ _ _ (by omega)]
      by_cases e : z = i
      · rw [if_pos e]
      · rw [if_neg e]; exact h z (by omega))
    refine ⟨r, Ev.s ?_, r2, r3⟩
    simp only [dfar.l0, hl, show (i : Int) < (n : Int) by omega, show (0 : Int) ≤ (i : Int) by omega, if_true, Int.toNat_natCast]
    rw [w64n (by omega)]
    exact r1
theorem implFar_ev (t f : List Int) (n : Nat) (H : MapK t f n) (a : Nat) (ha : a < n) : ∃ g, FarOk t f n a g ∧ Ev (fun k => impl_distancesFrom.f k t f (a : Int)) g := by
  obtain ⟨hn, h1, ht, hi, hf, hfl, hcon⟩ := id H
  obtain ⟨xs, x1, x2, x3⟩ := l0_run n hn n 0 (List.replicate n 0) (by omega) (by omega) (by simp) (fun z hz => by omega)
  have hall : ∀ z : Nat, z < n → Reach [t] n a z → rd xs z < 0 := fun z hz _ => by rw [x3 z hz]; omega
  obtain ⟨ys, y1, y2, y3⟩ := at_run t n hn ht hi 0 (by omega) a xs hall _ xs a (fun _ => False) (Nat.le_refl _) x2 ha (Reach.refl _ _ _) (fun z _ hs => hs.elim) (fun z _ _ => rfl) (.inr rfl)
  have yv : ∀ z : Nat, z < n → (rd ys z = 0 ∧ Reach [t] n a z) ∨ (rd ys z = -1 ∧ ¬ Reach [t] n a z) := fun z hz => by
    by_cases hr : Reach [t] n a z
    · exact .inl ⟨(y3 z hz).1 hr, hr⟩
    · exact .inr ⟨by rw [(y3 z hz).2 hr, x3 z hz], hr⟩
  have hlev : LevI t f n a ys 0 := by
    refine ⟨y2, fun x hx => ?_, ?_, fun x hx => ?_, fun x hx h0 => ?_, fun x hx h0 => ?_⟩
    · rcases yv x hx with q | q <;> omega
    · exact (y3 a ha).1 (Reach.refl _ _ _)
    · have htx := ht.2 x hx
      obtain ⟨c, hc⟩ : ∃ c : Nat, rd t x = c := ⟨(rd t x).toNat, by omega⟩
      have hstep := Reach.step (ps := [t]) (p := t) (by simp) hx
      rw [hc, Int.toNat_natCast] at hstep
      rw [hc]
      rcases yv x hx with q | q
      · rw [q.1, (y3 c (by omega)).1 (q.2.trans hstep)]
      · rcases yv c (by omega) with p | p
        · exact absurd (p.2.trans hstep.symm) q.2
        · rw [q.1, p.1]
    · rcases yv x hx with q | q
      · exact q.2.symm
      · omega
    · rcases yv x hx with q | q <;> omega
  obtain ⟨r, r1, r2, r3⟩ := l1_run t f n hn ht hi hf hfl a n 0 ys (by omega) (by omega) hlev (fun x hx h0 h1 => by omega)
  refine ⟨r, lev_far t f n H a ha r r2 r3, ?_⟩
  unfold impl_distancesFrom.f
  have hg12 : 0 < n ∧ n ≤ 1048576 := ⟨by omega, by omega⟩
  simp only [ht.1, hg12, and_self, if_true]
  refine Ev.bind x1 ?_
  exact Ev.bind y1 r1
def farI (n a : Nat) (g o : List Int) : Prop := o.length = n ∧ (∀ z : Nat, z < n → rd g z ≤ rd o z ∧ rd o z ≤ n) ∧ rd o a = 0
theorem specFar_sweep (t f : List Int) (n : Nat) (H : MapK t f n) (a : Nat) (ha : a < n) (g : List Int) (hg : FarOk t f n a g) (round : Int) : ∀ (d i : Nat) (o : List Int), n - i = d → i ≤ n → farI n a g o →
    ∃ o', farI n a g o' ∧ (∀ r, Ev (fun k => spec_l2Fars.l1 k o' (wrap64 (round + 1)) t f) r → Ev (fun k => spec_l2Fars.l2 k o round i t f) r) ∧ (∀ z : Nat, z < n → rd o z = rd g z → rd o' z = rd g z) ∧
      (∀ j : Nat, i ≤ j → j < n → (rd o (rd f j) = rd g (rd f j) → rd g j = rd g (rd f j) + 1 → rd o' j = rd g j) ∧ (rd o j = rd g j → rd o' (rd t j) = rd g (rd t j)))
  | 0, i, o, hd, hi, ho => by
    refine ⟨o, ho, fun r h => Ev.s ?_, fun z _ h => h, fun j h1 h2 => by omega⟩
    simp only [spec_l2Fars.l2, ho.1, show ¬ (i : Int) < (n : Int) by omega, if_false]
    exact h
  | d + 1, i, o, hd, hi, ho => by
    obtain ⟨hn, h1, ht, hti, hf, hfl, hcon⟩ := id H
    have hlt : i < n := by omega
    have hd1 : n - (i + 1) = d := by omega
    have hra := ht.2 i hlt
    have hrb := hf.2 i hlt
    obtain ⟨ta, hta⟩ : ∃ c : Nat, rd t i = c := ⟨(rd t i).toNat, by omega⟩
    obtain ⟨fb, hfb⟩ : ∃ c : Nat, rd f i = c := ⟨(rd f i).toNat, by omega⟩
    have han : ta < n := by omega
    have hbn : fb < n := by omega
    obtain ⟨hl, hb, h0⟩ := ho
    have bi := hb i hlt
    have ba := hb ta han
    have bb := hb fb hbn
    have gi := hg.rng i hlt
    have gt := hg.turn i hlt
    have gf := hg.flip i hlt
    rw [hta] at gt
    rw [hfb] at gf
    obtain ⟨v, hv⟩ : ∃ v, mn (rd o i) (rd o fb + 1) = v := ⟨_, rfl⟩
    have hvm := mn_le (rd o i) (rd o fb + 1)
    rw [hv] at hvm
    obtain ⟨o1, ho1⟩ : ∃ o1, o.set i v = o1 := ⟨_, rfl⟩
    have r1 : ∀ z : Nat, rd o1 z = if z = i then v else rd o z := fun z => by rw [← ho1]; exact rd_put o i z v (by omega)
    have hl1 : o1.length = n := by rw [← ho1]; simp [hl]
    have o1i : rd o1 i = v := by rw [r1, if_pos rfl]
    have b1 : ∀ z : Nat, z < n → rd g z ≤ rd o1 z ∧ rd o1 z ≤ rd o z := fun z hz => by
      rw [r1]
      by_cases e : z = i
      · subst e; rw [if_pos rfl]; omega
      · rw [if_neg e]; exact ⟨(hb z hz).1, Int.le_refl _⟩
    obtain ⟨w, hw⟩ : ∃ w, mn (rd o1 ta) (rd o1 i) = w := ⟨_, rfl⟩
    have hwm := mn_le (rd o1 ta) (rd o1 i)
    rw [hw] at hwm
    obtain ⟨o2, ho2⟩ : ∃ o2, o1.set ta w = o2 := ⟨_, rfl⟩
    have r2 : ∀ z : Nat, rd o2 z = if z = ta then w else rd o1 z := fun z => by rw [← ho2]; exact rd_put o1 ta z w (by omega)
    have hl2 : o2.length = n := by rw [← ho2]; simp [hl1]
    have c1 := b1 ta han
    have c2 := b1 i hlt
    have b2 : ∀ z : Nat, z < n → rd g z ≤ rd o2 z ∧ rd o2 z ≤ rd o1 z := fun z hz => by
      rw [r2]
      by_cases e : z = ta
      · subst e; rw [if_pos rfl]; omega
      · rw [if_neg e]; exact ⟨(b1 z hz).1, Int.le_refl _⟩
    have keep : ∀ z : Nat, z < n → rd o z = rd g z → rd o2 z = rd g z := fun z hz e => by
      have p1 := b1 z hz
      have p2 := b2 z hz
      omega
    have ho2I : farI n a g o2 := ⟨hl2, fun z hz => ⟨(b2 z hz).1, by have p1 := b1 z hz; have p2 := b2 z hz; have p3 := hb z hz; omega⟩, by
      have q := keep a ha (by rw [h0, hg.start])
      rw [q, hg.start]⟩
    obtain ⟨o', d1, d2, d3, d4⟩ := specFar_sweep t f n H a ha g hg round d (i + 1) o2 hd1 hlt ho2I
    refine ⟨o', d1, fun r h => Ev.s ?_, fun z hz e => d3 z hz (keep z hz e), fun j h1 h2 => ?_⟩
    · have hgo := d2 r h
      have g1 : (i : Int) < (n : Int) := by omega
      have g2 : (0 : Int) ≤ (i : Int) := by omega
      have g3 : (0 : Int) ≤ (ta : Int) := by omega
      have g4 : (ta : Int) < (n : Int) := by omega
      have g5 : (0 : Int) ≤ (fb : Int) := by omega
      have g6 : (fb : Int) < (n : Int) := by omega
      have gw : wrap64 (rd o fb + 1) = rd o fb + 1 := w64 (by omega) (by omega)
      simp only [spec_l2Fars.l2, ht.1, hf.1, hl, hl1, g1, g2, g3, g4, g5, g6, hta, hfb, hv, hw, gw, if_true, Int.toNat_natCast, ho1, ho2, Option.bind_some]
      rw [w64n (by omega)]
      exact hgo
    · by_cases e : j = i
      · subst e
        rw [hta, hfb]
        refine ⟨fun e1 e2 => d3 j h2 ?_, fun e1 => d3 ta han ?_⟩
        · have p2 := b2 j h2
          rw [o1i] at p2
          omega
        · have p2 : rd o2 ta = w := by rw [r2, if_pos rfl]
          rw [o1i] at hwm
          rw [p2]
          omega
      · have hj := d4 j (by omega) h2
        have hfj := hf.2 j h2
        obtain ⟨c, hc⟩ : ∃ c : Nat, rd f j = c := ⟨(rd f j).toNat, by omega⟩
        rw [hc] at hj ⊢
        exact ⟨fun e1 e2 => hj.1 (keep c (by omega) e1) e2, fun e1 => hj.2 (keep j h2 e1)⟩
theorem specFar_loop (t f : List Int) (n : Nat) (H : MapK t f n) (a : Nat) (ha : a < n) (g : List Int) (hg : FarOk t f n a g) : ∀ (d i : Nat) (o : List Int), 2 * n - i = d → i ≤ 2 * n → farI n a g o → lag o g n ≤ d → Ev (fun k => spec_l2Fars.l1 k o (i : Int) t f) g
  | 0, i, o, hd, hi, ho, hl => by
    obtain ⟨hn, h1, ht, hti, hf, hfl, hcon⟩ := id H
    refine Ev.s ?_
    have hw2 : wrap64 (2 * (n : Int)) = 2 * (n : Int) := w64 (by omega) (by omega)
    simp only [spec_l2Fars.l1, ho.1, hw2, show ¬ (i : Int) < 2 * (n : Int) by omega, if_false]
    have : o = g := list_ext o g (ho.1.trans hg.len.symm) fun z hz => lag_zero o g n (by omega) z (by rw [← ho.1]; exact hz)
    exact Ev.const (by rw [this])
  | d + 1, i, o, hd, hi, ho, hl => by
    obtain ⟨hn, h1, ht, hti, hf, hfl, hcon⟩ := id H
    obtain ⟨o', c1, c2, c3, c4⟩ := specFar_sweep t f n H a ha g hg i n 0 o (by omega) (by omega) ho
    refine Ev.s ?_
    have hw2 : wrap64 (2 * (n : Int)) = 2 * (n : Int) := w64 (by omega) (by omega)
    simp only [spec_l2Fars.l1, ho.1, hw2, show (i : Int) < 2 * (n : Int) by omega, if_true]
    refine c2 g ?_
    rw [w64n (by omega)]
    refine specFar_loop t f n H a ha g hg d (i + 1) o' (by omega) (by omega) c1 ?_
    have hout : ∀ z : Nat, ¬ z < n → rd o z = rd o' z := by
      intro z hz
      unfold rd
      rw [Int.toNat_natCast, List.getD_eq_getElem?_getD, List.getD_eq_getElem?_getD, List.getElem?_eq_none (by rw [ho.1]; omega), List.getElem?_eq_none (by rw [c1.1]; omega)]
    have keep : ∀ z : Nat, rd o z = rd g z → rd o' z = rd g z := fun z e => by
      by_cases hz : z < n
      · exact c3 z hz e
      · rw [← hout z hz]; exact e
    by_cases hz : lag o g n = 0
    · have := lag_mono o o' g keep n
      omega
    · have hex : ∃ z : Nat, z < n ∧ rd o z ≠ rd g z ∧ rd o' z = rd g z := by
        refine Classical.byContradiction fun hno => ?_
        have hsame : ∀ z : Nat, z < n → (rd o z = rd g z ↔ rd o' z = rd g z) := fun z hz => ⟨keep z, fun e => Classical.byContradiction fun hne => hno ⟨z, hz, hne, e⟩⟩
        have hcl : closedL [t] n (fun z => rd o z = rd g z) := closed_of_fwd t n ht hti _ fun k hk e => by
          have hr := ht.2 k hk
          refine (hsame (rd t k).toNat (by omega)).2 ?_
          rw [show ((rd t k).toNat : Int) = rd t k by omega]
          exact (c4 k (by omega) hk).2 e
        have hall : ∀ m z : Nat, z < n → rd g z ≤ m → rd o z = rd g z := by
          intro m
          induction m with
          | zero =>
            intro z hz hm
            have hb := hg.rng z hz
            have hr := hg.zero z hz (by omega)
            refine (hr _ hcl).2 ?_
            show rd o a = rd g a
            rw [ho.2.2, hg.start]
          | succ m ih =>
            intro z hz hm
            by_cases hm' : rd g z ≤ m
            · exact ih z hz hm'
            · obtain ⟨y, y1, y2, y3⟩ := hg.back z hz (by omega)
              have hfy := hf.2 y y1
              obtain ⟨c, hc⟩ : ∃ c : Nat, rd f y = c := ⟨(rd f y).toNat, by omega⟩
              have hcy := reach_const ht hti g hg.turn y2
              have h4 := (c4 y (by omega) y1).1
              rw [hc] at y3 h4
              have hyo := h4 (ih c (by omega) (by omega)) (by omega)
              exact (y2 _ hcl).1 ((hsame y y1).2 hyo)
        have hz0 : ∀ m, m ≤ n → lag o g m = 0 := by
          intro m
          induction m with
          | zero => intro _; rfl
          | succ m ih =>
            intro hm
            simp only [lag]
            have hb := hg.rng m (by omega)
            rw [if_pos (hall (rd g m).toNat m (by omega) (by omega)), ih (by omega)]
        exact hz (hz0 n (Nat.le_refl _))
      obtain ⟨z, z1, z2, z3⟩ := hex
      have := lag_lt o o' g keep z z2 z3 n z1
      omega
theorem specFar_init (t f : List Int) (n : Nat) (hn : n ≤ 12) (a : Nat) (ha : a < n) : ∀ (d i : Nat) (o : List Int), n - i = d → i ≤ n → o.length = n → (∀ z : Nat, z < i → rd o z = n) →
    ∃ o', o'.length = n ∧ (∀ z : Nat, z < n → rd o' z = n) ∧ ∀ r, Ev (fun k => spec_l2Fars.l1 k (o'.set a 0) 0 t f) r → Ev (fun k => spec_l2Fars.l0 k (a : Int) o (i : Int) t f) r
  | 0, i, o, hd, hi, hl, h => by
    refine ⟨o, hl, fun z hz => h z (by omega), fun r hr => Ev.s ?_⟩
    simp only [spec_l2Fars.l0, hl, show ¬ (i : Int) < (n : Int) by omega, show (0 : Int) ≤ (a : Int) by omega, show (a : Int) < (n : Int) by omega, if_true, if_false, Int.toNat_natCast]
    exact hr
  | d + 1, i, o, hd, hi, hl, h => by
    obtain ⟨o', e1, e2, e3⟩ := specFar_init t f n hn a ha d (i + 1) (o.set i n) (by omega) (by omega) (by simp [hl]) (fun z hz => by
      rw [rd_put _ _ _ _ (by omega)]
      by_cases e : z = i
      · rw [if_pos e]
      · rw [if_neg e]; exact h z (by omega))
    refine ⟨o', e1, e2, fun r hr => Ev.s ?_⟩
    simp only [spec_l2Fars.l0, hl, show (i : Int) < (n : Int) by omega, show (0 : Int) ≤ (i : Int) by omega, if_true, Int.toNat_natCast]
    rw [w64n (by omega)]
    exact e3 r hr
theorem specFar_ev (t f : List Int) (n : Nat) (H : MapK t f n) (a : Nat) (ha : a < n) (g : List Int) (hg : FarOk t f n a g) : Ev (fun k => spec_l2Fars.f k t f (a : Int)) g := by
  obtain ⟨hn, h1, ht, hti, hf, hfl, hcon⟩ := id H
  obtain ⟨o, o1, o2, o3⟩ := specFar_init t f n hn a ha n 0 (List.replicate n 0) (by omega) (by omega) (by simp) (fun z hz => by omega)
  unfold spec_l2Fars.f
  simp only [ht.1, Int.toNat_natCast, show (0 : Int) ≤ (n : Int) by omega, show n ≤ 35184372088832 by omega, if_true]
  refine o3 g ?_
  have hr : ∀ z : Nat, rd (o.set a 0) z = if z = a then 0 else rd o z := fun z => rd_put o a z 0 (by omega)
  refine specFar_loop t f n H a ha g hg (2 * n) 0 (o.set a 0) (by omega) (by omega) ⟨by simp [o1], fun z hz => ?_, by rw [hr, if_pos rfl]⟩ ?_
  · rw [hr]
    have hb := hg.rng z hz
    by_cases e : z = a
    · subst e; rw [if_pos rfl, hg.start]; omega
    · rw [if_neg e, o2 z hz]; omega
  · have := lag_le (o.set a 0) g n
    omega
theorem far_both (t f : List Int) (n : Nat) (H : MapK t f n) (a : Nat) (ha : a < n) : ∃ g, FarOk t f n a g ∧ Ev (fun k => spec_l2Fars.f k t f (a : Int)) g ∧ Ev (fun k => impl_distancesFrom.f k t f (a : Int)) g := by
  obtain ⟨g, hg, e⟩ := implFar_ev t f n H a ha
  exact ⟨g, hg, specFar_ev t f n H a ha g hg, e⟩
def cw (p : List Int) : Nat → List Bool → List Int → Int → List Bool × List Int
  | 0, s, c, a => (s, c)
  | f + 1, s, c, a => if rdOf false s a = true then (s, c) else cw p f (s.set a.toNat true) (c ++ [a]) (rd p a)
def fresh (s : List Bool) : Nat := s.countP (fun b => !b)
def cyS (p : List Int) (n : Nat) : Nat → List Bool × List (List Int)
  | 0 => (List.replicate n false, [])
  | i + 1 =>
    let q := cw p (n + 1) (cyS p n i).1 [] i
    (q.1, if q.2 = [] then (cyS p n i).2 else (cyS p n i).2 ++ [q.2])
theorem fresh_set : ∀ (s : List Bool) (i : Nat), i < s.length → s.getD i false = false → fresh (s.set i true) + 1 = fresh s
  | b :: s, 0, _, h => by
    simp only [List.getD_cons_zero] at h
    subst h
    simp [fresh]
  | b :: s, i + 1, hi, h => by
    simp only [List.getD_cons_succ] at h
    have ih := fresh_set s i (by simpa using hi) h
    simp only [fresh, List.set_cons_succ, List.countP_cons] at ih ⊢
    omega
theorem rdOf_nat (s : List Bool) (a : Int) (h0 : 0 ≤ a) : rdOf false s a = s.getD a.toNat false := by
  unfold rdOf
  rfl
theorem cw_len (p : List Int) : ∀ (f : Nat) (s : List Bool) (c : List Int) (a : Int), (cw p f s c a).1.length = s.length
  | 0, s, c, a => rfl
  | f + 1, s, c, a => by
    simp only [cw]
    split
    · rfl
    · rw [cw_len p f]; simp
theorem spec_cw (p : List Int) (n : Nat) (hn : n ≤ 1048576) (hp : inR n p) (L : List (List Int)) (hL : L.length ≤ 1048576) (i : Int) (r : List (List Int)) : ∀ (f : Nat) (s : List Bool) (c : List Int) (a : Int), s.length = n → 0 ≤ a → a < n → fresh s < f → c.length + fresh s ≤ 1048577 →
    Ev (fun k => spec_l1Cycles.l0 k p (L ++ [(cw p f s c a).2]) (cw p f s c a).1 (wrap64 (i + 1))) r → Ev (fun k => spec_l1Cycles.l1 k p L s i c a) r
  | 0, s, c, a, hs, h0, h1, hf, hc, h => absurd hf (Nat.not_lt_zero _)
  | f + 1, s, c, a, hs, h0, h1, hf, hc, h => by
    refine Ev.s ?_
    simp only [cw] at h
    have hL' : L.length < 5864062014805 := by omega
    have hc' : c.length < 17592186044416 := by omega
    simp only [spec_l1Cycles.l1, h0, hs, h1, hp.1, hL', hc', if_true]
    by_cases e : rdOf false s a = true
    · simp only [e, if_true] at h ⊢
      exact h
    · simp only [e, if_false] at h ⊢
      have h3 : s.getD a.toNat false = false := by rw [← rdOf_nat s a h0]; simpa using e
      have h4 := fresh_set s a.toNat (by omega) h3
      have h5 := hp.2 a.toNat (by omega)
      rw [show ((a.toNat : Nat) : Int) = a by omega] at h5
      exact spec_cw p n hn hp L hL i r f _ _ _ (by simpa using hs) h5.1 h5.2 (by omega) (by simp only [List.length_append, List.length_cons, List.length_nil]; omega) h
theorem impl_cw (p : List Int) (n : Nat) (hn : n ≤ 1048576) (hp : inR n p) (L : List (List Int)) (hL : L.length ≤ 1048576) (m i : Int) (r : List (List Int)) : ∀ (f : Nat) (s : List Bool) (c : List Int) (a : Int), s.length = n → 0 ≤ a → a < n → fresh s < f → c.length + fresh s ≤ 1048577 →
    Ev (fun k => impl_cyclesOf.l0 k p (if (cw p f s c a).2 = [] then L else L ++ [(cw p f s c a).2]) (cw p f s c a).1 m (wrap64 (i + 1))) r → Ev (fun k => impl_cyclesOf.l1 k p L s c a m i) r
  | 0, s, c, a, hs, h0, h1, hf, hc, h => absurd hf (Nat.not_lt_zero _)
  | f + 1, s, c, a, hs, h0, h1, hf, hc, h => by
    refine Ev.s ?_
    simp only [cw] at h
    have hL' : L.length < 5864062014805 := by omega
    have hc' : c.length < 17592186044416 := by omega
    simp only [impl_cyclesOf.l1, h0, hs, h1, hp.1, hL', hc', if_true]
    by_cases e : rdOf false s a = true
    · simp only [e, if_true] at h ⊢
      cases c with
      | nil => simpa using h
      | cons b c => simpa using h
    · simp only [e, if_false] at h ⊢
      have h3 : s.getD a.toNat false = false := by rw [← rdOf_nat s a h0]; simpa using e
      have h4 := fresh_set s a.toNat (by omega) h3
      have h5 := hp.2 a.toNat (by omega)
      rw [show ((a.toNat : Nat) : Int) = a by omega] at h5
      exact impl_cw p n hn hp L hL m i r f _ _ _ (by simpa using hs) h5.1 h5.2 (by omega) (by simp only [List.length_append, List.length_cons, List.length_nil]; omega) h
theorem fresh_le (s : List Bool) : fresh s ≤ s.length := List.countP_le_length
theorem cyS_len (p : List Int) (n : Nat) : ∀ i, (cyS p n i).1.length = n
  | 0 => by simp [cyS]
  | i + 1 => by simp only [cyS]; rw [cw_len, cyS_len p n i]
theorem cyS_many (p : List Int) (n : Nat) : ∀ i, (cyS p n i).2.length ≤ i
  | 0 => by simp [cyS]
  | i + 1 => by
    have ih := cyS_many p n i
    simp only [cyS]
    split
    · omega
    · simp only [List.length_append, List.length_cons, List.length_nil]; omega
theorem cw_seen (p : List Int) (f : Nat) (s : List Bool) (c : List Int) (a : Int) (h : rdOf false s a = true) : cw p f s c a = (s, c) := by
  cases f with
  | zero => rfl
  | succ f => simp only [cw, h, if_true]
theorem cw_more (p : List Int) : ∀ (f : Nat) (s : List Bool) (c : List Int) (a : Int), c.length ≤ (cw p f s c a).2.length
  | 0, s, c, a => Nat.le_refl _
  | f + 1, s, c, a => by
    simp only [cw]
    split
    · exact Nat.le_refl _
    · have := cw_more p f (s.set a.toNat true) (c ++ [a]) (rd p a)
      simp only [List.length_append, List.length_cons, List.length_nil] at this
      omega
theorem cw_new (p : List Int) (f : Nat) (s : List Bool) (a : Int) (h : ¬ rdOf false s a = true) : (cw p (f + 1) s [] a).2 ≠ [] := by
  simp only [cw, h, Bool.false_eq_true, if_false]
  intro e
  have := cw_more p f (s.set a.toNat true) ([] ++ [a]) (rd p a)
  rw [e] at this
  simp at this
theorem specCyc_run (p : List Int) (n : Nat) (hn : n ≤ 1048575) (hp : inR n p) : ∀ (d i : Nat), n - i = d → i ≤ n → Ev (fun k => spec_l1Cycles.l0 k p (cyS p n i).2 (cyS p n i).1 i) (cyS p n n).2
  | 0, i, hd, hi => by
    have : i = n := by omega
    subst this
    refine Ev.s ?_
    simp only [spec_l1Cycles.l0, hp.1, show ¬ (i : Int) < (i : Int) by omega, if_false]
    exact Ev.const rfl
  | d + 1, i, hd, hi => by
    have ih := specCyc_run p n hn hp d (i + 1) (by omega) (by omega)
    have hl := cyS_len p n i
    have hm := cyS_many p n i
    have hf := fresh_le (cyS p n i).1
    have h1 : (i : Int) < (n : Int) := by omega
    have h0 : (0 : Int) ≤ (i : Int) := by omega
    refine Ev.s ?_
    simp only [spec_l1Cycles.l0, hp.1, hl, h1, h0, if_true]
    by_cases e : rdOf false (cyS p n i).1 (i : Int) = true
    · simp only [e, if_true]
      rw [w64n (by omega)]
      simp only [cyS, cw_seen p (n + 1) (cyS p n i).1 [] i e, if_true] at ih
      exact ih
    · simp only [e, if_false]
      refine spec_cw p n (by omega) hp _ (by omega) i _ (n + 1) _ _ _ hl h0 h1 (by omega) (by simp only [List.length_nil]; omega) ?_
      rw [w64n (by omega)]
      simp only [cyS, cw_new p n (cyS p n i).1 i e, if_false] at ih
      exact ih
theorem implCyc_run (p : List Int) (n : Nat) (hn : n ≤ 1048575) (hp : inR n p) : ∀ (d i : Nat), n - i = d → i ≤ n → Ev (fun k => impl_cyclesOf.l0 k p (cyS p n i).2 (cyS p n i).1 n i) (cyS p n n).2
  | 0, i, hd, hi => by
    have : i = n := by omega
    subst this
    refine Ev.s ?_
    simp only [impl_cyclesOf.l0, show ¬ (i : Int) < (i : Int) by omega, if_false]
    exact Ev.const rfl
  | d + 1, i, hd, hi => by
    have ih := implCyc_run p n hn hp d (i + 1) (by omega) (by omega)
    have hl := cyS_len p n i
    have hm := cyS_many p n i
    have hf := fresh_le (cyS p n i).1
    have h1 : (i : Int) < (n : Int) := by omega
    have h0 : (0 : Int) ≤ (i : Int) := by omega
    refine Ev.s ?_
    simp only [impl_cyclesOf.l0, h1, if_true]
    refine impl_cw p n (by omega) hp _ (by omega) n i _ (n + 1) _ _ _ hl h0 h1 (by omega) (by simp only [List.length_nil]; omega) ?_
    rw [w64n (by omega)]
    simp only [cyS] at ih
    exact ih
theorem specCyc_ev (p : List Int) (n : Nat) (hn : n ≤ 1048575) (hp : inR n p) : Ev (fun k => spec_l1Cycles.f k p) (cyS p n n).2 := by
  unfold spec_l1Cycles.f
  have h1 : n ≤ 281474976710656 := by omega
  have h2 : (0 : Int) ≤ (n : Int) := by omega
  simp only [hp.1, Int.toNat_natCast, h1, h2, if_true]
  exact specCyc_run p n hn hp n 0 (by omega) (by omega)
theorem implCyc_ev (p : List Int) (n : Nat) (hn : n ≤ 1048575) (hp : inR n p) : Ev (fun k => impl_cyclesOf.f k p) (cyS p n n).2 := by
  unfold impl_cyclesOf.f
  have h1 : n ≤ 281474976710656 := by omega
  have h2 : (0 : Int) ≤ (n : Int) := by omega
  simp only [hp.1, Int.toNat_natCast, h1, h2, if_true]
  exact implCyc_run p n hn hp n 0 (by omega) (by omega)
theorem take_set_one (l : List Int) (i : Nat) (v : Int) (h : i < l.length) : (l.set i v).take (i + 1) = l.take i ++ [v] := by
  rw [List.take_succ_eq_append_getElem (by simpa using h), List.take_set_of_le (Nat.le_refl _), List.getElem_set_self]
def mulL (a b : List Int) : Nat → List Int
  | 0 => []
  | i + 1 => mulL a b i ++ [rd b (rd a i)]
theorem mulL_length (a b : List Int) : ∀ n, (mulL a b n).length = n
  | 0 => rfl
  | n + 1 => by simp [mulL, mulL_length a b n]
theorem mulL_rd (a b : List Int) : ∀ (n i : Nat), i < n → rd (mulL a b n) i = rd b (rd a i)
  | n + 1, i, h => by
    simp only [mulL]
    by_cases e : i < n
    · rw [rd_app_lt _ _ _ (by rw [mulL_length]; exact e), mulL_rd a b n i e]
    · have : i = n := by omega
      subst this
      have h2 : i < (mulL a b i ++ [rd b (rd a (i : Int))]).length := by simp [mulL_length]
      rw [rd_lt _ i h2, List.getElem_append_right (by rw [mulL_length]; exact Nat.le_refl _)]
      simp [mulL_length]
theorem mulL_inR (n : Nat) (a b : List Int) (ha : inR n a) (hb : inR n b) : inR n (mulL a b n) := by
  refine ⟨mulL_length a b n, fun i hi => ?_⟩
  rw [mulL_rd a b n i hi]
  have h1 := ha.2 i hi
  have h2 := hb.2 (rd a i).toNat (by omega)
  rwa [show ((rd a i).toNat : Int) = rd a i by omega] at h2
theorem specMul_run (n : Nat) (hn : n ≤ 1048576) (a b : List Int) (ha : inR n a) (hb : inR n b) : ∀ (d i : Nat), n - i = d → i ≤ n → Ev (fun k => spec_l1Mul.l0 k a b (mulL a b i) i) (mulL a b n)
  | 0, i, hd, hi => by
    have : i = n := by omega
    subst this
    refine Ev.s ?_
    simp only [spec_l1Mul.l0, ha.1, show ¬ (i : Int) < (i : Int) by omega, if_false]
    exact Ev.const rfl
  | d + 1, i, hd, hi => by
    have h1 := ha.2 i (by omega)
    have hb1 := hb.1
    refine Ev.s ?_
    simp only [spec_l1Mul.l0, ha.1, hb1, mulL_length, show (i : Int) < (n : Int) by omega, show (0 : Int) ≤ (i : Int) by omega, h1.1, h1.2, show i < 17592186044416 by omega, if_true]
    rw [w64n (by omega)]
    exact specMul_run n hn a b ha hb d (i + 1) (by omega) (by omega)
theorem specMul_ev (n : Nat) (hn : n ≤ 1048576) (a b : List Int) (ha : inR n a) (hb : inR n b) : Ev (fun k => spec_l1Mul.f k a b) (mulL a b n) := by
  unfold spec_l1Mul.f
  exact specMul_run n hn a b ha hb n 0 (by omega) (by omega)
theorem implMul_run (n : Nat) (hn : n ≤ 1048576) (a b : List Int) (ha : inR n a) (hb : inR n b) : ∀ (d i : Nat) (l : List Int), n - i = d → i ≤ n → l.length = n → l.take i = mulL a b i → Ev (fun k => impl_mul.l0 k b l a n i) (mulL a b n)
  | 0, i, l, hd, hi, hl, ht => by
    have : i = n := by omega
    subst this
    refine Ev.s ?_
    simp only [impl_mul.l0, show ¬ (i : Int) < (i : Int) by omega, if_false]
    rw [List.take_of_length_le (by omega)] at ht
    exact Ev.const (by rw [ht])
  | d + 1, i, l, hd, hi, hl, ht => by
    have h1 := ha.2 i (by omega)
    have hb1 := hb.1
    refine Ev.s ?_
    simp only [impl_mul.l0, ha.1, hb1, hl, show (i : Int) < (n : Int) by omega, show (0 : Int) ≤ (i : Int) by omega, h1.1, h1.2, if_true, Int.toNat_natCast]
    rw [w64n (by omega)]
    refine implMul_run n hn a b ha hb d (i + 1) _ (by omega) (by omega) (by simpa using hl) ?_
    rw [take_set_one _ _ _ (by omega), ht]
    rfl
theorem implMul_ev (n : Nat) (hn : n ≤ 1048576) (a b : List Int) (ha : inR n a) (hb : inR n b) : Ev (fun k => impl_mul.f k a b) (mulL a b n) := by
  unfold impl_mul.f
  have h1 : n ≤ 35184372088832 := by omega
  have h2 : (0 : Int) ≤ (n : Int) := by omega
  simp only [ha.1, Int.toNat_natCast, h1, h2, if_true]
  exact implMul_run n hn a b ha hb n 0 _ (by omega) (by omega) (by simp) (by simp [mulL])
theorem cw_bound (p : List Int) (n : Nat) (hp : inR n p) : ∀ (f : Nat) (s : List Bool) (c : List Int) (a : Int), s.length = n → 0 ≤ a → a < n → (cw p f s c a).2.length + fresh (cw p f s c a).1 ≤ c.length + fresh s
  | 0, s, c, a, hs, h0, h1 => Nat.le_refl _
  | f + 1, s, c, a, hs, h0, h1 => by
    simp only [cw]
    by_cases e : rdOf false s a = true
    · simp only [e, if_true]
      exact Nat.le_refl _
    · simp only [e, Bool.false_eq_true, if_false]
      have h3 : s.getD a.toNat false = false := by rw [← rdOf_nat s a h0]; simpa using e
      have h4 := fresh_set s a.toNat (by omega) h3
      have h5 := hp.2 a.toNat (by omega)
      rw [show ((a.toNat : Nat) : Int) = a by omega] at h5
      have ih := cw_bound p n hp f (s.set a.toNat true) (c ++ [a]) (rd p a) (by simpa using hs) h5.1 h5.2
      rw [List.length_append, List.length_singleton] at ih
      omega
theorem cyS_bound (p : List Int) (n : Nat) (hp : inR n p) : ∀ i, i ≤ n → ∀ l ∈ (cyS p n i).2, 1 ≤ l.length ∧ l.length ≤ n
  | 0, _, l, hl => by simp [cyS] at hl
  | i + 1, hi, l, hl => by
    have ih := cyS_bound p n hp i (by omega) l
    simp only [cyS] at hl
    have hb := cw_bound p n hp (n + 1) (cyS p n i).1 [] i (cyS_len p n i) (by omega) (by omega)
    have hf := fresh_le (cyS p n i).1
    rw [cyS_len] at hf
    rw [List.length_nil, Nat.zero_add] at hb
    by_cases e : (cw p (n + 1) (cyS p n i).1 [] (i : Int)).2 = []
    · rw [if_pos e] at hl
      exact ih hl
    · rw [if_neg e, List.mem_append] at hl
      rcases hl with hl | hl
      · exact ih hl
      · rw [List.mem_singleton.1 hl]
        have : 0 < (cw p (n + 1) (cyS p n i).1 [] (i : Int)).2.length := List.length_pos_iff.2 e
        omega
theorem cyS_pos (p : List Int) (n : Nat) (h1 : 1 ≤ n) : 0 < (cyS p n n).2.length := by
  have hm : ∀ i, 1 ≤ i → 0 < (cyS p n i).2.length := by
    intro i
    induction i with
    | zero => intro h; omega
    | succ i ih =>
      intro _
      simp only [cyS]
      by_cases hi : 1 ≤ i
      · have := ih hi
        split
        · exact this
        · rw [List.length_append]; omega
      · have : i = 0 := by omega
        subst this
        rw [if_neg (cw_new p n _ _ (by show ¬ (List.replicate n false).getD 0 false = true; rw [List.getD_eq_getElem?_getD, List.getElem?_replicate]; split <;> simp))]
        rw [List.length_append, List.length_singleton]
        omega
  exact hm n h1
theorem rev_run : ∀ (d : Nat) (i j : Int) (l : List Int), l.length ≤ 1048576 → 0 ≤ i → j < l.length → i ≤ 1048576 → -1 ≤ j → j - i ≤ d → ∃ r, Ev (fun k => slices_Reverse_int_int.l0 k l i j) r ∧ r.Perm l
  | 0, i, j, l, hl, h0, h1, h2, h3, hd => by
    refine ⟨l, Ev.s ?_, List.Perm.refl _⟩
    simp only [slices_Reverse_int_int.l0, show ¬ i < j by omega, if_false]
    exact Ev.const rfl
  | d + 1, i, j, l, hl, h0, h1, h2, h3, hd => by
    by_cases hij : i < j
    · obtain ⟨r, r1, r2⟩ := rev_run d (i + 1) (j - 1) ((l.set i.toNat (rd l j)).set j.toNat (rd l i)) (by simpa using hl) (by omega) (by simp only [List.length_set]; omega) (by omega) (by omega) (by omega)
      have hpm : ((l.set i.toNat (rd l j)).set j.toNat (rd l i)).Perm l := by
        have hi : i.toNat < l.length := by omega
        have hj : j.toNat < l.length := by omega
        have e1 : rd l i = l[i.toNat] := by have := rd_lt l i.toNat hi; rwa [show ((i.toNat : Nat) : Int) = i by omega] at this
        have e2 : rd l j = l[j.toNat] := by have := rd_lt l j.toNat hj; rwa [show ((j.toNat : Nat) : Int) = j by omega] at this
        rw [e1, e2]
        exact List.set_set_perm hi hj
      refine ⟨r, Ev.s ?_, r2.trans hpm⟩
      simp only [slices_Reverse_int_int.l0, hij, show 0 ≤ j by omega, h1, h0, show i < (l.length : Int) by omega, if_true, w64 (x := i + 1) (by omega) (by omega), w64 (x := j - 1) (by omega) (by omega)]
      exact r1
    · refine ⟨l, Ev.s ?_, List.Perm.refl _⟩
      simp only [slices_Reverse_int_int.l0, hij, if_false]
      exact Ev.const rfl
theorem rev_ev (l : List Int) (hl : l.length ≤ 1048576) : ∃ r, Ev (fun k => slices_Reverse_int_int.f k l) r ∧ r.Perm l := by
  obtain ⟨r, r1, r2⟩ := rev_run l.length 0 ((l.length : Int) - 1) l hl (by omega) (by omega) (by omega) (by omega) (by omega)
  refine ⟨r, ?_, r2⟩
  unfold slices_Reverse_int_int.f
  rw [w64 (by omega) (by omega)]
  exact r1
def lensL (C : List (List Int)) : List Int := C.map fun l => (l.length : Int)
theorem lens_take (C : List (List Int)) (i : Nat) (h : i < C.length) : lensL (C.take (i + 1)) = lensL (C.take i) ++ [((rd_L1 C (i : Int)).length : Int)] := by
  unfold lensL rd_L1
  rw [List.take_succ_eq_append_getElem h, List.map_append, Int.toNat_natCast, List.getD_eq_getElem?_getD, List.getElem?_eq_getElem h]
  rfl
theorem typeOf_run (C : List (List Int)) (hC : C.length ≤ 1048576) (hp : 0 < C.length) : ∃ r, r.Perm (lensL C) ∧ ∀ (d i : Nat), C.length - i = d → i ≤ C.length → Ev (fun k => impl_typeOf.l0 k (lensL (C.take i)) C C.length i) r := by
  have hll : (lensL C).length = C.length := by simp [lensL]
  have hs : ((lensL C).mergeSort fun x y => decide (x ≤ y)).length = C.length := by rw [List.length_mergeSort, hll]
  obtain ⟨r, r1, r2⟩ := rev_ev ((lensL C).mergeSort fun x y => decide (x ≤ y)) (by omega)
  refine ⟨r, r2.trans (List.mergeSort_perm _ _), ?_⟩
  intro d
  induction d with
  | zero =>
    intro i hd hi
    have e : i = C.length := by omega
    rw [e, List.take_length]
    refine Ev.s ?_
    have hsort : slices_Sort_int_int.f (lensL C) = some ((lensL C).mergeSort fun x y => decide (x ≤ y)) := by
      unfold slices_Sort_int_int.f
      rw [if_pos ⟨by omega, by omega⟩]
    simp only [impl_typeOf.l0, show ¬ (C.length : Int) < (C.length : Int) by omega, if_false, hsort, Option.bind_some]
    exact Ev.bind r1 (Ev.const rfl)
  | succ d ih =>
    intro i hd hi
    have h := ih (i + 1) (by omega) (by omega)
    rw [lens_take C i (by omega)] at h
    have hlt : (lensL (C.take i)).length < 17592186044416 := by simp only [lensL, List.length_map, List.length_take]; omega
    refine Ev.s ?_
    simp only [impl_typeOf.l0, show (i : Int) < (C.length : Int) by omega, show (0 : Int) ≤ (i : Int) by omega, hlt, if_true, w64n (show i < 4611686018427387904 by omega)]
    exact h
def all4 (r : List Int) : Bool := r.all fun x => decide (x = 4)
theorem all4_drop (r : List Int) (i : Nat) (h : i < r.length) : all4 (r.drop i) = (decide (rd r i = 4) && all4 (r.drop (i + 1))) := by
  unfold all4
  rw [List.drop_eq_getElem_cons h, List.all_cons, rd_lt r i h]
theorem isQuad_run (r : List Int) (hr : r.length ≤ 1048576) : ∀ (d i : Nat), r.length - i = d → i ≤ r.length → Ev (fun k => impl_isQuad.l0 k r r.length i) (all4 (r.drop i))
  | 0, i, hd, hi => by
    refine Ev.s ?_
    simp only [impl_isQuad.l0, show ¬ (i : Int) < (r.length : Int) by omega, if_false]
    rw [List.drop_eq_nil_of_le (by omega)]
    exact Ev.const rfl
  | d + 1, i, hd, hi => by
    have ih := isQuad_run r hr d (i + 1) (by omega) (by omega)
    rw [all4_drop r i (by omega)]
    refine Ev.s ?_
    simp only [impl_isQuad.l0, show (i : Int) < (r.length : Int) by omega, show (0 : Int) ≤ (i : Int) by omega, if_true, w64n (show i < 4611686018427387904 by omega)]
    by_cases h : rd r i = 4
    · simp only [h, if_true, decide_true, Bool.true_and]
      exact ih
    · simp only [h, if_false, decide_false, Bool.false_and]
      exact Ev.const rfl
theorem four_run (r : List Int) (hr : r.length ≤ 1048576) : ∀ (d i : Nat), r.length - i = d → i ≤ r.length → Ev (fun k => spec_l6qFour.l0 k r i) (all4 (r.drop i))
  | 0, i, hd, hi => by
    refine Ev.s ?_
    simp only [spec_l6qFour.l0, show ¬ (i : Int) < (r.length : Int) by omega, if_false]
    rw [List.drop_eq_nil_of_le (by omega)]
    exact Ev.const rfl
  | d + 1, i, hd, hi => by
    have ih := four_run r hr d (i + 1) (by omega) (by omega)
    rw [all4_drop r i (by omega)]
    refine Ev.s ?_
    simp only [spec_l6qFour.l0, show (i : Int) < (r.length : Int) by omega, show (0 : Int) ≤ (i : Int) by omega, if_true, w64n (show i < 4611686018427387904 by omega)]
    by_cases h : rd r i = 4
    · simp only [h, if_true, decide_true, Bool.true_and]
      exact ih
    · simp only [h, if_false, decide_false, Bool.false_and]
      exact Ev.const rfl
def tlL (C : List (List Int)) : Nat → List Int
  | 0 => []
  | d + 1 => List.replicate (C.countP fun l => decide (l.length = d + 1)) ((d + 1 : Nat) : Int) ++ tlL C d
theorem tlL_mem (C : List (List Int)) (x : Int) : ∀ d, x ∈ tlL C d ↔ ∃ l ∈ C, 1 ≤ l.length ∧ l.length ≤ d ∧ x = (l.length : Int)
  | 0 => by
    simp only [tlL, List.not_mem_nil, false_iff]
    rintro ⟨l, _, h1, h2, _⟩
    omega
  | d + 1 => by
    simp only [tlL, List.mem_append, List.mem_replicate, tlL_mem C x d]
    constructor
    · rintro (⟨h, rfl⟩ | ⟨l, hl, h1, h2, rfl⟩)
      · obtain ⟨l, hl, e⟩ := List.countP_pos_iff.1 (Nat.pos_of_ne_zero h)
        have e := of_decide_eq_true e
        exact ⟨l, hl, by omega, by omega, by rw [e]⟩
      · exact ⟨l, hl, h1, by omega, rfl⟩
    · rintro ⟨l, hl, h1, h2, rfl⟩
      by_cases e : l.length = d + 1
      · exact .inl ⟨Nat.ne_of_gt (List.countP_pos_iff.2 ⟨l, hl, decide_eq_true e⟩), by rw [e]⟩
      · exact .inr ⟨l, hl, h1, by omega, rfl⟩
theorem tlL_len (C : List (List Int)) : ∀ d, (tlL C d).length ≤ d * C.length
  | 0 => by simp [tlL]
  | d + 1 => by
    have ih := tlL_len C d
    have := List.countP_le_length (p := fun l : List Int => decide (l.length = d + 1)) (l := C)
    simp only [tlL, List.length_append, List.length_replicate]
    rw [Nat.succ_mul]
    omega
theorem type_inner (C : List (List Int)) (hC : C.length ≤ 12) (n : Nat) (v : Nat) (hv : v ≤ 12) (r : List Int) : ∀ (d i : Nat) (acc : List Int), C.length - i = d → i ≤ C.length → acc.length + d ≤ 1000 →
    Ev (fun k => spec_l1Type.l0 k (acc ++ List.replicate ((C.drop i).countP fun l => decide (l.length = v)) (v : Int)) C (wrap64 ((v : Int) - 1))) r → Ev (fun k => spec_l1Type.l1 k acc C v i) r
  | 0, i, acc, hd, hi, ha, h => by
    refine Ev.s ?_
    rw [List.drop_eq_nil_of_le (by omega)] at h
    simp only [List.countP_nil, List.replicate_zero, List.append_nil] at h
    simp only [spec_l1Type.l1, show ¬ (i : Int) < (C.length : Int) by omega, if_false]
    exact h
  | d + 1, i, acc, hd, hi, ha, h => by
    have hlt : i < C.length := by omega
    have hrd : rd_L1 C (i : Int) = C[i] := by unfold rd_L1; rw [Int.toNat_natCast, List.getD_eq_getElem?_getD, List.getElem?_eq_getElem hlt]; rfl
    rw [List.drop_eq_getElem_cons hlt, List.countP_cons] at h
    refine Ev.s ?_
    simp only [spec_l1Type.l1, show (i : Int) < (C.length : Int) by omega, show (0 : Int) ≤ (i : Int) by omega, hrd, if_true, w64n (show i < 4611686018427387904 by omega)]
    by_cases e : C[i].length = v
    · simp only [e, decide_true, if_true, show acc.length < 17592186044416 by omega] at h ⊢
      refine type_inner C hC n v hv r d (i + 1) (acc ++ [(v : Int)]) (by omega) (by omega) (by rw [List.length_append, List.length_singleton]; omega) ?_
      rw [List.append_assoc, List.singleton_append, ← List.replicate_succ]
      exact h
    · simp only [e, decide_false, Bool.false_eq_true, if_false, Nat.add_zero] at h
      simp only [show ¬ ((C[i].length : Nat) : Int) = (v : Int) by omega, if_false]
      exact type_inner C hC n v hv r d (i + 1) acc (by omega) (by omega) (by omega) h
theorem type_outer (C : List (List Int)) (hC : C.length ≤ 12) : ∀ (d : Nat) (acc : List Int), d ≤ 12 → acc.length + 12 * d ≤ 500 → Ev (fun k => spec_l1Type.l0 k acc C (d : Int)) (acc ++ tlL C d)
  | 0, acc, hd, ha => by
    refine Ev.s ?_
    simp only [spec_l1Type.l0, tlL, List.append_nil, show ¬ ((0 : Nat) : Int) > 0 by omega, if_false]
    exact Ev.const rfl
  | d + 1, acc, hd, ha => by
    have hc := List.countP_le_length (p := fun l : List Int => decide (l.length = d + 1)) (l := C)
    have ih := type_outer C hC d (acc ++ List.replicate (C.countP fun l => decide (l.length = d + 1)) ((d + 1 : Nat) : Int)) (by omega) (by rw [List.length_append, List.length_replicate]; omega)
    refine Ev.s ?_
    simp only [spec_l1Type.l0, show ((d + 1 : Nat) : Int) > 0 by omega, if_true]
    refine type_inner C hC 0 (d + 1) hd _ C.length 0 acc (by omega) (by omega) (by omega) ?_
    rw [List.drop_zero, w64 (x := ((d + 1 : Nat) : Int) - 1) (by omega) (by omega), show ((d + 1 : Nat) : Int) - 1 = (d : Int) by omega]
    rw [List.append_assoc] at ih
    exact ih
theorem all4_congr (r s : List Int) (h : ∀ x, x ∈ r ↔ x ∈ s) : all4 r = all4 s := by
  unfold all4
  rw [Bool.eq_iff_iff, List.all_eq_true, List.all_eq_true]
  exact ⟨fun z x hx => z x ((h x).2 hx), fun z x hx => z x ((h x).1 hx)⟩
theorem facesF_ev (t f : List Int) (n : Nat) (hn : n ≤ 1048576) (hrt : inR n t) (hrf : inR n f) : Ev (fun k => spec_l2Faces.f k t f) (mulL f t n) ∧ Ev (fun k => impl_mul.f k f t) (mulL f t n) :=
  ⟨by unfold spec_l2Faces.f; exact Ev.bind (specMul_ev n hn f t hrf hrt) (Ev.const rfl), implMul_ev n hn f t hrf hrt⟩
theorem four_both (t f : List Int) (h : isMap t f) : ∃ q : Bool, Ev (fun k => spec_l6qFour.f k t f) q ∧ Ev (fun k => impl_isQuad.f k t f) q ∧ (q = true ↔ ∀ l ∈ (cyS (mulL f t t.length) t.length t.length).2, l.length = 4) := by
  obtain ⟨pt, pf, hlen, hfl, hcon⟩ := id h
  have hrt := isPerm_inR t pt
  have hrf : inR t.length f := by have := isPerm_inR f pf; rwa [← hlen] at this
  have hn : t.length ≤ 12 ∧ 1 ≤ t.length := ⟨pt.2.1, pt.1⟩
  have hm := mulL_inR t.length f t hrf hrt
  have hCb := cyS_bound _ t.length hm t.length (Nat.le_refl _)
  have hCm := cyS_many (mulL f t t.length) t.length t.length
  have hCp := cyS_pos (mulL f t t.length) t.length hn.2
  have hml := mulL_length f t t.length
  obtain ⟨hSm, hIm⟩ := facesF_ev t f t.length (by omega) hrt hrf
  have hSc := specCyc_ev (mulL f t t.length) t.length (by omega) hm
  have hIc := implCyc_ev (mulL f t t.length) t.length (by omega) hm
  obtain ⟨b, _, b2, b3⟩ := mapValid_both t f (by omega) (by omega)
  rw [b3.2 h] at b2
  obtain ⟨r, r1, r2⟩ := typeOf_run (cyS (mulL f t t.length) t.length t.length).2 (by omega) hCp
  have hType : Ev (fun k => impl_typeOf.f k (mulL f t t.length)) r := by
    unfold impl_typeOf.f
    refine Ev.bind hIc ?_
    exact r2 _ 0 rfl (by omega)
  have hrl : r.length ≤ 1048576 := by rw [r1.length_eq]; simp only [lensL, List.length_map]; omega
  have hSType : Ev (fun k => spec_l1Type.f k (mulL f t t.length)) (tlL (cyS (mulL f t t.length) t.length t.length).2 t.length) := by
    unfold spec_l1Type.f
    refine Ev.bind hSc ?_
    rw [hml]
    have := type_outer (cyS (mulL f t t.length) t.length t.length).2 (by omega) t.length [] (by omega) (by simp only [List.length_nil]; omega)
    exact this
  have hsl : (tlL (cyS (mulL f t t.length) t.length t.length).2 t.length).length ≤ 1048576 := by
    have h := tlL_len (cyS (mulL f t t.length) t.length t.length).2 t.length
    have : t.length * (cyS (mulL f t t.length) t.length t.length).2.length ≤ 12 * 12 := Nat.mul_le_mul hn.1 (by omega)
    omega
  have h4 : all4 r = all4 (tlL (cyS (mulL f t t.length) t.length t.length).2 t.length) := all4_congr _ _ fun x => by
    rw [r1.mem_iff, tlL_mem]
    unfold lensL
    rw [List.mem_map]
    constructor
    · rintro ⟨l, hl, rfl⟩
      exact ⟨l, hl, (hCb l hl).1, (hCb l hl).2, rfl⟩
    · rintro ⟨l, hl, _, _, rfl⟩
      exact ⟨l, hl, rfl⟩
  refine ⟨all4 r, ?_, ?_, ?_⟩
  · unfold spec_l6qFour.f
    refine Ev.bind hSm ?_
    refine Ev.bind hSType ?_
    rw [h4]
    exact four_run _ hsl _ 0 rfl (by omega)
  · unfold impl_isQuad.f
    refine Ev.bind b2 ?_
    simp only [if_true]
    refine Ev.bind hIm ?_
    refine Ev.bind hType ?_
    exact isQuad_run r hrl r.length 0 (by omega) (by omega)
  · unfold all4
    rw [List.all_eq_true]
    constructor
    · intro z l hl
      have := z (l.length : Int) (r1.mem_iff.2 (List.mem_map.2 ⟨l, hl, rfl⟩))
      have := of_decide_eq_true this
      omega
    · intro z x hx
      obtain ⟨l, hl, rfl⟩ := List.mem_map.1 (r1.mem_iff.1 hx)
      exact decide_eq_true (by have := z l hl; omega)
def backL (p : List Int) (n : Nat) : Nat → List Int
  | 0 => List.replicate n 0
  | i + 1 => (backL p n i).set (rd p i).toNat i
theorem backL_length (p : List Int) (n : Nat) : ∀ i, (backL p n i).length = n
  | 0 => by simp [backL]
  | i + 1 => by simp [backL, backL_length p n i]
theorem backL_range (p : List Int) (n : Nat) : ∀ (i : Nat), i ≤ n → ∀ j : Nat, j < n → 0 ≤ rd (backL p n i) j ∧ rd (backL p n i) j < n
  | 0, _, j, hj => by
    have : rd (backL p n 0) j = 0 := by
      rw [rd_lt _ j (by simp [backL]; exact hj)]
      simp [backL]
    omega
  | i + 1, hi, j, hj => by
    have ih := backL_range p n i (by omega) j hj
    simp only [backL]
    by_cases e : (rd p i).toNat = j
    · subst e
      rw [rd_set_self _ _ _ (by rw [backL_length]; exact hj)]
      omega
    · rw [rd_set_ne _ _ _ _ e]
      exact ih
theorem backL_inR (p : List Int) (n : Nat) : inR n (backL p n n) := ⟨backL_length p n n, backL_range p n n (Nat.le_refl _)⟩
theorem specBack_run (n : Nat) (hn : n ≤ 1048576) (p : List Int) (hp : inR n p) : ∀ (d i : Nat), n - i = d → i ≤ n → Ev (fun k => spec_l1Back.l0 k p (backL p n i) i) (backL p n n)
  | 0, i, hd, hi => by
    have : i = n := by omega
    subst this
    refine Ev.s ?_
    simp only [spec_l1Back.l0, hp.1, show ¬ (i : Int) < (i : Int) by omega, if_false]
    exact Ev.const rfl
  | d + 1, i, hd, hi => by
    have h1 := hp.2 i (by omega)
    refine Ev.s ?_
    simp only [spec_l1Back.l0, hp.1, backL_length, show (i : Int) < (n : Int) by omega, show (0 : Int) ≤ (i : Int) by omega, h1.1, h1.2, if_true]
    rw [w64n (by omega)]
    exact specBack_run n hn p hp d (i + 1) (by omega) (by omega)
theorem specBack_ev (n : Nat) (hn : n ≤ 1048576) (p : List Int) (hp : inR n p) : Ev (fun k => spec_l1Back.f k p) (backL p n n) := by
  unfold spec_l1Back.f
  have h1 : n ≤ 35184372088832 := by omega
  have h2 : (0 : Int) ≤ (n : Int) := by omega
  simp only [hp.1, Int.toNat_natCast, h1, h2, if_true]
  exact specBack_run n hn p hp n 0 (by omega) (by omega)
theorem implBack_run (n : Nat) (hn : n ≤ 1048576) (p : List Int) (hp : inR n p) : ∀ (d i : Nat), n - i = d → i ≤ n → Ev (fun k => impl_back.l0 k (backL p n i) p n i) (backL p n n)
  | 0, i, hd, hi => by
    have : i = n := by omega
    subst this
    refine Ev.s ?_
    simp only [impl_back.l0, show ¬ (i : Int) < (i : Int) by omega, if_false]
    exact Ev.const rfl
  | d + 1, i, hd, hi => by
    have h1 := hp.2 i (by omega)
    refine Ev.s ?_
    simp only [impl_back.l0, hp.1, backL_length, show (i : Int) < (n : Int) by omega, show (0 : Int) ≤ (i : Int) by omega, h1.1, h1.2, if_true]
    rw [w64n (by omega)]
    exact implBack_run n hn p hp d (i + 1) (by omega) (by omega)
theorem implBack_ev (n : Nat) (hn : n ≤ 1048576) (p : List Int) (hp : inR n p) : Ev (fun k => impl_back.f k p) (backL p n n) := by
  unfold impl_back.f
  have h1 : n ≤ 35184372088832 := by omega
  have h2 : (0 : Int) ≤ (n : Int) := by omega
  simp only [hp.1, Int.toNat_natCast, h1, h2, if_true]
  exact implBack_run n hn p hp n 0 (by omega) (by omega)
def nmE (g : List Int) : Nat → Nat
  | 0 => 0
  | i + 1 => if Int.tmod (rd g i) 2 = 0 then nmE g i + 1 else nmE g i
theorem nmE_mono (g : List Int) (i : Nat) : ∀ d, nmE g i ≤ nmE g (i + d)
  | 0 => Nat.le_refl _
  | d + 1 => by
    have := nmE_mono g i d
    rw [← Nat.add_assoc]
    simp only [nmE]
    split <;> omega
theorem nmE_le (g : List Int) : ∀ i, nmE g i ≤ i
  | 0 => Nat.le_refl _
  | i + 1 => by
    have := nmE_le g i
    simp only [nmE]
    split <;> omega
theorem isMap_K {t f : List Int} (h : isMap t f) : MapK t f t.length := by
  obtain ⟨pt, pf, hlen, hfl, hcon⟩ := h
  refine ⟨pt.2.1, pt.1, isPerm_inR t pt, fun i j hi hj e => ?_, by have := isPerm_inR f pf; rwa [← hlen] at this, by rw [hlen]; exact hfl, by rw [hlen]; exact hcon⟩
  refine Classical.byContradiction fun hne => ?_
  rcases Nat.lt_or_gt_of_ne hne with q | q
  · exact (pt.2.2 j hj).2.2 i q e
  · exact (pt.2.2 i hi).2.2 j q e.symm
def tmF (t fc bk nm : List Int) (i : Nat) : Int := rd nm (rd bk (rd fc (rd fc (rd t i))))
def tmA (g t nm : List Int) : Nat → List Int
  | 0 => []
  | i + 1 => if Int.tmod (rd g i) 2 = 0 then tmA g t nm i ++ [rd nm (rd t i)] else tmA g t nm i
def tmB (g t fc bk nm : List Int) : Nat → List Int
  | 0 => []
  | i + 1 => if Int.tmod (rd g i) 2 = 0 then tmB g t fc bk nm i ++ [tmF t fc bk nm i] else tmB g t fc bk nm i
theorem tmA_len (g t nm : List Int) : ∀ i, (tmA g t nm i).length = nmE g i
  | 0 => rfl
  | i + 1 => by
    simp only [tmA, nmE]
    split <;> simp [tmA_len g t nm i]
theorem tmB_len (g t fc bk nm : List Int) : ∀ i, (tmB g t fc bk nm i).length = nmE g i
  | 0 => rfl
  | i + 1 => by
    simp only [tmB, nmE]
    split <;> simp [tmB_len g t fc bk nm i]
theorem tm_l1 (t f g nm fc bk : List Int) (n : Nat) (hn : n ≤ 12) (ht : inR n t) (hg : g.length = n) (hfc : inR n fc) (hbk : inR n bk) (hnl : nm.length = n) (hnm : ∀ z : Nat, z < n → rd nm z = nmE g z) :
    ∀ (d i : Nat) (A B : List Int), n - i = d → i ≤ n → A.length = nmE g n → B.length = nmE g n → A.take (nmE g i) = tmA g t nm i → B.take (nmE g i) = tmB g t fc bk nm i →
      Ev (fun k => spec_TutteMap.l1 k g nm bk fc i t f (tmA g t nm i) (tmB g t fc bk nm i)) (tmA g t nm n, tmB g t fc bk nm n, true) ∧
      Ev (fun k => impl_TutteMap.l1 k nm fc bk g n i t f A B) (tmA g t nm n, tmB g t fc bk nm n, true)
  | 0, i, A, B, hd, hi, hA, hB, eA, eB => by
    have : i = n := by omega
    subst this
    rw [← hA, List.take_length] at eA
    rw [← hB, List.take_length] at eB
    refine ⟨Ev.s ?_, Ev.s ?_⟩
    · simp only [spec_TutteMap.l1, hg, show ¬ (i : Int) < (i : Int) by omega, if_false]
      exact Ev.const rfl
    · simp only [impl_TutteMap.l1, show ¬ (i : Int) < (i : Int) by omega, if_false]
      exact Ev.const (by rw [eA, eB])
  | d + 1, i, A, B, hd, hi, hA, hB, eA, eB => by
    have hlt : i < n := by omega
    have hti := ht.2 i hlt
    obtain ⟨a, ha⟩ : ∃ a : Nat, rd t i = a := ⟨(rd t i).toNat, by omega⟩
    rw [ha] at hti
    have han : a < n := by omega
    have h1 := hfc.2 a han
    obtain ⟨b, hb⟩ : ∃ b : Nat, rd fc a = b := ⟨(rd fc a).toNat, by omega⟩
    rw [hb] at h1
    have hbn : b < n := by omega
    have h2 := hfc.2 b hbn
    obtain ⟨c, hc⟩ : ∃ c : Nat, rd fc b = c := ⟨(rd fc b).toNat, by omega⟩
    rw [hc] at h2
    have hcn : c < n := by omega
    have h3 := hbk.2 c hcn
    obtain ⟨e, he⟩ : ∃ e : Nat, rd bk c = e := ⟨(rd bk c).toNat, by omega⟩
    rw [he] at h3
    have g1 : (i : Int) < (n : Int) := by omega
    have g2 : (0 : Int) ≤ (i : Int) := by omega
    have g3 : (0 : Int) ≤ (a : Int) := by omega
    have g5 : (0 : Int) ≤ (b : Int) := by omega
    have g7 : (0 : Int) ≤ (c : Int) := by omega
    have g9 : (0 : Int) ≤ (e : Int) := by omega
    have hm1 := nmE_mono g (i + 1) (n - (i + 1))
    rw [show i + 1 + (n - (i + 1)) = n by omega] at hm1
    have hle := nmE_le g n
    by_cases ev : Int.tmod (rd g i) 2 = 0
    · have hs : nmE g (i + 1) = nmE g i + 1 := by simp only [nmE, ev, if_true]
      have hlt2 : nmE g i < nmE g n := by omega
      have q1 : ((nmE g i : Nat) : Int) < ((nmE g n : Nat) : Int) := by omega
      have q0 : (0 : Int) ≤ ((nmE g i : Nat) : Int) := by omega
      have hAs : tmA g t nm (i + 1) = tmA g t nm i ++ [rd nm a] := by simp only [tmA, ev, if_true, ha]
      have hBs : tmB g t fc bk nm (i + 1) = tmB g t fc bk nm i ++ [rd nm e] := by simp only [tmB, ev, if_true, tmF, ha, hb, hc, he]
      have lA : (tmA g t nm i).length < 17592186044416 := by rw [tmA_len]; omega
      have lB : (tmB g t fc bk nm i).length < 17592186044416 := by rw [tmB_len]; omega
      obtain ⟨r1, r2⟩ := tm_l1 t f g nm fc bk n hn ht hg hfc hbk hnl hnm d (i + 1) (A.set (nmE g i) (rd nm a)) (B.set (nmE g i) (rd nm e)) (by omega) (by omega) (by simp [hA]) (by simp [hB])
        (by rw [hs, take_set_one _ _ _ (by omega), eA, hAs]) (by rw [hs, take_set_one _ _ _ (by omega), eB, hBs])
      rw [hAs, hBs] at r1
      refine ⟨Ev.s ?_, Ev.s ?_⟩
      · simp only [spec_TutteMap.l1, hg, ht.1, hnl, hfc.1, hbk.1, g1, g2, g3, g5, g7, g9, ev, ha, hb, hc, he, hti.2, h1.2, h2.2, h3.2, lA, lB, if_true]
        rw [w64n (by omega)]
        exact r1
      · simp only [impl_TutteMap.l1, hg, ht.1, hnl, hfc.1, hbk.1, g1, g2, g3, g5, g7, g9, ev, ha, hb, hc, he, hti.2, h1.2, h2.2, h3.2, hnm i hlt, q0, q1, hA, hB, if_true, Int.toNat_natCast]
        rw [w64n (by omega)]
        exact r2
    · have hs : nmE g (i + 1) = nmE g i := by simp only [nmE, ev, if_false]
      have hAs : tmA g t nm (i + 1) = tmA g t nm i := by simp only [tmA, ev, if_false]
      have hBs : tmB g t fc bk nm (i + 1) = tmB g t fc bk nm i := by simp only [tmB, ev, if_false]
      obtain ⟨r1, r2⟩ := tm_l1 t f g nm fc bk n hn ht hg hfc hbk hnl hnm d (i + 1) A B (by omega) (by omega) hA hB (by rw [hs, eA, hAs]) (by rw [hs, eB, hBs])
      rw [hAs, hBs] at r1
      refine ⟨Ev.s ?_, Ev.s ?_⟩
      · simp only [spec_TutteMap.l1, hg, g1, g2, ev, if_true, if_false]
        rw [w64n (by omega)]
        exact r1
      · simp only [impl_TutteMap.l1, hg, g1, g2, ev, if_true, if_false]
        rw [w64n (by omega)]
        exact r2
theorem tmod2 (x : Int) (h : 0 ≤ x) : Int.tmod x 2 = 0 ∨ Int.tmod x 2 = 1 := by
  rw [Int.tmod_eq_emod_of_nonneg h]; omega
theorem tm_l0 (t f g : List Int) (n : Nat) (H : MapK t f n) (hg : g.length = n) (hg0 : ∀ x : Nat, x < n → 0 ≤ rd g x) :
    ∀ (d i : Nat) (l : List Int), n - i = d → i ≤ n → l.length = n → (∀ z : Nat, z < i → rd l z = nmE g z) →
      ∃ r, Ev (fun k => spec_TutteMap.l0 k g l (nmE g i) i t f) r ∧ Ev (fun k => impl_TutteMap.l0 k g l (nmE g i) f n i t f) r ∧ r.1.length ≤ 12 ∧ r.2.1.length ≤ 12
  | 0, i, l, hd, hi, hl, h => by
    have : i = n := by omega
    subst this
    obtain ⟨hn, h1, ht, hti, hf, hfl, hcon⟩ := id H
    obtain ⟨hSm, hIm⟩ := facesF_ev t f i (by omega) ht hf
    have hle := nmE_le g i
    obtain ⟨r1, r2⟩ := tm_l1 t f g l (mulL f t i) (backL t i i) i hn ht hg (mulL_inR i f t hf ht) (backL_inR t i) hl h i 0 (List.replicate (nmE g i) 0) (List.replicate (nmE g i) 0) (by omega) (by omega) (by simp) (by simp) (by simp [nmE, tmA]) (by simp [nmE, tmB])
    refine ⟨(tmA g t l i, tmB g t (mulL f t i) (backL t i i) l i, true), Ev.s ?_, Ev.s ?_, by rw [tmA_len]; omega, by rw [tmB_len]; omega⟩
    · simp only [spec_TutteMap.l0, hg, show ¬ (i : Int) < (i : Int) by omega, if_false]
      refine Ev.bind (specBack_ev i (by omega) t ht) ?_
      refine Ev.bind hSm ?_
      exact r1
    · simp only [impl_TutteMap.l0, show ¬ (i : Int) < (i : Int) by omega, if_false]
      refine Ev.bind hIm ?_
      refine Ev.bind (implBack_ev i (by omega) t ht) ?_
      simp only [show (0 : Int) ≤ ((nmE g i : Nat) : Int) by omega, show nmE g i ≤ 35184372088832 by omega, if_true, Int.toNat_natCast, hg]
      exact r2
  | d + 1, i, l, hd, hi, hl, h => by
    obtain ⟨hn, h1, ht, hti, hf, hfl, hcon⟩ := id H
    have hlt : i < n := by omega
    have hfi := hf.2 i hlt
    have g1 : (i : Int) < (n : Int) := by omega
    have g2 : (0 : Int) ≤ (i : Int) := by omega
    have hle := nmE_le g i
    by_cases ev : Int.tmod (rd g i) 2 = Int.tmod (rd g (rd f i)) 2
    · refine ⟨([], [], false), Ev.s ?_, Ev.s ?_, by simp, by simp⟩
      · simp only [spec_TutteMap.l0, hg, hf.1, hfi.1, hfi.2, g1, g2, ev, if_true]
        exact Ev.const rfl
      · simp only [impl_TutteMap.l0, hg, hf.1, hfi.1, hfi.2, g1, g2, ev, if_true]
        exact Ev.const rfl
    · obtain ⟨r, r1, r2, r3⟩ := tm_l0 t f g n H hg hg0 d (i + 1) (l.set i (nmE g i)) (by omega) (by omega) (by simp [hl]) (fun z hz => by
        rw [rd_put _ _ _ _ (by omega)]
        by_cases e : z = i
        · rw [if_pos e, e]
        · rw [if_neg e]; exact h z (by omega))
      refine ⟨r, Ev.s ?_, Ev.s ?_, r3⟩
      · simp only [spec_TutteMap.l0, hg, hf.1, hfi.1, hfi.2, g1, g2, ev, hl, if_true, if_false, Int.toNat_natCast]
        rw [w64n (i := i) (by omega), w64n (i := nmE g i) (by omega)]
        have : wrap64 (((nmE g i + 1 : Nat) : Int) - Int.tmod (rd g i) 2) = ((nmE g (i + 1) : Nat) : Int) := by
          rcases tmod2 (rd g i) (hg0 i hlt) with q | q
          · rw [q, w64 (by omega) (by omega)]
            simp only [nmE, q, if_true]; omega
          · rw [q, w64 (by omega) (by omega)]
            simp only [nmE, q, show ¬ (1 : Int) = 0 by decide, if_false]; omega
        rw [this]
        exact r1
      · simp only [impl_TutteMap.l0, hg, hf.1, hfi.1, hfi.2, g1, g2, ev, hl, if_true, if_false, Int.toNat_natCast, Option.bind_some]
        by_cases q : Int.tmod (rd g i) 2 = 0
        · simp only [q, if_true]
          rw [w64n (i := i) (by omega), w64n (i := nmE g i) (by omega)]
          have : nmE g (i + 1) = nmE g i + 1 := by simp only [nmE, q, if_true]
          rw [this] at r2
          exact r2
        · simp only [q, if_false]
          rw [w64n (i := i) (by omega)]
          have : nmE g (i + 1) = nmE g i := by simp only [nmE, q, if_false]
          rw [this] at r2
          exact r2
theorem tutteMap_both (t f : List Int) (a : Int) (ht : t.length ≤ 1048576) (hf : f.length ≤ 1048576) : ∃ r : List Int × List Int × Bool, Ev (fun k => spec_TutteMap.f k t f a) r ∧ Ev (fun k => impl_TutteMap.f k t f a) r ∧ r.1.length ≤ 12 ∧ r.2.1.length ≤ 12 := by
  obtain ⟨b, b1, b2, b3⟩ := mapValid_both t f ht hf
  have no : ∀ (d : Bool), Ev (fun k => spec_TutteMap.j0 k a true t f) ([], [], false) ∧ Ev (fun k => impl_TutteMap.j0 k a true t f) ([], [], false) := fun _ => ⟨Ev.s (by
    simp only [spec_TutteMap.j0, if_true]; exact Ev.const rfl), Ev.s (by
    simp only [impl_TutteMap.j0, if_true]; exact Ev.const rfl)⟩
  unfold spec_TutteMap.f impl_TutteMap.f
  cases b with
  | false =>
    refine ⟨([], [], false), ?_, ?_, by simp, by simp⟩
    · refine Ev.bind (a := false) ?_ ?_
      · unfold spec_l2Dart.f
        refine Ev.bind b1 ?_
        simp only [Bool.false_eq_true, if_false]
        exact Ev.const rfl
      · simp only [Bool.false_eq_true, if_false]
        exact (no true).1
    · refine Ev.bind (a := false) ?_ ?_
      · unfold impl_isQuad.f
        refine Ev.bind b2 ?_
        simp only [Bool.false_eq_true, if_false]
        exact Ev.const rfl
      · simp only [Bool.false_eq_true, if_false]
        exact (no true).2
  | true =>
    have hm := b3.1 rfl
    have H := isMap_K hm
    obtain ⟨q, q1, q2, _⟩ := four_both t f hm
    have hD : Ev (fun k => spec_l2Dart.f k t f a) (decide (0 ≤ a ∧ a ≤ (t.length : Int) - 1)) := by
      unfold spec_l2Dart.f
      refine Ev.bind b1 ?_
      have hw : wrap64 ((t.length : Int) - 1) = (t.length : Int) - 1 := w64 (by omega) (by omega)
      simp only [if_true, hw, l6In_eq, Option.bind_some]
      exact Ev.const rfl
    by_cases hq : q = true
    · subst hq
      by_cases ha : 0 ≤ a ∧ a ≤ (t.length : Int) - 1
      · obtain ⟨a', rfl⟩ : ∃ a' : Nat, a = a' := ⟨a.toNat, by omega⟩
        have ha' : a' < t.length := by omega
        obtain ⟨g, hg, e1, e2⟩ := far_both t f t.length H a' ha'
        obtain ⟨r, r1, r2, r3⟩ := tm_l0 t f g t.length H hg.len (fun x hx => (hg.rng x hx).1) t.length 0 (List.replicate t.length 0) (by omega) (by omega) (by simp) (fun z hz => by omega)
        have hfl : f.length = t.length := H.2.2.2.2.1.1
        refine ⟨r, ?_, ?_, r3⟩
        · refine Ev.bind hD ?_
          simp only [ha, and_self, decide_true, if_true]
          refine Ev.bind q1 ?_
          refine Ev.s ?_
          simp only [spec_TutteMap.j0, Bool.not_true, Bool.false_eq_true, if_false]
          refine Ev.bind e1 ?_
          simp only [hg.len, Int.toNat_natCast, show (0 : Int) ≤ (t.length : Int) by omega, show t.length ≤ 35184372088832 by omega, if_true]
          exact r1
        · refine Ev.bind q2 ?_
          simp only [if_true, show ¬ (a' : Int) < 0 by omega, if_false]
          refine Ev.s ?_
          simp only [impl_TutteMap.j0, show ¬ (a' : Int) ≥ (t.length : Int) by omega, decide_false, Bool.false_eq_true, if_false]
          refine Ev.bind e2 ?_
          simp only [hg.len, Int.toNat_natCast, show (0 : Int) ≤ (t.length : Int) by omega, show t.length ≤ 35184372088832 by omega, if_true, hfl]
          exact r2
      · refine ⟨([], [], false), ?_, ?_, by simp, by simp⟩
        · refine Ev.bind hD ?_
          simp only [ha, decide_false, Bool.false_eq_true, if_false]
          exact (no true).1
        · refine Ev.bind q2 ?_
          simp only [if_true]
          by_cases c : a < 0
          · simp only [c, if_true]; exact (no true).2
          · simp only [c, if_false, show a ≥ (t.length : Int) by omega, decide_true]; exact (no true).2
    · rw [Bool.not_eq_true] at hq
      subst hq
      refine ⟨([], [], false), ?_, ?_, by simp, by simp⟩
      · refine Ev.bind hD ?_
        by_cases ha : 0 ≤ a ∧ a ≤ (t.length : Int) - 1
        · simp only [ha, and_self, decide_true, if_true]
          refine Ev.bind q1 ?_
          simp only [Bool.not_false]
          exact (no true).1
        · simp only [ha, decide_false, Bool.false_eq_true, if_false]
          exact (no true).1
      · refine Ev.bind q2 ?_
        simp only [Bool.false_eq_true, if_false]
        exact (no true).2
theorem szMap_cases (t f : List Int) (ht : t.length ≤ maxLen) (hf : f.length ≤ maxLen) : ∃ s, laws_szMap.f t f 1048576 = some s ∧ (s < 0 ∨ t.length ≤ 1048576 ∧ f.length ≤ 1048576 ∧ ¬ s < 0) := by
  unfold maxLen at ht hf
  have h1 : wrap64 (1048576 - (t.length : Int)) = 1048576 - (t.length : Int) := w64 (by omega) (by omega)
  by_cases c1 : (1048576 - (t.length : Int)) < 0
  · refine ⟨-1, ?_, .inl (by decide)⟩
    unfold laws_szMap.f laws_szIntS.f
    simp [h1, c1]
  · have h2 : wrap64 (1048576 - (t.length : Int) - (f.length : Int)) = 1048576 - (t.length : Int) - (f.length : Int) := w64 (by omega) (by omega)
    by_cases c2 : (1048576 - (t.length : Int) - (f.length : Int)) < 0
    · refine ⟨-1, ?_, .inl (by decide)⟩
      unfold laws_szMap.f laws_szIntS.f
      simp [h1, c1, h2, c2]
    · refine ⟨1048576 - (t.length : Int) - (f.length : Int), ?_, .inr ⟨by omega, by omega, c2⟩⟩
      unfold laws_szMap.f laws_szIntS.f
      simp [h1, c1, h2, c2]
theorem toMap_ev (t f : List Int) (ht : t.length ≤ 1048576) (hf : f.length ≤ 1048576) : Ev (fun k => laws_toMap.f k t f) (t, f) := by
  unfold laws_toMap.f
  refine Ev.bind (toIntS_ev t ht) ?_
  exact Ev.bind (toIntS_ev f hf) (Ev.const rfl)
def marks (n : Nat) (m : Int) : List Int := (List.range n).map fun (i : Nat) => m + (i : Int)
theorem marks_length (n : Nat) (m : Int) : (marks n m).length = n := by simp [marks]
theorem marks_rd (n : Nat) (m : Int) (i : Nat) (h : i < n) : rd (marks n m) i = m + i := by
  rw [rd_lt _ _ (by rw [marks_length]; exact h)]
  simp [marks]
theorem mark_run (m : Int) (hm : 0 ≤ m) (hm' : m ≤ 4611686018427387904) : ∀ (d : Nat) (l : List Int) (i : Nat), l.length ≤ 4194304 → l.length - i = d → i ≤ l.length → l.take i = (marks l.length m).take i → Ev (fun k => laws_markIntS.l0 k l (m + i) i) (m + l.length, marks l.length m)
  | 0, l, i, hl, hd, hi, ht => by
    refine Ev.s ?_
    simp only [laws_markIntS.l0, show ¬ (i : Int) < (l.length : Int) by omega, if_false]
    have hi' : i = l.length := by omega
    subst hi'
    rw [List.take_length] at ht
    have e : (marks l.length m).take l.length = marks l.length m := by
      rw [List.take_of_length_le]; rw [marks_length]; exact Nat.le_refl _
    rw [e] at ht
    refine Ev.const ?_
    rw [← ht]
  | d + 1, l, i, hl, hd, hi, ht => by
    have hlt : i < l.length := by omega
    refine Ev.s ?_
    simp only [laws_markIntS.l0, show (i : Int) < (l.length : Int) by omega, show (0 : Int) ≤ i by omega, if_true]
    rw [w64 (x := (i : Int) + 1) (by omega) (by omega), w64 (x := m + (i : Int) + 1) (by omega) (by omega), show ((i : Int) + 1) = ((i + 1 : Nat) : Int) by omega, show m + (i : Int) + 1 = m + ((i + 1 : Nat) : Int) by omega]
    have hL : (l.set i (m + (i : Int))).length = l.length := by simp
    have ih := mark_run m hm hm' d (l.set i (m + (i : Int))) (i + 1) (by omega) (by omega) (by omega) ?_
    · rw [hL] at ih
      rw [Int.toNat_natCast]
      exact ih
    · rw [hL]
      have h2 : i < (marks l.length m).length := by rw [marks_length]; exact hlt
      rw [List.take_succ_eq_append_getElem (by simpa using hlt), List.take_succ_eq_append_getElem h2, List.take_set_of_le (Nat.le_refl _), ht]
      simp [marks]
theorem mark_ev (l : List Int) (m : Int) (hm : 0 ≤ m) (hm' : m ≤ 4611686018427387904) (hl : l.length ≤ 4194304) : Ev (fun k => laws_markIntS.f k l m) (m + l.length, marks l.length m) := by
  have := mark_run m hm hm' l.length l 0 hl (by omega) (by omega) (by simp)
  unfold laws_markIntS.f
  simpa using this
theorem held_run (n : Nat) (m : Int) (hn : n ≤ 4194304) (hm : 0 ≤ m) (hm' : m ≤ 4611686018427387904) : ∀ (d i : Nat), n - i = d → i ≤ n → Ev (fun k => laws_heldIntS.l0 k (marks n m) (m + i) i) (m + n)
  | 0, i, hd, hi => by
    refine Ev.s ?_
    simp only [laws_heldIntS.l0, marks_length, show ¬ (i : Int) < (n : Int) by omega, if_false]
    have : i = n := by omega
    subst this
    exact Ev.const rfl
  | d + 1, i, hd, hi => by
    refine Ev.s ?_
    simp only [laws_heldIntS.l0, marks_length, show (i : Int) < (n : Int) by omega, show (0 : Int) ≤ i by omega, if_true, marks_rd n m i (by omega)]
    rw [w64 (x := (i : Int) + 1) (by omega) (by omega), w64 (x := m + (i : Int) + 1) (by omega) (by omega), show ((i : Int) + 1) = ((i + 1 : Nat) : Int) by omega, show m + (i : Int) + 1 = m + ((i + 1 : Nat) : Int) by omega]
    exact held_run n m hn hm hm' d (i + 1) (by omega) (by omega)
theorem held_ev (n : Nat) (m : Int) (hn : n ≤ 4194304) (hm : 0 ≤ m) (hm' : m ≤ 4611686018427387904) : Ev (fun k => laws_heldIntS.f k (marks n m) m) (m + n) := by
  have := held_run n m hn hm hm' n 0 (by omega) (by omega)
  unfold laws_heldIntS.f
  simpa using this
theorem eqMap_same (t f : List Int) (ht : t.length ≤ 1048576) (hf : f.length ≤ 1048576) : Ev (fun k => laws_eqMap.f k t f t f) true := by
  unfold laws_eqMap.f
  refine Ev.bind (eqIntS_same t ht) ?_
  simp only [if_true]
  exact Ev.bind (eqIntS_same f hf) (Ev.const rfl)
theorem markMap_ev (t f : List Int) (ht : t.length ≤ 1048576) (hf : f.length ≤ 1048576) : Ev (fun k => laws_markMap.f k t f 1) (1 + (t.length : Int) + (f.length : Int), marks t.length 1, marks f.length (1 + (t.length : Int))) := by
  unfold laws_markMap.f
  refine Ev.bind (mark_ev t 1 (by omega) (by omega) (by omega)) ?_
  exact Ev.bind (mark_ev f (1 + (t.length : Int)) (by omega) (by omega) (by omega)) (Ev.const rfl)
theorem heldMap_ev (n m : Nat) (hn : n ≤ 1048576) (hm : m ≤ 1048576) : Ev (fun k => laws_heldMap.f k (marks n 1) (marks m (1 + (n : Int))) 1) (1 + (n : Int) + (m : Int)) := by
  unfold laws_heldMap.f
  refine Ev.bind (held_ev n 1 (by omega) (by omega) (by omega)) ?_
  simp only [show ¬ 1 + (n : Int) < 0 by omega, if_false]
  refine Ev.bind (held_ev m (1 + (n : Int)) (by omega) (by omega) (by omega)) ?_
  simp only [show ¬ 1 + (n : Int) + (m : Int) < 0 by omega, if_false]
  exact Ev.const rfl
end Go.Proofs.Ytlpbalebodlipaa.PH

set_option linter.unusedVariables false
set_option linter.unusedSimpArgs false
namespace Go.Proofs.Ytlpbalebodlipaa.Pure
open Go.RowKit Go.Proofs.Ytlpbalebodlipaa.PH Go.Proofs.YtlpbalebodlipaaW.PrintWords Go.Proofs.YtlpbalebodlipaaW.PrintLast Go.Proofs.YtlpbalebodlipaaW.PrintMore
theorem FnExactTutteMap : laws_FnExactTutteMap.Pure := by
  intro t f a ht _ hf _ _
  obtain ⟨s, hs, h0 | ⟨ht', hf', h0⟩⟩ := szMap_cases t f ht hf
  · refine ⟨0, ?_⟩
    unfold laws_FnExactTutteMap.f
    rw [hs, Option.bind_some, if_pos h0]
  · obtain ⟨⟨T, F, b⟩, e1, e2, hT, hF⟩ := tutteMap_both t f a ht' hf'
    have hT' : T.length ≤ 1048576 := Nat.le_trans hT (by omega)
    have hF' : F.length ≤ 1048576 := Nat.le_trans hF (by omega)
    have hb : (b != b) = false := by simp
    refine Ev.rounds (r := true) ?_
    unfold laws_FnExactTutteMap.f
    simp only [hs, Option.bind_some, h0, if_false]
    refine Ev.bind (toMap_ev t f ht' hf') ?_
    refine Ev.bind e1 ?_
    refine Ev.bind (toMap_ev t f ht' hf') ?_
    refine Ev.bind e2 ?_
    refine Ev.bind (eqMap_same T F hT' hF') ?_
    simp only [if_true, hb]
    refine Ev.s ?_
    simp only [laws_FnExactTutteMap.j0, Bool.false_eq_true, if_false]
    refine Ev.bind (toMap_ev t f ht' hf') ?_
    refine Ev.bind (eqMap_same t f ht' hf') ?_
    simp only [if_true]
    refine Ev.bind (markMap_ev t f ht' hf') ?_
    simp only [show ¬ 1 + (t.length : Int) + (f.length : Int) < 0 by omega, if_false]
    refine Ev.bind (eqMap_same T F hT' hF') ?_
    simp only [if_true, hb]
    refine Ev.s ?_
    simp only [laws_FnExactTutteMap.j1, Bool.false_eq_true, if_false]
    refine Ev.bind (markMap_ev T F hT' hF') ?_
    refine Ev.bind (heldMap_ev T.length F.length hT' hF') ?_
    simp only [show ¬ 1 + (T.length : Int) + (F.length : Int) < 0 by omega, if_false, if_true]
    refine Ev.bind (toMap_ev t f ht' hf') ?_
    refine Ev.bind e2 ?_
    refine Ev.bind (eqMap_same T F hT' hF') ?_
    simp only [if_true, hb]
    refine Ev.s ?_
    simp only [laws_FnExactTutteMap.j2, Bool.false_eq_true, if_false]
    refine Ev.bind (heldMap_ev T.length F.length hT' hF') ?_
    simp only [show ¬ 1 + (T.length : Int) + (F.length : Int) < 0 by omega, if_false, if_true]
    exact Ev.const rfl
end Go.Proofs.Ytlpbalebodlipaa.Pure

namespace Go.Proofs.Ytlpbalebodlipaa.fnExactTutteMap
open Go.ChangeShapes Go.WideShapes Go.ChangeAt Go.RowKit Go.Joins Go.Proofs.YtlpbalebodlipaaW.PrintWords Go.Proofs.YtlpbalebodlipaaW.PrintLast
open Go.ChangeMaps (open_string shut_string)
set_option linter.unusedVariables false
theorem own : ownKnob Try.prog.godebug = none := by kernel_rfl
theorem laidOut : laidOutB Try.prog = true := by kernel_rfl
def IsRow (k : IntKind) (w : World) (a : Option Addr) (len cap : Nat) (zs : List Int) : Prop :=
  (a = none ∧ len = 0 ∧ cap = 0 ∧ zs = []) ∨
  ∃ x, a = some x ∧ len ≤ cap ∧ cap ≤ maxLen ∧ zs.length = cap ∧ (∀ i, i < zs.length → w.cell? (x.add i) = some (.int k (zs.getD i 0))) ∧ ∀ n ∈ zs, (Lit.int k n).wf = true
theorem cells62 : Try.prog.cellsOf 62 = 2 := by kernel_rfl
set_option maxRecDepth 100000 in
theorem lifted (os : Os) (started : os.Started) (H : Type) (enc : TypeId × Value → H) :
    ReturnsInHanded {} Try.checked os 13 .any (Rows.fnExactTutteMapSpec.pre6 enc Try.prog Try.f13 Rows.fnExactTutteMapRow.domain false) (Rows.fnExactTutteMapSpec.post enc Try.prog Try.f13 false true false false) := by
  refine returnsInHanded_of_change_sized (C := Try.checked) own started (by kernel_rfl) Try.func13
    (ChangeSpec.witness6 (enc := enc) (C := Try.checked) false ⟨#[], #[.agg #[.slice none 0 0, .slice none 0 0], .int .i64 0], []⟩ 8 (by kernel_rfl) (by kernel_rfl) (by kernel_rfl) (by kernel_rfl)) ?_
  intro W base args ds gs before hval0 hW hcnd hsz0 _
  have hval : ∀ (j : Nat) t v, Try.f13.params[j]? = some t → args[j]? = some v → Value.okWide Try.prog W .any base t v := hval0
  have hW' := hW
  obtain ⟨p, q, hA0, hV, rfl, hfz, hnd⟩ := hW
  have hA : DataW.TrodAll enc Try.prog W 0 (fun _ => true) true Try.f13.params.toList args.toList ds p := hA0
  rw [Try.params13] at hA hval
  obtain ⟨v0, vs0, d0, ds0, p0, q0, hargs, rfl, rfl, h0, r0⟩ := trodAll_cons hA
  obtain ⟨v1, vs1, d1, ds1, p1, q1, rfl, rfl, rfl, h1, r1⟩ := trodAll_cons r0
  obtain ⟨rfl, rfl, rfl⟩ := trodAll_nil r1
  obtain rfl : args = #[v0, v1] := by cases args; simp_all
  obtain ⟨rfl, rfl⟩ := trodVars_none hV
  have k0 := h0
  have lt0 : ∀ x ∈ p0, x.block < W.heap.size := by obtain ⟨m, hm⟩ := k0; exact DataW.trod_lt m _ _ _ hm
  obtain ⟨c0_0, c0_1, y0_0, y0_1, m0, e0, _, _, hy0_0, hy0_1⟩ := open_agg2 Try.underlying62 (by kernel_rfl) cells62 (hval 0 62 v0 rfl rfl) h0
  subst e0
  obtain ⟨a0_0, len0_0, cap0_0, z0_0, ec0_0, w0_0⟩ : ∃ a len cap zs, c0_0 = .slice a len cap ∧ IsRow .i64 W a len cap zs := by
    rcases open_ints Try.underlying23 Try.underlying3 (by kernel_rfl) hy0_0 with ⟨hcs, _⟩ | ⟨x, l, c, zs, hcs, _, hl, hm, hz, _, hcell, hwz⟩
    · simp at hcs; exact ⟨none, 0, 0, [], hcs, .inl ⟨rfl, rfl, rfl, rfl⟩⟩
    · simp at hcs; exact ⟨_, _, _, zs, hcs, .inr ⟨_, rfl, hl, hm, by simpa using hz, hcell, hwz⟩⟩
  subst ec0_0
  obtain ⟨l0_0, el0_0, hr0_0, hm0_0, hw0_0, hc0_0⟩ := ReadsInt.ofRowC w0_0
  subst el0_0
  obtain ⟨a0_1, len0_1, cap0_1, z0_1, ec0_1, w0_1⟩ : ∃ a len cap zs, c0_1 = .slice a len cap ∧ IsRow .i64 W a len cap zs := by
    rcases open_ints Try.underlying23 Try.underlying3 (by kernel_rfl) hy0_1 with ⟨hcs, _⟩ | ⟨x, l, c, zs, hcs, _, hl, hm, hz, _, hcell, hwz⟩
    · simp at hcs; exact ⟨none, 0, 0, [], hcs, .inl ⟨rfl, rfl, rfl, rfl⟩⟩
    · simp at hcs; exact ⟨_, _, _, zs, hcs, .inr ⟨_, rfl, hl, hm, by simpa using hz, hcell, hwz⟩⟩
  subst ec0_1
  obtain ⟨l0_1, el0_1, hr0_1, hm0_1, hw0_1, hc0_1⟩ := ReadsInt.ofRowC w0_1
  subst el0_1
  obtain ⟨a1, rfl, rfl, rfl, w1⟩ := open_int Try.underlying3 (hval 1 3 v1 rfl rfl) h1
  clear hA0 hval0 hsz0
  obtain ⟨k, h⟩ := Pure.FnExactTutteMap l0_0 l0_1 a1 hm0_0 hw0_0 hm0_1 hw0_1 w1
  refine (PH.laws_FnExactTutteMap.calls k _ _ l0_0 _ _ l0_1 a1 true W (Kd.C_of_reads (d := (0 : Int)) (h1 := fun _ => rfl) hr0_0) hc0_0 (Kd.C_of_reads (d := (0 : Int)) (h1 := fun _ => rfl) hr0_1) hc0_1 h).mono fun e W' ⟨he, bel0⟩ => ?_
  have bel : Below W.heap.size W W' := bel0
  subst he
  exact ⟨_, rfl, _, _, _, [], _, [], hW', trodAll_mk1 (shut_bool Try.underlying4 _), (trodAll_cons_mk (Below.trod laidOut (by kernel_rfl) (of_decide_eq_true (by kernel_rfl)) k0 bel lt0) (trodAll_cons_mk (shut_int Try.underlying3 w1) trodAll_mk0)), rfl, bel.frame _, fun h => by cases h⟩
theorem over : Rows.fnExactTutteMapRow.holds Try.pinned (OpenSpec.ofChange Rows.fnExactTutteMapSpec) :=
  OpenClaim.holds_of_wide 13 Try.f13 rfl rfl rfl rfl rfl rfl rfl ⟨rfl, rfl, rfl, rfl, rfl⟩ rfl rfl rfl rfl rfl (by kernel_rfl) Try.func13 (by kernel_rfl)
    (of_decide_eq_true (by kernel_rfl)) (by unfold Func.isWrapper; first | (rw [if_pos (by decide +kernel)]; kernel_rfl) | (rw [if_neg (by decide +kernel)]; exact ⟨rfl, rfl⟩))
    (fun os started H enc _ => lifted os started H enc)
theorem proved : Rows.FnExactTutteMapSaid := over
#print axioms proved
end Go.Proofs.Ytlpbalebodlipaa.fnExactTutteMap
namespace Go.Proofs.Ytlpbalebodlipaa
theorem fnExactTutteMap_holds : Rows.FnExactTutteMapSaid := fnExactTutteMap.proved
end Go.Proofs.Ytlpbalebodlipaa
