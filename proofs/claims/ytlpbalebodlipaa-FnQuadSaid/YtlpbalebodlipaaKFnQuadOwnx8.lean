/- A part of the proof of FnQuad. There are no conditions. -/
import Derived.Test.YtlpbalebodlipaaKFnQuadOwnx7
set_option linter.unusedVariables false
set_option linter.unusedSimpArgs false
namespace Go.Proofs.Ytlpbalebodlipaa.PL
open Go.RowKit Go.Proofs.YtlpbalebodlipaaW.PrintWords Go.Proofs.YtlpbalebodlipaaW.PrintLast Go.Proofs.YtlpbalebodlipaaW.PrintMore
def fI (t f : List Int) (n : Nat) : Prop := n ≤ 12 ∧ 1 ≤ n ∧ inR n t ∧ da n t ∧ inR n f ∧ (∀ i : Nat, i < n → jw f i) ∧ ∀ i j : Nat, i < n → j < n → Reach [t, f] n i j
def hJ (t f : List Int) (n a : Nat) (g : List Int)  : Prop := (g.length = n) ∧ (∀ x : Nat, x < n → 0 ≤ rd g x ∧ rd g x < n) ∧ (rd g a = 0) ∧ (∀ x : Nat, x < n → rd g (rd t x) = rd g x) ∧ (∀ x : Nat, x < n → rd g x ≤ rd g (rd f x) + 1) ∧ (∀ x : Nat, x < n → rd g x = 0 → Reach [t] n x a) ∧ (∀ x : Nat, x < n → 0 < rd g x → ∃ y : Nat, y < n ∧ Reach [t] n y x ∧ rd g (rd f y) + 1 = rd g x)
theorem hJ.len {t f : List Int} {n a : Nat} {g : List Int}  (h : hJ t f n a g) : g.length = n := h.1
theorem hJ.rng {t f : List Int} {n a : Nat} {g : List Int}  (h : hJ t f n a g) : ∀ x : Nat, x < n → 0 ≤ rd g x ∧ rd g x < n := h.2.1
theorem hJ.start {t f : List Int} {n a : Nat} {g : List Int}  (h : hJ t f n a g) : rd g a = 0 := h.2.2.1
theorem hJ.turn {t f : List Int} {n a : Nat} {g : List Int}  (h : hJ t f n a g) : ∀ x : Nat, x < n → rd g (rd t x) = rd g x := h.2.2.2.1
theorem hJ.flip {t f : List Int} {n a : Nat} {g : List Int}  (h : hJ t f n a g) : ∀ x : Nat, x < n → rd g x ≤ rd g (rd f x) + 1 := h.2.2.2.2.1
theorem hJ.zero {t f : List Int} {n a : Nat} {g : List Int}  (h : hJ t f n a g) : ∀ x : Nat, x < n → rd g x = 0 → Reach [t] n x a := h.2.2.2.2.2.1
theorem hJ.back {t f : List Int} {n a : Nat} {g : List Int}  (h : hJ t f n a g) : ∀ x : Nat, x < n → 0 < rd g x → ∃ y : Nat, y < n ∧ Reach [t] n y x ∧ rd g (rd f y) + 1 = rd g x := h.2.2.2.2.2.2
theorem Iq {t : List Int} {n : Nat} (ht : inR n t) (hi : da n t) (g : List Int) (h : ∀ x : Nat, x < n → rd g (rd t x) = rd g x) {x y : Nat} (hr : Reach [t] n x y) : rd g x = rd g y := by
  have hc : qf [t] n (fun z => rd g z = rd g y) := mP t n ht hi _ fun k hk e => by
    have h1 := ht.2 k hk
    have h2 := h k hk
    rw [show ((rd t k).toNat : Int) = rd t k by omega]
    exact h2.trans e
  exact (hr _ hc).2 rfl
theorem lr (l : List Int) (i j : Nat) (v : Int) (h : i < l.length) : rd (l.set i v) j = if j = i then v else rd l j := by
  by_cases e : j = i
  · subst e; rw [if_pos rfl, mg _ _ _ h]
  · rw [if_neg e, lT _ _ _ _ (fun z => e z.symm)]
theorem tO (n : Nat) (v : Int) (z : Nat) (h : z < n) : rd (List.replicate n v) z = v := by
  unfold rd; rw [Int.toNat_natCast, List.getD_eq_getElem?_getD, List.getElem?_replicate, if_pos h]; rfl
theorem aat (ys : List Int) (n c : Nat) (v : Int) (hl : ys.length = n) (hc : c < n) (hne : rd ys c ≠ v) : lag (ys.set c v) (List.replicate n v) n < lag ys (List.replicate n v) n := by
  refine CU ys (ys.set c v) (List.replicate n v) (fun i h => ?_) c ?_ ?_ n hc
  · rw [lr _ _ _ _ (by omega)]
    by_cases e : i = c
    · rw [if_pos e, e, tO n v c hc]
    · rw [if_neg e]; exact h
  · rw [tO n v c hc]; exact hne
  · rw [tO n v c hc, lr _ _ _ _ (by omega), if_pos rfl]
theorem Ph (t : List Int) (n : Nat) (hn : n ≤ 12) (ht : inR n t) (hi : da n t) (v : Int) (hv : 0 ≤ v) (d : Nat) (xs : List Int) (hneg : ∀ z : Nat, z < n → Reach [t] n d z → rd xs z < 0) :
    ∀ (m : Nat) (ys : List Int) (c : Nat) (S : Nat → Prop), lag ys (List.replicate n v) n ≤ m → ys.length = n → c < n → Reach [t] n d c →
      (∀ z : Nat, z < n → S z → rd ys z = v ∧ Reach [t] n d z ∧ (S (rd t z).toNat ∨ rd t z = c)) → (∀ z : Nat, z < n → ¬ S z → rd ys z = rd xs z) → (S d ∨ c = d) →
      ∃ r, Ev (fun k => dfar.at k t v ys c) r ∧ r.length = n ∧ ∀ z : Nat, z < n → (Reach [t] n d z → rd r z = v) ∧ (¬ Reach [t] n d z → rd r z = rd xs z) := by
  intro m
  induction m with
  | zero =>
    intro ys c S hm hl hc hr hS hN hd
    have hnn : ¬ rd ys c < 0 := by
      have h0 := CI ys (List.replicate n v) n (by omega) c hc
      rw [h0, tO n v c hc]; omega
    have hSc : S c := Classical.byContradiction fun z => by
      have h1 := hN c hc z
      have h2 := hneg c hc hr
      omega
    have hcl : qf [t] n S := mP t n ht hi S fun k hk hk' => by
      rcases (hS k hk hk').2.2 with e | e
      · exact e
      · rw [e, Int.toNat_natCast]; exact hSc
    have hSd : S d := by rcases hd with e | e; exact e; rw [← e]; exact hSc
    refine ⟨ys, Ev.s ?_, hl, fun z hz => ⟨fun h => (hS z hz ((h S hcl).1 hSd)).1, fun h => hN z hz fun hs => h (hS z hz hs).2.1⟩⟩
    simp only [dfar.at, hl, show (0 : Int) ≤ (c : Int) by omega, show (c : Int) < (n : Int) by omega, hnn, if_true, if_false]
    exact Ev.const rfl
  | succ m ih =>
    intro ys c S hm hl hc hr hS hN hd
    by_cases hneg' : rd ys c < 0
    · have hSc : ¬ S c := fun z => by
        have := (hS c hc z).1
        omega
      have htc := ht.2 c hc
      obtain ⟨c', hc'⟩ : ∃ c' : Nat, rd t c = c' := ⟨(rd t c).toNat, by omega⟩
      have hc'n : c' < n := by omega
      have hstep := Reach.step (ps := [t]) (p := t) (by simp) hc
      rw [hc', Int.toNat_natCast] at hstep
      have hlag := aat ys n c v hl hc (by omega)
      obtain ⟨r, e1, e2, e3⟩ := ih (ys.set c v) c' (fun z => S z ∨ z = c) (by omega) (by simp [hl]) hc'n (hr.trans hstep)
        (fun z hz hs => by
          rw [lr _ _ _ _ (by omega)]
          by_cases e : z = c
          · subst e; rw [if_pos rfl]; exact ⟨rfl, hr, .inr hc'⟩
          · rw [if_neg e]
            have hs' : S z := hs.resolve_right e
            obtain ⟨s1, s2, s3⟩ := hS z hz hs'
            refine ⟨s1, s2, .inl ?_⟩
            rcases s3 with s3 | s3
            · exact .inl s3
            · rw [s3, Int.toNat_natCast]; exact .inr rfl)
        (fun z hz hs => by
          rw [lr _ _ _ _ (by omega), if_neg (fun e => hs (.inr e))]
          exact hN z hz fun e => hs (.inl e))
        (by rcases hd with e | e; exact .inl (.inl e); exact .inl (.inr e.symm))
      refine ⟨r, Ev.s ?_, e2, e3⟩
      simp only [dfar.at, hl, ht.1, show (0 : Int) ≤ (c : Int) by omega, show (c : Int) < (n : Int) by omega, hneg', if_true, Int.toNat_natCast, hc']
      exact e1
    · have hSc : S c := Classical.byContradiction fun z => by
        have h1 := hN c hc z
        have h2 := hneg c hc hr
        omega
      have hcl : qf [t] n S := mP t n ht hi S fun k hk hk' => by
        rcases (hS k hk hk').2.2 with e | e
        · exact e
        · rw [e, Int.toNat_natCast]; exact hSc
      have hSd : S d := by rcases hd with e | e; exact e; rw [← e]; exact hSc
      refine ⟨ys, Ev.s ?_, hl, fun z hz => ⟨fun h => (hS z hz ((h S hcl).1 hSd)).1, fun h => hN z hz fun hs => h (hS z hz hs).2.1⟩⟩
      simp only [dfar.at, hl, show (0 : Int) ≤ (c : Int) by omega, show (c : Int) < (n : Int) by omega, hneg', if_true, if_false]
      exact Ev.const rfl
def kg (t f : List Int) (n a : Nat) (xs : List Int) (L : Nat)  : Prop := (xs.length = n) ∧ (∀ x : Nat, x < n → -1 ≤ rd xs x ∧ rd xs x ≤ L) ∧ (rd xs a = 0) ∧ (∀ x : Nat, x < n → rd xs (rd t x) = rd xs x) ∧ (∀ x : Nat, x < n → rd xs x = 0 → Reach [t] n x a) ∧ (∀ x : Nat, x < n → 0 < rd xs x → ∃ y : Nat, y < n ∧ Reach [t] n y x ∧ rd xs (rd f y) + 1 = rd xs x)
theorem kg.len {t f : List Int} {n a : Nat} {xs : List Int} {L : Nat}  (h : kg t f n a xs L) : xs.length = n := h.1
theorem kg.rng {t f : List Int} {n a : Nat} {xs : List Int} {L : Nat}  (h : kg t f n a xs L) : ∀ x : Nat, x < n → -1 ≤ rd xs x ∧ rd xs x ≤ L := h.2.1
theorem kg.start {t f : List Int} {n a : Nat} {xs : List Int} {L : Nat}  (h : kg t f n a xs L) : rd xs a = 0 := h.2.2.1
theorem kg.turn {t f : List Int} {n a : Nat} {xs : List Int} {L : Nat}  (h : kg t f n a xs L) : ∀ x : Nat, x < n → rd xs (rd t x) = rd xs x := h.2.2.2.1
theorem kg.zero {t f : List Int} {n a : Nat} {xs : List Int} {L : Nat}  (h : kg t f n a xs L) : ∀ x : Nat, x < n → rd xs x = 0 → Reach [t] n x a := h.2.2.2.2.1
theorem kg.back {t f : List Int} {n a : Nat} {xs : List Int} {L : Nat}  (h : kg t f n a xs L) : ∀ x : Nat, x < n → 0 < rd xs x → ∃ y : Nat, y < n ∧ Reach [t] n y x ∧ rd xs (rd f y) + 1 = rd xs x := h.2.2.2.2.2
theorem aaC (t f : List Int) (n : Nat) (hn : n ≤ 12) (ht : inR n t) (hi : da n t) (hf : inR n f) (a : Nat) (xs : List Int) (L : Nat) (hL : 1 ≤ L) (h : kg t f n a xs L) (e d : Nat) (he : e < n) (hd : d < n) (hfe : rd f e = d) (hfd : rd f d = e) (hed : rd xs d + 1 = L) :
    ∃ r, Ev (fun k => dfar.at k t (L : Int) xs (e : Int)) r ∧ kg t f n a r L ∧ 0 ≤ rd r e ∧ (∀ z : Nat, z < n → 0 ≤ rd xs z → rd r z = rd xs z) ∧ ∀ z : Nat, z < n → rd r z = L ∨ rd r z = rd xs z := by
  by_cases hneg : rd xs e < 0
  · have hall : ∀ z : Nat, z < n → Reach [t] n e z → rd xs z < 0 := fun z hz hr => by
      have := Iq ht hi xs h.turn hr
      omega
    obtain ⟨r, e1, e2, e3⟩ := Ph t n hn ht hi L (by omega) e xs hall _ xs e (fun _ => False) (Nat.le_refl _) h.len he (Reach.refl _ _ _) (fun z _ hs => hs.elim) (fun z _ _ => rfl) (.inr rfl)
    have keep : ∀ z : Nat, z < n → 0 ≤ rd xs z → rd r z = rd xs z := fun z hz h0 => (e3 z hz).2 fun hr => by
      have := hall z hz hr
      omega
    have ha0 := h.start
    have hxl := h.len
    have hxa : ∀ z : Nat, z < n → rd r z = L ∨ rd r z = rd xs z := fun z hz => by
      by_cases hr : Reach [t] n e z
      · exact .inl ((e3 z hz).1 hr)
      · exact .inr ((e3 z hz).2 hr)
    refine ⟨r, e1, ⟨e2, fun x hx => ?_, ?_, fun x hx => ?_, fun x hx h0 => ?_, fun x hx h0 => ?_⟩, ?_, keep, hxa⟩
    · rcases hxa x hx with q | q
      · omega
      · rw [q]; exact h.rng x hx
    · by_cases han : a < n
      · rw [keep a han (by omega)]; exact h.start
      · unfold rd at ha0 ⊢
        rw [Int.toNat_natCast, List.getD_eq_getElem?_getD, List.getElem?_eq_none (by omega)] at ha0 ⊢
        exact ha0
    · have htx := ht.2 x hx
      obtain ⟨c, hc⟩ : ∃ c : Nat, rd t x = c := ⟨(rd t x).toNat, by omega⟩
      have hstep := Reach.step (ps := [t]) (p := t) (by simp) hx
      have htu := h.turn x hx
      rw [hc, Int.toNat_natCast] at hstep
      rw [hc] at htu ⊢
      by_cases hr : Reach [t] n e x
      · rw [(e3 x hx).1 hr, (e3 c (by omega)).1 (hr.trans hstep)]
      · rw [(e3 x hx).2 hr, (e3 c (by omega)).2 (fun q => hr (q.trans hstep.symm))]; exact htu
    · rcases hxa x hx with q | q
      · omega
      · rw [q] at h0; exact h.zero x hx h0
    · by_cases hr : Reach [t] n e x
      · refine ⟨e, he, hr, ?_⟩
        rw [hfe, keep d hd (by omega), (e3 x hx).1 hr]; exact hed
      · have q := (e3 x hx).2 hr
        rw [q] at h0 ⊢
        obtain ⟨y, y1, y2, y3⟩ := h.back x hx h0
        have hfy := hf.2 y y1
        refine ⟨y, y1, y2, ?_⟩
        obtain ⟨c, hc⟩ : ∃ c : Nat, rd f y = c := ⟨(rd f y).toNat, by omega⟩
        rw [hc] at y3 ⊢
        rw [keep c (by omega) (by omega)]; exact y3
    · rw [(e3 e he).1 (Reach.refl _ _ _)]; omega
  · refine ⟨xs, Ev.s ?_, h, by omega, fun z _ _ => rfl, fun z _ => .inr rfl⟩
    simp only [dfar.at, h.len, show (0 : Int) ≤ (e : Int) by omega, show (e : Int) < (n : Int) by omega, hneg, if_true, if_false]
    exact Ev.const rfl
theorem G1 (t f : List Int) (n : Nat) (hn : n ≤ 12) (ht : inR n t) (hi : da n t) (hf : inR n f) (hfl : ∀ i : Nat, i < n → jw f i) (a L : Nat) (hLn : L ≤ 12) :
    ∀ (d i : Nat) (xs : List Int), n - i = d → i ≤ n → kg t f n a xs (L + 1) → (∀ x : Nat, x < n → 0 ≤ rd xs x → (rd xs x < L ∨ rd xs x = L ∧ x < i) → 0 ≤ rd xs (rd f x) ∧ rd xs (rd f x) ≤ rd xs x + 1) →
      ∃ r, Ev (fun k => dfar.l2 k t f (L : Int) xs (i : Int)) r ∧ kg t f n a r (L + 1) ∧ ∀ x : Nat, x < n → 0 ≤ rd r x → rd r x < ((L + 1 : Nat) : Int) → 0 ≤ rd r (rd f x) ∧ rd r (rd f x) ≤ rd r x + 1
  | 0, i, xs, hd, hi', h, hE => by
    refine ⟨xs, Ev.s ?_, h, fun x hx h0 h1 => hE x hx h0 (by omega)⟩
    simp only [dfar.l2, hf.1, show ¬ (i : Int) < (n : Int) by omega, if_false]
    exact Ev.const rfl
  | d + 1, i, xs, hd, hi', h, hE => by
    have hlt : i < n := by omega
    have hfi := hf.2 i hlt
    obtain ⟨e, he⟩ : ∃ e : Nat, rd f i = e := ⟨(rd f i).toNat, by omega⟩
    have hen : e < n := by omega
    have hfe : rd f e = i := by have := (hfl i hlt).2; rwa [he] at this
    have g1 : (i : Int) < (n : Int) := by omega
    have g2 : (0 : Int) ≤ (i : Int) := by omega
    by_cases c : rd xs i = L
    · obtain ⟨r, e1, e2, e3, e4, e5⟩ := aaC t f n hn ht hi hf a xs (L + 1) (by omega) h e i hen hlt hfe he (by omega)
      obtain ⟨r', f1, f2, f3⟩ := G1 t f n hn ht hi hf hfl a L hLn d (i + 1) r (by omega) (by omega) e2 (fun x hx h0 hc => by
        have hfx := hf.2 x hx
        obtain ⟨q, hq⟩ : ∃ q : Nat, rd f x = q := ⟨(rd f x).toNat, by omega⟩
        by_cases hxi : x = i
        · subst hxi
          rw [he]
          have hb := (e2.rng e hen).2
          have hk := e4 x hx (by omega)
          exact ⟨e3, by omega⟩
        · have hx0 : 0 ≤ rd xs x := by
            rcases e5 x hx with w | w
            · omega
            · rw [← w]; exact h0
          have hv := e4 x hx hx0
          rw [hv] at h0 hc
          have := hE x hx hx0 (by omega)
          rw [hq] at this ⊢
          rw [e4 q (by omega) this.1, hv]; exact this)
      refine ⟨r', Ev.s ?_, f2, f3⟩
      simp only [dfar.l2, hf.1, h.len, g1, g2, c, he, if_true, show wrap64 ((L : Int) + 1) = ((L + 1 : Nat) : Int) from eM (by omega)]
      refine Ev.bind e1 ?_
      rw [eM (by omega)]
      exact f1
    · obtain ⟨r', f1, f2, f3⟩ := G1 t f n hn ht hi hf hfl a L hLn d (i + 1) xs (by omega) (by omega) h (fun x hx h0 hc => hE x hx h0 (by
        rcases hc with hc | hc
        · exact .inl hc
        · refine .inr ⟨hc.1, ?_⟩
          have : x ≠ i := fun e => c (by rw [← e]; exact hc.1)
          omega))
      refine ⟨r', Ev.s ?_, f2, f3⟩
      simp only [dfar.l2, hf.1, h.len, g1, g2, c, if_true, if_false]
      rw [eM (by omega)]
      exact f1
theorem PG (t f : List Int) (n : Nat) (hn : n ≤ 12) (ht : inR n t) (hi : da n t) (hf : inR n f) (hfl : ∀ i : Nat, i < n → jw f i) (a : Nat) :
    ∀ (d L : Nat) (xs : List Int), n - L = d → L ≤ n → kg t f n a xs L → (∀ x : Nat, x < n → 0 ≤ rd xs x → rd xs x < L → 0 ≤ rd xs (rd f x) ∧ rd xs (rd f x) ≤ rd xs x + 1) →
      ∃ r, Ev (fun k => dfar.l1 k t f xs (L : Int)) r ∧ kg t f n a r n ∧ ∀ x : Nat, x < n → 0 ≤ rd r x → rd r x < (n : Int) → 0 ≤ rd r (rd f x) ∧ rd r (rd f x) ≤ rd r x + 1
  | 0, L, xs, hd, hL, h, hE => by
    have : L = n := by omega
    subst this
    refine ⟨xs, Ev.s ?_, h, hE⟩
    simp only [dfar.l1, ht.1, show ¬ (L : Int) < (L : Int) by omega, if_false]
    exact Ev.const rfl
  | d + 1, L, xs, hd, hL, h, hE => by
    have h' : kg t f n a xs (L + 1) := ⟨h.len, fun x hx => ⟨(h.rng x hx).1, by have := (h.rng x hx).2; omega⟩, h.start, h.turn, h.zero, h.back⟩
    obtain ⟨r, e1, e2, e3⟩ := G1 t f n hn ht hi hf hfl a L (by omega) n 0 xs (by omega) (by omega) h' (fun x hx h0 hc => hE x hx h0 (by omega))
    obtain ⟨r', f1, f2, f3⟩ := PG t f n hn ht hi hf hfl a d (L + 1) r (by omega) (by omega) e2 e3
    refine ⟨r', Ev.s ?_, f2, f3⟩
    simp only [dfar.l1, ht.1, show (L : Int) < (n : Int) by omega, if_true]
    refine Ev.bind e1 ?_
    rw [eM (by omega)]
    exact f1
theorem ZF (t f : List Int) (n : Nat) (H : fI t f n) (a : Nat) (ha : a < n) (xs : List Int) (h : kg t f n a xs n) (hE : ∀ x : Nat, x < n → 0 ≤ rd xs x → rd xs x < (n : Int) → 0 ≤ rd xs (rd f x) ∧ rd xs (rd f x) ≤ rd xs x + 1) : hJ t f n a xs := by
  obtain ⟨hn, h1, ht, hi, hf, hfl, hcon⟩ := H
  have lt : ∀ x : Nat, x < n → rd xs x < n := by
    intro x hx
    refine Classical.byContradiction fun hno => ?_
    have hb := h.rng x hx
    have hx' : rd xs x = n := by omega
    have chain : ∀ d j : Nat, n - j = d → j ≤ n → ∃ y : Nat, y < n ∧ rd xs y = j := by
      intro d
      induction d with
      | zero => intro j hj hjn; exact ⟨x, hx, by omega⟩
      | succ d ih =>
        intro j hj hjn
        obtain ⟨y, y1, y2⟩ := ih (j + 1) (by omega) (by omega)
        obtain ⟨z, z1, z2, z3⟩ := h.back y y1 (by omega)
        have hfz := hf.2 z z1
        refine ⟨(rd f z).toNat, by omega, ?_⟩
        rw [show ((rd f z).toNat : Int) = rd f z by omega]
        omega
    have hex : ∀ j : Nat, ∃ y : Nat, j ≤ n → y < n ∧ rd xs y = j := fun j => by
      by_cases hj : j ≤ n
      · obtain ⟨y, q⟩ := chain _ j rfl hj
        exact ⟨y, fun _ => q⟩
      · exact ⟨0, fun q => absurd q hj⟩
    have hc1 : Cnt (n + 1) (fun j => j < n + 1) (n + 1) := ⟨List.range (n + 1), List.nodup_range, fun y => by simp, by simp⟩
    have hc2 : Cnt (n + 1) (fun j => j < n) n := ⟨List.range n, List.nodup_range, fun y => by simp; omega, by simp⟩
    have := Cnt.le hc1 hc2 (fun j => Classical.choose (hex j)) (fun j hj _ => by
      have q := Classical.choose_spec (hex j) (by omega)
      exact ⟨by omega, q.1⟩) (fun i j hi' _ hj _ e => by
      have q1 := (Classical.choose_spec (hex i) (by omega)).2
      have q2 := (Classical.choose_spec (hex j) (by omega)).2
      have e' : Classical.choose (hex i) = Classical.choose (hex j) := e
      rw [e', q2] at q1
      omega)
    omega
  have hcl : qf [t, f] n (fun z => 0 ≤ rd xs z) := by
    intro p hp k hk
    simp at hp
    rcases hp with rfl | rfl
    · have h1 := ht.2 k hk
      have h2 := h.turn k hk
      show 0 ≤ rd xs k ↔ 0 ≤ rd xs ((rd p k).toNat : Nat)
      rw [show ((rd p k).toNat : Int) = rd p k by omega, h2]
    · have h1 := hf.2 k hk
      have h2 := (hfl k hk).2
      show 0 ≤ rd xs k ↔ 0 ≤ rd xs ((rd p k).toNat : Nat)
      constructor
      · intro q
        rw [show ((rd p k).toNat : Int) = rd p k by omega]
        exact (hE k hk q (lt k hk)).1
      · intro q
        have := (hE _ (show (rd p k).toNat < n by omega) q (lt _ (by omega))).1
        rw [show ((rd p k).toNat : Int) = rd p k by omega, h2] at this
        exact this
  have pos : ∀ x : Nat, x < n → 0 ≤ rd xs x := fun x hx => (hcon a x ha hx _ hcl).1 (by show 0 ≤ rd xs a; rw [h.start]; omega)
  refine ⟨h.len, fun x hx => ⟨pos x hx, lt x hx⟩, h.start, h.turn, fun x hx => ?_, h.zero, h.back⟩
  have hfx := hf.2 x hx
  have hff := (hfl x hx).2
  have q := (hE (rd f x).toNat (by omega) (pos _ (by omega)) (lt _ (by omega))).2
  rw [show ((rd f x).toNat : Int) = rd f x by omega, hff] at q
  exact q
theorem RZ (n : Nat) (hn : n ≤ 12) : ∀ (d i : Nat) (xs : List Int), n - i = d → i ≤ n → xs.length = n → (∀ z : Nat, z < i → rd xs z = -1) → ∃ r, Ev (fun k => dfar.l0 k xs (i : Int) (n : Int)) r ∧ r.length = n ∧ ∀ z : Nat, z < n → rd r z = -1
  | 0, i, xs, hd, hi, hl, h => by
    have : i = n := by omega
    subst this
    refine ⟨xs, Ev.s ?_, hl, h⟩
    simp only [dfar.l0, show ¬ (i : Int) < (i : Int) by omega, if_false]
    exact Ev.const rfl
  | d + 1, i, xs, hd, hi, hl, h => by
    obtain ⟨r, r1, r2, r3⟩ := RZ n hn d (i + 1) (xs.set i (-1)) (by omega) (by omega) (by simp [hl]) (fun z hz => by
      rw [lr _ _ _ _ (by omega)]
      by_cases e : z = i
      · rw [if_pos e]
      · rw [if_neg e]; exact h z (by omega))
    refine ⟨r, Ev.s ?_, r2, r3⟩
    simp only [dfar.l0, hl, show (i : Int) < (n : Int) by omega, show (0 : Int) ≤ (i : Int) by omega, if_true, Int.toNat_natCast]
    rw [eM (by omega)]
    exact r1
theorem YV (t f : List Int) (n : Nat) (H : fI t f n) (a : Nat) (ha : a < n) : ∃ g, hJ t f n a g ∧ Ev (fun k => oJ.f k t f (a : Int)) g := by
  obtain ⟨hn, h1, ht, hi, hf, hfl, hcon⟩ := id H
  obtain ⟨xs, x1, x2, x3⟩ := RZ n hn n 0 (List.replicate n 0) (by omega) (by omega) (by simp) (fun z hz => by omega)
  have hall : ∀ z : Nat, z < n → Reach [t] n a z → rd xs z < 0 := fun z hz _ => by rw [x3 z hz]; omega
  obtain ⟨ys, y1, y2, y3⟩ := Ph t n hn ht hi 0 (by omega) a xs hall _ xs a (fun _ => False) (Nat.le_refl _) x2 ha (Reach.refl _ _ _) (fun z _ hs => hs.elim) (fun z _ _ => rfl) (.inr rfl)
  have yv : ∀ z : Nat, z < n → (rd ys z = 0 ∧ Reach [t] n a z) ∨ (rd ys z = -1 ∧ ¬ Reach [t] n a z) := fun z hz => by
    by_cases hr : Reach [t] n a z
    · exact .inl ⟨(y3 z hz).1 hr, hr⟩
    · exact .inr ⟨by rw [(y3 z hz).2 hr, x3 z hz], hr⟩
  have hlev : kg t f n a ys 0 := by
    refine ⟨y2, fun x hx => ?_, ?_, fun x hx => ?_, fun x hx h0 => ?_, fun x hx h0 => ?_⟩
    · rcases yv x hx with q | q <;> omega
    · exact (y3 a ha).1 (Reach.refl _ _ _)
    · have htx := ht.2 x hx
      obtain ⟨c, hc⟩ : ∃ c : Nat, rd t x = c := ⟨(rd t x).toNat, by omega⟩
      have hstep := Reach.step (ps := [t]) (p := t) (by simp) hx
      rw [hc, Int.toNat_natCast] at hstep
      rw [hc]
      rcases yv x hx with q | q
      · rw [q.1, (y3 c (by omega)).1 (q.2.trans hstep)]
      · rcases yv c (by omega) with p | p
        · exact absurd (p.2.trans hstep.symm) q.2
        · rw [q.1, p.1]
    · rcases yv x hx with q | q
      · exact q.2.symm
      · omega
    · rcases yv x hx with q | q <;> omega
  obtain ⟨r, r1, r2, r3⟩ := PG t f n hn ht hi hf hfl a n 0 ys (by omega) (by omega) hlev (fun x hx h0 h1 => by omega)
  refine ⟨r, ZF t f n H a ha r r2 r3, ?_⟩
  unfold oJ.f
  have ai7 : 0 < n ∧ n ≤ 1048576 := ⟨by omega, by omega⟩
  simp only [ht.1, ai7, and_self, if_true]
  refine Ev.bind x1 ?_
  exact Ev.bind y1 r1
def C0 (n a : Nat) (g o : List Int) : Prop := o.length = n ∧ (∀ z : Nat, z < n → rd g z ≤ rd o z ∧ rd o z ≤ n) ∧ rd o a = 0
theorem Ol (t f : List Int) (n : Nat) (H : fI t f n) (a : Nat) (ha : a < n) (g : List Int) (hg : hJ t f n a g) (round : Int) : ∀ (d i : Nat) (o : List Int), n - i = d → i ≤ n → C0 n a g o →
    ∃ o', C0 n a g o' ∧ (∀ r, Ev (fun k => hD.l1 k o' (wrap64 (round + 1)) t f) r → Ev (fun k => hD.l2 k o round i t f) r) ∧ (∀ z : Nat, z < n → rd o z = rd g z → rd o' z = rd g z) ∧
      (∀ j : Nat, i ≤ j → j < n → (rd o (rd f j) = rd g (rd f j) → rd g j = rd g (rd f j) + 1 → rd o' j = rd g j) ∧ (rd o j = rd g j → rd o' (rd t j) = rd g (rd t j)))
  | 0, i, o, hd, hi, ho => by
    refine ⟨o, ho, fun r h => Ev.s ?_, fun z _ h => h, fun j h1 h2 => by omega⟩
    simp only [hD.l2, ho.1, show ¬ (i : Int) < (n : Int) by omega, if_false]
    exact h
  | d + 1, i, o, hd, hi, ho => by
    obtain ⟨hn, h1, ht, hti, hf, hfl, hcon⟩ := id H
    have hlt : i < n := by omega
    have hd1 : n - (i + 1) = d := by omega
    have hra := ht.2 i hlt
    have hrb := hf.2 i hlt
    obtain ⟨ta, hta⟩ : ∃ c : Nat, rd t i = c := ⟨(rd t i).toNat, by omega⟩
    obtain ⟨fb, hfb⟩ : ∃ c : Nat, rd f i = c := ⟨(rd f i).toNat, by omega⟩
    have han : ta < n := by omega
    have hbn : fb < n := by omega
    obtain ⟨hl, hb, h0⟩ := ho
    have bi := hb i hlt
    have ba := hb ta han
    have bb := hb fb hbn
    have gi := hg.rng i hlt
    have gt := hg.turn i hlt
    have gf := hg.flip i hlt
    rw [hta] at gt
    rw [hfb] at gf
    obtain ⟨v, hv⟩ : ∃ v, mn (rd o i) (rd o fb + 1) = v := ⟨_, rfl⟩
    have hvm := GT (rd o i) (rd o fb + 1)
    rw [hv] at hvm
    obtain ⟨o1, ho1⟩ : ∃ o1, o.set i v = o1 := ⟨_, rfl⟩
    have r1 : ∀ z : Nat, rd o1 z = if z = i then v else rd o z := fun z => by rw [← ho1]; exact lr o i z v (by omega)
    have hl1 : o1.length = n := by rw [← ho1]; simp [hl]
    have XE : rd o1 i = v := by rw [r1, if_pos rfl]
    have b1 : ∀ z : Nat, z < n → rd g z ≤ rd o1 z ∧ rd o1 z ≤ rd o z := fun z hz => by
      rw [r1]
      by_cases e : z = i
      · subst e; rw [if_pos rfl]; omega
      · rw [if_neg e]; exact ⟨(hb z hz).1, Int.le_refl _⟩
    obtain ⟨w, hw⟩ : ∃ w, mn (rd o1 ta) (rd o1 i) = w := ⟨_, rfl⟩
    have hwm := GT (rd o1 ta) (rd o1 i)
    rw [hw] at hwm
    obtain ⟨o2, ho2⟩ : ∃ o2, o1.set ta w = o2 := ⟨_, rfl⟩
    have r2 : ∀ z : Nat, rd o2 z = if z = ta then w else rd o1 z := fun z => by rw [← ho2]; exact lr o1 ta z w (by omega)
    have hl2 : o2.length = n := by rw [← ho2]; simp [hl1]
    have c1 := b1 ta han
    have c2 := b1 i hlt
    have b2 : ∀ z : Nat, z < n → rd g z ≤ rd o2 z ∧ rd o2 z ≤ rd o1 z := fun z hz => by
      rw [r2]
      by_cases e : z = ta
      · subst e; rw [if_pos rfl]; omega
      · rw [if_neg e]; exact ⟨(b1 z hz).1, Int.le_refl _⟩
    have keep : ∀ z : Nat, z < n → rd o z = rd g z → rd o2 z = rd g z := fun z hz e => by
      have p1 := b1 z hz
      have p2 := b2 z hz
      omega
    have ai8 : C0 n a g o2 := ⟨hl2, fun z hz => ⟨(b2 z hz).1, by have p1 := b1 z hz; have p2 := b2 z hz; have p3 := hb z hz; omega⟩, by
      have q := keep a ha (by rw [h0, hg.start])
      rw [q, hg.start]⟩
    obtain ⟨o', d1, d2, d3, d4⟩ := Ol t f n H a ha g hg round d (i + 1) o2 hd1 hlt ai8
    refine ⟨o', d1, fun r h => Ev.s ?_, fun z hz e => d3 z hz (keep z hz e), fun j h1 h2 => ?_⟩
    · have hgo := d2 r h
      have g1 : (i : Int) < (n : Int) := by omega
      have g2 : (0 : Int) ≤ (i : Int) := by omega
      have g3 : (0 : Int) ≤ (ta : Int) := by omega
      have g4 : (ta : Int) < (n : Int) := by omega
      have g5 : (0 : Int) ≤ (fb : Int) := by omega
      have g6 : (fb : Int) < (n : Int) := by omega
      have gw : wrap64 (rd o fb + 1) = rd o fb + 1 := w64 (by omega) (by omega)
      simp only [hD.l2, ht.1, hf.1, hl, hl1, g1, g2, g3, g4, g5, g6, hta, hfb, hv, hw, gw, if_true, Int.toNat_natCast, ho1, ho2, Option.bind_some]
      rw [eM (by omega)]
      exact hgo
    · by_cases e : j = i
      · subst e
        rw [hta, hfb]
        refine ⟨fun e1 e2 => d3 j h2 ?_, fun e1 => d3 ta han ?_⟩
        · have p2 := b2 j h2
          rw [XE] at p2
          omega
        · have p2 : rd o2 ta = w := by rw [r2, if_pos rfl]
          rw [XE] at hwm
          rw [p2]
          omega
      · have hj := d4 j (by omega) h2
        have hfj := hf.2 j h2
        obtain ⟨c, hc⟩ : ∃ c : Nat, rd f j = c := ⟨(rd f j).toNat, by omega⟩
        rw [hc] at hj ⊢
        exact ⟨fun e1 e2 => hj.1 (keep c (by omega) e1) e2, fun e1 => hj.2 (keep j h2 e1)⟩
theorem QA (t f : List Int) (n : Nat) (H : fI t f n) (a : Nat) (ha : a < n) (g : List Int) (hg : hJ t f n a g) : ∀ (d i : Nat) (o : List Int), 2 * n - i = d → i ≤ 2 * n → C0 n a g o → lag o g n ≤ d → Ev (fun k => hD.l1 k o (i : Int) t f) g
  | 0, i, o, hd, hi, ho, hl => by
    obtain ⟨hn, h1, ht, hti, hf, hfl, hcon⟩ := id H
    refine Ev.s ?_
    have hw2 : wrap64 (2 * (n : Int)) = 2 * (n : Int) := w64 (by omega) (by omega)
    simp only [hD.l1, ho.1, hw2, show ¬ (i : Int) < 2 * (n : Int) by omega, if_false]
    have : o = g := pB o g (ho.1.trans hg.len.symm) fun z hz => CI o g n (by omega) z (by rw [← ho.1]; exact hz)
    exact Ev.const (by rw [this])
  | d + 1, i, o, hd, hi, ho, hl => by
    obtain ⟨hn, h1, ht, hti, hf, hfl, hcon⟩ := id H
    obtain ⟨o', c1, c2, c3, c4⟩ := Ol t f n H a ha g hg i n 0 o (by omega) (by omega) ho
    refine Ev.s ?_
    have hw2 : wrap64 (2 * (n : Int)) = 2 * (n : Int) := w64 (by omega) (by omega)
    simp only [hD.l1, ho.1, hw2, show (i : Int) < 2 * (n : Int) by omega, if_true]
    refine c2 g ?_
    rw [eM (by omega)]
    refine QA t f n H a ha g hg d (i + 1) o' (by omega) (by omega) c1 ?_
    have hout : ∀ z : Nat, ¬ z < n → rd o z = rd o' z := by
      intro z hz
      unfold rd
      rw [Int.toNat_natCast, List.getD_eq_getElem?_getD, List.getD_eq_getElem?_getD, List.getElem?_eq_none (by rw [ho.1]; omega), List.getElem?_eq_none (by rw [c1.1]; omega)]
    have keep : ∀ z : Nat, rd o z = rd g z → rd o' z = rd g z := fun z e => by
      by_cases hz : z < n
      · exact c3 z hz e
      · rw [← hout z hz]; exact e
    by_cases hz : lag o g n = 0
    · have := CQ o o' g keep n
      omega
    · have hex : ∃ z : Nat, z < n ∧ rd o z ≠ rd g z ∧ rd o' z = rd g z := by
        refine Classical.byContradiction fun hno => ?_
        have hsame : ∀ z : Nat, z < n → (rd o z = rd g z ↔ rd o' z = rd g z) := fun z hz => ⟨keep z, fun e => Classical.byContradiction fun hne => hno ⟨z, hz, hne, e⟩⟩
        have hcl : qf [t] n (fun z => rd o z = rd g z) := mP t n ht hti _ fun k hk e => by
          have hr := ht.2 k hk
          refine (hsame (rd t k).toNat (by omega)).2 ?_
          rw [show ((rd t k).toNat : Int) = rd t k by omega]
          exact (c4 k (by omega) hk).2 e
        have hall : ∀ m z : Nat, z < n → rd g z ≤ m → rd o z = rd g z := by
          intro m
          induction m with
          | zero =>
            intro z hz hm
            have hb := hg.rng z hz
            have hr := hg.zero z hz (by omega)
            refine (hr _ hcl).2 ?_
            show rd o a = rd g a
            rw [ho.2.2, hg.start]
          | succ m ih =>
            intro z hz hm
            by_cases hm' : rd g z ≤ m
            · exact ih z hz hm'
            · obtain ⟨y, y1, y2, y3⟩ := hg.back z hz (by omega)
              have hfy := hf.2 y y1
              obtain ⟨c, hc⟩ : ∃ c : Nat, rd f y = c := ⟨(rd f y).toNat, by omega⟩
              have hcy := Iq ht hti g hg.turn y2
              have h4 := (c4 y (by omega) y1).1
              rw [hc] at y3 h4
              have hyo := h4 (ih c (by omega) (by omega)) (by omega)
              exact (y2 _ hcl).1 ((hsame y y1).2 hyo)
        have hz0 : ∀ m, m ≤ n → lag o g m = 0 := by
          intro m
          induction m with
          | zero => intro _; rfl
          | succ m ih =>
            intro hm
            simp only [lag]
            have hb := hg.rng m (by omega)
            rw [if_pos (hall (rd g m).toNat m (by omega) (by omega)), ih (by omega)]
        exact hz (hz0 n (Nat.le_refl _))
      obtain ⟨z, z1, z2, z3⟩ := hex
      have := CU o o' g keep z z2 z3 n z1
      omega
theorem RU (t f : List Int) (n : Nat) (hn : n ≤ 12) (a : Nat) (ha : a < n) : ∀ (d i : Nat) (o : List Int), n - i = d → i ≤ n → o.length = n → (∀ z : Nat, z < i → rd o z = n) →
    ∃ o', o'.length = n ∧ (∀ z : Nat, z < n → rd o' z = n) ∧ ∀ r, Ev (fun k => hD.l1 k (o'.set a 0) 0 t f) r → Ev (fun k => hD.l0 k (a : Int) o (i : Int) t f) r
  | 0, i, o, hd, hi, hl, h => by
    refine ⟨o, hl, fun z hz => h z (by omega), fun r hr => Ev.s ?_⟩
    simp only [hD.l0, hl, show ¬ (i : Int) < (n : Int) by omega, show (0 : Int) ≤ (a : Int) by omega, show (a : Int) < (n : Int) by omega, if_true, if_false, Int.toNat_natCast]
    exact hr
  | d + 1, i, o, hd, hi, hl, h => by
    obtain ⟨o', e1, e2, e3⟩ := RU t f n hn a ha d (i + 1) (o.set i n) (by omega) (by omega) (by simp [hl]) (fun z hz => by
      rw [lr _ _ _ _ (by omega)]
      by_cases e : z = i
      · rw [if_pos e]
      · rw [if_neg e]; exact h z (by omega))
    refine ⟨o', e1, e2, fun r hr => Ev.s ?_⟩
    simp only [hD.l0, hl, show (i : Int) < (n : Int) by omega, show (0 : Int) ≤ (i : Int) by omega, if_true, Int.toNat_natCast]
    rw [eM (by omega)]
    exact e3 r hr
theorem Yy (t f : List Int) (n : Nat) (H : fI t f n) (a : Nat) (ha : a < n) (g : List Int) (hg : hJ t f n a g) : Ev (fun k => hD.f k t f (a : Int)) g := by
  obtain ⟨hn, h1, ht, hti, hf, hfl, hcon⟩ := id H
  obtain ⟨o, o1, o2, o3⟩ := RU t f n hn a ha n 0 (List.replicate n 0) (by omega) (by omega) (by simp) (fun z hz => by omega)
  unfold hD.f
  simp only [ht.1, Int.toNat_natCast, show (0 : Int) ≤ (n : Int) by omega, show n ≤ 35184372088832 by omega, if_true]
  refine o3 g ?_
  have hr : ∀ z : Nat, rd (o.set a 0) z = if z = a then 0 else rd o z := fun z => lr o a z 0 (by omega)
  refine QA t f n H a ha g hg (2 * n) 0 (o.set a 0) (by omega) (by omega) ⟨by simp [o1], fun z hz => ?_, by rw [hr, if_pos rfl]⟩ ?_
  · rw [hr]
    have hb := hg.rng z hz
    by_cases e : z = a
    · subst e; rw [if_pos rfl, hg.start]; omega
    · rw [if_neg e, o2 z hz]; omega
  · have := GH (o.set a 0) g n
    omega
theorem ZX (t f : List Int) (n : Nat) (H : fI t f n) (a : Nat) (ha : a < n) : ∃ g, hJ t f n a g ∧ Ev (fun k => hD.f k t f (a : Int)) g ∧ Ev (fun k => oJ.f k t f (a : Int)) g := by
  obtain ⟨g, hg, e⟩ := YV t f n H a ha
  exact ⟨g, hg, Yy t f n H a ha g hg, e⟩
def cw (p : List Int) : Nat → List Bool → List Int → Int → List Bool × List Int
  | 0, s, c, a => (s, c)
  | f + 1, s, c, a => if fy false s a = true then (s, c) else cw p f (s.set a.toNat true) (c ++ [a]) (rd p a)
def fresh (s : List Bool) : Nat := s.countP (fun b => !b)
def cyS (p : List Int) (n : Nat) : Nat → List Bool × List (List Int)
  | 0 => (List.replicate n false, [])
  | i + 1 =>
    let q := cw p (n + 1) (cyS p n i).1 [] i
    (q.1, if q.2 = [] then (cyS p n i).2 else (cyS p n i).2 ++ [q.2])
theorem vY : ∀ (s : List Bool) (i : Nat), i < s.length → s.getD i false = false → fresh (s.set i true) + 1 = fresh s
  | b :: s, 0, _, h => by
    simp only [List.getD_cons_zero] at h
    subst h
    simp [fresh]
  | b :: s, i + 1, hi, h => by
    simp only [List.getD_cons_succ] at h
    have ih := vY s i (by simpa using hi) h
    simp only [fresh, List.set_cons_succ, List.countP_cons] at ih ⊢
    omega
theorem oL (s : List Bool) (a : Int) (h0 : 0 ≤ a) : fy false s a = s.getD a.toNat false := by
  unfold fy
  rfl
theorem Rz (p : List Int) : ∀ (f : Nat) (s : List Bool) (c : List Int) (a : Int), (cw p f s c a).1.length = s.length
  | 0, s, c, a => rfl
  | f + 1, s, c, a => by
    simp only [cw]
    split
    · rfl
    · rw [Rz p f]; simp
theorem Pj (p : List Int) (n : Nat) (hn : n ≤ 1048576) (hp : inR n p) (L : List (List Int)) (hL : L.length ≤ 1048576) (i : Int) (r : List (List Int)) : ∀ (f : Nat) (s : List Bool) (c : List Int) (a : Int), s.length = n → 0 ≤ a → a < n → fresh s < f → c.length + fresh s ≤ 1048577 →
    Ev (fun k => fP.l0 k p (L ++ [(cw p f s c a).2]) (cw p f s c a).1 (wrap64 (i + 1))) r → Ev (fun k => fP.l1 k p L s i c a) r
  | 0, s, c, a, hs, h0, h1, hf, hc, h => absurd hf (Nat.not_lt_zero _)
  | f + 1, s, c, a, hs, h0, h1, hf, hc, h => by
    refine Ev.s ?_
    simp only [cw] at h
    have hL' : L.length < 5864062014805 := by omega
    have hc' : c.length < 17592186044416 := by omega
    simp only [fP.l1, h0, hs, h1, hp.1, hL', hc', if_true]
    by_cases e : fy false s a = true
    · simp only [e, if_true] at h ⊢
      exact h
    · simp only [e, if_false] at h ⊢
      have h3 : s.getD a.toNat false = false := by rw [← oL s a h0]; simpa using e
      have h4 := vY s a.toNat (by omega) h3
      have h5 := hp.2 a.toNat (by omega)
      rw [show ((a.toNat : Nat) : Int) = a by omega] at h5
      exact Pj p n hn hp L hL i r f _ _ _ (by simpa using hs) h5.1 h5.2 (by omega) (by simp only [List.length_append, List.length_cons, List.length_nil]; omega) h
theorem OV (p : List Int) (n : Nat) (hn : n ≤ 1048576) (hp : inR n p) (L : List (List Int)) (hL : L.length ≤ 1048576) (m i : Int) (r : List (List Int)) : ∀ (f : Nat) (s : List Bool) (c : List Int) (a : Int), s.length = n → 0 ≤ a → a < n → fresh s < f → c.length + fresh s ≤ 1048577 →
    Ev (fun k => fD.l0 k p (if (cw p f s c a).2 = [] then L else L ++ [(cw p f s c a).2]) (cw p f s c a).1 m (wrap64 (i + 1))) r → Ev (fun k => fD.l1 k p L s c a m i) r
  | 0, s, c, a, hs, h0, h1, hf, hc, h => absurd hf (Nat.not_lt_zero _)
  | f + 1, s, c, a, hs, h0, h1, hf, hc, h => by
    refine Ev.s ?_
    simp only [cw] at h
    have hL' : L.length < 5864062014805 := by omega
    have hc' : c.length < 17592186044416 := by omega
    simp only [fD.l1, h0, hs, h1, hp.1, hL', hc', if_true]
    by_cases e : fy false s a = true
    · simp only [e, if_true] at h ⊢
      cases c with
      | nil => simpa using h
      | cons b c => simpa using h
    · simp only [e, if_false] at h ⊢
      have h3 : s.getD a.toNat false = false := by rw [← oL s a h0]; simpa using e
      have h4 := vY s a.toNat (by omega) h3
      have h5 := hp.2 a.toNat (by omega)
      rw [show ((a.toNat : Nat) : Int) = a by omega] at h5
      exact OV p n hn hp L hL m i r f _ _ _ (by simpa using hs) h5.1 h5.2 (by omega) (by simp only [List.length_append, List.length_cons, List.length_nil]; omega) h
theorem xS (s : List Bool) : fresh s ≤ s.length := List.countP_le_length
theorem qO (p : List Int) (n : Nat) : ∀ i, (cyS p n i).1.length = n
  | 0 => by simp [cyS]
  | i + 1 => by simp only [cyS]; rw [Rz, qO p n i]
theorem qd (p : List Int) (n : Nat) : ∀ i, (cyS p n i).2.length ≤ i
  | 0 => by simp [cyS]
  | i + 1 => by
    have ih := qd p n i
    simp only [cyS]
    split
    · omega
    · simp only [List.length_append, List.length_cons, List.length_nil]; omega
theorem Ig (p : List Int) (f : Nat) (s : List Bool) (c : List Int) (a : Int) (h : fy false s a = true) : cw p f s c a = (s, c) := by
  cases f with
  | zero => rfl
  | succ f => simp only [cw, h, if_true]
theorem Sg (p : List Int) : ∀ (f : Nat) (s : List Bool) (c : List Int) (a : Int), c.length ≤ (cw p f s c a).2.length
  | 0, s, c, a => Nat.le_refl _
  | f + 1, s, c, a => by
    simp only [cw]
    split
    · exact Nat.le_refl _
    · have := Sg p f (s.set a.toNat true) (c ++ [a]) (rd p a)
      simp only [List.length_append, List.length_cons, List.length_nil] at this
      omega
theorem G2 (p : List Int) (f : Nat) (s : List Bool) (a : Int) (h : ¬ fy false s a = true) : (cw p (f + 1) s [] a).2 ≠ [] := by
  simp only [cw, h, Bool.false_eq_true, if_false]
  intro e
  have := Sg p f (s.set a.toNat true) ([] ++ [a]) (rd p a)
  rw [e] at this
  simp at this
theorem Ob (p : List Int) (n : Nat) (hn : n ≤ 1048575) (hp : inR n p) : ∀ (d i : Nat), n - i = d → i ≤ n → Ev (fun k => fP.l0 k p (cyS p n i).2 (cyS p n i).1 i) (cyS p n n).2
  | 0, i, hd, hi => by
    have : i = n := by omega
    subst this
    refine Ev.s ?_
    simp only [fP.l0, hp.1, show ¬ (i : Int) < (i : Int) by omega, if_false]
    exact Ev.const rfl
  | d + 1, i, hd, hi => by
    have ih := Ob p n hn hp d (i + 1) (by omega) (by omega)
    have hl := qO p n i
    have hm := qd p n i
    have hf := xS (cyS p n i).1
    have h1 : (i : Int) < (n : Int) := by omega
    have h0 : (0 : Int) ≤ (i : Int) := by omega
    refine Ev.s ?_
    simp only [fP.l0, hp.1, hl, h1, h0, if_true]
    by_cases e : fy false (cyS p n i).1 (i : Int) = true
    · simp only [e, if_true]
      rw [eM (by omega)]
      simp only [cyS, Ig p (n + 1) (cyS p n i).1 [] i e, if_true] at ih
      exact ih
    · simp only [e, if_false]
      refine Pj p n (by omega) hp _ (by omega) i _ (n + 1) _ _ _ hl h0 h1 (by omega) (by simp only [List.length_nil]; omega) ?_
      rw [eM (by omega)]
      simp only [cyS, G2 p n (cyS p n i).1 i e, if_false] at ih
      exact ih
theorem Se (p : List Int) (n : Nat) (hn : n ≤ 1048575) (hp : inR n p) : ∀ (d i : Nat), n - i = d → i ≤ n → Ev (fun k => fD.l0 k p (cyS p n i).2 (cyS p n i).1 n i) (cyS p n n).2
  | 0, i, hd, hi => by
    have : i = n := by omega
    subst this
    refine Ev.s ?_
    simp only [fD.l0, show ¬ (i : Int) < (i : Int) by omega, if_false]
    exact Ev.const rfl
  | d + 1, i, hd, hi => by
    have ih := Se p n hn hp d (i + 1) (by omega) (by omega)
    have hl := qO p n i
    have hm := qd p n i
    have hf := xS (cyS p n i).1
    have h1 : (i : Int) < (n : Int) := by omega
    have h0 : (0 : Int) ≤ (i : Int) := by omega
    refine Ev.s ?_
    simp only [fD.l0, h1, if_true]
    refine OV p n (by omega) hp _ (by omega) n i _ (n + 1) _ _ _ hl h0 h1 (by omega) (by simp only [List.length_nil]; omega) ?_
    rw [eM (by omega)]
    simp only [cyS] at ih
    exact ih
theorem Im (p : List Int) (n : Nat) (hn : n ≤ 1048575) (hp : inR n p) : Ev (fun k => fP.f k p) (cyS p n n).2 := by
  unfold fP.f
  have h1 : n ≤ 281474976710656 := by omega
  have h2 : (0 : Int) ≤ (n : Int) := by omega
  simp only [hp.1, Int.toNat_natCast, h1, h2, if_true]
  exact Ob p n hn hp n 0 (by omega) (by omega)
theorem qY (p : List Int) (n : Nat) (hn : n ≤ 1048575) (hp : inR n p) : Ev (fun k => fD.f k p) (cyS p n n).2 := by
  unfold fD.f
  have h1 : n ≤ 281474976710656 := by omega
  have h2 : (0 : Int) ≤ (n : Int) := by omega
  simp only [hp.1, Int.toNat_natCast, h1, h2, if_true]
  exact Se p n hn hp n 0 (by omega) (by omega)
theorem Ql (p : List Int) (n : Nat) (hp : inR n p) : ∀ (f : Nat) (s : List Bool) (c : List Int) (a : Int), s.length = n → 0 ≤ a → a < n → (cw p f s c a).2.length + fresh (cw p f s c a).1 ≤ c.length + fresh s
  | 0, s, c, a, hs, h0, h1 => Nat.le_refl _
  | f + 1, s, c, a, hs, h0, h1 => by
    simp only [cw]
    by_cases e : fy false s a = true
    · simp only [e, if_true]
      exact Nat.le_refl _
    · simp only [e, Bool.false_eq_true, if_false]
      have h3 : s.getD a.toNat false = false := by rw [← oL s a h0]; simpa using e
      have h4 := vY s a.toNat (by omega) h3
      have h5 := hp.2 a.toNat (by omega)
      rw [show ((a.toNat : Nat) : Int) = a by omega] at h5
      have ih := Ql p n hp f (s.set a.toNat true) (c ++ [a]) (rd p a) (by simpa using hs) h5.1 h5.2
      rw [List.length_append, List.length_singleton] at ih
      omega
theorem CS (p : List Int) (n : Nat) (hp : inR n p) : ∀ i, i ≤ n → ∀ l ∈ (cyS p n i).2, 1 ≤ l.length ∧ l.length ≤ n
  | 0, _, l, hl => by simp [cyS] at hl
  | i + 1, hi, l, hl => by
    have ih := CS p n hp i (by omega) l
    simp only [cyS] at hl
    have hb := Ql p n hp (n + 1) (cyS p n i).1 [] i (qO p n i) (by omega) (by omega)
    have hf := xS (cyS p n i).1
    rw [qO] at hf
    rw [List.length_nil, Nat.zero_add] at hb
    by_cases e : (cw p (n + 1) (cyS p n i).1 [] (i : Int)).2 = []
    · rw [if_pos e] at hl
      exact ih hl
    · rw [if_neg e, List.mem_append] at hl
      rcases hl with hl | hl
      · exact ih hl
      · rw [List.mem_singleton.1 hl]
        have : 0 < (cw p (n + 1) (cyS p n i).1 [] (i : Int)).2.length := List.length_pos_iff.2 e
        omega
theorem Iu (p : List Int) (n : Nat) (h1 : 1 ≤ n) : 0 < (cyS p n n).2.length := by
  have hm : ∀ i, 1 ≤ i → 0 < (cyS p n i).2.length := by
    intro i
    induction i with
    | zero => intro h; omega
    | succ i ih =>
      intro _
      simp only [cyS]
      by_cases hi : 1 ≤ i
      · have := ih hi
        split
        · exact this
        · rw [List.length_append]; omega
      · have : i = 0 := by omega
        subst this
        rw [if_neg (G2 p n _ _ (by show ¬ (List.replicate n false).getD 0 false = true; rw [List.getD_eq_getElem?_getD, List.getElem?_replicate]; split <;> simp))]
        rw [List.length_append, List.length_singleton]
        omega
  exact hm n h1
theorem Pt : ∀ (d : Nat) (i j : Int) (l : List Int), l.length ≤ 1048576 → 0 ≤ i → j < l.length → i ≤ 1048576 → -1 ≤ j → j - i ≤ d → ∃ r, Ev (fun k => gq.l0 k l i j) r ∧ r.Perm l
  | 0, i, j, l, hl, h0, h1, h2, h3, hd => by
    refine ⟨l, Ev.s ?_, List.Perm.refl _⟩
    simp only [gq.l0, show ¬ i < j by omega, if_false]
    exact Ev.const rfl
  | d + 1, i, j, l, hl, h0, h1, h2, h3, hd => by
    by_cases hij : i < j
    · obtain ⟨r, r1, r2⟩ := Pt d (i + 1) (j - 1) ((l.set i.toNat (rd l j)).set j.toNat (rd l i)) (by simpa using hl) (by omega) (by simp only [List.length_set]; omega) (by omega) (by omega) (by omega)
      have hpm : ((l.set i.toNat (rd l j)).set j.toNat (rd l i)).Perm l := by
        have hi : i.toNat < l.length := by omega
        have hj : j.toNat < l.length := by omega
        have e1 : rd l i = l[i.toNat] := by have := gU l i.toNat hi; rwa [show ((i.toNat : Nat) : Int) = i by omega] at this
        have e2 : rd l j = l[j.toNat] := by have := gU l j.toNat hj; rwa [show ((j.toNat : Nat) : Int) = j by omega] at this
        rw [e1, e2]
        exact List.set_set_perm hi hj
      refine ⟨r, Ev.s ?_, r2.trans hpm⟩
      simp only [gq.l0, hij, show 0 ≤ j by omega, h1, h0, show i < (l.length : Int) by omega, if_true, w64 (x := i + 1) (by omega) (by omega), w64 (x := j - 1) (by omega) (by omega)]
      exact r1
    · refine ⟨l, Ev.s ?_, List.Perm.refl _⟩
      simp only [gq.l0, hij, if_false]
      exact Ev.const rfl
theorem Y5 (l : List Int) (hl : l.length ≤ 1048576) : ∃ r, Ev (fun k => gq.f k l) r ∧ r.Perm l := by
  obtain ⟨r, r1, r2⟩ := Pt l.length 0 ((l.length : Int) - 1) l hl (by omega) (by omega) (by omega) (by omega) (by omega)
  refine ⟨r, ?_, r2⟩
  unfold gq.f
  rw [w64 (by omega) (by omega)]
  exact r1
def e6 (C : List (List Int)) : List Int := C.map fun l => (l.length : Int)
theorem O0 (C : List (List Int)) (i : Nat) (h : i < C.length) : e6 (C.take (i + 1)) = e6 (C.take i) ++ [((dp C (i : Int)).length : Int)] := by
  unfold e6 dp
  rw [List.take_succ_eq_append_getElem h, List.map_append, Int.toNat_natCast, List.getD_eq_getElem?_getD, List.getElem?_eq_getElem h]
  rfl
theorem Rv (C : List (List Int)) (hC : C.length ≤ 1048576) (hp : 0 < C.length) : ∃ r, r.Perm (e6 C) ∧ ∀ (d i : Nat), C.length - i = d → i ≤ C.length → Ev (fun k => jU.l0 k (e6 (C.take i)) C C.length i) r := by
  have hll : (e6 C).length = C.length := by simp [e6]
  have hs : ((e6 C).mergeSort fun x y => decide (x ≤ y)).length = C.length := by rw [List.length_mergeSort, hll]
  obtain ⟨r, r1, r2⟩ := Y5 ((e6 C).mergeSort fun x y => decide (x ≤ y)) (by omega)
  refine ⟨r, r2.trans (List.mergeSort_perm _ _), ?_⟩
  intro d
  induction d with
  | zero =>
    intro i hd hi
    have e : i = C.length := by omega
    rw [e, List.take_length]
    refine Ev.s ?_
    have hsort : rX.f (e6 C) = some ((e6 C).mergeSort fun x y => decide (x ≤ y)) := by
      unfold rX.f
      rw [if_pos ⟨by omega, by omega⟩]
    simp only [jU.l0, show ¬ (C.length : Int) < (C.length : Int) by omega, if_false, hsort, Option.bind_some]
    exact Ev.bind r1 (Ev.const rfl)
  | succ d ih =>
    intro i hd hi
    have h := ih (i + 1) (by omega) (by omega)
    rw [O0 C i (by omega)] at h
    have hlt : (e6 (C.take i)).length < 17592186044416 := by simp only [e6, List.length_map, List.length_take]; omega
    refine Ev.s ?_
    simp only [jU.l0, show (i : Int) < (C.length : Int) by omega, show (0 : Int) ≤ (i : Int) by omega, hlt, if_true, eM (show i < 4611686018427387904 by omega)]
    exact h
def kN (r : List Int) : Bool := r.all fun x => decide (x = 4)
theorem Ow (r : List Int) (i : Nat) (h : i < r.length) : kN (r.drop i) = (decide (rd r i = 4) && kN (r.drop (i + 1))) := by
  unfold kN
  rw [List.drop_eq_getElem_cons h, List.all_cons, gU r i h]
def tlL (C : List (List Int)) : Nat → List Int
  | 0 => []
  | d + 1 => List.replicate (C.countP fun l => decide (l.length = d + 1)) ((d + 1 : Nat) : Int) ++ tlL C d
theorem Dj (C : List (List Int)) (x : Int) : ∀ d, x ∈ tlL C d ↔ ∃ l ∈ C, 1 ≤ l.length ∧ l.length ≤ d ∧ x = (l.length : Int)
  | 0 => by
    simp only [tlL, List.not_mem_nil, false_iff]
    rintro ⟨l, _, h1, h2, _⟩
    omega
  | d + 1 => by
    simp only [tlL, List.mem_append, List.mem_replicate, Dj C x d]
    constructor
    · rintro (⟨h, rfl⟩ | ⟨l, hl, h1, h2, rfl⟩)
      · obtain ⟨l, hl, e⟩ := List.countP_pos_iff.1 (Nat.pos_of_ne_zero h)
        have e := of_decide_eq_true e
        exact ⟨l, hl, by omega, by omega, by rw [e]⟩
      · exact ⟨l, hl, h1, by omega, rfl⟩
    · rintro ⟨l, hl, h1, h2, rfl⟩
      by_cases e : l.length = d + 1
      · exact .inl ⟨Nat.ne_of_gt (List.countP_pos_iff.2 ⟨l, hl, decide_eq_true e⟩), by rw [e]⟩
      · exact .inr ⟨l, hl, h1, by omega, rfl⟩
theorem Dn (C : List (List Int)) : ∀ d, (tlL C d).length ≤ d * C.length
  | 0 => by simp [tlL]
  | d + 1 => by
    have ih := Dn C d
    have := List.countP_le_length (p := fun l : List Int => decide (l.length = d + 1)) (l := C)
    simp only [tlL, List.length_append, List.length_replicate]
    rw [Nat.succ_mul]
    omega
theorem Hy (C : List (List Int)) (hC : C.length ≤ 12) (n : Nat) (v : Nat) (hv : v ≤ 12) (r : List Int) : ∀ (d i : Nat) (acc : List Int), C.length - i = d → i ≤ C.length → acc.length + d ≤ 1000 →
    Ev (fun k => hG.l0 k (acc ++ List.replicate ((C.drop i).countP fun l => decide (l.length = v)) (v : Int)) C (wrap64 ((v : Int) - 1))) r → Ev (fun k => hG.l1 k acc C v i) r
  | 0, i, acc, hd, hi, ha, h => by
    refine Ev.s ?_
    rw [List.drop_eq_nil_of_le (by omega)] at h
    simp only [List.countP_nil, List.replicate_zero, List.append_nil] at h
    simp only [hG.l1, show ¬ (i : Int) < (C.length : Int) by omega, if_false]
    exact h
  | d + 1, i, acc, hd, hi, ha, h => by
    have hlt : i < C.length := by omega
    have hrd : dp C (i : Int) = C[i] := by unfold dp; rw [Int.toNat_natCast, List.getD_eq_getElem?_getD, List.getElem?_eq_getElem hlt]; rfl
    rw [List.drop_eq_getElem_cons hlt, List.countP_cons] at h
    refine Ev.s ?_
    simp only [hG.l1, show (i : Int) < (C.length : Int) by omega, show (0 : Int) ≤ (i : Int) by omega, hrd, if_true, eM (show i < 4611686018427387904 by omega)]
    by_cases e : C[i].length = v
    · simp only [e, decide_true, if_true, show acc.length < 17592186044416 by omega] at h ⊢
      refine Hy C hC n v hv r d (i + 1) (acc ++ [(v : Int)]) (by omega) (by omega) (by rw [List.length_append, List.length_singleton]; omega) ?_
      rw [List.append_assoc, List.singleton_append, ← List.replicate_succ]
      exact h
    · simp only [e, decide_false, Bool.false_eq_true, if_false, Nat.add_zero] at h
      simp only [show ¬ ((C[i].length : Nat) : Int) = (v : Int) by omega, if_false]
      exact Hy C hC n v hv r d (i + 1) acc (by omega) (by omega) (by omega) h
theorem Hq (C : List (List Int)) (hC : C.length ≤ 12) : ∀ (d : Nat) (acc : List Int), d ≤ 12 → acc.length + 12 * d ≤ 500 → Ev (fun k => hG.l0 k acc C (d : Int)) (acc ++ tlL C d)
  | 0, acc, hd, ha => by
    refine Ev.s ?_
    simp only [hG.l0, tlL, List.append_nil, show ¬ ((0 : Nat) : Int) > 0 by omega, if_false]
    exact Ev.const rfl
  | d + 1, acc, hd, ha => by
    have hc := List.countP_le_length (p := fun l : List Int => decide (l.length = d + 1)) (l := C)
    have ih := Hq C hC d (acc ++ List.replicate (C.countP fun l => decide (l.length = d + 1)) ((d + 1 : Nat) : Int)) (by omega) (by rw [List.length_append, List.length_replicate]; omega)
    refine Ev.s ?_
    simp only [hG.l0, show ((d + 1 : Nat) : Int) > 0 by omega, if_true]
    refine Hy C hC 0 (d + 1) hd _ C.length 0 acc (by omega) (by omega) (by omega) ?_
    rw [List.drop_zero, w64 (x := ((d + 1 : Nat) : Int) - 1) (by omega) (by omega), show ((d + 1 : Nat) : Int) - 1 = (d : Int) by omega]
    rw [List.append_assoc] at ih
    exact ih
theorem Rc (r s : List Int) (h : ∀ x, x ∈ r ↔ x ∈ s) : kN r = kN s := by
  unfold kN
  rw [Bool.eq_iff_iff, List.all_eq_true, List.all_eq_true]
  exact ⟨fun z x hx => z x ((h x).2 hx), fun z x hx => z x ((h x).1 hx)⟩
theorem Qi (l : List Int) (i j : Nat) (v : Int) (h : i < l.length) : rd (l.set i v) (j : Int) = if j = i then v else rd l (j : Int) := by
  by_cases e : j = i
  · subst e
    rw [if_pos rfl, mg l j v h]
  · rw [if_neg e, lT l i j v (fun z => e z.symm)]
theorem RB (l : List Int) (hl : l.length ≤ 1048576) : ∀ (d i : Nat) (m : List Int), l.length - 2 * i ≤ d → 2 * i ≤ l.length + 1 → m.length = l.length →
    (∀ z : Nat, z < l.length → rd m (z : Int) = if z < i ∨ l.length < z + i + 1 then rd l ((l.length - 1 - z : Nat) : Int) else rd l (z : Int)) → Ev (fun k => gq.l0 k m (i : Int) ((l.length : Int) - 1 - (i : Int))) l.reverse
  | d, i, m, hd, hi, hm, hr => by
    by_cases hij : (i : Int) < (l.length : Int) - 1 - (i : Int)
    · obtain ⟨d, rfl⟩ : ∃ e, d = e + 1 := ⟨d - 1, by omega⟩
      have hjn : ((l.length : Int) - 1 - (i : Int)).toNat = l.length - 1 - i := by omega
      have hji : ((l.length : Int) - 1 - (i : Int)) = ((l.length - 1 - i : Nat) : Int) := by omega
      have ih := RB l hl d (i + 1) ((m.set (i : Int).toNat (rd m ((l.length : Int) - 1 - (i : Int)))).set ((l.length : Int) - 1 - (i : Int)).toNat (rd m (i : Int))) (by omega) (by omega) (by simpa using hm) (by
        intro z hz
        rw [hjn, Int.toNat_natCast, Qi _ _ _ _ (by simp only [List.length_set]; omega), Qi _ _ _ _ (by omega), hji, hr (l.length - 1 - i) (by omega), hr i (by omega), hr z hz]
        by_cases e1 : z = l.length - 1 - i
        · subst e1
          rw [if_pos rfl, if_neg (by omega), if_pos (by omega)]
          congr 1
          omega
        · rw [if_neg e1]
          by_cases e2 : z = i
          · subst e2
            rw [if_pos rfl, if_neg (by omega), if_pos (by omega)]
          · rw [if_neg e2]
            by_cases e3 : z < i ∨ l.length < z + i + 1
            · rw [if_pos e3, if_pos (by omega)]
            · rw [if_neg e3, if_neg (by omega)])
      refine Ev.s ?_
      simp only [gq.l0, hij, show (0 : Int) ≤ (l.length : Int) - 1 - (i : Int) by omega, show (l.length : Int) - 1 - (i : Int) < (m.length : Int) by omega, show (0 : Int) ≤ (i : Int) by omega, show (i : Int) < (m.length : Int) by omega, if_true]
      rw [w64 (x := (i : Int) + 1) (by omega) (by omega), w64 (x := (l.length : Int) - 1 - (i : Int) - 1) (by omega) (by omega), show (i : Int) + 1 = ((i + 1 : Nat) : Int) by omega, show (l.length : Int) - 1 - (i : Int) - 1 = (l.length : Int) - 1 - ((i + 1 : Nat) : Int) by omega]
      exact ih
    · have e : m = l.reverse := by
        refine pB _ _ (by rw [List.length_reverse, hm]) fun z hz => ?_
        rw [hm] at hz
        have hrev : rd l.reverse (z : Int) = rd l ((l.length - 1 - z : Nat) : Int) := by
          rw [gU _ z (by simpa using hz), gU l (l.length - 1 - z) (by omega), List.getElem_reverse]
        rw [hrev, hr z hz]
        by_cases e3 : z < i ∨ l.length < z + i + 1
        · rw [if_pos e3]
        · rw [if_neg e3]
          congr 1
          omega
      refine Ev.s ?_
      simp only [gq.l0, hij, if_false]
      rw [e]
      exact Ev.const rfl
theorem Yo (l : List Int) (hl : l.length ≤ 1048576) : Ev (fun k => gq.f k l) l.reverse := by
  unfold gq.f
  rw [w64 (by omega) (by omega)]
  have := RB l hl l.length 0 l (by omega) (by omega) rfl (fun z hz => by rw [if_neg (by omega)])
  simpa using this
theorem QM : ∀ (a b : List Int), a.Pairwise (fun x y => y ≤ x) → b.Pairwise (fun x y => y ≤ x) → a.Perm b → a = b
  | [], b, _, _, h => (List.nil_perm.1 h).symm
  | x :: a, b, ha, hb, h => by
    match b, hb, h with
    | [], _, h => exact absurd h.length_eq (by simp)
    | y :: b, hb, h =>
      rw [List.pairwise_cons] at ha hb
      have hx : x ∈ y :: b := h.mem_iff.1 (by simp)
      have hy : y ∈ x :: a := h.mem_iff.2 (by simp)
      have hxy : x = y := by
        rcases List.mem_cons.1 hx with e | hx
        · exact e
        · rcases List.mem_cons.1 hy with e | hy
          · exact e.symm
          · have h1 := hb.1 x hx
            have h2 := ha.1 y hy
            omega
      subst hxy
      rw [QM a b ha.2 hb.2 (List.Perm.cons_inv h)]
theorem Qd (C : List (List Int)) : ∀ d, (tlL C d).Pairwise (fun x y => y ≤ x) ∧ ∀ x ∈ tlL C d, x ≤ (d : Int)
  | 0 => by simp [tlL]
  | d + 1 => by
    obtain ⟨ih1, ih2⟩ := Qd C d
    constructor
    · simp only [tlL]
      rw [List.pairwise_append]
      refine ⟨List.pairwise_replicate.2 (.inr (Int.le_refl _)), ih1, fun x hx y hy => ?_⟩
      have := ih2 y hy
      rw [(List.mem_replicate.1 hx).2]
      omega
    · intro x hx
      simp only [tlL, List.mem_append] at hx
      rcases hx with hx | hx
      · rw [(List.mem_replicate.1 hx).2]; omega
      · have := ih2 x hx; omega
theorem OL (C : List (List Int)) (x : Int) : ∀ d, (tlL C d).count x = C.countP fun l => decide (1 ≤ l.length ∧ l.length ≤ d ∧ (l.length : Int) = x)
  | 0 => by
    simp only [tlL, List.count_nil]
    exact (List.countP_eq_zero.2 fun l _ => by simp only [decide_eq_true_eq]; omega).symm
  | d + 1 => by
    have ih := OL C x d
    simp only [tlL, List.count_append, List.count_replicate, ih]
    by_cases e : x = ((d + 1 : Nat) : Int)
    · subst e
      rw [if_pos (by simp), (List.countP_eq_zero (p := fun l : List Int => decide (1 ≤ l.length ∧ l.length ≤ d ∧ (l.length : Int) = ((d + 1 : Nat) : Int)))).2 (fun l _ => by simp only [decide_eq_true_eq]; omega), Nat.add_zero]
      refine List.countP_congr fun l _ => ?_
      simp only [decide_eq_true_eq]
      omega
    · rw [if_neg (by simp only [beq_iff_eq]; omega), Nat.zero_add]
      refine List.countP_congr fun l _ => ?_
      simp only [decide_eq_true_eq]
      omega
theorem aaO (C : List (List Int)) (d : Nat) (h : ∀ l ∈ C, 1 ≤ l.length ∧ l.length ≤ d) : (tlL C d).Perm (e6 C) := by
  rw [List.perm_iff_count]
  intro x
  rw [OL]
  unfold e6 List.count
  rw [List.countP_map]
  refine List.countP_congr fun l hl => ?_
  have := h l hl
  simp only [decide_eq_true_eq, Function.comp_apply, beq_iff_eq]
  omega
theorem X5 (p : List Int) (n : Nat) (hn : n ≤ 12) (h1 : 1 ≤ n) (hp : inR n p) : Ev (fun k => jU.f k p) (tlL (cyS p n n).2 n) := by
  have hCb := CS p n hp n (Nat.le_refl _)
  have hCm := qd p n n
  have hCp := Iu p n h1
  have hll : (e6 (cyS p n n).2).length = (cyS p n n).2.length := by simp [e6]
  have hs : ((e6 (cyS p n n).2).mergeSort fun x y => decide (x ≤ y)).length = (cyS p n n).2.length := by rw [List.length_mergeSort, hll]
  have hrev : ((e6 (cyS p n n).2).mergeSort fun x y => decide (x ≤ y)).reverse = tlL (cyS p n n).2 n := by
    refine QM _ _ ?_ (Qd _ n).1 ?_
    · rw [List.pairwise_reverse]
      have := List.pairwise_mergeSort (le := fun x y : Int => decide (x ≤ y)) (fun a b c h1 h2 => by simp only [decide_eq_true_eq] at *; omega) (fun a b => by simp only [Bool.or_eq_true, decide_eq_true_eq]; omega) (e6 (cyS p n n).2)
      exact this.imp fun h => by simpa using h
    · exact (List.reverse_perm _).trans ((List.mergeSort_perm _ _).trans (aaO _ n hCb).symm)
  have r1 := Yo ((e6 (cyS p n n).2).mergeSort fun x y => decide (x ≤ y)) (by omega)
  rw [hrev] at r1
  have hsort : rX.f (e6 (cyS p n n).2) = some ((e6 (cyS p n n).2).mergeSort fun x y => decide (x ≤ y)) := by
    unfold rX.f
    rw [if_pos ⟨by omega, by omega⟩]
  have run : ∀ (d i : Nat), (cyS p n n).2.length - i = d → i ≤ (cyS p n n).2.length → Ev (fun k => jU.l0 k (e6 ((cyS p n n).2.take i)) (cyS p n n).2 (cyS p n n).2.length i) (tlL (cyS p n n).2 n) := by
    intro d
    induction d with
    | zero =>
      intro i hd hi
      have e : i = (cyS p n n).2.length := by omega
      rw [e, List.take_length]
      refine Ev.s ?_
      simp only [jU.l0, show ¬ ((cyS p n n).2.length : Int) < ((cyS p n n).2.length : Int) by omega, if_false, hsort, Option.bind_some]
      exact Ev.bind r1 (Ev.const rfl)
    | succ d ih =>
      intro i hd hi
      have h := ih (i + 1) (by omega) (by omega)
      rw [O0 _ i (by omega)] at h
      have hlt : (e6 ((cyS p n n).2.take i)).length < 17592186044416 := by simp only [e6, List.length_map, List.length_take]; omega
      refine Ev.s ?_
      simp only [jU.l0, show (i : Int) < ((cyS p n n).2.length : Int) by omega, show (0 : Int) ≤ (i : Int) by omega, hlt, if_true, eM (show i < 4611686018427387904 by omega)]
      exact h
  unfold jU.f
  refine Ev.bind (qY p n (by omega) hp) ?_
  exact run _ 0 rfl (by omega)
theorem CC (r : List Int) (hr : r.length ≤ 1048576) : ∀ (d i : Nat), r.length - i = d → i ≤ r.length → Ev (fun k => iu.l0 k r r.length i) (kN (r.drop i))
  | 0, i, hd, hi => by
    refine Ev.s ?_
    simp only [iu.l0, show ¬ (i : Int) < (r.length : Int) by omega, if_false]
    rw [List.drop_eq_nil_of_le (by omega)]
    exact Ev.const rfl
  | d + 1, i, hd, hi => by
    have ih := CC r hr d (i + 1) (by omega) (by omega)
    rw [Ow r i (by omega)]
    refine Ev.s ?_
    simp only [iu.l0, show (i : Int) < (r.length : Int) by omega, show (0 : Int) ≤ (i : Int) by omega, if_true, eM (show i < 4611686018427387904 by omega)]
    by_cases h : rd r i = 4
    · simp only [h, if_true, decide_true, Bool.true_and]
      exact ih
    · simp only [h, if_false, decide_false, Bool.false_and]
      exact Ev.const rfl
theorem G8 (r : List Int) (hr : r.length ≤ 1048576) : ∀ (d i : Nat), r.length - i = d → i ≤ r.length → Ev (fun k => lv.l0 k r i) (kN (r.drop i))
  | 0, i, hd, hi => by
    refine Ev.s ?_
    simp only [lv.l0, show ¬ (i : Int) < (r.length : Int) by omega, if_false]
    rw [List.drop_eq_nil_of_le (by omega)]
    exact Ev.const rfl
  | d + 1, i, hd, hi => by
    have ih := G8 r hr d (i + 1) (by omega) (by omega)
    rw [Ow r i (by omega)]
    refine Ev.s ?_
    simp only [lv.l0, show (i : Int) < (r.length : Int) by omega, show (0 : Int) ≤ (i : Int) by omega, if_true, eM (show i < 4611686018427387904 by omega)]
    by_cases h : rd r i = 4
    · simp only [h, if_true, decide_true, Bool.true_and]
      exact ih
    · simp only [h, if_false, decide_false, Bool.false_and]
      exact Ev.const rfl
theorem rd3 (a b c : Int) : rd [a, b, c] 0 = a ∧ rd [a, b, c] 1 = b ∧ rd [a, b, c] 2 = c ∧ ([a, b, c] : List Int).length = 3 := ⟨rfl, rfl, rfl, rfl⟩
theorem Zr (t f : List Int) (ht : t.length ≤ 1048576) (hf : f.length ≤ 1048576) : ∃ r : Bool, Ev (fun k => tH.f k t f) r ∧ Ev (fun k => nF.f k t f) r := by
  obtain ⟨b, b1, b2, b3⟩ := sc t f ht hf
  unfold tH.f nF.f
  cases b with
  | false =>
    refine ⟨false, ?_, ?_⟩
    · refine Ev.bind b1 ?_
      simp only [Bool.false_eq_true, if_false]
      exact Ev.const rfl
    · refine Ev.bind (a := false) ?_ ?_
      · unfold iu.f
        refine Ev.bind b2 ?_
        simp only [Bool.false_eq_true, if_false]
        exact Ev.const rfl
      · simp only [Bool.false_eq_true, if_false]
        exact Ev.const rfl
  | true =>
    obtain ⟨pt, pf, hlen, hfl, hcon⟩ := b3.1 rfl
    have hrt := nJ t pt
    have hrf : inR t.length f := by have := nJ f pf; rwa [← hlen] at this
    have hn : t.length ≤ 12 ∧ 1 ≤ t.length := ⟨pt.2.1, pt.1⟩
    have hm := lp t.length f t hrf hrt
    have hCb := CS _ t.length hm t.length (Nat.le_refl _)
    have hCm := qd (aZ f t t.length) t.length t.length
    have hCp := Iu (aZ f t t.length) t.length hn.2
    have hml := mT f t t.length
    have hSm : Ev (fun k => mN.f k t f) (aZ f t t.length) := by
      unfold mN.f
      exact Ev.bind (zS t.length (by omega) f t hrf hrt) (Ev.const rfl)
    have hIm : Ev (fun k => gT.f k f t) (aZ f t t.length) := oI t.length (by omega) f t hrf hrt
    have hSc := Im (aZ f t t.length) t.length (by omega) hm
    have hIc := qY (aZ f t t.length) t.length (by omega) hm
    have hSt := Im t t.length (by omega) hrt
    have hIt := qY t t.length (by omega) hrt
    obtain ⟨r, r1, r2⟩ := Rv (cyS (aZ f t t.length) t.length t.length).2 (by omega) hCp
    have hType : Ev (fun k => jU.f k (aZ f t t.length)) r := by
      unfold jU.f
      refine Ev.bind hIc ?_
      exact r2 _ 0 rfl (by omega)
    have hrl : r.length ≤ 1048576 := by rw [r1.length_eq]; simp only [e6, List.length_map]; omega
    have hSType : Ev (fun k => hG.f k (aZ f t t.length)) (tlL (cyS (aZ f t t.length) t.length t.length).2 t.length) := by
      unfold hG.f
      refine Ev.bind hSc ?_
      rw [hml]
      have := Hq (cyS (aZ f t t.length) t.length t.length).2 (by omega) t.length [] (by omega) (by simp only [List.length_nil]; omega)
      exact this
    have hsl : (tlL (cyS (aZ f t t.length) t.length t.length).2 t.length).length ≤ 1048576 := by
      have h := Dn (cyS (aZ f t t.length) t.length t.length).2 t.length
      have : t.length * (cyS (aZ f t t.length) t.length t.length).2.length ≤ 12 * 12 := Nat.mul_le_mul hn.1 (by omega)
      omega
    have h4 : kN r = kN (tlL (cyS (aZ f t t.length) t.length t.length).2 t.length) := Rc _ _ fun x => by
      rw [r1.mem_iff, Dj]
      unfold e6
      rw [List.mem_map]
      constructor
      · rintro ⟨l, hl, rfl⟩
        exact ⟨l, hl, (hCb l hl).1, (hCb l hl).2, rfl⟩
      · rintro ⟨l, hl, _, _, rfl⟩
        exact ⟨l, hl, rfl⟩
    have hq : Ev (fun k => iu.f k t f) (kN r) := by
      unfold iu.f
      refine Ev.bind b2 ?_
      simp only [if_true]
      refine Ev.bind hIm ?_
      refine Ev.bind hType ?_
      exact CC r hrl r.length 0 (by omega) (by omega)
    have hs : Ev (fun k => lv.f k t f) (kN r) := by
      unfold lv.f
      refine Ev.bind hSm ?_
      refine Ev.bind hSType ?_
      rw [h4]
      exact G8 _ hsl _ 0 rfl (by omega)
    by_cases ha : kN r = true
    · rw [ha] at hq hs
      obtain ⟨g, hg1, hg2⟩ : ∃ g : Int, Ev (fun k => vy.f k t f) g ∧ Ev (fun k => kj.f k t f) g := by
        refine ⟨wrap64 (Int.tdiv (wrap64 ((wrap64 ((wrap64 (2 - ((cyS t t.length t.length).2.length : Int))) + (wrap64 ((f.length : Int) / 2)))) - ((cyS (aZ f t t.length) t.length t.length).2.length : Int))) 2), ?_, ?_⟩
        rotate_left
        · unfold kj.f
          refine Ev.bind hIt ?_
          refine Ev.bind hIm ?_
          exact Ev.bind hIc (Ev.const rfl)
        · unfold vy.f
          refine Ev.bind (a := [((cyS t t.length t.length).2.length : Int), wrap64 ((f.length : Int) / 2), ((cyS (aZ f t t.length) t.length t.length).2.length : Int)]) ?_ ?_
          · unfold mV.f
            refine Ev.bind hSt ?_
            refine Ev.bind hSm ?_
            exact Ev.bind hSc (Ev.const rfl)
          · simp only [(rd3 _ _ _).1, (rd3 _ _ _).2.1, (rd3 _ _ _).2.2.1, (rd3 _ _ _).2.2.2, show (0 : Int) < ((3 : Nat) : Int) by decide, show (1 : Int) < ((3 : Nat) : Int) by decide, show (2 : Int) < ((3 : Nat) : Int) by decide, if_true]
            exact ⟨0, fun _ _ => rfl⟩
      refine ⟨g == 0, ?_, ?_⟩
      · refine Ev.bind b1 ?_
        simp only [if_true]
        refine Ev.bind hs ?_
        simp only [if_true]
        exact Ev.bind hg1 (Ev.const rfl)
      · refine Ev.bind hq ?_
        simp only [if_true]
        exact Ev.bind hg2 (Ev.const rfl)
    · rw [Bool.not_eq_true] at ha
      rw [ha] at hq hs
      refine ⟨false, ?_, ?_⟩
      · refine Ev.bind b1 ?_
        simp only [if_true]
        refine Ev.bind hs ?_
        simp only [Bool.false_eq_true, if_false]
        exact Ev.const rfl
      · refine Ev.bind hq ?_
        simp only [Bool.false_eq_true, if_false]
        exact Ev.const rfl
theorem aak (t f : List Int) (n : Nat) (hn : n ≤ 1048576) (hrt : inR n t) (hrf : inR n f) : Ev (fun k => mN.f k t f) (aZ f t n) ∧ Ev (fun k => gT.f k f t) (aZ f t n) :=
  ⟨by unfold mN.f; exact Ev.bind (zS n hn f t hrf hrt) (Ev.const rfl), oI n hn f t hrf hrt⟩
theorem Zs (t f : List Int) (h : isMap t f) : ∃ q : Bool, Ev (fun k => lv.f k t f) q ∧ Ev (fun k => iu.f k t f) q ∧ (q = true ↔ ∀ l ∈ (cyS (aZ f t t.length) t.length t.length).2, l.length = 4) := by
  obtain ⟨pt, pf, hlen, hfl, hcon⟩ := id h
  have hrt := nJ t pt
  have hrf : inR t.length f := by have := nJ f pf; rwa [← hlen] at this
  have hn : t.length ≤ 12 ∧ 1 ≤ t.length := ⟨pt.2.1, pt.1⟩
  have hm := lp t.length f t hrf hrt
  have hCb := CS _ t.length hm t.length (Nat.le_refl _)
  have hCm := qd (aZ f t t.length) t.length t.length
  have hCp := Iu (aZ f t t.length) t.length hn.2
  have hml := mT f t t.length
  obtain ⟨hSm, hIm⟩ := aak t f t.length (by omega) hrt hrf
  have hSc := Im (aZ f t t.length) t.length (by omega) hm
  have hIc := qY (aZ f t t.length) t.length (by omega) hm
  obtain ⟨b, _, b2, b3⟩ := sc t f (by omega) (by omega)
  rw [b3.2 h] at b2
  obtain ⟨r, r1, r2⟩ := Rv (cyS (aZ f t t.length) t.length t.length).2 (by omega) hCp
  have hType : Ev (fun k => jU.f k (aZ f t t.length)) r := by
    unfold jU.f
    refine Ev.bind hIc ?_
    exact r2 _ 0 rfl (by omega)
  have hrl : r.length ≤ 1048576 := by rw [r1.length_eq]; simp only [e6, List.length_map]; omega
  have hSType : Ev (fun k => hG.f k (aZ f t t.length)) (tlL (cyS (aZ f t t.length) t.length t.length).2 t.length) := by
    unfold hG.f
    refine Ev.bind hSc ?_
    rw [hml]
    have := Hq (cyS (aZ f t t.length) t.length t.length).2 (by omega) t.length [] (by omega) (by simp only [List.length_nil]; omega)
    exact this
  have hsl : (tlL (cyS (aZ f t t.length) t.length t.length).2 t.length).length ≤ 1048576 := by
    have h := Dn (cyS (aZ f t t.length) t.length t.length).2 t.length
    have : t.length * (cyS (aZ f t t.length) t.length t.length).2.length ≤ 12 * 12 := Nat.mul_le_mul hn.1 (by omega)
    omega
  have h4 : kN r = kN (tlL (cyS (aZ f t t.length) t.length t.length).2 t.length) := Rc _ _ fun x => by
    rw [r1.mem_iff, Dj]
    unfold e6
    rw [List.mem_map]
    constructor
    · rintro ⟨l, hl, rfl⟩
      exact ⟨l, hl, (hCb l hl).1, (hCb l hl).2, rfl⟩
    · rintro ⟨l, hl, _, _, rfl⟩
      exact ⟨l, hl, rfl⟩
  refine ⟨kN r, ?_, ?_, ?_⟩
  · unfold lv.f
    refine Ev.bind hSm ?_
    refine Ev.bind hSType ?_
    rw [h4]
    exact G8 _ hsl _ 0 rfl (by omega)
  · unfold iu.f
    refine Ev.bind b2 ?_
    simp only [if_true]
    refine Ev.bind hIm ?_
    refine Ev.bind hType ?_
    exact CC r hrl r.length 0 (by omega) (by omega)
  · unfold kN
    rw [List.all_eq_true]
    constructor
    · intro z l hl
      have := z (l.length : Int) (r1.mem_iff.2 (List.mem_map.2 ⟨l, hl, rfl⟩))
      have := of_decide_eq_true this
      omega
    · intro z x hx
      obtain ⟨l, hl, rfl⟩ := List.mem_map.1 (r1.mem_iff.1 hx)
      exact decide_eq_true (by have := z l hl; omega)
end Go.Proofs.Ytlpbalebodlipaa.PL

namespace Go.Proofs.Ytlpbalebodlipaa.PL
open Go.RowKit Go.Proofs.YtlpbalebodlipaaW.PrintWords Go.Proofs.YtlpbalebodlipaaW.PrintLast Go.Proofs.YtlpbalebodlipaaW.PrintMore
attribute [local go_sem] nV nQ nE ny nA nG nO nR   -- for this text's walks alone
set_option linter.unusedVariables false
set_option linter.unusedSimpArgs false
def zM.T9 : Bool × List (List Nat × List Nat) := (true, [([], []), ([], []), ([0, 1], [0, 1]), ([2], [2]), ([3], [3]), ([], []), ([], []), ([6], [6]), ([], []), ([7, 8], [7, 8]), ([9], [9]), ([5, 10], [5, 10]), ([11], [11]), ([12], [12]), ([4, 13], [4, 13])])
def zM.B9 : List Nat := [0, 0, 3, 7, 15, 0, 0, 64, 0, 448, 960, 2016, 4064, 8160, 16383]
def zM.T20 : Bool × List (List Nat × List Nat) := (true, [([], []), ([0], [0]), ([], []), ([], []), ([3], [3]), ([], []), ([4, 5], [4, 5]), ([6], [6]), ([2, 7], [2, 7]), ([8], [8]), ([9], [9]), ([1, 10], [1, 10]), ([0, 1, 2, 3, 4, 5, 6, 7, 8, 9, 10, 11], []), ([12, 11, 11, 0, 1, 2, 3, 4, 5, 6, 7, 8, 9, 10, 11], [11, 12])])
def zM.B20 : List Nat := [0, 1, 0, 0, 8, 0, 56, 120, 252, 508, 1020, 2047, 4095, 8191]
def zM.T21 : Bool × List (List Nat × List Nat) := (true, [([], []), ([0], [0]), ([], []), ([], []), ([], []), ([], []), ([], []), ([6], [6]), ([], []), ([7, 8], [7, 8]), ([9], [9]), ([5, 10], [5, 10]), ([11], [11]), ([4, 12], [4, 12]), ([13], [13]), ([3, 14], [3, 14]), ([15], [15]), ([2, 16], [2, 16]), ([17], [17]), ([18], [18]), ([1, 19], [1, 19]), ([0, 1, 2, 3, 4, 5, 6, 7, 8, 9, 10, 11, 12, 13, 14, 15, 16, 17, 18, 19, 20], []), ([21, 20, 20, 0, 1, 2, 3, 4, 5, 6, 7, 8, 9, 10, 11, 12, 13, 14, 15, 16, 17, 18, 19, 20], [20, 21])])
def zM.B21 : List Nat := [0, 1, 0, 0, 0, 0, 0, 64, 0, 448, 960, 2016, 4064, 8176, 16368, 32760, 65528, 131068, 262140, 524284, 1048575, 2097151, 4194303]
end Go.Proofs.Ytlpbalebodlipaa.PL

set_option linter.unusedVariables false
set_option linter.unusedSimpArgs false
namespace Go.Proofs.Ytlpbalebodlipaa.PL
open Go.RowKit Go.Proofs.YtlpbalebodlipaaW.PrintWords Go.Proofs.YtlpbalebodlipaaW.PrintLast Go.Proofs.YtlpbalebodlipaaW.PrintMore
def nmE (g : List Int) : Nat → Nat
  | 0 => 0
  | i + 1 => if Int.tmod (rd g i) 2 = 0 then nmE g i + 1 else nmE g i
theorem Hl (g : List Int) (i : Nat) : ∀ d, nmE g i ≤ nmE g (i + d)
  | 0 => Nat.le_refl _
  | d + 1 => by
    have := Hl g i d
    rw [← Nat.add_assoc]
    simp only [nmE]
    split <;> omega
theorem C9 (g : List Int) : ∀ i, nmE g i ≤ i
  | 0 => Nat.le_refl _
  | i + 1 => by
    have := C9 g i
    simp only [nmE]
    split <;> omega
theorem ZO {t f : List Int} (h : isMap t f) : fI t f t.length := by
  obtain ⟨pt, pf, hlen, hfl, hcon⟩ := h
  refine ⟨pt.2.1, pt.1, nJ t pt, fun i j hi hj e => ?_, by have := nJ f pf; rwa [← hlen] at this, by rw [hlen]; exact hfl, by rw [hlen]; exact hcon⟩
  refine Classical.byContradiction fun hne => ?_
  rcases Nat.lt_or_gt_of_ne hne with q | q
  · exact (pt.2.2 j hj).2.2 i q e
  · exact (pt.2.2 i hi).2.2 j q e.symm
def tmF (t fc bk nm : List Int) (i : Nat) : Int := rd nm (rd bk (rd fc (rd fc (rd t i))))
def tmA (g t nm : List Int) : Nat → List Int
  | 0 => []
  | i + 1 => if Int.tmod (rd g i) 2 = 0 then tmA g t nm i ++ [rd nm (rd t i)] else tmA g t nm i
def tmB (g t fc bk nm : List Int) : Nat → List Int
  | 0 => []
  | i + 1 => if Int.tmod (rd g i) 2 = 0 then tmB g t fc bk nm i ++ [tmF t fc bk nm i] else tmB g t fc bk nm i
theorem zT (g t nm : List Int) : ∀ i, (tmA g t nm i).length = nmE g i
  | 0 => rfl
  | i + 1 => by
    simp only [tmA, nmE]
    split <;> simp [zT g t nm i]
theorem zy (g t fc bk nm : List Int) : ∀ i, (tmB g t fc bk nm i).length = nmE g i
  | 0 => rfl
  | i + 1 => by
    simp only [tmB, nmE]
    split <;> simp [zy g t fc bk nm i]
theorem Hw (t f g nm fc bk : List Int) (n : Nat) (hn : n ≤ 12) (ht : inR n t) (hg : g.length = n) (hfc : inR n fc) (hbk : inR n bk) (hnl : nm.length = n) (hnm : ∀ z : Nat, z < n → rd nm z = nmE g z) :
    ∀ (d i : Nat) (A B : List Int), n - i = d → i ≤ n → A.length = nmE g n → B.length = nmE g n → A.take (nmE g i) = tmA g t nm i → B.take (nmE g i) = tmB g t fc bk nm i →
      Ev (fun k => ce.l1 k nm fc bk g n i t f A B) (tmA g t nm n, tmB g t fc bk nm n, true)
  | 0, i, A, B, hd, hi, hA, hB, eA, eB => by
    have : i = n := by omega
    subst this
    rw [← hA, List.take_length] at eA
    rw [← hB, List.take_length] at eB
    refine Ev.s ?_
    simp only [ce.l1, show ¬ (i : Int) < (i : Int) by omega, if_false]
    exact Ev.const (by rw [eA, eB])
  | d + 1, i, A, B, hd, hi, hA, hB, eA, eB => by
    have hlt : i < n := by omega
    have hti := ht.2 i hlt
    obtain ⟨a, ha⟩ : ∃ a : Nat, rd t i = a := ⟨(rd t i).toNat, by omega⟩
    rw [ha] at hti
    have han : a < n := by omega
    have h1 := hfc.2 a han
    obtain ⟨b, hb⟩ : ∃ b : Nat, rd fc a = b := ⟨(rd fc a).toNat, by omega⟩
    rw [hb] at h1
    have hbn : b < n := by omega
    have h2 := hfc.2 b hbn
    obtain ⟨c, hc⟩ : ∃ c : Nat, rd fc b = c := ⟨(rd fc b).toNat, by omega⟩
    rw [hc] at h2
    have hcn : c < n := by omega
    have h3 := hbk.2 c hcn
    obtain ⟨e, he⟩ : ∃ e : Nat, rd bk c = e := ⟨(rd bk c).toNat, by omega⟩
    rw [he] at h3
    have g1 : (i : Int) < (n : Int) := by omega
    have g2 : (0 : Int) ≤ (i : Int) := by omega
    have g3 : (0 : Int) ≤ (a : Int) := by omega
    have g5 : (0 : Int) ≤ (b : Int) := by omega
    have g7 : (0 : Int) ≤ (c : Int) := by omega
    have g9 : (0 : Int) ≤ (e : Int) := by omega
    have hm1 := Hl g (i + 1) (n - (i + 1))
    rw [show i + 1 + (n - (i + 1)) = n by omega] at hm1
    have hle := C9 g n
    by_cases ev : Int.tmod (rd g i) 2 = 0
    · have hs : nmE g (i + 1) = nmE g i + 1 := by simp only [nmE, ev, if_true]
      have hlt2 : nmE g i < nmE g n := by omega
      have q1 : ((nmE g i : Nat) : Int) < ((nmE g n : Nat) : Int) := by omega
      have q0 : (0 : Int) ≤ ((nmE g i : Nat) : Int) := by omega
      have hAs : tmA g t nm (i + 1) = tmA g t nm i ++ [rd nm a] := by simp only [tmA, ev, if_true, ha]
      have hBs : tmB g t fc bk nm (i + 1) = tmB g t fc bk nm i ++ [rd nm e] := by simp only [tmB, ev, if_true, tmF, ha, hb, hc, he]
      have lA : (tmA g t nm i).length < 17592186044416 := by rw [zT]; omega
      have lB : (tmB g t fc bk nm i).length < 17592186044416 := by rw [zy]; omega
      have r2 := Hw t f g nm fc bk n hn ht hg hfc hbk hnl hnm d (i + 1) (A.set (nmE g i) (rd nm a)) (B.set (nmE g i) (rd nm e)) (by omega) (by omega) (by simp [hA]) (by simp [hB])
        (by rw [hs, zP _ _ _ (by omega), eA, hAs]) (by rw [hs, zP _ _ _ (by omega), eB, hBs])
      refine Ev.s ?_
      · simp only [ce.l1, hg, ht.1, hnl, hfc.1, hbk.1, g1, g2, g3, g5, g7, g9, ev, ha, hb, hc, he, hti.2, h1.2, h2.2, h3.2, hnm i hlt, q0, q1, hA, hB, if_true, Int.toNat_natCast]
        rw [eM (by omega)]
        exact r2
    · have hs : nmE g (i + 1) = nmE g i := by simp only [nmE, ev, if_false]
      have hAs : tmA g t nm (i + 1) = tmA g t nm i := by simp only [tmA, ev, if_false]
      have hBs : tmB g t fc bk nm (i + 1) = tmB g t fc bk nm i := by simp only [tmB, ev, if_false]
      have r2 := Hw t f g nm fc bk n hn ht hg hfc hbk hnl hnm d (i + 1) A B (by omega) (by omega) hA hB (by rw [hs, eA, hAs]) (by rw [hs, eB, hBs])
      refine Ev.s ?_
      · simp only [ce.l1, hg, g1, g2, ev, if_true, if_false]
        rw [eM (by omega)]
        exact r2
theorem OS (t f g : List Int) (n : Nat) (H : fI t f n) (hg : g.length = n) (hpar : ∀ x : Nat, x < n → ¬ Int.tmod (rd g x) 2 = Int.tmod (rd g (rd f x)) 2) :
    ∀ (d i : Nat) (l : List Int), n - i = d → i ≤ n → l.length = n → (∀ z : Nat, z < i → rd l z = nmE g z) →
      ∃ l', l'.length = n ∧ (∀ z : Nat, z < n → rd l' z = nmE g z) ∧ Ev (fun k => ce.l0 k g l (nmE g i) f n i t f) (tmA g t l' n, tmB g t (aZ f t n) (eN t n n) l' n, true)
  | 0, i, l, hd, hi, hl, h => by
    have : i = n := by omega
    subst this
    obtain ⟨hn, h1, ht, hti, hf, hfl, hcon⟩ := id H
    have hle := C9 g i
    have r2 := Hw t f g l (aZ f t i) (eN t i i) i hn ht hg (lp i f t hf ht) (tQ t i) hl h i 0 (List.replicate (nmE g i) 0) (List.replicate (nmE g i) 0) (by omega) (by omega) (by simp) (by simp) (by simp [nmE, tmA]) (by simp [nmE, tmB])
    refine ⟨l, hl, h, Ev.s ?_⟩
    simp only [ce.l0, show ¬ (i : Int) < (i : Int) by omega, if_false]
    refine Ev.bind (oI i (by omega) f t hf ht) ?_
    refine Ev.bind (CL i (by omega) t ht) ?_
    simp only [show (0 : Int) ≤ ((nmE g i : Nat) : Int) by omega, show nmE g i ≤ 35184372088832 by omega, if_true, Int.toNat_natCast, hg]
    exact r2
  | d + 1, i, l, hd, hi, hl, h => by
    obtain ⟨hn, h1, ht, hti, hf, hfl, hcon⟩ := id H
    have hlt : i < n := by omega
    have hfi := hf.2 i hlt
    have g1 : (i : Int) < (n : Int) := by omega
    have g2 : (0 : Int) ≤ (i : Int) := by omega
    have hle := C9 g i
    have ev := hpar i hlt
    obtain ⟨l', q1, q2, r2⟩ := OS t f g n H hg hpar d (i + 1) (l.set i (nmE g i)) (by omega) (by omega) (by simp [hl]) (fun z hz => by
      rw [lr _ _ _ _ (by omega)]
      by_cases e : z = i
      · rw [if_pos e, e]
      · rw [if_neg e]; exact h z (by omega))
    refine ⟨l', q1, q2, Ev.s ?_⟩
    simp only [ce.l0, hg, hf.1, hfi.1, hfi.2, g1, g2, ev, hl, if_true, if_false, Int.toNat_natCast, Option.bind_some]
    by_cases q : Int.tmod (rd g i) 2 = 0
    · simp only [q, if_true]
      rw [eM (i := i) (by omega), eM (i := nmE g i) (by omega)]
      have : nmE g (i + 1) = nmE g i + 1 := by simp only [nmE, q, if_true]
      rw [this] at r2
      exact r2
    · simp only [q, if_false]
      rw [eM (i := i) (by omega)]
      have : nmE g (i + 1) = nmE g i := by simp only [nmE, q, if_false]
      rw [this] at r2
      exact r2
theorem Y6 (t f : List Int) (n : Nat) (H : fI t f n) (hm : isMap t f) (h4 : ∀ l ∈ (cyS (aZ f t n) n n).2, l.length = 4) : Ev (fun k => iu.f k t f) true := by
  obtain ⟨hn, h1, ht, hti, hf, hfl, hcon⟩ := id H
  have l1 := ht.1
  have l2 := hf.1
  obtain ⟨b, _, b2, b3⟩ := sc t f (by omega) (by omega)
  have hb : b = true := b3.2 hm
  subst hb
  have hl := Dn (cyS (aZ f t n) n n).2 n
  have hC := qd (aZ f t n) n n
  have hr : (tlL (cyS (aZ f t n) n n).2 n).length ≤ 1048576 := by
    have : n * (cyS (aZ f t n) n n).2.length ≤ 12 * 12 := Nat.mul_le_mul hn (by omega)
    omega
  have r := CC _ hr _ 0 (Nat.sub_zero _) (Nat.zero_le _)
  have ha : kN ((tlL (cyS (aZ f t n) n n).2 n).drop 0) = true := by
    rw [List.drop_zero]
    unfold kN
    refine List.all_eq_true.2 fun x hx => decide_eq_true ?_
    obtain ⟨l, hl, _, _, e⟩ := (Dj _ x n).1 hx
    rw [e, h4 l hl]
    rfl
  rw [ha] at r
  unfold iu.f
  refine Ev.bind b2 ?_
  simp only [if_true]
  refine Ev.bind (oI n (by omega) f t hf ht) ?_
  refine Ev.bind (X5 _ n hn h1 (lp n f t hf ht)) ?_
  exact r
theorem Zn (t f : List Int) (n : Nat) (H : fI t f n) (hm : isMap t f) (h4 : ∀ l ∈ (cyS (aZ f t n) n n).2, l.length = 4) (a : Nat) (ha : a < n) (g : List Int) (hg : hJ t f n a g) (e2 : Ev (fun k => oJ.f k t f (a : Int)) g) (hpar : ∀ x : Nat, x < n → ¬ Int.tmod (rd g x) 2 = Int.tmod (rd g (rd f x)) 2) :
    ∃ l', l'.length = n ∧ (∀ z : Nat, z < n → rd l' z = nmE g z) ∧ Ev (fun k => ce.f k t f (a : Int)) (tmA g t l' n, tmB g t (aZ f t n) (eN t n n) l' n, true) := by
  obtain ⟨hn, h1, ht, hti, hf, hfl, hcon⟩ := id H
  have l1 := ht.1
  have l2 := hf.1
  obtain ⟨l', q1, q2, r2⟩ := OS t f g n H hg.len hpar n 0 (List.replicate n 0) (by omega) (by omega) (by simp) (fun z hz => by omega)
  refine ⟨l', q1, q2, ?_⟩
  unfold ce.f
  refine Ev.bind (Y6 t f n H hm h4) ?_
  simp only [if_true, show ¬ (a : Int) < 0 by omega, if_false]
  refine Ev.s ?_
  simp only [ce.j0, l1, show ¬ (a : Int) ≥ (n : Int) by omega, decide_false, Bool.false_eq_true, if_false]
  refine Ev.bind e2 ?_
  simp only [hg.len, Int.toNat_natCast, show (0 : Int) ≤ (n : Int) by omega, show n ≤ 35184372088832 by omega, if_true, l2]
  exact r2
theorem xW (s : List Bool) (i j : Nat) (b : Bool) (hi : i < s.length) : (s.set i b).getD j false = if i = j then b else s.getD j false := by
  rw [List.getD_eq_getElem?_getD, List.getElem?_set]
  by_cases e : i = j
  · subst e
    simp [hi]
  · simp [e, List.getD_eq_getElem?_getD]
theorem H9 (p : List Int) (n : Nat) (hp : inR n p) (a0 : Nat) (ha0 : a0 < n) (s0 : Nat → Prop) : ∀ (m : Nat) (s : List Bool) (c : List Int) (a : Nat), s.length = n → a < n → fresh s < m →
    (∀ x, x < n → s.getD x false = true → s.getD (rd p x).toNat false = true ∨ (rd p x).toNat = a) → Reach [p] n a0 a → (∀ x, x < n → s.getD x false = true → s0 x ∨ Reach [p] n a0 x) → (∀ x, s0 x → s.getD x false = true) → (s.getD a0 false = true ∨ a = a0) → (∀ x ∈ c, 0 ≤ x ∧ x < n ∧ Reach [p] n a0 x.toNat) → (a0 ≠ a → (a0 : Int) ∈ c) → (∀ x, x < n → s.getD x false = true → s0 x ∨ (x : Int) ∈ c) →
    (∀ x, x < n → (cw p m s c a).1.getD x false = true → (cw p m s c a).1.getD (rd p x).toNat false = true) ∧ (∀ x, x < n → (cw p m s c a).1.getD x false = true → s0 x ∨ Reach [p] n a0 x) ∧ (∀ x, s0 x → (cw p m s c a).1.getD x false = true) ∧ (cw p m s c a).1.getD a0 false = true ∧ (∀ x ∈ (cw p m s c a).2, 0 ≤ x ∧ x < n ∧ Reach [p] n a0 x.toNat) ∧ (∀ x, x < n → (cw p m s c a).1.getD x false = true → s0 x ∨ (x : Int) ∈ (cw p m s c a).2)
  | 0, s, c, a, hs, ha, hm, h1, h2, h3, h4, h5, h6, h7, h8 => absurd hm (Nat.not_lt_zero _)
  | m + 1, s, c, a, hs, ha, hm, h1, h2, h3, h4, h5, h6, h7, h8 => by
    simp only [cw]
    rw [oL s a (by omega), Int.toNat_natCast]
    by_cases e : s.getD a false = true
    · rw [if_pos e]
      refine ⟨fun x hx hsx => (h1 x hx hsx).elim id (fun z => by rw [z]; exact e), h3, h4, h5.elim id (fun z => by rw [← z]; exact e), h6, h8⟩
    · rw [if_neg e]
      have pr := hp.2 a ha
      have e0 : s.getD a false = false := by simpa using e
      have fr := vY s a (by omega) e0
      have back : (((rd p a).toNat : Nat) : Int) = rd p a := by omega
      have st := Reach.step (ps := [p]) (n := n) (p := p) (by simp) ha
      have ih := H9 p n hp a0 ha0 s0 m (s.set a true) (c ++ [(a : Int)]) (rd p a).toNat (by simpa using hs) (by omega) (by omega)
        (fun x hx hsx => by
          rw [xW _ _ _ _ (by omega)] at hsx ⊢
          by_cases z : a = x
          · subst z; exact .inr rfl
          · rw [if_neg z] at hsx
            by_cases y : a = (rd p x).toNat
            · rw [if_pos y]; exact .inl rfl
            · rw [if_neg y]
              exact .inl ((h1 x hx hsx).elim id (fun q => absurd q.symm y)))
        (h2.trans st)
        (fun x hx hsx => by
          rw [xW _ _ _ _ (by omega)] at hsx
          by_cases z : a = x
          · subst z; exact .inr h2
          · rw [if_neg z] at hsx
            exact h3 x hx hsx)
        (fun x hx => by
          rw [xW _ _ _ _ (by omega)]
          split
          · rfl
          · exact h4 x hx)
        (.inl (by
          rw [xW _ _ _ _ (by omega)]
          by_cases z : a = a0
          · rw [if_pos z]
          · rw [if_neg z]
            exact h5.elim id (fun q => absurd q z)))
        (fun x hx => by
          rw [List.mem_append, List.mem_singleton] at hx
          rcases hx with hx | rfl
          · exact h6 x hx
          · exact ⟨by omega, by omega, by rw [Int.toNat_natCast]; exact h2⟩)
        (fun _ => by
          rw [List.mem_append, List.mem_singleton]
          by_cases z : a0 = a
          · right; rw [z]
          · exact .inl (h7 z))
        (fun x hx hsx => by
          rw [List.mem_append, List.mem_singleton]
          rw [xW _ _ _ _ (by omega)] at hsx
          by_cases z : a = x
          · subst z; exact .inr (.inr rfl)
          · rw [if_neg z] at hsx
            exact (h8 x hx hsx).imp id .inl)
      rw [back] at ih
      exact ih
theorem t6 (p : List Int) (n : Nat) (hp : inR n p) (hi : da n p) : ∀ i, i ≤ n → ∀ x, x < n → ((cyS p n i).1.getD x false = true ↔ ∃ j, j < i ∧ Reach [p] n j x)
  | 0, _, x, hx => by
    constructor
    · intro h
      simp [cyS, List.getD_eq_getElem?_getD, List.getElem?_replicate, hx] at h
    · rintro ⟨j, hj, _⟩; omega
  | i + 1, hi', x, hx => by
    have ih := t6 p n hp hi i (by omega)
    have l1 := qO p n i
    simp only [cyS]
    by_cases e : (cyS p n i).1.getD i false = true
    · rw [Ig p (n + 1) _ _ _ (by rw [oL _ _ (by omega), Int.toNat_natCast]; exact e)]
      rw [ih x hx]
      obtain ⟨q, q1, q2⟩ := (ih i (by omega)).1 e
      constructor
      · rintro ⟨j, hj, h⟩; exact ⟨j, by omega, h⟩
      · rintro ⟨j, hj, h⟩
        by_cases z : j = i
        · subst z; exact ⟨q, q1, q2.trans h⟩
        · exact ⟨j, by omega, h⟩
    · obtain ⟨w1, w2, w3, w4, w5, w6⟩ := H9 p n hp i (by omega) (fun x => x < n ∧ (cyS p n i).1.getD x false = true) (n + 1) (cyS p n i).1 [] i l1 (by omega) (by have := xS (cyS p n i).1; omega)
        (fun y hy hsy => .inl (by
          have pr := hp.2 y hy
          obtain ⟨j, hj, h⟩ := (ih y hy).1 hsy
          exact (ih _ (by omega)).2 ⟨j, hj, h.trans (Reach.step (by simp) hy)⟩))
        (Reach.refl _ _ _) (fun y hy hsy => .inl ⟨hy, hsy⟩) (fun y hy => hy.2) (.inr rfl) (by simp) (fun z => absurd rfl z) (fun y hy hsy => .inl ⟨hy, hsy⟩)
      constructor
      · intro h
        rcases w2 x hx h with ⟨_, h⟩ | h
        · obtain ⟨j, hj, h⟩ := (ih x hx).1 h
          exact ⟨j, by omega, h⟩
        · exact ⟨i, by omega, h⟩
      · rintro ⟨j, hj, h⟩
        by_cases z : j = i
        · subst z
          have hc := mP p n hp hi (fun y => (cw p (n + 1) (cyS p n j).1 [] j).1.getD y false = true) w1
          exact (h _ hc).1 w4
        · exact w3 x ⟨hx, (ih x hx).2 ⟨j, by omega, h⟩⟩
theorem Cnt.none {P : Nat → Prop} {n : Nat} (h : ∀ x, x < n → ¬ P x) : Cnt n P 0 := ⟨[], List.nodup_nil, fun x => ⟨fun z => by simp at z, fun z => absurd z.2 (h x z.1)⟩, rfl⟩
theorem Dw (p : List Int) (n : Nat) (hp : inR n p) (hi : da n p) : ∀ i, i ≤ n → ∃ reps : List Nat, reps.length = (cyS p n i).2.length ∧ reps.Nodup ∧ (∀ j, j ∈ reps ↔ j < i ∧ lst (Reach [p] n) j) ∧ ∀ (q : Nat) (h : q < reps.length) (x : Nat), x < n → ((x : Int) ∈ dp (cyS p n i).2 q ↔ Reach [p] n reps[q] x)
  | 0, _ => ⟨[], by simp [cyS], List.nodup_nil, by simp, fun q h => by simp at h⟩
  | i + 1, hi' => by
    obtain ⟨reps, r1, r2, r3, r4⟩ := Dw p n hp hi i (by omega)
    have seen := t6 p n hp hi i (by omega) i (by omega)
    have l1 := qO p n i
    simp only [cyS]
    by_cases e : (cyS p n i).1.getD i false = true
    · rw [Ig p (n + 1) _ _ _ (by rw [oL _ _ (by omega), Int.toNat_natCast]; exact e)]
      rw [if_pos rfl]
      obtain ⟨j, hj, h⟩ := seen.1 e
      refine ⟨reps, r1, r2, fun q => ?_, r4⟩
      rw [r3]
      constructor
      · rintro ⟨a, b⟩; exact ⟨by omega, b⟩
      · rintro ⟨a, b⟩
        by_cases z : q = i
        · subst z; exact absurd h (b j hj)
        · exact ⟨by omega, b⟩
    · have e' : ¬ fy false (cyS p n i).1 (i : Int) = true := by rw [oL _ _ (by omega), Int.toNat_natCast]; exact e
      have hl : lst (Reach [p] n) i := fun j hj h => e (seen.2 ⟨j, hj, h⟩)
      obtain ⟨w1, w2, w3, w4, w5, w6⟩ := H9 p n hp i (by omega) (fun x => x < n ∧ (cyS p n i).1.getD x false = true) (n + 1) (cyS p n i).1 [] i l1 (by omega) (by have := xS (cyS p n i).1; omega)
        (fun y hy hsy => .inl (by
          have pr := hp.2 y hy
          obtain ⟨j, hj, h⟩ := (t6 p n hp hi i (by omega) y hy).1 hsy
          exact (t6 p n hp hi i (by omega) _ (by omega)).2 ⟨j, hj, h.trans (Reach.step (by simp) hy)⟩))
        (Reach.refl _ _ _) (fun y hy hsy => .inl ⟨hy, hsy⟩) (fun y hy => hy.2) (.inr rfl) (by simp) (fun z => absurd rfl z) (fun y hy hsy => .inl ⟨hy, hsy⟩)
      have hc := mP p n hp hi (fun y => (cw p (n + 1) (cyS p n i).1 [] i).1.getD y false = true) w1
      rw [if_neg (G2 p n _ i e')]
      refine ⟨reps ++ [i], by rw [List.length_append, List.length_append, r1]; rfl, List.nodup_append.2 ⟨r2, by simp, fun a ha b hb z => ?_⟩, fun q => ?_, fun q hq x hx => ?_⟩
      · have := ((r3 a).1 ha).1
        rw [List.mem_singleton] at hb
        omega
      · rw [List.mem_append, List.mem_singleton, r3]
        constructor
        · rintro (⟨a, b⟩ | rfl)
          · exact ⟨by omega, b⟩
          · exact ⟨by omega, hl⟩
        · rintro ⟨a, b⟩
          by_cases z : q = i
          · exact .inr z
          · exact .inl ⟨by omega, b⟩
      · by_cases hq' : q < reps.length
        · rw [yc _ q (by simp; omega), List.getElem_append_left (by omega), List.getElem_append_left hq', ← yc _ q (by omega)]
          exact r4 q hq' x hx
        · have hq2 : q = reps.length := by simp at hq; omega
          subst hq2
          rw [yc _ _ (by simp; omega), List.getElem_append_right (by omega), List.getElem_append_right (Nat.le_refl _)]
          simp only [r1, Nat.sub_self, List.getElem_cons_zero]
          constructor
          · intro hm
            have := (w5 x hm).2.2
            rwa [Int.toNat_natCast] at this
          · intro h
            have z := (h _ hc).1 w4
            rcases w6 x hx z with ⟨_, z⟩ | z
            · obtain ⟨j, hj, hr⟩ := (t6 p n hp hi i (by omega) x hx).1 z
              exact absurd (hr.trans h.symm) (hl j hj)
            · exact z
theorem r7 (p : List Int) (n : Nat) (hp : inR n p) (hi : da n p) : Cl n (Reach [p] n) (cyS p n n).2.length := by
  obtain ⟨reps, r1, r2, r3, _⟩ := Dw p n hp hi n (Nat.le_refl _)
  exact ⟨reps, r2, r3, r1⟩
def sm : List Int → Int
  | [] => 0
  | x :: l => x + sm l
theorem OG : ∀ (a b : List Int), sm (a ++ b) = sm a + sm b
  | [], b => by simp [sm]
  | x :: a, b => by simp only [List.cons_append, sm, OG a b]; omega
theorem Sm (p : List Int) (n : Nat) (hp : inR n p) : ∀ (f : Nat) (s : List Bool) (c : List Int) (a : Int), s.length = n → 0 ≤ a → a < n → (cw p f s c a).2.length + fresh (cw p f s c a).1 = c.length + fresh s
  | 0, s, c, a, hs, h0, h1 => rfl
  | f + 1, s, c, a, hs, h0, h1 => by
    simp only [cw]
    by_cases e : fy false s a = true
    · simp only [e, if_true]
    · simp only [e, Bool.false_eq_true, if_false]
      have h3 : s.getD a.toNat false = false := by rw [← oL s a h0]; simpa using e
      have h4 := vY s a.toNat (by omega) h3
      have h5 := hp.2 a.toNat (by omega)
      rw [show ((a.toNat : Nat) : Int) = a by omega] at h5
      have ih := Sm p n hp f (s.set a.toNat true) (c ++ [a]) (rd p a) (by simpa using hs) h5.1 h5.2
      rw [List.length_append, List.length_singleton] at ih
      omega
theorem QS (p : List Int) (n : Nat) (hp : inR n p) : ∀ i, i ≤ n → sm (e6 (cyS p n i).2) + (fresh (cyS p n i).1 : Int) = n
  | 0, _ => by
    have : (List.replicate n false).countP (fun b => !b) = n := by rw [List.countP_replicate]; simp
    simp [cyS, e6, sm, fresh, this]
  | i + 1, hi => by
    have ih := QS p n hp i (by omega)
    have hb := Sm p n hp (n + 1) (cyS p n i).1 [] i (qO p n i) (by omega) (by omega)
    rw [List.length_nil, Nat.zero_add] at hb
    simp only [cyS]
    by_cases e : (cw p (n + 1) (cyS p n i).1 [] (i : Int)).2 = []
    · rw [if_pos e]
      rw [e, List.length_nil] at hb
      omega
    · rw [if_neg e]
      unfold e6 at ih ⊢
      rw [List.map_append, OG]
      simp only [List.map_cons, List.map_nil, sm]
      omega
theorem Yf (p : List Int) (n : Nat) (hp : inR n p) (hi : da n p) : sm (e6 (cyS p n n).2) = n := by
  have h := QS p n hp n (Nat.le_refl _)
  have hl := qO p n n
  have hf : fresh (cyS p n n).1 = 0 := by
    unfold fresh
    rw [List.countP_eq_zero]
    intro b hb
    obtain ⟨i, hi', rfl⟩ := List.mem_iff_getElem.1 hb
    have := (t6 p n hp hi n (Nat.le_refl _) i (by omega)).2 ⟨i, by omega, Reach.refl _ _ _⟩
    rw [List.getD_eq_getElem?_getD, List.getElem?_eq_getElem hi', Option.getD_some] at this
    rw [this]
    decide
  omega
theorem Rx : ∀ (C : List (List Int)), (∀ l ∈ C, 4 ≤ l.length) → 4 * (C.length : Int) ≤ sm (e6 C) ∧ (sm (e6 C) ≤ 4 * (C.length : Int) → ∀ l ∈ C, l.length = 4)
  | [], _ => ⟨by simp [e6, sm], fun _ l hl => by simp at hl⟩
  | x :: C, h => by
    obtain ⟨a, b⟩ := Rx C fun l hl => h l (by simp [hl])
    have hx := h x (by simp)
    have e : sm (e6 (x :: C)) = (x.length : Int) + sm (e6 C) := rfl
    rw [e]
    simp only [List.length_cons]
    refine ⟨by omega, fun hs l hl => ?_⟩
    rcases List.mem_cons.1 hl with rfl | hl
    · omega
    · exact b (by omega) l hl
theorem Q7 (g : Nat → List Nat) (hg : ∀ r, (g r).length = 4) : ∀ L : List Nat, (L.flatMap g).length = 4 * L.length
  | [] => rfl
  | r :: L => by
    rw [List.flatMap_cons, List.length_append, Q7 g hg L, hg]
    simp only [List.length_cons]
    omega
theorem ZW (p : List Int) (n : Nat) (hp : inR n p) (hi : da n p) (h4 : ∀ x : Nat, x < n → rd p (rd p (rd p (rd p (x : Int)))) = x) (h2 : ∀ x : Nat, x < n → rd p (rd p (x : Int)) ≠ x) :
    (∀ l ∈ (cyS p n n).2, l.length = 4) ∧ 4 * (cyS p n n).2.length = n := by
  obtain ⟨reps, r1, r2, r3, r4⟩ := Dw p n hp hi n (Nat.le_refl _)
  -- a point's four places
  have pn : ∀ x : Nat, x < n → (rd p (x : Int)).toNat < n ∧ (((rd p (x : Int)).toNat : Nat) : Int) = rd p (x : Int) := fun x hx => by
    have := hp.2 x hx
    omega
  have H4 : ∀ x : Nat, x < n → (rd p (((rd p (((rd p (((rd p (x : Int)).toNat : Nat) : Int)).toNat : Nat) : Int)).toNat : Nat) : Int)).toNat = x := fun x hx => by
    obtain ⟨a1, a2⟩ := pn x hx
    obtain ⟨b1, b2⟩ := pn _ a1
    obtain ⟨c1, c2⟩ := pn _ b1
    rw [a2] at b1 b2 c1 c2 ⊢
    rw [b2] at c1 c2 ⊢
    rw [c2, h4 x hx, Int.toNat_natCast]
  have H2 : ∀ x : Nat, x < n → (rd p (((rd p (x : Int)).toNat : Nat) : Int)).toNat ≠ x := fun x hx e => by
    obtain ⟨a1, a2⟩ := pn x hx
    obtain ⟨b1, b2⟩ := pn _ a1
    rw [a2] at b2 e
    exact h2 x hx (by omega)
  generalize hP : (fun x : Nat => (rd p (x : Int)).toNat) = P at *
  have eP : ∀ x : Nat, (rd p (x : Int)).toNat = P x := fun x => by rw [← hP]
  simp only [eP] at pn H4 H2
  have st : ∀ x : Nat, x < n → Reach [p] n x (P x) := fun x hx => by
    have := Reach.step (ps := [p]) (n := n) (p := p) (by simp) hx
    rwa [eP] at this
  have four : ∀ l ∈ (cyS p n n).2, 4 ≤ l.length := by
    intro l hl
    obtain ⟨q, hq, rfl⟩ := List.mem_iff_getElem.1 hl
    have hq' : q < reps.length := by omega
    have rlt := ((r3 reps[q]).1 (List.getElem_mem hq')).1
    have el : dp (cyS p n n).2 (q : Int) = (cyS p n n).2[q] := by
      unfold dp
      rw [Int.toNat_natCast]
      simp [List.getD, hq]
    have mem : ∀ x : Nat, x < n → Reach [p] n reps[q] x → x ∈ ((cyS p n n).2[q]).map Int.toNat := fun x hx hr => by
      have := (r4 q hq' x hx).2 hr
      rw [el] at this
      exact List.mem_map.2 ⟨_, this, Int.toNat_natCast x⟩
    generalize reps[q] = r at *
    have a1 := (pn r rlt).1
    have b1 := (pn _ a1).1
    have c1 := (pn _ b1).1
    have s1 := st r rlt
    have s2 := s1.trans (st _ a1)
    have s3 := s2.trans (st _ b1)
    have ne1 : P r ≠ r := fun e => H2 r rlt (by rw [e, e])
    have ne2 := H2 r rlt
    have ne3 : P (P (P r)) ≠ r := fun e => H2 r rlt (by
      have := H4 r rlt
      rw [e] at this
      rw [this, this])
    have ne4 : P (P r) ≠ P r := fun e => H2 _ a1 (by rw [e, e])
    have ne5 := H2 _ a1
    have ne6 : P (P (P r)) ≠ P (P r) := fun e => H2 _ b1 (by rw [e, e])
    have nd : ([r, P r, P (P r), P (P (P r))] : List Nat).Nodup := by
      simp only [List.nodup_cons, List.mem_cons, List.not_mem_nil, or_false, not_or, not_false_eq_true, List.nodup_nil, and_true]
      exact ⟨⟨fun e => ne1 e.symm, fun e => ne2 e.symm, fun e => ne3 e.symm⟩, ⟨fun e => ne4 e.symm, fun e => ne5 e.symm⟩, fun e => ne6 e.symm⟩
    have := nH [r, P r, P (P r), P (P (P r))] (((cyS p n n).2[q]).map Int.toNat) nd (fun x hx => by
      simp only [List.mem_cons, List.not_mem_nil, or_false] at hx
      rcases hx with rfl | rfl | rfl | rfl
      · exact mem _ rlt (Reach.refl _ _ _)
      · exact mem _ a1 s1
      · exact mem _ b1 s2
      · exact mem _ c1 s3)
    simpa using this
  have many : n ≤ 4 * (cyS p n n).2.length := by
    have := nH (List.range n) (reps.flatMap fun r => [r, P r, P (P r), P (P (P r))]) List.nodup_range (fun x hx => by
      have hx := List.mem_range.1 hx
      obtain ⟨y, y1, y2, y3⟩ := vn (Reach [p] n) (fun x => Reach.refl _ _ x) (fun x y h => h.symm) (fun x y z h h' => h.trans h') x
      have hy : y < n := by omega
      refine List.mem_flatMap.2 ⟨y, (r3 y).2 ⟨hy, y2⟩, ?_⟩
      have cl := mP p n hp hi (fun z => z = y ∨ z = P y ∨ z = P (P y) ∨ z = P (P (P y))) (fun k hk hs => by
        rw [eP]
        rcases hs with rfl | rfl | rfl | rfl
        · exact .inr (.inl rfl)
        · exact .inr (.inr (.inl rfl))
        · exact .inr (.inr (.inr rfl))
        · exact .inl (H4 y hy))
      have := (y3 _ cl).1 (.inl rfl)
      simp only [List.mem_cons, List.not_mem_nil, or_false]
      exact this)
    rw [Q7 _ (fun _ => rfl), List.length_range, r1] at this
    exact this
  have hs := Yf p n hp hi
  obtain ⟨f1, f2⟩ := Rx _ four
  rw [hs] at f1 f2
  exact ⟨f2 (by omega), by omega⟩
end Go.Proofs.Ytlpbalebodlipaa.PL

namespace Go.Proofs.Ytlpbalebodlipaa.PL
open Go.RowKit Go.Proofs.YtlpbalebodlipaaW.PrintWords Go.Proofs.YtlpbalebodlipaaW.PrintLast Go.Proofs.YtlpbalebodlipaaW.PrintMore
attribute [local go_sem] nV nQ nE ny nA nG nO nR   -- for this text's walks alone
set_option linter.unusedVariables false
set_option linter.unusedSimpArgs false
def cmp_Compare_int.f (a0 : Int) (a1 : Int) : Option (Int) := (cmp_isNaN_int.f a0).bind fun aje => ((cmp_isNaN_int.f a1).bind fun XF => (if aje = true then (if XF = true then (some 0) else (some (-1))) else (if XF = true then (some 1) else (if a0 < a1 then (some (-1)) else (if a0 > a1 then (some 1) else (some 0))))))
def nK.l0 : Nat → List Int → List Int → List Int → Int → Int → Option (Int)
 | 0, _, _, _, _, _ => none
 | k + 1, x0, x1, x9, eg, cy => if cy < eg then (if 0 ≤ cy then (if cy < (x9.length : Int) then (if cy ≥ (x1.length : Int) then (some 1) else (if cy < (x1.length : Int) then ((cmp_Compare_int.f (rd x9 cy) (rd x1 cy)).bind fun XG => (if XG = 0 then (nK.l0 k x0 x1 x9 eg (wrap64 (cy + 1))) else (some XG))) else (none))) else (none)) else (none)) else (if (x0.length : Int) < (x1.length : Int) then (some (-1)) else (some 0))
def nK.f (k : Nat) (l0 : List Int) (l1 : List Int) : Option (Int) := nK.l0 k l0 l1 l0 (l0.length : Int) 0
def zZ.f (k : Nat) (ag : List Int) (af : List Int) (xt : List Int) (zq : List Int) : Option (Int) := (nK.f k ag xt).bind fun XH => (if XH = 0 then ((nK.f k af zq).bind fun ajf => (some ajf)) else (some XH))
def xU.f (k : Nat) (ag : List Int) (af : List Int) (l1 : List Int) : Option (List Int × List Int) := (ln.f k l1).bind fun ajg => ((gT.f k ajg ag).bind fun ajh => ((gT.f k ajh l1).bind fun aji => ((ln.f k l1).bind fun ajj => ((gT.f k ajj af).bind fun ajk => ((gT.f k ajk l1).bind fun ajl => (some (aji, ajl)))))))
def xU.T1 : Bool × List (List Nat × List Nat) := (true, [([], []), ([0], [0]), ([], []), ([2], [2]), ([1, 3, 1], [1, 3]), ([], []), ([4, 5, 4], [4, 5]), ([], []), ([7, 6], [7]), ([], []), ([9], [9]), ([8, 10, 8], [8, 10]), ([], []), ([11, 12, 11], [11, 12]), ([6, 13], [6, 13]), ([14, 13, 0, 1, 2, 3, 4, 5, 6, 7, 8, 9, 10, 11, 12, 13, 14], [14])])
def xU.B1 : List Nat := [0, 1, 0, 4, 15, 0, 63, 0, 255, 0, 512, 2047, 0, 8191, 16383, 32767]
mutual
def iH.l0 : Nat → Int → List Int → Int → Int → List Int → List Int → Option (List Int)
 | 0, _, _, _, _, _, _ => none
 | k + 1, x1, x5, jj, kk, rT, x1212001 => if kk < jj then (if 0 ≤ kk then (if kk < (x5.length : Int) then (iH.l0 k x1 (x5.set (kk : Int).toNat (-1)) jj (wrap64 (kk + 1)) rT x1212001) else (none)) else (none)) else (if 0 ≤ x1 then (if x1 < (x5.length : Int) then (iH.l1 k (x5.set (x1 : Int).toNat 0) (([x1] : List Int)) 0 rT x1212001) else (none)) else (none))
def iH.l1 : Nat → List Int → List Int → Int → List Int → List Int → Option (List Int)
 | 0, _, _, _, _, _ => none
 | k + 1, x5, x7, x8, rT, x1212001 => if x8 < (x7.length : Int) then (if 0 ≤ x8 then (if 0 ≤ (rd x7 x8) then (if (rd x7 x8) < (rT.length : Int) then (if (rd x7 x8) < (x1212001.length : Int) then ((some (([rd rT (rd x7 x8), rd x1212001 (rd x7 x8)] : List Int) : List Int)).bind fun y1224 => (iH.l2 k x5 x7 x8 y1224 (y1224.length : Int) 0 rT x1212001)) else (none)) else (none)) else (none)) else (none)) else (some x5)
def iH.l2 : Nat → List Int → List Int → Int → List Int → Int → Int → List Int → List Int → Option (List Int)
 | 0, _, _, _, _, _, _, _, _ => none
 | k + 1, x5, x7, x8, x51, N3, x53, rT, x1212001 => if x53 < N3 then (if 0 ≤ x53 then (if x53 < (x51.length : Int) then (if 0 ≤ (rd x51 x53) then (if (rd x51 x53) < (x5.length : Int) then (if (rd x5 (rd x51 x53)) < 0 then (if x7.length < 17592186044416 then (iH.l2 k (x5.set ((rd x51 x53) : Int).toNat (x7.length : Int)) (x7 ++ [rd x51 x53]) x8 x51 N3 (wrap64 (x53 + 1)) rT x1212001) else (none)) else (iH.l2 k x5 x7 x8 x51 N3 (wrap64 (x53 + 1)) rT x1212001)) else (none)) else (none)) else (none)) else (none)) else (iH.l1 k x5 x7 (wrap64 (x8 + 1)) rT x1212001)
end
def iH.f (k : Nat) (ag : List Int) (af : List Int) (a1 : Int) : Option (List Int) := if 0 ≤ (ag.length : Int) then (if ((ag.length : Int) : Int).toNat ≤ 35184372088832 then ((some (List.replicate ((ag.length : Int) : Int).toNat 0 : List Int)).bind fun y1212 => (iH.l0 k a1 y1212 (y1212.length : Int) 0 ag af)) else (none)) else (none)
def pC.l0 : Nat → Int → Int → List Int → List Int → List Int → List Int → Option (List Int × List Int)
 | 0, _, _, _, _, _, _ => none
 | k + 1, eQ, eG, GD, x1234001, N4, x1245001 => if eG < eQ then ((iH.f k GD x1234001 eG).bind fun ajm => ((xU.f k GD x1234001 ajm).bind fun GE => ((zZ.f k GE.1 GE.2 N4 x1245001).bind fun ajn => (if ajn < 0 then (pC.l0 k eQ (wrap64 (eG + 1)) GD x1234001 GE.1 GE.2) else (pC.l0 k eQ (wrap64 (eG + 1)) GD x1234001 N4 x1245001))))) else (some (N4, x1245001))
def pC.f (k : Nat) (ag : List Int) (af : List Int) : Option (List Int × List Int) := (iH.f k ag af 0).bind fun ajo => ((xU.f k ag af ajo).bind fun XI => (pC.l0 k (ag.length : Int) 0 ag af XI.1 XI.2))
def tN.j0 : Nat → Bool → List Int → List Int → List Int → List Int → Option (Bool)
 | 0, _, _, _, _, _ => none
 | k + 1, x21, x1257000, ajq, x1258000, x1258001 => if x21 = true then (some false) else ((pC.f k x1257000 ajq).bind fun XJ => ((pC.f k x1258000 x1258001).bind fun XK => ((zZ.f k XJ.1 XJ.2 XK.1 XK.2).bind fun ajr => (some (ajr == 0)))))
def tN.f (k : Nat) (ag : List Int) (af : List Int) (xt : List Int) (zq : List Int) : Option (Bool) := (dN.f k ag af).bind fun ajs => (if ajs = true then ((dN.f k xt zq).bind fun ajt => (if ajt = true then (tN.j0 k ((ag.length : Int) != (xt.length : Int)) ag af xt zq) else (tN.j0 k true ag af xt zq))) else (tN.j0 k true ag af xt zq))
end Go.Proofs.Ytlpbalebodlipaa.PL

set_option linter.unusedVariables false
set_option linter.unusedSimpArgs false
namespace Go.Proofs.Ytlpbalebodlipaa.PL
open Go.RowKit Go.Proofs.YtlpbalebodlipaaW.PrintWords Go.Proofs.YtlpbalebodlipaaW.PrintLast Go.Proofs.YtlpbalebodlipaaW.PrintMore
def visit (s : List Int × List Int) (d : Int) : List Int × List Int := if rd s.1 d < 0 then (s.1.set d.toNat (s.2.length : Int), s.2 ++ [d]) else s
def wk (t f : List Int) : Nat → List Int → List Int → Nat → List Int
  | 0, nm, od, i => nm
  | k + 1, nm, od, i => if i < od.length then wk t f k (visit (visit (nm, od) (rd t (rd od (i : Int)))) (rd f (rd od (i : Int)))).1 (visit (visit (nm, od) (rd t (rd od (i : Int)))) (rd f (rd od (i : Int)))).2 (i + 1) else nm
def NI (n : Nat) (s : List Int × List Int) : Prop := s.1.length = n ∧ (∀ k : Nat, k < s.2.length → 0 ≤ rd s.2 (k : Int) ∧ rd s.2 (k : Int) < n ∧ rd s.1 (rd s.2 (k : Int)) = k) ∧ ∀ x : Nat, x < n → rd s.1 (x : Int) < 0 ∨ (0 ≤ rd s.1 (x : Int) ∧ rd s.1 (x : Int) < s.2.length ∧ rd s.2 (rd s.1 (x : Int)) = x)
theorem vI (l : List Int) (v : Int) (k : Nat) (h : k < l.length) : rd (l ++ [v]) (k : Int) = rd l (k : Int) := by
  rw [gU _ _ (by simp; omega), gU _ _ h, List.getElem_append_left h]
theorem xO (l : List Int) (v : Int) : rd (l ++ [v]) (l.length : Int) = v := by
  rw [gU _ _ (by simp)]
  simp
theorem NI.visit {n : Nat} {s : List Int × List Int} (h : NI n s) (d : Int) (h0 : 0 ≤ d) (h1 : d < n) : NI n (visit s d) ∧ 0 ≤ rd (Go.Proofs.Ytlpbalebodlipaa.PL.visit s d).1 d ∧ s.2.length ≤ (Go.Proofs.Ytlpbalebodlipaa.PL.visit s d).2.length ∧ (∀ k : Nat, k < s.2.length → rd (Go.Proofs.Ytlpbalebodlipaa.PL.visit s d).2 (k : Int) = rd s.2 (k : Int)) ∧ ∀ x : Nat, x < n → 0 ≤ rd s.1 (x : Int) → 0 ≤ rd (Go.Proofs.Ytlpbalebodlipaa.PL.visit s d).1 (x : Int) := by
  obtain ⟨a, b, c⟩ := id h
  have ed : ((d.toNat : Nat) : Int) = d := by omega
  unfold Go.Proofs.Ytlpbalebodlipaa.PL.visit
  by_cases z : rd s.1 d < 0
  · rw [if_pos z]
    have put : ∀ x : Nat, rd (s.1.set d.toNat (s.2.length : Int)) (x : Int) = if x = d.toNat then (s.2.length : Int) else rd s.1 (x : Int) := fun x => lr s.1 d.toNat x _ (by omega)
    refine ⟨⟨by simp [a], fun k hk => ?_, fun x hx => ?_⟩, ?_, by simp, fun k hk => vI _ _ _ hk, fun x hx hx0 => ?_⟩
    · simp only [List.length_append, List.length_cons, List.length_nil] at hk
      by_cases y : k < s.2.length
      · obtain ⟨k1, k2, k3⟩ := b k y
        have eo : (((rd s.2 (k : Int)).toNat : Nat) : Int) = rd s.2 (k : Int) := by omega
        show 0 ≤ rd (s.2 ++ [d]) (k : Int) ∧ rd (s.2 ++ [d]) (k : Int) < n ∧ rd (s.1.set d.toNat (s.2.length : Int)) (rd (s.2 ++ [d]) (k : Int)) = k
        rw [vI _ _ _ y]
        refine ⟨k1, k2, ?_⟩
        rw [← eo, put, if_neg, eo]
        · exact k3
        · intro w
          have : rd s.2 (k : Int) = d := by omega
          rw [this] at k3
          omega
      · have : k = s.2.length := by omega
        subst this
        show 0 ≤ rd (s.2 ++ [d]) (s.2.length : Int) ∧ rd (s.2 ++ [d]) (s.2.length : Int) < n ∧ rd (s.1.set d.toNat (s.2.length : Int)) (rd (s.2 ++ [d]) (s.2.length : Int)) = s.2.length
        rw [xO]
        refine ⟨h0, h1, ?_⟩
        have pd := put d.toNat
        rw [ed, if_pos rfl] at pd
        exact pd
    · show rd (s.1.set d.toNat (s.2.length : Int)) (x : Int) < 0 ∨ (0 ≤ rd (s.1.set d.toNat (s.2.length : Int)) (x : Int) ∧ rd (s.1.set d.toNat (s.2.length : Int)) (x : Int) < ((s.2 ++ [d]).length : Nat) ∧ rd (s.2 ++ [d]) (rd (s.1.set d.toNat (s.2.length : Int)) (x : Int)) = x)
      rw [put]
      by_cases y : x = d.toNat
      · rw [if_pos y]
        right
        refine ⟨by omega, by simp only [List.length_append, List.length_cons, List.length_nil]; omega, ?_⟩
        rw [xO]
        omega
      · rw [if_neg y]
        rcases c x hx with w | ⟨w1, w2, w3⟩
        · exact .inl w
        · right
          refine ⟨w1, by simp only [List.length_append, List.length_cons, List.length_nil]; omega, ?_⟩
          have ew : (((rd s.1 (x : Int)).toNat : Nat) : Int) = rd s.1 (x : Int) := by omega
          rw [← ew, vI _ _ _ (by omega), ew]
          exact w3
    · show 0 ≤ rd (s.1.set d.toNat (s.2.length : Int)) d
      have pd := put d.toNat
      rw [ed, if_pos rfl] at pd
      rw [pd]
      omega
    · show 0 ≤ rd (s.1.set d.toNat (s.2.length : Int)) (x : Int)
      rw [put]
      split
      · omega
      · exact hx0
  · rw [if_neg z]
    exact ⟨h, by omega, Nat.le_refl _, fun _ _ => rfl, fun _ _ q => q⟩
theorem NI.le {n : Nat} {s : List Int × List Int} (h : NI n s) : s.2.length ≤ n := by
  obtain ⟨a, b, c⟩ := h
  have nd : ((List.range s.2.length).map fun (k : Nat) => (rd s.2 (k : Int)).toNat).Nodup := by
    refine List.pairwise_map.2 (List.Pairwise.imp_of_mem (fun {x y} hx hy hxy e => hxy ?_) (List.nodup_range (n := s.2.length)))
    have b1 := b x (List.mem_range.1 hx)
    have b2 := b y (List.mem_range.1 hy)
    have e : (rd s.2 (x : Int)).toNat = (rd s.2 (y : Int)).toNat := e
    have : rd s.2 (x : Int) = rd s.2 (y : Int) := by omega
    rw [this] at b1
    omega
  have := nH ((List.range s.2.length).map fun (k : Nat) => (rd s.2 (k : Int)).toNat) (List.range n) nd (fun x hx => by
    obtain ⟨k, hk, rfl⟩ := List.mem_map.1 hx
    have := b k (List.mem_range.1 hk)
    exact List.mem_range.2 (by omega))
  simpa using this
theorem OU (t f nm od ds : List Int) (i : Int) (n : Nat) (hn : n ≤ 12) (h : NI n (nm, od)) (j : Nat) (hj : j < ds.length) (hds : ds.length = 2) (h0 : 0 ≤ rd ds (j : Int)) (h1 : rd ds (j : Int) < n) (r : List Int)
    (e : Ev (fun k => iH.l2 k (visit (nm, od) (rd ds (j : Int))).1 (visit (nm, od) (rd ds (j : Int))).2 i ds (ds.length : Int) ((j + 1 : Nat) : Int) t f) r) : Ev (fun k => iH.l2 k nm od i ds (ds.length : Int) (j : Int) t f) r := by
  have hl := h.le
  have hl : od.length ≤ n := hl
  have hnm : nm.length = n := h.1
  refine Ev.s ?_
  simp only [iH.l2, show (j : Int) < (ds.length : Int) by omega, show (0 : Int) ≤ (j : Int) by omega, h0, show rd ds (j : Int) < (nm.length : Int) by omega, if_true]
  rw [eM (show j < 4611686018427387904 by omega)]
  unfold visit at e
  by_cases z : rd nm (rd ds (j : Int)) < 0
  · simp only [z, if_true, show od.length < 17592186044416 by omega] at e ⊢
    exact e
  · simp only [z, if_false] at e ⊢
    exact e
theorem PV (t f : List Int) (n : Nat) (hn : n ≤ 12) (ht : inR n t) (hf : inR n f) : ∀ (m : Nat) (nm od : List Int) (i : Nat), NI n (nm, od) → i ≤ od.length → n - i < m → Ev (fun k => iH.l1 k nm od (i : Int) t f) (wk t f m nm od i)
  | 0, nm, od, i, h, hi, hm => by omega
  | m + 1, nm, od, i, h, hi, hm => by
    have hl : od.length ≤ n := h.le
    by_cases z : i < od.length
    · obtain ⟨b1, b2, b3⟩ := h.2.1 i z
      have b1 : 0 ≤ rd od (i : Int) := b1
      have b2 : rd od (i : Int) < n := b2
      have eo : (((rd od (i : Int)).toNat : Nat) : Int) = rd od (i : Int) := by omega
      have rt := ht.2 (rd od (i : Int)).toNat (by omega)
      have rf := hf.2 (rd od (i : Int)).toNat (by omega)
      rw [eo] at rt rf
      obtain ⟨v1, v2, v3, v4, v5⟩ := h.visit (rd t (rd od (i : Int))) rt.1 rt.2
      obtain ⟨u1, u2, u3, u4, u5⟩ := v1.visit (rd f (rd od (i : Int))) rf.1 rf.2
      have ih := PV t f n hn ht hf m (visit (visit (nm, od) (rd t (rd od (i : Int)))) (rd f (rd od (i : Int)))).1 (visit (visit (nm, od) (rd t (rd od (i : Int)))) (rd f (rd od (i : Int)))).2 (i + 1) u1 (by have : od.length ≤ _ := v3; omega) (by omega)
      have hw : wk t f (m + 1) nm od i = wk t f m (visit (visit (nm, od) (rd t (rd od (i : Int)))) (rd f (rd od (i : Int)))).1 (visit (visit (nm, od) (rd t (rd od (i : Int)))) (rd f (rd od (i : Int)))).2 (i + 1) := by
        rw [wk, if_pos z]
      rw [hw]
      refine Ev.s ?_
      have htl := ht.1
      have hfl := hf.1
      simp only [iH.l1, show (i : Int) < (od.length : Int) by omega, show (0 : Int) ≤ (i : Int) by omega, b1, show rd od (i : Int) < (t.length : Int) by omega, show rd od (i : Int) < (f.length : Int) by omega, if_true, Option.bind_some]
      have d0 : rd [rd t (rd od (i : Int)), rd f (rd od (i : Int))] ((0 : Nat) : Int) = rd t (rd od (i : Int)) := rfl
      have d1 : rd [rd t (rd od (i : Int)), rd f (rd od (i : Int))] ((1 : Nat) : Int) = rd f (rd od (i : Int)) := rfl
      refine OU t f nm od [rd t (rd od (i : Int)), rd f (rd od (i : Int))] i n hn h 0 (by simp) rfl (by rw [d0]; exact rt.1) (by rw [d0]; exact rt.2) _ ?_
      rw [d0]
      refine OU t f _ _ [rd t (rd od (i : Int)), rd f (rd od (i : Int))] i n hn v1 1 (by simp) rfl (by rw [d1]; exact rf.1) (by rw [d1]; exact rf.2) _ ?_
      rw [d1]
      refine Ev.s ?_
      simp only [iH.l2, show ¬ (((1 + 1 : Nat) : Int) < (([rd t (rd od (i : Int)), rd f (rd od (i : Int))] : List Int).length : Int)) by simp, if_false]
      rw [eM (show i < 4611686018427387904 by omega)]
      exact ih
    · have hw : wk t f (m + 1) nm od i = nm := by rw [wk, if_neg z]
      rw [hw]
      refine Ev.s ?_
      simp only [iH.l1, show ¬ (i : Int) < (od.length : Int) by omega, if_false]
      exact Ev.const rfl
theorem Pw (t f : List Int) (n : Nat) (ht : inR n t) (hf : inR n f) : ∀ (m : Nat) (nm od : List Int) (i : Nat), NI n (nm, od) → i ≤ od.length → n - i < m → (∀ k : Nat, k < i → 0 ≤ rd nm (rd t (rd od (k : Int))) ∧ 0 ≤ rd nm (rd f (rd od (k : Int)))) →
    ∃ od', NI n (wk t f m nm od i, od') ∧ (∀ k : Nat, k < od'.length → 0 ≤ rd (wk t f m nm od i) (rd t (rd od' (k : Int))) ∧ 0 ≤ rd (wk t f m nm od i) (rd f (rd od' (k : Int)))) ∧ ∀ x : Nat, x < n → 0 ≤ rd nm (x : Int) → 0 ≤ rd (wk t f m nm od i) (x : Int)
  | 0, nm, od, i, h, hi, hm, hc => by omega
  | m + 1, nm, od, i, h, hi, hm, hc => by
    have hl : od.length ≤ n := h.le
    by_cases z : i < od.length
    · obtain ⟨b1, b2, b3⟩ := h.2.1 i z
      have b1 : 0 ≤ rd od (i : Int) := b1
      have b2 : rd od (i : Int) < n := b2
      have eo : (((rd od (i : Int)).toNat : Nat) : Int) = rd od (i : Int) := by omega
      have rt := ht.2 (rd od (i : Int)).toNat (by omega)
      have rf := hf.2 (rd od (i : Int)).toNat (by omega)
      rw [eo] at rt rf
      obtain ⟨v1, v2, v3, v4, v5⟩ := h.visit (rd t (rd od (i : Int))) rt.1 rt.2
      obtain ⟨u1, u2, u3, u4, u5⟩ := v1.visit (rd f (rd od (i : Int))) rf.1 rf.2
      have v3 : od.length ≤ _ := v3
      have hw : wk t f (m + 1) nm od i = wk t f m (visit (visit (nm, od) (rd t (rd od (i : Int)))) (rd f (rd od (i : Int)))).1 (visit (visit (nm, od) (rd t (rd od (i : Int)))) (rd f (rd od (i : Int)))).2 (i + 1) := by
        rw [wk, if_pos z]
      rw [hw]
      have more : ∀ x : Int, 0 ≤ x → x < n → 0 ≤ rd nm x → 0 ≤ rd (visit (visit (nm, od) (rd t (rd od (i : Int)))) (rd f (rd od (i : Int)))).1 x := fun x x0 x1 hx => by
        have := u5 x.toNat (by omega) (v5 x.toNat (by omega) (by rw [show ((x.toNat : Nat) : Int) = x by omega]; exact hx))
        rwa [show ((x.toNat : Nat) : Int) = x by omega] at this
      obtain ⟨od', q1, q2, q3⟩ := Pw t f n ht hf m (visit (visit (nm, od) (rd t (rd od (i : Int)))) (rd f (rd od (i : Int)))).1 (visit (visit (nm, od) (rd t (rd od (i : Int)))) (rd f (rd od (i : Int)))).2 (i + 1) u1 (by omega) (by omega) (fun k hk => by
        have ek : rd (visit (visit (nm, od) (rd t (rd od (i : Int)))) (rd f (rd od (i : Int)))).2 (k : Int) = rd od (k : Int) := by
          rw [u4 k (by have : od.length ≤ (visit (nm, od) (rd t (rd od (i : Int)))).2.length := v3; omega), v4 k (by show k < od.length; omega)]
        rw [ek]
        by_cases y : k = i
        · subst y
          refine ⟨?_, u2⟩
          have := u5 (rd t (rd od (k : Int))).toNat (by omega) (by rw [show (((rd t (rd od (k : Int))).toNat : Nat) : Int) = rd t (rd od (k : Int)) by omega]; exact v2)
          rwa [show (((rd t (rd od (k : Int))).toNat : Nat) : Int) = rd t (rd od (k : Int)) by omega] at this
        · obtain ⟨c1, c2⟩ := hc k (by omega)
          obtain ⟨k1, k2, _⟩ := h.2.1 k (by show k < od.length; omega)
          have k1 : 0 ≤ rd od (k : Int) := k1
          have k2 : rd od (k : Int) < n := k2
          have ek2 : (((rd od (k : Int)).toNat : Nat) : Int) = rd od (k : Int) := by omega
          have kt := ht.2 (rd od (k : Int)).toNat (by omega)
          have kf := hf.2 (rd od (k : Int)).toNat (by omega)
          rw [ek2] at kt kf
          exact ⟨more _ kt.1 kt.2 c1, more _ kf.1 kf.2 c2⟩)
      exact ⟨od', q1, q2, fun x hx hx0 => q3 x hx (more x (by omega) (by omega) hx0)⟩
    · have hw : wk t f (m + 1) nm od i = nm := by rw [wk, if_neg z]
      rw [hw]
      exact ⟨od, h, fun k hk => hc k (by omega), fun x _ q => q⟩
def nmF (t f : List Int) (n r : Nat) : List Int := wk t f (n + 1) ((List.replicate n (-1)).set r 0) [(r : Int)] 0
theorem CY (n r : Nat) (hr : r < n) : NI n ((List.replicate n (-1)).set r 0, [(r : Int)]) := by
  have put : ∀ x : Nat, x < n → rd ((List.replicate n (-1)).set r 0) (x : Int) = if x = r then 0 else -1 := fun x hx => by
    rw [lr _ _ _ _ (by simpa using hr)]
    split
    · rfl
    · exact tO n (-1) x hx
  refine ⟨by simp, fun k hk => ?_, fun x hx => ?_⟩
  · simp only [List.length_cons, List.length_nil] at hk
    have : k = 0 := by omega
    subst this
    show 0 ≤ (r : Int) ∧ (r : Int) < n ∧ rd ((List.replicate n (-1)).set r 0) (r : Int) = ((0 : Nat) : Int)
    refine ⟨by omega, by omega, ?_⟩
    rw [put r hr, if_pos rfl]
    rfl
  · show rd ((List.replicate n (-1)).set r 0) (x : Int) < 0 ∨ (0 ≤ rd ((List.replicate n (-1)).set r 0) (x : Int) ∧ rd ((List.replicate n (-1)).set r 0) (x : Int) < (1 : Nat) ∧ rd [(r : Int)] (rd ((List.replicate n (-1)).set r 0) (x : Int)) = x)
    rw [put x hx]
    by_cases z : x = r
    · rw [if_pos z, z]
      exact .inr ⟨by decide, by decide, rfl⟩
    · rw [if_neg z]
      exact .inl (by decide)
theorem Dr (t f : List Int) (n : Nat) (H : fI t f n) (r : Nat) (hr : r < n) : inR n (nmF t f n r) ∧ da n (nmF t f n r) := by
  obtain ⟨hn, h1, ht, hi, hf, hfl, hcon⟩ := H
  obtain ⟨od, q1, q2, q3⟩ := Pw t f n ht hf (n + 1) _ _ 0 (CY n r hr) (Nat.zero_le _) (by omega) (fun k hk => by omega)
  change NI n (nmF t f n r, od) at q1
  change ∀ k : Nat, k < od.length → 0 ≤ rd (nmF t f n r) (rd t (rd od (k : Int))) ∧ 0 ≤ rd (nmF t f n r) (rd f (rd od (k : Int))) at q2
  change ∀ x : Nat, x < n → 0 ≤ rd ((List.replicate n (-1)).set r 0) (x : Int) → 0 ≤ rd (nmF t f n r) (x : Int) at q3
  have hl : od.length ≤ n := q1.le
  obtain ⟨a, b, c⟩ := id q1
  have a : (nmF t f n r).length = n := a
  have b : ∀ k : Nat, k < od.length → 0 ≤ rd od (k : Int) ∧ rd od (k : Int) < n ∧ rd (nmF t f n r) (rd od (k : Int)) = k := b
  have c : ∀ x : Nat, x < n → rd (nmF t f n r) (x : Int) < 0 ∨ (0 ≤ rd (nmF t f n r) (x : Int) ∧ rd (nmF t f n r) (x : Int) < od.length ∧ rd od (rd (nmF t f n r) (x : Int)) = x) := c
  have root : 0 ≤ rd (nmF t f n r) (r : Int) := q3 r hr (by rw [lr _ _ _ _ (by simpa using hr), if_pos rfl]; omega)
  -- what is named is closed under the turn and the flip
  have fwd : ∀ x : Nat, x < n → 0 ≤ rd (nmF t f n r) (x : Int) → 0 ≤ rd (nmF t f n r) (rd t (x : Int)) ∧ 0 ≤ rd (nmF t f n r) (rd f (x : Int)) := by
    intro x hx h0
    rcases c x hx with w | ⟨w1, w2, w3⟩
    · omega
    · have := q2 (rd (nmF t f n r) (x : Int)).toNat (by omega)
      rw [show (((rd (nmF t f n r) (x : Int)).toNat : Nat) : Int) = rd (nmF t f n r) (x : Int) by omega, w3] at this
      exact this
  have all : ∀ x : Nat, x < n → 0 ≤ rd (nmF t f n r) (x : Int) := by
    intro x hx
    have ct := mP t n ht hi (fun z => z < n → 0 ≤ rd (nmF t f n r) (z : Int)) (fun k hk hs hk' => by
      have r := ht.2 k hk
      have := (fwd k hk (hs hk)).1
      rwa [show (((rd t (k : Int)).toNat : Nat) : Int) = rd t (k : Int) by omega])
    have cf : ∀ k : Nat, k < n → ((k < n → 0 ≤ rd (nmF t f n r) (k : Int)) ↔ ((rd f (k : Int)).toNat < n → 0 ≤ rd (nmF t f n r) ((rd f (k : Int)).toNat : Int))) := by
      intro k hk
      have rr := hf.2 k hk
      have e0 : (((rd f (k : Int)).toNat : Nat) : Int) = rd f (k : Int) := by omega
      constructor
      · intro hs _
        rw [e0]
        exact (fwd k hk (hs hk)).2
      · intro hs _
        have := (fwd (rd f (k : Int)).toNat (by omega) (hs (by omega))).2
        rwa [e0, (hfl k hk).2] at this
    refine ((hcon r x hr hx) (fun z => z < n → 0 ≤ rd (nmF t f n r) (z : Int)) ?_).1 (fun _ => root) hx
    intro p hp k hk
    rcases List.mem_cons.1 hp with rfl | hp
    · exact ct p (by simp) k hk
    · rw [List.mem_singleton.1 hp]
      exact cf k hk
  refine ⟨⟨a, fun x hx => ?_⟩, fun x y hx hy e => ?_⟩
  · rcases c x hx with w | ⟨w1, w2, w3⟩
    · have := all x hx
      omega
    · exact ⟨w1, by omega⟩
  · rcases c x hx with w | ⟨w1, w2, w3⟩
    · have := all x hx
      omega
    · rcases c y hy with v | ⟨v1, v2, v3⟩
      · have := all y hy
        omega
      · rw [e] at w3
        omega
theorem Sw (t f : List Int) (n : Nat) (hn : n ≤ 12) (r : Nat) (hr : r < n) (o : List Int) (h : Ev (fun k => iH.l1 k ((List.replicate n (-1)).set r 0) [(r : Int)] 0 t f) o) : ∀ (d i : Nat) (y : List Int), n - i = d → i ≤ n → y.length = n → (∀ z : Nat, z < i → rd y (z : Int) = -1) → Ev (fun k => iH.l0 k (r : Int) y (n : Int) (i : Int) t f) o
  | 0, i, y, hd, hi, hy, hz => by
    have : i = n := by omega
    subst this
    have ey : y = List.replicate i (-1) := pB _ _ (by simp [hy]) fun z hz' => by
      rw [hz z (by omega), tO i (-1) z (by omega)]
    subst ey
    refine Ev.s ?_
    simp only [iH.l0, show ¬ (i : Int) < (i : Int) by omega, if_false, show (0 : Int) ≤ (r : Int) by omega, List.length_replicate, show (r : Int) < (i : Int) by omega, if_true, Int.toNat_natCast]
    exact h
  | d + 1, i, y, hd, hi, hy, hz => by
    have ih := Sw t f n hn r hr o h d (i + 1) (y.set i (-1)) (by omega) (by omega) (by simp [hy]) (fun z hz' => by
      rw [lr _ _ _ _ (by omega)]
      split
      · rfl
      · exact hz z (by omega))
    refine Ev.s ?_
    simp only [iH.l0, show (i : Int) < (n : Int) by omega, show (0 : Int) ≤ (i : Int) by omega, hy, if_true, Int.toNat_natCast]
    rw [eM (show i < 4611686018427387904 by omega)]
    exact ih
theorem G5 (t f : List Int) (n : Nat) (H : fI t f n) (r : Nat) (hr : r < n) : Ev (fun k => iH.f k t f (r : Int)) (nmF t f n r) := by
  obtain ⟨hn, h1, ht, hi, hf, hfl, hcon⟩ := H
  have w := PV t f n hn ht hf (n + 1) _ _ 0 (CY n r hr) (Nat.zero_le _) (by omega)
  have hl := ht.1
  unfold iH.f
  simp only [hl, show (0 : Int) ≤ (n : Int) by omega, Int.toNat_natCast, show n ≤ 35184372088832 by omega, if_true, Option.bind_some, List.length_replicate]
  exact Sw t f n hn r hr _ w n 0 (List.replicate n 0) (by omega) (by omega) (by simp) (fun z hz => by omega)
def reT (t nm : List Int) (n : Nat) : List Int := aZ (aZ (eN nm n n) t n) nm n
theorem GL (t f nm : List Int) (n : Nat) (hn : n ≤ 12) (ht : inR n t) (hf : inR n f) (hm : inR n nm) : Ev (fun k => xU.f k t f nm) (reT t nm n, reT f nm n) := by
  have hb := CL n (by omega) nm hm
  have hbi := tQ nm n
  unfold xU.f
  refine Ev.bind hb ?_
  refine Ev.bind (oI n (by omega) _ _ hbi ht) ?_
  refine Ev.bind (oI n (by omega) _ _ (lp n _ _ hbi ht) hm) ?_
  refine Ev.bind hb ?_
  refine Ev.bind (oI n (by omega) _ _ hbi hf) ?_
  refine Ev.bind (oI n (by omega) _ _ (lp n _ _ hbi hf) hm) ?_
  exact Ev.const rfl
def Iso (n : Nat) (s : Nat → Nat) (t f t' f' : List Int) : Prop := (∀ x, x < n → s x < n) ∧ (∀ x y, x < n → y < n → s x = s y → x = y) ∧ (∀ x, x < n → rd t' ((s x : Nat) : Int) = (s (rd t (x : Int)).toNat : Int)) ∧ ∀ x, x < n → rd f' ((s x : Nat) : Int) = (s (rd f (x : Int)).toNat : Int)
def ER (n : Nat) (s : Nat → Nat) (a b : List Int × List Int) : Prop := b.2.length = a.2.length ∧ (∀ k : Nat, k < a.2.length → rd b.2 (k : Int) = (s (rd a.2 (k : Int)).toNat : Int)) ∧ ∀ x, x < n → rd b.1 ((s x : Nat) : Int) = rd a.1 (x : Int)
theorem ER.visit {n : Nat} {s : Nat → Nat} {a b : List Int × List Int} (h : ER n s a b) (ha : NI n a) (hb : NI n b) (s1 : ∀ x, x < n → s x < n) (s2 : ∀ x y, x < n → y < n → s x = s y → x = y) (d : Nat) (hd : d < n) : ER n s (visit a (d : Int)) (visit b ((s d : Nat) : Int)) := by
  obtain ⟨e1, e2, e3⟩ := h
  unfold Go.Proofs.Ytlpbalebodlipaa.PL.visit
  rw [e3 d hd]
  by_cases z : rd a.1 (d : Int) < 0
  · rw [if_pos z, if_pos z]
    refine ⟨by simp [e1], fun k hk => ?_, fun x hx => ?_⟩
    · simp only [List.length_append, List.length_cons, List.length_nil] at hk
      show rd (b.2 ++ [((s d : Nat) : Int)]) (k : Int) = (s (rd (a.2 ++ [(d : Int)]) (k : Int)).toNat : Int)
      by_cases y : k < a.2.length
      · rw [vI _ _ _ y, vI _ _ _ (by omega), e2 k y]
      · have : k = a.2.length := by omega
        subst this
        rw [xO, ← e1, xO, Int.toNat_natCast]
    · show rd (b.1.set ((s d : Nat) : Int).toNat (b.2.length : Int)) ((s x : Nat) : Int) = rd (a.1.set (d : Int).toNat (a.2.length : Int)) (x : Int)
      have l1 := ha.1
      have l2 := hb.1
      have sd := s1 d hd
      rw [Int.toNat_natCast, Int.toNat_natCast, lr _ _ _ _ (by omega), lr _ _ _ _ (by omega), e1]
      by_cases y : x = d
      · rw [if_pos y, if_pos (by rw [y])]
      · rw [if_neg y, if_neg (fun w => y (s2 x d hx hd w)), e3 x hx]
  · rw [if_neg z, if_neg z]
    exact ⟨e1, e2, e3⟩
theorem Sq (n : Nat) (s : Nat → Nat) (t f t' f' : List Int) (ht : inR n t) (hf : inR n f) (ht' : inR n t') (hf' : inR n f') (I : Iso n s t f t' f') : ∀ (m : Nat) (nm od nm' od' : List Int) (i : Nat), NI n (nm, od) → NI n (nm', od') → ER n s (nm, od) (nm', od') → ∀ x, x < n → rd (wk t' f' m nm' od' i) ((s x : Nat) : Int) = rd (wk t f m nm od i) (x : Int)
  | 0, nm, od, nm', od', i, h, h', e, x, hx => by
    rw [wk, wk]
    exact e.2.2 x hx
  | m + 1, nm, od, nm', od', i, h, h', e, x, hx => by
    obtain ⟨s1, s2, s3, s4⟩ := id I
    have e1 : od'.length = od.length := e.1
    rw [wk, wk, e1]
    by_cases z : i < od.length
    · rw [if_pos z, if_pos z]
      obtain ⟨b1, b2, b3⟩ := h.2.1 i z
      have b1 : 0 ≤ rd od (i : Int) := b1
      have b2 : rd od (i : Int) < n := b2
      have eo : (((rd od (i : Int)).toNat : Nat) : Int) = rd od (i : Int) := by omega
      have ei : rd od' (i : Int) = (s (rd od (i : Int)).toNat : Int) := e.2.1 i z
      have rt := ht.2 (rd od (i : Int)).toNat (by omega)
      have rf := hf.2 (rd od (i : Int)).toNat (by omega)
      have ft := s3 (rd od (i : Int)).toNat (by omega)
      have ff := s4 (rd od (i : Int)).toNat (by omega)
      rw [eo] at rt rf ft ff
      rw [ei, ft, ff]
      have et : (((rd t (rd od (i : Int))).toNat : Nat) : Int) = rd t (rd od (i : Int)) := by omega
      have ef : (((rd f (rd od (i : Int))).toNat : Nat) : Int) = rd f (rd od (i : Int)) := by omega
      have st := s1 (rd t (rd od (i : Int))).toNat (by omega)
      have sf := s1 (rd f (rd od (i : Int))).toNat (by omega)
      have E1 := e.visit h h' s1 s2 (rd t (rd od (i : Int))).toNat (by omega)
      obtain ⟨v1, _⟩ := h.visit (rd t (rd od (i : Int))) rt.1 rt.2
      obtain ⟨XL, _⟩ := h'.visit ((s (rd t (rd od (i : Int))).toNat : Nat) : Int) (by omega) (by omega)
      rw [et] at E1
      have E2 := E1.visit v1 XL s1 s2 (rd f (rd od (i : Int))).toNat (by omega)
      obtain ⟨u1, _⟩ := v1.visit (rd f (rd od (i : Int))) rf.1 rf.2
      obtain ⟨u1', _⟩ := XL.visit ((s (rd f (rd od (i : Int))).toNat : Nat) : Int) (by omega) (by omega)
      rw [ef] at E2
      exact Sq n s t f t' f' ht hf ht' hf' I m _ _ _ _ (i + 1) u1 u1' E2 x hx
    · rw [if_neg z, if_neg z]
      exact e.2.2 x hx
theorem Yc (n : Nat) (s : Nat → Nat) (t f t' f' : List Int) (ht : inR n t) (hf : inR n f) (ht' : inR n t') (hf' : inR n f') (I : Iso n s t f t' f') (r : Nat) (hr : r < n) (x : Nat) (hx : x < n) : rd (nmF t' f' n (s r)) ((s x : Nat) : Int) = rd (nmF t f n r) (x : Int) := by
  refine Sq n s t f t' f' ht hf ht' hf' I (n + 1) _ _ _ _ 0 (CY n r hr) (CY n (s r) (I.1 r hr)) ⟨rfl, fun k hk => ?_, fun y hy => ?_⟩ x hx
  · simp only [List.length_cons, List.length_nil] at hk
    have : k = 0 := by omega
    subst this
    show ((s r : Nat) : Int) = (s (r : Int).toNat : Int)
    rw [Int.toNat_natCast]
  · show rd ((List.replicate n (-1)).set (s r) 0) ((s y : Nat) : Int) = rd ((List.replicate n (-1)).set r 0) (y : Int)
    rw [lr _ _ _ _ (by simpa using I.1 r hr), lr _ _ _ _ (by simpa using hr)]
    by_cases z : y = r
    · rw [if_pos z, if_pos (by rw [z])]
    · rw [if_neg z, if_neg (fun w => z (I.2.1 y r hy hr w)), tO n (-1) y hy, tO n (-1) (s y) (I.1 y hy)]
theorem Y9 (n : Nat) (s : Nat → Nat) (t f t' f' : List Int) (H : fI t f n) (H' : fI t' f' n) (I : Iso n s t f t' f') (r : Nat) (hr : r < n) : reT t' (nmF t' f' n (s r)) n = reT t (nmF t f n r) n ∧ reT f' (nmF t' f' n (s r)) n = reT f (nmF t f n r) n := by
  obtain ⟨hn, h1, ht, hi, hf, hfl, hcon⟩ := id H
  obtain ⟨_, _, ht', hi', hf', _, _⟩ := id H'
  obtain ⟨a1, a2⟩ := Dr t f n H r hr
  obtain ⟨b1, b2⟩ := Dr t' f' n H' (s r) (I.1 r hr)
  have eq := fun x hx => Yc n s t f t' f' ht hf ht' hf' I r hr x hx
  have sur : ∀ k : Nat, k < n → ∃ x : Nat, x < n ∧ rd (nmF t f n r) (x : Int) = k := by
    intro k hk
    obtain ⟨m, _, h2⟩ := xR (nmF t f n r) n a1 a2 k (by omega)
    have hin := nD (nmF t f n r) n a1 m k (by omega)
    refine ⟨(itr (nmF t f n r) m k).toNat, by omega, ?_⟩
    rw [show (((itr (nmF t f n r) m k).toNat : Nat) : Int) = itr (nmF t f n r) m k by omega]
    rw [nI] at h2
    exact h2
  have key : ∀ (p p' : List Int), inR n p → (∀ x, x < n → rd p' ((s x : Nat) : Int) = (s (rd p (x : Int)).toNat : Int)) → reT p' (nmF t' f' n (s r)) n = reT p (nmF t f n r) n := by
    intro p p' hp hpp
    unfold reT
    refine pB _ _ (by rw [mT, mT]) fun k hk => ?_
    rw [mT] at hk
    rw [jV _ _ n k hk, jV _ _ n k hk, jV _ _ n k hk, jV _ _ n k hk]
    obtain ⟨x, hx, ex⟩ := sur k hk
    have r1 := zU (nmF t f n r) n a1 a2 n (Nat.le_refl _) x hx
    rw [ex] at r1
    have r2 := zU (nmF t' f' n (s r)) n b1 b2 n (Nat.le_refl _) (s x) (I.1 x hx)
    rw [eq x hx, ex] at r2
    have pr := hp.2 x hx
    rw [r1, r2, hpp x hx, eq _ (by omega), show (((rd p (x : Int)).toNat : Nat) : Int) = rd p (x : Int) by omega]
  exact ⟨key t t' ht I.2.2.1, key f f' hf I.2.2.2⟩
def vsd (l : List Int) (n : Nat) : Nat → Int
  | 0 => 0
  | d + 1 => rd l ((n - 1 - d : Nat) : Int) * 16 ^ d + vsd l n d
theorem zQ (l : List Int) (n : Nat) (hn : n ≤ 12) (h : inR n l) : ∀ d, d ≤ n → 0 ≤ vsd l n d ∧ vsd l n d < 16 ^ d
  | 0, _ => by simp [vsd]
  | d + 1, hd => by
    obtain ⟨a, b⟩ := zQ l n hn h d (by omega)
    have r := h.2 (n - 1 - d) (by omega)
    rw [vsd, Int.pow_succ]
    have hp : (0 : Int) < 16 ^ d := by omega
    generalize (16 : Int) ^ d = P at *
    have m1 : 0 ≤ rd l ((n - 1 - d : Nat) : Int) * P := Int.mul_nonneg r.1 (by omega)
    have m2 : rd l ((n - 1 - d : Nat) : Int) * P ≤ 15 * P := Int.mul_le_mul_of_nonneg_right (by omega) (by omega)
    omega
theorem Hz (a b : List Int) (n : Nat) (hn : n ≤ 12) (ha : inR n a) (hb : inR n b) : ∀ (d i : Nat), n - i = d → i ≤ n → ∃ c : Int, Ev (fun k => nK.l0 k a b a (n : Int) (i : Int)) c ∧ (c < 0 ↔ vsd a n d < vsd b n d) ∧ (c = 0 ↔ vsd a n d = vsd b n d)
  | 0, i, hd, hi => by
    have : i = n := by omega
    subst this
    have l1 := ha.1
    have l2 := hb.1
    refine ⟨0, Ev.s ?_, by simp [vsd], by simp [vsd]⟩
    simp only [nK.l0, show ¬ (i : Int) < (i : Int) by omega, if_false, l1, l2]
    exact Ev.const rfl
  | d + 1, i, hd, hi => by
    obtain ⟨c, c1, c2, c3⟩ := Hz a b n hn ha hb d (i + 1) (by omega) (by omega)
    obtain ⟨p1, p2⟩ := zQ a n hn ha d (by omega)
    obtain ⟨q1, q2⟩ := zQ b n hn hb d (by omega)
    have ei : n - 1 - d = i := by omega
    have l1 := ha.1
    have l2 := hb.1
    have hp : (0 : Int) < 16 ^ d := by omega
    have nan : ∀ x : Int, cmp_isNaN_int.f x = some false := fun x => by simp [cmp_isNaN_int.f]
    have step : ∀ (x y : Int), cmp_Compare_int.f x y = some (if x < y then -1 else if x > y then 1 else 0) := fun x y => by
      unfold cmp_Compare_int.f
      rw [nan, nan]
      simp only [Option.bind_some, Bool.false_eq_true, if_false]
      split
      · rfl
      · split <;> rfl
    have row : ∀ k, nK.l0 (k + 1) a b a (n : Int) (i : Int) = (if (if rd a (i : Int) < rd b (i : Int) then (-1 : Int) else if rd a (i : Int) > rd b (i : Int) then 1 else 0) = 0 then nK.l0 k a b a (n : Int) ((i + 1 : Nat) : Int) else some (if rd a (i : Int) < rd b (i : Int) then (-1 : Int) else if rd a (i : Int) > rd b (i : Int) then 1 else 0)) := fun k => by
      simp only [nK.l0, show (i : Int) < (n : Int) by omega, show (0 : Int) ≤ (i : Int) by omega, l1, l2, show ¬ (i : Int) ≥ (n : Int) by omega, if_true, if_false, step, Option.bind_some]
      rw [eM (show i < 4611686018427387904 by omega)]
    rw [vsd, vsd, ei]
    generalize (16 : Int) ^ d = P at *
    by_cases z : rd a (i : Int) < rd b (i : Int)
    · refine ⟨-1, Ev.s ?_, ?_, ?_⟩
      · simp only [row, if_pos z]
        exact Ev.const rfl
      · have m : (rd a (i : Int) + 1) * P ≤ rd b (i : Int) * P := Int.mul_le_mul_of_nonneg_right (by omega) (by omega)
        rw [Int.add_mul, Int.one_mul] at m
        constructor
        · intro _; omega
        · intro _; decide
      · have m : (rd a (i : Int) + 1) * P ≤ rd b (i : Int) * P := Int.mul_le_mul_of_nonneg_right (by omega) (by omega)
        rw [Int.add_mul, Int.one_mul] at m
        constructor
        · intro w; cases w
        · intro w; omega
    · by_cases y : rd a (i : Int) > rd b (i : Int)
      · have m : (rd b (i : Int) + 1) * P ≤ rd a (i : Int) * P := Int.mul_le_mul_of_nonneg_right (by omega) (by omega)
        rw [Int.add_mul, Int.one_mul] at m
        refine ⟨1, Ev.s ?_, ?_, ?_⟩
        · simp only [row, if_neg z, if_pos y]
          exact Ev.const rfl
        · constructor
          · intro w; exact absurd w (by decide)
          · intro w; omega
        · constructor
          · intro w; cases w
          · intro w; omega
      · have e : rd a (i : Int) = rd b (i : Int) := by omega
        refine ⟨c, Ev.s ?_, ?_, ?_⟩
        · simp only [row, if_neg z, if_neg y, if_true]
          exact c1
        · rw [c2, e]; omega
        · rw [c3, e]; omega
def code (T F : List Int) (n : Nat) : Int := vsd T n n * 16 ^ n + vsd F n n
theorem Qw (T F T' F' : List Int) (n : Nat) (hn : n ≤ 12) (h1 : inR n T) (h2 : inR n F) (h3 : inR n T') (h4 : inR n F') : ∃ c : Int, Ev (fun k => zZ.f k T F T' F') c ∧ (c < 0 ↔ code T F n < code T' F' n) ∧ (c = 0 ↔ code T F n = code T' F' n) := by
  obtain ⟨c, c1, c2, c3⟩ := Hz T T' n hn h1 h3 n 0 (by omega) (by omega)
  obtain ⟨e, e1, e2, e3⟩ := Hz F F' n hn h2 h4 n 0 (by omega) (by omega)
  have a := zQ F n hn h2 n (Nat.le_refl _)
  have b := zQ F' n hn h4 n (Nat.le_refl _)
  have l1 := h1.1
  have l2 := h2.1
  have k1 : Ev (fun k => nK.f k T T') c := by unfold nK.f; rw [l1]; exact c1
  have k2 : Ev (fun k => nK.f k F F') e := by unfold nK.f; rw [l2]; exact e1
  have hp : (0 : Int) < 16 ^ n := by omega
  unfold code
  generalize vsd T n n = x at *
  generalize vsd T' n n = y at *
  generalize vsd F n n = u at *
  generalize vsd F' n n = v at *
  generalize (16 : Int) ^ n = P at *
  by_cases z : c = 0
  · have : x = y := c3.1 z
    refine ⟨e, ?_, ?_, ?_⟩
    · unfold zZ.f
      refine Ev.bind k1 ?_
      simp only [z, if_true]
      exact Ev.bind k2 (Ev.const rfl)
    · rw [e2, this]; omega
    · rw [e3, this]; omega
  · refine ⟨c, ?_, ?_, ?_⟩
    · unfold zZ.f
      refine Ev.bind k1 ?_
      simp only [z, if_false]
      exact Ev.const rfl
    · rw [c2]
      constructor
      · intro w
        have m : (x + 1) * P ≤ y * P := Int.mul_le_mul_of_nonneg_right (by omega) (by omega)
        rw [Int.add_mul, Int.one_mul] at m
        omega
      · intro w
        by_cases q : x < y
        · exact q
        · have : x ≠ y := fun e => z (c3.2 e)
          have m : (y + 1) * P ≤ x * P := Int.mul_le_mul_of_nonneg_right (by omega) (by omega)
          rw [Int.add_mul, Int.one_mul] at m
          omega
    · constructor
      · intro w; exact absurd w z
      · intro w
        have : x ≠ y := fun e => z (c3.2 e)
        by_cases q : x < y
        · have m : (x + 1) * P ≤ y * P := Int.mul_le_mul_of_nonneg_right (by omega) (by omega)
          rw [Int.add_mul, Int.one_mul] at m
          omega
        · have m : (y + 1) * P ≤ x * P := Int.mul_le_mul_of_nonneg_right (by omega) (by omega)
          rw [Int.add_mul, Int.one_mul] at m
          omega
theorem Cz (t nm : List Int) (n : Nat) (ht : inR n t) (hm : inR n nm) : inR n (reT t nm n) := lp n _ _ (lp n _ _ (tQ nm n) ht) hm
def fc (t f : List Int) (n r : Nat) : Int := code (reT t (nmF t f n r) n) (reT f (nmF t f n r) n) n
theorem GQ (t f : List Int) (n : Nat) (H : fI t f n) : ∀ (d i : Nat) (T F : List Int), n - i = d → i ≤ n → inR n T → inR n F → (∃ r, r < n ∧ code T F n = fc t f n r) → (∀ r, r < i → code T F n ≤ fc t f n r) →
    ∃ T' F', Ev (fun k => pC.l0 k (n : Int) (i : Int) t f T F) (T', F') ∧ inR n T' ∧ inR n F' ∧ (∃ r, r < n ∧ code T' F' n = fc t f n r) ∧ ∀ r, r < n → code T' F' n ≤ fc t f n r
  | 0, i, T, F, hd, hi, hT, hF, he, hl => by
    have : i = n := by omega
    subst this
    refine ⟨T, F, Ev.s ?_, hT, hF, he, hl⟩
    simp only [pC.l0, show ¬ (i : Int) < (i : Int) by omega, if_false]
    exact Ev.const rfl
  | d + 1, i, T, F, hd, hi, hT, hF, he, hl => by
    obtain ⟨hn, h1, ht, hti, hf, hfl, hcon⟩ := id H
    obtain ⟨a1, a2⟩ := Dr t f n H i (by omega)
    have x1 := Cz t _ n ht a1
    have x2 := Cz f _ n hf a1
    obtain ⟨c, c1, c2, c3⟩ := Qw _ _ T F n hn x1 x2 hT hF
    by_cases z : c < 0
    · have lt : fc t f n i < code T F n := c2.1 z
      obtain ⟨T', F', e1, e2⟩ := GQ t f n H d (i + 1) _ _ (by omega) (by omega) x1 x2 ⟨i, by omega, rfl⟩ (fun r hr => by
        by_cases y : r = i
        · rw [y]; exact Int.le_refl _
        · have := hl r (by omega)
          exact Int.le_trans (Int.le_of_lt lt) this)
      refine ⟨T', F', Ev.s ?_, e2⟩
      simp only [pC.l0, show (i : Int) < (n : Int) by omega, if_true]
      refine Ev.bind (G5 t f n H i (by omega)) ?_
      refine Ev.bind (GL t f _ n hn ht hf a1) ?_
      refine Ev.bind c1 ?_
      simp only [z, if_true, eM (show i < 4611686018427387904 by omega)]
      exact e1
    · have ge : code T F n ≤ fc t f n i := by
        by_cases q : fc t f n i < code T F n
        · exact absurd (c2.2 q) z
        · omega
      obtain ⟨T', F', e1, e2⟩ := GQ t f n H d (i + 1) T F (by omega) (by omega) hT hF he (fun r hr => by
        by_cases y : r = i
        · rw [y]; exact ge
        · exact hl r (by omega))
      refine ⟨T', F', Ev.s ?_, e2⟩
      simp only [pC.l0, show (i : Int) < (n : Int) by omega, if_true]
      refine Ev.bind (G5 t f n H i (by omega)) ?_
      refine Ev.bind (GL t f _ n hn ht hf a1) ?_
      refine Ev.bind c1 ?_
      simp only [z, if_false, eM (show i < 4611686018427387904 by omega)]
      exact e1
theorem Qm (t f : List Int) (n : Nat) (H : fI t f n) : ∃ T F, Ev (fun k => pC.f k t f) (T, F) ∧ inR n T ∧ inR n F ∧ (∃ r, r < n ∧ code T F n = fc t f n r) ∧ ∀ r, r < n → code T F n ≤ fc t f n r := by
  obtain ⟨hn, h1, ht, hti, hf, hfl, hcon⟩ := id H
  obtain ⟨a1, a2⟩ := Dr t f n H 0 (by omega)
  obtain ⟨T, F, e1, e2⟩ := GQ t f n H n 0 _ _ (by omega) (by omega) (Cz t _ n ht a1) (Cz f _ n hf a1) ⟨0, by omega, rfl⟩ (fun r hr => by omega)
  refine ⟨T, F, ?_, e2⟩
  unfold pC.f
  refine Ev.bind (G5 t f n H 0 (by omega)) ?_
  refine Ev.bind (GL t f _ n hn ht hf a1) ?_
  rw [ht.1]
  exact e1
theorem Yq (n : Nat) (s : Nat → Nat) (t f t' f' : List Int) (hm : isMap t f) (hm' : isMap t' f') (H : fI t f n) (H' : fI t' f' n) (I : Iso n s t f t' f') : Ev (fun k => tN.f k t f t' f') true := by
  obtain ⟨hn, h1, ht, hti, hf, hfl, hcon⟩ := id H
  obtain ⟨_, _, ht', hti', hf', _, _⟩ := id H'
  have l1 := ht.1
  have l2 := hf.1
  have l3 := ht'.1
  have l4 := hf'.1
  obtain ⟨b, _, b2, b3⟩ := sc t f (by omega) (by omega)
  obtain ⟨b', _, b2', b3'⟩ := sc t' f' (by omega) (by omega)
  have hb : b = true := b3.2 hm
  have hb' : b' = true := b3'.2 hm'
  subst hb hb'
  obtain ⟨T, F, e1, e2, e3, ⟨r, hr, e4⟩, e5⟩ := Qm t f n H
  obtain ⟨T', F', g1, g2, g3, ⟨r', hr', g4⟩, g5⟩ := Qm t' f' n H'
  obtain ⟨c, c1, c2, c3⟩ := Qw T F T' F' n hn e2 e3 g2 g3
  have same : ∀ x, x < n → fc t' f' n (s x) = fc t f n x := fun x hx => by
    obtain ⟨q1, q2⟩ := Y9 n s t f t' f' H H' I x hx
    unfold fc
    rw [q1, q2]
  have sur : ∃ x, x < n ∧ s x = r' := by
    by_cases z : r' ∈ (List.range n).map s
    · obtain ⟨x, hx, e⟩ := List.mem_map.1 z
      exact ⟨x, List.mem_range.1 hx, e⟩
    · exfalso
      have nd : ((List.range n).map s).Nodup := by
        refine List.pairwise_map.2 (List.Pairwise.imp_of_mem (fun {x y} hx hy hxy e => hxy ?_) (List.nodup_range (n := n)))
        exact I.2.1 x y (List.mem_range.1 hx) (List.mem_range.1 hy) e
      have := nH (r' :: (List.range n).map s) (List.range n) (List.nodup_cons.2 ⟨z, nd⟩) (fun x hx => by
        rcases List.mem_cons.1 hx with rfl | hx
        · exact List.mem_range.2 hr'
        · obtain ⟨y, hy, rfl⟩ := List.mem_map.1 hx
          exact List.mem_range.2 (I.1 y (List.mem_range.1 hy)))
      simp only [List.length_cons, List.length_map, List.length_range] at this
      omega
  obtain ⟨x, hx, ex⟩ := sur
  have v1 := e5 x hx
  rw [← same x hx, ex, ← g4] at v1
  have v2 := g5 (s r) (I.1 r hr)
  rw [same r hr, ← e4] at v2
  have hc : c = 0 := c3.2 (by omega)
  subst hc
  unfold tN.f
  refine Ev.bind b2 ?_
  simp only [if_true]
  refine Ev.bind b2' ?_
  simp only [if_true]
  rw [l1, l3, show (((n : Int) != (n : Int))) = false by simp]
  refine Ev.s ?_
  simp only [tN.j0, Bool.false_eq_true, if_false]
  refine Ev.bind e1 ?_
  refine Ev.bind g1 ?_
  refine Ev.bind c1 ?_
  exact Ev.const rfl
theorem Du (l m : List Int) (k : Nat) (h : k < l.length) : rd (l ++ m) (k : Int) = rd l (k : Int) := by
  rw [gU _ _ (by simp; omega), gU _ _ h, List.getElem_append_left h]
theorem C1 (l m : List Int) (j : Nat) (h : j < m.length) : rd (l ++ m) ((l.length + j : Nat) : Int) = rd m (j : Int) := by
  rw [gU _ _ (by simp; omega), gU _ _ h, List.getElem_append_right (by omega)]
  simp
theorem Ac (a b : List Int) : ∀ (n d : Nat), d < n → rd (tqT a b n) ((2 * d : Nat) : Int) = 2 * rd a (d : Int) ∧ rd (tqT a b n) ((2 * d + 1 : Nat) : Int) = 2 * rd b (d : Int) + 1
  | n + 1, d, h => by
    have hl := Ab a b n
    simp only [tqT]
    by_cases z : d < n
    · obtain ⟨i1, i2⟩ := Ac a b n d z
      rw [Du _ _ _ (by omega), Du _ _ _ (by omega)]
      exact ⟨i1, i2⟩
    · have : d = n := by omega
      subst this
      have e0 := C1 (tqT a b d) [2 * rd a (d : Int), 2 * rd b (d : Int) + 1] 0 (by simp)
      have e1 := C1 (tqT a b d) [2 * rd a (d : Int), 2 * rd b (d : Int) + 1] 1 (by simp)
      rw [hl] at e0 e1
      exact ⟨e0, e1⟩
theorem pG : ∀ (n d : Nat), d < n → rd (tqF n) ((2 * d : Nat) : Int) = ((2 * d + 1 : Nat) : Int) ∧ rd (tqF n) ((2 * d + 1 : Nat) : Int) = ((2 * d : Nat) : Int)
  | n + 1, d, h => by
    have hl := zY n
    simp only [tqF]
    by_cases z : d < n
    · obtain ⟨i1, i2⟩ := pG n d z
      rw [Du _ _ _ (by omega), Du _ _ _ (by omega)]
      exact ⟨i1, i2⟩
    · have : d = n := by omega
      subst this
      have e0 := C1 (tqF d) [2 * (d : Int) + 1, 2 * (d : Int)] 0 (by simp)
      have e1 := C1 (tqF d) [2 * (d : Int) + 1, 2 * (d : Int)] 1 (by simp)
      rw [hl] at e0 e1
      refine ⟨e0.trans ?_, e1.trans ?_⟩
      · show 2 * (d : Int) + 1 = _
        omega
      · show 2 * (d : Int) = _
        omega
def QOk (t f b : List Int) (n : Nat) : Prop := fI t f n ∧ n ≤ 6 ∧ inR n b ∧ (∀ d : Nat, d < n → rd b (rd t (rd f (d : Int))) = d) ∧ ∀ d : Nat, d < n → rd t (rd f (rd b (d : Int))) = d
theorem PF (t f : List Int) (n : Nat) (H : fI t f n) (h6 : n ≤ 6) : QOk t f (eN (aZ f t n) n n) n := by
  obtain ⟨hn, h1, ht, hti, hf, hfl, hcon⟩ := id H
  have hm := lp n f t hf ht
  have inj : da n (aZ f t n) := fun i j hi hj e => by
    rw [jV f t n i hi, jV f t n j hj] at e
    have ri := hf.2 i hi
    have rj := hf.2 j hj
    have e2 : (rd f (i : Int)).toNat = (rd f (j : Int)).toNat := hti _ _ (by omega) (by omega) (by rw [show (((rd f (i : Int)).toNat : Nat) : Int) = rd f (i : Int) by omega, show (((rd f (j : Int)).toNat : Nat) : Int) = rd f (j : Int) by omega]; exact e)
    have e3 : rd f (i : Int) = rd f (j : Int) := by omega
    have f1 := (hfl i hi).2
    have f2 := (hfl j hj).2
    rw [e3, f2] at f1
    omega
  have hb := tQ (aZ f t n) n
  have back : ∀ d : Nat, d < n → rd (eN (aZ f t n) n n) (rd t (rd f (d : Int))) = d := fun d hd => by
    have := zU (aZ f t n) n hm inj n (Nat.le_refl _) d hd
    rwa [jV f t n d hd] at this
  refine ⟨H, h6, hb, back, fun d hd => ?_⟩
  obtain ⟨m, _, h2⟩ := xR (aZ f t n) n hm inj d (by omega)
  have hin := nD (aZ f t n) n hm m d (by omega)
  rw [nI] at h2
  have h2 : rd (aZ f t n) (itr (aZ f t n) m d) = d := h2
  have ex : (((itr (aZ f t n) m d).toNat : Nat) : Int) = itr (aZ f t n) m d := by omega
  have hm2 := jV f t n (itr (aZ f t n) m d).toNat (by omega)
  rw [ex, h2] at hm2
  have hb2 := back (itr (aZ f t n) m d).toNat (by omega)
  rw [ex, ← hm2] at hb2
  rw [hb2, ← hm2]
theorem QOk.num {t f b : List Int} {n : Nat} (Q : QOk t f b n) : ∃ τ φ β : Nat → Nat, (∀ d : Nat, d < n → rd t (d : Int) = (τ d : Int) ∧ τ d < n) ∧ (∀ d : Nat, d < n → rd f (d : Int) = (φ d : Int) ∧ φ d < n) ∧ (∀ d : Nat, d < n → rd b (d : Int) = (β d : Int) ∧ β d < n) ∧
    (∀ d, d < n → φ (φ d) = d) ∧ (∀ d, d < n → φ d ≠ d) ∧ (∀ d, d < n → β (τ d) = φ d) ∧ (∀ d, d < n → τ (φ (β d)) = d) ∧ (∀ d e, d < n → e < n → τ d = τ e → d = e) ∧ (∀ d e, d < n → e < n → β d = β e → d = e) := by
  obtain ⟨H, h6, hb, b1, b2⟩ := Q
  obtain ⟨hn, h1, ht, hti, hf, hfl, hcon⟩ := id H
  have T : ∀ d : Nat, d < n → rd t (d : Int) = (((rd t (d : Int)).toNat : Nat) : Int) ∧ (rd t (d : Int)).toNat < n := fun d hd => by have := ht.2 d hd; omega
  have F : ∀ d : Nat, d < n → rd f (d : Int) = (((rd f (d : Int)).toNat : Nat) : Int) ∧ (rd f (d : Int)).toNat < n := fun d hd => by have := hf.2 d hd; omega
  have B : ∀ d : Nat, d < n → rd b (d : Int) = (((rd b (d : Int)).toNat : Nat) : Int) ∧ (rd b (d : Int)).toNat < n := fun d hd => by have := hb.2 d hd; omega
  have ff : ∀ d, d < n → (rd f (((rd f (d : Int)).toNat : Nat) : Int)).toNat = d := fun d hd => by
    rw [← (F d hd).1, (hfl d hd).2, Int.toNat_natCast]
  refine ⟨fun d => (rd t (d : Int)).toNat, fun d => (rd f (d : Int)).toNat, fun d => (rd b (d : Int)).toNat, T, F, B, ff, fun d hd e => ?_, fun d hd => ?_, fun d hd => ?_, fun d e hd he h => ?_, fun d e hd he h => ?_⟩
  · have e : (rd f (d : Int)).toNat = d := e
    have := (hfl d hd).1
    have := (F d hd).1
    omega
  · show (rd b (((rd t (d : Int)).toNat : Nat) : Int)).toNat = (rd f (d : Int)).toNat
    have := b1 (rd f (d : Int)).toNat (F d hd).2
    rw [← (F d hd).1, (hfl d hd).2] at this
    rw [← (T d hd).1, this]
  · show (rd t (((rd f (((rd b (d : Int)).toNat : Nat) : Int)).toNat : Nat) : Int)).toNat = d
    have q1 := (B d hd).1
    have q2 := (F _ (B d hd).2).1
    rw [← q1] at q2 ⊢
    rw [← q2, b2 d hd, Int.toNat_natCast]
  · have h : (rd t (d : Int)).toNat = (rd t (e : Int)).toNat := h
    exact hti d e hd he (by rw [(T d hd).1, (T e he).1, h])
  · have h : (rd b (d : Int)).toNat = (rd b (e : Int)).toNat := h
    have x := b2 d hd
    have y := b2 e he
    rw [(B d hd).1, h, ← (B e he).1, y] at x
    omega
theorem half (n x : Nat) (hx : x < 2 * n) : ∃ d, d < n ∧ (x = 2 * d ∨ x = 2 * d + 1) := ⟨x / 2, by omega, by omega⟩
theorem Sj (t f b : List Int) (n : Nat) (Q : QOk t f b n) : fI (tqT t b n) (tqF n) (2 * n) := by
  obtain ⟨τ, φ, β, hτ, hφ, hβ, ff, fn, bt, tfb, ti, bi⟩ := Q.num
  obtain ⟨H, h6, hb, b1, b2⟩ := Q
  obtain ⟨hn, h1, ht, hti, hf, hfl, hcon⟩ := id H
  have T : ∀ d : Nat, d < n → rd (tqT t b n) ((2 * d : Nat) : Int) = ((2 * τ d : Nat) : Int) ∧ rd (tqT t b n) ((2 * d + 1 : Nat) : Int) = ((2 * β d + 1 : Nat) : Int) := fun d hd => by
    obtain ⟨x, y⟩ := Ac t b n d hd
    rw [x, y, (hτ d hd).1, (hβ d hd).1]
    exact ⟨by omega, by omega⟩
  refine ⟨by omega, by omega, ⟨Ab t b n, fun x hx => ?_⟩, fun x y hx hy e => ?_, ⟨zY n, fun x hx => ?_⟩, fun x hx => ?_, fun x y hx hy S hS => ?_⟩
  · obtain ⟨d, hd, rfl | rfl⟩ := half n x hx
    · rw [(T d hd).1]; have := (hτ d hd).2; omega
    · rw [(T d hd).2]; have := (hβ d hd).2; omega
  · obtain ⟨d, hd, rfl | rfl⟩ := half n x hx <;> obtain ⟨e', he, rfl | rfl⟩ := half n y hy
    · rw [(T d hd).1, (T e' he).1] at e
      have := ti d e' hd he (by omega)
      omega
    · rw [(T d hd).1, (T e' he).2] at e
      omega
    · rw [(T d hd).2, (T e' he).1] at e
      omega
    · rw [(T d hd).2, (T e' he).2] at e
      have := bi d e' hd he (by omega)
      omega
  · obtain ⟨d, hd, rfl | rfl⟩ := half n x hx
    · rw [(pG n d hd).1]; omega
    · rw [(pG n d hd).2]; omega
  · obtain ⟨d, hd, rfl | rfl⟩ := half n x hx
    · refine ⟨by rw [(pG n d hd).1]; omega, ?_⟩
      rw [(pG n d hd).1, (pG n d hd).2]
    · refine ⟨by rw [(pG n d hd).2]; omega, ?_⟩
      rw [(pG n d hd).2, (pG n d hd).1]
  · have hT : ∀ k : Nat, k < 2 * n → (S k ↔ S (rd (tqT t b n) (k : Int)).toNat) := hS _ (by simp)
    have hF : ∀ k : Nat, k < 2 * n → (S k ↔ S (rd (tqF n) (k : Int)).toNat) := hS _ (by simp)
    have s1 : ∀ d : Nat, d < n → (S (2 * d) ↔ S (2 * τ d)) := fun d hd => by
      have := hT (2 * d) (by omega)
      rwa [(T d hd).1, Int.toNat_natCast] at this
    have s2 : ∀ d : Nat, d < n → (S (2 * d) ↔ S (2 * d + 1)) := fun d hd => by
      have := hF (2 * d) (by omega)
      rwa [(pG n d hd).1, Int.toNat_natCast] at this
    have s3 : ∀ d : Nat, d < n → (S (2 * d) ↔ S (2 * β d)) := fun d hd => by
      have := hT (2 * d + 1) (by omega)
      rw [(T d hd).2, Int.toNat_natCast] at this
      rw [s2 d hd, this, ← s2 _ (hβ d hd).2]
    have s4 : ∀ d : Nat, d < n → (S (2 * d) ↔ S (2 * φ d)) := fun d hd => by
      rw [s1 d hd, s3 _ (hτ d hd).2, bt d hd]
    have all : ∀ d e : Nat, d < n → e < n → (S (2 * d) ↔ S (2 * e)) := fun d e hd he => by
      refine hcon d e hd he (fun z => S (2 * z)) fun p hp k hk => ?_
      rcases List.mem_cons.1 hp with rfl | hp
      · rw [(hτ k hk).1, Int.toNat_natCast]
        exact s1 k hk
      · rw [List.mem_singleton.1 hp, (hφ k hk).1, Int.toNat_natCast]
        exact s4 k hk
    obtain ⟨d, hd, rfl | rfl⟩ := half n x hx <;> obtain ⟨e', he, rfl | rfl⟩ := half n y hy
    · exact all d e' hd he
    · rw [all d e' hd he, s2 e' he]
    · rw [← s2 d hd, all d e' hd he]
    · rw [← s2 d hd, all d e' hd he, s2 e' he]
theorem XZ (t f b : List Int) (n : Nat) (Q : QOk t f b n) : (cyS (tqT t b n) (2 * n) (2 * n)).2.length = (cyS t n n).2.length + (cyS (aZ f t n) n n).2.length := by
  have O := Sj t f b n Q
  obtain ⟨on, o1, oT, oi, oF, ofl, ocon⟩ := id O
  obtain ⟨τ, φ, β, hτ, hφ, hβ, ff, fn, bt, tfb, ti, bi⟩ := Q.num
  obtain ⟨H, h6, hb, b1, b2⟩ := id Q
  obtain ⟨hn, h1, ht, hti, hf, hfl, hcon⟩ := id H
  have T : ∀ d : Nat, d < n → rd (tqT t b n) ((2 * d : Nat) : Int) = ((2 * τ d : Nat) : Int) ∧ rd (tqT t b n) ((2 * d + 1 : Nat) : Int) = ((2 * β d + 1 : Nat) : Int) := fun d hd => by
    obtain ⟨x, y⟩ := Ac t b n d hd
    rw [x, y, (hτ d hd).1, (hβ d hd).1]
    exact ⟨by omega, by omega⟩
  have mi : da n (aZ f t n) := fun i j hi hj e => by
    rw [jV f t n i hi, jV f t n j hj, (hφ i hi).1, (hφ j hj).1, (hτ _ (hφ i hi).2).1, (hτ _ (hφ j hj).2).1] at e
    have := ti _ _ (hφ i hi).2 (hφ j hj).2 (by omega)
    have e1 := ff i hi
    rw [this, ff j hj] at e1
    exact e1.symm
  have cT := r7 (tqT t b n) (2 * n) oT oi
  obtain ⟨L1, p1, p2, p3⟩ := r7 t n ht hti
  obtain ⟨L2, q1, q2, q3⟩ := r7 (aZ f t n) n (lp n f t hf ht) mi
  -- the turn's classes
  have XM : ∀ x y, x < n → y < n → (Reach [tqT t b n] (2 * n) (2 * x) (2 * y) ↔ Reach [t] n x y) := by
    intro x y hx hy
    constructor
    · intro h S hS
      have := h (fun z => z % 2 = 0 ∧ S (z / 2)) (fun p hp k hk => by
        rw [List.mem_singleton.1 hp]
        obtain ⟨d, hd, rfl | rfl⟩ := half n k hk
        · rw [(T d hd).1, Int.toNat_natCast]
          have := hS t (by simp) d hd
          rw [(hτ d hd).1, Int.toNat_natCast] at this
          show (2 * d % 2 = 0 ∧ S (2 * d / 2)) ↔ (2 * τ d % 2 = 0 ∧ S (2 * τ d / 2))
          rw [show 2 * d / 2 = d by omega, show 2 * τ d / 2 = τ d by omega]
          constructor
          · rintro ⟨_, q⟩; exact ⟨by omega, this.1 q⟩
          · rintro ⟨_, q⟩; exact ⟨by omega, this.2 q⟩
        · rw [(T d hd).2, Int.toNat_natCast]
          constructor
          · rintro ⟨q, _⟩; omega
          · rintro ⟨q, _⟩; omega)
      rw [show 2 * x / 2 = x by omega, show 2 * y / 2 = y by omega] at this
      constructor
      · intro q; exact (this.1 ⟨by omega, q⟩).2
      · intro q; exact (this.2 ⟨by omega, q⟩).2
    · intro h S hS
      exact h (fun z => S (2 * z)) fun p hp k hk => by
        rw [List.mem_singleton.1 hp, (hτ k hk).1, Int.toNat_natCast]
        have := hS (tqT t b n) (by simp) (2 * k) (by omega)
        rwa [(T k hk).1, Int.toNat_natCast] at this
  have XN : ∀ x y, x < n → y < n → (Reach [tqT t b n] (2 * n) (2 * x + 1) (2 * y + 1) ↔ Reach [aZ f t n] n x y) := by
    intro x y hx hy
    have fac : ∀ (S : Nat → Prop), (∀ d, d < n → (S d ↔ S (β d))) ↔ qf [aZ f t n] n S := by
      intro S
      constructor
      · intro h p hp k hk
        rw [List.mem_singleton.1 hp, jV f t n k hk, (hφ k hk).1, (hτ _ (hφ k hk).2).1, Int.toNat_natCast]
        have := h _ (hτ _ (hφ k hk).2).2
        rw [bt _ (hφ k hk).2, ff k hk] at this
        exact this.symm
      · intro h d hd
        have := h (aZ f t n) (by simp) (β d) (hβ d hd).2
        rw [jV f t n _ (hβ d hd).2, (hφ _ (hβ d hd).2).1, (hτ _ (hφ _ (hβ d hd).2).2).1, Int.toNat_natCast, tfb d hd] at this
        exact this.symm
    constructor
    · intro h S hS
      have hS' := (fac S).2 hS
      have := h (fun z => z % 2 = 1 ∧ S (z / 2)) (fun p hp k hk => by
        rw [List.mem_singleton.1 hp]
        obtain ⟨d, hd, rfl | rfl⟩ := half n k hk
        · rw [(T d hd).1, Int.toNat_natCast]
          constructor
          · rintro ⟨q, _⟩; omega
          · rintro ⟨q, _⟩; omega
        · rw [(T d hd).2, Int.toNat_natCast]
          show ((2 * d + 1) % 2 = 1 ∧ S ((2 * d + 1) / 2)) ↔ ((2 * β d + 1) % 2 = 1 ∧ S ((2 * β d + 1) / 2))
          rw [show (2 * d + 1) / 2 = d by omega, show (2 * β d + 1) / 2 = β d by omega]
          constructor
          · rintro ⟨_, q⟩; exact ⟨by omega, (hS' d hd).1 q⟩
          · rintro ⟨_, q⟩; exact ⟨by omega, (hS' d hd).2 q⟩)
      rw [show (2 * x + 1) / 2 = x by omega, show (2 * y + 1) / 2 = y by omega] at this
      constructor
      · intro q; exact (this.1 ⟨by omega, q⟩).2
      · intro q; exact (this.2 ⟨by omega, q⟩).2
    · intro h S hS
      exact h (fun z => S (2 * z + 1)) ((fac _).1 fun d hd => by
        have := hS (tqT t b n) (by simp) (2 * d + 1) (by omega)
        rwa [(T d hd).2, Int.toNat_natCast] at this)
  have XO : ∀ x y, x % 2 ≠ y % 2 → ¬ Reach [tqT t b n] (2 * n) x y := by
    intro x y hxy h
    have := (h (fun z => z % 2 = x % 2) (fun p hp k hk => by
      rw [List.mem_singleton.1 hp]
      obtain ⟨d, hd, rfl | rfl⟩ := half n k hk
      · rw [(T d hd).1, Int.toNat_natCast]; omega
      · rw [(T d hd).2, Int.toNat_natCast]; omega)).1 rfl
    omega
  have C : Cl (2 * n) (Reach [tqT t b n] (2 * n)) (L1.length + L2.length) := by
    refine ⟨L1.map (fun x => 2 * x) ++ L2.map (fun x => 2 * x + 1), ?_, fun x => ?_, by simp⟩
    · refine List.pairwise_append.2 ⟨List.pairwise_map.2 (p1.imp fun h e => h (by omega)), List.pairwise_map.2 (q1.imp fun h e => h (by omega)), fun x hx y hy e => ?_⟩
      obtain ⟨u, _, rfl⟩ := List.mem_map.1 hx
      obtain ⟨v, _, rfl⟩ := List.mem_map.1 hy
      omega
    · rw [List.mem_append, List.mem_map, List.mem_map]
      constructor
      · rintro (⟨u, hu, rfl⟩ | ⟨u, hu, rfl⟩)
        · obtain ⟨u1, u2⟩ := (p2 u).1 hu
          refine ⟨by omega, fun i hi hr => ?_⟩
          by_cases z : i % 2 = 0
          · have e : i = 2 * (i / 2) := by omega
            rw [e] at hr
            exact u2 (i / 2) (by omega) ((XM _ _ (by omega) u1).1 hr)
          · exact XO _ _ (by omega) hr
        · obtain ⟨u1, u2⟩ := (q2 u).1 hu
          refine ⟨by omega, fun i hi hr => ?_⟩
          by_cases z : i % 2 = 1
          · have e : i = 2 * (i / 2) + 1 := by omega
            rw [e] at hr
            exact u2 (i / 2) (by omega) ((XN _ _ (by omega) u1).1 hr)
          · exact XO _ _ (by omega) hr
      · rintro ⟨hx, hl⟩
        obtain ⟨d, hd, rfl | rfl⟩ := half n x hx
        · exact .inl ⟨d, (p2 d).2 ⟨hd, fun i hi hr => hl (2 * i) (by omega) ((XM i d (by omega) hd).2 hr)⟩, rfl⟩
        · exact .inr ⟨d, (q2 d).2 ⟨hd, fun i hi hr => hl (2 * i + 1) (by omega) ((XN i d (by omega) hd).2 hr)⟩, rfl⟩
  rw [cT.uniq C, p3, q3]
theorem Rk (p : List Int) (n : Nat) (hp : inR n p) : ∀ (f : Nat) (s : List Bool) (c : List Int) (a : Int), s.length = n → 0 ≤ a → a < n → fresh s < f →
    ∃ m, (cw p f s c a).2 = c ++ (List.range m).map (fun k => itr p k a) ∧ (∀ k, k < m → fy false s (itr p k a) = false) ∧ (∀ i j, i < j → j < m → itr p i a ≠ itr p j a) ∧ (fy false s (itr p m a) = true ∨ ∃ k, k < m ∧ itr p m a = itr p k a)
  | 0, s, c, a, hs, h0, h1, hf => absurd hf (Nat.not_lt_zero _)
  | f + 1, s, c, a, hs, h0, h1, hf => by
    simp only [cw]
    by_cases e : fy false s a = true
    · rw [if_pos e]
      exact ⟨0, by simp, fun k hk => absurd hk (by omega), fun i j _ hj => absurd hj (by omega), .inl e⟩
    · rw [if_neg e]
      have e0 : fy false s a = false := by simpa using e
      have e1 : s.getD a.toNat false = false := by rw [← oL s a h0]; exact e0
      have fr := vY s a.toNat (by omega) e1
      have pr := hp.2 a.toNat (by omega)
      have ea : ((a.toNat : Nat) : Int) = a := by omega
      rw [ea] at pr
      obtain ⟨m, m1, m2, m3, m4⟩ := Rk p n hp f (s.set a.toNat true) (c ++ [a]) (rd p a) (by simpa using hs) pr.1 pr.2 (by omega)
      have look : ∀ k, fy false (s.set a.toNat true) (itr p k (rd p a)) = if a = itr p k (rd p a) then true else fy false s (itr p k (rd p a)) := fun k => by
        have r := nD p n hp k _ pr
        rw [oL _ _ r.1, oL _ _ r.1, xW _ _ _ _ (by omega)]
        by_cases q : a = itr p k (rd p a)
        · rw [if_pos q, if_pos (by omega)]
        · rw [if_neg q, if_neg (by omega)]
      refine ⟨m + 1, ?_, fun k hk => ?_, fun i j hij hj => ?_, ?_⟩
      · rw [m1, List.range_succ_eq_map, List.map_cons, List.map_map, List.append_assoc]
        rfl
      · cases k with
        | zero => exact e0
        | succ k =>
          have := m2 k (by omega)
          rw [look k] at this
          show fy false s (itr p k (rd p a)) = false
          by_cases q : a = itr p k (rd p a)
          · rw [if_pos q] at this; cases this
          · rw [if_neg q] at this; exact this
      · obtain ⟨j, rfl⟩ : ∃ j', j = j' + 1 := ⟨j - 1, by omega⟩
        cases i with
        | zero =>
          have := m2 j (by omega)
          rw [look j] at this
          intro q
          rw [if_pos (show a = itr p j (rd p a) from q)] at this
          cases this
        | succ i => exact m3 i j (by omega) (by omega)
      · rcases m4 with h | ⟨k, hk, h⟩
        · rw [look m] at h
          by_cases q : a = itr p m (rd p a)
          · exact .inr ⟨0, by omega, q.symm⟩
          · rw [if_neg q] at h
            exact .inl h
        · exact .inr ⟨k + 1, by omega, h⟩
theorem GX (p : List Int) (n : Nat) (hp : inR n p) (hi : da n p) : ∀ i, i ≤ n → ∀ l ∈ (cyS p n i).2, ∃ a : Nat, a < n ∧ l = (List.range l.length).map (fun k => itr p k (a : Int)) ∧ itr p l.length (a : Int) = a ∧ ∀ i j, i < j → j < l.length → itr p i (a : Int) ≠ itr p j (a : Int)
  | 0, _, l, hl => by simp [cyS] at hl
  | i + 1, h, l, hl => by
    have ih := GX p n hp hi i (by omega)
    have len := qO p n i
    have fl := xS (cyS p n i).1
    obtain ⟨m, m1, m2, m3, m4⟩ := Rk p n hp (n + 1) (cyS p n i).1 [] (i : Int) len (by omega) (by omega) (by omega)
    rw [List.nil_append] at m1
    simp only [cyS] at hl
    by_cases e : (cw p (n + 1) (cyS p n i).1 [] (i : Int)).2 = []
    · rw [if_pos e] at hl
      exact ih l hl
    · rw [if_neg e] at hl
      rcases List.mem_append.1 hl with hl | hl
      · exact ih l hl
      · have el := List.mem_singleton.1 hl
        have ell : l.length = m := by rw [el, m1]; simp
        have mp : 0 < m := by
          rcases Nat.eq_zero_or_pos m with z | z
          · exact absurd (by rw [m1, z]; rfl) e
          · exact z
        refine ⟨i, by omega, by rw [ell, ← m1, ← el], ?_, fun x y hxy hy => m3 x y hxy (by omega)⟩
        rw [ell]
        have ii : (0 : Int) ≤ (i : Int) ∧ (i : Int) < n := by omega
        rcases m4 with h4 | ⟨k, hk, h4⟩
        · exfalso
          have r := nD p n hp m (i : Int) ii
          rw [oL _ _ r.1] at h4
          obtain ⟨j, j1, j2⟩ := (t6 p n hp hi i (by omega) _ (by omega)).1 h4
          have z := HQ [p] p n hp (by simp) m (i : Int) ii
          rw [Int.toNat_natCast] at z
          have := (t6 p n hp hi i (by omega) i (by omega)).2 ⟨j, j1, j2.trans z.symm⟩
          have q := m2 0 mp
          rw [show itr p 0 (i : Int) = i from rfl, oL _ _ (by omega), Int.toNat_natCast, this] at q
          cases q
        · rw [show m = (m - k) + k by omega, nI] at h4
          have h5 := CB p n hp hi k _ _ (nD p n hp (m - k) (i : Int) ii) ii h4
          by_cases k0 : k = 0
          · subst k0; exact h5
          · exact absurd h5.symm (m3 0 (m - k) (by omega) (by omega))
theorem Yn (p : List Int) (n : Nat) (hp : inR n p) (hi : da n p) (x : Nat) (hx : x < n) : ∃ l ∈ (cyS p n n).2, (x : Int) ∈ l := by
  obtain ⟨reps, r1, r2, r3, r4⟩ := Dw p n hp hi n (Nat.le_refl _)
  obtain ⟨y, y1, y2, y3⟩ := vn (Reach [p] n) (fun x => Reach.refl _ _ x) (fun _ _ h => h.symm) (fun _ _ _ h h' => h.trans h') x
  obtain ⟨q, hq, e⟩ := List.mem_iff_getElem.1 ((r3 y).2 ⟨by omega, y2⟩)
  have := (r4 q hq x hx).2 (by rw [e]; exact y3)
  have hq' : q < (cyS p n n).2.length := by omega
  have el : dp (cyS p n n).2 (q : Int) = (cyS p n n).2[q] := by
    unfold dp
    rw [Int.toNat_natCast]
    simp [List.getD, hq']
  rw [el] at this
  exact ⟨_, List.getElem_mem hq', this⟩
theorem H8 (p : List Int) (n : Nat) (hp : inR n p) (hi : da n p) (h4 : ∀ l ∈ (cyS p n n).2, l.length = 4) :
    (∀ l ∈ (cyS p n n).2, ∃ a : Nat, a < n ∧ l = [(a : Int), rd p a, rd p (rd p a), rd p (rd p (rd p a))]) ∧
    ∀ x : Nat, x < n → rd p (rd p (rd p (rd p (x : Int)))) = x ∧ rd p (x : Int) ≠ x ∧ rd p (rd p (x : Int)) ≠ x ∧ rd p (rd p (rd p (x : Int))) ≠ x := by
  constructor
  · intro l hl
    obtain ⟨a, a1, a2, _, _⟩ := GX p n hp hi n (Nat.le_refl _) l hl
    refine ⟨a, a1, ?_⟩
    rw [a2, h4 l hl]
    rfl
  · intro x hx
    obtain ⟨l, hl, hxl⟩ := Yn p n hp hi x hx
    obtain ⟨a, a1, a2, a3, a4⟩ := GX p n hp hi n (Nat.le_refl _) l hl
    rw [a2] at hxl
    obtain ⟨k, hk, ek⟩ := List.mem_map.1 hxl
    have hk := List.mem_range.1 hk
    rw [h4 l hl] at a3 hk
    have aa : (0 : Int) ≤ (a : Int) ∧ (a : Int) < n := by omega
    have com : ∀ m, itr p m (x : Int) = itr p k (itr p m (a : Int)) := fun m => by rw [← ek, ← nI, ← nI, Nat.add_comm]
    have ne : ∀ m, 0 < m → m < 4 → itr p m (x : Int) ≠ x := fun m m0 m1 e => by
      rw [com m, ← ek] at e
      exact a4 0 m m0 (by rw [h4 l hl]; exact m1) (CB p n hp hi k _ _ (nD p n hp m _ aa) aa e).symm
    refine ⟨?_, ne 1 (by omega) (by omega), ne 2 (by omega) (by omega), ne 3 (by omega) (by omega)⟩
    have := com 4
    rw [a3, ek] at this
    exact this
def evn (g : List Int) (d : Nat) : Prop := Int.tmod (rd g (d : Int)) 2 = 0
instance (g : List Int) (d : Nat) : Decidable (evn g d) := inferInstanceAs (Decidable (_ = _))
theorem Hh {g : List Int} {d : Nat} (h : evn g d) : nmE g (d + 1) = nmE g d + 1 := by
  have h : Int.tmod (rd g (d : Int)) 2 = 0 := h
  simp only [nmE, h, if_true]
theorem OC {g : List Int} {d : Nat} (h : ¬ evn g d) : nmE g (d + 1) = nmE g d := by
  have h : ¬ Int.tmod (rd g (d : Int)) 2 = 0 := h
  simp only [nmE, h, if_false]
theorem qQ {g : List Int} {d i : Nat} (h : evn g d) (hd : d < i) : nmE g d < nmE g i := by
  have := Hl g (d + 1) (i - (d + 1))
  rw [show d + 1 + (i - (d + 1)) = i by omega, Hh h] at this
  omega
theorem Hs {g : List Int} {d e : Nat} (h : evn g d) (h' : evn g e) (q : nmE g d = nmE g e) : d = e := by
  by_cases h1 : d < e
  · have := qQ h h1; omega
  · by_cases h2 : e < d
    · have := qQ h' h2; omega
    · omega
theorem qP (g : List Int) : ∀ i k, k < nmE g i → ∃ d, d < i ∧ evn g d ∧ nmE g d = k
  | 0, k, h => absurd h (by simp [nmE])
  | i + 1, k, h => by
    by_cases e : evn g i
    · rw [Hh e] at h
      by_cases q : k = nmE g i
      · exact ⟨i, by omega, e, q.symm⟩
      · obtain ⟨d, d1, d2⟩ := qP g i k (by omega)
        exact ⟨d, by omega, d2⟩
    · rw [OC e] at h
      obtain ⟨d, d1, d2⟩ := qP g i k h
      exact ⟨d, by omega, d2⟩
theorem Qn (g : List Int) : ∀ i, ((List.range i).filter fun d => decide (evn g d)).length = nmE g i
  | 0 => rfl
  | i + 1 => by
    rw [List.range_succ, List.filter_append, List.length_append, Qn g i]
    by_cases e : evn g i
    · rw [Hh e]; simp [e]
    · rw [OC e]; simp [e]
theorem GR (g t nm : List Int) : ∀ i d : Nat, d < i → evn g d → rd (tmA g t nm i) ((nmE g d : Nat) : Int) = rd nm (rd t (d : Int))
  | 0, d, h, _ => absurd h (by omega)
  | i + 1, d, h, e => by
    by_cases z : evn g i
    · have z' : Int.tmod (rd g (i : Int)) 2 = 0 := z
      simp only [tmA, z', if_true]
      by_cases q : d = i
      · subst q
        have := xO (tmA g t nm d) (rd nm (rd t (d : Int)))
        rwa [zT] at this
      · rw [vI _ _ _ (by rw [zT]; exact qQ e (by omega))]
        exact GR g t nm i d (by omega) e
    · have z' : ¬ Int.tmod (rd g (i : Int)) 2 = 0 := z
      simp only [tmA, z', if_false]
      have : d ≠ i := fun q => z (q ▸ e)
      exact GR g t nm i d (by omega) e
theorem HD (g t fc bk nm : List Int) : ∀ i d : Nat, d < i → evn g d → rd (tmB g t fc bk nm i) ((nmE g d : Nat) : Int) = tmF t fc bk nm d
  | 0, d, h, _ => absurd h (by omega)
  | i + 1, d, h, e => by
    by_cases z : evn g i
    · have z' : Int.tmod (rd g (i : Int)) 2 = 0 := z
      simp only [tmB, z', if_true]
      by_cases q : d = i
      · subst q
        have := xO (tmB g t fc bk nm d) (tmF t fc bk nm d)
        rwa [zy] at this
      · rw [vI _ _ _ (by rw [zy]; exact qQ e (by omega))]
        exact HD g t fc bk nm i d (by omega) e
    · have z' : ¬ Int.tmod (rd g (i : Int)) 2 = 0 := z
      simp only [tmB, z', if_false]
      have : d ≠ i := fun q => z (q ▸ e)
      exact HD g t fc bk nm i d (by omega) e
theorem CW {f : Nat → Nat} : ∀ {L : List Nat}, L.Nodup → (∀ x ∈ L, ∀ y ∈ L, f x = f y → x = y) → (L.map f).Nodup
  | [], _, _ => by simp
  | a :: L, h, hf => by
    rw [List.nodup_cons] at h
    rw [List.map_cons, List.nodup_cons]
    refine ⟨fun hm => ?_, CW h.2 fun x hx y hy => hf x (by simp [hx]) y (by simp [hy])⟩
    obtain ⟨x, hx, e⟩ := List.mem_map.1 hm
    exact h.1 (hf x (by simp [hx]) a (by simp) e ▸ hx)
theorem Z2 (L : List Nat) (p : Nat → Bool) : (L.filter p).length + (L.filter fun a => ! p a).length = L.length := by
  induction L with
  | nil => rfl
  | cons x L ih =>
    simp only [List.filter_cons]
    cases p x <;> simp <;> omega
structure Tq (t f g l' : List Int) (n : Nat) (τ φ : Nat → Nat) : Prop where
  t1 : ∀ d : Nat, d < n → rd t (d : Int) = (τ d : Int) ∧ τ d < n
  f1 : ∀ d : Nat, d < n → rd f (d : Int) = (φ d : Int) ∧ φ d < n
  ti : ∀ d e, d < n → e < n → τ d = τ e → d = e
  ff : ∀ d, d < n → φ (φ d) = d
  et : ∀ d, d < n → (evn g (τ d) ↔ evn g d)
  ef : ∀ d, d < n → (evn g (φ d) ↔ ¬ evn g d)
  four : ∀ d, d < n → τ (φ (τ (φ (τ (φ (τ (φ d))))))) = d
  two : ∀ d, d < n → τ (φ (τ (φ d))) ≠ d
theorem YE (t f g l' : List Int) (n : Nat) (H : fI t f n) (h4 : ∀ l ∈ (cyS (aZ f t n) n n).2, l.length = 4) (a : Nat) (hg : hJ t f n a g) (hpar : ∀ x : Nat, x < n → ¬ Int.tmod (rd g (x : Int)) 2 = Int.tmod (rd g (rd f (x : Int))) 2) :
    Tq t f g l' n (fun d => (rd t (d : Int)).toNat) (fun d => (rd f (d : Int)).toNat) := by
  obtain ⟨hn, h1, ht, hti, hf, hfl, hcon⟩ := id H
  have T : ∀ d : Nat, d < n → rd t (d : Int) = (((rd t (d : Int)).toNat : Nat) : Int) ∧ (rd t (d : Int)).toNat < n := fun d hd => by have := ht.2 d hd; omega
  have F : ∀ d : Nat, d < n → rd f (d : Int) = (((rd f (d : Int)).toNat : Nat) : Int) ∧ (rd f (d : Int)).toNat < n := fun d hd => by have := hf.2 d hd; omega
  have pin := lp n f t hf ht
  have inj : da n (aZ f t n) := fun i j hi hj e => by
    rw [jV f t n i hi, jV f t n j hj, (F i hi).1, (F j hj).1] at e
    have e2 := hti _ _ (F i hi).2 (F j hj).2 e
    have a1 := (hfl i hi).2
    have a2 := (hfl j hj).2
    rw [(F i hi).1, e2, ← (F j hj).1, a2] at a1
    omega
  obtain ⟨_, hp⟩ := H8 _ n pin inj h4
  have st : ∀ d : Nat, d < n → rd (aZ f t n) (d : Int) = (((rd t (((rd f (d : Int)).toNat : Nat) : Int)).toNat : Nat) : Int) ∧ (rd t (((rd f (d : Int)).toNat : Nat) : Int)).toNat < n := fun d hd => by
    rw [jV f t n d hd]
    have := T _ (F d hd).2
    refine ⟨?_, this.2⟩
    rw [(F d hd).1]
    exact this.1
  have par : ∀ x : Nat, x < n → Int.tmod (rd g (x : Int)) 2 = 0 ∨ Int.tmod (rd g (x : Int)) 2 = 1 := fun x hx => by rw [Int.tmod_eq_emod_of_nonneg (hg.rng x hx).1]; omega
  refine ⟨T, F, fun d e hd he h => ?_, fun d hd => ?_, fun d hd => ?_, fun d hd => ?_, fun d hd => ?_, fun d hd h => ?_⟩
  · exact hti d e hd he (by rw [(T d hd).1, (T e he).1, show (rd t (d : Int)).toNat = (rd t (e : Int)).toNat from h])
  · show (rd f (((rd f (d : Int)).toNat : Nat) : Int)).toNat = d
    rw [← (F d hd).1, (hfl d hd).2, Int.toNat_natCast]
  · show Int.tmod (rd g (((rd t (d : Int)).toNat : Nat) : Int)) 2 = 0 ↔ _
    rw [← (T d hd).1, hg.turn d hd]
    exact Iff.rfl
  · show Int.tmod (rd g (((rd f (d : Int)).toNat : Nat) : Int)) 2 = 0 ↔ ¬ Int.tmod (rd g (d : Int)) 2 = 0
    have a1 := hpar d hd
    have a2 := par d hd
    have a3 := par _ (F d hd).2
    rw [← (F d hd).1] at a3 ⊢
    omega
  · have := (hp d hd).1
    rw [(st d hd).1, (st _ (st d hd).2).1, (st _ (st _ (st d hd).2).2).1, (st _ (st _ (st _ (st d hd).2).2).2).1] at this
    exact Int.ofNat.inj this
  · have := (hp d hd).2.2.1
    rw [(st d hd).1, (st _ (st d hd).2).1] at this
    exact this (by rw [show (rd t (((rd f (((rd t (((rd f (d : Int)).toNat : Nat) : Int)).toNat : Nat) : Int)).toNat : Nat) : Int)).toNat = d from h])
section
variable {t f g l' : List Int} {n : Nat} {τ φ : Nat → Nat} (Q : Tq t f g l' n τ φ)
include Q
theorem Tq.half : 2 * nmE g n = n := by
  have e0 := Qn g n
  have nd : ((List.range n).filter fun d => decide (evn g d)).Nodup := List.nodup_range.filter _
  have nu : ((List.range n).filter fun d => ! decide (evn g d)).Nodup := List.nodup_range.filter _
  have m1 : ∀ x, x ∈ (List.range n).filter (fun d => decide (evn g d)) ↔ x < n ∧ evn g x := fun x => by rw [List.mem_filter, List.mem_range, decide_eq_true_eq]
  have m2 : ∀ x, x ∈ (List.range n).filter (fun d => ! decide (evn g d)) ↔ x < n ∧ ¬ evn g x := fun x => by
    rw [List.mem_filter, List.mem_range, Bool.not_eq_true', decide_eq_false_iff_not]
  have i1 := nH (((List.range n).filter fun d => decide (evn g d)).map φ) _ (CW nd fun x hx y hy e => by
      rw [← Q.ff x ((m1 x).1 hx).1, e, Q.ff y ((m1 y).1 hy).1]) fun x hx => by
    obtain ⟨y, hy, rfl⟩ := List.mem_map.1 hx
    obtain ⟨h1, h2⟩ := (m1 y).1 hy
    exact (m2 _).2 ⟨(Q.f1 y h1).2, fun z => (Q.ef y h1).1 z h2⟩
  have i2 := nH (((List.range n).filter fun d => ! decide (evn g d)).map φ) _ (CW nu fun x hx y hy e => by
      rw [← Q.ff x ((m2 x).1 hx).1, e, Q.ff y ((m2 y).1 hy).1]) fun x hx => by
    obtain ⟨y, hy, rfl⟩ := List.mem_map.1 hx
    obtain ⟨h1, h2⟩ := (m2 y).1 hy
    exact (m1 _).2 ⟨(Q.f1 y h1).2, (Q.ef y h1).2 h2⟩
  rw [List.length_map] at i1 i2
  have := Z2 (List.range n) fun d => decide (evn g d)
  rw [List.length_range] at this
  omega
variable (H : fI t f n) (hl : ∀ z : Nat, z < n → rd l' (z : Int) = ((nmE g z : Nat) : Int))
include H hl
theorem Tq.vals {d : Nat} (hd : d < n) (e : evn g d) : rd (tmA g t l' n) ((nmE g d : Nat) : Int) = ((nmE g (τ d) : Nat) : Int) ∧ rd (tmB g t (aZ f t n) (eN t n n) l' n) ((nmE g d : Nat) : Int) = ((nmE g (φ (τ (φ (τ d)))) : Nat) : Int) := by
  obtain ⟨hn, h1, ht, hti, hf, hfl, hcon⟩ := id H
  have a1 := (Q.t1 d hd).2
  have a2 := (Q.f1 _ a1).2
  have a3 := (Q.t1 _ a2).2
  have a4 := (Q.f1 _ a3).2
  have a5 := (Q.t1 _ a4).2
  refine ⟨by rw [GR g t l' n d hd e, (Q.t1 d hd).1, hl _ a1], ?_⟩
  rw [HD g t _ _ l' n d hd e]
  unfold tmF
  rw [(Q.t1 d hd).1, jV f t n _ a1, (Q.f1 _ a1).1, (Q.t1 _ a2).1, jV f t n _ a3, (Q.f1 _ a3).1, zU t n ht hti n (Nat.le_refl _) _ a4, hl _ a4]
theorem Tq.O6 : fI (tmA g t l' n) (tmB g t (aZ f t n) (eN t n n) l' n) (nmE g n) := by
  obtain ⟨hn, h1, ht, hti, hf, hfl, hcon⟩ := id H
  have hh := Q.half
  have V := fun (d : Nat) (hd : d < n) (e : evn g d) => Q.vals H hl hd e
  have XP : ∀ d, d < n → evn g d → φ (τ (φ (τ d))) < n ∧ evn g (φ (τ (φ (τ d)))) := fun d hd e => by
    have a1 := (Q.t1 d hd).2
    have a2 := (Q.f1 _ a1).2
    have a3 := (Q.t1 _ a2).2
    have a4 := (Q.f1 _ a3).2
    refine ⟨a4, (Q.ef _ a3).2 fun z => ?_⟩
    exact (Q.ef _ a1).1 ((Q.et _ a2).1 z) ((Q.et d hd).2 e)
  have four' : ∀ d, d < n → φ (τ (φ (τ (φ (τ (φ (τ d))))))) = d := fun d hd => by
    have a1 := (Q.t1 d hd).2
    have := Q.four _ a1
    have b1 := (Q.f1 _ a1).2
    have b2 := (Q.t1 _ b1).2
    have b3 := (Q.f1 _ b2).2
    have b4 := (Q.t1 _ b3).2
    have b5 := (Q.f1 _ b4).2
    have b6 := (Q.t1 _ b5).2
    have b7 := (Q.f1 _ b6).2
    exact Q.ti _ _ b7 hd this
  refine ⟨by omega, by omega, ⟨zT g t l' n, fun i hi => ?_⟩, fun i j hi hj e => ?_, ⟨zy g t _ _ l' n, fun i hi => ?_⟩, fun i hi => ?_, fun i j hi hj S hS => ?_⟩
  · obtain ⟨d, d1, d2, rfl⟩ := qP g n i hi
    have a1 := (Q.t1 d d1).2
    have := qQ ((Q.et d d1).2 d2) a1
    rw [(V d d1 d2).1]
    omega
  · obtain ⟨d, d1, d2, rfl⟩ := qP g n i hi
    obtain ⟨c, c1, c2, rfl⟩ := qP g n j hj
    rw [(V d d1 d2).1, (V c c1 c2).1] at e
    have := Hs ((Q.et d d1).2 d2) ((Q.et c c1).2 c2) (by omega)
    rw [Q.ti d c d1 c1 this]
  · obtain ⟨d, d1, d2, rfl⟩ := qP g n i hi
    obtain ⟨e1, e2⟩ := XP d d1 d2
    have := qQ e2 e1
    rw [(V d d1 d2).2]
    omega
  · obtain ⟨d, d1, d2, rfl⟩ := qP g n i hi
    obtain ⟨e1, e2⟩ := XP d d1 d2
    refine ⟨?_, ?_⟩
    · rw [(V d d1 d2).2]
      intro z
      have z := Hs e2 d2 (by omega)
      have a1 := (Q.t1 d d1).2
      have := Q.two _ a1
      rw [z] at this
      exact this rfl
    · rw [(V d d1 d2).2, (V _ e1 e2).2, four' d d1]
  · obtain ⟨d, d1, d2, rfl⟩ := qP g n i hi
    obtain ⟨c, c1, c2, rfl⟩ := qP g n j hj
    have sT : ∀ x, x < n → evn g x → (S (nmE g x) ↔ S (nmE g (τ x))) := fun x hx e => by
      have := hS _ (List.mem_cons_self ..) (nmE g x) (qQ e hx)
      rwa [(V x hx e).1, Int.toNat_natCast] at this
    have sF : ∀ x, x < n → evn g x → (S (nmE g x) ↔ S (nmE g (φ (τ (φ (τ x)))))) := fun x hx e => by
      have := hS _ (List.mem_cons_of_mem _ (List.mem_singleton.2 rfl)) (nmE g x) (qQ e hx)
      rwa [(V x hx e).2, Int.toNat_natCast] at this
    have key := hcon d c d1 c1 (fun x => (evn g x → S (nmE g x)) ∧ (¬ evn g x → S (nmE g (φ x)))) fun p hp k hk => by
      rcases List.mem_cons.1 hp with hp | hp
      · rw [hp, (Q.t1 k hk).1, Int.toNat_natCast]
        have a1 := (Q.t1 k hk).2
        have b1 := (Q.f1 k hk).2
        by_cases e : evn g k
        · have e' := (Q.et k hk).2 e
          constructor
          · exact fun h => ⟨fun _ => (sT k hk e).1 (h.1 e), fun z => absurd e' z⟩
          · exact fun h => ⟨fun _ => (sT k hk e).2 (h.1 e'), fun z => absurd e z⟩
        · have e' : ¬ evn g (τ k) := fun z => e ((Q.et k hk).1 z)
          -- an odd dart: k = φ x, and the name of φ (τ (φ x))
          have ex : evn g (φ k) := (Q.ef k hk).2 e
          have ey : evn g (φ (τ k)) := (Q.ef _ a1).2 e'
          -- w = τ⁻¹ (φ k)
          obtain ⟨m, _, m2⟩ := xR t n ht hti (φ k : Nat) (by omega)
          have mi := nD t n ht m ((φ k : Nat) : Int) (by omega)
          rw [nI] at m2
          have m2 : rd t (itr t m ((φ k : Nat) : Int)) = ((φ k : Nat) : Int) := m2
          generalize hw : (itr t m ((φ k : Nat) : Int)).toNat = w
          have wn : w < n := by omega
          have ew : ((w : Nat) : Int) = itr t m ((φ k : Nat) : Int) := by omega
          rw [← ew, (Q.t1 w wn).1] at m2
          have tw : τ w = φ k := Int.ofNat.inj m2
          have ow : evn g w := (Q.et w wn).1 (tw ▸ ex)
          have s1 := sT w wn ow
          have s2 := sF w wn ow
          rw [tw, Q.ff k hk] at s2
          rw [tw] at s1
          constructor
          · exact fun h => ⟨fun z => absurd z e', fun _ => s2.1 (s1.2 (h.2 e))⟩
          · exact fun h => ⟨fun z => absurd z e, fun _ => s1.1 (s2.2 (h.2 e'))⟩
      · rw [List.mem_singleton.1 hp, (Q.f1 k hk).1, Int.toNat_natCast]
        by_cases e : evn g k
        · have e' : ¬ evn g (φ k) := fun z => (Q.ef k hk).1 z e
          constructor
          · exact fun h => ⟨fun z => absurd z e', fun _ => by rw [Q.ff k hk]; exact h.1 e⟩
          · exact fun h => ⟨fun _ => by have := h.2 e'; rwa [Q.ff k hk] at this, fun z => absurd e z⟩
        · have e' := (Q.ef k hk).2 e
          exact ⟨fun h => ⟨fun _ => h.2 e, fun z => absurd e' z⟩, fun h => ⟨fun z => absurd z e, fun _ => h.1 e'⟩⟩
    constructor
    · exact fun h => (key.1 ⟨fun _ => h, fun z => absurd d2 z⟩).1 c2
    · exact fun h => (key.2 ⟨fun _ => h, fun z => absurd c2 z⟩).1 d2
theorem Tq.iso : ∃ s, Iso n s (tqT (tmA g t l' n) (eN (aZ (tmB g t (aZ f t n) (eN t n n) l' n) (tmA g t l' n) (nmE g n)) (nmE g n) (nmE g n)) (nmE g n)) (tqF (nmE g n)) t f := by
  classical
  have K := Q.O6 H hl
  have hh := Q.half
  obtain ⟨hn, h1, ht, hti, hf, hfl, hcon⟩ := id H
  have QO := PF _ _ _ K (by omega)
  obtain ⟨_, _, hb, b1, _⟩ := QO
  generalize hB : eN (aZ (tmB g t (aZ f t n) (eN t n n) l' n) (tmA g t l' n) (nmE g n)) (nmE g n) (nmE g n) = B at *
  have V := fun (d : Nat) (hd : d < n) (e : evn g d) => Q.vals H hl hd e
  -- the third list at the name of an even dart
  have W : ∀ d, d < n → evn g d → φ (τ (φ d)) < n ∧ evn g (φ (τ (φ d))) ∧ rd B ((nmE g d : Nat) : Int) = ((nmE g (φ (τ (φ d))) : Nat) : Int) := fun d hd e => by
    have a1 := (Q.f1 d hd).2
    have a2 := (Q.t1 _ a1).2
    have a3 := (Q.f1 _ a2).2
    have ex : evn g (φ (τ (φ d))) := (Q.ef _ a2).2 fun z => (Q.ef d hd).1 ((Q.et _ a1).1 z) e
    have c1 := (Q.t1 _ a3).2
    have c2 := (Q.f1 _ c1).2
    have c3 := (Q.t1 _ c2).2
    have c4 := (Q.f1 _ c3).2
    have e4 : evn g (φ (τ (φ (τ (φ (τ (φ d))))))) := (Q.ef _ c3).2 fun z => (Q.ef _ c1).1 ((Q.et _ c2).1 z) ((Q.et _ a3).2 ex)
    have := b1 (nmE g (φ (τ (φ d)))) (qQ ex a3)
    rw [(V _ a3 ex).2, (V _ c4 e4).1, Q.four d hd] at this
    exact ⟨a3, ex, this⟩
  have ch : ∀ k, ∃ d, k < nmE g n → d < n ∧ evn g d ∧ nmE g d = k := fun k => by
    by_cases h : k < nmE g n
    · obtain ⟨d, d1⟩ := qP g n k h
      exact ⟨d, fun _ => d1⟩
    · exact ⟨0, fun z => absurd z h⟩
  obtain ⟨ev, hev⟩ : ∃ ev : Nat → Nat, ∀ k, k < nmE g n → ev k < n ∧ evn g (ev k) ∧ nmE g (ev k) = k := ⟨fun k => Classical.choose (ch k), fun k => Classical.choose_spec (ch k)⟩
  have back : ∀ d, d < n → evn g d → ev (nmE g d) = d := fun d hd e => by
    obtain ⟨q1, q2, q3⟩ := hev (nmE g d) (qQ e hd)
    exact Hs q2 e q3
  let s : Nat → Nat := fun x => if x % 2 = 0 then ev (x / 2) else φ (ev (x / 2))
  have se : ∀ k, s (2 * k) = ev k := fun k => by
    show (if (2 * k) % 2 = 0 then ev (2 * k / 2) else φ (ev (2 * k / 2))) = ev k
    rw [if_pos (by omega), show 2 * k / 2 = k by omega]
  have so : ∀ k, s (2 * k + 1) = φ (ev k) := fun k => by
    show (if (2 * k + 1) % 2 = 0 then ev ((2 * k + 1) / 2) else φ (ev ((2 * k + 1) / 2))) = φ (ev k)
    rw [if_neg (by omega), show (2 * k + 1) / 2 = k by omega]
  have hx : ∀ x, x < n → ∃ k, k < nmE g n ∧ (x = 2 * k ∨ x = 2 * k + 1) := fun x hx => ⟨x / 2, by omega, by omega⟩
  refine ⟨s, fun x hxn => ?_, fun x y hxn hyn e => ?_, fun x hxn => ?_, fun x hxn => ?_⟩
  · obtain ⟨k, hk, rfl | rfl⟩ := hx x hxn
    · rw [se]; exact (hev k hk).1
    · rw [so]; exact (Q.f1 _ (hev k hk).1).2
  · obtain ⟨k, hk, rfl | rfl⟩ := hx x hxn <;> obtain ⟨m, hm, rfl | rfl⟩ := hx y hyn
    · rw [se, se] at e
      have a1 := (hev k hk).2.2
      have a2 := (hev m hm).2.2
      rw [e] at a1
      omega
    · rw [se, so] at e
      have a1 := (hev k hk).2.1
      rw [e] at a1
      exact absurd (hev m hm).2.1 ((Q.ef _ (hev m hm).1).1 a1)
    · rw [se, so] at e
      have a1 := (hev m hm).2.1
      rw [← e] at a1
      exact absurd (hev k hk).2.1 ((Q.ef _ (hev k hk).1).1 a1)
    · rw [so, so] at e
      have e2 : ev k = ev m := by rw [← Q.ff _ (hev k hk).1, e, Q.ff _ (hev m hm).1]
      have a1 := (hev k hk).2.2
      have a2 := (hev m hm).2.2
      rw [e2] at a1
      omega
  · obtain ⟨k, hk, rfl | rfl⟩ := hx x hxn
    · obtain ⟨q1, q2, q3⟩ := hev k hk
      have v := (V _ q1 q2).1
      rw [q3] at v
      rw [(Ac _ B _ k hk).1, v, se, (Q.t1 _ q1).1, show (2 * ((nmE g (τ (ev k)) : Nat) : Int)).toNat = 2 * nmE g (τ (ev k)) by omega, se, back _ (Q.t1 _ q1).2 ((Q.et _ q1).2 q2)]
    · obtain ⟨q1, q2, q3⟩ := hev k hk
      obtain ⟨w1, w2, w3⟩ := W _ q1 q2
      rw [q3] at w3
      have f1 := Q.f1 _ q1
      have t1 := Q.t1 _ f1.2
      rw [(Ac _ B _ k hk).2, w3, so, t1.1, show (2 * ((nmE g (φ (τ (φ (ev k)))) : Nat) : Int) + 1).toNat = 2 * nmE g (φ (τ (φ (ev k)))) + 1 by omega, so, back _ w1 w2, Q.ff _ t1.2]
  · obtain ⟨k, hk, rfl | rfl⟩ := hx x hxn
    · obtain ⟨q1, q2, q3⟩ := hev k hk
      rw [(pG _ k hk).1, se, Int.toNat_natCast, so, (Q.f1 _ q1).1]
    · obtain ⟨q1, q2, q3⟩ := hev k hk
      rw [(pG _ k hk).2, so, Int.toNat_natCast, se, (Q.f1 _ (Q.f1 _ q1).2).1, Q.ff _ q1]
end
theorem aav (n : Nat) (s : Nat → Nat) (p q : List Int) (hp : inR n p) (ip : da n p) (hq : inR n q) (iq : da n q) (h1 : ∀ x, x < n → s x < n) (h2 : ∀ x y, x < n → y < n → s x = s y → x = y) (h3 : ∀ x, x < n → rd q ((s x : Nat) : Int) = (s (rd p (x : Int)).toNat : Int)) :
    (cyS p n n).2.length = (cyS q n n).2.length := by
  classical
  have kp := r7 p n hp ip
  have kq := r7 q n hq iq
  have pn : ∀ x : Nat, x < n → (rd p (x : Int)).toNat < n := fun x hx => by have := hp.2 x hx; omega
  have surj : ∀ z, z < n → ∃ x, x < n ∧ s x = z := fun z hz => by
    by_cases h : ∃ x, x < n ∧ s x = z
    · exact h
    · exfalso
      have := nH (z :: (List.range n).map s) (List.range n) (List.nodup_cons.2 ⟨fun hm => by
          obtain ⟨x, hx, e⟩ := List.mem_map.1 hm
          exact h ⟨x, List.mem_range.1 hx, e⟩, CW List.nodup_range fun x hx y hy e => h2 x y (List.mem_range.1 hx) (List.mem_range.1 hy) e⟩) fun x hx => by
        rcases List.mem_cons.1 hx with rfl | hx
        · exact List.mem_range.2 hz
        · obtain ⟨y, hy, rfl⟩ := List.mem_map.1 hx
          exact List.mem_range.2 (h1 y (List.mem_range.1 hy))
      simp at this
      omega
  have fwd : ∀ x y, Reach [p] n x y → Reach [q] n (s x) (s y) := fun x y h S hS => by
    refine h (fun z => S (s z)) fun r hr k hk => ?_
    rw [List.mem_singleton.1 hr]
    have := hS q (by simp) (s k) (h1 k hk)
    rwa [h3 k hk, Int.toNat_natCast] at this
  have bwd : ∀ x y, x < n → y < n → Reach [q] n (s x) (s y) → Reach [p] n x y := fun x y hx hy h S hS => by
    have c := mP q n hq iq (fun z => ∃ w, w < n ∧ s w = z ∧ S w) fun k hk ⟨w, w1, w2, w3⟩ => by
      refine ⟨(rd p (w : Int)).toNat, pn w w1, ?_, (hS p (by simp) w w1).1 w3⟩
      rw [← w2, h3 w w1, Int.toNat_natCast]
    have c' := mP q n hq iq (fun z => ∃ w, w < n ∧ s w = z ∧ ¬ S w) fun k hk ⟨w, w1, w2, w3⟩ => by
      refine ⟨(rd p (w : Int)).toNat, pn w w1, ?_, fun z => w3 ((hS p (by simp) w w1).2 z)⟩
      rw [← w2, h3 w w1, Int.toNat_natCast]
    constructor
    · intro hs
      obtain ⟨w, w1, w2, w3⟩ := (h _ c).1 ⟨x, hx, rfl, hs⟩
      rwa [h2 w y w1 hy w2] at w3
    · intro hs
      obtain ⟨w, w1, w2, w3⟩ := (h.symm _ c).1 ⟨y, hy, rfl, hs⟩
      rwa [h2 w x w1 hx w2] at w3
  have eqv : ∀ r : List Int, (∀ x, Reach [r] n x x) ∧ (∀ x y, Reach [r] n x y → Reach [r] n y x) ∧ ∀ x y z, Reach [r] n x y → Reach [r] n y z → Reach [r] n x z := fun r => ⟨fun x => Reach.refl _ _ x, fun _ _ h => h.symm, fun _ _ _ h h' => h.trans h'⟩
  have l1 : (cyS p n n).2.length ≤ (cyS q n n).2.length := by
    have ch : ∀ x, ∃ y, y ≤ s x ∧ lst (Reach [q] n) y ∧ Reach [q] n y (s x) := fun x => vn _ (eqv q).1 (eqv q).2.1 (eqv q).2.2 (s x)
    refine kp.le kq (fun x => Classical.choose (ch x)) (fun x hx _ => ?_) (fun x y hx px hy py e => ?_)
    · obtain ⟨a, b, c⟩ := Classical.choose_spec (ch x)
      have := h1 x hx
      exact ⟨by omega, b⟩
    · obtain ⟨_, _, c⟩ := Classical.choose_spec (ch x)
      obtain ⟨_, _, c'⟩ := Classical.choose_spec (ch y)
      have e : Classical.choose (ch x) = Classical.choose (ch y) := e
      rw [e] at c
      exact zL _ (eqv p).2.1 x y px py (bwd x y hx hy (c.symm.trans c'))
  have l2 : (cyS q n n).2.length ≤ (cyS p n n).2.length := by
    have ch : ∀ z, ∃ y, z < n → (y < n ∧ lst (Reach [p] n) y ∧ Reach [q] n (s y) z) := fun z => by
      by_cases hz : z < n
      · obtain ⟨x, x1, x2⟩ := surj z hz
        obtain ⟨y, y1, y2, y3⟩ := vn _ (eqv p).1 (eqv p).2.1 (eqv p).2.2 x
        exact ⟨y, fun _ => ⟨by omega, y2, x2 ▸ fwd y x y3⟩⟩
      · exact ⟨0, fun h => absurd h hz⟩
    refine kq.le kp (fun x => Classical.choose (ch x)) (fun x hx _ => ?_) (fun x y hx px hy py e => ?_)
    · obtain ⟨a, b, _⟩ := Classical.choose_spec (ch x) hx
      exact ⟨a, b⟩
    · obtain ⟨_, _, c⟩ := Classical.choose_spec (ch x) hx
      obtain ⟨_, _, c'⟩ := Classical.choose_spec (ch y) hy
      have e : Classical.choose (ch x) = Classical.choose (ch y) := e
      rw [e] at c
      exact zL _ (eqv q).2.1 x y px py (c.symm.trans c')
  omega
end Go.Proofs.Ytlpbalebodlipaa.PL

namespace Go.Proofs.Ytlpbalebodlipaa.PL
open Go.RowKit Go.Proofs.YtlpbalebodlipaaW.PrintWords Go.Proofs.YtlpbalebodlipaaW.PrintLast Go.Proofs.YtlpbalebodlipaaW.PrintMore
attribute [local go_sem] nV nQ nE ny nA nG nO nR   -- for this text's walks alone
set_option linter.unusedVariables false
set_option linter.unusedSimpArgs false
def YT.T3 : Bool × List (List Nat × List Nat) := (true, [([], []), ([], []), ([], []), ([2], [2]), ([3], [3]), ([1, 4], [1, 4]), ([0, 5, 0], [0]), ([5, 6, 0, 1, 2, 3, 4, 5, 6], [5])])
def YT.B3 : List Nat := [0, 0, 0, 4, 12, 30, 63, 127]
end Go.Proofs.Ytlpbalebodlipaa.PL

set_option linter.unusedVariables false
set_option linter.unusedSimpArgs false
namespace Go.Proofs.Ytlpbalebodlipaa.PL
open Go.RowKit Go.Proofs.YtlpbalebodlipaaW.PrintWords Go.Proofs.YtlpbalebodlipaaW.PrintLast Go.Proofs.YtlpbalebodlipaaW.PrintMore
section
variable (t f : List Int) (n : Nat) (H : fI t f n) (hm : isMap t f)
include H hm
theorem CE : Ev (fun k => dN.f k t f) true := by
  obtain ⟨hn, h1, ht, hti, hf, hfl, hcon⟩ := id H
  have l1 := ht.1
  have l2 := hf.1
  obtain ⟨b, _, b2, b3⟩ := sc t f (by omega) (by omega)
  have hb : b = true := b3.2 hm
  subst hb
  exact b2
theorem YF : Ev (fun k => mj.f k t f) ([((cyS t n n).2.length : Int), wrap64 ((f.length : Int) / 2), ((cyS (aZ f t n) n n).2.length : Int)], true) := by
  obtain ⟨hn, h1, ht, hti, hf, hfl, hcon⟩ := id H
  unfold mj.f
  refine Ev.bind (CE t f n H hm) ?_
  simp only [if_true]
  refine Ev.bind (qY t n (by omega) ht) ?_
  refine Ev.bind (oI n (by omega) f t hf ht) ?_
  refine Ev.bind (qY (aZ f t n) n (by omega) (lp n f t hf ht)) ?_
  exact Ev.const rfl
theorem XW : Ev (fun k => vv.f k t f) (wrap64 (Int.tdiv (wrap64 ((wrap64 ((wrap64 (2 - ((cyS t n n).2.length : Int))) + (wrap64 ((f.length : Int) / 2)))) - ((cyS (aZ f t n) n n).2.length : Int))) 2)) := by
  obtain ⟨hn, h1, ht, hti, hf, hfl, hcon⟩ := id H
  unfold vv.f
  refine Ev.bind (CE t f n H hm) ?_
  simp only [if_true]
  refine Ev.bind (a := wrap64 (Int.tdiv (wrap64 ((wrap64 ((wrap64 (2 - ((cyS t n n).2.length : Int))) + (wrap64 ((f.length : Int) / 2)))) - ((cyS (aZ f t n) n n).2.length : Int))) 2)) ?_ (Ev.const rfl)
  unfold kj.f
  refine Ev.bind (qY t n (by omega) ht) ?_
  refine Ev.bind (oI n (by omega) f t hf ht) ?_
  refine Ev.bind (qY (aZ f t n) n (by omega) (lp n f t hf ht)) ?_
  exact Ev.const rfl
end
theorem ZI (t f : List Int) (n : Nat) (H : fI t f n) (hm : isMap t f) (h6 : n ≤ 6) : Ev (fun k => jT.f k t f) (tqT t (eN (aZ f t n) n n) n, tqF n, true) := by
  obtain ⟨hn, h1, ht, hti, hf, hfl, hcon⟩ := id H
  have l1 := ht.1
  have hm2 := lp n f t hf ht
  have hb := tQ (aZ f t n) n
  unfold jT.f
  refine Ev.bind (CE t f n H hm) ?_
  simp only [if_true, l1, decide_eq_false (show ¬ (n : Int) > 6 by omega)]
  refine Ev.s ?_
  simp only [jT.j0, Bool.false_eq_true, if_false]
  refine Ev.bind (oI n (by omega) f t hf ht) ?_
  refine Ev.bind (CL n (by omega) _ hm2) ?_
  have e1 : wrap64 (2 * (n : Int)) = 2 * (n : Int) := w64 (by omega) (by omega)
  have n1 : (2 * (n : Int)).toNat = 2 * n := by omega
  have g1 : (0 : Int) ≤ 2 * (n : Int) := by omega
  have g2 : 2 * n ≤ 35184372088832 := by omega
  simp only [l1, e1, n1, g1, g2, if_true]
  exact Ib n (by omega) t f _ ht hb n 0 (List.replicate (2 * n) 0) (List.replicate (2 * n) 0) (by omega) (by omega) (by simp) (by simp) rfl rfl
def GZ (t f : List Int) (n : Nat) : Prop := n ≤ 12 ∧ 1 ≤ n ∧ inR n t ∧ da n t ∧ inR n f ∧ (∀ i : Nat, i < n → jw f i) ∧ ∀ i j : Nat, i < n → j < n → Reach [t, f] n i j
def faces (t f : List Int) (n : Nat) : List Int := (List.range n).map fun (d : Nat) => rd t (rd f (d : Int))
theorem OH (l : List Int) (n : Nat) (h1 : 1 ≤ n) (h12 : n ≤ 12) (hl : inR n l) (hi : da n l) : qg l := by
  refine ⟨by rw [hl.1]; exact h1, by rw [hl.1]; exact h12, fun i hi' => ?_⟩
  rw [hl.1] at hi'
  have := hl.2 i hi'
  refine ⟨this.1, by rw [hl.1]; exact this.2, fun k hk e => ?_⟩
  have := hi k i (by omega) hi' e
  omega
theorem aam (f : List Int) (n : Nat) (hf : inR n f) (hfl : ∀ i : Nat, i < n → jw f i) : da n f := by
  intro i j hi hj e
  have h1 := (hfl i hi).2
  rw [e, (hfl j hj).2] at h1
  omega
theorem HX {t f : List Int} {n : Nat} (H : GZ t f n) : isMap t f := by
  obtain ⟨hn, h1, ht, hti, hf, hfl, hcon⟩ := H
  refine ⟨OH t n h1 hn ht hti, OH f n h1 hn hf (aam f n hf hfl), by rw [ht.1, hf.1], ?_, ?_⟩
  · rw [hf.1]; exact hfl
  · rw [hf.1]; exact hcon
theorem surj (t : List Int) (n : Nat) (ht : inR n t) (hti : da n t) (i : Nat) (hi : i < n) : ∃ j : Nat, j < n ∧ rd t j = i := by
  obtain ⟨k, _, h2⟩ := xR t n ht hti i (by omega)
  have hin := nD t n ht k i (by omega)
  refine ⟨(itr t k i).toNat, by omega, ?_⟩
  rw [show (((itr t k i).toNat : Nat) : Int) = itr t k i by omega]
  have := nI t k 1 (i : Int)
  rw [h2] at this
  exact this.symm
theorem ZG (V E F : Int) (h1 : 0 ≤ V ∧ V ≤ 100) (h2 : 0 ≤ E ∧ E ≤ 100) (h3 : 0 ≤ F ∧ F ≤ 100) (h : 2 - V + E - F = 0) : wrap64 (Int.tdiv (wrap64 ((wrap64 ((wrap64 (2 - V)) + (wrap64 E))) - F)) 2) = 0 := by
  rw [w64 (x := 2 - V) (by omega) (by omega), w64 (x := E) (by omega) (by omega), w64 (x := 2 - V + E) (by omega) (by omega), w64 (x := 2 - V + E - F) (by omega) (by omega), h, show Int.tdiv 0 2 = 0 by decide, w64 (by omega) (by omega)]
theorem YO (t f : List Int) (n : Nat) (H : fI t f n) (h4 : ∀ l ∈ (cyS (aZ f t n) n n).2, l.length = 4) : 4 * (cyS (aZ f t n) n n).2.length = n := by
  obtain ⟨hn, h1, ht, hti, hf, hfl, hcon⟩ := id H
  have pin := lp n f t hf ht
  have inj : da n (aZ f t n) := fun i j hi hj e => by
    rw [jV f t n i hi, jV f t n j hj] at e
    have ri := hf.2 i hi
    have rj := hf.2 j hj
    have e2 : (rd f (i : Int)).toNat = (rd f (j : Int)).toNat := hti _ _ (by omega) (by omega) (by rw [show (((rd f (i : Int)).toNat : Nat) : Int) = rd f (i : Int) by omega, show (((rd f (j : Int)).toNat : Nat) : Int) = rd f (j : Int) by omega]; exact e)
    have e3 : rd f (i : Int) = rd f (j : Int) := by omega
    have f1 := (hfl i hi).2
    have f2 := (hfl j hj).2
    rw [e3, f2] at f1
    omega
  obtain ⟨_, hp⟩ := H8 _ n pin inj h4
  exact (ZW _ n pin inj (fun x hx => (hp x hx).1) (fun x hx => (hp x hx).2.2.1)).2
theorem Y7 (t f : List Int) (n : Nat) (H : fI t f n) (hm : isMap t f) (h4 : ∀ l ∈ (cyS (aZ f t n) n n).2, l.length = 4) (a : Nat) (g : List Int) (hg : hJ t f n a g) (hpar : ∀ x : Nat, x < n → ¬ Int.tmod (rd g (x : Int)) 2 = Int.tmod (rd g (rd f (x : Int))) 2)
    (l' : List Int) (hl : ∀ z : Nat, z < n → rd l' (z : Int) = ((nmE g z : Nat) : Int)) (T F : List Int) (eT : T = tmA g t l' n) (eF : F = tmB g t (aZ f t n) (eN t n n) l' n) :
    ∃ N, 2 * N = n ∧ fI T F N ∧ isMap T F ∧ Ev (fun k => jT.f k T F) (tqT T (eN (aZ F T N) N N) N, tqF N, true) ∧
      Ev (fun k => tN.f k (tqT T (eN (aZ F T N) N N) N) (tqF N) t f) true ∧ (cyS t n n).2.length = (cyS T N N).2.length + (cyS (aZ F T N) N N).2.length ∧ (cyS T N N).2.length ≤ N ∧ (cyS (aZ F T N) N N).2.length ≤ N ∧ F.length = N ∧ N ≤ 6 := by
  subst eT eF
  have Q := YE t f g l' n H h4 a hg hpar
  have K := Q.O6 H hl
  have hh := Q.half
  obtain ⟨s, I⟩ := Q.iso H hl
  obtain ⟨hn, h1, ht, hti, hf, hfl, hcon⟩ := id H
  have hmT := HX (show GZ _ _ _ from K)
  have QO := PF _ _ _ K (by omega)
  have O := Sj _ _ _ _ QO
  have cnt := XZ _ _ _ _ QO
  generalize hN : nmE g n = N at *
  generalize hT : tmA g t l' n = T at *
  generalize hF : tmB g t (aZ f t n) (eN t n n) l' n = F at *
  rw [hh] at O cnt
  have hmX := HX (show GZ _ _ _ from O)
  obtain ⟨_, _, oT, oTi, _⟩ := id O
  have e1 := aav n s _ t oT oTi ht hti I.1 I.2.1 I.2.2.1
  refine ⟨N, hh, K, hmT, ZI T F N K hmT (by omega), Yq n s _ _ t f hmX hm O H I, by rw [← e1]; exact cnt, qd _ _ _, qd _ _ _, ?_, by omega⟩
  exact K.2.2.2.2.1.1
theorem ZJ (a b : Int) (ha : 0 ≤ a) (hb : 0 ≤ b) (ha' : a < 9223372036854775808) (hb' : b < 9223372036854775808) : 0 ≤ Go.bits .xor .i64 a b := by
  obtain ⟨n, rfl⟩ := Int.eq_ofNat_of_zero_le ha
  obtain ⟨m, rfl⟩ := Int.eq_ofNat_of_zero_le hb
  have hn : n % 2 ^ 64 = n := Nat.mod_eq_of_lt (by omega)
  have hm : m % 2 ^ 64 = m := Nat.mod_eq_of_lt (by omega)
  have hx : n ^^^ m < 2 ^ 63 := Nat.xor_lt_two_pow (by omega) (by omega)
  have e : Go.bits .xor .i64 (n : Int) (m : Int) = IntKind.i64.wrap ((n ^^^ m : Nat) : Int) := by
    simp only [Go.bits, BitVec.ofInt_natCast]
    show IntKind.i64.wrap (((BitVec.ofNat 64 n ^^^ BitVec.ofNat 64 m).toNat : Nat) : Int) = _
    rw [BitVec.toNat_xor, BitVec.toNat_ofNat, BitVec.toNat_ofNat, hn, hm]
  rw [e, IntKind.wrap_i64]
  omega
def mY (l : List Int) : Prop := l.length ≤ 2000 ∧ ∀ x ∈ l, 0 ≤ x ∧ x ≤ 255
theorem HF (l : List Int) (h : mY l) (i : Int) : 0 ≤ rd l i ∧ rd l i ≤ 255 := by
  unfold rd
  by_cases hi : i.toNat < l.length
  · rw [List.getD_eq_getElem?_getD, List.getElem?_eq_getElem hi]
    exact h.2 _ (List.getElem_mem hi)
  · rw [List.getD_eq_getElem?_getD, List.getElem?_eq_none (by omega)]
    decide
theorem qe (l : List Int) (h : mY l) (p : Int) (hp : 0 ≤ p) (hp' : p ≤ 1000000) (n : Int) (hn : 1 ≤ n) (hn' : n ≤ 1000000) : ∃ v, Ev (fun k => ee.f k l p n) (v, p + 1) ∧ 0 ≤ v ∧ v < n := by
  have w0 : wrap64 (p + 1) = p + 1 := w64 (by omega) (by omega)
  have w1 : wrap64 (p + 1 - 1) = p := by rw [w64 (by omega) (by omega)]; omega
  have hl := h.1
  unfold ee.f
  simp only [show ¬ n < 1 by omega, if_false, w0]
  by_cases hz : l.length = 0
  · refine ⟨0, Ev.s ?_, by omega, by omega⟩
    have : (((l.length : Int)) == 0) = true := by simp [hz]
    simp only [this, ee.j0, if_true]
    exact Ev.const rfl
  · have hb : (((l.length : Int)) == 0) = false := by rw [beq_eq_false_iff_ne]; omega
    have hn0 : ¬ n = 0 := by omega
    by_cases hlt : p < (l.length : Int)
    · have hr := HF l h p
      have wr : wrap64 (rd l p) = rd l p := w64 (by omega) (by omega)
      refine ⟨Int.tmod (rd l p) n, Ev.s ?_, Int.tmod_nonneg _ (by omega), Int.tmod_lt_of_pos _ (by omega)⟩
      simp only [hb, ee.j0, w1, hlt, hp, hn0, wr, Bool.false_eq_true, if_true, if_false]
      exact Ev.const rfl
    · have hl0 : ¬ (l.length : Int) = 0 := by omega
      have wk : wrap64 (p * 7) = p * 7 := w64 (by omega) (by omega)
      have wk3 : wrap64 (p * 7 + 3) = p * 7 + 3 := w64 (by omega) (by omega)
      have t1 := Int.tmod_nonneg (a := p) (l.length : Int) hp
      have t2 := Int.tmod_lt_of_pos p (b := (l.length : Int)) (by omega)
      have t3 := Int.tmod_nonneg (a := p * 7 + 3) (l.length : Int) (by omega)
      have t4 := Int.tmod_lt_of_pos (p * 7 + 3) (b := (l.length : Int)) (by omega)
      have r1 := HF l h (Int.tmod p (l.length : Int))
      have r2 := HF l h (Int.tmod (p * 7 + 3) (l.length : Int))
      have d1 : 0 ≤ Int.tdiv p (l.length : Int) := Int.tdiv_nonneg hp (by omega)
      have d2 : Int.tdiv p (l.length : Int) ≤ p := Int.tdiv_le_self _ hp
      obtain ⟨X, hX, hX0, hX1⟩ : ∃ X, (wrap64 ((wrap64 ((wrap64 ((wrap64 ((wrap64 (rd l (Int.tmod p (l.length : Int)))) * 131)) + (wrap64 ((wrap64 (rd l (Int.tmod (p * 7 + 3) (l.length : Int)))) * 1117)))) + (wrap64 (p * 29)))) + (wrap64 ((wrap64 (Int.tdiv p (l.length : Int))) * 53)))) = X ∧ 0 ≤ X ∧ X < 4611686018427387904 := by
        refine ⟨_, rfl, ?_, ?_⟩
        all_goals
          generalize rd l (Int.tmod p (l.length : Int)) = a at *
          generalize rd l (Int.tmod (p * 7 + 3) (l.length : Int)) = b at *
          generalize Int.tdiv p (l.length : Int) = c at *
          rw [w64 (x := a) (by omega) (by omega), w64 (x := b) (by omega) (by omega), w64 (x := a * 131) (by omega) (by omega), w64 (x := b * 1117) (by omega) (by omega), w64 (x := a * 131 + b * 1117) (by omega) (by omega), w64 (x := p * 29) (by omega) (by omega), w64 (x := a * 131 + b * 1117 + p * 29) (by omega) (by omega), w64 (x := c) (by omega) (by omega), w64 (x := c * 53) (by omega) (by omega), w64 (x := a * 131 + b * 1117 + p * 29 + c * 53) (by omega) (by omega)]
          omega
      have hd : 0 ≤ wrap64 (Int.tdiv X 64) ∧ wrap64 (Int.tdiv X 64) < 9223372036854775808 := by
        have := Int.tdiv_nonneg hX0 (show (0 : Int) ≤ 64 by decide)
        have := Int.tdiv_le_self 64 hX0
        rw [w64 (by omega) (by omega)]
        omega
      have hx := ZJ X (wrap64 (Int.tdiv X 64)) hX0 hd.1 (by omega) hd.2
      refine ⟨Int.tmod (Go.bits .xor .i64 X (wrap64 (Int.tdiv X 64))) n, Ev.s ?_, Int.tmod_nonneg _ hx, Int.tmod_lt_of_pos _ (by omega)⟩
      simp only [hb, ee.j0, w1, hlt, hl0, wk, wk3, t1, t2, t3, t4, hn0, hX, Bool.false_eq_true, if_true, if_false]
      exact Ev.const rfl
theorem ZM (l : List Int) (hb : ∀ x ∈ l, (Lit.int .u8 x).wf = true) : ∃ l', vz.f l = some (l', 0) ∧ mY l' := by
  have hb' : ∀ x ∈ l, 0 ≤ x ∧ x ≤ 255 := by
    intro x hx
    have := hb x hx
    simp only [Lit.wf, IntKind.min, IntKind.max, IntKind.signed, IntKind.bits, Bool.and_eq_true, decide_eq_true_eq, Bool.false_eq_true, if_false] at this
    omega
  unfold vz.f
  by_cases h : (l.length : Int) > 2000
  · refine ⟨l.take 2000, ?_, ?_, fun x hx => hb' x (List.mem_of_mem_take hx)⟩
    · rw [if_pos h, if_pos (by omega)]
    · rw [List.length_take]; omega
  · exact ⟨l, by rw [if_neg h], by omega, hb'⟩
theorem Zf (l : List Int) (h : mY l) (p : Int) (hp : 0 ≤ p) (hp' : p ≤ 1000000) (L : List ByteArray) (h1 : 1 ≤ L.length) (h2 : L.length ≤ 100) : ∃ v : Int, Ev (fun k => vV.f k l p L) (fy ByteArray.empty L v, p + 1) ∧ 0 ≤ v ∧ v < L.length := by
  obtain ⟨v, hv, v0, v1⟩ := qe l h p hp hp' (L.length : Int) (by omega) (by omega)
  refine ⟨v, ?_, v0, v1⟩
  unfold vV.f
  refine Ev.bind hv ?_
  simp only [v0, v1, if_true]
  exact Ev.const rfl
theorem CN (s : ByteArray) (b : UInt8) : (s ++ (⟨#[b]⟩ : ByteArray)).size = s.size + 1 := by
  rw [ByteArray.size_append]; rfl
theorem Ya (l : List Int) (h : mY l) (n up p : Int) (s : ByteArray) (st : List Int) (hn : 1 ≤ n) (hn' : n ≤ 4) (hs : ¬ (s.size : Int) < 2 * n) (hs' : s.size ≤ 8) (h1 : 1 ≤ st.length) (h8 : st.length ≤ 8) (hp : 0 ≤ p) (hp' : p ≤ 10000) :
    ∃ s' st' p', Ev (fun k => dd.l0 k n up l p s st) (s', st', p') ∧ s'.size ≤ 10 ∧ st'.length ≤ 10 ∧ 0 ≤ p' ∧ p' ≤ p + 3 := by
  have w2 : wrap64 (2 * n) = 2 * n := w64 (by omega) (by omega)
  obtain ⟨v, hv, v0, v1⟩ := qe l h p hp (by omega) 40 (by omega) (by omega)
  by_cases c0 : v = 0
  · obtain ⟨q, hq, q0, q1⟩ := Zf l h (p + 1) (by omega) (by omega) ([(⟨#[40]⟩ : ByteArray), (⟨#[41]⟩ : ByteArray), (⟨#[120]⟩ : ByteArray), (⟨#[40, 41]⟩ : ByteArray)] : List ByteArray) (by decide) (by decide)
    have hz : (fy ByteArray.empty ([(⟨#[40]⟩ : ByteArray), (⟨#[41]⟩ : ByteArray), (⟨#[120]⟩ : ByteArray), (⟨#[40, 41]⟩ : ByteArray)] : List ByteArray) q).size ≤ 2 := by
      have hc : q = 0 ∨ q = 1 ∨ q = 2 ∨ q = 3 := by
        have : q < 4 := q1
        omega
      rcases hc with rfl | rfl | rfl | rfl <;> decide
    generalize fy ByteArray.empty ([(⟨#[40]⟩ : ByteArray), (⟨#[41]⟩ : ByteArray), (⟨#[120]⟩ : ByteArray), (⟨#[40, 41]⟩ : ByteArray)] : List ByteArray) q = y at hq hz
    refine ⟨s ++ y, st, p + 1 + 1, Ev.s ?_, ?_, by omega⟩
    · simp only [dd.l0, w2, hs, if_false]
      refine Ev.bind hv ?_
      simp only [c0, if_true]
      refine Ev.bind hq ?_
      simp only [show s.size + y.size ≤ 9223372036854775807 by omega, if_true]
      exact Ev.const rfl
    · rw [ByteArray.size_append]; omega
  · by_cases c1 : v = 1
    · obtain ⟨q, hq, q0, q1⟩ := qe l h (p + 1) (by omega) (by omega) 2 (by omega) (by omega)
      refine ⟨s, st.set (Int.toNat 0) (rd [(-2), 2] q), p + 1 + 1, Ev.s ?_, by omega, by simp; omega⟩
      simp only [dd.l0, w2, hs, if_false]
      refine Ev.bind hv ?_
      simp only [c1, show ¬ ((1 : Int) = 0) by decide, if_false, if_true, Option.bind_some]
      refine Ev.bind hq ?_
      simp only [q0, show q < (([(-2), 2] : List Int).length : Int) from q1, show (0 : Int) < (st.length : Int) by omega, if_true]
      exact Ev.const rfl
    · by_cases c2 : v = 2
      · refine ⟨s, st.drop (Int.toNat 1), p + 1, Ev.s ?_, by omega, by simp; omega⟩
        simp only [dd.l0, w2, hs, if_false]
        refine Ev.bind hv ?_
        simp only [c2, show ¬ ((2 : Int) = 0) by decide, show ¬ ((2 : Int) = 1) by decide, show (1 : Int) ≤ (st.length : Int) by omega, if_false, if_true]
        exact Ev.const rfl
      · refine ⟨s, st, p + 1, Ev.s ?_, by omega, by omega⟩
        simp only [dd.l0, w2, hs, if_false]
        refine Ev.bind hv ?_
        simp only [c0, c1, c2, if_false]
        exact Ev.const rfl
theorem HS (l : List Int) (h : mY l) (n : Int) (hn : 1 ≤ n) (hn' : n ≤ 4) : ∀ (d : Nat) (up p : Int) (s : ByteArray) (st : List Int), 0 ≤ up → up ≤ st.length → (s.size : Int) + up = 2 * st.length → 2 * n - s.size = d → 0 ≤ p → p + 2 * d ≤ 1000 →
    ∃ s' st' p', Ev (fun k => dd.l0 k n up l p s st) (s', st', p') ∧ s'.size ≤ 10 ∧ st'.length ≤ 10 ∧ 0 ≤ p' ∧ p' ≤ p + 2 * (d : Int) + 3
  | 0, up, p, s, st, hu, hu', hs, hd, hp, hp' => by
    obtain ⟨s', st', p', e, z1, z2, z3, z4⟩ := Ya l h n up p s st hn hn' (by omega) (by omega) (by omega) (by omega) hp (by omega)
    exact ⟨s', st', p', e, z1, z2, z3, by omega⟩
  | d + 1, up, p, s, st, hu, hu', hs, hd, hp, hp' => by
    have w2 : wrap64 (2 * n) = 2 * n := w64 (by omega) (by omega)
    have wm : wrap64 (up - 1) = up - 1 := w64 (by omega) (by omega)
    have wp : wrap64 (up + 1) = up + 1 := w64 (by omega) (by omega)
    have hlt : (s.size : Int) < 2 * n := by omega
    have hs1 : s.size + 1 ≤ 9223372036854775807 := by omega
    have hst : st.length < 17592186044416 := by omega
    have down : ∀ p1 : Int, 0 ≤ p1 → p1 ≤ p + 2 → up > 0 → ∃ s' st' p', Ev (fun k => dd.l0 k n (up - 1) l p1 (s ++ (⟨#[41]⟩ : ByteArray)) st) (s', st', p') ∧ s'.size ≤ 10 ∧ st'.length ≤ 10 ∧ 0 ≤ p' ∧ p' ≤ p1 + 2 * (d : Int) + 3 := fun p1 h0 h1 hup =>
      HS l h n hn hn' d (up - 1) p1 _ st (by omega) (by omega) (by rw [CN]; omega) (by rw [CN]; omega) h0 (by omega)
    have over : ∀ (p1 x : Int), 0 ≤ p1 → p1 ≤ p + 2 → ∃ s' st' p', Ev (fun k => dd.l0 k n (up + 1) l p1 (s ++ (⟨#[40]⟩ : ByteArray)) (st ++ [x])) (s', st', p') ∧ s'.size ≤ 10 ∧ st'.length ≤ 10 ∧ 0 ≤ p' ∧ p' ≤ p1 + 2 * (d : Int) + 3 := fun p1 x h0 h1 =>
      HS l h n hn hn' d (up + 1) p1 _ _ (by omega) (by simp; omega) (by rw [CN]; simp; omega) (by rw [CN]; omega) h0 (by omega)
    by_cases c1 : up > 0
    · by_cases c2 : (st.length : Int) = n
      · obtain ⟨s', st', p', e, z1, z2⟩ := down p hp (by omega) c1
        refine ⟨s', st', p', Ev.s ?_, z1, by omega⟩
        simp only [dd.l0, w2, hlt, c1, c2, hs1, wm, if_true]
        exact e
      · obtain ⟨v, hv, v0, v1⟩ := qe l h p hp (by omega) 2 (by omega) (by omega)
        by_cases c3 : v = 0
        · obtain ⟨s', st', p', e, z1, z2⟩ := down (p + 1) (by omega) (by omega) c1
          refine ⟨s', st', p', Ev.s ?_, z1, by omega⟩
          simp only [dd.l0, w2, hlt, c1, c2, if_true, if_false]
          refine Ev.bind hv ?_
          simp only [c3, hs1, wm, if_true]
          exact e
        · obtain ⟨q, hq, q0, q1⟩ := qe l h (p + 1) (by omega) (by omega) 3 (by omega) (by omega)
          obtain ⟨s', st', p', e, z1, z2⟩ := over (p + 1 + 1) (wrap64 (q - 1)) (by omega) (by omega)
          refine ⟨s', st', p', Ev.s ?_, z1, by omega⟩
          simp only [dd.l0, w2, hlt, c1, c2, if_true, if_false]
          refine Ev.bind hv ?_
          simp only [c3, hs1, if_true, if_false]
          refine Ev.bind hq ?_
          simp only [hst, wp, if_true]
          exact e
    · obtain ⟨q, hq, q0, q1⟩ := qe l h p hp (by omega) 3 (by omega) (by omega)
      obtain ⟨s', st', p', e, z1, z2⟩ := over (p + 1) (wrap64 (q - 1)) (by omega) (by omega)
      refine ⟨s', st', p', Ev.s ?_, z1, by omega⟩
      simp only [dd.l0, w2, hlt, c1, hs1, if_true, if_false]
      refine Ev.bind hq ?_
      simp only [hst, wp, if_true]
      exact e
theorem Z9 (l : List Int) (h : mY l) (p : Int) (hp : 0 ≤ p) (hp' : p ≤ 900) (most : Int) (hm : 1 ≤ most) (hm' : most ≤ 4) : ∃ s st p', Ev (fun k => dd.f k l p most) (s, st, p') ∧ s.size ≤ 10 ∧ st.length ≤ 10 ∧ 0 ≤ p' ∧ p' ≤ p + 30 := by
  obtain ⟨v, hv, v0, v1⟩ := qe l h p hp (by omega) most hm (by omega)
  obtain ⟨s, st, p', e, z1, z2, z3, z4⟩ := HS l h (1 + v) (by omega) (by omega) (2 * (1 + v)).toNat 0 (p + 1) (⟨#[]⟩ : ByteArray) [] (by omega) (by simp) (by rfl) (by
    show 2 * (1 + v) - ((0 : Nat) : Int) = _
    omega) (by omega) (by omega)
  refine ⟨s, st, p', ?_, z1, z2, z3, by omega⟩
  unfold dd.f
  refine Ev.bind hv ?_
  rw [w64 (x := 1 + v) (by omega) (by omega)]
  exact e
theorem RF (o : List Int) (i : Nat) (ho : inR i o) (hi : da i o) : inR (i + 1) (o ++ [(i : Int)]) ∧ da (i + 1) (o ++ [(i : Int)]) := by
  have last : rd (o ++ [(i : Int)]) (i : Int) = i := by
    rw [gU _ _ (by simp [ho.1]), List.getElem_append_right (by rw [ho.1]; exact Nat.le_refl _)]
    simp
  have old : ∀ j : Nat, j < i → rd (o ++ [(i : Int)]) (j : Int) = rd o (j : Int) := fun j hj => zJ _ _ _ (by rw [ho.1]; exact hj)
  refine ⟨⟨by simp [ho.1], fun j hj => ?_⟩, fun j k hj hk e => ?_⟩
  · by_cases h : j < i
    · rw [old j h]
      have := ho.2 j h
      omega
    · rw [show j = i by omega, last]
      omega
  · by_cases h : j < i
    · have a := ho.2 j h
      by_cases h' : k < i
      · rw [old j h, old k h'] at e
        exact hi j k h h' e
      · rw [show k = i by omega, last, old j h] at e
        omega
    · by_cases h' : k < i
      · have a := ho.2 k h'
        rw [show j = i by omega, last, old k h'] at e
        omega
      · omega
theorem set_perm (o : List Int) (n a b : Nat) (ho : inR n o) (hi : da n o) (ha : a < n) (hb : b < n) : inR n ((o.set a (rd o b)).set b (rd o a)) ∧ da n ((o.set a (rd o b)).set b (rd o a)) := by
  have val : ∀ j : Nat, j < n → rd ((o.set a (rd o b)).set b (rd o a)) (j : Int) = if b = j then rd o a else if a = j then rd o b else rd o j := by
    intro j hj
    by_cases e1 : b = j
    · subst e1
      rw [mg _ _ _ (by simp [ho.1]; exact hb), if_pos rfl]
    · rw [lT _ _ _ _ e1, if_neg e1]
      by_cases e2 : a = j
      · subst e2
        rw [mg _ _ _ (by rw [ho.1]; exact ha), if_pos rfl]
      · rw [lT _ _ _ _ e2, if_neg e2]
  have ra := ho.2 a ha
  have rb := ho.2 b hb
  refine ⟨⟨by simp [ho.1], fun j hj => ?_⟩, fun j k hj hk e => ?_⟩
  · rw [val j hj]
    have := ho.2 j hj
    split
    · exact ra
    · split
      · exact rb
      · exact this
  · rw [val j hj, val k hk] at e
    have i1 := hi a b ha hb
    have i2 := hi a j ha hj
    have i3 := hi a k ha hk
    have i4 := hi b j hb hj
    have i5 := hi b k hb hk
    have i6 := hi j k hj hk
    by_cases c1 : b = j
    · rw [if_pos c1] at e
      by_cases c2 : b = k
      · omega
      · rw [if_neg c2] at e
        by_cases c3 : a = k
        · rw [if_pos c3] at e
          have := i1 e
          omega
        · rw [if_neg c3] at e
          exact absurd (i3 e) c3
    · rw [if_neg c1] at e
      by_cases c4 : a = j
      · rw [if_pos c4] at e
        by_cases c2 : b = k
        · rw [if_pos c2] at e
          have := i1 e.symm
          omega
        · rw [if_neg c2] at e
          by_cases c3 : a = k
          · omega
          · rw [if_neg c3] at e
            exact absurd (i5 e) c2
      · rw [if_neg c4] at e
        by_cases c2 : b = k
        · rw [if_pos c2] at e
          exact absurd (i2 e.symm) c4
        · rw [if_neg c2] at e
          by_cases c3 : a = k
          · rw [if_pos c3] at e
            exact absurd (i4 e.symm) c1
          · rw [if_neg c3] at e
            exact i6 e
theorem X4 (o : List Int) (i k : Nat) (hk : k < i) (ho : inR i o) (hi : da i o) : inR (i + 1) ((o ++ [rd o k]).set k (i : Int)) ∧ da (i + 1) ((o ++ [rd o k]).set k (i : Int)) := by
  obtain ⟨p1, p2⟩ := RF o i ho hi
  have e : ((o ++ [(i : Int)]).set k (rd (o ++ [(i : Int)]) i)).set i (rd (o ++ [(i : Int)]) k) = (o ++ [rd o k]).set k (i : Int) := by
    have last : rd (o ++ [(i : Int)]) (i : Int) = i := by
      rw [gU _ _ (by simp [ho.1]), List.getElem_append_right (by rw [ho.1]; exact Nat.le_refl _)]
      simp
    have last' : ∀ v : Int, rd (o ++ [v]) (i : Int) = v := by
      intro v
      rw [gU _ _ (by simp [ho.1]), List.getElem_append_right (by rw [ho.1]; exact Nat.le_refl _)]
      simp
    refine pB _ _ (by simp) fun j hj => ?_
    have hj' : j < i + 1 := by simp [ho.1] at hj; omega
    have l1 : (o ++ [(i : Int)]).length = i + 1 := by simp [ho.1]
    have l2 : (o ++ [rd o k]).length = i + 1 := by simp [ho.1]
    rw [last, zJ o _ k (by rw [ho.1]; exact hk)]
    by_cases e1 : i = j
    · subst e1
      rw [mg _ _ _ (by simp [ho.1]), lT _ _ _ _ (by omega), last']
    · rw [lT _ _ _ _ e1]
      by_cases e2 : k = j
      · subst e2
        rw [mg _ _ _ (by omega), mg _ _ _ (by omega)]
      · rw [lT _ _ _ _ e2, lT _ _ _ _ e2, zJ _ _ _ (by rw [ho.1]; omega), zJ _ _ _ (by rw [ho.1]; omega)]
  have := set_perm (o ++ [(i : Int)]) (i + 1) k i p1 p2 (by omega) (by omega)
  rwa [e] at this
theorem GV (l : List Int) (h : mY l) (n : Nat) (hn : n ≤ 100) : ∀ (d i : Nat) (o : List Int) (p : Int), n - i = d → i ≤ n → inR i o → da i o → 0 ≤ p → p + d ≤ 1000 → ∃ (o' : List Int), Ev (fun k => j9.l0 k n o i l p) (o', p + d) ∧ inR n o' ∧ da n o'
  | 0, i, o, p, hd, hi, ho, hoi, hp, hp' => by
    have : i = n := by omega
    subst this
    refine ⟨o, Ev.s ?_, ho, hoi⟩
    simp only [j9.l0, show ¬ (i : Int) < (i : Int) by omega, if_false]
    exact Ev.const (by simp)
  | d + 1, i, o, p, hd, hi, ho, hoi, hp, hp' => by
    obtain ⟨v, hv, v0, v1⟩ := qe l h p hp (by omega) ((i + 1 : Nat) : Int) (by omega) (by omega)
    have w1 : i < 4611686018427387904 := by omega
    have w2 : o.length < 17592186044416 := by rw [ho.1]; omega
    have w3 : o.length = i := ho.1
    by_cases e : v = (i : Int)
    · obtain ⟨q1, q2⟩ := RF o i ho hoi
      obtain ⟨o', r1, r2, r3⟩ := GV l h n hn d (i + 1) _ (p + 1) (by omega) (by omega) q1 q2 (by omega) (by omega)
      refine ⟨o', Ev.s ?_, r2, r3⟩
      simp only [j9.l0, show (i : Int) < (n : Int) by omega, if_true, eM w1]
      refine Ev.bind hv ?_
      simp only [e, w2, if_true]
      rw [show p + ((d + 1 : Nat) : Int) = p + 1 + d by omega]
      exact r1
    · obtain ⟨q1, q2⟩ := X4 o i v.toNat (by omega) ho hoi
      obtain ⟨o', r1, r2, r3⟩ := GV l h n hn d (i + 1) _ (p + 1) (by omega) (by omega) q1 q2 (by omega) (by omega)
      rw [show ((v.toNat : Nat) : Int) = v by omega] at r1
      have w4 : v < (i : Int) := by omega
      have w5 : v < ((o ++ [rd o v]).length : Int) := by simp [w3]; omega
      refine ⟨o', Ev.s ?_, r2, r3⟩
      simp only [j9.l0, show (i : Int) < (n : Int) by omega, if_true, eM w1]
      refine Ev.bind hv ?_
      simp only [e, if_false, v0, w3, w4, w2, if_true, Option.bind_some, w5]
      rw [show p + ((d + 1 : Nat) : Int) = p + 1 + d by omega]
      rw [w3] at w2
      simp only [w2, if_true, w5]
      exact r1
theorem HY (l : List Int) (h : mY l) (n : Nat) (hn : n ≤ 100) (p : Int) (hp : 0 ≤ p) (hp' : p ≤ 500) : ∃ (o : List Int), Ev (fun k => j9.f k l p n) (o, p + n) ∧ inR n o ∧ da n o := by
  unfold j9.f
  have := GV l h n hn n 0 [] p (by omega) (by omega) ⟨rfl, fun i hi => by omega⟩ (fun i j hi _ _ => by omega) hp (by omega)
  exact this
def paired (n : Nat) (q g : List Int) (i : Nat) : Prop := inR n g ∧ ∀ j : Nat, 2 * j + 1 < i → rd g (rd q ((2 * j : Nat) : Int)) = rd q ((2 * j + 1 : Nat) : Int) ∧ rd g (rd q ((2 * j + 1 : Nat) : Int)) = rd q ((2 * j : Nat) : Int)
theorem zF {a b : Int} (ha : 0 ≤ a) (hb : 0 ≤ b) (h : a.toNat = b.toNat) : a = b := by omega
theorem Za (n : Nat) (q g : List Int) (hq : inR n q) (hqi : da n q) (i : Nat) (hi : 2 * i + 1 < n) (h : paired n q g (2 * i)) :
    paired n q ((g.set (rd q ((2 * i : Nat) : Int)).toNat (rd q ((2 * i + 1 : Nat) : Int))).set (rd q ((2 * i + 1 : Nat) : Int)).toNat (rd q ((2 * i : Nat) : Int))) (2 * i + 2) := by
  have ra := hq.2 (2 * i) (by omega)
  have rb := hq.2 (2 * i + 1) (by omega)
  have ne : (rd q ((2 * i : Nat) : Int)).toNat ≠ (rd q ((2 * i + 1 : Nat) : Int)).toNat := by
    intro e
    have := hqi (2 * i) (2 * i + 1) (by omega) (by omega) (zF ra.1 rb.1 e)
    omega
  have val : ∀ x : Nat, x < n → rd ((g.set (rd q ((2 * i : Nat) : Int)).toNat (rd q ((2 * i + 1 : Nat) : Int))).set (rd q ((2 * i + 1 : Nat) : Int)).toNat (rd q ((2 * i : Nat) : Int))) (x : Int) = if (rd q ((2 * i + 1 : Nat) : Int)).toNat = x then rd q ((2 * i : Nat) : Int) else if (rd q ((2 * i : Nat) : Int)).toNat = x then rd q ((2 * i + 1 : Nat) : Int) else rd g x := by
    intro x hx
    by_cases e1 : (rd q ((2 * i + 1 : Nat) : Int)).toNat = x
    · rw [if_pos e1, ← e1, mg _ _ _ (by rw [List.length_set, h.1.1]; omega)]
    · rw [lT _ _ _ _ e1, if_neg e1]
      by_cases e2 : (rd q ((2 * i : Nat) : Int)).toNat = x
      · rw [if_pos e2, ← e2, mg _ _ _ (by rw [h.1.1]; omega)]
      · rw [lT _ _ _ _ e2, if_neg e2]
  refine ⟨⟨by simp [h.1.1], fun x hx => ?_⟩, fun j hj => ?_⟩
  · rw [val x hx]
    have := h.1.2 x hx
    split
    · exact ra
    · split
      · exact rb
      · exact this
  · have sa := hq.2 (2 * j) (by omega)
    have sb := hq.2 (2 * j + 1) (by omega)
    have ea : (((rd q ((2 * j : Nat) : Int)).toNat : Nat) : Int) = rd q ((2 * j : Nat) : Int) := by omega
    have eb : (((rd q ((2 * j + 1 : Nat) : Int)).toNat : Nat) : Int) = rd q ((2 * j + 1 : Nat) : Int) := by omega
    rw [← ea, ← eb, val _ (by omega), val _ (by omega), ea, eb]
    by_cases z : j = i
    · subst z
      rw [if_neg (fun e => ne e.symm), if_pos rfl, if_pos rfl]
      exact ⟨rfl, rfl⟩
    · have old := h.2 j (by omega)
      have n1 : (rd q ((2 * i + 1 : Nat) : Int)).toNat ≠ (rd q ((2 * j : Nat) : Int)).toNat := fun e => by
        have := hqi (2 * i + 1) (2 * j) (by omega) (by omega) (zF rb.1 sa.1 e)
        omega
      have n2 : (rd q ((2 * i : Nat) : Int)).toNat ≠ (rd q ((2 * j : Nat) : Int)).toNat := fun e => by
        have := hqi (2 * i) (2 * j) (by omega) (by omega) (zF ra.1 sa.1 e)
        omega
      have n3 : (rd q ((2 * i + 1 : Nat) : Int)).toNat ≠ (rd q ((2 * j + 1 : Nat) : Int)).toNat := fun e => by
        have := hqi (2 * i + 1) (2 * j + 1) (by omega) (by omega) (zF rb.1 sb.1 e)
        omega
      have n4 : (rd q ((2 * i : Nat) : Int)).toNat ≠ (rd q ((2 * j + 1 : Nat) : Int)).toNat := fun e => by
        have := hqi (2 * i) (2 * j + 1) (by omega) (by omega) (zF ra.1 sb.1 e)
        omega
      rw [if_neg n1, if_neg n2, if_neg n3, if_neg n4]
      exact old
theorem Zw (n m : Nat) (hm : n = 2 * m) (q g : List Int) (hq : inR n q) (hqi : da n q) (h : paired n q g n) : ∀ d : Nat, d < n → jw g d := by
  intro d hd
  obtain ⟨j, hj, e⟩ := surj q n hq hqi d hd
  have rep : ∃ i, (j = 2 * i ∨ j = 2 * i + 1) ∧ 2 * i + 1 < n := by
    refine ⟨j / 2, by omega, by omega⟩
  obtain ⟨i, hj', hi⟩ := rep
  have o := h.2 i hi
  have ne : rd q ((2 * i : Nat) : Int) ≠ rd q ((2 * i + 1 : Nat) : Int) := by
    intro e
    have := hqi (2 * i) (2 * i + 1) (by omega) (by omega) e
    omega
  rcases hj' with rfl | rfl
  · rw [e] at o ne
    unfold jw
    rw [o.1]
    exact ⟨fun z => ne z.symm, o.2⟩
  · rw [e] at o ne
    unfold jw
    rw [o.2]
    exact ⟨ne, o.1⟩
def N8 (F : Nat → Option (List Int × List Int × Int)) (p : Int) : Prop := ∃ (t f : List Int) (p' : Int), Ev F (t, f, p') ∧ t.length ≤ 12 ∧ f.length ≤ 12 ∧ 0 ≤ p' ∧ p' ≤ p + 1
theorem P9 (l : List Int) (h : mY l) (n : Nat) (h1 : 1 ≤ n) (hn : n ≤ 12) (i : Int) (p : Int) (hp : 0 ≤ p) (hp' : p ≤ 500) (t f : List Int) (ht : t.length = n) (hf : f.length = n) : N8 (fun k => cp.j2 k n i false l p t f) p := by
  obtain ⟨v, hv, v0, v1⟩ := qe l h p hp (by omega) 50 (by omega) (by omega)
  have g1 : (0 : Int) < (f.length : Int) := by omega
  have g2 : (1 : Int) ≤ (t.length : Int) := by omega
  have g3 : (0 : Int) < (t.length : Int) := by omega
  by_cases c0 : v = 0
  · refine ⟨t, f.set 0 0, p + 1, Ev.s ?_, by omega, by simp; omega, by omega, by omega⟩
    simp only [cp.j2, Bool.false_eq_true, if_false]
    refine Ev.bind hv ?_
    simp only [c0, g1, if_true]
    exact Ev.const rfl
  · by_cases c1 : v = 1
    · refine ⟨t.drop 1, f, p + 1, Ev.s ?_, by simp; omega, by omega, by omega, by omega⟩
      simp only [cp.j2, Bool.false_eq_true, if_false]
      refine Ev.bind hv ?_
      simp only [c0, c1, g2, show ¬ (1 : Int) = 0 by decide, if_true, if_false]
      exact Ev.const rfl
    · by_cases c2 : v = 2
      · refine ⟨t.set 0 n, f, p + 1, Ev.s ?_, by simp; omega, by omega, by omega, by omega⟩
        simp only [cp.j2, Bool.false_eq_true, if_false]
        refine Ev.bind hv ?_
        simp only [c2, g3, show ¬ (2 : Int) = 0 by decide, show ¬ (2 : Int) = 1 by decide, if_true, if_false]
        exact Ev.const rfl
      · refine ⟨t, f, p + 1, Ev.s ?_, by omega, by omega, by omega, by omega⟩
        simp only [cp.j2, Bool.false_eq_true, if_false]
        refine Ev.bind hv ?_
        simp only [c0, c1, c2, if_false]
        exact Ev.const rfl
theorem Po (n : Nat) (hn : n ≤ 12) (o : List Int) (ho : o.length = n) (i : Int) (l : List Int) (p : Int) (t f : List Int) (ht : t.length = n) (z : Nat) (hz : z < n) (hz0 : rd o z ≠ 0) (hz1 : ∀ y : Nat, y < z → rd o y = 0) (r : List Int × List Int × Int)
    (h : Ev (fun k => cp.l1 k n (wrap64 (i + 1)) l p ((t.set 0 (rd t (z : Int))).set z (rd t 0)) f) r) : ∀ (d y : Nat), z - y = d → y ≤ z → Ev (fun k => cp.l2 k n i o y l p t f) r
  | 0, y, hd, hy => by
    have : y = z := by omega
    subst this
    refine Ev.s ?_
    simp only [cp.l2, ho, ht, show (0 : Int) ≤ (y : Int) by omega, show (y : Int) < (n : Int) by omega, hz0, show (0 : Int) < (n : Int) by omega, if_true, if_false, Int.toNat_natCast]
    exact h
  | d + 1, y, hd, hy => by
    refine Ev.s ?_
    simp only [cp.l2, ho, show (0 : Int) ≤ (y : Int) by omega, show (y : Int) < (n : Int) by omega, hz1 y (by omega), if_true, eM (show y < 4611686018427387904 by omega)]
    exact Po n hn o ho i l p t f ht z hz hz0 hz1 r h d (y + 1) (by omega) (by omega)
theorem Py (l : List Int) (h : mY l) (n : Nat) (h1 : 1 ≤ n) (hn : n ≤ 12) (f : List Int) (hf : inR n f) (hfl : ∀ d : Nat, d < n → jw f d) (p : Int) (hp : 0 ≤ p) (hp' : p ≤ 500) : ∀ (d i : Nat) (t : List Int), n - i = d → i ≤ n → inR n t → da n t → N8 (fun k => cp.l1 k n i l p t f) p
  | 0, i, t, hd, hi, ht, hti => by
    have : i = n := by omega
    subst this
    obtain ⟨a, b, c, e1, e2⟩ := P9 l h i h1 hn i p hp hp' t f ht.1 hf.1
    refine ⟨a, b, c, Ev.s ?_, e2⟩
    simp only [cp.l1, show ¬ (i : Int) < (i : Int) by omega, if_false]
    exact e1
  | d + 1, i, t, hd, hi, ht, hti => by
    obtain ⟨b, b1, _, b3⟩ := sc t f (by rw [ht.1]; omega) (by rw [hf.1]; omega)
    cases b with
    | true =>
      obtain ⟨a, b', c, e1, e2⟩ := P9 l h n h1 hn i p hp hp' t f ht.1 hf.1
      refine ⟨a, b', c, Ev.s ?_, e2⟩
      simp only [cp.l1, show (i : Int) < (n : Int) by omega, if_true]
      refine Ev.bind b1 ?_
      exact e1
    | false =>
      obtain ⟨o, o1, o2, _⟩ := Og t f n hn h1 ht hf
      have nz : ∃ z, z < n ∧ rd o (z : Int) ≠ 0 := by
        by_cases q : ∃ z, z < n ∧ rd o ((z : Nat) : Int) ≠ 0
        · exact q
        · exfalso
          have ajx : ∀ q : Nat, q < n → rd o q = 0 := fun z hz => by
            by_cases e : rd o (z : Int) = 0
            · exact e
            · exact absurd ⟨z, hz, e⟩ q
          have hc := (R3 t f n h1 ht hf o o1).1 ajx
          have hm : isMap t f := HX ⟨hn, h1, ht, hti, hf, hfl, hc⟩
          have := b3.2 hm
          cases this
      have least : ∃ z, z < n ∧ rd o (z : Int) ≠ 0 ∧ ∀ y : Nat, y < z → rd o y = 0 := by
        obtain ⟨z, hz, hz0⟩ := nz
        induction z using Nat.strongRecOn with
        | ind z ih =>
          by_cases q : ∃ y, y < z ∧ rd o ((y : Nat) : Int) ≠ 0
          · obtain ⟨y, y1, y2⟩ := q
            exact ih y y1 (by omega) y2
          · exact ⟨z, hz, hz0, fun y hy => by
              by_cases e : rd o (y : Int) = 0
              · exact e
              · exact absurd ⟨y, hy, e⟩ q⟩
      obtain ⟨z, hz, hz0, hz1⟩ := least
      obtain ⟨q1, q2⟩ := set_perm t n 0 z ht hti (by omega) hz
      obtain ⟨a, b', c, e1, e2⟩ := Py l h n h1 hn f hf hfl p hp hp' d (i + 1) _ (by omega) (by omega) q1 q2
      refine ⟨a, b', c, Ev.s ?_, e2⟩
      simp only [cp.l1, show (i : Int) < (n : Int) by omega, if_true]
      refine Ev.bind b1 ?_
      refine Ev.s ?_
      simp only [cp.j2, Bool.not_false, if_true]
      refine Ev.bind o2 ?_
      refine Po n hn o o1.1.1 i l p t f ht.1 z hz hz0 hz1 _ ?_ z 0 (by omega) (by omega)
      rw [eM (by omega)]
      exact e1
theorem PE (l : List Int) (h : mY l) (n m : Nat) (hm : n = 2 * m) (h1 : 1 ≤ m) (hn : n ≤ 12) (q : List Int) (hq : inR n q) (hqi : da n q) (p : Int) (hp : 0 ≤ p) (hp' : p ≤ 400) : ∀ (d i : Nat) (g : List Int), m - i = d → i ≤ m → paired n q g (2 * i) → ∃ (t f : List Int) (p' : Int), Ev (fun k => cp.l0 k n q g ((2 * i : Nat) : Int) l p) (t, f, p') ∧ t.length ≤ 12 ∧ f.length ≤ 12 ∧ 0 ≤ p' ∧ p' ≤ p + 13
  | 0, i, g, hd, hi, hg => by
    have : i = m := by omega
    subst this
    rw [← hm] at hg
    obtain ⟨t, t1, t2, t3⟩ := HY l h n (by omega) p hp (by omega)
    obtain ⟨a, b, c, e1, e2, e3, e4, e5⟩ := Py l h n (by omega) hn g hg.1 (Zw n i hm q g hq hqi hg) (p + n) (by omega) (by omega) n 0 t (by omega) (by omega) t2 t3
    refine ⟨a, b, c, Ev.s ?_, e2, e3, e4, by omega⟩
    have w : i < 1000 := by omega
    simp only [cp.l0, eM (show 2 * i < 4611686018427387904 by omega), show ¬ ((2 * i + 1 : Nat) : Int) < (n : Int) by omega, if_false]
    exact Ev.bind t1 e1
  | d + 1, i, g, hd, hi, hg => by
    have ra := hq.2 (2 * i) (by omega)
    have rb := hq.2 (2 * i + 1) (by omega)
    obtain ⟨a, b, c, e1, e2⟩ := PE l h n m hm h1 hn q hq hqi p hp hp' d (i + 1) _ (by omega) (by omega) (Za n q g hq hqi i (by omega) hg)
    refine ⟨a, b, c, Ev.s ?_, e2⟩
    have w2 : wrap64 (((2 * i : Nat) : Int) + 2) = ((2 * (i + 1) : Nat) : Int) := by rw [w64 (by omega) (by omega)]; omega
    simp only [cp.l0, eM (show 2 * i < 4611686018427387904 by omega), show ((2 * i + 1 : Nat) : Int) < (n : Int) by omega, show (0 : Int) ≤ ((2 * i : Nat) : Int) by omega, show (0 : Int) ≤ ((2 * i + 1 : Nat) : Int) by omega, hq.1, show ((2 * i : Nat) : Int) < (n : Int) by omega, hg.1.1, ra.1, ra.2, rb.1, rb.2, if_true, w2]
    exact e1
theorem Sr (l : List Int) (h : mY l) (p : Int) (hp : 0 ≤ p) (hp' : p ≤ 200) (edges : Nat) (h1 : 1 ≤ edges) (h6 : edges ≤ 6) : ∃ (t f : List Int) (p' : Int), Ev (fun k => cp.f k l p edges) (t, f, p') ∧ t.length ≤ 12 ∧ f.length ≤ 12 ∧ 0 ≤ p' ∧ p' ≤ p + 100 := by
  obtain ⟨v, hv, v0, v1⟩ := qe l h p hp (by omega) (edges : Int) (by omega) (by omega)
  obtain ⟨V, rfl⟩ : ∃ V : Nat, v = (V : Int) := ⟨v.toNat, by omega⟩
  obtain ⟨q, q1, q2, q3⟩ := HY l h (2 * (1 + V)) (by omega) (p + 1) (by omega) (by omega)
  have rep : paired (2 * (1 + V)) q (List.replicate (2 * (1 + V)) 0) (2 * 0) := by
    refine ⟨⟨by simp, fun i hi => ?_⟩, fun j hj => by omega⟩
    rw [gU _ _ (by simpa using hi)]
    simp
    omega
  obtain ⟨a, b, c, e1, e2, e3, e4, e5⟩ := PE l h (2 * (1 + V)) (1 + V) rfl (by omega) (by omega) q q2 q3 (p + 1 + ((2 * (1 + V) : Nat) : Int)) (by omega) (by omega) (1 + V) 0 _ (by omega) (by omega) rep
  refine ⟨a, b, c, ?_, e2, e3, e4, by omega⟩
  unfold cp.f
  refine Ev.bind hv ?_
  have w1 : wrap64 (1 + (V : Int)) = ((1 + V : Nat) : Int) := by rw [w64 (by omega) (by omega)]; omega
  have w2 : wrap64 (2 * ((1 + V : Nat) : Int)) = ((2 * (1 + V) : Nat) : Int) := by rw [w64 (by omega) (by omega)]; omega
  simp only [w1, w2]
  refine Ev.bind q1 ?_
  simp only [show (0 : Int) ≤ ((2 * (1 + V) : Nat) : Int) by omega, Int.toNat_natCast, show 2 * (1 + V) ≤ 35184372088832 by omega, if_true]
  exact e1
end Go.Proofs.Ytlpbalebodlipaa.PL

namespace Go.Proofs.Ytlpbalebodlipaa.PL
open Go.RowKit Go.Proofs.YtlpbalebodlipaaW.PrintWords Go.Proofs.YtlpbalebodlipaaW.PrintLast Go.Proofs.YtlpbalebodlipaaW.PrintMore
attribute [local go_sem] nV nQ nE ny nA nG nO nR   -- for this text's walks alone
set_option linter.unusedVariables false
set_option linter.unusedSimpArgs false
mutual
def im.l0 : Nat → ByteArray → List Int → Int → Option Bool
 | 0, _, _, _ => none
 | k + 1, s, l, i => if i < (l.length : Int) then (if 0 ≤ i then (if rd l i < -1 then (some false) else (if rd l i > 1 then (some false) else (im.l0 k s l (wrap64 (i + 1))))) else none) else (im.l1 k s 0 0)
def im.l1 : Nat → ByteArray → Nat → Int → Option Bool
 | 0, _, _, _ => none
 | k + 1, s, p, g => if p < s.size then (if bt s p = 40 then (if wrap64 (g + 1) < 0 then (some false) else (im.l1 k s (p + 1) (wrap64 (g + 1)))) else (if bt s p = 41 then (if wrap64 (g - 1) < 0 then (some false) else (im.l1 k s (p + 1) (wrap64 (g - 1)))) else (some false))) else (some (g == 0))
end
def im.f (k : Nat) (bY : ByteArray) (af : List Int) : Option Bool := if (af.length : Int) < 1 then (some false) else (if (af.length : Int) > 3 then (some false) else (if (bY.size : Int) = wrap64 (2 * (af.length : Int)) then (im.l0 k bY af 0) else (some false)))
end Go.Proofs.Ytlpbalebodlipaa.PL

set_option linter.unusedVariables false
set_option linter.unusedSimpArgs false
namespace Go.Proofs.Ytlpbalebodlipaa.PL
open Go.RowKit Go.Proofs.YtlpbalebodlipaaW.PrintWords Go.Proofs.YtlpbalebodlipaaW.PrintLast Go.Proofs.YtlpbalebodlipaaW.PrintMore
def iG (s : ByteArray) : Nat → Int → Option (Int × Int)
  | 0, g => some (g, 0)
  | d + 1, g => if bt s ((s.size : Int) - (d + 1 : Nat)) = 40 then (iG s d (g + 1)).map (fun p => (p.1, p.2 + 1)) else if bt s ((s.size : Int) - (d + 1 : Nat)) = 41 then (if g - 1 < 0 then none else iG s d (g - 1)) else none
theorem HU (s : ByteArray) : ∀ (d : Nat) (g : Int) (p : Int × Int), 0 ≤ g → iG s d g = some p → 0 ≤ p.1 ∧ 0 ≤ p.2 ∧ p.2 ≤ d ∧ p.1 = g + 2 * p.2 - d
  | 0, g, p, hg, h => by simp only [iG, Option.some.injEq] at h; subst h; simp; omega
  | d + 1, g, p, hg, h => by
    simp only [iG] at h
    split at h
    · cases e : iG s d (g + 1) with
      | none => rw [e] at h; cases h
      | some q =>
        rw [e] at h
        obtain rfl := Option.some.inj h
        have := HU s d (g + 1) q (by omega) e
        simp only
        omega
    · split at h
      · split at h
        · cases h
        · have := HU s d (g - 1) p (by omega) h
          omega
      · cases h
theorem Pr (x3 x4 : Int) (s : ByteArray) (l : List Int) (hl : l.length ≤ 1048576) : ∀ (d i : Nat), l.length - i = d → i ≤ l.length →
    ((∀ j, i ≤ j → j < l.length → -1 ≤ rd l j ∧ rd l j ≤ 1) → Ev (fun k => cY.l1 k x3 x4 i s l) (decide (x3 = 0 ∧ (1 ≤ x4 ∧ x4 ≤ 3) ∧ (l.length : Int) = x4))) ∧
    (¬ (∀ j, i ≤ j → j < l.length → -1 ≤ rd l j ∧ rd l j ≤ 1) → Ev (fun k => cY.l1 k x3 x4 i s l) false)
  | 0, i, hd, hi => by
    refine ⟨fun _ => Ev.s ?_, fun h => absurd (fun j h1 h2 => by omega) h⟩
    simp only [cY.l1, show ¬ (i : Int) < (l.length : Int) by omega, if_false]
    refine Ev.const ?_
    unfold j8.f
    by_cases h1 : x3 = 0
    · by_cases h2 : x4 ≥ 1
      · by_cases h3 : x4 ≤ 3
        · by_cases h4 : (l.length : Int) = x4 <;> simp [h1, h2, h3, h4] <;> (try omega)
        · simp [h1, h2, h3]
      · simp [h1, h2] <;> (first | done | omega)
    · simp [h1]
  | d + 1, i, hd, hi => by
    have ih := Pr x3 x4 s l hl d (i + 1) (by omega) (by omega)
    have hw : wrap64 ((i : Int) + 1) = ((i + 1 : Nat) : Int) := by rw [w64 (by omega) (by omega)]; omega
    by_cases hb : -1 ≤ rd l i ∧ rd l i ≤ 1
    · have hin : j8.f (rd l i) (-1) 1 = some true := by unfold j8.f; rw [if_pos hb.1, decide_eq_true hb.2]
      refine ⟨fun h => Ev.s ?_, fun h => Ev.s ?_⟩
      · simp only [cY.l1, show (i : Int) < (l.length : Int) by omega, show (0 : Int) ≤ i by omega, if_true, hin, Option.bind_some, hw]
        exact ih.1 fun j h1 h2 => h j (by omega) h2
      · simp only [cY.l1, show (i : Int) < (l.length : Int) by omega, show (0 : Int) ≤ i by omega, if_true, hin, Option.bind_some, hw]
        refine ih.2 fun h' => h fun j h1 h2 => ?_
        by_cases e : j = i
        · rw [e]; exact hb
        · exact h' j (by omega) h2
    · have hin : j8.f (rd l i) (-1) 1 = some false := by
        unfold j8.f
        by_cases h1 : rd l i ≥ -1
        · rw [if_pos h1, decide_eq_false (by omega)]
        · rw [if_neg h1]
      refine ⟨fun h => absurd (h i (Nat.le_refl _) (by omega)) hb, fun h => Ev.s ?_⟩
      simp only [cY.l1, show (i : Int) < (l.length : Int) by omega, show (0 : Int) ≤ i by omega, if_true, hin, Option.bind_some]
      exact Ev.const rfl
theorem Hg (s : ByteArray) (hs : s.size ≤ 1048576) (l : List Int) : ∀ (d : Nat) (i g c : Int), 0 ≤ i → (s.size : Int) - i = d → 0 ≤ g → g ≤ i → 0 ≤ c → c ≤ i →
    (∀ p, iG s d g = some p → ∀ r, Ev (fun k => cY.l1 k p.1 (c + p.2) 0 s l) r → Ev (fun k => cY.l0 k g c i s l) r) ∧ (iG s d g = none → Ev (fun k => cY.l0 k g c i s l) false)
  | 0, i, g, c, hi, hd, hg, hgi, hc, hci => by
    refine ⟨fun p hp r h => Ev.s ?_, fun h => by simp [iG] at h⟩
    simp only [cY.l0, show ¬ i < (s.size : Int) by omega, if_false]
    simp only [iG, Option.some.injEq] at hp
    subst hp
    simpa using h
  | d + 1, i, g, c, hi, hd, hg, hgi, hc, hci => by
    have hj : (s.size : Int) - ((d + 1 : Nat) : Int) = i := by omega
    have w1 : wrap64 (g + 1) = g + 1 := w64 (by omega) (by omega)
    have w2 : wrap64 (g - 1) = g - 1 := w64 (by omega) (by omega)
    have w3 : wrap64 (c + 1) = c + 1 := w64 (by omega) (by omega)
    have w4 : wrap64 (i + 1) = i + 1 := w64 (by omega) (by omega)
    simp only [iG, hj]
    by_cases b0 : bt s i = 40
    · simp only [b0, if_true]
      have ih := Hg s hs l d (i + 1) (g + 1) (c + 1) (by omega) (by omega) (by omega) (by omega) (by omega) (by omega)
      refine ⟨fun p hp r h => Ev.s ?_, fun h => Ev.s ?_⟩
      · simp only [cY.l0, show i < (s.size : Int) by omega, hi, b0, if_true, w1, w3, w4, show ¬ g + 1 < 0 by omega, if_false]
        cases e : iG s d (g + 1) with
        | none => rw [e] at hp; cases hp
        | some q =>
          rw [e] at hp
          obtain rfl := Option.some.inj hp
          refine ih.1 q e r ?_
          have : c + 1 + q.2 = c + (q.2 + 1) := by omega
          rw [this]
          exact h
      · simp only [cY.l0, show i < (s.size : Int) by omega, hi, b0, if_true, w1, w3, w4, show ¬ g + 1 < 0 by omega, if_false]
        exact ih.2 (by simpa using h)
    · by_cases b1 : bt s i = 41
      · simp only [b1, if_true, show ¬ ((41 : Int) = 40) by decide, if_false]
        by_cases hz : g - 1 < 0
        · refine ⟨fun p hp => by simp [hz] at hp, fun _ => Ev.s ?_⟩
          simp only [cY.l0, show i < (s.size : Int) by omega, hi, b1, if_true, w2, hz, show ¬ ((41 : Int) = 40) by decide, if_false]
          exact Ev.const rfl
        · have ih := Hg s hs l d (i + 1) (g - 1) c (by omega) (by omega) (by omega) (by omega) (by omega) (by omega)
          simp only [hz, if_false]
          refine ⟨fun p hp r h => Ev.s ?_, fun h => Ev.s ?_⟩
          · simp only [cY.l0, show i < (s.size : Int) by omega, hi, b1, if_true, w2, w4, hz, show ¬ ((41 : Int) = 40) by decide, if_false]
            exact ih.1 p hp r h
          · simp only [cY.l0, show i < (s.size : Int) by omega, hi, b1, if_true, w2, w4, hz, show ¬ ((41 : Int) = 40) by decide, if_false]
            exact ih.2 h
      · simp only [b0, b1, if_false]
        refine ⟨fun p hp => by simp at hp, fun _ => Ev.s ?_⟩
        simp only [cY.l0, show i < (s.size : Int) by omega, hi, b0, b1, if_true, if_false]
        exact Ev.const rfl
theorem CX (s : ByteArray) (hs : s.size ≤ 1048576) : ∀ (d i : Nat) (g : Int), (s.size : Int) - i = d → 0 ≤ g → g ≤ i →
    (∀ p, iG s d g = some p → Ev (fun k => im.l1 k s i g) (p.1 == 0)) ∧ (iG s d g = none → Ev (fun k => im.l1 k s i g) false)
  | 0, i, g, hd, hg, hgi => by
    refine ⟨fun p hp => Ev.s ?_, fun h => by simp [iG] at h⟩
    simp only [im.l1, show ¬ i < s.size by omega, if_false]
    simp only [iG, Option.some.injEq] at hp
    subst hp
    exact Ev.const rfl
  | d + 1, i, g, hd, hg, hgi => by
    have hj : (s.size : Int) - ((d + 1 : Nat) : Int) = (i : Int) := by omega
    have w1 : wrap64 (g + 1) = g + 1 := w64 (by omega) (by omega)
    have w2 : wrap64 (g - 1) = g - 1 := w64 (by omega) (by omega)
    simp only [iG, hj]
    by_cases b0 : bt s i = 40
    · simp only [b0, if_true]
      have ih := CX s hs d (i + 1) (g + 1) (by omega) (by omega) (by omega)
      refine ⟨fun p hp => Ev.s ?_, fun h => Ev.s ?_⟩
      · simp only [im.l1, show i < s.size by omega, b0, if_true, w1, show ¬ g + 1 < 0 by omega, if_false]
        cases e : iG s d (g + 1) with
        | none => rw [e] at hp; cases hp
        | some q =>
          rw [e] at hp
          obtain rfl := Option.some.inj hp
          exact ih.1 q e
      · simp only [im.l1, show i < s.size by omega, b0, if_true, w1, show ¬ g + 1 < 0 by omega, if_false]
        exact ih.2 (by simpa using h)
    · by_cases b1 : bt s i = 41
      · simp only [b1, if_true, show ¬ ((41 : Int) = 40) by decide, if_false]
        by_cases hz : g - 1 < 0
        · refine ⟨fun p hp => by simp [hz] at hp, fun _ => Ev.s ?_⟩
          simp only [im.l1, show i < s.size by omega, b1, if_true, w2, hz, show ¬ ((41 : Int) = 40) by decide, if_false]
          exact Ev.const rfl
        · have ih := CX s hs d (i + 1) (g - 1) (by omega) (by omega) (by omega)
          simp only [hz, if_false]
          refine ⟨fun p hp => Ev.s ?_, fun h => Ev.s ?_⟩
          · simp only [im.l1, show i < s.size by omega, b1, if_true, w2, hz, show ¬ ((41 : Int) = 40) by decide, if_false]
            exact ih.1 p hp
          · simp only [im.l1, show i < s.size by omega, b1, if_true, w2, hz, show ¬ ((41 : Int) = 40) by decide, if_false]
            exact ih.2 h
      · simp only [b0, b1, if_false]
        refine ⟨fun p hp => by simp at hp, fun _ => Ev.s ?_⟩
        simp only [im.l1, show i < s.size by omega, b0, b1, if_true, if_false]
        exact Ev.const rfl
theorem zC (s : ByteArray) (l : List Int) (hl : l.length ≤ 3) : ∀ (d i : Nat), l.length - i = d → i ≤ l.length →
    ((∀ j, i ≤ j → j < l.length → -1 ≤ rd l j ∧ rd l j ≤ 1) → ∀ r, Ev (fun k => im.l1 k s 0 0) r → Ev (fun k => im.l0 k s l i) r) ∧
    (¬ (∀ j, i ≤ j → j < l.length → -1 ≤ rd l j ∧ rd l j ≤ 1) → Ev (fun k => im.l0 k s l i) false)
  | 0, i, hd, hi => by
    refine ⟨fun _ r h => Ev.s ?_, fun h => absurd (fun j h1 h2 => by omega) h⟩
    simp only [im.l0, show ¬ (i : Int) < (l.length : Int) by omega, if_false]
    exact h
  | d + 1, i, hd, hi => by
    have ih := zC s l hl d (i + 1) (by omega) (by omega)
    have hw : wrap64 ((i : Int) + 1) = ((i + 1 : Nat) : Int) := by rw [w64 (by omega) (by omega)]; omega
    by_cases hb1 : rd l i < -1
    · refine ⟨fun h => absurd (h i (Nat.le_refl _) (by omega)) (by omega), fun h => Ev.s ?_⟩
      simp only [im.l0, show (i : Int) < (l.length : Int) by omega, show (0 : Int) ≤ i by omega, hb1, if_true]
      exact Ev.const rfl
    · by_cases hb2 : rd l i > 1
      · refine ⟨fun h => absurd (h i (Nat.le_refl _) (by omega)) (by omega), fun h => Ev.s ?_⟩
        simp only [im.l0, show (i : Int) < (l.length : Int) by omega, show (0 : Int) ≤ i by omega, hb1, hb2, if_true, if_false]
        exact Ev.const rfl
      · refine ⟨fun h r hr => Ev.s ?_, fun h => Ev.s ?_⟩
        · simp only [im.l0, show (i : Int) < (l.length : Int) by omega, show (0 : Int) ≤ i by omega, hb1, hb2, if_true, if_false, hw]
          exact ih.1 (fun j h1 h2 => h j (by omega) h2) r hr
        · simp only [im.l0, show (i : Int) < (l.length : Int) by omega, show (0 : Int) ≤ i by omega, hb1, hb2, if_true, if_false, hw]
          refine ih.2 fun h' => h fun j h1 h2 => ?_
          by_cases e : j = i
          · rw [e]; omega
          · exact h' j (by omega) h2
def Sy (s : ByteArray) (l : List Int) : Prop := 1 ≤ l.length ∧ l.length ≤ 3 ∧ s.size = 2 * l.length ∧ (∀ j : Nat, j < l.length → -1 ≤ rd l j ∧ rd l j ≤ 1) ∧ ∃ c, iG s s.size 0 = some (0, c)
theorem Zy (s : ByteArray) (hs : s.size ≤ 1048576) (l : List Int) (hl : l.length ≤ 1048576) :
    ∃ b : Bool, Ev (fun k => cY.f k s l) b ∧ Ev (fun k => im.f k s l) b ∧ (b = true → Sy s l) := by
  have hsp := Hg s hs l s.size 0 0 0 (by omega) (by omega) (by omega) (by omega) (by omega) (by omega)
  have hst := fun x3 x4 => Pr x3 x4 s l hl l.length 0 (by omega) (by omega)
  simp only [cY.f, im.f]
  cases hw : iG s s.size 0 with
  | none =>
    refine ⟨false, hsp.2 hw, ?_, fun h => by cases h⟩
    by_cases h1 : (l.length : Int) < 1
    · simp only [h1, if_true]; exact Ev.const rfl
    · by_cases h3 : (l.length : Int) > 3
      · simp only [h1, h3, if_true, if_false]; exact Ev.const rfl
      · by_cases h2 : (s.size : Int) = wrap64 (2 * (l.length : Int))
        · simp only [h1, h3, if_false]
          simp only [if_pos h2]
          by_cases hb : ∀ j : Nat, 0 ≤ j → j < l.length → -1 ≤ rd l j ∧ rd l j ≤ 1
          · exact (zC s l (by omega) l.length 0 (by omega) (by omega)).1 hb _ ((CX s hs s.size 0 0 (by omega) (by omega) (by omega)).2 hw)
          · exact (zC s l (by omega) l.length 0 (by omega) (by omega)).2 hb
        · simp only [h1, h3, h2, if_false]
          exact Ev.const rfl
  | some p =>
    have hr := HU s s.size 0 p (by omega) hw
    have hc0 : (0 : Int) + p.2 = p.2 := by omega
    by_cases hb : ∀ j : Nat, 0 ≤ j → j < l.length → -1 ≤ rd l j ∧ rd l j ≤ 1
    · refine ⟨decide (p.1 = 0 ∧ (1 ≤ p.2 ∧ p.2 ≤ 3) ∧ (l.length : Int) = p.2), hsp.1 p hw _ ?_, ?_, fun h => ?_⟩
      · rw [hc0]; exact (hst p.1 p.2).1 hb
      · by_cases h1 : (l.length : Int) < 1
        · simp only [h1, if_true]
          exact Ev.const (by congr 1; symm; rw [decide_eq_false_iff_not]; omega)
        · by_cases h3 : (l.length : Int) > 3
          · simp only [h1, h3, if_true, if_false]
            exact Ev.const (by congr 1; symm; rw [decide_eq_false_iff_not]; omega)
          · have XQ : wrap64 (2 * (l.length : Int)) = 2 * (l.length : Int) := w64 (by omega) (by omega)
            by_cases h2 : (s.size : Int) = 2 * (l.length : Int)
            · simp only [h1, h3, if_false, XQ]
              simp only [if_pos h2]
              have hi := (zC s l (by omega) l.length 0 (by omega) (by omega)).1 hb _ ((CX s hs s.size 0 0 (by omega) (by omega) (by omega)).1 p hw)
              have e : (p.1 == 0) = decide (p.1 = 0 ∧ (1 ≤ p.2 ∧ p.2 ≤ 3) ∧ (l.length : Int) = p.2) := by
                rw [Bool.eq_iff_iff]
                simp only [beq_iff_eq, decide_eq_true_eq]
                omega
              rw [e] at hi
              exact hi
            · simp only [h1, h3, h2, if_false, XQ]
              exact Ev.const (by congr 1; symm; rw [decide_eq_false_iff_not]; omega)
      · have := of_decide_eq_true h
        refine ⟨by omega, by omega, by omega, fun j hj => hb j (by omega) hj, p.2, ?_⟩
        rw [hw]
        congr 1
        exact Prod.ext this.1 rfl
    · refine ⟨false, hsp.1 p hw _ ?_, ?_, fun h => by cases h⟩
      · exact (hst p.1 _).2 hb
      · by_cases h1 : (l.length : Int) < 1
        · simp only [h1, if_true]; exact Ev.const rfl
        · by_cases h3 : (l.length : Int) > 3
          · simp only [h1, h3, if_true, if_false]; exact Ev.const rfl
          · by_cases h2 : (s.size : Int) = wrap64 (2 * (l.length : Int))
            · simp only [h1, h3, if_false]
              simp only [if_pos h2]
              exact (zC s l (by omega) l.length 0 (by omega) (by omega)).2 hb
            · simp only [h1, h3, h2, if_false]
              exact Ev.const rfl
def vt : Nat → List (List Int)
  | 0 => [[]]
  | n + 1 => [-1, 0, 1].flatMap fun a => (vt n).map fun l => a :: l
def vR : Nat → List ByteArray
  | 1 => [⟨#[40, 41]⟩]
  | 2 => [⟨#[40, 40, 41, 41]⟩, ⟨#[40, 41, 40, 41]⟩]
  | 3 => [⟨#[40, 40, 40, 41, 41, 41]⟩, ⟨#[40, 40, 41, 40, 41, 41]⟩, ⟨#[40, 40, 41, 41, 40, 41]⟩, ⟨#[40, 41, 40, 40, 41, 41]⟩, ⟨#[40, 41, 40, 41, 40, 41]⟩]
  | _ => []
def rZ (P : ByteArray → List Int → Bool) (n : Nat) : Bool := (vR n).all fun s => (vt n).all fun l => P s l
theorem QH : ∀ (l : List Int), (∀ x ∈ l, -1 ≤ x ∧ x ≤ 1) → l ∈ vt l.length
  | [], _ => by simp [vt]
  | a :: l, h => by
    have ih := QH l fun x hx => h x (by simp [hx])
    have ha := h a (by simp)
    simp only [List.length_cons, vt, List.mem_flatMap, List.mem_map]
    exact ⟨a, by simp; omega, l, ih, rfl⟩
theorem Hn (s : ByteArray) : ∀ (d : Nat) (g : Int) (p : Int × Int), iG s d g = some p → ∀ q : Int, (s.size : Int) - d ≤ q → q < s.size → bt s q = 40 ∨ bt s q = 41
  | 0, g, p, h, q, h1, h2 => by omega
  | d + 1, g, p, h, q, h1, h2 => by
    simp only [iG] at h
    by_cases e : q = (s.size : Int) - ((d + 1 : Nat) : Int)
    · rw [e]
      by_cases b0 : bt s ((s.size : Int) - ((d + 1 : Nat) : Int)) = 40
      · exact .inl b0
      · by_cases b1 : bt s ((s.size : Int) - ((d + 1 : Nat) : Int)) = 41
        · exact .inr b1
        · rw [if_neg b0, if_neg b1] at h
          cases h
    · split at h
      · cases e2 : iG s d (g + 1) with
        | none => rw [e2] at h; cases h
        | some q' => exact Hn s d (g + 1) q' e2 q (by omega) h2
      · split at h
        · split at h
          · cases h
          · exact Hn s d (g - 1) p h q (by omega) h2
        · cases h
theorem byte_of (b : UInt8) (h : ((b.toNat : Int) = 40) ∨ ((b.toNat : Int) = 41)) : b = 40 ∨ b = 41 := by
  rcases h with h | h
  · left; apply UInt8.toNat_inj.1; simpa using (by omega : b.toNat = 40)
  · right; apply UInt8.toNat_inj.1; simpa using (by omega : b.toNat = 41)
theorem aax (s : ByteArray) (n : Nat) (hn : s.size = n) : ∃ l : List UInt8, l.length = n ∧ s = ⟨l.toArray⟩ := by
  refine ⟨s.data.toList, ?_, ?_⟩
  · rw [Array.length_toList]; exact hn
  · apply ByteArray.ext; simp
theorem Yg (l : List UInt8) (i : Nat) (h : i < l.length) : bt ⟨l.toArray⟩ (i : Int) = (l[i].toNat : Int) := by
  have := (tY ⟨l.toArray⟩ (i : Int) (by simpa [ByteArray.size] using h)).symm
  rw [this]
  rfl
theorem ZQ (s : ByteArray) (n : Nat) (h1 : 1 ≤ n) (h3 : n ≤ 3) (hs : s.size = 2 * n) (c : Int) (hw : iG s s.size 0 = some (0, c)) : s ∈ vR n := by
  have hb := Hn s s.size 0 (0, c) hw
  have hw' : (iG s s.size 0).map (fun p => p.1) = some 0 := by rw [hw]; rfl
  clear hw
  obtain ⟨l, hl, rfl⟩ := aax s (2 * n) hs
  have hbl : ∀ i (h : i < l.length), l[i] = 40 ∨ l[i] = 41 := fun i h => byte_of _ (by
    have := hb (i : Int) (by omega) (by rw [hs]; omega)
    rwa [Yg l i h] at this)
  clear hb
  have hc : n = 1 ∨ n = 2 ∨ n = 3 := by omega
  rcases hc with rfl | rfl | rfl
  · obtain ⟨a, b, rfl⟩ : ∃ a b, l = [a, b] := by
      match l, hl with
      | [a, b], _ => exact ⟨a, b, rfl⟩
    · skip
      have h0 : a = 40 ∨ a = 41 := hbl 0 (show 0 < 2 by decide); have h1' : b = 40 ∨ b = 41 := hbl 1 (show 1 < 2 by decide)
      rcases h0 with rfl | rfl <;> rcases h1' with rfl | rfl <;> first | (exact absurd hw' (by decide +kernel)) | (simp [vR]; done)
  · obtain ⟨a, b, c, d, rfl⟩ : ∃ a b c d, l = [a, b, c, d] := by
      match l, hl with
      | [a, b, c, d], _ => exact ⟨a, b, c, d, rfl⟩
    · skip
      have g0 : a = 40 ∨ a = 41 := hbl 0 (show 0 < 4 by decide); have g1 : b = 40 ∨ b = 41 := hbl 1 (show 1 < 4 by decide); have g2 : c = 40 ∨ c = 41 := hbl 2 (show 2 < 4 by decide); have g3 : d = 40 ∨ d = 41 := hbl 3 (show 3 < 4 by decide)
      rcases g0 with rfl | rfl <;> rcases g1 with rfl | rfl <;> rcases g2 with rfl | rfl <;> rcases g3 with rfl | rfl <;> first | (exact absurd hw' (by decide +kernel)) | (simp [vR]; done)
  · obtain ⟨a, b, c, d, e, f, rfl⟩ : ∃ a b c d e f, l = [a, b, c, d, e, f] := by
      match l, hl with
      | [a, b, c, d, e, f], _ => exact ⟨a, b, c, d, e, f, rfl⟩
    · skip
      have g0 : a = 40 ∨ a = 41 := hbl 0 (show 0 < 6 by decide); have g1 : b = 40 ∨ b = 41 := hbl 1 (show 1 < 6 by decide); have g2 : c = 40 ∨ c = 41 := hbl 2 (show 2 < 6 by decide); have g3 : d = 40 ∨ d = 41 := hbl 3 (show 3 < 6 by decide); have g4 : e = 40 ∨ e = 41 := hbl 4 (show 4 < 6 by decide); have g5 : f = 40 ∨ f = 41 := hbl 5 (show 5 < 6 by decide)
      rcases g0 with rfl | rfl <;> rcases g1 with rfl | rfl <;> rcases g2 with rfl | rfl <;> rcases g3 with rfl | rfl <;> rcases g4 with rfl | rfl <;> rcases g5 with rfl | rfl <;> first | (exact absurd hw' (by decide +kernel)) | (simp [vR]; done)
theorem Yt (P : ByteArray → List Int → Bool) (h1 : rZ P 1 = true) (h2 : rZ P 2 = true) (h3 : rZ P 3 = true) (s : ByteArray) (l : List Int) (h : Sy s l) : P s l = true := by
  obtain ⟨a1, a3, hs, hst, c, hw⟩ := h
  have hm := ZQ s l.length a1 a3 hs c hw
  have hl : ∀ x ∈ l, -1 ≤ x ∧ x ≤ 1 := by
    intro x hx
    obtain ⟨i, hi, rfl⟩ := List.mem_iff_getElem.1 hx
    have := hst i hi
    rwa [gU l i hi] at this
  have hsm := QH l hl
  have hn : rZ P l.length = true := by
    have hc : l.length = 1 ∨ l.length = 2 ∨ l.length = 3 := by omega
    rcases hc with e | e | e <;> rw [e] <;> assumption
  unfold rZ at hn
  rw [List.all_eq_true] at hn
  have := hn s hm
  rw [List.all_eq_true] at this
  exact this l hsm
theorem R7 (a b : List Int) (ha : a.length ≤ 1048576) (hb : b.length ≤ 1048576) : ∃ r : List Int × Bool, Ev (fun k => q6.f k a b) r ∧ r.1.length ≤ 12 := by
  obtain ⟨x, x1, _, x3⟩ := CP a ha
  obtain ⟨y, y1, _, y3⟩ := CP b hb
  by_cases h : x = true ∧ y = true ∧ a.length = b.length
  · obtain ⟨rfl, rfl, hl⟩ := h
    have pa := x3.1 rfl
    have pb := y3.1 rfl
    have ra := nJ a pa
    have rb := nJ b pb
    rw [← hl] at rb
    have hn := pa.2.1
    refine ⟨(aZ (aZ (eN b a.length a.length) a a.length) b a.length, true), ?_, by rw [mT]; exact hn⟩
    unfold q6.f
    refine Ev.bind (a := true) ?_ ?_
    · unfold oE.f
      refine Ev.bind x1 ?_
      simp only [if_true]
      refine Ev.bind y1 ?_
      simp only [if_true, hl, beq_self_eq_true]
      exact Ev.const rfl
    · simp only [if_true]
      refine Ev.bind (O9 a.length (by omega) b rb) ?_
      refine Ev.bind (zS a.length (by omega) _ a (tQ b a.length) ra) ?_
      refine Ev.bind (zS a.length (by omega) _ b (lp a.length _ a (tQ b a.length) ra) rb) ?_
      exact Ev.const rfl
  · refine ⟨([], false), ?_, by simp⟩
    unfold q6.f
    refine Ev.bind (a := false) ?_ (by simp only [Bool.false_eq_true, if_false]; exact Ev.const rfl)
    unfold oE.f
    refine Ev.bind x1 ?_
    cases x with
    | false => simp only [Bool.false_eq_true, if_false]; exact Ev.const rfl
    | true =>
      simp only [if_true]
      refine Ev.bind y1 ?_
      cases y with
      | false => simp only [Bool.false_eq_true, if_false]; exact Ev.const rfl
      | true =>
        simp only [if_true]
        have : ((a.length : Int) == (b.length : Int)) = false := by
          rw [beq_eq_false_iff_ne]
          intro e
          exact h ⟨rfl, rfl, by omega⟩
        rw [this]
        exact Ev.const rfl
theorem aaL (t f b : List Int) (ht : t.length ≤ 1048576) (hf : f.length ≤ 1048576) (hb : b.length ≤ 1048576) : ∃ r : List Int × List Int, Ev (fun k => vD.f k t f b) r ∧ r.1.length ≤ 12 ∧ r.2.length ≤ 12 := by
  obtain ⟨x, x1, x2⟩ := R7 t b ht hb
  obtain ⟨y, y1, y2⟩ := R7 f b hf hb
  refine ⟨(x.1, y.1), ?_, x2, y2⟩
  unfold vD.f
  exact Ev.bind x1 (Ev.bind y1 (Ev.const rfl))
def xv (s : ByteArray) (l : List Int) : Bool :=
  match cm.f 3000 s l with
  | some (t, f, _, _) => decide (t.length ≤ 12 ∧ f.length ≤ 12)
  | none => false
theorem X7 : rZ xv 1 = true := by decide +kernel
theorem aaU : rZ xv 2 = true := by decide +kernel
set_option maxHeartbeats 40000000 in
theorem ZU : ∀ s ∈ vR 3, ∀ a ∈ ([-1, 0, 1] : List Int), (vt 2).all (fun l => xv s (a :: l)) = true := by
  intro s hs a ha
  simp only [vR, List.mem_cons, List.not_mem_nil, or_false] at hs ha
  rcases hs with rfl | rfl | rfl | rfl | rfl <;> rcases ha with rfl | rfl | rfl <;> decide +kernel
theorem aar : rZ xv 3 = true := by
  unfold rZ
  rw [List.all_eq_true]
  intro s hs
  rw [List.all_eq_true]
  intro l hl
  rw [vt, List.mem_flatMap] at hl
  obtain ⟨a, ha, hl⟩ := hl
  obtain ⟨l1, hl1, rfl⟩ := List.mem_map.1 hl
  exact List.all_eq_true.1 (ZU s hs a ha) l1 hl1
theorem aaN (s : ByteArray) (l : List Int) (hs : s.size ≤ 10) (hl : l.length ≤ 10) : ∃ r : List Int × List Int × Int × Bool, Ev (fun k => cm.f k s l) r ∧ r.1.length ≤ 12 ∧ r.2.1.length ≤ 12 := by
  obtain ⟨b, b1, b2, b3⟩ := Zy s (by omega) l (by omega)
  cases b with
  | false =>
    refine ⟨([], [], 0, false), ?_, by simp, by simp⟩
    unfold cm.f
    refine Ev.bind b1 ?_
    simp only [Bool.false_eq_true, if_false]
    exact Ev.const rfl
  | true =>
    have hck := Yt xv X7 aaU aar s l (b3 rfl)
    unfold xv at hck
    split at hck
    · rename_i t f q b e
      have hck := of_decide_eq_true hck
      exact ⟨(t, f, q, b), Ev.of (fun k => cm.mono _ _ k) e, hck.1, hck.2⟩
    · cases hck
def ZN (g : Nat → Option (List Int × List Int × Int)) (p : Int) : Prop := ∃ (t f : List Int) (p' : Int), Ev g (t, f, p') ∧ t.length ≤ 12 ∧ f.length ≤ 12 ∧ 0 ≤ p' ∧ p' ≤ p + 200
theorem OJ (l : List Int) (h : mY l) (p : Int) (hp : 0 ≤ p) (hp' : p ≤ 300) : ZN (fun k => gZ.j0 k l p) p := by
  obtain ⟨s, st, p1, e1, z1, z2, z3, z4⟩ := Z9 l h p hp (by omega) 3 (by omega) (by omega)
  obtain ⟨⟨t, f, q, b⟩, e2, y1, y2⟩ := aaN s st z1 z2
  cases b with
  | false =>
    refine ⟨[1, 0], [1, 0], p1, Ev.s ?_, by simp, by simp, z3, by omega⟩
    simp only [gZ.j0]
    refine Ev.bind e1 ?_
    refine Ev.bind e2 ?_
    simp only [Bool.false_eq_true, if_false]
    exact Ev.const rfl
  | true =>
    have y1 : t.length ≤ 12 := y1
    have y2 : f.length ≤ 12 := y2
    obtain ⟨o, e3, o1, _⟩ := HY l h t.length (by omega) p1 z3 (by omega)
    obtain ⟨r, e4, r1, r2⟩ := aaL t f o (by omega) (by omega) (by rw [o1.1]; omega)
    refine ⟨r.1, r.2, p1 + (t.length : Int), Ev.s ?_, r1, r2, by omega, by omega⟩
    simp only [gZ.j0]
    refine Ev.bind e1 ?_
    refine Ev.bind e2 ?_
    simp only [if_true]
    refine Ev.bind e3 ?_
    exact Ev.bind e4 (Ev.const rfl)
theorem Zi (l : List Int) (h : mY l) : ∃ (t f : List Int) (p' : Int), Ev (fun k => gZ.f k l 0) (t, f, p') ∧ t.length ≤ 12 ∧ f.length ≤ 12 ∧ 0 ≤ p' ∧ p' ≤ 500 := by
  obtain ⟨v, e, _, _⟩ := qe l h 0 (by omega) (by omega) 4 (by omega) (by omega)
  by_cases c0 : v = 0
  · obtain ⟨t, f, p', e1, z1, z2, z3, z4⟩ := Sr l h (0 + 1) (by omega) (by omega) 4 (by omega) (by omega)
    refine ⟨t, f, p', ?_, z1, z2, z3, by omega⟩
    unfold gZ.f
    refine Ev.bind e ?_
    simp only [c0, if_true]
    exact Ev.bind e1 (Ev.const rfl)
  · by_cases c1 : v = 1
    · obtain ⟨t, f, p', e1, z1, z2, z3, z4⟩ := Sr l h (0 + 1) (by omega) (by omega) 3 (by omega) (by omega)
      obtain ⟨T, F, b, e2, _, y1, y2⟩ := Z1 t f (by omega) (by omega)
      cases b with
      | true =>
        refine ⟨T, F, p', ?_, y1, y2, z3, by omega⟩
        unfold gZ.f
        refine Ev.bind e ?_
        simp only [c1, show ¬ (1 : Int) = 0 by decide, if_true, if_false]
        refine Ev.bind e1 ?_
        refine Ev.bind e2 ?_
        simp only [if_true]
        exact Ev.const rfl
      | false =>
        obtain ⟨t', f', p'', e3, x1, x2, x3, x4⟩ := OJ l h p' z3 (by omega)
        refine ⟨t', f', p'', ?_, x1, x2, x3, by omega⟩
        unfold gZ.f
        refine Ev.bind e ?_
        simp only [c1, show ¬ (1 : Int) = 0 by decide, if_true, if_false]
        refine Ev.bind e1 ?_
        refine Ev.bind e2 ?_
        simp only [Bool.false_eq_true, if_false]
        exact e3
    · obtain ⟨t', f', p'', e3, x1, x2, x3, x4⟩ := OJ l h (0 + 1) (by omega) (by omega)
      refine ⟨t', f', p'', ?_, x1, x2, x3, by omega⟩
      unfold gZ.f
      refine Ev.bind e ?_
      simp only [c0, c1, if_false]
      exact e3
theorem HE (h : Nat → Int) (n d : Nat) (hd : d < n) : rd ((List.range n).map h) (d : Int) = h d := by
  rw [gU _ _ (by simp; exact hd)]; simp
def cmpL (t p : List Int) (n : Nat) : List Int := (List.range n).map fun (d : Nat) => rd t (rd p (d : Int))
theorem jR (t p : List Int) (n d : Nat) (h : d < n) : rd (cmpL t p n) (d : Int) = rd t (rd p (d : Int)) := HE _ n d h
theorem qk (t p : List Int) (n : Nat) (ht : inR n t) (hp : inR n p) : inR n (cmpL t p n) := ⟨by simp [cmpL], fun i hi => by
  rw [jR _ _ _ _ hi]
  have h1 := hp.2 i hi
  have h2 := ht.2 (rd p i).toNat (by omega)
  rwa [show ((rd p i).toNat : Int) = rd p i by omega] at h2⟩
theorem tX (t p : List Int) (n : Nat) (ht : inR n t) (hti : da n t) (hp : inR n p) (hpi : da n p) : da n (cmpL t p n) := fun i j hi hj e => by
  rw [jR _ _ _ _ hi, jR _ _ _ _ hj] at e
  have h1 := hp.2 i hi
  have h2 := hp.2 j hj
  refine hpi i j hi hj ?_
  have := hti (rd p i).toNat (rd p j).toNat (by omega) (by omega) (by rw [show ((rd p i).toNat : Int) = rd p i by omega, show ((rd p j).toNat : Int) = rd p j by omega]; exact e)
  omega
def fpL (f : List Int) (n m : Nat) : List Int := (List.range n).map fun (d : Nat) => if d < m ∨ rd f (d : Int) < (m : Int) then rd f (d : Int) else (d : Int)
theorem nC (f : List Int) (n m d : Nat) (h : d < n) : rd (fpL f n m) (d : Int) = if d < m ∨ rd f (d : Int) < (m : Int) then rd f (d : Int) else (d : Int) := HE _ n d h
theorem Sb (f : List Int) (n m : Nat) (hf : inR n f) : inR n (fpL f n m) := ⟨by simp [fpL], fun i hi => by
  rw [nC _ _ _ _ hi]
  have := hf.2 i hi
  split <;> omega⟩
theorem Oz (f : List Int) (n m : Nat) (hf : inR n f) (hfl : ∀ i : Nat, i < n → jw f i) : da n (fpL f n m) := fun i j hi hj e => by
  have back : ∀ d : Nat, d < n → rd (fpL f n m) (rd (fpL f n m) (d : Int)) = d := by
    intro d hd
    have h1 := hf.2 d hd
    have h2 := (hfl d hd).2
    obtain ⟨b, hb⟩ : ∃ b : Nat, rd f d = b := ⟨(rd f d).toNat, by omega⟩
    rw [nC _ _ _ d hd, hb]
    rw [hb] at h1 h2
    by_cases c : d < m ∨ (b : Int) < (m : Int)
    · rw [if_pos c, nC _ _ _ b (by omega), h2, if_pos (by omega)]
    · rw [if_neg c, nC _ _ _ d hd, hb, if_neg c]
  have := congrArg (rd (fpL f n m)) e
  rw [back i hi, back j hj] at this
  omega
def kE (f : List Int) : Nat → Nat
  | 0 => 0
  | m + 1 => if (m : Int) < rd f (m : Int) then kE f m + 1 else kE f m
def xH (f : List Int) : Nat → Nat
  | 0 => 0
  | m + 1 => if rd f (m : Int) < (m : Int) then xH f m + 1 else xH f m
theorem RR (f : List Int) (n : Nat) : ∀ m, m ≤ n → Cnt n (fun d => d < m ∧ (d : Int) < rd f (d : Int)) (kE f m)
  | 0, _ => ⟨[], List.nodup_nil, fun x => by simp, rfl⟩
  | m + 1, hm => by
    obtain ⟨L, h1, h2, h3⟩ := RR f n m (by omega)
    simp only [kE]
    by_cases c : (m : Int) < rd f (m : Int)
    · rw [if_pos c]
      refine ⟨m :: L, List.nodup_cons.2 ⟨fun z => by have := ((h2 m).1 z).2.1; omega, h1⟩, fun x => ?_, by simp [h3]⟩
      rw [List.mem_cons, h2]
      constructor
      · rintro (rfl | ⟨a, b, b'⟩)
        · exact ⟨by omega, by omega, c⟩
        · exact ⟨a, by omega, b'⟩
      · rintro ⟨a, b, b'⟩
        by_cases e : x = m
        · exact .inl e
        · exact .inr ⟨a, by omega, b'⟩
    · rw [if_neg c]
      refine ⟨L, h1, fun x => ?_, h3⟩
      rw [h2]
      constructor
      · rintro ⟨a, b, b'⟩; exact ⟨a, by omega, b'⟩
      · rintro ⟨a, b, b'⟩
        by_cases e : x = m
        · subst e; exact absurd b' c
        · exact ⟨a, by omega, b'⟩
theorem RJ (f : List Int) (n : Nat) : ∀ m, m ≤ n → Cnt n (fun d => d < m ∧ rd f (d : Int) < (d : Int)) (xH f m)
  | 0, _ => ⟨[], List.nodup_nil, fun x => by simp, rfl⟩
  | m + 1, hm => by
    obtain ⟨L, h1, h2, h3⟩ := RJ f n m (by omega)
    simp only [xH]
    by_cases c : rd f (m : Int) < (m : Int)
    · rw [if_pos c]
      refine ⟨m :: L, List.nodup_cons.2 ⟨fun z => by have := ((h2 m).1 z).2.1; omega, h1⟩, fun x => ?_, by simp [h3]⟩
      rw [List.mem_cons, h2]
      constructor
      · rintro (rfl | ⟨a, b, b'⟩)
        · exact ⟨by omega, by omega, c⟩
        · exact ⟨a, by omega, b'⟩
      · rintro ⟨a, b, b'⟩
        by_cases e : x = m
        · exact .inl e
        · exact .inr ⟨a, by omega, b'⟩
    · rw [if_neg c]
      refine ⟨L, h1, fun x => ?_, h3⟩
      rw [h2]
      constructor
      · rintro ⟨a, b, b'⟩; exact ⟨a, by omega, b'⟩
      · rintro ⟨a, b, b'⟩
        by_cases e : x = m
        · subst e; exact absurd b' c
        · exact ⟨a, by omega, b'⟩
theorem kEG (f : List Int) (n : Nat) (hfl : ∀ i : Nat, i < n → jw f i) : ∀ m, m ≤ n → kE f m + xH f m = m
  | 0, _ => rfl
  | m + 1, hm => by
    have ih := kEG f n hfl m (by omega)
    have hne := (hfl m (by omega)).1
    simp only [kE, xH]
    split <;> split <;> omega
theorem YN (f : List Int) (n : Nat) (hf : inR n f) (hfl : ∀ i : Nat, i < n → jw f i) : 2 * kE f n = n := by
  have h1 := kEG f n hfl n (Nat.le_refl _)
  have c1 := RR f n n (Nat.le_refl _)
  have c2 := RJ f n n (Nat.le_refl _)
  have fin : ∀ x y : Nat, x < n → y < n → (rd f x).toNat = (rd f y).toNat → x = y := fun x y hx hy e => by
    have r1 := hf.2 x hx
    have r2 := hf.2 y hy
    have e1 := (hfl x hx).2
    have e2 := (hfl y hy).2
    rw [show rd f x = rd f y by omega, e2] at e1
    omega
  have cast : ∀ x : Nat, x < n → ((rd f x).toNat : Int) = rd f x := fun x hx => by have := hf.2 x hx; omega
  have l1 := c1.le c2 (fun d => (rd f d).toNat) (fun x hx hp => by
    have r1 := hf.2 x hx
    refine ⟨by omega, by omega, ?_⟩
    rw [cast x hx, (hfl x hx).2]
    exact hp.2) (fun x y hx _ hy _ e => fin x y hx hy e)
  have l2 := c2.le c1 (fun d => (rd f d).toNat) (fun x hx hp => by
    have r1 := hf.2 x hx
    refine ⟨by omega, by omega, ?_⟩
    rw [cast x hx, (hfl x hx).2]
    exact hp.2) (fun x y hx _ hy _ e => fin x y hx hy e)
  omega
theorem Ro (t p : List Int) (n : Nat) (hp : inR n p) (x y : Nat) (h : Reach [cmpL t p n] n x y) : Reach [t, p] n x y := by
  intro S hS
  refine h S fun q hq k hk => ?_
  rw [List.mem_singleton.1 hq, jR t p n k hk]
  have fr := hp.2 k hk
  have h1 := hS p (by simp) k hk
  have h2 := hS t (by simp) (rd p k).toNat (by omega)
  rw [show (((rd p k).toNat : Nat) : Int) = rd p k by omega] at h2
  exact h1.trans h2
theorem QI (t f : List Int) (n : Nat) (ht : inR n t) (hti : da n t) (hf : inR n f) (hfl : ∀ i : Nat, i < n → jw f i) : ∀ m, m ≤ n →
    ∃ P V S g, Cl n (Reach [t, fpL f n m] n) P ∧ Cl n (Reach [t] n) V ∧ Cl n (Reach [cmpL t (fpL f n m) n] n) S ∧ 2 * P + kE f m = V + S + 2 * g
  | 0, _ => by
    obtain ⟨V, hV, _⟩ := Cl.ex n (Reach [t] n)
    have e0 : ∀ k : Nat, k < n → rd (fpL f n 0) (k : Int) = k := fun k hk => by
      rw [nC _ _ _ _ hk, if_neg]
      have := hf.2 k hk
      omega
    have e1 : ∀ x y, Reach [t, fpL f n 0] n x y ↔ Reach [t] n x y := by
      intro x y
      constructor
      · intro h S hS
        refine h S fun p hp k hk => ?_
        rcases List.mem_cons.1 hp with rfl | hp
        · exact hS p (by simp) k hk
        · rw [List.mem_singleton.1 hp, e0 k hk, Int.toNat_natCast]
      · intro h S hS
        exact h S fun p hp k hk => by rw [List.mem_singleton.1 hp]; exact hS t (by simp) k hk
    have e2 : cmpL t (fpL f n 0) n = t := by
      refine pB _ _ (by simp [cmpL, ht.1]) fun d hd => ?_
      have hd' : d < n := by simpa [cmpL] using hd
      rw [jR _ _ _ _ hd', e0 d hd']
    exact ⟨V, V, V, 0, Cnt.congr hV fun x hx => ⟨fun z i hi hr => z i hi ((e1 i x).1 hr), fun z i hi hr => z i hi ((e1 i x).2 hr)⟩, hV, by rw [e2]; exact hV, by simp only [kE]; omega⟩
  | m + 1, hm => by
    obtain ⟨P, V, S, g, hP, hV, hS, hE⟩ := QI t f n ht hti hf hfl m (by omega)
    have hmn : m < n := by omega
    have fm := hf.2 m hmn
    have fl := hfl m hmn
    obtain ⟨b, hb⟩ : ∃ b : Nat, rd f m = b := ⟨(rd f m).toNat, by omega⟩
    rw [hb] at fm
    have fl1 : (b : Int) ≠ m := by have := fl.1; rwa [hb] at this
    have fl2 : rd f b = m := by have := fl.2; rwa [hb] at this
    have hbn : b < n := by omega
    have inv : ∀ d : Nat, d < n → rd f d = m → d = b := fun d hd e => by
      have := (hfl d hd).2
      rw [e, hb] at this
      omega
    by_cases c : b < m
    · have e : fpL f n (m + 1) = fpL f n m := by
        refine pB _ _ (by simp [fpL]) fun d hd => ?_
        have hd' : d < n := by simpa [fpL] using hd
        have hfd := hf.2 d hd'
        rw [nC _ _ _ _ hd', nC _ _ _ _ hd']
        by_cases c1 : d < m ∨ rd f d < m
        · rw [if_pos c1, if_pos (by omega)]
        · by_cases c2 : d = m
          · subst c2; exact absurd (.inr (by omega)) c1
          · by_cases c3 : rd f d = m
            · exact absurd (inv d hd' c3) (by omega)
            · rw [if_neg c1, if_neg (by omega)]
      rw [e]
      refine ⟨P, V, S, g, hP, hV, hS, ?_⟩
      simp only [kE]
      rw [if_neg (by omega)]; exact hE
    · have hab : m ≠ b := by omega
      obtain ⟨P', hP', _⟩ := Cl.ex n (Reach [t, fpL f n (m + 1)] n)
      obtain ⟨S', hS', _⟩ := Cl.ex n (Reach [cmpL t (fpL f n (m + 1)) n] n)
      have p0 := Sb f n m hf
      have p1 := Sb f n (m + 1) hf
      have pa : rd (fpL f n m) (m : Int) = m := by rw [nC _ _ _ _ hmn, if_neg (by omega)]
      have pb : rd (fpL f n m) (b : Int) = b := by rw [nC _ _ _ _ hbn, if_neg (by omega)]
      have qa : rd (fpL f n (m + 1)) (m : Int) = b := by rw [nC _ _ _ _ hmn, if_pos (by omega), hb]
      have qb : rd (fpL f n (m + 1)) (b : Int) = m := by rw [nC _ _ _ _ hbn, if_pos (by omega), fl2]
      have qx : ∀ x : Nat, x < n → x ≠ m → x ≠ b → rd (fpL f n (m + 1)) (x : Int) = rd (fpL f n m) (x : Int) := fun x hx h1 h2 => by
        rw [nC _ _ _ _ hx, nC _ _ _ _ hx]
        have hne : rd f x ≠ m := fun e => h2 (inv x hx e)
        by_cases c1 : x < m ∨ rd f x < m
        · rw [if_pos c1, if_pos (by omega)]
        · rw [if_neg c1, if_neg (by omega)]
      have ex : Exch n (cmpL t (fpL f n m) n) (cmpL t (fpL f n (m + 1)) n) m b := by
        refine ⟨hmn, hbn, hab, ?_, ?_, fun x hx h1 h2 => ?_⟩
        · rw [jR _ _ _ _ hmn, jR _ _ _ _ hbn, qa, pb]
        · rw [jR _ _ _ _ hmn, jR _ _ _ _ hbn, qb, pa]
        · rw [jR _ _ _ _ hx, jR _ _ _ _ hx, qx x hx h1 h2]
      obtain ⟨s1, s2⟩ := PO (qk t _ n ht p0) (qk t _ n ht p1) (tX t _ n ht hti p0 (Oz f n m hf hfl)) (tX t _ n ht hti p1 (Oz f n (m + 1) hf hfl)) ex hS hS'
      have up : ∀ x y, Reach [t, fpL f n m] n x y → Reach [t, fpL f n (m + 1)] n x y := by
        intro x y h T hT
        refine h T fun p hp k hk => ?_
        rcases List.mem_cons.1 hp with rfl | hp
        · exact hT p (by simp) k hk
        · rw [List.mem_singleton.1 hp]
          by_cases k1 : k = m
          · subst k1; rw [pa, Int.toNat_natCast]
          · by_cases k2 : k = b
            · subst k2; rw [pb, Int.toNat_natCast]
            · rw [← qx k hk k1 k2]
              exact hT _ (by simp) k hk
      have hj : Reach [t, fpL f n (m + 1)] n m b := by
        have := Reach.step (ps := [t, fpL f n (m + 1)]) (p := fpL f n (m + 1)) (by simp) hmn
        rwa [qa, Int.toNat_natCast] at this
      have rel : ∀ x y, Reach [t, fpL f n (m + 1)] n x y ↔ Reach [t, fpL f n m] n x y ∨ (Reach [t, fpL f n m] n x m ∧ Reach [t, fpL f n m] n b y) ∨ (Reach [t, fpL f n m] n x b ∧ Reach [t, fpL f n m] n m y) := by
        intro x y
        constructor
        · intro h
          have hcl : qf [t, fpL f n (m + 1)] n (fun z => Reach [t, fpL f n m] n x z ∨ (Reach [t, fpL f n m] n x m ∧ Reach [t, fpL f n m] n b z) ∨ (Reach [t, fpL f n m] n x b ∧ Reach [t, fpL f n m] n m z)) := by
            have same : ∀ k k' : Nat, Reach [t, fpL f n m] n k k' → ((Reach [t, fpL f n m] n x k ∨ (Reach [t, fpL f n m] n x m ∧ Reach [t, fpL f n m] n b k) ∨ (Reach [t, fpL f n m] n x b ∧ Reach [t, fpL f n m] n m k)) ↔ (Reach [t, fpL f n m] n x k' ∨ (Reach [t, fpL f n m] n x m ∧ Reach [t, fpL f n m] n b k') ∨ (Reach [t, fpL f n m] n x b ∧ Reach [t, fpL f n m] n m k'))) := fun k k' hr =>
              ⟨fun z => z.elim (fun z => .inl (z.trans hr)) fun z => z.elim (fun z => .inr (.inl ⟨z.1, z.2.trans hr⟩)) fun z => .inr (.inr ⟨z.1, z.2.trans hr⟩),
               fun z => z.elim (fun z => .inl (z.trans hr.symm)) fun z => z.elim (fun z => .inr (.inl ⟨z.1, z.2.trans hr.symm⟩)) fun z => .inr (.inr ⟨z.1, z.2.trans hr.symm⟩)⟩
            intro p hp k hk
            rcases List.mem_cons.1 hp with rfl | hp
            · exact same _ _ (Reach.step (by simp) hk)
            · rw [List.mem_singleton.1 hp]
              by_cases k1 : k = m
              · subst k1
                rw [qa, Int.toNat_natCast]
                constructor
                · rintro (z | z | z)
                  · exact .inr (.inl ⟨z, Reach.refl _ _ _⟩)
                  · exact .inr (.inl ⟨z.1, Reach.refl _ _ _⟩)
                  · exact .inl z.1
                · rintro (z | z | z)
                  · exact .inr (.inr ⟨z, Reach.refl _ _ _⟩)
                  · exact .inl z.1
                  · exact .inr (.inr ⟨z.1, Reach.refl _ _ _⟩)
              · by_cases k2 : k = b
                · subst k2
                  rw [qb, Int.toNat_natCast]
                  constructor
                  · rintro (z | z | z)
                    · exact .inr (.inr ⟨z, Reach.refl _ _ _⟩)
                    · exact .inl z.1
                    · exact .inr (.inr ⟨z.1, Reach.refl _ _ _⟩)
                  · rintro (z | z | z)
                    · exact .inr (.inl ⟨z, Reach.refl _ _ _⟩)
                    · exact .inr (.inl ⟨z.1, Reach.refl _ _ _⟩)
                    · exact .inl z.1
                · rw [qx k hk k1 k2]
                  exact same _ _ (Reach.step (by simp) hk)
          exact (h _ hcl).1 (.inl (Reach.refl _ _ _))
        · rintro (z | z | z)
          · exact up _ _ z
          · exact (up _ _ z.1).trans (hj.trans (up _ _ z.2))
          · exact (up _ _ z.1).trans (hj.symm.trans (up _ _ z.2))
      have hk : kE f (m + 1) = kE f m + 1 := by
        simp only [kE]
        rw [if_pos (by omega)]
      by_cases r : Reach [t, fpL f n m] n m b
      · have hPP : P' = P := Cl.uniq hP' (Cnt.congr hP fun x hx => ⟨fun z i hi hr => z i hi (by
          rcases (rel i x).1 hr with q | q | q
          · exact q
          · exact q.1.trans (r.trans q.2)
          · exact q.1.trans (r.symm.trans q.2)), fun z i hi hr => z i hi (up _ _ hr)⟩)
        by_cases q : Reach [cmpL t (fpL f n m) n] n m b
        · have := s2 q
          exact ⟨P', V, S', g, hP', hV, hS', by omega⟩
        · have := s1 q
          exact ⟨P', V, S', g + 1, hP', hV, hS', by omega⟩
      · have q : ¬ Reach [cmpL t (fpL f n m) n] n m b := fun q => r (Ro t _ n p0 m b q)
        have h1 := s1 q
        obtain ⟨h2, h3⟩ := Cl.merge (S := Reach [t, fpL f n (m + 1)] n) (fun x => Reach.refl _ _ x) (fun _ _ h => h.symm) (fun _ _ _ h h' => h.trans h') hP m b hmn hbn r rel
        have := Cl.uniq hP' h3
        exact ⟨P', V, S', g, hP', hV, hS', by omega⟩
theorem euler (t f : List Int) (n : Nat) (ht : inR n t) (hti : da n t) (hf : inR n f) (hfl : ∀ i : Nat, i < n → jw f i) (P V S : Nat) (hP : Cl n (Reach [t, f] n) P) (hV : Cl n (Reach [t] n) V) (hS : Cl n (Reach [cmpL t f n] n) S) :
    ∃ K g, 2 * K = n ∧ 2 * P + K = V + S + 2 * g := by
  obtain ⟨P', V', S', g, h1, h2, h3, h4⟩ := QI t f n ht hti hf hfl n (Nat.le_refl _)
  have e : fpL f n n = f := by
    refine pB _ _ (by simp [fpL, hf.1]) fun d hd => ?_
    have hd' : d < n := by simpa [fpL] using hd
    rw [nC _ _ _ _ hd', if_pos (by omega)]
  rw [e] at h1 h3
  rw [Cl.uniq hP h1, Cl.uniq hV h2, Cl.uniq hS h3]
  exact ⟨kE f n, g, YN f n hf hfl, h4⟩
end Go.Proofs.Ytlpbalebodlipaa.PL
