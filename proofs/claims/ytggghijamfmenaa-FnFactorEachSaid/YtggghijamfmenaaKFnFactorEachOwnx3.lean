/- Characters count factorizations: what FnFactorEach says holds of all codes. There are no conditions beside the given row's own. -/
import Derived.Test.YtggghijamfmenaaKFnFactorEachOwnx2
namespace Go.Proofs.Ytggghijamfmenaa.PN
open Go.RowKit Go.Proofs.YtggghijamfmenaaW.PrintWords Go.Proofs.YtggghijamfmenaaW.PrintLast Go.Proofs.YtggghijamfmenaaW.PrintMore
attribute [local go_sem] max2_int min2_int max_two min_two max_three min_three max_four min_four   -- for this text's walks alone
set_option linter.unusedVariables false
set_option linter.unusedSimpArgs false
set_option maxHeartbeats 8000000 in
set_option maxRecDepth 100000 in
theorem tellE.calls (w0 : World) (g : Nat) (hg : w0.heap.size ≤ g) (s s' : Int) (v : Value) (w : World) (ok : Nat → Prop) (hI : oneI w0 g s w ok) (h : some (wrap64 (s + 1)) = some s') :
    Calls Try.prog 96 #[v, .pointer (some ⟨g, 0, none⟩)] w fun e w' => e = .returned (.tuple #[]) ∧ ∃ ok', oneI w0 g s' w' ok' ∧ (∀ q, ok' q → ok q ∨ w.heap.size ≤ q) ∧ Kept w w' ok := by
  obtain rfl := Option.some.inj h; have HI := Az hI; have hcz0 : w.cell? ⟨g, 0, none⟩ = some (.int .i64 s) := (blk_cell hI.2.1 0).trans rfl; have hfz0 := blk_frozen hI.2.1 0; clear hI h
  go_enter Try.func96, Try.ntmps96
  go_wp2_with (first | ((with_reducible refine gate_store (p := 1) (t := 3) rfl ?_); refine store_event (w1 := w.setCell ⟨g, 0, none⟩ (.int .i64 (wrap64 (s + 1)))) rfl rfl rfl ?hr ?_; (case hr => first | (go_simp; done) | (go_simp; rfl)); intro w1 hw1))
  first | go_end0 | ((try simp only [Exit.inBlock, Exit.then]); refine bodyPost_ret (results_none rfl _ _ _) rfl ?_)
  rw [hw1]
  exact ⟨rfl, ok, (oneI.put HI.out hg _).1, fun q hq => Or.inl hq, (oneI.put HI.out hg _).2⟩
def impl_FactorEach.f (k : Nat) (ts : List (List Int)) : Option Int := (impl_typesSum.f k ts).bind fun n => (if n < 0 then some (-1) else (if n > 4 then some (-1) else (if (ts.length : Int) > 3 then some (-1) else facsG (fun _ m _ => some (wrap64 (m + 1))) k ts n (0 : Int))))
set_option maxHeartbeats 8000000 in
set_option maxRecDepth 100000 in
theorem impl_FactorEach.calls (k : Nat) (A0 : Option Addr) (c0 : Nat) (l0 : List (List Int)) (r : Int) (w : World) (hr0 : Kd.C (Kd.slice 3 (Kd.int .i64)) w A0 l0.length l0) (hc0 : l0.length ≤ c0) (h : impl_FactorEach.f k l0 = some r) :
    Calls Try.prog 41 #[.slice A0 l0.length c0] w fun e w' => e = .returned (.int .i64 r) ∧ Below w.heap.size w w' := by
  have HR0 := Az hr0; have HC0 := Az hc0; have HB := Az (Below.refl w.heap.size w); clear hr0 hc0
  unfold impl_FactorEach.f at h
  obtain ⟨n, A10, h⟩ := Option.bind_eq_some_iff.mp h; have A1 := Az A10; clear A10
  by_cases c1 : n < 0
  ·
    rw [if_pos c1] at h; have c1b0 := decide_eq_true c1; obtain rfl := Option.some.inj h; clear h c1
    go_enter Try.func41, Try.ntmps41
    go_wp2_with (first | (go_at_call 94; (with_reducible refine (impl_typesSum.calls k _ _ l0 n _ ?side1 ?side2 A1.out).mono ?_); (case side1 => exact Kd.C_below HR0.out (bU0 HB.out)); (case side2 => exact HC0.out); rintro e w1 ⟨rfl, hd⟩; have n0 := Az (below_step (bU0 HB.out) (Drawn0.below hd)); clear HB hd; have HB := n0; clear n0))
    go_ret
    exact ⟨rfl, (bU0 HB.out)⟩
  ·
    rw [if_neg c1] at h; have c1b0 := decide_eq_false c1; clear c1
    by_cases c2 : n > 4
    ·
      rw [if_pos c2] at h; have c2b0 := decide_eq_true c2; obtain rfl := Option.some.inj h; clear h c2
      go_enter Try.func41, Try.ntmps41
      go_wp2_with (first | (go_at_call 94; (with_reducible refine (impl_typesSum.calls k _ _ l0 n _ ?side1 ?side2 A1.out).mono ?_); (case side1 => exact Kd.C_below HR0.out (bU0 HB.out)); (case side2 => exact HC0.out); rintro e w1 ⟨rfl, hd⟩; have n0 := Az (below_step (bU0 HB.out) (Drawn0.below hd)); clear HB hd; have HB := n0; clear n0))
      go_ret
      exact ⟨rfl, (bU0 HB.out)⟩
    ·
      rw [if_neg c2] at h; have c2b0 := decide_eq_false c2; clear c2
      by_cases c3 : (l0.length : Int) > 3
      ·
        rw [if_pos c3] at h; have c3b0 := decide_eq_true c3; have c3b1 : decide (l0.length > 3) = true := decide_eq_true (by omega); obtain rfl := Option.some.inj h; clear h c3
        go_enter Try.func41, Try.ntmps41
        go_wp2_with (first | (go_at_call 94; (with_reducible refine (impl_typesSum.calls k _ _ l0 n _ ?side1 ?side2 A1.out).mono ?_); (case side1 => exact Kd.C_below HR0.out (bU0 HB.out)); (case side2 => exact HC0.out); rintro e w1 ⟨rfl, hd⟩; have n0 := Az (below_step (bU0 HB.out) (Drawn0.below hd)); clear HB hd; have HB := n0; clear n0))
        go_ret
        exact ⟨rfl, (bU0 HB.out)⟩
      ·
        rw [if_neg c3] at h; have c3b0 := decide_eq_false c3; have c3b1 : decide (l0.length > 3) = false := decide_eq_false (by omega); have A2 := Az h; clear h c3
        go_enter Try.func41, Try.ntmps41
        go_wp2_with (first | (go_at_call 94; (with_reducible refine (impl_typesSum.calls k _ _ l0 n _ ?side1 ?side2 A1.out).mono ?_); (case side1 => exact Kd.C_below HR0.out (bU0 HB.out)); (case side2 => exact HC0.out); rintro e w1 ⟨rfl, hd⟩; have n0 := Az (below_step (bU0 HB.out) (Drawn0.below hd)); clear HB hd; have HB := n0; clear n0) | ((with_reducible refine gate_store (p := 4) (t := 3) rfl ?_); go_loud (refine store_event (w1 := w1.alloc (.cells #[.int .i64 0] 3 (0, 0))) rfl rfl rfl ?hr ?_; (case hr => first | (go_simp; done) | (go_simp; exact setCell_new _ _ _ _)); intro w2 hw2; have hb2 : Below w1.heap.size w1 w2 := (by rw [hw2]; exact below_alloc (Below.refl _ _) _); have B_g0 := Az ((by rw [hw2]; exact blk_new _ _) : w2.heap[w1.heap.size]? = some (.cells #[.int .i64 0] 3 (0, 0))); have m0 := Az (below_step (bU0 HB.out) hb2); clear hw2; obtain ⟨g, hgg⟩ : ∃ g_ : Nat, g_ = w1.heap.size := ⟨_, rfl⟩; have HGG := Az ((by rw [hgg]; exact below_size HB.out) : w.heap.size ≤ g); rw [← hgg] at B_g0; rw [← hgg]; clear hb2 HB hgg; have HB := m0; clear m0)) | (go_at_call 95; go_loud (refine (facs.calls (σ := Int) (fun _ m _ => some (wrap64 (m + 1))) (oneI w g) 96 _ Try.func96 (by kernel_rfl) rfl g (fun s W W' ok h hb => oneI.below h hb) (fun s W ok q h hq => (by have h2 := h.2.2; subst h2; rw [show q = g from hq]; exact blk_lt h.2.1)) (fun k s s' l A c W ok h _ _ hs => tellE.calls w g HGG.out s s' _ W ok h hs) k A0 c0 l0 n 0 r _ (fun q => q = g) ⟨(bU0 HB.out), B_g0.out, rfl⟩ (Kd.C_below HR0.out (bU0 HB.out)) HC0.out A2.out).mono ?_; rintro e w3 ⟨rfl, ok', i1, i2, i3⟩; have R1 := Az i1; have hcy : w3.cell? ⟨g, 0, none⟩ = some (.int .i64 r) := (blk_cell i1.2.1 0).trans rfl; clear i1 i2 i3)))
        go_ret
        exact ⟨rfl, R1.out.1⟩
def stepW (k : Nat) (m : Int) (l : List (List Int)) : Option Int := (impl_orbits.f k l).bind fun o => ((slices_Max_int_int.f k o).bind fun x => (if x = 0 then some (wrap64 (m + 1)) else some m))
set_option maxHeartbeats 8000000 in
set_option maxRecDepth 100000 in
theorem tellW.calls (w0 : World) (g : Nat) (hg : w0.heap.size ≤ g) (k : Nat) (s s' : Int) (l : List (List Int)) (A : Option Addr) (c : Nat) (w : World) (ok : Nat → Prop) (hI : oneI w0 g s w ok) (hF : Kd.F (Kd.slice 3 (Kd.int .i64)) w (fun q => ¬ ok q) A l.length l) (hc : l.length ≤ c) (h : stepW k s l = some s') :
    Calls Try.prog 97 #[.slice A l.length c, .pointer (some ⟨g, 0, none⟩)] w fun e w' => e = .returned (.tuple #[]) ∧ ∃ ok', oneI w0 g s' w' ok' ∧ (∀ q, ok' q → ok q ∨ w.heap.size ≤ q) ∧ Kept w w' ok := by
  unfold stepW at h
  obtain ⟨o, A10, h⟩ := Option.bind_eq_some_iff.mp h; obtain ⟨x, A20, h⟩ := Option.bind_eq_some_iff.mp h; have A1 := Az A10; have A2 := Az A20; have HI := Az hI; have HF := Az hF; have HC := Az hc; have HB := Az (Below.refl w.heap.size w); clear A10 A20 hI hF hc
  by_cases c1 : x = 0
  ·
    rw [if_pos c1] at h; have c1b0 := beq_iff_eq.mpr c1; obtain rfl := Option.some.inj h; clear h c1
    go_enter Try.func97, Try.ntmps97
    go_wp2_with (first | (go_at_call 99; (with_reducible refine (impl_orbits.calls k _ _ l o _ ?side1 ?side2 A1.out).mono ?_); (case side1 => exact Kd.C_below (Kd.F_now HF.out) (bU0 HB.out)); (case side2 => exact HC.out); rintro e w1 ⟨v1, rfl, ho, hb⟩; obtain ⟨A3_, d3_, ev1⟩ := Kd.R_slice ho; subst ev1; have HO1 := Az ho; have n0 := Az (below_step (bU0 HB.out) hb); clear HB ho hb; have HB := n0; clear n0) | (go_at_call 98; (with_reducible refine (slices_Max_int_int.calls k _ _ o x _ ?side1 ?side2 A2.out).mono ?_); (case side1 => exact (Kd.R_reads' HO1.out).2.2); (case side2 => exact (Kd.R_reads' HO1.out).2.1); rintro e w2 ⟨rfl, hb⟩; have n0 := Az (below_step (bU0 HB.out) hb); clear HB hb; have HB := n0; clear n0; have hcz0 : w2.cell? ⟨g, 0, none⟩ = some (.int .i64 s) := (blk_cell (blk_below HI.out.2.1 HB.out) 0).trans rfl; have hfz0 := blk_frozen (blk_below HI.out.2.1 HB.out) 0) |  ((with_reducible refine gate_store (p := 1) (t := 3) rfl ?_); refine store_event (w1 := w2.setCell ⟨g, 0, none⟩ (.int .i64 (wrap64 (s + 1)))) rfl rfl rfl ?hr ?_; (case hr => first | (go_simp; done) | (go_simp; rfl)); intro w3 hw3))
    first | go_end0 | ((try simp only [Exit.inBlock, Exit.then]); refine bodyPost_ret (results_none rfl _ _ _) rfl ?_)
    rw [hw3]; have HI2 := oneI.below HI.out HB.out
    exact ⟨rfl, ok, (oneI.put HI2 hg _).1, fun q hq => Or.inl hq, Kept.then_ (Kept.of_below HB.out ok) (oneI.put HI2 hg _).2 (fun q hq => Or.inl hq)⟩
  ·
    rw [if_neg c1] at h; have c1b0 := beq_eq_false_iff_ne.mpr c1; obtain rfl := Option.some.inj h; clear h c1
    go_enter Try.func97, Try.ntmps97
    go_wp2_with (first | (go_at_call 99; (with_reducible refine (impl_orbits.calls k _ _ l o _ ?side1 ?side2 A1.out).mono ?_); (case side1 => exact Kd.C_below (Kd.F_now HF.out) (bU0 HB.out)); (case side2 => exact HC.out); rintro e w1 ⟨v1, rfl, ho, hb⟩; obtain ⟨A3_, d3_, ev1⟩ := Kd.R_slice ho; subst ev1; have HO1 := Az ho; have n0 := Az (below_step (bU0 HB.out) hb); clear HB ho hb; have HB := n0; clear n0) | (go_at_call 98; (with_reducible refine (slices_Max_int_int.calls k _ _ o x _ ?side1 ?side2 A2.out).mono ?_); (case side1 => exact (Kd.R_reads' HO1.out).2.2); (case side2 => exact (Kd.R_reads' HO1.out).2.1); rintro e w2 ⟨rfl, hb⟩; have n0 := Az (below_step (bU0 HB.out) hb); clear HB hb; have HB := n0; clear n0))
    first | go_end0 | ((try simp only [Exit.inBlock, Exit.then]); refine bodyPost_ret (results_none rfl _ _ _) rfl ?_)
    exact ⟨rfl, ok, oneI.below HI.out HB.out, fun q hq => Or.inl hq, Kept.of_below HB.out ok⟩
def impl_FactorWhole.f (k : Nat) (ts : List (List Int)) : Option Int := (impl_typesSum.f k ts).bind fun n => (if n < 0 then some (-1) else (if n > 4 then some (-1) else (if (ts.length : Int) > 3 then some (-1) else facsG stepW k ts n (0 : Int))))
set_option maxHeartbeats 8000000 in
set_option maxRecDepth 100000 in
theorem impl_FactorWhole.calls (k : Nat) (A0 : Option Addr) (c0 : Nat) (l0 : List (List Int)) (r : Int) (w : World) (hr0 : Kd.C (Kd.slice 3 (Kd.int .i64)) w A0 l0.length l0) (hc0 : l0.length ≤ c0) (h : impl_FactorWhole.f k l0 = some r) :
    Calls Try.prog 44 #[.slice A0 l0.length c0] w fun e w' => e = .returned (.int .i64 r) ∧ Below w.heap.size w w' := by
  have HR0 := Az hr0; have HC0 := Az hc0; have HB := Az (Below.refl w.heap.size w); clear hr0 hc0
  unfold impl_FactorWhole.f at h
  obtain ⟨n, A10, h⟩ := Option.bind_eq_some_iff.mp h; have A1 := Az A10; clear A10
  by_cases c1 : n < 0
  ·
    rw [if_pos c1] at h; have c1b0 := decide_eq_true c1; obtain rfl := Option.some.inj h; clear h c1
    go_enter Try.func44, Try.ntmps44
    go_wp2_with (first | (go_at_call 94; (with_reducible refine (impl_typesSum.calls k _ _ l0 n _ ?side1 ?side2 A1.out).mono ?_); (case side1 => exact Kd.C_below HR0.out (bU0 HB.out)); (case side2 => exact HC0.out); rintro e w1 ⟨rfl, hd⟩; have n0 := Az (below_step (bU0 HB.out) (Drawn0.below hd)); clear HB hd; have HB := n0; clear n0))
    go_ret
    exact ⟨rfl, (bU0 HB.out)⟩
  ·
    rw [if_neg c1] at h; have c1b0 := decide_eq_false c1; clear c1
    by_cases c2 : n > 4
    ·
      rw [if_pos c2] at h; have c2b0 := decide_eq_true c2; obtain rfl := Option.some.inj h; clear h c2
      go_enter Try.func44, Try.ntmps44
      go_wp2_with (first | (go_at_call 94; (with_reducible refine (impl_typesSum.calls k _ _ l0 n _ ?side1 ?side2 A1.out).mono ?_); (case side1 => exact Kd.C_below HR0.out (bU0 HB.out)); (case side2 => exact HC0.out); rintro e w1 ⟨rfl, hd⟩; have n0 := Az (below_step (bU0 HB.out) (Drawn0.below hd)); clear HB hd; have HB := n0; clear n0))
      go_ret
      exact ⟨rfl, (bU0 HB.out)⟩
    ·
      rw [if_neg c2] at h; have c2b0 := decide_eq_false c2; clear c2
      by_cases c3 : (l0.length : Int) > 3
      ·
        rw [if_pos c3] at h; have c3b0 := decide_eq_true c3; have c3b1 : decide (l0.length > 3) = true := decide_eq_true (by omega); obtain rfl := Option.some.inj h; clear h c3
        go_enter Try.func44, Try.ntmps44
        go_wp2_with (first | (go_at_call 94; (with_reducible refine (impl_typesSum.calls k _ _ l0 n _ ?side1 ?side2 A1.out).mono ?_); (case side1 => exact Kd.C_below HR0.out (bU0 HB.out)); (case side2 => exact HC0.out); rintro e w1 ⟨rfl, hd⟩; have n0 := Az (below_step (bU0 HB.out) (Drawn0.below hd)); clear HB hd; have HB := n0; clear n0))
        go_ret
        exact ⟨rfl, (bU0 HB.out)⟩
      ·
        rw [if_neg c3] at h; have c3b0 := decide_eq_false c3; have c3b1 : decide (l0.length > 3) = false := decide_eq_false (by omega); have A2 := Az h; clear h c3
        go_enter Try.func44, Try.ntmps44
        go_wp2_with (first | (go_at_call 94; (with_reducible refine (impl_typesSum.calls k _ _ l0 n _ ?side1 ?side2 A1.out).mono ?_); (case side1 => exact Kd.C_below HR0.out (bU0 HB.out)); (case side2 => exact HC0.out); rintro e w1 ⟨rfl, hd⟩; have n0 := Az (below_step (bU0 HB.out) (Drawn0.below hd)); clear HB hd; have HB := n0; clear n0) | ((with_reducible refine gate_store (p := 4) (t := 3) rfl ?_); go_loud (refine store_event (w1 := w1.alloc (.cells #[.int .i64 0] 3 (0, 0))) rfl rfl rfl ?hr ?_; (case hr => first | (go_simp; done) | (go_simp; exact setCell_new _ _ _ _)); intro w2 hw2; have hb2 : Below w1.heap.size w1 w2 := (by rw [hw2]; exact below_alloc (Below.refl _ _) _); have B_g0 := Az ((by rw [hw2]; exact blk_new _ _) : w2.heap[w1.heap.size]? = some (.cells #[.int .i64 0] 3 (0, 0))); have m0 := Az (below_step (bU0 HB.out) hb2); clear hw2; obtain ⟨g, hgg⟩ : ∃ g_ : Nat, g_ = w1.heap.size := ⟨_, rfl⟩; have HGG := Az ((by rw [hgg]; exact below_size HB.out) : w.heap.size ≤ g); rw [← hgg] at B_g0; rw [← hgg]; clear hb2 HB hgg; have HB := m0; clear m0)) | (go_at_call 95; go_loud (refine (facs.calls (σ := Int) stepW (oneI w g) 97 _ Try.func97 (by kernel_rfl) rfl g (fun s W W' ok h hb => oneI.below h hb) (fun s W ok q h hq => (by have h2 := h.2.2; subst h2; rw [show q = g from hq]; exact blk_lt h.2.1)) (fun k s s' l A c W ok h hF hc hs => tellW.calls w g HGG.out k s s' l A c W ok h hF hc hs) k A0 c0 l0 n 0 r _ (fun q => q = g) ⟨(bU0 HB.out), B_g0.out, rfl⟩ (Kd.C_below HR0.out (bU0 HB.out)) HC0.out A2.out).mono ?_; rintro e w3 ⟨rfl, ok', i1, i2, i3⟩; have R1 := Az i1; have hcy : w3.cell? ⟨g, 0, none⟩ = some (.int .i64 r) := (blk_cell i1.2.1 0).trans rfl; clear i1 i2 i3)))
        go_ret
        exact ⟨rfl, R1.out.1⟩
def impl_factorial.l0 : Nat → Int → Int → Int → Option (Int)
 | 0, _, _, _ => none
 | k + 1, x0, x3, x4 => if x4 ≤ x0 then (impl_factorial.l0 k x0 (wrap64 (x3 * x4)) (wrap64 (x4 + 1))) else (some x3)
def impl_factorial.f (k : Nat) (a0 : Int) : Option (Int) := impl_factorial.l0 k a0 1 2
theorem impl_factorial.mono_l : ∀ k, (∀ y0 y1 y2, LeO (impl_factorial.l0 k y0 y1 y2) (impl_factorial.l0 (k + 1) y0 y1 y2))
 | 0 => fun _ _ _ r h => by simp [impl_factorial.l0] at h
 | k + 1 => by
  have ih0 := impl_factorial.mono_l k
  ·
   intro y0 y1 y2
   unfold impl_factorial.l0
   repeat' first
   | (with_reducible exact ih0 _ _ _)
   | (with_reducible exact LeO.refl _)
   | (with_reducible exact LeO.none _)
   | (with_reducible refine LeO.ite ?_ ?_)
   | (with_reducible refine LeO.bind ?_ (fun _ => ?_))
   | exact ih0 _ _ _
   | exact LeO.none _
   | refine LeO.ite ?_ ?_
   | refine LeO.bind ?_ (fun _ => ?_)
theorem impl_factorial.mono : ∀ a0 k, LeO (impl_factorial.f k a0) (impl_factorial.f (k + 1) a0) := by
 intro a0 k
 have ih0 := impl_factorial.mono_l k
 unfold impl_factorial.f
 repeat' first
   | (with_reducible exact ih0 _ _ _)
   | (with_reducible exact LeO.refl _)
   | (with_reducible exact LeO.none _)
   | (with_reducible refine LeO.ite ?_ ?_)
   | (with_reducible refine LeO.bind ?_ (fun _ => ?_))
   | exact ih0 _ _ _
   | exact LeO.none _
   | refine LeO.ite ?_ ?_
   | refine LeO.bind ?_ (fun _ => ?_)
set_option maxHeartbeats 8000000 in
set_option maxRecDepth 100000 in
theorem impl_factorial.calls (k : Nat) (a0 : Int) (r : Int) (w : World) (h : impl_factorial.f k a0 = some r) :
  Calls Try.prog 109 #[.int .i64 a0] w fun e w' => e = .returned (.int .i64 r) ∧ Drawn0 w w' := by
 have H : (impl_factorial.l0 k a0 1 2) = some r := h; clear h; have H' := Az H; clear H
 go_enter Try.func109, Try.ntmps109
 go_wp2
 go_loopg [3, 4] k (fun kq v3 v4 w' => ∃ (x3_1 : Int) (x4_1 : Int), v3 = .int .i64 x3_1 ∧ v4 = .int .i64 x4_1 ∧ Aside0 (impl_factorial.l0 kq a0 x3_1 x4_1 = some r) ∧ Aside0 (kq ≤ k) ∧ Drawn0 w w')
 case atStart => exact ⟨(1), (2), rS, rS, H', ⟨Nat.le_refl _⟩, by repeat (first | exact Drawn0.refl _ | apply Drawn0.step)⟩
 case round =>
  clear H'; (try clear c1); obtain ⟨x3_1, x4_1, rfl, rfl, HA, HK1, ⟨m1, rfl⟩⟩ := hrel
  cases gk with
  | zero => exact absurd HA.out (by simp [impl_factorial.l0])
  | succ k1 =>
   have H := HA.out; clear HA; simp only [impl_factorial.l0] at H
   by_cases c2 : x4_1 ≤ a0
   ·
    rw [if_pos c2] at H; have c2b0 := decide_eq_true c2; clear c2; have H' := Az H; clear H
    go_wp2
    (first | go_roundg k1 | (refine Handed.intro k1 ?measure ?_; rotate_left; go_step; (try simp only [add_plain]); (repeat apply Exists.intro); refine ⟨?rel, rfl⟩))
    case measure => have := HK1.out; omega
    case rel => exact ⟨(wrap64 (x3_1 * x4_1)), (wrap64 (x4_1 + 1)), rS, rS, H', ⟨by have := HK1.out; omega⟩, by repeat (first | exact Drawn0.refl _ | apply Drawn0.step)⟩
   ·
    rw [if_neg c2] at H; have c2b0 := decide_eq_false c2; clear c2; obtain rfl := Option.some.inj H
    go_wp2
    go_ret
    exact ⟨by first | rfl | (simp; done) | (simp [*]; done), by repeat (first | exact Drawn0.refl _ | apply Drawn0.step)⟩
theorem lawM3 : Go.Maps.Keyed Try.prog 3 := Go.Maps.int_keyed Try.underlying3
theorem zeroM3 (w : World) : (zeroValue 3).run Try.prog w = .ok (.int .i64 0) w := by kernel_rfl
def mapI (W : World) (b n : Nat) (m : Int → Int) : Prop := ∃ es : List (Lit × DataW Unit), W.ownsMap Try.prog 3 (plainElem Try.prog 3) b n (.map es) ∧ ∀ x : Int, (Lit.int .i64 x).wf = true → (DataW.map es).atKey (.int .i64 x) (.lit (.int .i64 0)) = .lit (.int .i64 (m x))
theorem mapI_new (W : World) : mapI (W.alloc (.map #[] 0)) W.heap.size 0 (fun _ => 0) := ⟨[], World.ownsMap_made W _ _ _, fun _ _ => rfl⟩
theorem mapI_put {W1 : World} {b n : Nat} {m : Int → Int} {es : List (Lit × DataW Unit)} (hm : ∀ x : Int, (Lit.int .i64 x).wf = true → (DataW.map es).atKey (.int .i64 x) (.lit (.int .i64 0)) = .lit (.int .i64 (m x))) (y v : Int) (h : W1.ownsMap Try.prog 3 (plainElem Try.prog 3) b n ((DataW.map es).put (.int .i64 y) (.lit (.int .i64 v)))) : mapI W1 b n (fun x => if x = y then v else m x) := by
  refine ⟨_, h, fun x hx => ?_⟩
  show DataW.atKey _ _ _ = DataW.lit (Lit.int .i64 (if x = y then v else m x))
  by_cases e : x = y
  ·
    subst e; rw [if_pos rfl]
    exact Go.Maps.atKey_put_same (k := .int .i64 x) ⟨es, rfl⟩ trivial _ _
  ·
    rw [if_neg e]
    exact (Go.Maps.atKey_put_other (D := DataW.map es) (fun h2 => e (by injection h2)) _ _).trans (hm x hx)
def classL : Nat → List Int → Int → (Int → Int) → Int → Option Int
  | 0, _, _, _, _ => none
  | k + 1, p, out, m, i => if i < (p.length : Int) then (if 0 ≤ i then (if 0 ≤ rd p i ∧ rd p i ≤ 6 then (if wrap64 (rd p i * wrap64 (m (rd p i) + 1)) = 0 then none else classL k p (wrap64 (Int.tdiv out (wrap64 (rd p i * wrap64 (m (rd p i) + 1))))) (fun x => if x = rd p i then wrap64 (m (rd p i) + 1) else m x) (wrap64 (i + 1))) else none) else none) else some out
def impl_ClassSize.f (k : Nat) (l0 : List Int) : Option Int := (impl_PartsValid.f k l0).bind fun b => (if b = true then ((impl_sumOf.f k l0).bind fun s => ((impl_factorial.f k s).bind fun o => classL k l0 o (fun _ => 0) 0)) else some (-1))
theorem classL.mono : ∀ k p o m i, LeO (classL k p o m i) (classL (k + 1) p o m i)
  | 0 => fun _ _ _ _ r h => by simp [classL] at h
  | k + 1 => by
    have ih0 := classL.mono k
    intro p o m i
    unfold classL
    repeat' first
      | (with_reducible exact ih0 _ _ _ _)
      | (with_reducible exact LeO.refl _)
      | (with_reducible exact LeO.none _)
      | (with_reducible refine LeO.ite ?_ ?_)
theorem impl_ClassSize.mono : ∀ a0 k, LeO (impl_ClassSize.f k a0) (impl_ClassSize.f (k + 1) a0) := by
  intro a0 k
  unfold impl_ClassSize.f
  repeat' first
    | (with_reducible exact impl_PartsValid.mono _ _)
    | (with_reducible exact impl_sumOf.mono _ _)
    | (with_reducible exact impl_factorial.mono _ _)
    | (with_reducible exact classL.mono _ _ _ _ _)
    | (with_reducible exact LeO.refl _)
    | (with_reducible refine LeO.ite ?_ ?_)
    | (with_reducible refine LeO.bind ?_ (fun _ => ?_))
set_option maxHeartbeats 8000000 in
set_option maxRecDepth 100000 in
theorem impl_ClassSize.calls (k : Nat) (A0 : Option Addr) (c0 : Nat) (l0 : List Int) (r : Int) (w : World) (hr0 : Kd.C (Kd.int .i64) w A0 l0.length l0) (hc0 : l0.length ≤ c0) (h : impl_ClassSize.f k l0 = some r) :
    Calls Try.prog 48 #[.slice A0 l0.length c0] w fun e w' => e = .returned (.int .i64 r) ∧ Below w.heap.size w w' := by
  have HR0 := Az hr0; have HC0 := Az hc0; have HML := Az hr0.2.1; have HB := Az (Below.refl w.heap.size w); clear hr0 hc0
  unfold impl_ClassSize.f at h
  obtain ⟨b, A10, h⟩ := Option.bind_eq_some_iff.mp h; have A1 := Az A10; clear A10
  cases b with
  | false =>
    rw [if_neg (by decide)] at h; obtain rfl := Option.some.inj h; clear h
    go_enter Try.func48, Try.ntmps48
    go_wp2_with (first | (go_at_call 102; (with_reducible refine (impl_PartsValid.calls k _ _ l0 _ _ ?side1 ?side2 A1.out).mono ?_); (case side1 => exact Kd.C_below HR0.out (bU0 HB.out)); (case side2 => exact HC0.out); rintro e w1 ⟨rfl, hd⟩; have n0 := Az (below_step (bU0 HB.out) (Drawn0.below hd)); clear HB hd; have HB := n0; clear n0))
    go_ret
    exact ⟨rfl, (bU0 HB.out)⟩
  | true =>
    rw [if_pos rfl] at h; obtain ⟨s, A20, h⟩ := Option.bind_eq_some_iff.mp h; obtain ⟨o, A30, h⟩ := Option.bind_eq_some_iff.mp h; have A2 := Az A20; have A3 := Az A30; have H' := Az h; clear A20 A30 h; have hmm := @run_makeMap Try.prog
    go_enter Try.func48, Try.ntmps48
    go_wp2_with (first | (go_at_call 102; (with_reducible refine (impl_PartsValid.calls k _ _ l0 _ _ ?side1 ?side2 A1.out).mono ?_); (case side1 => exact Kd.C_below HR0.out (bU0 HB.out)); (case side2 => exact HC0.out); rintro e w1 ⟨rfl, hd⟩; have n0 := Az (below_step (bU0 HB.out) (Drawn0.below hd)); clear HB hd; have HB := n0; clear n0) | (go_at_call 103; (with_reducible refine (impl_sumOf.calls k _ _ l0 s _ ?side1 ?side2 A2.out).mono ?_); (case side1 => exact Kd.C_below HR0.out (bU0 HB.out)); (case side2 => exact HC0.out); rintro e w2 ⟨rfl, hd⟩; have n0 := Az (below_step (bU0 HB.out) (Drawn0.below hd)); clear HB hd; have HB := n0; clear n0) | (go_at_call 109; (with_reducible refine (impl_factorial.calls k s o _ A3.out).mono ?_); rintro e w3 ⟨rfl, hd⟩; have n0 := Az (below_step (bU0 HB.out) (Drawn0.below hd)); clear HB hd; have HB := n0; clear n0))
    go_loopg [3, 16] k (fun kq v3 v16 w' => ∃ (out i : Int) (m : Int → Int) (n : Nat), v3 = .int .i64 out ∧ v16 = .int .i64 i ∧ Aside0 (classL kq l0 out m i = some r) ∧ Aside0 (kq ≤ k) ∧ Aside0 (mapI w' w3.heap.size n m) ∧ Aside0 ((n : Int) ≤ i) ∧ Aside0 (Below w.heap.size w w'))
    case atStart => exact ⟨o, 0, fun _ => 0, 0, rfl, rfl, H', ⟨Nat.le_refl _⟩, ⟨mapI_new w3⟩, ⟨by omega⟩, ⟨(bU0 HB.out)⟩⟩
    case round =>
      clear H'; have HW3 := Az (below_size HB.out); clear HB; obtain ⟨out, i, m, n, rfl, rfl, HA, HK1, HM, HNI, HB⟩ := hrel
      cases gk with
      | zero => exact absurd HA.out (by simp [classL])
      | succ k1 =>
        have H := HA.out; clear HA; simp only [classL] at H
        by_cases c1 : i < (l0.length : Int)
        ·
          rw [if_pos c1] at H; have c1b0 := decide_eq_true c1
          by_cases c2 : 0 ≤ i
          ·
            rw [if_pos c2] at H
            by_cases c3 : 0 ≤ rd l0 i ∧ rd l0 i ≤ 6
            ·
              rw [if_pos c3] at H
              by_cases c4 : wrap64 (rd l0 i * wrap64 (m (rd l0 i) + 1)) = 0
              ·
                rw [if_pos c4] at H
                cases H
              ·
                rw [if_neg c4] at H; have H' := Az H
                have hwf : (Lit.int .i64 (rd l0 i)).wf = true := by have h1_ := wrap64_wf (rd l0 i); rwa [Go.IntWalk.wrap64_in (rd l0 i) ⟨by omega, by omega⟩] at h1_
                have hkey : keyOf Try.prog 3 (.int .i64 (rd l0 i)) = some (.int .i64 (rd l0 i)) := Go.Maps.keyOf_int_mk Try.underlying3 hwf; obtain ⟨es, hown, hmx⟩ := HM.out; have hx1 := hmx _ hwf; have HMX := Az hmx; have HNL : Aside0 (n < maxLen) := ⟨by have h1_ := HNI.out; have h2_ := HML.out; have h3_ : (maxLen : Nat) = 9223372036854775807 := rfl; omega⟩; have HI1 : Aside0 (((n + 1 : Nat) : Int) ≤ wrap64 (i + 1)) := ⟨by have h1_ := HNI.out; have h2_ : l0.length ≤ 9223372036854775807 := HML.out; rw [Go.IntWalk.wrap64_in (i + 1) ⟨by omega, by omega⟩]; omega⟩; obtain ⟨ad, eA, hxc⟩ := Kd.at_int (Kd.C_below HR0.out HB.out) i c2 c1
                cases eA
                have p5 := eq_true c2; have q5 := eq_true c1; have c4b0 := beq_eq_false_iff_ne.mpr c4; clear H c1 c2 c3 hmx
                go_wp2_with (first | (at_lookup; refine wpList_lookup_own_int _ rfl _ _ 79 rfl 3 3 .i64 lawM3 Try.underlying79 Try.underlying3 (zeroM3 _) w3.heap.size n _ rfl hown _ _ rfl hkey ?_; intro c hat hwc; have e1 := hat.symm.trans hx1; injection e1 with e2; injection e2 with _ e3; subst e3; clear hat hwc) | (at_mapUpdate; refine wpList_mapUpdate_own _ rfl _ _ _ 79 rfl 3 3 lawM3 Try.underlying79 _ w3.heap.size n _ rfl hown HNL.out _ _ _ rfl rfl hkey _ [] (plainElem_int Try.underlying3 (wrap64_wf _)) ?_; intro w1 hown1 hgrow1; have HG1 := Az hgrow1; clear hgrow1) | (at_lookup; refine wpList_lookup_own_int _ rfl _ _ 79 rfl 3 3 .i64 lawM3 Try.underlying79 Try.underlying3 (zeroM3 _) w3.heap.size (n + 1) _ rfl hown1 _ _ rfl hkey ?_; intro c hat hwc; have e1 := hat.symm.trans (Go.Maps.atKey_put_same (k := .int .i64 (rd l0 i)) ⟨es, rfl⟩ trivial _ _); injection e1 with e2; injection e2 with _ e3; subst e3; clear hat hwc))
                (first | go_roundg k1 | (refine Handed.intro k1 ?measure ?_; rotate_left; go_step; (try simp only [add_plain]); (repeat apply Exists.intro); refine ⟨?rel, rfl⟩))
                case measure => have := HK1.out; omega
                case rel => exact ⟨_, wrap64 (i + 1), _, n + 1, rfl, rfl, H', ⟨by have := HK1.out; omega⟩, ⟨mapI_put HMX.out _ _ hown1⟩, HI1, ⟨pw_below_grown HB.out _ (below_size HB.out) HG1.out (fun q hq => by cases hq; exact HW3.out)⟩⟩
            ·
              rw [if_neg c3] at H
              cases H
          ·
            rw [if_neg c2] at H
            cases H
        ·
          rw [if_neg c1] at H; have c1b0 := decide_eq_false c1; clear c1; obtain rfl := Option.some.inj H
          go_wp2
          go_ret
          exact ⟨rfl, HB.out⟩
theorem goesA_ {P : Program} {ops : Array Oper} {Q : Exit → Act → World → Prop} {oi : Oper} {N : Option Tmp} {a : Act} {w : World} {K : Act → World → Prop} {f : FuncId} {fn : Func} {xs : Array Operand} {ts : Array TypeId} {cp : Array Value} {op : Operand} (hf : P.funcs[f]? = some fn) (hname : (fn.name == "runtime.NumGoroutine") = false) (hb : fn.body.isSome = true) (args : Array Value)
    (hw : Region.wanted oi (yielded ops a.tmps) = true) (hN : oi.dst = N) (hop : oi.op = .call { callee := .value op, args := xs, argTypes := ts }) (hv : a.eval op = .func (.func f) #[] cp) (hargs : xs.map a.eval ++ cp = args)
    (h : Calls P f args w fun e w' => ∃ v, e = .returned v ∧ K (a.put N v) w') : if Region.wanted oi (yielded ops a.tmps) = true then Oper.wp P oi a w K Q else K (a.put N undef) w := by
  refine call_ f args hw hN ?_ h
  have he := enters_ hf hname hb args w
  unfold execOp
  simp [hop, resolve, Deferred.ofValue, invoke, hv, hargs, he]
theorem infoA3 : (Try.prog.info? 3).map (fun i => (i.zero, i.size, i.bytes)) = some (some (.int .i64 0), 1, 8) := by kernel_rfl
theorem infoA23 : (Try.prog.info? 23).map (fun i => (i.zero, i.size, i.bytes)) = some (some (.slice none 0 0), 1, 24) := by kernel_rfl
mutual
def paG : Nat → List (List Int) → List Int → Int → Option (List (List Int))
  | 0, _, _, _ => none
  | k + 1, L, p, left => if left = 0 then (if L.length < 5864062014805 then some (L ++ [p]) else none) else (if (p.length : Int) > 0 then paL k L p left (mn left (rd p ((p.length : Int) - 1))) else paL k L p left left)
def paL : Nat → List (List Int) → List Int → Int → Int → Option (List (List Int))
  | 0, _, _, _, _ => none
  | k + 1, L, p, left, q => if q ≥ 1 then (if p.length + 1 < 17592186044416 then ((paG k L (p ++ [q]) (wrap64 (left - q))).bind fun L' => paL k L' p left (wrap64 (q - 1))) else none) else some L
end
theorem paG.mono_l : ∀ k, (∀ L p left, LeO (paG k L p left) (paG (k + 1) L p left)) ∧ (∀ L p left q, LeO (paL k L p left q) (paL (k + 1) L p left q))
  | 0 => ⟨fun _ _ _ r h => by simp [paG] at h, fun _ _ _ _ r h => by simp [paL] at h⟩
  | k + 1 => by
    obtain ⟨ih0, ih1⟩ := paG.mono_l k
    refine ⟨?_, ?_⟩
    ·
      intro L p left
      unfold paG
      repeat' first
        | (with_reducible exact ih1 _ _ _ _)
        | (with_reducible exact LeO.refl _)
        | (with_reducible refine LeO.ite ?_ ?_)
    ·
      intro L p left q
      unfold paL
      repeat' first
        | (with_reducible exact ih0 _ _ _)
        | (with_reducible exact ih1 _ _ _ _)
        | (with_reducible exact LeO.refl _)
        | (with_reducible exact LeO.none _)
        | (with_reducible refine LeO.ite ?_ ?_)
        | (with_reducible refine LeO.bind ?_ (fun _ => ?_))
def paI (w0 : World) (go gy : Nat) (L : List (List Int)) (W : World) (ok : Nat → Prop) : Prop :=
  Below w0.heap.size w0 W ∧ W.heap[gy]? = some (.cells #[.func (.func 143) #[] #[.pointer (some ⟨go, 0, none⟩), .pointer (some ⟨gy, 0, none⟩)]] 101 (0, 0)) ∧ (∃ v, W.heap[go]? = some (.cells #[v] 45 (0, 0)) ∧ Kd.S (Kd.slice 3 (Kd.int .i64)) 23 W w0.heap.size ok v L) ∧ (∀ k_, ok k_ → k_ ≠ go ∧ k_ ≠ gy ∧ k_ < W.heap.size)
theorem paI.below {w0 W W1 : World} {go gy : Nat} {L : List (List Int)} {ok : Nat → Prop} (h : paI w0 go gy L W ok) (hb : Below W.heap.size W W1) : paI w0 go gy L W1 ok := by
  obtain ⟨h1, h2, ⟨v, h3, h4⟩, h5⟩ := h
  exact ⟨below_step h1 hb, blk_below h2 hb, ⟨v, blk_below h3 hb, Kd.S_below h4 hb⟩, fun q hq => ⟨(h5 q hq).1, (h5 q hq).2.1, Nat.lt_of_lt_of_le (h5 q hq).2.2 hb.size⟩⟩
set_option maxHeartbeats 8000000 in
set_option maxRecDepth 100000 in
theorem part1.calls (w0 : World) (go gy : Nat) (hgo : w0.heap.size ≤ go) : ∀ (k : Nat) (L L' : List (List Int)) (left : Int) (A0 : Option Addr) (c0 : Nat) (p : List Int) (w : World) (ok okp : Nat → Prop) {WB_ : Nat}, paI w0 go gy L w ok → Kd.R (Kd.int .i64) 3 w WB_ okp (.slice A0 p.length c0) p → w0.heap.size ≤ WB_ → (∀ k_, okp k_ → ¬ ok k_ ∧ k_ ≠ go ∧ k_ ≠ gy) → paG k L p left = some L' →
    Calls Try.prog 143 #[.slice A0 p.length c0, .int .i64 left, .pointer (some ⟨go, 0, none⟩), .pointer (some ⟨gy, 0, none⟩)] w fun e w' => e = .returned (.tuple #[]) ∧ ∃ ok', paI w0 go gy L' w' ok' ∧ (∀ k_, ok' k_ → ok k_ ∨ w.heap.size ≤ k_ ∨ okp k_) ∧ Kept w w' (fun k_ => ok k_ ∨ k_ = go) := by
  intro k
  induction k using Nat.strongRecOn with
  | ind k ih =>
  intro L L' left A0 c0 p w ok okp WB_ hI hp0 hpb hpo h
  have hp : Kd.R (Kd.int .i64) 3 w w0.heap.size okp (.slice A0 p.length c0) p := Kd.R_lower hp0 hpb; clear hp0 hpb
  cases k with
  | zero => simp [paG] at h
  | succ k =>
  simp only [paG] at h; have IH := Az ih; have HIV := Az hI; have HP := Az hp; have HPO := Az hpo; have HGO := Az hgo; have HB := Az (Below.refl w.heap.size w); clear ih hI hp hpo
  by_cases c1 : left = 0
  ·
    rw [if_pos c1] at h; have c1b0 := beq_iff_eq.mpr c1; clear c1
    by_cases c2 : L.length < 5864062014805
    ·
      rw [if_pos c2] at h; obtain rfl := Option.some.inj h; have LM := Az c2; clear h c2; obtain ⟨h1, h2, ⟨v, h3, h4⟩, h5⟩ := HIV.out; obtain ⟨Av, cv, ev⟩ := Kd.S_slice h4; subst ev; have HB1 := Az h1; have HY1 := Az h2; have HG1 := Az h3; have HS1 := Az h4; have HO1 := Az h5; have hcz0 : w.cell? ⟨go, 0, none⟩ = some (.slice Av L.length cv) := (blk_cell h3 0).trans rfl; have HLG := Az (blk_lt h3); have HLY := Az (blk_lt h2); clear h1 h2 h3 h4 h5 HIV
      go_enter Try.func143, Try.ntmps143
      go_wp2_with (first | ((with_reducible refine gate_builtin (b := .append) (xs := #[.tmp 10, .tmp 12]) rfl ?_); at_builtin; go_loud (refine Kd.S_append (Kd.slice 3 (Kd.int .i64)) (w0 := w0) w0.heap.size rfl (.tmp 10) (.tmp 12) 45 23 (.slice none 0 0) 24 rfl Try.underlying45 infoA23 rfl (by decide) (by omega) (.slice Av L.length cv) L p [.slice A0 p.length c0] (fun k_ => ok k_ ∨ w.heap.size ≤ k_ ∨ okp k_) okp rfl rfl (Kd.M_row HP.out) ?aP (fun k_ h_ => Or.inr (Or.inl h_)) ?aO HB1.out HB1.out.size (by have := LM.out; omega) ?_; (case aP => exact fun k_ h_ => ⟨Or.inr (Or.inr h_), fun e_ => (HPO.out k_ h_).1 ((Kd.S_R HS1.out).1 k_ e_.symm)⟩); (case aO => exact Kd.S_mono HS1.out (fun k_ h_ => ⟨Or.inl h_, fun h2 => (HPO.out k_ h2).1 h_⟩)); intro v5 w5 ho hb hg hat; obtain ⟨A5, c5, e5⟩ := Kd.S_slice ho; subst e5; have HS5 := Az (Kd.S_bound ho); have HB5 := Az hb; have HK5 : Aside0 (Kept w w5 ok) := ⟨Kept.of_grown hg (Kept.refl w ok) (fun k_ e_ => Or.inl ((Kd.S_R HS1.out).1 k_ e_))⟩; clear ho hb hg hat; have HG5 := Az (blk_kept HG1.out HK5.out (fun h_ => (HO1.out _ h_).1 rfl)); have hcz5 : w5.cell? ⟨go, 0, none⟩ = some (.slice Av L.length cv) := (blk_cell HG5.out 0).trans rfl; have hfz5 := blk_frozen HG5.out 0)) | ((with_reducible refine gate_store (p := 2) (t := 45) rfl ?_); go_loud (refine store_event (w1 := w5.setCell ⟨go, 0, none⟩ (.slice A5 (L ++ [p]).length c5)) rfl rfl rfl ?hr ?_; (case hr => first | (go_simp; done) | (go_simp; rfl)); intro w6 hw6)))
      first | go_end0 | ((try simp only [Exit.inBlock, Exit.then]); refine bodyPost_ret (results_none rfl _ _ _) rfl ?_)
      have hk6 : Kept w w6 (fun k_ => ok k_ ∨ k_ = go) := by rw [hw6]; exact Kept.setCell (S := fun k_ => ok k_ ∨ k_ = go) (p := ⟨go, 0, none⟩) (HK5.out.mono (fun k_ h_ => Or.inl h_)) (Or.inl (Or.inr rfl)) _
      refine ⟨rfl, (fun k_ => (ok k_ ∨ w.heap.size ≤ k_ ∨ okp k_) ∧ (k_ ≠ go ∧ k_ ≠ gy) ∧ k_ < w6.heap.size), ⟨?_, ?_, ⟨.slice A5 (L ++ [p]).length c5, ?_, ?_⟩, fun k_ h_ => ⟨h_.2.1.1, h_.2.1.2, h_.2.2⟩⟩, fun k_ h_ => h_.1, hk6⟩
      ·
        rw [hw6]; exact below_set HB5.out hgo
      ·
        exact blk_kept HY1.out hk6 (fun h_ => h_.elim (fun h2 => (HO1.out _ h2).2.1 rfl) (fun h2 => by
          have e1 := HY1.out; rw [h2, HG1.out] at e1; injection e1 with e2; injection e2 with _ e3; exact absurd e3 (by decide)))
      ·
        rw [hw6]; exact one_setCell HG5.out
      ·
        have hs6 : w6.heap.size = w5.heap.size := by rw [hw6]; simp [World.setCell]
        rw [hw6]
        refine Kd.S_mono (Kd.S_far HS5.out ?_ _) (fun k_ h_ => ⟨h_.1, ?_, by rw [← hw6, hs6]; exact h_.2.2.1⟩)
        ·
          exact fun k_ h_ => h_.1.elim (fun h2 => (HO1.out _ h2).1) (fun h2 => h2.elim (fun h3 h4 => by have := HLG.out; have h4' : k_ = go := h4; omega) (fun h3 => (HPO.out k_ h3).2.1))
        ·
          exact h_.1.elim (fun h2 => ⟨(HO1.out _ h2).1, (HO1.out _ h2).2.1⟩) (fun h2 => h2.elim (fun h3 => ⟨fun h4 => by have := HLG.out; omega, fun h4 => by have := HLY.out; omega⟩) (fun h3 => (HPO.out k_ h3).2))
    ·
      rw [if_neg c2] at h
      exact absurd h (by simp)
  ·
    rw [if_neg c1] at h; have c1b0 := beq_eq_false_iff_ne.mpr c1; clear c1
    by_cases c3 : (p.length : Int) > 0
    ·
      rw [if_pos c3] at h; have H' := Az h; have c3b0 := decide_eq_true c3; have c3b1 : decide (p.length > 0) = true := decide_eq_true (by omega)
      have hq0 : 0 ≤ (p.length : Int) - 1 := by omega
      have hq1 : (p.length : Int) - 1 < (p.length : Int) := by omega
      have hml := (Kd.R_reads' HP.out).2.2.2.1; obtain ⟨ad, eA, hx⟩ := Kd.at_int (Kd.R_reads' HP.out).2.2 ((p.length : Int) - 1) hq0 hq1; subst eA; have hw1 : wrap64 ((p.length : Int) - 1) = (p.length : Int) - 1 := Go.IntWalk.wrap64_in _ ⟨by omega, by omega⟩; have p5 := eq_true hq0; have q5 := eq_true hq1
      have hx2 : w.cell? (ad.add (p.length - 1)) = some (.int .i64 (rd p ((p.length : Int) - 1))) := by rw [← hx]; congr 2; omega
      have hl9 : (p.length - 1 < p.length) = True := eq_true (by omega); obtain ⟨q0, hji⟩ : ∃ j_ : Int, (mn left (rd p ((p.length : Int) - 1))) = j_ := ⟨_, rfl⟩; rw [hji] at H'; have hjiw : (if rd p ((p.length : Int) - 1) < left then rd p ((p.length : Int) - 1) else left) = q0 := hji; clear h c3 hji
      go_enter Try.func143, Try.ntmps143
      go_wp2
      go_loopg [7] k (fun kq v7 w' => ∃ (q : Int) (L1 : List (List Int)) (ok1 : Nat → Prop), v7 = .int .i64 q ∧ Aside0 (paL kq L1 p left q = some L') ∧ Aside0 (kq ≤ k) ∧ Aside0 (paI w0 go gy L1 w' ok1) ∧ Aside0 (∀ k_, ok1 k_ → ok k_ ∨ w.heap.size ≤ k_) ∧ Aside0 (Kept w w' (fun k_ => ok k_ ∨ k_ = go)))
      case atStart => exact ⟨q0, L, ok, rfl, H', ⟨Nat.le_refl _⟩, HIV, ⟨fun k_ h => Or.inl h⟩, ⟨Kept.refl w _⟩⟩
      case round =>
       clear H' HIV HB; obtain ⟨q, L1, ok1, rfl, HA, HK1, HIV, HOK, HKP⟩ := hrel
       cases gk with
       | zero => exact absurd HA.out (by simp [paL])
       | succ k1 =>
        have H := HA.out; clear HA; simp only [paL] at H; obtain ⟨wB, hwB⟩ : ∃ W_ : World, W_ = wr := ⟨wr, rfl⟩; have HB : Aside0 (Below wB.heap.size wB wr) := ⟨by rw [hwB]; exact Below.refl _ _⟩; replace HIV : Aside0 (paI w0 go gy L1 wB ok1) := ⟨by rw [hwB]; exact HIV.out⟩; replace HKP : Aside0 (Kept w wB (fun k_ => ok k_ ∨ k_ = go)) := ⟨by rw [hwB]; exact HKP.out⟩; have HP' : Aside0 (Kd.R (Kd.int .i64) 3 wB w0.heap.size okp (.slice (some ad) p.length c0) p) := ⟨Kd.R_kept HP.out HKP.out (fun k_ h2 h3 => h3.elim (HPO.out k_ h2).1 (HPO.out k_ h2).2.1)⟩; have BY := Az HIV.out.2.1; have LGO : Aside0 (go < wB.heap.size) := ⟨by obtain ⟨v_, h_, _⟩ := HIV.out.2.2.1; exact blk_lt h_⟩; clear hwB
        by_cases c7 : q ≥ 1
        ·
          rw [if_pos c7] at H; have c7b0 := decide_eq_true c7; clear c7
          by_cases c9 : p.length + 1 < 17592186044416
          ·
            rw [if_pos c9] at H; obtain ⟨L2, A110, H⟩ := Option.bind_eq_some_iff.mp H; have A11 := Az A110; clear A110; have H' := Az H; have LM9 := Az c9; clear H c9
            go_wp2
            refine start_ (n := 10) (S := fun w' => w'.cell? ⟨gy, 0, none⟩ = some (.func (.func 143) #[] #[.pointer (some ⟨go, 0, none⟩), .pointer (some ⟨gy, 0, none⟩)])) (ds := []) #[false, false, false, false, false, false, false, false, false, false] (by kernel_rfl) rfl rfl (pw_cell_below (bU0 HB.out) ((blk_cell BY.out 0).trans rfl)) (fun hHeld => ?_)
            refine pure_ (i := 1) (N := some 32) (v := ?_) (a' := ?_) #[false, true, false, false, false, false, false, false, false, false] rfl rfl (by kernel_rfl) (fun _ _ _ h => h) (Or.inl ⟨by rfl, ?_⟩) ?_ ?_
            rotate_left
            ·
             intro w'
             go_simp
             with_reducible rfl
            rotate_left
            ·
             simp only [Act.put, List.setIfInBounds_toArray, List.set_cons_zero, List.set_cons_succ, i64_w, i32_w]
             rfl
            refine pure_ (i := 3) (N := some 34) (v := ?_) (a' := ?_) #[false, true, false, true, false, false, false, false, false, false] rfl rfl (by kernel_rfl) (fun _ _ _ h => h) (Or.inl ⟨by rfl, ?_⟩) ?_ ?_
            rotate_left
            ·
             intro w'
             go_simp
             with_reducible rfl
            rotate_left
            ·
             simp only [Act.put, List.setIfInBounds_toArray, List.set_cons_zero, List.set_cons_succ, i64_w, i32_w]
             rfl
            refine pure_ (i := 6) (N := some 37) (v := ?_) (a' := ?_) #[false, true, false, true, false, false, true, false, false, false] rfl rfl (by kernel_rfl) (fun _ _ _ h => h) (Or.inl ⟨by rfl, ?_⟩) ?_ ?_
            rotate_left
            ·
             intro w'
             go_simp
             with_reducible rfl
            rotate_left
            ·
             simp only [Act.put, List.setIfInBounds_toArray, List.set_cons_zero, List.set_cons_succ, i64_w, i32_w]
             rfl
            refine pure_ (i := 7) (N := some 38) (v := ?_) (a' := ?_) #[false, true, false, true, false, false, true, true, false, false] rfl rfl (by kernel_rfl) (fun _ _ _ h => h) (Or.inl ⟨by rfl, ?_⟩) ?_ ?_
            rotate_left
            ·
             intro w'
             go_simp
             with_reducible rfl
            rotate_left
            ·
             simp only [Act.put, List.setIfInBounds_toArray, List.set_cons_zero, List.set_cons_succ, i64_w, i32_w]
             rfl
            refine pure_ (i := 8) (N := some 39) (v := ?_) (a' := ?_) #[false, true, false, true, false, false, true, true, true, false] rfl rfl (by kernel_rfl) (fun _ _ _ h => h) (Or.inl ⟨by rfl, ?_⟩) ?_ ?_
            rotate_left
            ·
             intro w'
             go_simp
             with_reducible rfl
            rotate_left
            ·
             simp only [Act.put, List.setIfInBounds_toArray, List.set_cons_zero, List.set_cons_succ, i64_w, i32_w]
             rfl
            refine take_ (i := 0) (N := some 31) (v := ?_) (a' := ?_) #[true, true, false, true, false, false, true, true, true, false] rfl rfl (by kernel_rfl) (fun _ _ _ h => h) (Or.inl ⟨by rfl, ?_⟩) hHeld ?_ ?_
            rotate_left
            ·
             intro w' s0
             go_simp
             with_reducible rfl
            rotate_left
            ·
             simp only [Act.put, List.setIfInBounds_toArray, List.set_cons_zero, List.set_cons_succ, i64_w, i32_w]
             rfl
            refine join_ (σ := Value × Value) 2 #[true, true, true, true, true, false, true, true, true, false] (fun s_ => [(33, s_.1), (35, s_.2)]) (fun s_ w' => (w'.cell? ⟨gy, 0, none⟩ = some (.func (.func 143) #[] #[.pointer (some ⟨go, 0, none⟩), .pointer (some ⟨gy, 0, none⟩)])) ∧ (Kd.R (Kd.int .i64) 3 w' wB.heap.size (fun q => some q ≠ (s_.2 : Value).ownBlock) s_.1 p) ∧ (Kd.R (Kd.int .i64) 3 w' wB.heap.size (fun q => some q ≠ (s_.1 : Value).ownBlock) s_.2 [q]) ∧ (Below wB.heap.size wB w')) ?_ ?_
            rotate_left
            ·
             intro hCont
             refine two_ (i := 2) (j := 4) (Ni := some 33) (Nj := some 35) #[true, true, true, true, false, false, true, true, true, false] #[true, true, false, true, true, false, true, true, true, false] rfl rfl rfl rfl (by kernel_rfl) (by decide) (by decide) (fun K hK => ?_) (fun K hK => ?_)
             ·
              refine goes_ Try.func68 (by kernel_rfl) rfl #[.slice (some ad) p.length c0] (by rfl) rfl rfl (by (try simp only [List.map_toArray, List.map_cons, List.map_nil]); first | done | rfl) ?_
              refine (slices_Clone_int_int.calls (some ad) c0 p p _ (Kd.C_below (Kd.R_reads' HP'.out).2.2 (bU0 HB.out)) (Kd.R_reads' HP'.out).2.1 (if_pos (Nat.lt_of_succ_lt LM9.out))).mono ?_
              rintro e w3 ⟨v2, rfl, ho, hb⟩
              refine ⟨_, rfl, ?_⟩
              have HO2 : Aside0 (Kd.R (Kd.int .i64) 3 w3 wB.heap.size (fun _ => True) v2 p) := ⟨Kd.R_lower ho (below_size (bU0 HB.out))⟩; have n0 := Az (below_step (bU0 HB.out) hb); clear HB; have HB := n0; clear n0 ho hb
              refine hK.out _ _ (pw_cell_below (bU0 HB.out) ((blk_cell BY.out 0).trans rfl)) (fun hHeld => ?_)
              clear hK K
              refine norm_ (a' := ?_) ?_ ?_
              rotate_left
              ·
               show Act.put _ (some 33) _ = _
               simp only [Act.put, List.setIfInBounds_toArray, List.set_cons_zero, List.set_cons_succ, i64_w, i32_w]
               rfl
              refine one_ (i := 4) (N := some 35) #[true, true, true, true, true, false, true, true, true, false] rfl rfl (by kernel_rfl) (by decide) (fun K hK => ?_)
              refine Kd.R_lit_step (Kd.int .i64) wB.heap.size 3 (by rfl) (N := 35) rfl (xs := [q]) (inner := [.int .i64 q]) (ok := fun k_ => (wB.heap.size ≤ k_) ∧ some k_ ≠ (v2 : Value).ownBlock) (okp := fun _ => False) ?hr ?hp (fun _ h2 => h2.elim) ?hf (bU0 HB.out) (below_size (bU0 HB.out)) (by simp) ?_
              (case hr => first | (go_simp; done) | (go_simp; rfl))
              (case hp => exact Reps.one (show Kd.M (Kd.int .i64) _ _ _ q [.int .i64 q] from rfl) (Reps.none _ _))
              (case hf => exact ⟨below_size (bU0 HB.out), fun e_ => by have := Kd.R_lt HO2.out _ e_.symm; omega⟩)
              intro v4 w4 ho hb hg_ hnew_
              refine hK.out _ _ (pw_cell_below hb ((blk_cell BY.out 0).trans rfl)) (fun hHeld => ?_)
              clear hK K
              refine norm_ (a' := ?_) ?_ ?_
              rotate_left
              ·
               show Act.put _ (some 35) _ = _
               simp only [Act.put, List.setIfInBounds_toArray, List.set_cons_zero, List.set_cons_succ, i64_w, i32_w]
               rfl
              exact norm_ (by simp only [putAll, Act.put, List.setIfInBounds_toArray, List.set_cons_zero, List.set_cons_succ]) (hCont (v2, v4) _ ⟨hHeld, Kd.R_mono (Kd.R_grown (Kd.R_tight rfl HO2.out) hg_ (fun _ _ h2 => by cases h2)) (fun k_ h2 h3 => (ho.1 k_ h3.symm).2 h2), Kd.R_mono ho (fun k_ h2 => h2.2), hb⟩)
             ·
              refine Kd.R_lit_step (Kd.int .i64) wB.heap.size 3 (by rfl) (N := 35) rfl (xs := [q]) (inner := [.int .i64 q]) (ok := fun k_ => (wB.heap.size ≤ k_) ∧ True) (okp := fun _ => False) ?hr ?hp (fun _ h2 => h2.elim) ?hf (bU0 HB.out) (below_size (bU0 HB.out)) (by simp) ?_
              (case hr => first | (go_simp; done) | (go_simp; rfl))
              (case hp => exact Reps.one (show Kd.M (Kd.int .i64) _ _ _ q [.int .i64 q] from rfl) (Reps.none _ _))
              (case hf => exact ⟨below_size (bU0 HB.out), trivial⟩)
              intro v4 w3 ho hb hg_ hnew_
              have HO4 := Az ho; clear HB; have HB := Az hb; clear ho hb hg_ hnew_
              refine hK.out _ _ (pw_cell_below (bU0 HB.out) ((blk_cell BY.out 0).trans rfl)) (fun hHeld => ?_)
              clear hK K
              refine norm_ (a' := ?_) ?_ ?_
              rotate_left
              ·
               show Act.put _ (some 35) _ = _
               simp only [Act.put, List.setIfInBounds_toArray, List.set_cons_zero, List.set_cons_succ, i64_w, i32_w]
               rfl
              refine one_ (i := 2) (N := some 33) #[true, true, true, true, true, false, true, true, true, false] rfl rfl (by kernel_rfl) (by decide) (fun K hK => ?_)
              refine goes_ Try.func68 (by kernel_rfl) rfl #[.slice (some ad) p.length c0] (by rfl) rfl rfl (by (try simp only [List.map_toArray, List.map_cons, List.map_nil]); first | done | rfl) ?_
              refine (slices_Clone_int_int.calls (some ad) c0 p p _ (Kd.C_below (Kd.R_reads' HP'.out).2.2 (bU0 HB.out)) (Kd.R_reads' HP'.out).2.1 (if_pos (Nat.lt_of_succ_lt LM9.out))).mono ?_
              rintro e w4 ⟨v2, rfl, ho, hb⟩
              refine ⟨_, rfl, ?_⟩
              have HO5 := Az (Kd.R_elder' HO4.out (Kd.R_base ho) hb); have HO2 := Az (Kd.R_lower (Kd.R_new' ho (Kd.R_lt HO4.out)) (below_size (bU0 HB.out))); have n0 := Az (below_step (bU0 HB.out) hb); clear HB; have HB := n0; clear n0 ho hb
              refine hK.out _ _ (pw_cell_below (bU0 HB.out) ((blk_cell BY.out 0).trans rfl)) (fun hHeld => ?_)
              clear hK K
              refine norm_ (a' := ?_) ?_ ?_
              rotate_left
              ·
               show Act.put _ (some 33) _ = _
               simp only [Act.put, List.setIfInBounds_toArray, List.set_cons_zero, List.set_cons_succ, i64_w, i32_w]
               rfl
              exact norm_ (by simp only [putAll, Act.put, List.setIfInBounds_toArray, List.set_cons_zero, List.set_cons_succ]) (hCont (v2, v4) _ ⟨hHeld, Kd.R_mono HO2.out (fun _ h2 => h2.2), Kd.R_mono HO5.out (fun _ h2 => h2.2), HB.out⟩)
            rintro ⟨v2, v4⟩ w5 ⟨hS_, h0_, h1_, hB_⟩
            obtain ⟨A7, c7, e7⟩ := Kd.R_slice h1_; simp only at e7 h0_ h1_ hB_ hS_; subst e7; have HO2 := Az h0_; have HO4 := Az h1_; clear HB; have HB := Az hB_; clear h0_ h1_ hB_
            refine norm_ (a' := ?_) ?_ ?_
            rotate_left
            ·
             simp only [putAll, Act.put, List.setIfInBounds_toArray, List.set_cons_zero, List.set_cons_succ]
             rfl
            obtain ⟨y8, hy8⟩ : ∃ y_ : List Int, y_ = p ++ [q] := ⟨_, rfl⟩; rw [← hy8] at A11; have Ny8 := Az hy8; clear hy8
            refine one_ (i := 5) (N := some 36) #[true, true, true, true, true, true, true, true, true, false] rfl rfl (by kernel_rfl) (by decide) (fun K hK => ?_)
            refine Kd.R_append_rows_step (Kd.int .i64) (w0 := wB) wB.heap.size (by rfl) (.tmp 33) (.tmp 35) 23 3 (.int .i64 0) 8 rfl Try.underlying23 infoA3 rfl (by decide) (by omega) v2 p [q] A7 [q].length c7 (fun k_ => some k_ ≠ (.slice A7 [q].length c7 : Value).ownBlock) (fun _ => False) rfl rfl HO2.out (Kd.R_reads' HO4.out).2.2 (fun _ _ h => h) (fun _ h => h.elim) (fun k_ hk => Kd.fresh' (Kd.R_lt HO4.out) k_ hk) (bU0 HB.out) (below_size (bU0 HB.out)) (by have := LM9.out; simp only [List.length_cons, List.length_nil]; omega) ?_
            intro v8 w6 ho hb hg hat
            rw [← Ny8.out] at ho; obtain ⟨A8, c8, e8⟩ := Kd.R_slice ho; subst e8; have HO8 := Az (Kd.R_bound ho); clear HB HO2 HO4; have HB := Az hb; clear ho hb hg hat
            refine hK.out _ _ (pw_cell_below (bU0 HB.out) ((blk_cell BY.out 0).trans rfl)) (fun hHeld => ?_)
            clear hK K
            refine norm_ (a' := ?_) ?_ ?_
            rotate_left
            ·
             show Act.put _ (some 36) _ = _
             simp only [Act.put, List.setIfInBounds_toArray, List.set_cons_zero, List.set_cons_succ, i64_w, i32_w]
             rfl
            refine one_ (i := 9) (N := some 40) #[true, true, true, true, true, true, true, true, true, true] rfl rfl (by kernel_rfl) (by decide) (fun K hK => ?_)
            refine goesA_ (f := 143) Try.func143 (by kernel_rfl) rfl #[.slice A8 y8.length c8, .int .i64 (wrap64 (left - q)), .pointer (some ⟨go, 0, none⟩), .pointer (some ⟨gy, 0, none⟩)] (by rfl) rfl rfl (by rfl) (by first | rfl | (simp; done) | (simp; exact ⟨rfl, rfl⟩)) ?_
            refine (IH.out k1 (by have := HK1.out; omega) L1 L2 (wrap64 (left - q)) A8 c8 y8 _ ok1 _ (paI.below HIV.out (bU0 HB.out)) HO8.out ?_ ?_ A11.out).mono ?_
            ·
             exact HIV.out.1.size
            ·
             exact fun k_ h2 => ⟨fun h3 => by have := (HIV.out.2.2.2 k_ h3).2.2; have := h2.2.1; omega, fun h3 => by have := LGO.out; have := h2.2.1; omega, fun h3 => by have := blk_lt BY.out; have := h2.2.1; omega⟩
            rintro e w' ⟨rfl, ok2, i1, i2, i3⟩
            refine ⟨_, rfl, ?_⟩
            have R1 := Az i1; have R2 := Az i2; have R3 := Az i3; clear i1 i2 i3
            refine hK.out _ _ ((blk_cell R1.out.2.1 0).trans rfl) (fun hHeld => ?_)
            clear hK K
            refine norm_ (a' := ?_) ?_ ?_
            rotate_left
            ·
             show Act.put _ (some 40) _ = _
             simp only [Act.put, List.setIfInBounds_toArray, List.set_cons_zero, List.set_cons_succ, i64_w, i32_w]
             rfl
            refine done_ (by kernel_rfl) ?_
            clear hHeld
            try go_wp2
            (first | go_roundg k1 | (refine Handed.intro k1 ?measure ?_; rotate_left; go_step; (try simp only [add_plain]); (repeat apply Exists.intro); refine ⟨?rel, rfl⟩))
            case measure => have := HK1.out; omega
            case rel => exact ⟨(wrap64 (q - 1)), L2, ok2, rfl, H', ⟨by have := HK1.out; omega⟩, R1, ⟨fun k_ h2 => (R2.out k_ h2).elim (HOK.out k_) (fun h3 => Or.inr (h3.elim (fun h4 => Nat.le_trans (Nat.le_trans HKP.out.1 HB.out.size) h4) (fun h4 => Nat.le_trans HKP.out.1 h4.2.1)))⟩, ⟨Kept.then_ (Kept.below HKP.out HB.out) R3.out (fun k_ h2 => h2.elim (fun h3 => (HOK.out k_ h3).imp Or.inl id) (fun h3 => Or.inl (Or.inr h3)))⟩⟩
          ·
            rw [if_neg c9] at H
            exact absurd H (by simp)
        ·
          rw [if_neg c7] at H; have c7b0 := decide_eq_false c7; clear c7; obtain rfl := Option.some.inj H
          go_wp2
          first | go_end0 | ((try simp only [Exit.inBlock, Exit.then]); refine bodyPost_ret (results_none rfl _ _ _) rfl ?_)
          exact ⟨rfl, ok1, paI.below HIV.out (bU0 HB.out), fun k_ h2 => (HOK.out k_ h2).imp id Or.inl, Kept.below HKP.out (bU0 HB.out)⟩
    ·
      rw [if_neg c3] at h; have H' := Az h; have c3b0 := decide_eq_false c3; have c3b1 : decide (p.length > 0) = false := decide_eq_false (by omega); clear h c3
      go_enter Try.func143, Try.ntmps143
      go_wp2
      go_loopg [7] k (fun kq v7 w' => ∃ (q : Int) (L1 : List (List Int)) (ok1 : Nat → Prop), v7 = .int .i64 q ∧ Aside0 (paL kq L1 p left q = some L') ∧ Aside0 (kq ≤ k) ∧ Aside0 (paI w0 go gy L1 w' ok1) ∧ Aside0 (∀ k_, ok1 k_ → ok k_ ∨ w.heap.size ≤ k_) ∧ Aside0 (Kept w w' (fun k_ => ok k_ ∨ k_ = go)))
      case atStart => exact ⟨left, L, ok, rfl, H', ⟨Nat.le_refl _⟩, HIV, ⟨fun k_ h => Or.inl h⟩, ⟨Kept.refl w _⟩⟩
      case round =>
       clear H' HIV HB; obtain ⟨q, L1, ok1, rfl, HA, HK1, HIV, HOK, HKP⟩ := hrel
       cases gk with
       | zero => exact absurd HA.out (by simp [paL])
       | succ k1 =>
        have H := HA.out; clear HA; simp only [paL] at H; obtain ⟨wB, hwB⟩ : ∃ W_ : World, W_ = wr := ⟨wr, rfl⟩; have HB : Aside0 (Below wB.heap.size wB wr) := ⟨by rw [hwB]; exact Below.refl _ _⟩; replace HIV : Aside0 (paI w0 go gy L1 wB ok1) := ⟨by rw [hwB]; exact HIV.out⟩; replace HKP : Aside0 (Kept w wB (fun k_ => ok k_ ∨ k_ = go)) := ⟨by rw [hwB]; exact HKP.out⟩; have HP' : Aside0 (Kd.R (Kd.int .i64) 3 wB w0.heap.size okp (.slice A0 p.length c0) p) := ⟨Kd.R_kept HP.out HKP.out (fun k_ h2 h3 => h3.elim (HPO.out k_ h2).1 (HPO.out k_ h2).2.1)⟩; have BY := Az HIV.out.2.1; have LGO : Aside0 (go < wB.heap.size) := ⟨by obtain ⟨v_, h_, _⟩ := HIV.out.2.2.1; exact blk_lt h_⟩; clear hwB
        by_cases c7 : q ≥ 1
        ·
          rw [if_pos c7] at H; have c7b0 := decide_eq_true c7; clear c7
          by_cases c9 : p.length + 1 < 17592186044416
          ·
            rw [if_pos c9] at H; obtain ⟨L2, A110, H⟩ := Option.bind_eq_some_iff.mp H; have A11 := Az A110; clear A110; have H' := Az H; have LM9 := Az c9; clear H c9
            go_wp2
            refine start_ (n := 10) (S := fun w' => w'.cell? ⟨gy, 0, none⟩ = some (.func (.func 143) #[] #[.pointer (some ⟨go, 0, none⟩), .pointer (some ⟨gy, 0, none⟩)])) (ds := []) #[false, false, false, false, false, false, false, false, false, false] (by kernel_rfl) rfl rfl (pw_cell_below (bU0 HB.out) ((blk_cell BY.out 0).trans rfl)) (fun hHeld => ?_)
            refine pure_ (i := 1) (N := some 32) (v := ?_) (a' := ?_) #[false, true, false, false, false, false, false, false, false, false] rfl rfl (by kernel_rfl) (fun _ _ _ h => h) (Or.inl ⟨by rfl, ?_⟩) ?_ ?_
            rotate_left
            ·
             intro w'
             go_simp
             with_reducible rfl
            rotate_left
            ·
             simp only [Act.put, List.setIfInBounds_toArray, List.set_cons_zero, List.set_cons_succ, i64_w, i32_w]
             rfl
            refine pure_ (i := 3) (N := some 34) (v := ?_) (a' := ?_) #[false, true, false, true, false, false, false, false, false, false] rfl rfl (by kernel_rfl) (fun _ _ _ h => h) (Or.inl ⟨by rfl, ?_⟩) ?_ ?_
            rotate_left
            ·
             intro w'
             go_simp
             with_reducible rfl
            rotate_left
            ·
             simp only [Act.put, List.setIfInBounds_toArray, List.set_cons_zero, List.set_cons_succ, i64_w, i32_w]
             rfl
            refine pure_ (i := 6) (N := some 37) (v := ?_) (a' := ?_) #[false, true, false, true, false, false, true, false, false, false] rfl rfl (by kernel_rfl) (fun _ _ _ h => h) (Or.inl ⟨by rfl, ?_⟩) ?_ ?_
            rotate_left
            ·
             intro w'
             go_simp
             with_reducible rfl
            rotate_left
            ·
             simp only [Act.put, List.setIfInBounds_toArray, List.set_cons_zero, List.set_cons_succ, i64_w, i32_w]
             rfl
            refine pure_ (i := 7) (N := some 38) (v := ?_) (a' := ?_) #[false, true, false, true, false, false, true, true, false, false] rfl rfl (by kernel_rfl) (fun _ _ _ h => h) (Or.inl ⟨by rfl, ?_⟩) ?_ ?_
            rotate_left
            ·
             intro w'
             go_simp
             with_reducible rfl
            rotate_left
            ·
             simp only [Act.put, List.setIfInBounds_toArray, List.set_cons_zero, List.set_cons_succ, i64_w, i32_w]
             rfl
            refine pure_ (i := 8) (N := some 39) (v := ?_) (a' := ?_) #[false, true, false, true, false, false, true, true, true, false] rfl rfl (by kernel_rfl) (fun _ _ _ h => h) (Or.inl ⟨by rfl, ?_⟩) ?_ ?_
            rotate_left
            ·
             intro w'
             go_simp
             with_reducible rfl
            rotate_left
            ·
             simp only [Act.put, List.setIfInBounds_toArray, List.set_cons_zero, List.set_cons_succ, i64_w, i32_w]
             rfl
            refine take_ (i := 0) (N := some 31) (v := ?_) (a' := ?_) #[true, true, false, true, false, false, true, true, true, false] rfl rfl (by kernel_rfl) (fun _ _ _ h => h) (Or.inl ⟨by rfl, ?_⟩) hHeld ?_ ?_
            rotate_left
            ·
             intro w' s0
             go_simp
             with_reducible rfl
            rotate_left
            ·
             simp only [Act.put, List.setIfInBounds_toArray, List.set_cons_zero, List.set_cons_succ, i64_w, i32_w]
             rfl
            refine join_ (σ := Value × Value) 2 #[true, true, true, true, true, false, true, true, true, false] (fun s_ => [(33, s_.1), (35, s_.2)]) (fun s_ w' => (w'.cell? ⟨gy, 0, none⟩ = some (.func (.func 143) #[] #[.pointer (some ⟨go, 0, none⟩), .pointer (some ⟨gy, 0, none⟩)])) ∧ (Kd.R (Kd.int .i64) 3 w' wB.heap.size (fun q => some q ≠ (s_.2 : Value).ownBlock) s_.1 p) ∧ (Kd.R (Kd.int .i64) 3 w' wB.heap.size (fun q => some q ≠ (s_.1 : Value).ownBlock) s_.2 [q]) ∧ (Below wB.heap.size wB w')) ?_ ?_
            rotate_left
            ·
             intro hCont
             refine two_ (i := 2) (j := 4) (Ni := some 33) (Nj := some 35) #[true, true, true, true, false, false, true, true, true, false] #[true, true, false, true, true, false, true, true, true, false] rfl rfl rfl rfl (by kernel_rfl) (by decide) (by decide) (fun K hK => ?_) (fun K hK => ?_)
             ·
              refine goes_ Try.func68 (by kernel_rfl) rfl #[.slice A0 p.length c0] (by rfl) rfl rfl (by (try simp only [List.map_toArray, List.map_cons, List.map_nil]); first | done | rfl) ?_
              refine (slices_Clone_int_int.calls A0 c0 p p _ (Kd.C_below (Kd.R_reads' HP'.out).2.2 (bU0 HB.out)) (Kd.R_reads' HP'.out).2.1 (if_pos (Nat.lt_of_succ_lt LM9.out))).mono ?_
              rintro e w3 ⟨v2, rfl, ho, hb⟩
              refine ⟨_, rfl, ?_⟩
              have HO2 : Aside0 (Kd.R (Kd.int .i64) 3 w3 wB.heap.size (fun _ => True) v2 p) := ⟨Kd.R_lower ho (below_size (bU0 HB.out))⟩; have n0 := Az (below_step (bU0 HB.out) hb); clear HB; have HB := n0; clear n0 ho hb
              refine hK.out _ _ (pw_cell_below (bU0 HB.out) ((blk_cell BY.out 0).trans rfl)) (fun hHeld => ?_)
              clear hK K
              refine norm_ (a' := ?_) ?_ ?_
              rotate_left
              ·
               show Act.put _ (some 33) _ = _
               simp only [Act.put, List.setIfInBounds_toArray, List.set_cons_zero, List.set_cons_succ, i64_w, i32_w]
               rfl
              refine one_ (i := 4) (N := some 35) #[true, true, true, true, true, false, true, true, true, false] rfl rfl (by kernel_rfl) (by decide) (fun K hK => ?_)
              refine Kd.R_lit_step (Kd.int .i64) wB.heap.size 3 (by rfl) (N := 35) rfl (xs := [q]) (inner := [.int .i64 q]) (ok := fun k_ => (wB.heap.size ≤ k_) ∧ some k_ ≠ (v2 : Value).ownBlock) (okp := fun _ => False) ?hr ?hp (fun _ h2 => h2.elim) ?hf (bU0 HB.out) (below_size (bU0 HB.out)) (by simp) ?_
              (case hr => first | (go_simp; done) | (go_simp; rfl))
              (case hp => exact Reps.one (show Kd.M (Kd.int .i64) _ _ _ q [.int .i64 q] from rfl) (Reps.none _ _))
              (case hf => exact ⟨below_size (bU0 HB.out), fun e_ => by have := Kd.R_lt HO2.out _ e_.symm; omega⟩)
              intro v4 w4 ho hb hg_ hnew_
              refine hK.out _ _ (pw_cell_below hb ((blk_cell BY.out 0).trans rfl)) (fun hHeld => ?_)
              clear hK K
              refine norm_ (a' := ?_) ?_ ?_
              rotate_left
              ·
               show Act.put _ (some 35) _ = _
               simp only [Act.put, List.setIfInBounds_toArray, List.set_cons_zero, List.set_cons_succ, i64_w, i32_w]
               rfl
              exact norm_ (by simp only [putAll, Act.put, List.setIfInBounds_toArray, List.set_cons_zero, List.set_cons_succ]) (hCont (v2, v4) _ ⟨hHeld, Kd.R_mono (Kd.R_grown (Kd.R_tight rfl HO2.out) hg_ (fun _ _ h2 => by cases h2)) (fun k_ h2 h3 => (ho.1 k_ h3.symm).2 h2), Kd.R_mono ho (fun k_ h2 => h2.2), hb⟩)
             ·
              refine Kd.R_lit_step (Kd.int .i64) wB.heap.size 3 (by rfl) (N := 35) rfl (xs := [q]) (inner := [.int .i64 q]) (ok := fun k_ => (wB.heap.size ≤ k_) ∧ True) (okp := fun _ => False) ?hr ?hp (fun _ h2 => h2.elim) ?hf (bU0 HB.out) (below_size (bU0 HB.out)) (by simp) ?_
              (case hr => first | (go_simp; done) | (go_simp; rfl))
              (case hp => exact Reps.one (show Kd.M (Kd.int .i64) _ _ _ q [.int .i64 q] from rfl) (Reps.none _ _))
              (case hf => exact ⟨below_size (bU0 HB.out), trivial⟩)
              intro v4 w3 ho hb hg_ hnew_
              have HO4 := Az ho; clear HB; have HB := Az hb; clear ho hb hg_ hnew_
              refine hK.out _ _ (pw_cell_below (bU0 HB.out) ((blk_cell BY.out 0).trans rfl)) (fun hHeld => ?_)
              clear hK K
              refine norm_ (a' := ?_) ?_ ?_
              rotate_left
              ·
               show Act.put _ (some 35) _ = _
               simp only [Act.put, List.setIfInBounds_toArray, List.set_cons_zero, List.set_cons_succ, i64_w, i32_w]
               rfl
              refine one_ (i := 2) (N := some 33) #[true, true, true, true, true, false, true, true, true, false] rfl rfl (by kernel_rfl) (by decide) (fun K hK => ?_)
              refine goes_ Try.func68 (by kernel_rfl) rfl #[.slice A0 p.length c0] (by rfl) rfl rfl (by (try simp only [List.map_toArray, List.map_cons, List.map_nil]); first | done | rfl) ?_
              refine (slices_Clone_int_int.calls A0 c0 p p _ (Kd.C_below (Kd.R_reads' HP'.out).2.2 (bU0 HB.out)) (Kd.R_reads' HP'.out).2.1 (if_pos (Nat.lt_of_succ_lt LM9.out))).mono ?_
              rintro e w4 ⟨v2, rfl, ho, hb⟩
              refine ⟨_, rfl, ?_⟩
              have HO5 := Az (Kd.R_elder' HO4.out (Kd.R_base ho) hb); have HO2 := Az (Kd.R_lower (Kd.R_new' ho (Kd.R_lt HO4.out)) (below_size (bU0 HB.out))); have n0 := Az (below_step (bU0 HB.out) hb); clear HB; have HB := n0; clear n0 ho hb
              refine hK.out _ _ (pw_cell_below (bU0 HB.out) ((blk_cell BY.out 0).trans rfl)) (fun hHeld => ?_)
              clear hK K
              refine norm_ (a' := ?_) ?_ ?_
              rotate_left
              ·
               show Act.put _ (some 33) _ = _
               simp only [Act.put, List.setIfInBounds_toArray, List.set_cons_zero, List.set_cons_succ, i64_w, i32_w]
               rfl
              exact norm_ (by simp only [putAll, Act.put, List.setIfInBounds_toArray, List.set_cons_zero, List.set_cons_succ]) (hCont (v2, v4) _ ⟨hHeld, Kd.R_mono HO2.out (fun _ h2 => h2.2), Kd.R_mono HO5.out (fun _ h2 => h2.2), HB.out⟩)
            rintro ⟨v2, v4⟩ w5 ⟨hS_, h0_, h1_, hB_⟩
            obtain ⟨A7, c7, e7⟩ := Kd.R_slice h1_; simp only at e7 h0_ h1_ hB_ hS_; subst e7; have HO2 := Az h0_; have HO4 := Az h1_; clear HB; have HB := Az hB_; clear h0_ h1_ hB_
            refine norm_ (a' := ?_) ?_ ?_
            rotate_left
            ·
             simp only [putAll, Act.put, List.setIfInBounds_toArray, List.set_cons_zero, List.set_cons_succ]
             rfl
            obtain ⟨y8, hy8⟩ : ∃ y_ : List Int, y_ = p ++ [q] := ⟨_, rfl⟩; rw [← hy8] at A11; have Ny8 := Az hy8; clear hy8
            refine one_ (i := 5) (N := some 36) #[true, true, true, true, true, true, true, true, true, false] rfl rfl (by kernel_rfl) (by decide) (fun K hK => ?_)
            refine Kd.R_append_rows_step (Kd.int .i64) (w0 := wB) wB.heap.size (by rfl) (.tmp 33) (.tmp 35) 23 3 (.int .i64 0) 8 rfl Try.underlying23 infoA3 rfl (by decide) (by omega) v2 p [q] A7 [q].length c7 (fun k_ => some k_ ≠ (.slice A7 [q].length c7 : Value).ownBlock) (fun _ => False) rfl rfl HO2.out (Kd.R_reads' HO4.out).2.2 (fun _ _ h => h) (fun _ h => h.elim) (fun k_ hk => Kd.fresh' (Kd.R_lt HO4.out) k_ hk) (bU0 HB.out) (below_size (bU0 HB.out)) (by have := LM9.out; simp only [List.length_cons, List.length_nil]; omega) ?_
            intro v8 w6 ho hb hg hat
            rw [← Ny8.out] at ho; obtain ⟨A8, c8, e8⟩ := Kd.R_slice ho; subst e8; have HO8 := Az (Kd.R_bound ho); clear HB HO2 HO4; have HB := Az hb; clear ho hb hg hat
            refine hK.out _ _ (pw_cell_below (bU0 HB.out) ((blk_cell BY.out 0).trans rfl)) (fun hHeld => ?_)
            clear hK K
            refine norm_ (a' := ?_) ?_ ?_
            rotate_left
            ·
             show Act.put _ (some 36) _ = _
             simp only [Act.put, List.setIfInBounds_toArray, List.set_cons_zero, List.set_cons_succ, i64_w, i32_w]
             rfl
            refine one_ (i := 9) (N := some 40) #[true, true, true, true, true, true, true, true, true, true] rfl rfl (by kernel_rfl) (by decide) (fun K hK => ?_)
            refine goesA_ (f := 143) Try.func143 (by kernel_rfl) rfl #[.slice A8 y8.length c8, .int .i64 (wrap64 (left - q)), .pointer (some ⟨go, 0, none⟩), .pointer (some ⟨gy, 0, none⟩)] (by rfl) rfl rfl (by rfl) (by first | rfl | (simp; done) | (simp; exact ⟨rfl, rfl⟩)) ?_
            refine (IH.out k1 (by have := HK1.out; omega) L1 L2 (wrap64 (left - q)) A8 c8 y8 _ ok1 _ (paI.below HIV.out (bU0 HB.out)) HO8.out ?_ ?_ A11.out).mono ?_
            ·
             exact HIV.out.1.size
            ·
             exact fun k_ h2 => ⟨fun h3 => by have := (HIV.out.2.2.2 k_ h3).2.2; have := h2.2.1; omega, fun h3 => by have := LGO.out; have := h2.2.1; omega, fun h3 => by have := blk_lt BY.out; have := h2.2.1; omega⟩
            rintro e w' ⟨rfl, ok2, i1, i2, i3⟩
            refine ⟨_, rfl, ?_⟩
            have R1 := Az i1; have R2 := Az i2; have R3 := Az i3; clear i1 i2 i3
            refine hK.out _ _ ((blk_cell R1.out.2.1 0).trans rfl) (fun hHeld => ?_)
            clear hK K
            refine norm_ (a' := ?_) ?_ ?_
            rotate_left
            ·
             show Act.put _ (some 40) _ = _
             simp only [Act.put, List.setIfInBounds_toArray, List.set_cons_zero, List.set_cons_succ, i64_w, i32_w]
             rfl
            refine done_ (by kernel_rfl) ?_
            clear hHeld
            try go_wp2
            (first | go_roundg k1 | (refine Handed.intro k1 ?measure ?_; rotate_left; go_step; (try simp only [add_plain]); (repeat apply Exists.intro); refine ⟨?rel, rfl⟩))
            case measure => have := HK1.out; omega
            case rel => exact ⟨(wrap64 (q - 1)), L2, ok2, rfl, H', ⟨by have := HK1.out; omega⟩, R1, ⟨fun k_ h2 => (R2.out k_ h2).elim (HOK.out k_) (fun h3 => Or.inr (h3.elim (fun h4 => Nat.le_trans (Nat.le_trans HKP.out.1 HB.out.size) h4) (fun h4 => Nat.le_trans HKP.out.1 h4.2.1)))⟩, ⟨Kept.then_ (Kept.below HKP.out HB.out) R3.out (fun k_ h2 => h2.elim (fun h3 => (HOK.out k_ h3).imp Or.inl id) (fun h3 => Or.inl (Or.inr h3)))⟩⟩
          ·
            rw [if_neg c9] at H
            exact absurd H (by simp)
        ·
          rw [if_neg c7] at H; have c7b0 := decide_eq_false c7; clear c7; obtain rfl := Option.some.inj H
          go_wp2
          first | go_end0 | ((try simp only [Exit.inBlock, Exit.then]); refine bodyPost_ret (results_none rfl _ _ _) rfl ?_)
          exact ⟨rfl, ok1, paI.below HIV.out (bU0 HB.out), fun k_ h2 => (HOK.out k_ h2).imp id Or.inl, Kept.below HKP.out (bU0 HB.out)⟩
theorem setCellA_new (w : World) (u v : Value) (t : TypeId) : (w.alloc (.cells #[u] t (0, 0))).setCell ⟨w.heap.size, 0, none⟩ v = w.alloc (.cells #[v] t (0, 0)) := (World.setCell_alloc_new _ _ _ _).trans rfl
def impl_PartsAll.f (k : Nat) (a0 : Int) : Option (List (List Int) × Bool) := if a0 < 1 then some ([], false) else (if a0 > 6 then some ([], false) else ((paG k [] [] a0).bind fun L => some (L, true)))
theorem impl_PartsAll.mono : ∀ a0 k, LeO (impl_PartsAll.f k a0) (impl_PartsAll.f (k + 1) a0) := by
  intro a0 k
  unfold impl_PartsAll.f
  repeat' first
    | (with_reducible exact (paG.mono_l k).1 _ _ _)
    | (with_reducible exact LeO.refl _)
    | (with_reducible refine LeO.ite ?_ ?_)
    | (with_reducible refine LeO.bind ?_ (fun _ => ?_))
set_option maxHeartbeats 8000000 in
set_option maxRecDepth 100000 in
theorem impl_PartsAll.calls (k : Nat) (a0 : Int) (r1 : List (List Int)) (r2 : Bool) (w : World) (h : impl_PartsAll.f k a0 = some (r1, r2)) :
    Calls Try.prog 110 #[.int .i64 a0] w fun e w' => ∃ v0_ : Value, e = .returned (.tuple #[v0_, .bool r2]) ∧ Kd.S (Kd.slice 3 (Kd.int .i64)) 23 w' w.heap.size (fun _ => True) v0_ r1 ∧ Below w.heap.size w w' := by
  have HB := Az (Below.refl w.heap.size w)
  unfold impl_PartsAll.f at h
  by_cases c1 : a0 < 1
  ·
    rw [if_pos c1] at h; have c1b0 := decide_eq_true c1; simp only [Option.some.injEq, Prod.mk.injEq] at h; obtain ⟨rfl, rfl⟩ := h; clear c1
    go_enter Try.func110, Try.ntmps110
    go_wp2
    go_ret2
    exact ⟨_, rfl, Kd.S_nil _ _ _ _ _, (bU0 HB.out)⟩
  ·
    rw [if_neg c1] at h; have c1b0 := decide_eq_false c1; clear c1
    by_cases c2 : a0 > 6
    ·
      rw [if_pos c2] at h; have c2b0 := decide_eq_true c2; simp only [Option.some.injEq, Prod.mk.injEq] at h; obtain ⟨rfl, rfl⟩ := h; clear c2
      go_enter Try.func110, Try.ntmps110
      go_wp2
      go_ret2
      exact ⟨_, rfl, Kd.S_nil _ _ _ _ _, (bU0 HB.out)⟩
    ·
      rw [if_neg c2] at h; have c2b0 := decide_eq_false c2; obtain ⟨L, A10, h⟩ := Option.bind_eq_some_iff.mp h; simp only [Option.some.injEq, Prod.mk.injEq] at h; obtain ⟨rfl, rfl⟩ := h; have A1 := Az A10; clear A10 c2
      go_enter Try.func110, Try.ntmps110
      go_wp2_with (first | ((with_reducible refine gate_dst (N := 12) rfl ?_); refine Kd.S_lit (Kd.slice 3 (Kd.int .i64)) _ 23 ?hg (N := 12) ?hd (xs := ([] : List (List Int))) (inner := []) (ok := fun _ => True) (okp := fun _ => True) ?hr ?hp (fun _ hk => hk) trivial (Below.refl _ _) (Nat.le_refl _) (by simp) ?_; (case hd => rfl); (case hg => rfl); (case hr => first | (go_simp; done) | (go_simp; rfl)); (case hp => exact (Reps.none _ _)); intro v1 w2 ho hb hg_ hnew_; have HO := Az (Kd.S_mono (Kd.S_bound ho) (ok' := fun q => w.heap.size ≤ q ∧ q < w2.heap.size) (fun q hq => ⟨hq.2.1, hq.2.2.1⟩)); have n0 := Az (below_step HB.out hb); clear HB ho hb hg_ hnew_; have HB := n0; clear n0) | ((with_reducible refine gate_store (p := 4) (t := 45) rfl ?_); refine store_event (w1 := w2.alloc (.cells #[v1] 45 (0, 0))) rfl rfl rfl ?hr ?_; (case hr => (obtain ⟨Av, cv, ev⟩ := Kd.S_slice HO.out; subst ev; first | (go_simp; done) | (go_simp; first | exact setCellA_new _ _ _ _ | (rw [run_store _ _ _ _ _ rfl]; simp [stored]; exact setCellA_new _ _ _ _)))); intro w4 hw4; have hb4 : Below w2.heap.size w2 w4 := (by rw [hw4]; exact below_alloc (Below.refl _ _) _); have B_go := Az ((by rw [hw4]; exact blk_new w2 _) : w4.heap[w2.heap.size]? = some (.cells #[v1] 45 (0, 0))); have m3 := Az (below_step HB.out hb4); have m4 := Az (Kd.S_below HO.out hb4); have HG0 := Az (below_size HB.out); clear HB HO hb4 hw4; have HB := m3; have HO := m4; clear m3 m4; obtain ⟨go, hgo⟩ : ∃ g_ : Nat, g_ = w2.heap.size := ⟨_, rfl⟩; rw [← hgo] at B_go HO HG0 ⊢; clear hgo) | ((with_reducible refine gate_store (p := 5) (t := 101) rfl ?_); refine store_event (w1 := w4.alloc (.cells #[.func (.func 143) #[] #[.pointer (some ⟨go, 0, none⟩), .pointer (some ⟨w4.heap.size, 0, none⟩)]] 101 (0, 0))) rfl rfl rfl ?hr ?_; (case hr => first | (go_simp; done) | (go_simp; rw [run_store _ _ _ _ _ rfl]; simp [stored]; exact setCellA_new _ _ _ _)); intro w8 hw8; have hb8 : Below w4.heap.size w4 w8 := (by rw [hw8]; exact below_alloc (Below.refl _ _) _); have B_gy0 : w8.heap[w4.heap.size]? = some (.cells #[.func (.func 143) #[] #[.pointer (some ⟨go, 0, none⟩), .pointer (some ⟨w4.heap.size, 0, none⟩)]] 101 (0, 0)) := (by rw [hw8]; exact blk_new w4 _); have LGO := Az (blk_lt B_go.out); clear hw8; obtain ⟨gy, hgy⟩ : ∃ g_ : Nat, g_ = w4.heap.size := ⟨_, rfl⟩; rw [← hgy] at B_gy0 LGO ⊢; have B_gy := Az B_gy0; have m1 := Az (blk_below B_go.out hb8); have m3 := Az (below_step HB.out hb8); have m4 := Az (Kd.S_below HO.out hb8); have HS8 := Az hb8.size; clear B_gy0 hgy hb8 B_go HB HO; have B_go := m1; have HB := m3; have HO := m4; clear m1 m3 m4; have hcz1 : w8.cell? ⟨gy, 0, none⟩ = some (.func (.func 143) #[] #[.pointer (some ⟨go, 0, none⟩), .pointer (some ⟨gy, 0, none⟩)]) := (blk_cell B_gy.out 0).trans rfl) | (go_at_call 143; go_loud (refine (part1.calls w go gy HG0.out k [] L a0 none 0 [] w8 (fun q => w.heap.size ≤ q ∧ q < go) (fun _ => False) ⟨HB.out, B_gy.out, ⟨v1, B_go.out, HO.out⟩, fun q hq => ⟨fun e_ => by have := hq.2; omega, fun e_ => by have := hq.2; have := LGO.out; omega, by have := hq.2; have := blk_lt B_go.out; omega⟩⟩ (Kd.R_nil _ _ _ _ _) (Nat.le_refl w.heap.size) (fun _ h2 => h2.elim) A1.out).mono ?_; rintro e w9 ⟨rfl, ok', ⟨i1, i2, ⟨v9, i3, i4⟩, i5⟩, i6, i7⟩; obtain ⟨A9, c9, e9⟩ := Kd.S_slice i4; subst e9; have R1 := Az i1; have R4 := Az i4; have hcz2 : w9.cell? ⟨go, 0, none⟩ = some (.slice A9 L.length c9) := (blk_cell i3 0).trans rfl; clear i1 i2 i3 i4 i5 i6 i7 hcz1)))
      go_ret2
      exact ⟨_, rfl, Kd.S_mono R4.out (fun _ _ => trivial), R1.out⟩
mutual
def impl_conjugate.l0 : Nat → List Int → List Int → Int → Int → Option (List Int)
 | 0, _, _, _, _ => none
 | k + 1, x3, x11, x12, x13 => if x13 < x12 then (if 0 ≤ x13 then (if x13 < (x11.length : Int) then (impl_conjugate.l1 k x3 x11 x12 x13 (rd x11 x13) 0) else (none)) else (none)) else (some x3)
def impl_conjugate.l1 : Nat → List Int → List Int → Int → Int → Int → Int → Option (List Int)
 | 0, _, _, _, _, _, _ => none
 | k + 1, x3, x11, x12, x13, x17, x18 => if x18 < x17 then (if 0 ≤ x18 then (if x18 < (x3.length : Int) then (impl_conjugate.l1 k (x3.set (x18 : Int).toNat (wrap64 ((rd x3 x18) + 1))) x11 x12 x13 x17 (wrap64 (x18 + 1))) else (none)) else (none)) else (impl_conjugate.l0 k x3 x11 x12 (wrap64 (x13 + 1)))
end
def impl_conjugate.f (k : Nat) (l0 : List Int) : Option (List Int) := if 0 < (l0.length : Int) then (if 0 ≤ (rd l0 0) then (if (rd l0 0 : Int).toNat ≤ 35184372088832 then (impl_conjugate.l0 k (List.replicate (rd l0 0 : Int).toNat 0) l0 (l0.length : Int) 0) else (none)) else (none)) else (none)
theorem impl_conjugate.mono_l : ∀ k, (∀ y0 y1 y2 y3, LeO (impl_conjugate.l0 k y0 y1 y2 y3) (impl_conjugate.l0 (k + 1) y0 y1 y2 y3)) ∧ (∀ y0 y1 y2 y3 y4 y5, LeO (impl_conjugate.l1 k y0 y1 y2 y3 y4 y5) (impl_conjugate.l1 (k + 1) y0 y1 y2 y3 y4 y5))
 | 0 => ⟨fun _ _ _ _ r h => by simp [impl_conjugate.l0] at h, fun _ _ _ _ _ _ r h => by simp [impl_conjugate.l1] at h⟩
 | k + 1 => by
  obtain ⟨ih0, ih1⟩ := impl_conjugate.mono_l k
  refine ⟨?_, ?_⟩
  ·
   intro y0 y1 y2 y3
   unfold impl_conjugate.l0
   repeat' first
   | (with_reducible exact ih0 _ _ _ _)
   | (with_reducible exact ih1 _ _ _ _ _ _)
   | (with_reducible exact LeO.refl _)
   | (with_reducible exact LeO.none _)
   | (with_reducible refine LeO.ite ?_ ?_)
   | (with_reducible refine LeO.bind ?_ (fun _ => ?_))
   | exact ih0 _ _ _ _
   | exact ih1 _ _ _ _ _ _
   | exact LeO.none _
   | refine LeO.ite ?_ ?_
   | refine LeO.bind ?_ (fun _ => ?_)
  ·
   intro y0 y1 y2 y3 y4 y5
   unfold impl_conjugate.l1
   repeat' first
   | (with_reducible exact ih0 _ _ _ _)
   | (with_reducible exact ih1 _ _ _ _ _ _)
   | (with_reducible exact LeO.refl _)
   | (with_reducible exact LeO.none _)
   | (with_reducible refine LeO.ite ?_ ?_)
   | (with_reducible refine LeO.bind ?_ (fun _ => ?_))
   | exact ih0 _ _ _ _
   | exact ih1 _ _ _ _ _ _
   | exact LeO.none _
   | refine LeO.ite ?_ ?_
   | refine LeO.bind ?_ (fun _ => ?_)
theorem impl_conjugate.mono : ∀ a0 k, LeO (impl_conjugate.f k a0) (impl_conjugate.f (k + 1) a0) := by
 intro a0 k
 obtain ⟨ih0, ih1⟩ := impl_conjugate.mono_l k
 unfold impl_conjugate.f
 repeat' first
   | (with_reducible exact ih0 _ _ _ _)
   | (with_reducible exact ih1 _ _ _ _ _ _)
   | (with_reducible exact LeO.refl _)
   | (with_reducible exact LeO.none _)
   | (with_reducible refine LeO.ite ?_ ?_)
   | (with_reducible refine LeO.bind ?_ (fun _ => ?_))
   | exact ih0 _ _ _ _
   | exact ih1 _ _ _ _ _ _
   | exact LeO.none _
   | refine LeO.ite ?_ ?_
   | refine LeO.bind ?_ (fun _ => ?_)
set_option maxHeartbeats 8000000 in
set_option maxRecDepth 100000 in
theorem impl_conjugate.calls (k : Nat) (A0 : Option Addr) (c0 : Nat) (l0 : List Int) (r : List Int) (w : World) (hr0 : Kd.C (Kd.int .i64) w A0 l0.length l0) (hc0 : l0.length ≤ c0) (h : impl_conjugate.f k l0 = some r) :
  Calls Try.prog 144 #[.slice A0 l0.length c0] w fun e w' => ∃ v0_ : Value, e = .returned (v0_) ∧ Kd.R (Kd.int .i64) 3 w' w.heap.size (fun _ => True) v0_ r ∧ Below w.heap.size w w' := by
 have HR0 := Az hr0; have HC0 := Az hc0; clear hr0 hc0; have HB := Az (Below.refl w.heap.size w); have H : (if 0 < (l0.length : Int) then (if 0 ≤ (rd l0 0) then (if (rd l0 0 : Int).toNat ≤ 35184372088832 then (impl_conjugate.l0 k (List.replicate (rd l0 0 : Int).toNat 0) l0 (l0.length : Int) 0) else (none)) else (none)) else (none)) = some r := h; clear h
 by_cases c2 : 0 < (l0.length : Int)
 ·
  rw [if_pos c2] at H; have c2b0 := decide_eq_true c2; have c2b1 : decide (0 < l0.length) = true := decide_eq_true (by omega); clear c2
  by_cases c3 : 0 ≤ (rd l0 0)
  ·
   rw [if_pos c3] at H; have c3b0 := eq_true c3; have c3b1 := decide_eq_true c3; clear c3
   by_cases c4 : (rd l0 0 : Int).toNat ≤ 35184372088832
   ·
    rw [if_pos c4] at H; have c4b0 := eq_true c4; have c4b1 := decide_eq_true c4; clear c4; obtain ⟨y455, hy455⟩ : ∃ y_ : List Int, y_ = (List.replicate (rd l0 0 : Int).toNat 0) := ⟨_, rfl⟩; replace H : (impl_conjugate.l0 k y455 l0 (l0.length : Int) 0) = some r := hR hy455 H; have Ny455 := Az hy455; clear hy455; have H' := Az H; clear H; have p454 : 0 ≤ (0 : Int) := (by omega); have q454 : 0 < (l0.length : Int) := oA; obtain ⟨ad454, e454, hx454_0⟩ := Kd.at_int HR0.out 0 p454 q454
    cases e454
    have qi454 : (0 < l0.length) = True := eq_true (by omega); (try rw [show ((0 : Int)).toNat = 0 from rfl] at hx454_0); (try rw [Addr.add_zero'] at hx454_0); replace p454 := eq_true p454; replace q454 := eq_true q454
    go_enter Try.func144, Try.ntmps144
    go_wp2_with (first | ((with_reducible refine gate_dst (N := 10) rfl ?_); refine Kd.R_make (Kd.int .i64) _ 3 rfl (N := 10) rfl 23 _ _ rfl (rd l0 0) rfl rfl Try.underlying23 (.int .i64 0) 8 info3 rfl (by decide) (by omega) 0 (ok := fun _ => True) (okp := fun _ => True) rfl (fun _ hk => hk) trivial (oA) (Nat.le_trans (Nat.mul_le_mul_right _ (oA : (rd l0 0).toNat ≤ 35184372088832)) (by omega)) (Below.refl _ _) (Nat.le_refl _) ?_; intro v456 w5 ho6 hb hg_ hnew_; clear hg_ hnew_; (first | rw [← Ny455.out] at ho6 | (simp only [Int.reduceToNat] at ho6; rw [← Ny455.out] at ho6)); have n0 := Az (Kd.R_lower ho6 (below_size (bU0 HB.out))); have n1 := Az (below_step (bU0 HB.out) hb); clear HB; have HO457 := n0; have HB := n1; clear n0 n1; clear hb ho6))
    go_loopg [13] k (fun kq v13 w' => ∃ (x3_1 : List Int) (x13_1 : Int), v13 = .int .i64 x13_1 ∧ Aside0 (impl_conjugate.l0 kq x3_1 l0 (l0.length : Int) x13_1 = some r) ∧ Aside0 (kq ≤ k) ∧ Aside0 (Kd.R (Kd.int .i64) 3 w' w.heap.size (fun _ => True) v456 x3_1) ∧ Aside0 (Below w.heap.size w w'))
    case atStart => exact ⟨(y455), (0), rS, H', ⟨Nat.le_refl _⟩, ⟨rU HO457.out⟩, ⟨bU0 HB.out⟩⟩
    case round =>
     clear H'; (try clear c1); (try clear c2); (try clear c2b0); (try clear c2b1); (try clear p2); (try clear c3); (try clear c3b0); (try clear c3b1); (try clear c4); (try clear c4b0); (try clear c4b1); (try clear p4); (try clear q4); (try clear hx4); (try clear qi4); (try clear hx454_0); (try clear p454); (try clear q454); obtain ⟨x3_1, x13_1, rfl, HA, HK1, HO_3, HB⟩ := hrel
     cases gk with
     | zero => exact absurd HA.out (by simp [impl_conjugate.l0])
     | succ k1 =>
      have H := HA.out; clear HA; simp only [impl_conjugate.l0] at H
      by_cases c7 : x13_1 < (l0.length : Int)
      ·
       rw [if_pos c7] at H; have c7b0 := decide_eq_true c7; clear c7
       by_cases c8 : 0 ≤ x13_1
       ·
        rw [if_pos c8] at H; have c8b0 := decide_eq_true c8; clear c8
        by_cases c9 : x13_1 < (l0.length : Int)
        ·
         rw [if_pos c9] at H; have c9b0 := decide_eq_true c9; clear c9; have H' := Az H; clear H; have p458 : 0 ≤ (x13_1 : Int) := oA; have q458 : x13_1 < (l0.length : Int) := oA; obtain ⟨ad458, e458, hx458_0⟩ := Kd.at_int HR0.out x13_1 p458 q458; obtain rfl : ad454 = ad458 := (by injection e458); (try replace hx458_0 := (HB.out.cell (World.block_lt_of_cell? w _ hx458_0)).trans hx458_0); replace p458 := eq_true p458; replace q458 := eq_true q458
         go_wp2
         go_loopg [18] k1 (fun kq v18 w' => ∃ (x3_2 : List Int) (x18_2 : Int), v18 = .int .i64 x18_2 ∧ Aside0 (impl_conjugate.l1 kq x3_2 l0 (l0.length : Int) x13_1 (rd l0 x13_1) x18_2 = some r) ∧ Aside0 (kq ≤ k1) ∧ Aside0 (Kd.R (Kd.int .i64) 3 w' w.heap.size (fun _ => True) v456 x3_2) ∧ Aside0 (Below w.heap.size w w'))
         case atStart => exact ⟨(x3_1), (0), rS, H', ⟨Nat.le_refl _⟩, ⟨rU HO_3.out⟩, ⟨bU0 HB.out⟩⟩
         case round =>
          clear H'; (try clear c1); (try clear c2); (try clear c2b0); (try clear c2b1); (try clear p2); (try clear c3); (try clear c3b0); (try clear c3b1); (try clear c4); (try clear c4b0); (try clear c4b1); (try clear p4); (try clear q4); (try clear hx4); (try clear qi4); (try clear c7); (try clear c7b0); (try clear c8); (try clear c8b0); (try clear c9); (try clear c9b0); (try clear hx454_0); (try clear hx458_0); (try clear p2); (try clear p4); (try clear p454); (try clear p458); (try clear q4); (try clear q454); (try clear q458); obtain ⟨x3_2, x18_2, rfl, HA, HK2, HO_3, HB⟩ := hrel
          cases gk with
          | zero => exact absurd HA.out (by simp [impl_conjugate.l1])
          | succ k2 =>
           have H := HA.out; clear HA; simp only [impl_conjugate.l1] at H
           by_cases c10 : x18_2 < (rd l0 x13_1)
           ·
            rw [if_pos c10] at H; have c10b0 := decide_eq_true c10; clear c10
            by_cases c11 : 0 ≤ x18_2
            ·
             rw [if_pos c11] at H; have c11b0 := decide_eq_true c11; clear c11
             by_cases c12 : x18_2 < (x3_2.length : Int)
             ·
              rw [if_pos c12] at H; have c12b0 := decide_eq_true c12; clear c12; obtain ⟨y460, hy460⟩ : ∃ y_ : List Int, y_ = (x3_2.set (x18_2 : Int).toNat (wrap64 ((rd x3_2 x18_2) + 1))) := ⟨_, rfl⟩; replace H : (impl_conjugate.l1 k2 y460 l0 (l0.length : Int) x13_1 (rd l0 x13_1) (wrap64 (x18_2 + 1))) = some r := hR hy460 H; have Ny460 := Az hy460; clear hy460; have H' := Az H; clear H; obtain ⟨Ao14, co14, eo14⟩ := Kd.R_slice HO_3.out; subst eo14; have p459 : 0 ≤ (x18_2 : Int) := oA; have q459 : x18_2 < (x3_2.length : Int) := oA; obtain ⟨ad459, e459, hx459_0⟩ := Kd.at_int (Kd.R_reads' HO_3.out).2.2 x18_2 p459 q459
              cases e459
              replace p459 := eq_true p459; replace q459 := eq_true q459; have p13 : 0 ≤ (x18_2 : Int) := oA; have q13 : (x18_2 : Int) < ((x3_2.length : Int) : Int) := oA; obtain ⟨go13, co13, eo13, gb13, gl13, cl13, HG13⟩ := Kd.R_form HO_3.out (by omega); (first | cases eo13 | (injection eo13 with ea_ en_ ec_; (first | subst ea_ | (injection ea_ with ea_; subst ea_)); subst ec_; clear en_)); have GB13 := Az gb13; have GG13 := Az HG13; clear gb13 gl13 HG13; (first | simp only [add_plain] at hx459_0 | skip); obtain ⟨hx13_0, hf13_0⟩ := Kd.R_celln 0 HO_3.out (x18_2 : Int) p13 q13; replace p13 := eq_true p13; replace q13 := eq_true q13; obtain ⟨hy15_, hz15_⟩ := Kd.R_celln 0 HO_3.out (x18_2 : Int) (oA) (oA); have HP15 := Kd.R_putg HO_3.out (x18_2 : Int) (wrap64 ((rd x3_2 x18_2) + 1))
              go_wp2_with (first | ((with_reducible refine gate_store (t := 3) (p := 26) rfl ?_); refine store_event (t := 3) (p := 26) (v := ?vo_w16) (w1 := (wr.setCell ⟨go13, (x18_2 : Int).toNat, none⟩ (.int .i64 (wrap64 ((rd x3_2 x18_2) + 1))))) ?hg ?ho ?hn ?hr ?_; (case ho => rfl); (case hg => rfl); (case hn => rfl); (case hr => first | (go_simp; done) | (go_simp; rfl)); intro w16 hw; have hg : wr.grownBy w16 (some go13) := (by rw [hw]; exact HP15.2); have hp_ : Kd.R (Kd.int .i64) 3 w16 w.heap.size (fun _ => True) (.slice (some ⟨go13, 0, none⟩) x3_2.length co14) y460 := (by rw [hw, Ny460.out]; exact HP15.1); clear HP15; have n0 := Az (hp_); have n1 := Az ((by rw [hw]; exact below_set (HB.out) GB13.out : Below w.heap.size w w16)); clear HO_3 HB; have HO_3 := n0; have HB := n1; clear n0 n1; clear hg hw hp_))
              (first | go_roundg k2 | (refine Handed.intro k2 ?measure ?_; rotate_left; go_step; (try simp only [add_plain]); (repeat apply Exists.intro); refine ⟨?rel, rfl⟩))
              case measure => have := HK1.out; have := HK2.out; omega
              case rel => exact ⟨(y460), (wrap64 (x18_2 + 1)), rS, H', ⟨by have := HK1.out; have := HK2.out; omega⟩, ⟨rU HO_3.out⟩, ⟨bU0 HB.out⟩⟩
             ·
              rw [if_neg c12] at H
              exact absurd H (by simp)
            ·
             rw [if_neg c11] at H
             exact absurd H (by simp)
           ·
            rw [if_neg c10] at H; have c10b0 := decide_eq_false c10; clear c10; have H' := Az H; clear H
            go_wp2
            (first | go_roundg k2 | (refine Handed.intro k2 ?measure ?_; rotate_left; go_step; (try simp only [add_plain]); (repeat apply Exists.intro); refine ⟨?rel, rfl⟩))
            case measure => have := HK1.out; have := HK2.out; omega
            case rel => exact ⟨(x3_2), (wrap64 (x13_1 + 1)), rS, H', ⟨by have := HK1.out; have := HK2.out; omega⟩, ⟨rU HO_3.out⟩, ⟨bU0 HB.out⟩⟩
        ·
         rw [if_neg c9] at H
         exact absurd H (by simp)
       ·
        rw [if_neg c8] at H
        exact absurd H (by simp)
      ·
       rw [if_neg c7] at H; have c7b0 := decide_eq_false c7; clear c7; obtain rfl := Option.some.inj H
       go_wp2
       go_ret
       exact ⟨_, rE, rU HO_3.out, bU0 HB.out⟩
   ·
    rw [if_neg c4] at H
    exact absurd H (by simp)
  ·
   rw [if_neg c3] at H
   exact absurd H (by simp)
 ·
  rw [if_neg c2] at H
  exact absurd H (by simp)
mutual
def impl_CharDegree.l0 : Nat → Int → List Int → List Int → Int → Int → Option (Int)
 | 0, _, _, _, _, _ => none
 | k + 1, x3, x4, x16, x17, x18 => if x18 < x17 then (if 0 ≤ x18 then (if x18 < (x16.length : Int) then (impl_CharDegree.l1 k x3 x4 x18 (rd x16 x18) x16 x17 x18 (rd x16 x18) 0) else (none)) else (none)) else (some x3)
def impl_CharDegree.l1 : Nat → Int → List Int → Int → Int → List Int → Int → Int → Int → Int → Option (Int)
 | 0, _, _, _, _, _, _, _, _, _ => none
 | k + 1, x3, x4, x5, x6, x16, x17, x18, x23, x24 => if x24 < x23 then (if 0 ≤ x24 then (if x24 < (x4.length : Int) then (if (wrap64 ((wrap64 ((wrap64 ((wrap64 (x6 - x24)) + (rd x4 x24))) - x5)) - 1)) = 0 then (none) else (impl_CharDegree.l1 k (wrap64 (Int.tdiv x3 (wrap64 ((wrap64 ((wrap64 ((wrap64 (x6 - x24)) + (rd x4 x24))) - x5)) - 1)))) x4 x5 x6 x16 x17 x18 x23 (wrap64 (x24 + 1)))) else (none)) else (none)) else (impl_CharDegree.l0 k x3 x4 x16 x17 (wrap64 (x18 + 1)))
end
def impl_CharDegree.f (k : Nat) (l0 : List Int) : Option (Int) := (impl_PartsValid.f k l0).bind fun t461 => (if t461 = true then ((impl_sumOf.f k l0).bind fun t462 => ((impl_factorial.f k t462).bind fun t463 => ((impl_conjugate.f k l0).bind fun t464 => (impl_CharDegree.l0 k t463 t464 l0 (l0.length : Int) 0)))) else (some (-1)))
theorem impl_CharDegree.mono_l : ∀ k, (∀ y0 y1 y2 y3 y4, LeO (impl_CharDegree.l0 k y0 y1 y2 y3 y4) (impl_CharDegree.l0 (k + 1) y0 y1 y2 y3 y4)) ∧ (∀ y0 y1 y2 y3 y4 y5 y6 y7 y8, LeO (impl_CharDegree.l1 k y0 y1 y2 y3 y4 y5 y6 y7 y8) (impl_CharDegree.l1 (k + 1) y0 y1 y2 y3 y4 y5 y6 y7 y8))
 | 0 => ⟨fun _ _ _ _ _ r h => by simp [impl_CharDegree.l0] at h, fun _ _ _ _ _ _ _ _ _ r h => by simp [impl_CharDegree.l1] at h⟩
 | k + 1 => by
  obtain ⟨ih0, ih1⟩ := impl_CharDegree.mono_l k
  refine ⟨?_, ?_⟩
  ·
   intro y0 y1 y2 y3 y4
   unfold impl_CharDegree.l0
   repeat' first
   | (with_reducible exact ih0 _ _ _ _ _)
   | (with_reducible exact ih1 _ _ _ _ _ _ _ _ _)
   | (with_reducible exact impl_PartsValid.mono _ _)
   | (with_reducible exact impl_conjugate.mono _ _)
   | (with_reducible exact impl_factorial.mono _ _)
   | (with_reducible exact impl_sumOf.mono _ _)
   | (with_reducible exact LeO.refl _)
   | (with_reducible exact LeO.none _)
   | (with_reducible refine LeO.ite ?_ ?_)
   | (with_reducible refine LeO.bind ?_ (fun _ => ?_))
   | exact ih0 _ _ _ _ _
   | exact ih1 _ _ _ _ _ _ _ _ _
   | exact impl_PartsValid.mono _ _
   | exact impl_conjugate.mono _ _
   | exact impl_factorial.mono _ _
   | exact impl_sumOf.mono _ _
   | exact LeO.none _
   | refine LeO.ite ?_ ?_
   | refine LeO.bind ?_ (fun _ => ?_)
  ·
   intro y0 y1 y2 y3 y4 y5 y6 y7 y8
   unfold impl_CharDegree.l1
   repeat' first
   | (with_reducible exact ih0 _ _ _ _ _)
   | (with_reducible exact ih1 _ _ _ _ _ _ _ _ _)
   | (with_reducible exact impl_PartsValid.mono _ _)
   | (with_reducible exact impl_conjugate.mono _ _)
   | (with_reducible exact impl_factorial.mono _ _)
   | (with_reducible exact impl_sumOf.mono _ _)
   | (with_reducible exact LeO.refl _)
   | (with_reducible exact LeO.none _)
   | (with_reducible refine LeO.ite ?_ ?_)
   | (with_reducible refine LeO.bind ?_ (fun _ => ?_))
   | exact ih0 _ _ _ _ _
   | exact ih1 _ _ _ _ _ _ _ _ _
   | exact impl_PartsValid.mono _ _
   | exact impl_conjugate.mono _ _
   | exact impl_factorial.mono _ _
   | exact impl_sumOf.mono _ _
   | exact LeO.none _
   | refine LeO.ite ?_ ?_
   | refine LeO.bind ?_ (fun _ => ?_)
theorem impl_CharDegree.mono : ∀ a0 k, LeO (impl_CharDegree.f k a0) (impl_CharDegree.f (k + 1) a0) := by
 intro a0 k
 obtain ⟨ih0, ih1⟩ := impl_CharDegree.mono_l k
 unfold impl_CharDegree.f
 repeat' first
   | (with_reducible exact ih0 _ _ _ _ _)
   | (with_reducible exact ih1 _ _ _ _ _ _ _ _ _)
   | (with_reducible exact impl_PartsValid.mono _ _)
   | (with_reducible exact impl_conjugate.mono _ _)
   | (with_reducible exact impl_factorial.mono _ _)
   | (with_reducible exact impl_sumOf.mono _ _)
   | (with_reducible exact LeO.refl _)
   | (with_reducible exact LeO.none _)
   | (with_reducible refine LeO.ite ?_ ?_)
   | (with_reducible refine LeO.bind ?_ (fun _ => ?_))
   | exact ih0 _ _ _ _ _
   | exact ih1 _ _ _ _ _ _ _ _ _
   | exact impl_PartsValid.mono _ _
   | exact impl_conjugate.mono _ _
   | exact impl_factorial.mono _ _
   | exact impl_sumOf.mono _ _
   | exact LeO.none _
   | refine LeO.ite ?_ ?_
   | refine LeO.bind ?_ (fun _ => ?_)
set_option maxHeartbeats 8000000 in
set_option maxRecDepth 100000 in
theorem impl_CharDegree.calls (k : Nat) (A0 : Option Addr) (c0 : Nat) (l0 : List Int) (r : Int) (w : World) (hr0 : Kd.C (Kd.int .i64) w A0 l0.length l0) (hc0 : l0.length ≤ c0) (h : impl_CharDegree.f k l0 = some r) :
  Calls Try.prog 111 #[.slice A0 l0.length c0] w fun e w' => e = .returned (.int .i64 r) ∧ Below w.heap.size w w' := by
 have HR0 := Az hr0; have HC0 := Az hc0; clear hr0 hc0; have HB := Az (Below.refl w.heap.size w); have H : ((impl_PartsValid.f k l0).bind fun t461 => (if t461 = true then ((impl_sumOf.f k l0).bind fun t462 => ((impl_factorial.f k t462).bind fun t463 => ((impl_conjugate.f k l0).bind fun t464 => (impl_CharDegree.l0 k t463 t464 l0 (l0.length : Int) 0)))) else (some (-1)))) = some r := h; clear h; replace H := Option.bind_eq_some_iff.mp H; obtain ⟨t461, A20, H⟩ := H; replace H : (if t461 = true then ((impl_sumOf.f k l0).bind fun t462 => ((impl_factorial.f k t462).bind fun t463 => ((impl_conjugate.f k l0).bind fun t464 => (impl_CharDegree.l0 k t463 t464 l0 (l0.length : Int) 0)))) else (some (-1))) = some r := H; have A2 := Az A20; clear A20
 by_cases c3 : t461 = true
 ·
  subst c3
  have H1 : ((impl_sumOf.f k l0).bind fun t462 => ((impl_factorial.f k t462).bind fun t463 => ((impl_conjugate.f k l0).bind fun t464 => (impl_CharDegree.l0 k t463 t464 l0 (l0.length : Int) 0)))) = some r := by rw [if_pos rfl] at H; exact H
  clear H; have H := H1; clear H1; replace H := Option.bind_eq_some_iff.mp H; obtain ⟨t462, A40, H⟩ := H; replace H : ((impl_factorial.f k t462).bind fun t463 => ((impl_conjugate.f k l0).bind fun t464 => (impl_CharDegree.l0 k t463 t464 l0 (l0.length : Int) 0))) = some r := H; have A4 := Az A40; clear A40; replace H := Option.bind_eq_some_iff.mp H; obtain ⟨t463, A50, H⟩ := H; replace H : ((impl_conjugate.f k l0).bind fun t464 => (impl_CharDegree.l0 k t463 t464 l0 (l0.length : Int) 0)) = some r := H; have A5 := Az A50; clear A50; replace H := Option.bind_eq_some_iff.mp H; obtain ⟨t464, A60, H⟩ := H; replace H : (impl_CharDegree.l0 k t463 t464 l0 (l0.length : Int) 0) = some r := H; have A6 := Az A60; clear A60; have H' := Az H; clear H
  go_enter Try.func111, Try.ntmps111
  go_wp2_with (first | ((with_reducible refine gate_callee (f := 102) rfl ?_); refine goesL_ (some 9) rfl rfl Try.func102 (by kernel_rfl) rfl #[.slice A0 l0.length c0] rfl (by (try simp only [List.map_toArray, List.map_cons, List.map_nil]); first | done | rfl | (simp only [List.length_drop, List.length_take]; rfl)) ?_; (with_reducible refine (impl_PartsValid.calls k _ _ l0 true _ ?side1 ?side2 A2.out).mono ?_); (case side1 => exact cU (HR0.out)); (case side2 => exact HC0.out); rintro e w' ⟨rfl, ⟨nd, rfl⟩⟩; refine ⟨_, rfl, ?_⟩) | ((with_reducible refine gate_callee (f := 103) rfl ?_); refine goesL_ (some 12) rfl rfl Try.func103 (by kernel_rfl) rfl #[.slice A0 l0.length c0] rfl (by (try simp only [List.map_toArray, List.map_cons, List.map_nil]); first | done | rfl | (simp only [List.length_drop, List.length_take]; rfl)) ?_; (with_reducible refine (impl_sumOf.calls k _ _ l0 t462 _ ?side1 ?side2 A4.out).mono ?_); (case side1 => exact cU (HR0.out)); (case side2 => exact HC0.out); rintro e w' ⟨rfl, ⟨nd, rfl⟩⟩; refine ⟨_, rfl, ?_⟩) | ((with_reducible refine gate_callee (f := 109) rfl ?_); refine goesL_ (some 13) rfl rfl Try.func109 (by kernel_rfl) rfl #[.int .i64 t462] rfl (by (try simp only [List.map_toArray, List.map_cons, List.map_nil]); first | done | rfl | (simp only [List.length_drop, List.length_take]; rfl)) ?_; (with_reducible refine (impl_factorial.calls k t462 t463 _ A5.out).mono ?_); rintro e w' ⟨rfl, ⟨nd, rfl⟩⟩; refine ⟨_, rfl, ?_⟩) | ((with_reducible refine gate_callee (f := 144) rfl ?_); refine goesL_ (some 15) rfl rfl Try.func144 (by kernel_rfl) rfl #[.slice A0 l0.length c0] rfl (by (try simp only [List.map_toArray, List.map_cons, List.map_nil]); first | done | rfl | (simp only [List.length_drop, List.length_take]; rfl)) ?_; (with_reducible refine (impl_conjugate.calls k _ _ l0 t464 _ ?side1 ?side2 A6.out).mono ?_); (case side1 => exact cU (HR0.out)); (case side2 => exact HC0.out); rintro e w7 ⟨v465, rfl, ho0, hb⟩; refine ⟨_, rfl, ?_⟩; have n0 := Az (Kd.R_lower ho0 (below_size (bU0 HB.out))); have n1 := Az (below_step (bU0 HB.out) hb); clear HB; have HO466 := n0; have HB := n1; clear n0 n1; (try clear hb); (try clear hb2); (try clear hk); (try clear hi); (try clear ho0)))
  go_loopg [3, 18] k (fun kq v3 v18 w' => ∃ (x3_1 : Int) (x18_1 : Int), v3 = .int .i64 x3_1 ∧ v18 = .int .i64 x18_1 ∧ Aside0 (impl_CharDegree.l0 kq x3_1 t464 l0 (l0.length : Int) x18_1 = some r) ∧ Aside0 (kq ≤ k) ∧ Aside0 (Kd.R (Kd.int .i64) 3 w' w.heap.size (fun _ => True) v465 t464) ∧ Aside0 (Below w.heap.size w w'))
  case atStart => exact ⟨(t463), (0), rS, rS, H', ⟨Nat.le_refl _⟩, ⟨rU HO466.out⟩, ⟨bU0 HB.out⟩⟩
  case round =>
   clear H'; (try clear c1); (try clear p2); (try clear c3); obtain ⟨x3_1, x18_1, rfl, rfl, HA, HK1, HO_4, HB⟩ := hrel
   cases gk with
   | zero => exact absurd HA.out (by simp [impl_CharDegree.l0])
   | succ k1 =>
    have H := HA.out; clear HA; simp only [impl_CharDegree.l0] at H
    by_cases c8 : x18_1 < (l0.length : Int)
    ·
     rw [if_pos c8] at H; have c8b0 := decide_eq_true c8; clear c8
     by_cases c9 : 0 ≤ x18_1
     ·
      rw [if_pos c9] at H; have c9b0 := decide_eq_true c9; clear c9
      by_cases c10 : x18_1 < (l0.length : Int)
      ·
       rw [if_pos c10] at H; have c10b0 := decide_eq_true c10; clear c10; have H' := Az H; clear H; have p467 : 0 ≤ (x18_1 : Int) := oA; have q467 : x18_1 < (l0.length : Int) := oA; obtain ⟨ad467, e467, hx467_0⟩ := Kd.at_int HR0.out x18_1 p467 q467
       cases e467
       (try replace hx467_0 := (HB.out.cell (World.block_lt_of_cell? w _ hx467_0)).trans hx467_0); replace p467 := eq_true p467; replace q467 := eq_true q467
       go_wp2
       go_loopg [3, 24] k1 (fun kq v3 v24 w' => ∃ (x3_2 : Int) (x24_2 : Int), v3 = .int .i64 x3_2 ∧ v24 = .int .i64 x24_2 ∧ Aside0 (impl_CharDegree.l1 kq x3_2 t464 x18_1 (rd l0 x18_1) l0 (l0.length : Int) x18_1 (rd l0 x18_1) x24_2 = some r) ∧ Aside0 (kq ≤ k1) ∧ Aside0 (Kd.R (Kd.int .i64) 3 w' w.heap.size (fun _ => True) v465 t464) ∧ Aside0 (Below w.heap.size w w'))
       case atStart => exact ⟨(x3_1), (0), rS, rS, H', ⟨Nat.le_refl _⟩, ⟨rU HO_4.out⟩, ⟨bU0 HB.out⟩⟩
       case round =>
        clear H'; (try clear c1); (try clear p2); (try clear c3); (try clear p4); (try clear q4); (try clear hx4); (try clear c8); (try clear c8b0); (try clear c9); (try clear c9b0); (try clear c10); (try clear c10b0); (try clear hx467_0); (try clear p2); (try clear p467); (try clear q467); obtain ⟨x3_2, x24_2, rfl, rfl, HA, HK2, HO_4, HB⟩ := hrel
        cases gk with
        | zero => exact absurd HA.out (by simp [impl_CharDegree.l1])
        | succ k2 =>
         have H := HA.out; clear HA; simp only [impl_CharDegree.l1] at H
         by_cases c11 : x24_2 < (rd l0 x18_1)
         ·
          rw [if_pos c11] at H; have c11b0 := decide_eq_true c11; clear c11
          by_cases c12 : 0 ≤ x24_2
          ·
           rw [if_pos c12] at H; have c12b0 := decide_eq_true c12; clear c12
           by_cases c13 : x24_2 < (t464.length : Int)
           ·
            rw [if_pos c13] at H; have c13b0 := decide_eq_true c13; clear c13
            by_cases c14 : (wrap64 ((wrap64 ((wrap64 ((wrap64 ((rd l0 x18_1) - x24_2)) + (rd t464 x24_2))) - x18_1)) - 1)) = 0
            ·
             rw [if_pos c14] at H
             exact absurd H (by simp)
            ·
             rw [if_neg c14] at H; have c14b0 := beq_eq_false_iff_ne.mpr c14; have c14b1 := bne_iff_ne.mpr c14; have H' := Az H; clear H; obtain ⟨Ao15, co15, eo15⟩ := Kd.R_slice HO_4.out; subst eo15; have p468 : 0 ≤ (x24_2 : Int) := oA; have q468 : x24_2 < (t464.length : Int) := oA; obtain ⟨ad468, e468, hx468_0⟩ := Kd.at_int (Kd.R_reads' HO_4.out).2.2 x24_2 p468 q468
             cases e468
             replace p468 := eq_true p468; replace q468 := eq_true q468
             go_wp2
             (first | go_roundg k2 | (refine Handed.intro k2 ?measure ?_; rotate_left; go_step; (try simp only [add_plain]); (repeat apply Exists.intro); refine ⟨?rel, rfl⟩))
             case measure => have := HK1.out; have := HK2.out; omega
             case rel => exact ⟨(wrap64 (Int.tdiv x3_2 (wrap64 ((wrap64 ((wrap64 ((wrap64 ((rd l0 x18_1) - x24_2)) + (rd t464 x24_2))) - x18_1)) - 1)))), (wrap64 (x24_2 + 1)), rS, rS, H', ⟨by have := HK1.out; have := HK2.out; omega⟩, ⟨rU HO_4.out⟩, ⟨bU0 HB.out⟩⟩
           ·
            rw [if_neg c13] at H
            exact absurd H (by simp)
          ·
           rw [if_neg c12] at H
           exact absurd H (by simp)
         ·
          rw [if_neg c11] at H; have c11b0 := decide_eq_false c11; clear c11; have H' := Az H; clear H
          go_wp2
          (first | go_roundg k2 | (refine Handed.intro k2 ?measure ?_; rotate_left; go_step; (try simp only [add_plain]); (repeat apply Exists.intro); refine ⟨?rel, rfl⟩))
          case measure => have := HK1.out; have := HK2.out; omega
          case rel => exact ⟨(x3_2), (wrap64 (x18_1 + 1)), rS, rS, H', ⟨by have := HK1.out; have := HK2.out; omega⟩, ⟨rU HO_4.out⟩, ⟨bU0 HB.out⟩⟩
      ·
       rw [if_neg c10] at H
       exact absurd H (by simp)
     ·
      rw [if_neg c9] at H
      exact absurd H (by simp)
    ·
     rw [if_neg c8] at H; have c8b0 := decide_eq_false c8; clear c8; obtain rfl := Option.some.inj H
     go_wp2
     go_ret
     exact ⟨rE, bU0 HB.out⟩
 ·
  replace c3 := Bool.eq_false_iff.mpr c3; subst c3
  have H1 : (some (-1)) = some r := by rw [if_neg (show ¬ (false = true) by decide)] at H; exact H
  clear H; have H := H1; clear H1; obtain rfl := Option.some.inj H
  go_enter Try.func111, Try.ntmps111
  go_wp2_with (first | ((with_reducible refine gate_callee (f := 102) rfl ?_); refine goesL_ (some 9) rfl rfl Try.func102 (by kernel_rfl) rfl #[.slice A0 l0.length c0] rfl (by (try simp only [List.map_toArray, List.map_cons, List.map_nil]); first | done | rfl | (simp only [List.length_drop, List.length_take]; rfl)) ?_; (with_reducible refine (impl_PartsValid.calls k _ _ l0 false _ ?side1 ?side2 A2.out).mono ?_); (case side1 => exact cU (HR0.out)); (case side2 => exact HC0.out); rintro e w' ⟨rfl, ⟨nd, rfl⟩⟩; refine ⟨_, rfl, ?_⟩))
  go_ret
  exact ⟨rE, bU0 HB.out⟩
mutual
def impl_hooksOff.l0 : Nat → List Int → List Int → Int → List Int → Int → Int → Option (Int)
 | 0, _, _, _, _, _, _ => none
 | k + 1, x0, x1, x5, x16, x17, x18 => if x18 < x17 then (if 0 ≤ x18 then (if x18 < (x16.length : Int) then (if 0 < (x1.length : Int) then (if (wrap64 ((rd x16 x18) - (rd x1 0))) < 0 then (impl_hooksOff.j1 k x0 x1 x5 x18 (rd x16 x18) (wrap64 ((rd x16 x18) - (rd x1 0))) x16 x17 x18 true) else ((slices_Contains_int_int.f k x0 (wrap64 ((rd x16 x18) - (rd x1 0)))).bind fun t471 => (impl_hooksOff.j1 k x0 x1 x5 x18 (rd x16 x18) (wrap64 ((rd x16 x18) - (rd x1 0))) x16 x17 x18 t471))) else (none)) else (none)) else (none)) else (some x5)
def impl_hooksOff.j1 : Nat → List Int → List Int → Int → Int → Int → Int → List Int → Int → Int → Bool → Option (Int)
 | 0, _, _, _, _, _, _, _, _, _, _ => none
 | k + 1, x0, x1, x5, x6, x7, x8, x16, x17, x18, x34 => if x34 = true then (impl_hooksOff.l0 k x0 x1 x5 x16 x17 (wrap64 (x18 + 1))) else (impl_hooksOff.l1 k x0 x1 x5 x6 x7 x8 1 x16 x17 x18 x0 (x0.length : Int) 0)
def impl_hooksOff.l1 : Nat → List Int → List Int → Int → Int → Int → Int → Int → List Int → Int → Int → List Int → Int → Int → Option (Int)
 | 0, _, _, _, _, _, _, _, _, _, _, _, _, _ => none
 | k + 1, x0, x1, x5, x6, x7, x8, x9, x16, x17, x18, x35, x36, x37 => if x37 < x36 then (if 0 ≤ x37 then (if x37 < (x35.length : Int) then (if (rd x35 x37) > x8 then (if (rd x35 x37) < x7 then (impl_hooksOff.l1 k x0 x1 x5 x6 x7 x8 (wrap64 (-x9)) x16 x17 x18 x35 x36 (wrap64 (x37 + 1))) else (impl_hooksOff.l1 k x0 x1 x5 x6 x7 x8 x9 x16 x17 x18 x35 x36 (wrap64 (x37 + 1)))) else (impl_hooksOff.l1 k x0 x1 x5 x6 x7 x8 x9 x16 x17 x18 x35 x36 (wrap64 (x37 + 1)))) else (none)) else (none)) else ((slices_Clone_int_int_68.f x0).bind fun t473 => (if 0 ≤ x6 then (if x6 < (t473.length : Int) then (if 1 ≤ (x1.length : Int) then ((impl_hooksOff.f k (t473.set (x6 : Int).toNat x8) (x1.drop 1)).bind fun t478 => (impl_hooksOff.l0 k x0 x1 (wrap64 (x5 + (wrap64 (x9 * t478)))) x16 x17 (wrap64 (x18 + 1)))) else (none)) else (none)) else (none)))
def impl_hooksOff.f : Nat → List Int → List Int → Option (Int)
 | 0, _, _ => none
 | k + 1, l0, l1 => if (l1.length : Int) = 0 then (some 1) else (impl_hooksOff.l0 k l0 l1 0 l0 (l0.length : Int) 0)
end
theorem impl_hooksOff.mono_l : ∀ k, (∀ y0 y1, LeO (impl_hooksOff.f k y0 y1) (impl_hooksOff.f (k + 1) y0 y1)) ∧ (∀ y0 y1 y2 y3 y4 y5, LeO (impl_hooksOff.l0 k y0 y1 y2 y3 y4 y5) (impl_hooksOff.l0 (k + 1) y0 y1 y2 y3 y4 y5)) ∧ (∀ y0 y1 y2 y3 y4 y5 y6 y7 y8 y9, LeO (impl_hooksOff.j1 k y0 y1 y2 y3 y4 y5 y6 y7 y8 y9) (impl_hooksOff.j1 (k + 1) y0 y1 y2 y3 y4 y5 y6 y7 y8 y9)) ∧ (∀ y0 y1 y2 y3 y4 y5 y6 y7 y8 y9 y10 y11 y12, LeO (impl_hooksOff.l1 k y0 y1 y2 y3 y4 y5 y6 y7 y8 y9 y10 y11 y12) (impl_hooksOff.l1 (k + 1) y0 y1 y2 y3 y4 y5 y6 y7 y8 y9 y10 y11 y12))
 | 0 => ⟨fun _ _ r h => by simp [impl_hooksOff.f] at h, fun _ _ _ _ _ _ r h => by simp [impl_hooksOff.l0] at h, fun _ _ _ _ _ _ _ _ _ _ r h => by simp [impl_hooksOff.j1] at h, fun _ _ _ _ _ _ _ _ _ _ _ _ _ r h => by simp [impl_hooksOff.l1] at h⟩
 | k + 1 => by
  obtain ⟨ih0, ih1, ih2, ih3⟩ := impl_hooksOff.mono_l k
  refine ⟨?_, ?_, ?_, ?_⟩
  ·
   intro y0 y1
   unfold impl_hooksOff.f
   repeat' first
   | (with_reducible exact ih0 _ _)
   | (with_reducible exact ih1 _ _ _ _ _ _)
   | (with_reducible exact ih2 _ _ _ _ _ _ _ _ _ _)
   | (with_reducible exact ih3 _ _ _ _ _ _ _ _ _ _ _ _ _)
   | (with_reducible exact slices_Contains_int_int.mono _ _ _)
   | (with_reducible exact LeO.refl _)
   | (with_reducible exact LeO.none _)
   | (with_reducible refine LeO.ite ?_ ?_)
   | (with_reducible refine LeO.bind ?_ (fun _ => ?_))
   | exact ih0 _ _
   | exact ih1 _ _ _ _ _ _
   | exact ih2 _ _ _ _ _ _ _ _ _ _
   | exact ih3 _ _ _ _ _ _ _ _ _ _ _ _ _
   | exact slices_Contains_int_int.mono _ _ _
   | exact LeO.none _
   | refine LeO.ite ?_ ?_
   | refine LeO.bind ?_ (fun _ => ?_)
  ·
   intro y0 y1 y2 y3 y4 y5
   unfold impl_hooksOff.l0
   repeat' first
   | (with_reducible exact ih0 _ _)
   | (with_reducible exact ih1 _ _ _ _ _ _)
   | (with_reducible exact ih2 _ _ _ _ _ _ _ _ _ _)
   | (with_reducible exact ih3 _ _ _ _ _ _ _ _ _ _ _ _ _)
   | (with_reducible exact slices_Contains_int_int.mono _ _ _)
   | (with_reducible exact LeO.refl _)
   | (with_reducible exact LeO.none _)
   | (with_reducible refine LeO.ite ?_ ?_)
   | (with_reducible refine LeO.bind ?_ (fun _ => ?_))
   | exact ih0 _ _
   | exact ih1 _ _ _ _ _ _
   | exact ih2 _ _ _ _ _ _ _ _ _ _
   | exact ih3 _ _ _ _ _ _ _ _ _ _ _ _ _
   | exact slices_Contains_int_int.mono _ _ _
   | exact LeO.none _
   | refine LeO.ite ?_ ?_
   | refine LeO.bind ?_ (fun _ => ?_)
  ·
   intro y0 y1 y2 y3 y4 y5 y6 y7 y8 y9
   unfold impl_hooksOff.j1
   repeat' first
   | (with_reducible exact ih0 _ _)
   | (with_reducible exact ih1 _ _ _ _ _ _)
   | (with_reducible exact ih2 _ _ _ _ _ _ _ _ _ _)
   | (with_reducible exact ih3 _ _ _ _ _ _ _ _ _ _ _ _ _)
   | (with_reducible exact slices_Contains_int_int.mono _ _ _)
   | (with_reducible exact LeO.refl _)
   | (with_reducible exact LeO.none _)
   | (with_reducible refine LeO.ite ?_ ?_)
   | (with_reducible refine LeO.bind ?_ (fun _ => ?_))
   | exact ih0 _ _
   | exact ih1 _ _ _ _ _ _
   | exact ih2 _ _ _ _ _ _ _ _ _ _
   | exact ih3 _ _ _ _ _ _ _ _ _ _ _ _ _
   | exact slices_Contains_int_int.mono _ _ _
   | exact LeO.none _
   | refine LeO.ite ?_ ?_
   | refine LeO.bind ?_ (fun _ => ?_)
  ·
   intro y0 y1 y2 y3 y4 y5 y6 y7 y8 y9 y10 y11 y12
   unfold impl_hooksOff.l1
   repeat' first
   | (with_reducible exact ih0 _ _)
   | (with_reducible exact ih1 _ _ _ _ _ _)
   | (with_reducible exact ih2 _ _ _ _ _ _ _ _ _ _)
   | (with_reducible exact ih3 _ _ _ _ _ _ _ _ _ _ _ _ _)
   | (with_reducible exact slices_Contains_int_int.mono _ _ _)
   | (with_reducible exact LeO.refl _)
   | (with_reducible exact LeO.none _)
   | (with_reducible refine LeO.ite ?_ ?_)
   | (with_reducible refine LeO.bind ?_ (fun _ => ?_))
   | exact ih0 _ _
   | exact ih1 _ _ _ _ _ _
   | exact ih2 _ _ _ _ _ _ _ _ _ _
   | exact ih3 _ _ _ _ _ _ _ _ _ _ _ _ _
   | exact slices_Contains_int_int.mono _ _ _
   | exact LeO.none _
   | refine LeO.ite ?_ ?_
   | refine LeO.bind ?_ (fun _ => ?_)
theorem impl_hooksOff.mono : ∀ a0 a1 k, LeO (impl_hooksOff.f k a0 a1) (impl_hooksOff.f (k + 1) a0 a1) := by
 intro a0 a1 k
 obtain ⟨ih0, ih1, ih2, ih3⟩ := impl_hooksOff.mono_l k
 exact ih0 a0 a1
set_option maxHeartbeats 8000000 in
set_option maxRecDepth 100000 in
theorem impl_hooksOff.calls (k : Nat) : ∀ (A0 : Option Addr) (c0 : Nat) (l0 : List Int) (A1 : Option Addr) (c1 : Nat) (l1 : List Int) (r : Int) (w : World) (hr0 : Kd.C (Kd.int .i64) w A0 l0.length l0) (hc0 : l0.length ≤ c0) (hr1 : Kd.C (Kd.int .i64) w A1 l1.length l1) (hc1 : l1.length ≤ c1) (h : impl_hooksOff.f k l0 l1 = some r),
  Calls Try.prog 145 #[.slice A0 l0.length c0, .slice A1 l1.length c1] w fun e w' => e = .returned (.int .i64 r) ∧ Below w.heap.size w w' := by
 induction k using Nat.strongRecOn with
 | _ k ih =>
 intro A0 c0 l0 A1 c1 l1 r w hr0 hc0 hr1 hc1 h
 cases k with
 | zero => exact absurd h (by simp [impl_hooksOff.f])
 | succ k =>
 simp only [impl_hooksOff.f] at h; have HR0 := Az hr0; have HC0 := Az hc0; clear hr0 hc0; have HR1 := Az hr1; have HC1 := Az hc1; clear hr1 hc1; have HB := Az (Below.refl w.heap.size w); have H : (if (l1.length : Int) = 0 then (some 1) else (impl_hooksOff.l0 k l0 l1 0 l0 (l0.length : Int) 0)) = some r := h; clear h
 by_cases c3 : (l1.length : Int) = 0
 ·
  rw [if_pos c3] at H; have c3b0 := beq_iff_eq.mpr c3; have c3b1 := bne_eq_false_iff_eq.mpr c3; clear c3; obtain rfl := Option.some.inj H
  go_enter Try.func145, Try.ntmps145
  go_wp2
  go_ret
  exact ⟨rE, bU0 HB.out⟩
 ·
  rw [if_neg c3] at H; have c3b0 := beq_eq_false_iff_ne.mpr c3; have c3b1 := bne_iff_ne.mpr c3
  have c3b2 : ¬ (l1 = []) := fun h_ => c3 (by rw [h_]; rfl)
  have H' := Az H; clear H
  go_enter Try.func145, Try.ntmps145
  go_wp2
  go_loopg [5, 18] k (fun kq v5 v18 w' => ∃ (x5_1 : Int) (x18_1 : Int), v5 = .int .i64 x5_1 ∧ v18 = .int .i64 x18_1 ∧ Aside0 (impl_hooksOff.l0 kq l0 l1 x5_1 l0 (l0.length : Int) x18_1 = some r) ∧ Aside0 (kq ≤ k) ∧ Aside0 (Below w.heap.size w w'))
  case atStart => exact ⟨(0), (0), rS, rS, H', ⟨Nat.le_refl _⟩, ⟨bU0 HB.out⟩⟩
  case round =>
   clear H'; (try clear c1); (try clear p2); (try clear c3); (try clear c3b0); (try clear c3b1); (try clear c3b2); obtain ⟨x5_1, x18_1, rfl, rfl, HA, HK1, HB⟩ := hrel
   cases gk with
   | zero => exact absurd HA.out (by simp [impl_hooksOff.l0])
   | succ k1 =>
    have H := HA.out; clear HA; simp only [impl_hooksOff.l0] at H
    by_cases c4 : x18_1 < (l0.length : Int)
    ·
     rw [if_pos c4] at H; have c4b0 := decide_eq_true c4; clear c4
     by_cases c5 : 0 ≤ x18_1
     ·
      rw [if_pos c5] at H; have c5b0 := decide_eq_true c5; clear c5
      by_cases c6 : x18_1 < (l0.length : Int)
      ·
       rw [if_pos c6] at H; have c6b0 := decide_eq_true c6; clear c6
       by_cases c7 : 0 < (l1.length : Int)
       ·
        rw [if_pos c7] at H; have c7b0 := decide_eq_true c7; have c7b1 : decide (0 < l1.length) = true := decide_eq_true (by omega); clear c7; have HC8 := Az H; clear H; have p469 : 0 ≤ (x18_1 : Int) := oA; have q469 : x18_1 < (l0.length : Int) := oA; obtain ⟨ad469, e469, hx469_0⟩ := Kd.at_int HR0.out x18_1 p469 q469
        cases e469
        (try replace hx469_0 := (HB.out.cell (World.block_lt_of_cell? w _ hx469_0)).trans hx469_0); replace p469 := eq_true p469; replace q469 := eq_true q469; have p470 : 0 ≤ (0 : Int) := (by omega); have q470 : 0 < (l1.length : Int) := oA; obtain ⟨ad470, e470, hx470_0⟩ := Kd.at_int HR1.out 0 p470 q470
        cases e470
        have qi470 : (0 < l1.length) = True := eq_true (by omega); (try rw [show ((0 : Int)).toNat = 0 from rfl] at hx470_0); (try rw [Addr.add_zero'] at hx470_0); (try replace hx470_0 := (HB.out.cell (World.block_lt_of_cell? w _ hx470_0)).trans hx470_0); replace p470 := eq_true p470; replace q470 := eq_true q470
        go_upto_region 8 with (fail)
        go_cut [34] (fun v34 wc => ∃ (kq : Nat) (x34_7 : Bool), v34 = .bool x34_7 ∧ Aside0 (impl_hooksOff.j1 kq l0 l1 x5_1 x18_1 (rd l0 x18_1) (wrap64 ((rd l0 x18_1) - (rd l1 0))) l0 (l0.length : Int) x18_1 x34_7 = some r) ∧ Aside0 (kq ≤ k1) ∧ Aside0 (Below w.heap.size w wc))
        case first =>
         have H := HC8.out; clear HC8
         by_cases c9 : (wrap64 ((rd l0 x18_1) - (rd l1 0))) < 0
         ·
          rw [if_pos c9] at H; have c9b0 := decide_eq_true c9; clear c9; (first | rw [c9b0] | (simp only [i64_w, i32_w]; rw [c9b0]) | skip); have H' := Az H; clear H
          go_wp2
          go_meet
          case rel => exact ⟨_, (true), rS, H', ⟨by have := HK1.out; first | omega | exact Nat.le_refl _⟩, ⟨bU0 HB.out⟩⟩
         ·
          rw [if_neg c9] at H; have c9b0 := decide_eq_false c9; clear c9; (first | rw [c9b0] | (simp only [i64_w, i32_w]; rw [c9b0]) | skip); replace H := Option.bind_eq_some_iff.mp H; obtain ⟨t471, A100, H⟩ := H; replace H : (impl_hooksOff.j1 k1 l0 l1 x5_1 x18_1 (rd l0 x18_1) (wrap64 ((rd l0 x18_1) - (rd l1 0))) l0 (l0.length : Int) x18_1 t471) = some r := H; have A10 := Az A100; clear A100; have H' := Az H; clear H
          go_wp2_with (first | (go_at_call 147; (with_reducible refine (slices_Contains_int_int.calls k1 _ _ l0 (wrap64 ((rd l0 x18_1) - (rd l1 0))) t471 _ ?side1 ?side2 A10.out).mono ?_); (case side1 => exact cU (Kd.C_below HR0.out HB.out)); (case side2 => exact HC0.out); rintro e w' ⟨rfl, ⟨nd, rfl⟩⟩))
          go_meet
          case rel => exact ⟨_, (t471), rS, H', ⟨by have := HK1.out; first | omega | exact Nat.le_refl _⟩, ⟨bU0 HB.out⟩⟩
        case rest =>
         clear HC8; (try clear c1); (try clear p2); (try clear c3); (try clear c3b0); (try clear c3b1); (try clear c3b2); (try clear c4); (try clear c4b0); (try clear p4); (try clear q4); (try clear hx4); (try clear qi4); (try clear c5); (try clear c5b0); (try clear c6); (try clear c6b0); (try clear p6); (try clear c7); (try clear c7b0); (try clear c7b1); (try clear c9); (try clear c9b0); (try clear hx469_0); (try clear hx470_0); (try clear p2); (try clear p469); (try clear p470); (try clear q469); (try clear q470); obtain ⟨kq, x34_7, rfl, HA, HJ7, HB⟩ := hcut
         cases kq with
         | zero => exact absurd HA.out (by simp [impl_hooksOff.j1])
         | succ kj7 =>
          have H := HA.out; clear HA; simp only [impl_hooksOff.j1] at H
          by_cases c11 : x34_7 = true
          ·
           subst c11
           have H1 : (impl_hooksOff.l0 kj7 l0 l1 x5_1 l0 (l0.length : Int) (wrap64 (x18_1 + 1))) = some r := by rw [if_pos rfl] at H; exact H
           clear H; have H := H1; clear H1; have H' := Az H; clear H
           go_wp2
           (first | go_roundg kj7 | (refine Handed.intro kj7 ?measure ?_; rotate_left; go_step; (try simp only [add_plain]); (repeat apply Exists.intro); refine ⟨?rel, rfl⟩))
           case measure => have := HK1.out; have := HJ7.out; omega
           case rel => exact ⟨(x5_1), (wrap64 (x18_1 + 1)), rS, rS, H', ⟨by have := HK1.out; have := HJ7.out; omega⟩, ⟨bU0 HB.out⟩⟩
          ·
           replace c11 := Bool.eq_false_iff.mpr c11; subst c11
           have H1 : (impl_hooksOff.l1 kj7 l0 l1 x5_1 x18_1 (rd l0 x18_1) (wrap64 ((rd l0 x18_1) - (rd l1 0))) 1 l0 (l0.length : Int) x18_1 l0 (l0.length : Int) 0) = some r := by rw [if_neg (show ¬ (false = true) by decide)] at H; exact H
           clear H; have H := H1; clear H1; have H' := Az H; clear H
           go_wp2
           go_loopg [9, 37] kj7 (fun kq v9 v37 w' => ∃ (x9_3 : Int) (x37_3 : Int), v9 = .int .i64 x9_3 ∧ v37 = .int .i64 x37_3 ∧ Aside0 (impl_hooksOff.l1 kq l0 l1 x5_1 x18_1 (rd l0 x18_1) (wrap64 ((rd l0 x18_1) - (rd l1 0))) x9_3 l0 (l0.length : Int) x18_1 l0 (l0.length : Int) x37_3 = some r) ∧ Aside0 (kq ≤ kj7) ∧ Aside0 (Below w.heap.size w w'))
           case atStart => exact ⟨(1), (0), rS, rS, H', ⟨Nat.le_refl _⟩, ⟨bU0 HB.out⟩⟩
           case round =>
            clear H'; (try clear c1); (try clear p2); (try clear c3); (try clear c3b0); (try clear c3b1); (try clear c3b2); (try clear c4); (try clear c4b0); (try clear p4); (try clear q4); (try clear hx4); (try clear qi4); (try clear c5); (try clear c5b0); (try clear c6); (try clear c6b0); (try clear p6); (try clear c7); (try clear c7b0); (try clear c7b1); (try clear c9); (try clear c9b0); (try clear c11); (try clear hx469_0); (try clear hx470_0); (try clear p2); (try clear p4); (try clear p469); (try clear p470); (try clear p6); (try clear q4); (try clear q469); (try clear q470); obtain ⟨x9_3, x37_3, rfl, rfl, HA, HK3, HB⟩ := hrel
            cases gk with
            | zero => exact absurd HA.out (by simp [impl_hooksOff.l1])
            | succ k3 =>
             have H := HA.out; clear HA; simp only [impl_hooksOff.l1] at H
             by_cases c12 : x37_3 < (l0.length : Int)
             ·
              rw [if_pos c12] at H; have c12b0 := decide_eq_true c12; clear c12
              by_cases c13 : 0 ≤ x37_3
              ·
               rw [if_pos c13] at H; have c13b0 := decide_eq_true c13; clear c13
               by_cases c14 : x37_3 < (l0.length : Int)
               ·
                rw [if_pos c14] at H; have c14b0 := decide_eq_true c14; clear c14
                by_cases c15 : (rd l0 x37_3) > (wrap64 ((rd l0 x18_1) - (rd l1 0)))
                ·
                 rw [if_pos c15] at H; have c15b0 := decide_eq_true c15; clear c15
                 by_cases c16 : (rd l0 x37_3) < (rd l0 x18_1)
                 ·
                  rw [if_pos c16] at H; have c16b0 := decide_eq_true c16; clear c16; have H' := Az H; clear H; have p472 : 0 ≤ (x37_3 : Int) := oA; have q472 : x37_3 < (l0.length : Int) := oA; obtain ⟨ad472, e472, hx472_0⟩ := Kd.at_int HR0.out x37_3 p472 q472; obtain rfl : ad469 = ad472 := (by injection e472); (try replace hx472_0 := (HB.out.cell (World.block_lt_of_cell? w _ hx472_0)).trans hx472_0); replace p472 := eq_true p472; replace q472 := eq_true q472
                  go_wp2
                  (first | go_roundg k3 | (refine Handed.intro k3 ?measure ?_; rotate_left; go_step; (try simp only [add_plain]); (repeat apply Exists.intro); refine ⟨?rel, rfl⟩))
                  case measure => have := HK1.out; have := HJ7.out; have := HK3.out; omega
                  case rel => exact ⟨(wrap64 (-x9_3)), (wrap64 (x37_3 + 1)), rS, rS, H', ⟨by have := HK1.out; have := HJ7.out; have := HK3.out; omega⟩, ⟨bU0 HB.out⟩⟩
                 ·
                  rw [if_neg c16] at H; have c16b0 := decide_eq_false c16; clear c16; have H' := Az H; clear H; have p472 : 0 ≤ (x37_3 : Int) := oA; have q472 : x37_3 < (l0.length : Int) := oA; obtain ⟨ad472, e472, hx472_0⟩ := Kd.at_int HR0.out x37_3 p472 q472; obtain rfl : ad469 = ad472 := (by injection e472); (try replace hx472_0 := (HB.out.cell (World.block_lt_of_cell? w _ hx472_0)).trans hx472_0); replace p472 := eq_true p472; replace q472 := eq_true q472
                  go_wp2
                  (first | go_roundg k3 | (refine Handed.intro k3 ?measure ?_; rotate_left; go_step; (try simp only [add_plain]); (repeat apply Exists.intro); refine ⟨?rel, rfl⟩))
                  case measure => have := HK1.out; have := HJ7.out; have := HK3.out; omega
                  case rel => exact ⟨(x9_3), (wrap64 (x37_3 + 1)), rS, rS, H', ⟨by have := HK1.out; have := HJ7.out; have := HK3.out; omega⟩, ⟨bU0 HB.out⟩⟩
                ·
                 rw [if_neg c15] at H; have c15b0 := decide_eq_false c15; clear c15; have H' := Az H; clear H; have p472 : 0 ≤ (x37_3 : Int) := oA; have q472 : x37_3 < (l0.length : Int) := oA; obtain ⟨ad472, e472, hx472_0⟩ := Kd.at_int HR0.out x37_3 p472 q472; obtain rfl : ad469 = ad472 := (by injection e472); (try replace hx472_0 := (HB.out.cell (World.block_lt_of_cell? w _ hx472_0)).trans hx472_0); replace p472 := eq_true p472; replace q472 := eq_true q472
                 go_wp2
                 (first | go_roundg k3 | (refine Handed.intro k3 ?measure ?_; rotate_left; go_step; (try simp only [add_plain]); (repeat apply Exists.intro); refine ⟨?rel, rfl⟩))
                 case measure => have := HK1.out; have := HJ7.out; have := HK3.out; omega
                 case rel => exact ⟨(x9_3), (wrap64 (x37_3 + 1)), rS, rS, H', ⟨by have := HK1.out; have := HJ7.out; have := HK3.out; omega⟩, ⟨bU0 HB.out⟩⟩
               ·
                rw [if_neg c14] at H
                exact absurd H (by simp)
              ·
               rw [if_neg c13] at H
               exact absurd H (by simp)
             ·
              rw [if_neg c12] at H; have c12b0 := decide_eq_false c12; clear c12; replace H := Option.bind_eq_some_iff.mp H; obtain ⟨t473, A170, H⟩ := H; replace H : (if 0 ≤ x18_1 then (if x18_1 < (t473.length : Int) then (if 1 ≤ (l1.length : Int) then ((impl_hooksOff.f k3 (t473.set (x18_1 : Int).toNat (wrap64 ((rd l0 x18_1) - (rd l1 0)))) (l1.drop 1)).bind fun t478 => (impl_hooksOff.l0 k3 l0 l1 (wrap64 (x5_1 + (wrap64 (x9_3 * t478)))) l0 (l0.length : Int) (wrap64 (x18_1 + 1)))) else (none)) else (none)) else (none)) = some r := H; have A17 := Az A170; clear A170
              by_cases c18 : 0 ≤ x18_1
              ·
               rw [if_pos c18] at H; have c18b0 := decide_eq_true c18; clear c18
               by_cases c19 : x18_1 < (t473.length : Int)
               ·
                rw [if_pos c19] at H; have c19b0 := decide_eq_true c19; clear c19; obtain ⟨y476, hy476⟩ : ∃ y_ : List Int, y_ = (t473.set (x18_1 : Int).toNat (wrap64 ((rd l0 x18_1) - (rd l1 0)))) := ⟨_, rfl⟩; replace H : (if 1 ≤ (l1.length : Int) then ((impl_hooksOff.f k3 y476 (l1.drop 1)).bind fun t478 => (impl_hooksOff.l0 k3 l0 l1 (wrap64 (x5_1 + (wrap64 (x9_3 * t478)))) l0 (l0.length : Int) (wrap64 (x18_1 + 1)))) else (none)) = some r := hR hy476 H; have Ny476 := Az hy476; clear hy476
                by_cases c21 : 1 ≤ (l1.length : Int)
                ·
                 rw [if_pos c21] at H; have c21b0 := eq_true c21; have c21b1 := decide_eq_true c21; clear c21; replace H := Option.bind_eq_some_iff.mp H; obtain ⟨t478, A220, H⟩ := H; replace H : (impl_hooksOff.l0 k3 l0 l1 (wrap64 (x5_1 + (wrap64 (x9_3 * t478)))) l0 (l0.length : Int) (wrap64 (x18_1 + 1))) = some r := H; have A22 := Az A220; clear A220; have H' := Az H; clear H
                 go_wp2_with (first | ((with_reducible refine gate_callee (f := 68) rfl ?_); refine goesL_ (some 53) rfl rfl Try.func68 (by kernel_rfl) rfl #[.slice (some ad469) l0.length c0] rfl (by (try simp only [List.map_toArray, List.map_cons, List.map_nil]); first | done | rfl | (simp only [List.length_drop, List.length_take]; rfl)) ?_; (with_reducible refine (slices_Clone_int_int_68.calls _ _ l0 t473 _ ?side1 ?side2 A17.out).mono ?_); (case side1 => exact cU (Kd.C_below HR0.out HB.out)); (case side2 => exact HC0.out); rintro e w23 ⟨v474, rfl, ho0, hb⟩; refine ⟨_, rfl, ?_⟩; have n0 := Az (Kd.R_lower ho0 (below_size (bU0 HB.out))); have n1 := Az (below_step (bU0 HB.out) hb); clear HB; have HO475 := n0; have HB := n1; clear n0 n1; (try clear hb); (try clear hb2); (try clear hk); (try clear hi); (try clear ho0); have p20 : 0 ≤ (x18_1 : Int) := oA; have q20 : (x18_1 : Int) < ((t473.length : Int) : Int) := oA; obtain ⟨go20, co20, eo20, gb20, gl20, cl20, HG20⟩ := Kd.R_form HO475.out (by omega); (first | cases eo20 | (injection eo20 with ea_ en_ ec_; (first | subst ea_ | (injection ea_ with ea_; subst ea_)); subst ec_; clear en_)); have GB20 := Az gb20; have GG20 := Az HG20; clear gb20 gl20 HG20; obtain ⟨hx20_0, hf20_0⟩ := Kd.R_celln 0 HO475.out (x18_1 : Int) p20 q20; replace p20 := eq_true p20; replace q20 := eq_true q20; obtain ⟨hy24_, hz24_⟩ := Kd.R_celln 0 HO475.out (x18_1 : Int) (oA) (oA); have HP24 := Kd.R_putg HO475.out (x18_1 : Int) (wrap64 ((rd l0 x18_1) - (rd l1 0)))) | ((with_reducible refine gate_store (t := 3) (p := 57) rfl ?_); refine store_event (t := 3) (p := 57) (v := ?vo_w25) (w1 := (w23.setCell ⟨go20, (x18_1 : Int).toNat, none⟩ (.int .i64 (wrap64 ((rd l0 x18_1) - (rd l1 0)))))) ?hg ?ho ?hn ?hr ?_; (case ho => rfl); (case hg => rfl); (case hn => rfl); (case hr => first | (go_simp; done) | (go_simp; rfl)); intro w25 hw; have hg : w23.grownBy w25 (some go20) := (by rw [hw]; exact HP24.2); have hp_ : Kd.R (Kd.int .i64) 3 w25 w.heap.size (fun _ => True) (.slice (some ⟨go20, 0, none⟩) t473.length co20) y476 := (by rw [hw, Ny476.out]; exact HP24.1); clear HP24; have n0 := Az (hp_); have n1 := Az ((by rw [hw]; exact below_set (HB.out) GB20.out : Below w.heap.size w w25)); clear HO475 HB; have HO475 := n0; have HB := n1; clear n0 n1 hg hw hp_; obtain ⟨i026, hi026, _, hsz26, _⟩ := info_parts info3; obtain ⟨A26, hcut26, hA26, hC26⟩ := print_drop_of (P := Try.prog) (Value.int .i64) 0 23 3 .i64 Try.underlying23 hi026 hsz26 (some ad470) c1 l1 1 (by omega) (oA) HC1.out; have HR477 := Az (Kd.C_of_reads (h1 := fun _ => rfl) (hA26 _ (Kd.reads_of_C HR1.out))); have HC477 := Az hC26; clear hA26 hC26 hi026 hsz26) | ((with_reducible refine gate_callee (f := 145) rfl ?_); refine goesL_ (some 63) rfl rfl Try.func145 (by kernel_rfl) rfl #[.slice (some ⟨go20, 0, none⟩) y476.length co20, .slice A26 (l1.drop 1).length (c1 - 1)] rfl (by (try simp only [List.map_toArray, List.map_cons, List.map_nil]); first | done | (rw [show y476.length = t473.length from (Kd.R_reads' HO475.out).1.symm, show (l1.drop 1).length = (l1.length - 1) from List.length_drop] <;> rfl) | (rw [show y476.length = t473.length from (Kd.R_reads' HO475.out).1.symm] <;> rfl) | (rw [show (l1.drop 1).length = (l1.length - 1) from List.length_drop] <;> rfl) | rfl | (simp only [List.length_drop, List.length_take]; rfl)) ?_; (with_reducible refine (ih k3 (by have := HK1.out; have := HJ7.out; have := HK3.out; omega) _ _ y476 _ _ (l1.drop 1) t478 _ ?side1 ?side2 ?side3 ?side4 A22.out).mono ?_); (case side1 => exact cU ((Kd.R_reads' HO475.out).2.2)); (case side2 => rw [show y476.length = t473.length from (Kd.R_reads' HO475.out).1.symm]; exact (Kd.R_reads' HO475.out).2.1); (case side3 => exact cU (Kd.C_below HR477.out HB.out)); (case side4 => exact HC477.out); rintro e w27 ⟨rfl, hb⟩; refine ⟨_, rfl, ?_⟩; have n0 := Az (Kd.R_below (rU HO475.out) hb); have n1 := Az (below_step (bU0 HB.out) hb); clear HO475 HB; have HO475 := n0; have HB := n1; clear n0 n1; (try clear hb); (try clear hb2); (try clear hk); (try clear hi)))
                 (first | go_roundg k3 | (refine Handed.intro k3 ?measure ?_; rotate_left; go_step; (try simp only [add_plain]); (repeat apply Exists.intro); refine ⟨?rel, rfl⟩))
                 case measure => have := HK1.out; have := HJ7.out; have := HK3.out; omega
                 case rel => exact ⟨(wrap64 (x5_1 + (wrap64 (x9_3 * t478)))), (wrap64 (x18_1 + 1)), rS, rS, H', ⟨by have := HK1.out; have := HJ7.out; have := HK3.out; omega⟩, ⟨bU0 HB.out⟩⟩
                ·
                 rw [if_neg c21] at H
                 exact absurd H (by simp)
               ·
                rw [if_neg c19] at H
                exact absurd H (by simp)
              ·
               rw [if_neg c18] at H
               exact absurd H (by simp)
       ·
        rw [if_neg c7] at H
        exact absurd H (by simp)
      ·
       rw [if_neg c6] at H
       exact absurd H (by simp)
     ·
      rw [if_neg c5] at H
      exact absurd H (by simp)
    ·
     rw [if_neg c4] at H; have c4b0 := decide_eq_false c4; clear c4; obtain rfl := Option.some.inj H
     go_wp2
     go_ret
     exact ⟨rE, bU0 HB.out⟩
mutual
def impl_CharValue.j0 : Nat → List Int → List Int → Bool → Option (Int × Bool)
 | 0, _, _, _ => none
 | k + 1, x0, x1, x23 => if x23 = true then (some (0, false)) else (impl_CharValue.l0 k x0 x1 (([] : List Int)) x0 (x0.length : Int) 0)
def impl_CharValue.l0 : Nat → List Int → List Int → List Int → List Int → Int → Int → Option (Int × Bool)
 | 0, _, _, _, _, _, _ => none
 | k + 1, x0, x1, x6, x25, x26, x27 => if x27 < x26 then (if 0 ≤ x27 then (if x27 < (x25.length : Int) then (if x6.length < 17592186044416 then (impl_CharValue.l0 k x0 x1 (x6 ++ [wrap64 ((wrap64 ((wrap64 ((rd x25 x27) + (x0.length : Int))) - 1)) - x27)]) x25 x26 (wrap64 (x27 + 1))) else (none)) else (none)) else (none)) else ((impl_hooksOff.f k x6 x1).bind fun t490 => (some (t490, true)))
end
def impl_CharValue.f (k : Nat) (l0 : List Int) (l1 : List Int) : Option (Int × Bool) := (impl_PartsValid.f k l0).bind fun t479 => (if t479 = true then ((impl_PartsValid.f k l1).bind fun t480 => (if t480 = true then ((impl_sumOf.f k l0).bind fun t481 => ((impl_sumOf.f k l1).bind fun t482 => (impl_CharValue.j0 k l0 l1 (t481 != t482)))) else (impl_CharValue.j0 k l0 l1 true))) else (impl_CharValue.j0 k l0 l1 true))
theorem impl_CharValue.mono_l : ∀ k, (∀ y0 y1 y2, LeO (impl_CharValue.j0 k y0 y1 y2) (impl_CharValue.j0 (k + 1) y0 y1 y2)) ∧ (∀ y0 y1 y2 y3 y4 y5, LeO (impl_CharValue.l0 k y0 y1 y2 y3 y4 y5) (impl_CharValue.l0 (k + 1) y0 y1 y2 y3 y4 y5))
 | 0 => ⟨fun _ _ _ r h => by simp [impl_CharValue.j0] at h, fun _ _ _ _ _ _ r h => by simp [impl_CharValue.l0] at h⟩
 | k + 1 => by
  obtain ⟨ih0, ih1⟩ := impl_CharValue.mono_l k
  refine ⟨?_, ?_⟩
  ·
   intro y0 y1 y2
   unfold impl_CharValue.j0
   repeat' first
   | (with_reducible exact ih0 _ _ _)
   | (with_reducible exact ih1 _ _ _ _ _ _)
   | (with_reducible exact impl_PartsValid.mono _ _)
   | (with_reducible exact impl_hooksOff.mono _ _ _)
   | (with_reducible exact impl_sumOf.mono _ _)
   | (with_reducible exact LeO.refl _)
   | (with_reducible exact LeO.none _)
   | (with_reducible refine LeO.ite ?_ ?_)
   | (with_reducible refine LeO.bind ?_ (fun _ => ?_))
   | exact ih0 _ _ _
   | exact ih1 _ _ _ _ _ _
   | exact impl_PartsValid.mono _ _
   | exact impl_hooksOff.mono _ _ _
   | exact impl_sumOf.mono _ _
   | exact LeO.none _
   | refine LeO.ite ?_ ?_
   | refine LeO.bind ?_ (fun _ => ?_)
  ·
   intro y0 y1 y2 y3 y4 y5
   unfold impl_CharValue.l0
   repeat' first
   | (with_reducible exact ih0 _ _ _)
   | (with_reducible exact ih1 _ _ _ _ _ _)
   | (with_reducible exact impl_PartsValid.mono _ _)
   | (with_reducible exact impl_hooksOff.mono _ _ _)
   | (with_reducible exact impl_sumOf.mono _ _)
   | (with_reducible exact LeO.refl _)
   | (with_reducible exact LeO.none _)
   | (with_reducible refine LeO.ite ?_ ?_)
   | (with_reducible refine LeO.bind ?_ (fun _ => ?_))
   | exact ih0 _ _ _
   | exact ih1 _ _ _ _ _ _
   | exact impl_PartsValid.mono _ _
   | exact impl_hooksOff.mono _ _ _
   | exact impl_sumOf.mono _ _
   | exact LeO.none _
   | refine LeO.ite ?_ ?_
   | refine LeO.bind ?_ (fun _ => ?_)
theorem impl_CharValue.mono : ∀ a0 a1 k, LeO (impl_CharValue.f k a0 a1) (impl_CharValue.f (k + 1) a0 a1) := by
 intro a0 a1 k
 obtain ⟨ih0, ih1⟩ := impl_CharValue.mono_l k
 unfold impl_CharValue.f
 repeat' first
   | (with_reducible exact ih0 _ _ _)
   | (with_reducible exact ih1 _ _ _ _ _ _)
   | (with_reducible exact impl_PartsValid.mono _ _)
   | (with_reducible exact impl_hooksOff.mono _ _ _)
   | (with_reducible exact impl_sumOf.mono _ _)
   | (with_reducible exact LeO.refl _)
   | (with_reducible exact LeO.none _)
   | (with_reducible refine LeO.ite ?_ ?_)
   | (with_reducible refine LeO.bind ?_ (fun _ => ?_))
   | exact ih0 _ _ _
   | exact ih1 _ _ _ _ _ _
   | exact impl_PartsValid.mono _ _
   | exact impl_hooksOff.mono _ _ _
   | exact impl_sumOf.mono _ _
   | exact LeO.none _
   | refine LeO.ite ?_ ?_
   | refine LeO.bind ?_ (fun _ => ?_)
set_option maxHeartbeats 8000000 in
set_option maxRecDepth 100000 in
theorem impl_CharValue.calls (k : Nat) (A0 : Option Addr) (c0 : Nat) (l0 : List Int) (A1 : Option Addr) (c1 : Nat) (l1 : List Int) (r1 : Int) (r2 : Bool) (w : World) (hr0 : Kd.C (Kd.int .i64) w A0 l0.length l0) (hc0 : l0.length ≤ c0) (hr1 : Kd.C (Kd.int .i64) w A1 l1.length l1) (hc1 : l1.length ≤ c1) (h : impl_CharValue.f k l0 l1 = some (r1, r2)) :
  Calls Try.prog 112 #[.slice A0 l0.length c0, .slice A1 l1.length c1] w fun e w' => e = .returned (.tuple #[.int .i64 r1, .bool r2]) ∧ Below w.heap.size w w' := by
 have HR0 := Az hr0; have HC0 := Az hc0; clear hr0 hc0; have HR1 := Az hr1; have HC1 := Az hc1; clear hr1 hc1; have HB := Az (Below.refl w.heap.size w); have H : ((impl_PartsValid.f k l0).bind fun t479 => (if t479 = true then ((impl_PartsValid.f k l1).bind fun t480 => (if t480 = true then ((impl_sumOf.f k l0).bind fun t481 => ((impl_sumOf.f k l1).bind fun t482 => (impl_CharValue.j0 k l0 l1 (t481 != t482)))) else (impl_CharValue.j0 k l0 l1 true))) else (impl_CharValue.j0 k l0 l1 true))) = some (r1, r2) := h; clear h; have HC3 := Az H; clear H
 go_enter Try.func112, Try.ntmps112
 go_upto_region 1 with (fail)
 go_cut [23] (fun v23 wc => ∃ (kq : Nat) (x23_2 : Bool), v23 = .bool x23_2 ∧ Aside0 (impl_CharValue.j0 kq l0 l1 x23_2 = some (r1, r2)) ∧ Aside0 (kq ≤ k) ∧ Aside0 (Below w.heap.size w wc))
 case first =>
  have H := HC3.out; clear HC3; replace H := Option.bind_eq_some_iff.mp H; obtain ⟨t479, A40, H⟩ := H; replace H : (if t479 = true then ((impl_PartsValid.f k l1).bind fun t480 => (if t480 = true then ((impl_sumOf.f k l0).bind fun t481 => ((impl_sumOf.f k l1).bind fun t482 => (impl_CharValue.j0 k l0 l1 (t481 != t482)))) else (impl_CharValue.j0 k l0 l1 true))) else (impl_CharValue.j0 k l0 l1 true)) = some (r1, r2) := H; have A4 := Az A40; clear A40
  by_cases c5 : t479 = true
  ·
   subst c5
   have H1 : ((impl_PartsValid.f k l1).bind fun t480 => (if t480 = true then ((impl_sumOf.f k l0).bind fun t481 => ((impl_sumOf.f k l1).bind fun t482 => (impl_CharValue.j0 k l0 l1 (t481 != t482)))) else (impl_CharValue.j0 k l0 l1 true))) = some (r1, r2) := by rw [if_pos rfl] at H; exact H
   clear H; have H := H1; clear H1; replace H := Option.bind_eq_some_iff.mp H; obtain ⟨t480, A60, H⟩ := H; replace H : (if t480 = true then ((impl_sumOf.f k l0).bind fun t481 => ((impl_sumOf.f k l1).bind fun t482 => (impl_CharValue.j0 k l0 l1 (t481 != t482)))) else (impl_CharValue.j0 k l0 l1 true)) = some (r1, r2) := H; have A6 := Az A60; clear A60
   by_cases c7 : t480 = true
   ·
    subst c7
    have H1 : ((impl_sumOf.f k l0).bind fun t481 => ((impl_sumOf.f k l1).bind fun t482 => (impl_CharValue.j0 k l0 l1 (t481 != t482)))) = some (r1, r2) := by rw [if_pos rfl] at H; exact H
    clear H; have H := H1; clear H1; replace H := Option.bind_eq_some_iff.mp H; obtain ⟨t481, A80, H⟩ := H; replace H : ((impl_sumOf.f k l1).bind fun t482 => (impl_CharValue.j0 k l0 l1 (t481 != t482))) = some (r1, r2) := H; have A8 := Az A80; clear A80; replace H := Option.bind_eq_some_iff.mp H; obtain ⟨t482, A90, H⟩ := H; replace H : (impl_CharValue.j0 k l0 l1 (t481 != t482)) = some (r1, r2) := H; have A9 := Az A90; clear A90; have H' := Az H; clear H
    go_wp2_with (first | ((with_reducible refine gate_callee (f := 102) rfl ?_); refine goesL_ (some 10) rfl rfl Try.func102 (by kernel_rfl) rfl #[.slice A0 l0.length c0] rfl (by (try simp only [List.map_toArray, List.map_cons, List.map_nil]); first | done | rfl | (simp only [List.length_drop, List.length_take]; rfl)) ?_; (with_reducible refine (impl_PartsValid.calls k _ _ l0 true _ ?side1 ?side2 A4.out).mono ?_); (case side1 => exact cU (Kd.C_below HR0.out HB.out)); (case side2 => exact HC0.out); rintro e w' ⟨rfl, ⟨nd, rfl⟩⟩; refine ⟨_, rfl, ?_⟩) | (go_at_call 102; (with_reducible refine (impl_PartsValid.calls k _ _ l1 true _ ?side1 ?side2 A6.out).mono ?_); (case side1 => exact cU (Kd.C_below HR1.out (bU0 HB.out))); (case side2 => exact HC1.out); rintro e w' ⟨rfl, ⟨nd, rfl⟩⟩) | (go_at_call 103; (with_reducible refine (impl_sumOf.calls k _ _ l0 t481 _ ?side1 ?side2 A8.out).mono ?_); (case side1 => exact cU (Kd.C_below HR0.out (bU0 HB.out))); (case side2 => exact HC0.out); rintro e w' ⟨rfl, ⟨nd, rfl⟩⟩) | (go_at_call 103; (with_reducible refine (impl_sumOf.calls k _ _ l1 t482 _ ?side1 ?side2 A9.out).mono ?_); (case side1 => exact cU (Kd.C_below HR1.out (bU0 HB.out))); (case side2 => exact HC1.out); rintro e w' ⟨rfl, ⟨nd, rfl⟩⟩))
    go_meet
    case rel => exact ⟨_, ((t481 != t482)), rS, H', ⟨by first | omega | exact Nat.le_refl _⟩, ⟨bU0 HB.out⟩⟩
   ·
    replace c7 := Bool.eq_false_iff.mpr c7; subst c7
    have H1 : (impl_CharValue.j0 k l0 l1 true) = some (r1, r2) := by rw [if_neg (show ¬ (false = true) by decide)] at H; exact H
    clear H; have H := H1; clear H1; have H' := Az H; clear H
    go_wp2_with (first | ((with_reducible refine gate_callee (f := 102) rfl ?_); refine goesL_ (some 10) rfl rfl Try.func102 (by kernel_rfl) rfl #[.slice A0 l0.length c0] rfl (by (try simp only [List.map_toArray, List.map_cons, List.map_nil]); first | done | rfl | (simp only [List.length_drop, List.length_take]; rfl)) ?_; (with_reducible refine (impl_PartsValid.calls k _ _ l0 true _ ?side1 ?side2 A4.out).mono ?_); (case side1 => exact cU (Kd.C_below HR0.out HB.out)); (case side2 => exact HC0.out); rintro e w' ⟨rfl, ⟨nd, rfl⟩⟩; refine ⟨_, rfl, ?_⟩) | (go_at_call 102; (with_reducible refine (impl_PartsValid.calls k _ _ l1 false _ ?side1 ?side2 A6.out).mono ?_); (case side1 => exact cU (Kd.C_below HR1.out (bU0 HB.out))); (case side2 => exact HC1.out); rintro e w' ⟨rfl, ⟨nd, rfl⟩⟩))
    go_meet
    case rel => exact ⟨_, (true), rS, H', ⟨by first | omega | exact Nat.le_refl _⟩, ⟨bU0 HB.out⟩⟩
  ·
   replace c5 := Bool.eq_false_iff.mpr c5; subst c5
   have H1 : (impl_CharValue.j0 k l0 l1 true) = some (r1, r2) := by rw [if_neg (show ¬ (false = true) by decide)] at H; exact H
   clear H; have H := H1; clear H1; have H' := Az H; clear H
   go_wp2_with (first | ((with_reducible refine gate_callee (f := 102) rfl ?_); refine goesL_ (some 10) rfl rfl Try.func102 (by kernel_rfl) rfl #[.slice A0 l0.length c0] rfl (by (try simp only [List.map_toArray, List.map_cons, List.map_nil]); first | done | rfl | (simp only [List.length_drop, List.length_take]; rfl)) ?_; (with_reducible refine (impl_PartsValid.calls k _ _ l0 false _ ?side1 ?side2 A4.out).mono ?_); (case side1 => exact cU (Kd.C_below HR0.out HB.out)); (case side2 => exact HC0.out); rintro e w' ⟨rfl, ⟨nd, rfl⟩⟩; refine ⟨_, rfl, ?_⟩))
   go_meet
   case rel => exact ⟨_, (true), rS, H', ⟨by first | omega | exact Nat.le_refl _⟩, ⟨bU0 HB.out⟩⟩
 case rest =>
  clear HC3; (try clear c1); (try clear p2); (try clear c5); (try clear c7); obtain ⟨kq, x23_2, rfl, HA, HJ2, HB⟩ := hcut
  cases kq with
  | zero => exact absurd HA.out (by simp [impl_CharValue.j0])
  | succ kj2 =>
   have H := HA.out; clear HA; simp only [impl_CharValue.j0] at H
   by_cases c10 : x23_2 = true
   ·
    subst c10
    have H1 : (some (0, false)) = some (r1, r2) := by rw [if_pos rfl] at H; exact H
    clear H; have H := H1; clear H1; simp only [Option.some.injEq, Prod.mk.injEq] at H; obtain ⟨rfl, rfl⟩ := H
    go_wp2
    go_ret2
    exact ⟨rE, bU0 HB.out⟩
   ·
    replace c10 := Bool.eq_false_iff.mpr c10; subst c10
    have H1 : (impl_CharValue.l0 kj2 l0 l1 (([] : List Int)) l0 (l0.length : Int) 0) = some (r1, r2) := by rw [if_neg (show ¬ (false = true) by decide)] at H; exact H
    clear H; have H := H1; clear H1; obtain ⟨y483, hy483⟩ : ∃ y_ : List Int, y_ = (([] : List Int)) := ⟨_, rfl⟩; replace H : (impl_CharValue.l0 kj2 l0 l1 y483 l0 (l0.length : Int) 0) = some (r1, r2) := hR hy483 H; have Ny483 := Az hy483; clear hy483; have H' := Az H; clear H
    go_wp2_with (first | ((with_reducible refine gate_dst (N := 24) rfl ?_); refine Kd.R_lit (Kd.int .i64) _ 3 ?hg (N := 24) ?hd (xs := ([] : List Int)) (inner := []) (ok := fun _ => True) (okp := fun _ => True) ?hr ?hp (fun _ hk => hk) trivial (Below.refl _ _) (Nat.le_refl _) (by simp) ?_; (case hd => rfl); (case hg => rfl); (case hr => first | (go_simp; done) | (go_simp; rfl)); (case hp => exact (Reps.none _ _)); intro v484 w11 ho12 hb hg_ hnew_; clear hg_ hnew_; (first | rw [← Ny483.out] at ho12 | (simp only [Int.reduceToNat] at ho12; rw [← Ny483.out] at ho12)); have n0 := Az (Kd.R_lower ho12 (below_size (bU0 HB.out))); have n1 := Az (below_step (bU0 HB.out) hb); clear HB; have HO485 := n0; have HB := n1; clear n0 n1; clear hb ho12))
    go_loopg [6, 27] kj2 (fun kq v6 v27 w' => ∃ (x6_2 : List Int) (x27_2 : Int), v27 = .int .i64 x27_2 ∧ Aside0 (impl_CharValue.l0 kq l0 l1 x6_2 l0 (l0.length : Int) x27_2 = some (r1, r2)) ∧ Aside0 (kq ≤ kj2) ∧ Aside0 (Kd.R (Kd.int .i64) 3 w' w.heap.size (fun _ => True) v6 x6_2) ∧ Aside0 (Below w.heap.size w w'))
    case atStart => exact ⟨(y483), (0), rS, H', ⟨Nat.le_refl _⟩, ⟨rU HO485.out⟩, ⟨bU0 HB.out⟩⟩
    case round =>
     clear H'; (try clear c1); (try clear p2); (try clear c5); (try clear c7); (try clear c10); (try clear c11); (try clear p2); obtain ⟨x6_2, x27_2, rfl, HA, HK2, HO_6, HB⟩ := hrel
     cases gk with
     | zero => exact absurd HA.out (by simp [impl_CharValue.l0])
     | succ k2 =>
      have H := HA.out; clear HA; simp only [impl_CharValue.l0] at H
      by_cases c13 : x27_2 < (l0.length : Int)
      ·
       rw [if_pos c13] at H; have c13b0 := decide_eq_true c13; clear c13
       by_cases c14 : 0 ≤ x27_2
       ·
        rw [if_pos c14] at H; have c14b0 := decide_eq_true c14; clear c14
        by_cases c15 : x27_2 < (l0.length : Int)
        ·
         rw [if_pos c15] at H; have c15b0 := decide_eq_true c15; clear c15
         by_cases c16 : x6_2.length < 17592186044416
         ·
          rw [if_pos c16] at H; have LMc16 := Az c16; clear c16; obtain ⟨y487, hy487⟩ : ∃ y_ : List Int, y_ = (x6_2 ++ [wrap64 ((wrap64 ((wrap64 ((rd l0 x27_2) + (l0.length : Int))) - 1)) - x27_2)]) := ⟨_, rfl⟩; replace H : (impl_CharValue.l0 k2 l0 l1 y487 l0 (l0.length : Int) (wrap64 (x27_2 + 1))) = some (r1, r2) := hR hy487 H; have Ny487 := Az hy487; clear hy487; have H' := Az H; clear H; have p486 : 0 ≤ (x27_2 : Int) := oA; have q486 : x27_2 < (l0.length : Int) := oA; obtain ⟨ad486, e486, hx486_0⟩ := Kd.at_int HR0.out x27_2 p486 q486
          cases e486
          (try replace hx486_0 := (HB.out.cell (World.block_lt_of_cell? w _ hx486_0)).trans hx486_0); replace p486 := eq_true p486; replace q486 := eq_true q486
          go_wp2_with (first | ((with_reducible refine gate_builtin (b := .append) (xs := #[.tmp 32, .tmp 40]) rfl ?_); at_builtin; refine Kd.R_append (Kd.int .i64) (w0 := w) w.heap.size rfl (.tmp 32) (.tmp 40) 23 3 (.int .i64 0) 8 rfl Try.underlying23 info3 rfl (by decide) (by omega) u6 x6_2 (wrap64 ((wrap64 ((wrap64 ((rd l0 x27_2) + (l0.length : Int))) - 1)) - x27_2)) [.int .i64 (wrap64 ((wrap64 ((wrap64 ((rd l0 x27_2) + (l0.length : Int))) - 1)) - x27_2))] (fun _ => True) (fun _ => False) rfl rfl ?aP (fun _ hk => hk.elim) ?aF ?aO ?aB ?aS ?aL ?_; (case aP => exact rfl); (case aB => exact (bU0 HB.out)); (case aF => exact (fun _ _ => trivial)); (case aO => exact (rU HO_6.out)); (case aS => exact (below_size (bU0 HB.out))); (case aL => have := LMc16.out; omega); intro v488 w17 ho hb hg hat; rw [← Ny487.out] at ho; have n0 := Az (hb); have n1 := Az (ho); clear HB HO_6; have HB := n0; have HO489 := n1; clear n0 n1; clear ho hb hg hat))
          (first | go_roundg k2 | (refine Handed.intro k2 ?measure ?_; rotate_left; go_step; (try simp only [add_plain]); (repeat apply Exists.intro); refine ⟨?rel, rfl⟩))
          case measure => have := HJ2.out; have := HK2.out; omega
          case rel => exact ⟨(y487), (wrap64 (x27_2 + 1)), rS, H', ⟨by have := HJ2.out; have := HK2.out; omega⟩, ⟨rU HO489.out⟩, ⟨bU0 HB.out⟩⟩
         ·
          rw [if_neg c16] at H
          exact absurd H (by simp)
        ·
         rw [if_neg c15] at H
         exact absurd H (by simp)
       ·
        rw [if_neg c14] at H
        exact absurd H (by simp)
      ·
       rw [if_neg c13] at H; have c13b0 := decide_eq_false c13; clear c13; replace H := Option.bind_eq_some_iff.mp H; obtain ⟨t490, A180, H⟩ := H; replace H : (some (t490, true)) = some (r1, r2) := H; have A18 := Az A180; clear A180; simp only [Option.some.injEq, Prod.mk.injEq] at H; obtain ⟨rfl, rfl⟩ := H; obtain ⟨Ao19, co19, eo19⟩ := Kd.R_slice HO_6.out; subst eo19
       go_wp2_with (first | ((with_reducible refine gate_callee (f := 145) rfl ?_); refine goesL_ (some 45) rfl rfl Try.func145 (by kernel_rfl) rfl #[.slice Ao19 x6_2.length co19, .slice A1 l1.length c1] rfl (by (try simp only [List.map_toArray, List.map_cons, List.map_nil]); first | done | rfl | (simp only [List.length_drop, List.length_take]; rfl)) ?_; (with_reducible refine (impl_hooksOff.calls k2 _ _ x6_2 _ _ l1 t490 _ ?side1 ?side2 ?side3 ?side4 A18.out).mono ?_); (case side1 => exact cU ((Kd.R_reads' HO_6.out).2.2)); (case side2 => exact (Kd.R_reads' HO_6.out).2.1); (case side3 => exact cU (Kd.C_below HR1.out HB.out)); (case side4 => exact HC1.out); rintro e w20 ⟨rfl, hb⟩; refine ⟨_, rfl, ?_⟩; have n0 := Az (Kd.R_below (rU HO_6.out) hb); have n1 := Az (below_step (bU0 HB.out) hb); clear HO_6 HB; have HO_6 := n0; have HB := n1; clear n0 n1; (try clear hb); (try clear hb2); (try clear hk); (try clear hi)))
       go_ret2
       exact ⟨rE, bU0 HB.out⟩
mutual
def impl_FactorCount.l0 : Nat → List (List Int) → Int → Int → List (List Int) → Int → Int → Option (Int)
 | 0, _, _, _, _, _, _ => none
 | k + 1, x0, x3, x6, x24, x25, x26 => if x26 < x25 then (if 0 ≤ x26 then (if x26 < (x24.length : Int) then ((impl_CharDegree.f k (rd_L1 x24 x26)).bind fun t498 => (impl_FactorCount.l1 k x0 x3 x6 (rd_L1 x24 x26) t498 (wrap64 (t498 * t498)) x24 x25 x26 x0 (x0.length : Int) 0)) else (none)) else (none)) else ((impl_factorial.f k x3).bind fun t496 => (if t496 = 0 then (none) else (some (wrap64 (Int.tdiv x6 t496)))))
def impl_FactorCount.l1 : Nat → List (List Int) → Int → Int → List Int → Int → Int → List (List Int) → Int → Int → List (List Int) → Int → Int → Option (Int)
 | 0, _, _, _, _, _, _, _, _, _, _, _, _ => none
 | k + 1, x0, x3, x6, x8, x9, x10, x24, x25, x26, x35, x36, x37 => if x37 < x36 then (if 0 ≤ x37 then (if x37 < (x35.length : Int) then ((impl_CharValue.f k x8 (rd_L1 x35 x37)).bind fun bt500 => ((impl_ClassSize.f k (rd_L1 x35 x37)).bind fun t502 => (if x9 = 0 then (none) else (impl_FactorCount.l1 k x0 x3 x6 x8 x9 (wrap64 (x10 * (wrap64 (Int.tdiv (wrap64 (t502 * bt500.1)) x9)))) x24 x25 x26 x35 x36 (wrap64 (x37 + 1)))))) else (none)) else (none)) else (impl_FactorCount.l0 k x0 x3 (wrap64 (x6 + x10)) x24 x25 (wrap64 (x26 + 1)))
end
def impl_FactorCount.f (k : Nat) (l0 : List (List Int)) : Option (Int) := (impl_typesSum.f k l0).bind fun t491 => (if t491 < 0 then (some (-1)) else ((impl_PartsAll.f k t491).bind fun bt492 => (impl_FactorCount.l0 k l0 t491 0 bt492.1 (bt492.1.length : Int) 0)))
set_option maxHeartbeats 8000000 in
set_option maxRecDepth 100000 in
theorem impl_FactorCount.calls (k : Nat) (A0 : Option Addr) (c0 : Nat) (l0 : List (List Int)) (r : Int) (w : World) (hr0 : Kd.C (Kd.slice 3 (Kd.int .i64)) w A0 l0.length l0) (hc0 : l0.length ≤ c0) (h : impl_FactorCount.f k l0 = some r) :
  Calls Try.prog 49 #[.slice A0 l0.length c0] w fun e w' => e = .returned (.int .i64 r) ∧ Below w.heap.size w w' := by
 have HR0 := Az hr0; have HC0 := Az hc0; clear hr0 hc0; have HB := Az (Below.refl w.heap.size w); have H : ((impl_typesSum.f k l0).bind fun t491 => (if t491 < 0 then (some (-1)) else ((impl_PartsAll.f k t491).bind fun bt492 => (impl_FactorCount.l0 k l0 t491 0 bt492.1 (bt492.1.length : Int) 0)))) = some r := h; clear h; replace H := Option.bind_eq_some_iff.mp H; obtain ⟨t491, A20, H⟩ := H; replace H : (if t491 < 0 then (some (-1)) else ((impl_PartsAll.f k t491).bind fun bt492 => (impl_FactorCount.l0 k l0 t491 0 bt492.1 (bt492.1.length : Int) 0))) = some r := H; have A2 := Az A20; clear A20
 by_cases c3 : t491 < 0
 ·
  rw [if_pos c3] at H; have c3b0 := decide_eq_true c3; clear c3; obtain rfl := Option.some.inj H
  go_enter Try.func49, Try.ntmps49
  go_wp2_with (first | ((with_reducible refine gate_callee (f := 94) rfl ?_); refine goesL_ (some 16) rfl rfl Try.func94 (by kernel_rfl) rfl #[.slice A0 l0.length c0] rfl (by (try simp only [List.map_toArray, List.map_cons, List.map_nil]); first | done | rfl | (simp only [List.length_drop, List.length_take]; rfl)) ?_; (with_reducible refine (impl_typesSum.calls k _ _ l0 t491 _ ?side1 ?side2 A2.out).mono ?_); (case side1 => exact cU (HR0.out)); (case side2 => exact HC0.out); rintro e w' ⟨rfl, ⟨nd, rfl⟩⟩; refine ⟨_, rfl, ?_⟩))
  go_ret
  exact ⟨rE, bU0 HB.out⟩
 ·
  rw [if_neg c3] at H; have c3b0 := decide_eq_false c3; clear c3; replace H := Option.bind_eq_some_iff.mp H; obtain ⟨⟨t492, t493⟩, A40, H⟩ := H; replace H : (impl_FactorCount.l0 k l0 t491 0 t492 (t492.length : Int) 0) = some r := H; have A4 := Az A40; clear A40; have H' := Az H; clear H
  go_enter Try.func49, Try.ntmps49
  go_wp2_with (first | ((with_reducible refine gate_callee (f := 94) rfl ?_); refine goesL_ (some 16) rfl rfl Try.func94 (by kernel_rfl) rfl #[.slice A0 l0.length c0] rfl (by (try simp only [List.map_toArray, List.map_cons, List.map_nil]); first | done | rfl | (simp only [List.length_drop, List.length_take]; rfl)) ?_; (with_reducible refine (impl_typesSum.calls k _ _ l0 t491 _ ?side1 ?side2 A2.out).mono ?_); (case side1 => exact cU (HR0.out)); (case side2 => exact HC0.out); rintro e w' ⟨rfl, ⟨nd, rfl⟩⟩; refine ⟨_, rfl, ?_⟩) | ((with_reducible refine gate_callee (f := 110) rfl ?_); refine goesL_ (some 21) rfl rfl Try.func110 (by kernel_rfl) rfl #[.int .i64 t491] rfl (by (try simp only [List.map_toArray, List.map_cons, List.map_nil]); first | done | rfl | (simp only [List.length_drop, List.length_take]; rfl)) ?_; (with_reducible refine (impl_PartsAll.calls k t491 t492 t493 _ A4.out).mono ?_); rintro e w5 ⟨v494, rfl, ho0, hb⟩; refine ⟨_, rfl, ?_⟩; have n0 := Az (Kd.S_lower ho0 (below_size (bU0 HB.out))); have n1 := Az (below_step (bU0 HB.out) hb); clear HB; have HO495 := n0; have HB := n1; clear n0 n1; (try clear hb); (try clear hb2); (try clear hk); (try clear hi); (try clear ho0); obtain ⟨Ao6, co6, eo6⟩ := Kd.S_slice HO495.out; subst eo6))
  go_loopg [6, 26] k (fun kq v6 v26 w' => ∃ (x6_1 : Int) (x26_1 : Int), v6 = .int .i64 x6_1 ∧ v26 = .int .i64 x26_1 ∧ Aside0 (impl_FactorCount.l0 kq l0 t491 x6_1 t492 (t492.length : Int) x26_1 = some r) ∧ Aside0 (kq ≤ k) ∧ Aside0 (Kd.S (Kd.slice 3 (Kd.int .i64)) 23 w' w.heap.size (fun _ => True) (.slice Ao6 t492.length co6) t492) ∧ Aside0 (Below w.heap.size w w'))
  case atStart => exact ⟨(0), (0), rS, rS, H', ⟨Nat.le_refl _⟩, ⟨sU HO495.out⟩, ⟨bU0 HB.out⟩⟩
  case round =>
   clear H'; (try clear c1); (try clear p2); (try clear c3); (try clear c3b0); (try clear c4); obtain ⟨x6_1, x26_1, rfl, rfl, HA, HK1, HO_24, HB⟩ := hrel
   cases gk with
   | zero => exact absurd HA.out (by simp [impl_FactorCount.l0])
   | succ k1 =>
    have H := HA.out; clear HA; simp only [impl_FactorCount.l0] at H
    by_cases c7 : x26_1 < (t492.length : Int)
    ·
     rw [if_pos c7] at H; have c7b0 := decide_eq_true c7; clear c7
     by_cases c8 : 0 ≤ x26_1
     ·
      rw [if_pos c8] at H; have c8b0 := decide_eq_true c8; clear c8
      by_cases c9 : x26_1 < (t492.length : Int)
      ·
       rw [if_pos c9] at H; have c9b0 := decide_eq_true c9; clear c9; replace H := Option.bind_eq_some_iff.mp H; obtain ⟨t498, A100, H⟩ := H; replace H : (impl_FactorCount.l1 k1 l0 t491 x6_1 (rd_L1 t492 x26_1) t498 (wrap64 (t498 * t498)) t492 (t492.length : Int) x26_1 l0 (l0.length : Int) 0) = some r := H; have A10 := Az A100; clear A100; have H' := Az H; clear H; have p497 : 0 ≤ (x26_1 : Int) := oA; have q497 : x26_1 < (t492.length : Int) := oA; obtain ⟨ad497, A497_0, c497_0, e497, hx497_0, hl497_0, hi497_0⟩ := at_L1 (Kd.S_reads' HO_24.out).2.2 x26_1 p497 q497
       cases e497
       obtain ⟨ce497, hce497, hMe497, hcc497⟩ := Kd.S_get HO_24.out [] x26_1 p497 (by first | exact q497 | exact oA | (have e_ := (Kd.S_reads' HO_24.out).1; omega)); obtain ⟨ve497_0, rfl, ge497_0⟩ := hMe497; have hv497_0 := hcc497 0 _ rfl; rw [Nat.add_zero, show ((Kd.slice 3 (Kd.int .i64))).sz = 1 from rfl, Nat.mul_one] at hv497_0; replace hv497_0 := Option.some.inj (hv497_0.symm.trans hx497_0); rw [hv497_0] at ge497_0; have HL497_0 := Az (show Kd.R (Kd.int .i64) 3 _ _ _ _ (rd_L1 t492 x26_1) from ge497_0); clear hv497_0 ge497_0 hcc497 hce497; have HR497_0 := Az hi497_0; have HC497_0 := Az hl497_0; clear hi497_0 hl497_0; replace p497 := eq_true p497; replace q497 := eq_true q497
       go_wp2_with (first | ((with_reducible refine gate_callee (f := 111) rfl ?_); refine goesL_ (some 31) rfl rfl Try.func111 (by kernel_rfl) rfl #[.slice A497_0 (rd_L1 t492 x26_1).length c497_0] rfl (by (try simp only [List.map_toArray, List.map_cons, List.map_nil]); first | done | rfl | (simp only [List.length_drop, List.length_take]; rfl)) ?_; (with_reducible refine (impl_CharDegree.calls k1 _ _ (rd_L1 t492 x26_1) t498 _ ?side1 ?side2 A10.out).mono ?_); (case side1 => exact cU (by repeat (first | (with_reducible exact HR497_0.out) | (with_reducible refine Kd.C_alloc ?_ _) | (with_reducible refine Kd.C_drewN ?_ _) | (with_reducible refine Kd.C_drew ?_) | exact HR497_0.out))); (case side2 => exact HC497_0.out); rintro e w11 ⟨rfl, hb⟩; refine ⟨_, rfl, ?_⟩; have n0 := Az (Kd.S_below (sU HO_24.out) hb); have n1 := Az (Kd.R_below (rU HL497_0.out) hb); have n2 := Az (Kd.C_below (by repeat (first | (with_reducible exact HR497_0.out) | (with_reducible refine Kd.C_alloc ?_ _) | (with_reducible refine Kd.C_drewN ?_ _) | (with_reducible refine Kd.C_drew ?_) | exact HR497_0.out)) hb); have n3 := Az (below_step (bU0 HB.out) hb); clear HO_24 HL497_0 HR497_0 HB; have HO_24 := n0; have HL497_0 := n1; have HR497_0 := n2; have HB := n3; clear n0 n1 n2 n3; (try clear hb); (try clear hb2); (try clear hk); (try clear hi)))
       go_loopg [10, 37] k1 (fun kq v10 v37 w' => ∃ (x10_2 : Int) (x37_2 : Int), v10 = .int .i64 x10_2 ∧ v37 = .int .i64 x37_2 ∧ Aside0 (impl_FactorCount.l1 kq l0 t491 x6_1 (rd_L1 t492 x26_1) t498 x10_2 t492 (t492.length : Int) x26_1 l0 (l0.length : Int) x37_2 = some r) ∧ Aside0 (kq ≤ k1) ∧ Aside0 (Kd.S (Kd.slice 3 (Kd.int .i64)) 23 w' w.heap.size (fun _ => True) (.slice (some ad497) t492.length co6) t492) ∧ Aside0 (Kd.C (Kd.int .i64) w' A497_0 (rd_L1 t492 x26_1).length (rd_L1 t492 x26_1)) ∧ Aside0 (Below w.heap.size w w'))
       case atStart => exact ⟨(wrap64 (t498 * t498)), (0), rS, rS, H', ⟨Nat.le_refl _⟩, ⟨sU HO_24.out⟩, ⟨by repeat (first | (with_reducible exact HR497_0.out) | (with_reducible refine Kd.C_alloc ?_ _) | (with_reducible refine Kd.C_drewN ?_ _) | (with_reducible refine Kd.C_drew ?_) | exact HR497_0.out)⟩, ⟨bU0 HB.out⟩⟩
       case round =>
        clear H'; (try clear c1); (try clear p2); (try clear c3); (try clear c3b0); (try clear c4); (try clear p4); (try clear q4); (try clear hx4); (try clear p6); (try clear c7); (try clear c7b0); (try clear c8); (try clear c8b0); (try clear c9); (try clear c9b0); (try clear c11); (try clear hx497_0); (try clear p2); (try clear p497); (try clear q497); obtain ⟨x10_2, x37_2, rfl, rfl, HA, HK2, HO_24, HR497_0, HB⟩ := hrel
        cases gk with
        | zero => exact absurd HA.out (by simp [impl_FactorCount.l1])
        | succ k2 =>
         have H := HA.out; clear HA; simp only [impl_FactorCount.l1] at H
         by_cases c12 : x37_2 < (l0.length : Int)
         ·
          rw [if_pos c12] at H; have c12b0 := decide_eq_true c12; clear c12
          by_cases c13 : 0 ≤ x37_2
          ·
           rw [if_pos c13] at H; have c13b0 := decide_eq_true c13; clear c13
           by_cases c14 : x37_2 < (l0.length : Int)
           ·
            rw [if_pos c14] at H; have c14b0 := decide_eq_true c14; clear c14; replace H := Option.bind_eq_some_iff.mp H; obtain ⟨⟨t500, t501⟩, A150, H⟩ := H; replace H : ((impl_ClassSize.f k2 (rd_L1 l0 x37_2)).bind fun t502 => (if t498 = 0 then (none) else (impl_FactorCount.l1 k2 l0 t491 x6_1 (rd_L1 t492 x26_1) t498 (wrap64 (x10_2 * (wrap64 (Int.tdiv (wrap64 (t502 * t500)) t498)))) t492 (t492.length : Int) x26_1 l0 (l0.length : Int) (wrap64 (x37_2 + 1))))) = some r := H; have A15 := Az A150; clear A150; replace H := Option.bind_eq_some_iff.mp H; obtain ⟨t502, A160, H⟩ := H; replace H : (if t498 = 0 then (none) else (impl_FactorCount.l1 k2 l0 t491 x6_1 (rd_L1 t492 x26_1) t498 (wrap64 (x10_2 * (wrap64 (Int.tdiv (wrap64 (t502 * t500)) t498)))) t492 (t492.length : Int) x26_1 l0 (l0.length : Int) (wrap64 (x37_2 + 1)))) = some r := H; have A16 := Az A160; clear A160
            by_cases c17 : t498 = 0
            ·
             rw [if_pos c17] at H
             exact absurd H (by simp)
            ·
             rw [if_neg c17] at H; have c17b0 := beq_eq_false_iff_ne.mpr c17; have c17b1 := bne_iff_ne.mpr c17; have H' := Az H; clear H; have p499 : 0 ≤ (x37_2 : Int) := oA; have q499 : x37_2 < (l0.length : Int) := oA; obtain ⟨ad499, A499_0, c499_0, e499, hx499_0, hl499_0, hi499_0⟩ := at_L1 HR0.out x37_2 p499 q499
             cases e499
             (try replace hx499_0 := (HB.out.cell (World.block_lt_of_cell? w _ hx499_0)).trans hx499_0); have HR499_0 := Az hi499_0; have HC499_0 := Az hl499_0; clear hi499_0 hl499_0; replace p499 := eq_true p499; replace q499 := eq_true q499
             go_wp2_with (first | ((with_reducible refine gate_callee (f := 112) rfl ?_); refine goesL_ (some 44) rfl rfl Try.func112 (by kernel_rfl) rfl #[.slice A497_0 (rd_L1 t492 x26_1).length c497_0, .slice A499_0 (rd_L1 l0 x37_2).length c499_0] rfl (by (try simp only [List.map_toArray, List.map_cons, List.map_nil]); first | done | rfl | (simp only [List.length_drop, List.length_take]; rfl)) ?_; (with_reducible refine (impl_CharValue.calls k2 _ _ (rd_L1 t492 x26_1) _ _ (rd_L1 l0 x37_2) t500 t501 _ ?side1 ?side2 ?side3 ?side4 A15.out).mono ?_); (case side1 => repeat (first | exact (Kd.C_below HR497_0.out HB.out) | exact HR497_0.out | (with_reducible refine Kd.C_alloc ?_ _) | (with_reducible refine Kd.C_drewN ?_ _) | (with_reducible refine Kd.C_drew ?_))); (case side2 => exact HC497_0.out); (case side3 => repeat (first | exact (Kd.C_below HR499_0.out HB.out) | exact HR499_0.out | (with_reducible refine Kd.C_alloc ?_ _) | (with_reducible refine Kd.C_drewN ?_ _) | (with_reducible refine Kd.C_drew ?_))); (case side4 => exact HC499_0.out); rintro e w18 ⟨rfl, hb⟩; refine ⟨_, rfl, ?_⟩; have n0 := Az (Kd.S_below (sU HO_24.out) hb); have n1 := Az (Kd.C_below (by repeat (first | (with_reducible exact HR497_0.out) | (with_reducible refine Kd.C_alloc ?_ _) | (with_reducible refine Kd.C_drewN ?_ _) | (with_reducible refine Kd.C_drew ?_) | exact HR497_0.out)) hb); have n2 := Az (below_step (bU0 HB.out) hb); clear HO_24 HR497_0 HB; have HO_24 := n0; have HR497_0 := n1; have HB := n2; clear n0 n1 n2; (try clear hb); (try clear hb2); (try clear hk); (try clear hi)) | ((with_reducible refine gate_callee (f := 48) rfl ?_); refine goesL_ (some 49) rfl rfl Try.func48 (by kernel_rfl) rfl #[.slice A499_0 (rd_L1 l0 x37_2).length c499_0] rfl (by (try simp only [List.map_toArray, List.map_cons, List.map_nil]); first | done | rfl | (simp only [List.length_drop, List.length_take]; rfl)) ?_; (with_reducible refine (impl_ClassSize.calls k2 _ _ (rd_L1 l0 x37_2) t502 _ ?side1 ?side2 A16.out).mono ?_); (case side1 => repeat (first | exact (Kd.C_below HR499_0.out HB.out) | exact HR499_0.out | (with_reducible refine Kd.C_alloc ?_ _) | (with_reducible refine Kd.C_drewN ?_ _) | (with_reducible refine Kd.C_drew ?_))); (case side2 => exact HC499_0.out); rintro e w19 ⟨rfl, hb⟩; refine ⟨_, rfl, ?_⟩; have n0 := Az (Kd.S_below (sU HO_24.out) hb); have n1 := Az (Kd.C_below (by repeat (first | (with_reducible exact HR497_0.out) | (with_reducible refine Kd.C_alloc ?_ _) | (with_reducible refine Kd.C_drewN ?_ _) | (with_reducible refine Kd.C_drew ?_) | exact HR497_0.out)) hb); have n2 := Az (below_step (bU0 HB.out) hb); clear HO_24 HR497_0 HB; have HO_24 := n0; have HR497_0 := n1; have HB := n2; clear n0 n1 n2; (try clear hb); (try clear hb2); (try clear hk); (try clear hi)))
             (first | go_roundg k2 | (refine Handed.intro k2 ?measure ?_; rotate_left; go_step; (try simp only [add_plain]); (repeat apply Exists.intro); refine ⟨?rel, rfl⟩))
             case measure => have := HK1.out; have := HK2.out; omega
             case rel => exact ⟨(wrap64 (x10_2 * (wrap64 (Int.tdiv (wrap64 (t502 * t500)) t498)))), (wrap64 (x37_2 + 1)), rS, rS, H', ⟨by have := HK1.out; have := HK2.out; omega⟩, ⟨sU HO_24.out⟩, ⟨by repeat (first | (with_reducible exact HR497_0.out) | (with_reducible refine Kd.C_alloc ?_ _) | (with_reducible refine Kd.C_drewN ?_ _) | (with_reducible refine Kd.C_drew ?_) | exact HR497_0.out)⟩, ⟨bU0 HB.out⟩⟩
           ·
            rw [if_neg c14] at H
            exact absurd H (by simp)
          ·
           rw [if_neg c13] at H
           exact absurd H (by simp)
         ·
          rw [if_neg c12] at H; have c12b0 := decide_eq_false c12; clear c12; have H' := Az H; clear H
          go_wp2
          (first | go_roundg k2 | (refine Handed.intro k2 ?measure ?_; rotate_left; go_step; (try simp only [add_plain]); (repeat apply Exists.intro); refine ⟨?rel, rfl⟩))
          case measure => have := HK1.out; have := HK2.out; omega
          case rel => exact ⟨(wrap64 (x6_1 + x10_2)), (wrap64 (x26_1 + 1)), rS, rS, H', ⟨by have := HK1.out; have := HK2.out; omega⟩, ⟨sU HO_24.out⟩, ⟨bU0 HB.out⟩⟩
      ·
       rw [if_neg c9] at H
       exact absurd H (by simp)
     ·
      rw [if_neg c8] at H
      exact absurd H (by simp)
    ·
     rw [if_neg c7] at H; have c7b0 := decide_eq_false c7; clear c7; replace H := Option.bind_eq_some_iff.mp H; obtain ⟨t496, A200, H⟩ := H; replace H : (if t496 = 0 then (none) else (some (wrap64 (Int.tdiv x6_1 t496)))) = some r := H; have A20 := Az A200; clear A200
     by_cases c21 : t496 = 0
     ·
      rw [if_pos c21] at H
      exact absurd H (by simp)
     ·
      rw [if_neg c21] at H; have c21b0 := beq_eq_false_iff_ne.mpr c21; have c21b1 := bne_iff_ne.mpr c21; obtain rfl := Option.some.inj H
      go_wp2_with (first | ((with_reducible refine gate_callee (f := 109) rfl ?_); refine goesL_ (some 62) rfl rfl Try.func109 (by kernel_rfl) rfl #[.int .i64 t491] rfl (by (try simp only [List.map_toArray, List.map_cons, List.map_nil]); first | done | rfl | (simp only [List.length_drop, List.length_take]; rfl)) ?_; (with_reducible refine (impl_factorial.calls k1 t491 t496 _ A20.out).mono ?_); rintro e w' ⟨rfl, ⟨nd, rfl⟩⟩; refine ⟨_, rfl, ?_⟩))
      go_ret
      exact ⟨rE, bU0 HB.out⟩
def IsS87 (w0 W : World) (g : Nat) (f0 : List Int) (f1 : Int) : Prop := ∃ A0 c0, W.heap[g]? = some (.cells #[.slice A0 f0.length c0, .int .i64 f1] 87 (0, 0)) ∧ w0.heap.size ≤ g ∧ Kd.C (Kd.int .u8) w0 A0 f0.length f0
theorem IsS87.grown {w0 W : World} {g : Nat} {f0 : List Int} {f1 : Int} {W1 : World} {row : Option Nat} (h : IsS87 w0 W g f0 f1) (hw : W.grownBy W1 row) (hne : some g ≠ row) : IsS87 w0 W1 g f0 f1 := by
 obtain ⟨A0, c0, hb, hg, hr0⟩ := h
 exact ⟨A0, c0, blk_grown hb hw hne, hg, hr0⟩
theorem IsS87.fresh {w0 W : World} {g : Nat} {f0 : List Int} {f1 : Int} (h : IsS87 w0 W g f0 f1) : ∀ k, W.heap.size ≤ k → k ≠ g := by
 obtain ⟨A0, c0, hb, hg, hr0⟩ := h
 exact Kd.freshB hb
theorem IsS87.kept {w0 W : World} {g : Nat} {f0 : List Int} {f1 : Int} {W1 : World} {S : Nat → Prop} (h : IsS87 w0 W g f0 f1) (hk : Kept W W1 S) (hne : ¬ S g) : IsS87 w0 W1 g f0 f1 := by
 obtain ⟨A0, c0, hb, hg, hr0⟩ := h
 exact ⟨A0, c0, blk_kept hb hk hne, hg, hr0⟩
theorem IsS87.below {w0 W : World} {g : Nat} {f0 : List Int} {f1 : Int} {W1 : World} (h : IsS87 w0 W g f0 f1) (hw : Below W.heap.size W W1) : IsS87 w0 W1 g f0 f1 := h.grown (grown_of_below hw none) (by simp)
theorem IsS87.alloc {w0 W : World} {g : Nat} {f0 : List Int} {f1 : Int} (h : IsS87 w0 W g f0 f1) (o : Obj) : IsS87 w0 (W.alloc o) g f0 f1 := h.below (below_alloc (Below.refl _ _) o)
theorem IsS87.drewN {w0 W : World} {g : Nat} {f0 : List Int} {f1 : Int} (h : IsS87 w0 W g f0 f1) (m : Nat) : IsS87 w0 (W.drewN m) g f0 f1 := h
theorem IsS87.drew {w0 W : World} {g : Nat} {f0 : List Int} {f1 : Int} (h : IsS87 w0 W g f0 f1) : IsS87 w0 W.drew g f0 f1 := h
theorem IsS87.at_ {w0 W : World} {g : Nat} {f0 : List Int} {f1 : Int} {w' : World} {m : Nat} (hq : W.drewN m = w') (h : IsS87 w0 W g f0 f1) : IsS87 w0 w' g f0 f1 := by subst hq; exact IsS87.drewN h m
theorem IsS87.apart {w0 W : World} {g : Nat} {f0 : List Int} {f1 : Int} {α : Type} {d : Kd α} {e : Nat} {base : Nat} {ok : Nat → Prop} {v : Value} {xs : List α} (h : IsS87 w0 W g f0 f1) (ho : d.R e W base ok v xs) (ht : ∀ q, q ∈ e :: d.E → q ≠ 87) : d.R e W base (fun k => ok k ∧ k ≠ g) v xs := by
 obtain ⟨A0, c0, hb, hg, hr0⟩ := h
 exact Kd.R_types ho hb ht
theorem IsS87.own_ne {w0 W : World} {g : Nat} {f0 : List Int} {f1 : Int} {α : Type} {d : Kd α} {e : Nat} {base : Nat} {ok : Nat → Prop} {v : Value} {xs : List α} (h : IsS87 w0 W g f0 f1) (ho : d.R e W base ok v xs) (ht : e ≠ 87) : some g ≠ v.ownBlock := by
 obtain ⟨A0, c0, hb, hg, hr0⟩ := h
 exact Kd.R_ne ho hb ht
theorem IsS87.apartS {w0 W : World} {g : Nat} {f0 : List Int} {f1 : Int} {α : Type} {d : Kd α} {e : Nat} {base : Nat} {ok : Nat → Prop} {v : Value} {xs : List α} (h : IsS87 w0 W g f0 f1) (ho : d.S e W base ok v xs) (ht : ∀ q, q ∈ e :: d.E → q ≠ 87) : d.S e W base (fun k => ok k ∧ k ≠ g) v xs := by
 obtain ⟨A0, c0, hb, hg, hr0⟩ := h
 exact Kd.S_types ho hb ht
theorem IsS87.own_neS {w0 W : World} {g : Nat} {f0 : List Int} {f1 : Int} {α : Type} {d : Kd α} {e : Nat} {base : Nat} {ok : Nat → Prop} {v : Value} {xs : List α} (h : IsS87 w0 W g f0 f1) (ho : d.S e W base ok v xs) (ht : e ≠ 87) : some g ≠ v.ownBlock := by
 obtain ⟨A0, c0, hb, hg, hr0⟩ := h
 exact Kd.S_ne ho hb ht
theorem IsS87.ge {w0 W : World} {g : Nat} {f0 : List Int} {f1 : Int} (h : IsS87 w0 W g f0 f1) : w0.heap.size ≤ g := by
 obtain ⟨A0, c0, hb, hg, hr0⟩ := h
 exact hg
theorem cellS87_0 {W : World} {g : Nat} {A0 : Option Addr} {c0 : Nat} {f0 : List Int} {f1 : Int} (h : W.heap[g]? = some (.cells #[.slice A0 f0.length c0, .int .i64 f1] 87 (0, 0))) : W.cell? ⟨g, 0, none⟩ = some (.slice A0 f0.length c0) := (blk_cell h 0).trans rfl
theorem cellS87_1 {W : World} {g : Nat} {A0 : Option Addr} {c0 : Nat} {f0 : List Int} {f1 : Int} (h : W.heap[g]? = some (.cells #[.slice A0 f0.length c0, .int .i64 f1] 87 (0, 0))) : W.cell? ⟨g, 1, none⟩ = some (.int .i64 f1) := (blk_cell h 1).trans rfl
theorem IsS87.set_1 {w0 W : World} {g : Nat} {f0 : List Int} {f1 : Int} (h : IsS87 w0 W g f0 f1) (x : Int) : IsS87 w0 (W.setCell ⟨g, 1, none⟩ (.int .i64 x)) g f0 x := by
 obtain ⟨A0, c0, hb, hg, hr0⟩ := h
 exact ⟨A0, c0, by simpa using blk_set hb 1 (.int .i64 x), hg, hr0⟩
def spec_l6Open.f (l0 : List Int) : Option (List Int × Int) := if (l0.length : Int) > 2000 then (if 2000 ≤ (l0.length : Int) then (some (l0.take 2000, 0)) else (none)) else (some (l0, 0))
set_option maxHeartbeats 8000000 in
set_option maxRecDepth 100000 in
theorem spec_l6Open.calls (A0 : Option Addr) (c0 : Nat) (l0 : List Int) (r1 : List Int) (r2 : Int) (w0 w : World) (hB : Below w0.heap.size w0 w) (hr0 : Kd.C (Kd.int .u8) w0 A0 l0.length l0) (hc0 : l0.length ≤ c0) (h : spec_l6Open.f l0 = some (r1, r2)) :
  Calls Try.prog 55 #[.slice A0 l0.length c0] w fun e w' => ∃ g_ : Nat, e = .returned (.pointer (some ⟨g_, 0, none⟩)) ∧ IsS87 w0 w' g_ r1 r2 ∧ Below w0.heap.size w0 w' ∧ Below w.heap.size w w' := by
 have hu87 := Try.underlying87; have HR0 := Az hr0; have HC0 := Az hc0; clear hr0 hc0; have HBW := Az (Below.refl w.heap.size w); have HW0 := Az hB.size; have HB := Az hB; clear hB; have H : (if (l0.length : Int) > 2000 then (if 2000 ≤ (l0.length : Int) then (some (l0.take 2000, 0)) else (none)) else (some (l0, 0))) = some (r1, r2) := h; clear h
 by_cases c2 : (l0.length : Int) > 2000
 ·
  rw [if_pos c2] at H; have c2b0 := decide_eq_true c2; have c2b1 : decide (2000 < l0.length) = true := decide_eq_true (by omega); clear c2
  by_cases c3 : 2000 ≤ (l0.length : Int)
  ·
   rw [if_pos c3] at H; have c3b0 := eq_true c3; have c3b1 := decide_eq_true c3; clear c3; simp only [Option.some.injEq, Prod.mk.injEq] at H; obtain ⟨rfl, rfl⟩ := H; obtain ⟨i04, hi04, _, hsz4, _⟩ := info_parts info5; obtain ⟨hcut4, hA4, hC4⟩ := print_take_of (P := Try.prog) (Value.int .u8) 0 22 5 .i64 Try.underlying22 hi04 hsz4 A0 c0 l0 2000 (by omega) (oA) HC0.out; have HR503 := Az (Kd.C_of_reads (h1 := fun _ => rfl) (hA4 _ (Kd.reads_of_C HR0.out))); have HC503 := Az hC4; clear hA4 hC4 hi04 hsz4
   go_enter Try.func55, Try.ntmps55
   go_wp2_with (first | ((with_reducible refine gate_dst (N := 10) rfl ?_); refine box_event ?hg (N := 10) ?hd (cs := #[.slice A0 (l0.take 2000).length c0, .int .i64 0]) (t := 87) ?hr ?_; (case hd => rfl); (case hg => rfl); (case hr => first | (go_simp; done) | (go_simp; rfl)); intro gb504 hg w5 hbox hb; have n0 := Az (below_step HBW.out hb); have n1 := Az (below_step (bU0 HB.out) hb); have n2 := Az (hbox); have n3 := Az ((by rw [hg]; exact (below_size (by repeat (first | (with_reducible first | exact HBW.out | apply below_alloc | apply pw_below_drewN | apply below_drew1) | exact HBW.out))) : w.heap.size ≤ gb504)); have n4 := Az ((Nat.le_trans HW0.out (by rw [hg]; exact (below_size (by repeat (first | (with_reducible first | exact HBW.out | apply below_alloc | apply pw_below_drewN | apply below_drew1) | exact HBW.out))) : w.heap.size ≤ gb504) : w0.heap.size ≤ gb504)); clear HBW HB; have HBW := n0; have HB := n1; have BK504 := n2; have GW504 := n3; have GE504 := n4; clear n0 n1 n2 n3 n4; clear hb hbox hg))
   go_ret
   exact ⟨_, rfl, (show IsS87 w0 _ gb504 (l0.take 2000) 0 from ⟨_, _, kU BK504.out, GE504.out, HR503.out⟩), bU1 HB.out GE504.out, by repeat (first | (with_reducible first | exact HBW.out | apply below_alloc | apply pw_below_drewN | apply below_drew1 | refine below_set ?_ GW504.out) | exact HBW.out)⟩
  ·
   rw [if_neg c3] at H
   exact absurd H (by simp)
 ·
  rw [if_neg c2] at H; have c2b0 := decide_eq_false c2; have c2b1 : decide (2000 < l0.length) = false := decide_eq_false (by omega); clear c2; simp only [Option.some.injEq, Prod.mk.injEq] at H; obtain ⟨rfl, rfl⟩ := H
  go_enter Try.func55, Try.ntmps55
  go_wp2_with (first | ((with_reducible refine gate_dst (N := 10) rfl ?_); refine box_event ?hg (N := 10) ?hd (cs := #[.slice A0 l0.length c0, .int .i64 0]) (t := 87) ?hr ?_; (case hd => rfl); (case hg => rfl); (case hr => first | (go_simp; done) | (go_simp; rfl)); intro gb505 hg w6 hbox hb; have n0 := Az (below_step HBW.out hb); have n1 := Az (below_step (bU0 HB.out) hb); have n2 := Az (hbox); have n3 := Az ((by rw [hg]; exact (below_size (by repeat (first | (with_reducible first | exact HBW.out | apply below_alloc | apply pw_below_drewN | apply below_drew1) | exact HBW.out))) : w.heap.size ≤ gb505)); have n4 := Az ((Nat.le_trans HW0.out (by rw [hg]; exact (below_size (by repeat (first | (with_reducible first | exact HBW.out | apply below_alloc | apply pw_below_drewN | apply below_drew1) | exact HBW.out))) : w.heap.size ≤ gb505) : w0.heap.size ≤ gb505)); clear HBW HB; have HBW := n0; have HB := n1; have BK505 := n2; have GW505 := n3; have GE505 := n4; clear n0 n1 n2 n3 n4; clear hb hbox hg))
  go_ret
  exact ⟨_, rfl, (show IsS87 w0 _ gb505 l0 0 from ⟨_, _, kU BK505.out, GE505.out, HR0.out⟩), bU1 HB.out GE505.out, by repeat (first | (with_reducible first | exact HBW.out | apply below_alloc | apply pw_below_drewN | apply below_drew1 | refine below_set ?_ GW505.out) | exact HBW.out)⟩
def spec_l6Rd_pick.j0 : Nat → Int → Bool → List Int → Int → Option (Int × Int)
 | 0, _, _, _, _ => none
 | k + 1, x1, x24, x1000, x1001 => if x24 = true then (some (0, x1001)) else (if (wrap64 (x1001 - 1)) < (x1000.length : Int) then (if 0 ≤ (wrap64 (x1001 - 1)) then (if x1 = 0 then (none) else (some (Int.tmod (wrap64 (rd x1000 (wrap64 (x1001 - 1)))) x1, x1001))) else (none)) else (if (x1000.length : Int) = 0 then (none) else (if 0 ≤ (Int.tmod (wrap64 (x1001 - 1)) (x1000.length : Int)) then (if (Int.tmod (wrap64 (x1001 - 1)) (x1000.length : Int)) < (x1000.length : Int) then (if 0 ≤ (Int.tmod (wrap64 ((wrap64 ((wrap64 (x1001 - 1)) * 7)) + 3)) (x1000.length : Int)) then (if (Int.tmod (wrap64 ((wrap64 ((wrap64 (x1001 - 1)) * 7)) + 3)) (x1000.length : Int)) < (x1000.length : Int) then (if x1 = 0 then (none) else (some (Int.tmod (Go.bits .xor .i64 (wrap64 ((wrap64 ((wrap64 ((wrap64 ((wrap64 (rd x1000 (Int.tmod (wrap64 (x1001 - 1)) (x1000.length : Int)))) * 131)) + (wrap64 ((wrap64 (rd x1000 (Int.tmod (wrap64 ((wrap64 ((wrap64 (x1001 - 1)) * 7)) + 3)) (x1000.length : Int)))) * 1117)))) + (wrap64 ((wrap64 (x1001 - 1)) * 29)))) + (wrap64 ((wrap64 (Int.tdiv (wrap64 (x1001 - 1)) (x1000.length : Int))) * 53)))) (wrap64 (Int.tdiv (wrap64 ((wrap64 ((wrap64 ((wrap64 ((wrap64 (rd x1000 (Int.tmod (wrap64 (x1001 - 1)) (x1000.length : Int)))) * 131)) + (wrap64 ((wrap64 (rd x1000 (Int.tmod (wrap64 ((wrap64 ((wrap64 (x1001 - 1)) * 7)) + 3)) (x1000.length : Int)))) * 1117)))) + (wrap64 ((wrap64 (x1001 - 1)) * 29)))) + (wrap64 ((wrap64 (Int.tdiv (wrap64 (x1001 - 1)) (x1000.length : Int))) * 53)))) 64))) x1, x1001))) else (none)) else (none)) else (none)) else (none))))
def spec_l6Rd_pick.f (k : Nat) (s0_0 : List Int) (s0_1 : Int) (a1 : Int) : Option (Int × Int) := if a1 < 1 then (spec_l6Rd_pick.j0 k a1 true s0_0 (wrap64 (s0_1 + 1))) else (spec_l6Rd_pick.j0 k a1 ((s0_0.length : Int) == 0) s0_0 (wrap64 (s0_1 + 1)))
set_option maxHeartbeats 8000000 in
set_option maxRecDepth 100000 in
theorem spec_l6Rd_pick.calls (k : Nat) (g : Nat) (s0_0 : List Int) (s0_1 : Int) (a1 : Int) (r1 : Int) (r2 : Int) (w0 w : World) (hI : IsS87 w0 w g s0_0 s0_1) (hB : Below w0.heap.size w0 w) (h : spec_l6Rd_pick.f k s0_0 s0_1 a1 = some (r1, r2)) :
  Calls Try.prog 76 #[.pointer (some ⟨g, 0, none⟩), .int .i64 a1] w fun e w' => e = .returned (.int .i64 r1) ∧ IsS87 w0 w' g s0_0 r2 ∧ Below w0.heap.size w0 w' ∧ KeepBut w w' g none := by
 have HI0 := Az hI; have HK := Az (KeepBut.refl w g none); have HL := Az hB.size; clear hI; have HW0 := Az hB.size; have HB := Az hB; clear hB; have H : (if a1 < 1 then (spec_l6Rd_pick.j0 k a1 true s0_0 (wrap64 (s0_1 + 1))) else (spec_l6Rd_pick.j0 k a1 ((s0_0.length : Int) == 0) s0_0 (wrap64 (s0_1 + 1)))) = some (r1, r2) := h; clear h; have HC3 := Az H; clear H; obtain ⟨ASz4_0, cSz4_0, HGz4, hgz4, HSz4_0⟩ := HI0.out; have hcz4_0 := cellS87_0 HGz4; have hcz4_1 := cellS87_1 HGz4; have hfz4_1 := blk_frozen HGz4 1; clear HGz4 hgz4
 go_enter Try.func76, Try.ntmps76
 go_upto_region 2 with (fail)
 repeat (go_quiet (fail); go_upto_region 2 with (fail))
 go_cut [24] (fun v24 wc => ∃ (kq : Nat) (x24_2 : Bool), v24 = .bool x24_2 ∧ Aside0 (spec_l6Rd_pick.j0 kq a1 x24_2 s0_0 (wrap64 (s0_1 + 1)) = some (r1, r2)) ∧ Aside0 (kq ≤ k) ∧ Aside0 (IsS87 w0 wc g s0_0 (wrap64 (s0_1 + 1))) ∧ Aside0 (KeepBut w wc g none) ∧ Aside0 (Below w0.heap.size w0 wc))
 case first =>
  have H := HC3.out; clear HC3
  by_cases c5 : a1 < 1
  ·
   rw [if_pos c5] at H; have c5b0 := decide_eq_true c5; clear c5; (first | rw [c5b0] | (simp only [i64_w, i32_w]; rw [c5b0]) | skip); have H' := Az H; clear H
   go_wp2
   repeat (go_quiet (fail); try go_wp2)
   go_meet
   case rel => exact ⟨_, (true), rS, H', ⟨by first | omega | exact Nat.le_refl _⟩, ⟨by repeat (first | (with_reducible first | exact HI0.out | apply IsS87.alloc | apply IsS87.drewN | apply IsS87.drew | apply IsS87.set_1) | exact HI0.out)⟩, ⟨by repeat (first | (with_reducible first | exact HK.out | apply KeepBut.set_ | apply keep_drewN | apply keep_drew | apply keep_alloc) | exact HK.out)⟩, ⟨by repeat (first | (with_reducible first | exact HB.out | apply below_alloc | apply pw_below_drewN | apply below_drew1 | refine below_set ?_ (IsS87.ge HI0.out)) | exact HB.out)⟩⟩
  ·
   rw [if_neg c5] at H; have c5b0 := decide_eq_false c5; clear c5; (first | rw [c5b0] | (simp only [i64_w, i32_w]; rw [c5b0]) | skip); have H' := Az H; clear H; obtain ⟨ASz6_0, cSz6_0, HGz6, hgz6, HSz6_0⟩ := HI0.out; have hcz6_0 := cellS87_0 HGz6; have hcz6_1 := cellS87_1 HGz6; have hfz6_1 := blk_frozen HGz6 1; clear HGz6 hgz6
   go_wp2
   repeat (go_quiet (fail); try go_wp2)
   go_meet
   case rel => exact ⟨_, (((s0_0.length : Int) == 0)), rS, H', ⟨by first | omega | exact Nat.le_refl _⟩, ⟨by repeat (first | (with_reducible first | exact HI0.out | apply IsS87.alloc | apply IsS87.drewN | apply IsS87.drew | apply IsS87.set_1) | exact HI0.out)⟩, ⟨by repeat (first | (with_reducible first | exact HK.out | apply KeepBut.set_ | apply keep_drewN | apply keep_drew | apply keep_alloc) | exact HK.out)⟩, ⟨by repeat (first | (with_reducible first | exact HB.out | apply below_alloc | apply pw_below_drewN | apply below_drew1 | refine below_set ?_ (IsS87.ge HI0.out)) | exact HB.out)⟩⟩
 case rest =>
  clear HC3; (try clear p2); (try clear c5); (try clear c5b0); (try clear p6); (try clear hcz4_0); (try clear hcz4_1); (try clear hcz6_0); (try clear hcz6_1); (try clear hfz4_1); (try clear hfz6_1); obtain ⟨kq, x24_2, rfl, HA, HJ2, HI0, HK, HB⟩ := hcut
  cases kq with
  | zero => exact absurd HA.out (by simp [spec_l6Rd_pick.j0])
  | succ kj2 =>
   have H := HA.out; clear HA; simp only [spec_l6Rd_pick.j0] at H
   by_cases c7 : x24_2 = true
   ·
    subst c7
    have H1 : (some (0, (wrap64 (s0_1 + 1)))) = some (r1, r2) := by rw [if_pos rfl] at H; exact H
    clear H; have H := H1; clear H1; simp only [Option.some.injEq, Prod.mk.injEq] at H; obtain ⟨rfl, rfl⟩ := H
    go_wp2
    repeat (go_quiet (fail); try go_wp2)
    go_ret
    exact ⟨rE, by repeat (first | (with_reducible first | exact HI0.out | apply IsS87.alloc | apply IsS87.drewN | apply IsS87.drew | apply IsS87.set_1) | exact HI0.out), by repeat (first | (with_reducible first | exact HB.out | apply below_alloc | apply pw_below_drewN | apply below_drew1 | refine below_set ?_ (IsS87.ge HI0.out)) | exact HB.out), by repeat (first | (with_reducible first | exact HK.out | apply KeepBut.set_ | apply keep_drewN | apply keep_drew | apply keep_alloc) | exact HK.out)⟩
   ·
    replace c7 := Bool.eq_false_iff.mpr c7; subst c7
    have H1 : (if (wrap64 ((wrap64 (s0_1 + 1)) - 1)) < (s0_0.length : Int) then (if 0 ≤ (wrap64 ((wrap64 (s0_1 + 1)) - 1)) then (if a1 = 0 then (none) else (some (Int.tmod (wrap64 (rd s0_0 (wrap64 ((wrap64 (s0_1 + 1)) - 1)))) a1, (wrap64 (s0_1 + 1))))) else (none)) else (if (s0_0.length : Int) = 0 then (none) else (if 0 ≤ (Int.tmod (wrap64 ((wrap64 (s0_1 + 1)) - 1)) (s0_0.length : Int)) then (if (Int.tmod (wrap64 ((wrap64 (s0_1 + 1)) - 1)) (s0_0.length : Int)) < (s0_0.length : Int) then (if 0 ≤ (Int.tmod (wrap64 ((wrap64 ((wrap64 ((wrap64 (s0_1 + 1)) - 1)) * 7)) + 3)) (s0_0.length : Int)) then (if (Int.tmod (wrap64 ((wrap64 ((wrap64 ((wrap64 (s0_1 + 1)) - 1)) * 7)) + 3)) (s0_0.length : Int)) < (s0_0.length : Int) then (if a1 = 0 then (none) else (some (Int.tmod (Go.bits .xor .i64 (wrap64 ((wrap64 ((wrap64 ((wrap64 ((wrap64 (rd s0_0 (Int.tmod (wrap64 ((wrap64 (s0_1 + 1)) - 1)) (s0_0.length : Int)))) * 131)) + (wrap64 ((wrap64 (rd s0_0 (Int.tmod (wrap64 ((wrap64 ((wrap64 ((wrap64 (s0_1 + 1)) - 1)) * 7)) + 3)) (s0_0.length : Int)))) * 1117)))) + (wrap64 ((wrap64 ((wrap64 (s0_1 + 1)) - 1)) * 29)))) + (wrap64 ((wrap64 (Int.tdiv (wrap64 ((wrap64 (s0_1 + 1)) - 1)) (s0_0.length : Int))) * 53)))) (wrap64 (Int.tdiv (wrap64 ((wrap64 ((wrap64 ((wrap64 ((wrap64 (rd s0_0 (Int.tmod (wrap64 ((wrap64 (s0_1 + 1)) - 1)) (s0_0.length : Int)))) * 131)) + (wrap64 ((wrap64 (rd s0_0 (Int.tmod (wrap64 ((wrap64 ((wrap64 ((wrap64 (s0_1 + 1)) - 1)) * 7)) + 3)) (s0_0.length : Int)))) * 1117)))) + (wrap64 ((wrap64 ((wrap64 (s0_1 + 1)) - 1)) * 29)))) + (wrap64 ((wrap64 (Int.tdiv (wrap64 ((wrap64 (s0_1 + 1)) - 1)) (s0_0.length : Int))) * 53)))) 64))) a1, (wrap64 (s0_1 + 1))))) else (none)) else (none)) else (none)) else (none)))) = some (r1, r2) := by rw [if_neg (show ¬ (false = true) by decide)] at H; exact H
    clear H; have H := H1; clear H1
    by_cases c8 : (wrap64 ((wrap64 (s0_1 + 1)) - 1)) < (s0_0.length : Int)
    ·
     rw [if_pos c8] at H; have c8b0 := decide_eq_true c8; clear c8; obtain ⟨ji9, hji9⟩ : ∃ j_ : Int, (wrap64 ((wrap64 (s0_1 + 1)) - 1)) = j_ := ⟨_, rfl⟩
     replace H : (if 0 ≤ (ji9) then (if a1 = 0 then (none) else (some (Int.tmod (wrap64 (rd s0_0 (ji9))) a1, (wrap64 (s0_1 + 1))))) else (none)) = some (r1, r2) := by first | (rw [hji9] at H; exact H) | (simp only [hji9] at H ⊢; exact H)
     (try rw [hji9] at c8b0); have hji9w : (IntKind.i64.wrap ((wrap64 (s0_1 + 1)) - 1)) = ji9 := (i64_w _).trans hji9
     by_cases c10 : 0 ≤ (ji9)
     ·
      rw [if_pos c10] at H; have c10b0 := decide_eq_true c10; clear c10
      by_cases c11 : a1 = 0
      ·
       rw [if_pos c11] at H
       exact absurd H (by simp)
      ·
       rw [if_neg c11] at H; have c11b0 := beq_eq_false_iff_ne.mpr c11; have c11b1 := bne_iff_ne.mpr c11; simp only [Option.some.injEq, Prod.mk.injEq] at H; obtain ⟨rfl, rfl⟩ := H; obtain ⟨ASz12_0, cSz12_0, HGz12, hgz12, HSz12_0⟩ := HI0.out; have hcz12_0 := cellS87_0 HGz12; have hcz12_1 := cellS87_1 HGz12; have hfz12_1 := blk_frozen HGz12 1; clear HGz12 hgz12; have p506 : 0 ≤ ((ji9) : Int) := oA; have q506 : (ji9) < (s0_0.length : Int) := oA; obtain ⟨ad506, e506, hx506_0⟩ := Kd.at_int HSz12_0 (ji9) p506 q506
       cases e506
       replace hx506_0 := pw_cell_below HB.out hx506_0; replace p506 := eq_true p506; replace q506 := eq_true q506
       go_wp2
       repeat (go_quiet (fail); try go_wp2)
       go_ret
       exact ⟨by first | rfl | (simp [errW_none, errW_some] <;> rfl) | (simp only [← hji9]; first | rfl | (simp [errW_none, errW_some] <;> rfl)) | (simp [*, errW_none, errW_some] <;> rfl), by repeat (first | (with_reducible first | exact HI0.out | apply IsS87.alloc | apply IsS87.drewN | apply IsS87.drew | apply IsS87.set_1) | exact HI0.out), by repeat (first | (with_reducible first | exact HB.out | apply below_alloc | apply pw_below_drewN | apply below_drew1 | refine below_set ?_ (IsS87.ge HI0.out)) | exact HB.out), by repeat (first | (with_reducible first | exact HK.out | apply KeepBut.set_ | apply keep_drewN | apply keep_drew | apply keep_alloc) | exact HK.out)⟩
     ·
      rw [if_neg c10] at H
      exact absurd H (by simp)
    ·
     rw [if_neg c8] at H; have c8b0 := decide_eq_false c8; clear c8
     by_cases c13 : (s0_0.length : Int) = 0
     ·
      rw [if_pos c13] at H
      exact absurd H (by simp)
     ·
      rw [if_neg c13] at H; have c13b0 := beq_eq_false_iff_ne.mpr c13; have c13b1 := bne_iff_ne.mpr c13
      have c13b2 : ¬ (s0_0 = []) := fun h_ => c13 (by rw [h_]; rfl)
      obtain ⟨ji14, hji14⟩ : ∃ j_ : Int, (Int.tmod (wrap64 ((wrap64 (s0_1 + 1)) - 1)) (s0_0.length : Int)) = j_ := ⟨_, rfl⟩
      replace H : (if 0 ≤ (ji14) then (if (ji14) < (s0_0.length : Int) then (if 0 ≤ (Int.tmod (wrap64 ((wrap64 ((wrap64 ((wrap64 (s0_1 + 1)) - 1)) * 7)) + 3)) (s0_0.length : Int)) then (if (Int.tmod (wrap64 ((wrap64 ((wrap64 ((wrap64 (s0_1 + 1)) - 1)) * 7)) + 3)) (s0_0.length : Int)) < (s0_0.length : Int) then (if a1 = 0 then (none) else (some (Int.tmod (Go.bits .xor .i64 (wrap64 ((wrap64 ((wrap64 ((wrap64 ((wrap64 (rd s0_0 (ji14))) * 131)) + (wrap64 ((wrap64 (rd s0_0 (Int.tmod (wrap64 ((wrap64 ((wrap64 ((wrap64 (s0_1 + 1)) - 1)) * 7)) + 3)) (s0_0.length : Int)))) * 1117)))) + (wrap64 ((wrap64 ((wrap64 (s0_1 + 1)) - 1)) * 29)))) + (wrap64 ((wrap64 (Int.tdiv (wrap64 ((wrap64 (s0_1 + 1)) - 1)) (s0_0.length : Int))) * 53)))) (wrap64 (Int.tdiv (wrap64 ((wrap64 ((wrap64 ((wrap64 ((wrap64 (rd s0_0 (ji14))) * 131)) + (wrap64 ((wrap64 (rd s0_0 (Int.tmod (wrap64 ((wrap64 ((wrap64 ((wrap64 (s0_1 + 1)) - 1)) * 7)) + 3)) (s0_0.length : Int)))) * 1117)))) + (wrap64 ((wrap64 ((wrap64 (s0_1 + 1)) - 1)) * 29)))) + (wrap64 ((wrap64 (Int.tdiv (wrap64 ((wrap64 (s0_1 + 1)) - 1)) (s0_0.length : Int))) * 53)))) 64))) a1, (wrap64 (s0_1 + 1))))) else (none)) else (none)) else (none)) else (none)) = some (r1, r2) := by first | (rw [hji14] at H; exact H) | (simp only [hji14] at H ⊢; exact H)
      by_cases c15 : 0 ≤ (ji14)
      ·
       rw [if_pos c15] at H; have c15b0 := decide_eq_true c15; clear c15
       by_cases c16 : (ji14) < (s0_0.length : Int)
       ·
        rw [if_pos c16] at H; have c16b0 := decide_eq_true c16; clear c16; obtain ⟨ji17, hji17⟩ : ∃ j_ : Int, (Int.tmod (wrap64 ((wrap64 ((wrap64 ((wrap64 (s0_1 + 1)) - 1)) * 7)) + 3)) (s0_0.length : Int)) = j_ := ⟨_, rfl⟩
        replace H : (if 0 ≤ (ji17) then (if (ji17) < (s0_0.length : Int) then (if a1 = 0 then (none) else (some (Int.tmod (Go.bits .xor .i64 (wrap64 ((wrap64 ((wrap64 ((wrap64 ((wrap64 (rd s0_0 (ji14))) * 131)) + (wrap64 ((wrap64 (rd s0_0 (ji17))) * 1117)))) + (wrap64 ((wrap64 ((wrap64 (s0_1 + 1)) - 1)) * 29)))) + (wrap64 ((wrap64 (Int.tdiv (wrap64 ((wrap64 (s0_1 + 1)) - 1)) (s0_0.length : Int))) * 53)))) (wrap64 (Int.tdiv (wrap64 ((wrap64 ((wrap64 ((wrap64 ((wrap64 (rd s0_0 (ji14))) * 131)) + (wrap64 ((wrap64 (rd s0_0 (ji17))) * 1117)))) + (wrap64 ((wrap64 ((wrap64 (s0_1 + 1)) - 1)) * 29)))) + (wrap64 ((wrap64 (Int.tdiv (wrap64 ((wrap64 (s0_1 + 1)) - 1)) (s0_0.length : Int))) * 53)))) 64))) a1, (wrap64 (s0_1 + 1))))) else (none)) else (none)) = some (r1, r2) := by first | (rw [hji17] at H; exact H) | (simp only [hji17] at H ⊢; exact H)
        by_cases c18 : 0 ≤ (ji17)
        ·
         rw [if_pos c18] at H; have c18b0 := decide_eq_true c18; clear c18
         by_cases c19 : (ji17) < (s0_0.length : Int)
         ·
          rw [if_pos c19] at H; have c19b0 := decide_eq_true c19; clear c19
          by_cases c20 : a1 = 0
          ·
           rw [if_pos c20] at H
           exact absurd H (by simp)
          ·
           rw [if_neg c20] at H; have c20b0 := beq_eq_false_iff_ne.mpr c20; have c20b1 := bne_iff_ne.mpr c20; simp only [Option.some.injEq, Prod.mk.injEq] at H; obtain ⟨rfl, rfl⟩ := H; obtain ⟨ASz21_0, cSz21_0, HGz21, hgz21, HSz21_0⟩ := HI0.out; have hcz21_0 := cellS87_0 HGz21; have hcz21_1 := cellS87_1 HGz21; have hfz21_1 := blk_frozen HGz21 1; clear HGz21 hgz21; have p507 : 0 ≤ ((ji14) : Int) := oA; have q507 : (ji14) < (s0_0.length : Int) := oA; obtain ⟨ad507, e507, hx507_0⟩ := Kd.at_int HSz21_0 (ji14) p507 q507
           cases e507
           replace hx507_0 := pw_cell_below HB.out hx507_0; replace p507 := eq_true p507; replace q507 := eq_true q507; have p508 : 0 ≤ ((ji17) : Int) := oA; have q508 : (ji17) < (s0_0.length : Int) := oA; obtain ⟨ad508, e508, hx508_0⟩ := Kd.at_int HSz21_0 (ji17) p508 q508; obtain rfl : ad507 = ad508 := (by injection e508); replace hx508_0 := pw_cell_below HB.out hx508_0; replace p508 := eq_true p508; replace q508 := eq_true q508
           go_wp2
           repeat (go_quiet (fail); try go_wp2)
           go_ret
           exact ⟨by first | rfl | (simp [errW_none, errW_some] <;> rfl) | (simp only [← hji14, ← hji17]; first | rfl | (simp [errW_none, errW_some] <;> rfl)) | (simp [*, errW_none, errW_some] <;> rfl), by repeat (first | (with_reducible first | exact HI0.out | apply IsS87.alloc | apply IsS87.drewN | apply IsS87.drew | apply IsS87.set_1) | exact HI0.out), by repeat (first | (with_reducible first | exact HB.out | apply below_alloc | apply pw_below_drewN | apply below_drew1 | refine below_set ?_ (IsS87.ge HI0.out)) | exact HB.out), by repeat (first | (with_reducible first | exact HK.out | apply KeepBut.set_ | apply keep_drewN | apply keep_drew | apply keep_alloc) | exact HK.out)⟩
         ·
          rw [if_neg c19] at H
          exact absurd H (by simp)
        ·
         rw [if_neg c18] at H
         exact absurd H (by simp)
       ·
        rw [if_neg c16] at H
        exact absurd H (by simp)
      ·
       rw [if_neg c15] at H
       exact absurd H (by simp)
mutual
def spec_l5All.l0 : Nat → Int → List (List Int) → Int → Option ((List (List Int)))
 | 0, _, _, _ => none
 | k + 1, x0, x5, x6 => if x6 > 0 then ((spec_l5All.f k (wrap64 (x0 - x6)) x6).bind fun t518 => (spec_l5All.l1 k x0 x5 x6 t518 0)) else (some x5)
def spec_l5All.l1 : Nat → Int → List (List Int) → Int → List (List Int) → Int → Option ((List (List Int)))
 | 0, _, _, _, _, _ => none
 | k + 1, x0, x5, x6, x7, x8 => if x8 < (x7.length : Int) then ((some (([x6] : List Int) : List Int)).bind fun y521 => (if 0 ≤ x8 then (if y521.length + (rd_L1 x7 x8).length < 17592186044416 then (if x5.length < 5864062014805 then (spec_l5All.l1 k x0 (x5 ++ [(y521 ++ (rd_L1 x7 x8))]) x6 x7 (wrap64 (x8 + 1))) else (none)) else (none)) else (none))) else (spec_l5All.l0 k x0 x5 (wrap64 (x6 - 1)))
def spec_l5All.f : Nat → Int → Int → Option ((List (List Int)))
 | 0, _, _ => none
 | k + 1, a0, a1 => if a0 = 0 then (some (([(([] : List Int))] : List (List Int)))) else (spec_l5All.l0 k a0 (([] : List (List Int))) (mn a0 a1))
end
theorem spec_l5All.mono_l : ∀ k, (∀ y0 y1, LeO (spec_l5All.f k y0 y1) (spec_l5All.f (k + 1) y0 y1)) ∧ (∀ y0 y1 y2, LeO (spec_l5All.l0 k y0 y1 y2) (spec_l5All.l0 (k + 1) y0 y1 y2)) ∧ (∀ y0 y1 y2 y3 y4, LeO (spec_l5All.l1 k y0 y1 y2 y3 y4) (spec_l5All.l1 (k + 1) y0 y1 y2 y3 y4))
 | 0 => ⟨fun _ _ r h => by simp [spec_l5All.f] at h, fun _ _ _ r h => by simp [spec_l5All.l0] at h, fun _ _ _ _ _ r h => by simp [spec_l5All.l1] at h⟩
 | k + 1 => by
  obtain ⟨ih0, ih1, ih2⟩ := spec_l5All.mono_l k
  refine ⟨?_, ?_, ?_⟩
  ·
   intro y0 y1
   unfold spec_l5All.f
   repeat' first
   | (with_reducible exact ih0 _ _)
   | (with_reducible exact ih1 _ _ _)
   | (with_reducible exact ih2 _ _ _ _ _)
   | (with_reducible exact LeO.refl _)
   | (with_reducible exact LeO.none _)
   | (with_reducible refine LeO.ite ?_ ?_)
   | (with_reducible refine LeO.bind ?_ (fun _ => ?_))
   | exact ih0 _ _
   | exact ih1 _ _ _
   | exact ih2 _ _ _ _ _
   | exact LeO.none _
   | refine LeO.ite ?_ ?_
   | refine LeO.bind ?_ (fun _ => ?_)
  ·
   intro y0 y1 y2
   unfold spec_l5All.l0
   repeat' first
   | (with_reducible exact ih0 _ _)
   | (with_reducible exact ih1 _ _ _)
   | (with_reducible exact ih2 _ _ _ _ _)
   | (with_reducible exact LeO.refl _)
   | (with_reducible exact LeO.none _)
   | (with_reducible refine LeO.ite ?_ ?_)
   | (with_reducible refine LeO.bind ?_ (fun _ => ?_))
   | exact ih0 _ _
   | exact ih1 _ _ _
   | exact ih2 _ _ _ _ _
   | exact LeO.none _
   | refine LeO.ite ?_ ?_
   | refine LeO.bind ?_ (fun _ => ?_)
  ·
   intro y0 y1 y2 y3 y4
   unfold spec_l5All.l1
   repeat' first
   | (with_reducible exact ih0 _ _)
   | (with_reducible exact ih1 _ _ _)
   | (with_reducible exact ih2 _ _ _ _ _)
   | (with_reducible exact LeO.refl _)
   | (with_reducible exact LeO.none _)
   | (with_reducible refine LeO.ite ?_ ?_)
   | (with_reducible refine LeO.bind ?_ (fun _ => ?_))
   | exact ih0 _ _
   | exact ih1 _ _ _
   | exact ih2 _ _ _ _ _
   | exact LeO.none _
   | refine LeO.ite ?_ ?_
   | refine LeO.bind ?_ (fun _ => ?_)
theorem spec_l5All.mono : ∀ a0 a1 k, LeO (spec_l5All.f k a0 a1) (spec_l5All.f (k + 1) a0 a1) := by
 intro a0 a1 k
 obtain ⟨ih0, ih1, ih2⟩ := spec_l5All.mono_l k
 exact ih0 a0 a1
set_option maxHeartbeats 8000000 in
set_option maxRecDepth 100000 in
theorem spec_l5All.calls (k : Nat) : ∀ (a0 : Int) (a1 : Int) (r : List (List Int)) (w : World) (h : spec_l5All.f k a0 a1 = some r),
  Calls Try.prog 158 #[.int .i64 a0, .int .i64 a1] w fun e w' => ∃ v0_ : Value, e = .returned (v0_) ∧ Kd.N (Kd.slice 3 (Kd.int .i64)) 23 w' w.heap.size (fun k_ => (w.heap.size ≤ k_)) v0_ r ∧ Below w.heap.size w w' := by
 induction k using Nat.strongRecOn with
 | _ k ih =>
 intro a0 a1 r w h
 cases k with
 | zero => exact absurd h (by simp [spec_l5All.f])
 | succ k =>
 simp only [spec_l5All.f] at h; have HB := Az (Below.refl w.heap.size w); have H : (if a0 = 0 then (some (([(([] : List Int))] : List (List Int)))) else (spec_l5All.l0 k a0 (([] : List (List Int))) (mn a0 a1))) = some r := h; clear h
 by_cases c3 : a0 = 0
 ·
  rw [if_pos c3] at H; have c3b0 := beq_iff_eq.mpr c3; have c3b1 := bne_eq_false_iff_eq.mpr c3; clear c3; obtain ⟨y509, hy509⟩ : ∃ y_ : List Int, y_ = (([] : List Int)) := ⟨_, rfl⟩; replace H : (some (([y509] : List (List Int)))) = some r := hR hy509 H; have Ny509 := Az hy509; clear hy509; obtain ⟨y512, hy512⟩ : ∃ y_ : List (List Int), y_ = (([y509] : List (List Int))) := ⟨_, rfl⟩; replace H : (some y512) = some r := hR hy512 H; have Ny512 := Az hy512; clear hy512; obtain rfl := Option.some.inj H
  go_enter Try.func158, Try.ntmps158
  go_wp2_with (first | ((with_reducible refine gate_dst (N := 11) rfl ?_); refine Kd.R_lit (Kd.int .i64) _ 3 ?hg (N := 11) ?hd (xs := ([] : List Int)) (inner := []) (ok := fun _ => True) (okp := fun _ => True) ?hr ?hp (fun _ hk => hk) trivial (Below.refl _ _) (Nat.le_refl _) (by simp) ?_; (case hd => rfl); (case hg => rfl); (case hr => first | (go_simp; done) | (go_simp; rfl)); (case hp => exact (Reps.none _ _)); intro v510 w4 ho5 hb hg_ hnew_; clear hg_ hnew_; (first | rw [← Ny509.out] at ho5 | (simp only [Int.reduceToNat] at ho5; rw [← Ny509.out] at ho5)); have n0 := Az (Kd.R_lower (Kd.R_newM (M := fun k_ => (w.heap.size ≤ k_)) ho5 (below_size (bU0 HB.out)) (fun k_ h_ => h_)) (below_size (bU0 HB.out))); have n1 := Az (below_step (bU0 HB.out) hb); clear HB; have HO511 := n0; have HB := n1; clear n0 n1 hb ho5; obtain ⟨Ao6, co6, eo6⟩ := Kd.R_slice HO511.out; subst eo6) | ((with_reducible refine gate_dst (N := 12) rfl ?_); refine Kd.N_lit (Kd.slice 3 (Kd.int .i64)) _ 23 ?hg (N' := 12) ?hd (xs := ([y509] : List (List Int))) (inner := [.slice Ao6 y509.length co6]) (ok := (fun k_ => (w.heap.size ≤ k_))) (okp := (fun k_ => (w.heap.size ≤ k_))) ?hr ?hp (fun _ hk => hk) ((show ∀ k_, w4.heap.size ≤ k_ → (fun k_ => (w.heap.size ≤ k_)) k_ from fun k_ hk => (Nat.le_trans (below_size (bU0 HB.out)) hk)) _ (Nat.le_refl _)) (Below.refl _ _) (Nat.le_refl _) (by simp) ?_; (case hd => rfl); (case hg => rfl); (case hr => first | (go_simp; done) | (go_simp; rfl)); (case hp => exact (Reps.one (show Kd.FK (Kd.slice 3 (Kd.int .i64)) _ _ y509 [.slice Ao6 y509.length co6] from (Kd.FK_slice_mk (Kd.R_reads' (Kd.R_mono (ok' := (fun k_ => (w.heap.size ≤ k_))) (HO511.out) (fun k_ hk => hk.1))).2.1 (Kd.R_F (Kd.R_mono (ok' := (fun k_ => (w.heap.size ≤ k_))) (HO511.out) (fun k_ hk => hk.1))))) (Reps.none _ _))); intro v513 w7 ho8 hb hg_ hnew_; clear hg_ hnew_; (first | rw [← Ny512.out] at ho8 | (simp only [Int.reduceToNat] at ho8; rw [← Ny512.out] at ho8)); have n0 := Az (Kd.N_lower ho8 (below_size (bU0 HB.out))); have n1 := Az (below_step (bU0 HB.out) hb); clear HB HO511; have HO514 := n0; have HB := n1; clear n0 n1; clear hb ho8))
  go_ret
  exact ⟨_, rE, nU HO514.out, bU0 HB.out⟩
 ·
  rw [if_neg c3] at H; have c3b0 := beq_eq_false_iff_ne.mpr c3; have c3b1 := bne_iff_ne.mpr c3; obtain ⟨y515, hy515⟩ : ∃ y_ : List (List Int), y_ = (([] : List (List Int))) := ⟨_, rfl⟩; replace H : (spec_l5All.l0 k a0 y515 (mn a0 a1)) = some r := hR hy515 H; have Ny515 := Az hy515; clear hy515; obtain ⟨ji9, hji9⟩ : ∃ j_ : Int, (mn a0 a1) = j_ := ⟨_, rfl⟩
  replace H : (spec_l5All.l0 k a0 y515 ji9) = some r := by first | (rw [hji9] at H; exact H) | (simp only [hji9] at H ⊢; exact H)
  have hji9_ : (if a1 < a0 then a1 else a0) = ji9 := hji9; have H' := Az H; clear H
  go_enter Try.func158, Try.ntmps158
  go_wp2_with (first | ((with_reducible refine gate_dst (N := 13) rfl ?_); refine Kd.N_lit (Kd.slice 3 (Kd.int .i64)) _ 23 ?hg (N' := 13) ?hd (xs := ([] : List (List Int))) (inner := []) (ok := (fun k_ => (w.heap.size ≤ k_))) (okp := (fun k_ => (w.heap.size ≤ k_))) ?hr ?hp (fun _ hk => hk) ((show ∀ k_, w.heap.size ≤ k_ → (fun k_ => (w.heap.size ≤ k_)) k_ from fun k_ hk => (Nat.le_trans (below_size (bU0 HB.out)) hk)) _ (Nat.le_refl _)) (Below.refl _ _) (Nat.le_refl _) (by simp) ?_; (case hd => rfl); (case hg => rfl); (case hr => first | (go_simp; done) | (go_simp; rfl)); (case hp => exact (Reps.none _ _)); intro v516 w10 ho11 hb hg_ hnew_; clear hg_ hnew_; (first | rw [← Ny515.out] at ho11 | (simp only [Int.reduceToNat] at ho11; rw [← Ny515.out] at ho11)); have n0 := Az (Kd.N_lower ho11 (below_size (bU0 HB.out))); have n1 := Az (below_step (bU0 HB.out) hb); clear HB; have HO517 := n0; have HB := n1; clear n0 n1; clear hb ho11))
  go_loopg [5, 6] k (fun kq v5 v6 w' => ∃ (x5_1 : List (List Int)) (x6_1 : Int), v6 = .int .i64 x6_1 ∧ Aside0 (spec_l5All.l0 kq a0 x5_1 x6_1 = some r) ∧ Aside0 (kq ≤ k) ∧ Aside0 (Kd.N (Kd.slice 3 (Kd.int .i64)) 23 w' w.heap.size (fun k_ => (w.heap.size ≤ k_)) v5 x5_1) ∧ Aside0 (Below w.heap.size w w'))
  case atStart => exact ⟨(y515), (ji9), (by first | rfl | (simp; done) | (simp only [← hji9] <;> (first | rfl | simp)) | (simp [*]; done)), H', ⟨Nat.le_refl _⟩, ⟨nU HO517.out⟩, ⟨bU0 HB.out⟩⟩
  case round =>
   clear H'; (try clear c1); (try clear p2); (try clear c3); (try clear c3b0); (try clear c3b1); obtain ⟨x5_1, x6_1, rfl, HA, HK1, HO_5, HB⟩ := hrel
   cases gk with
   | zero => exact absurd HA.out (by simp [spec_l5All.l0])
   | succ k1 =>
    have H := HA.out; clear HA; simp only [spec_l5All.l0] at H
    by_cases c12 : x6_1 > 0
    ·
     rw [if_pos c12] at H; have c12b0 := decide_eq_true c12; clear c12; replace H := Option.bind_eq_some_iff.mp H; obtain ⟨t518, A130, H⟩ := H; replace H : (spec_l5All.l1 k1 a0 x5_1 x6_1 t518 0) = some r := H; have A13 := Az A130; clear A130; have H' := Az H; clear H
     go_wp2_with (first | ((with_reducible refine gate_callee (f := 158) rfl ?_); refine goesL_ (some 25) rfl rfl Try.func158 (by kernel_rfl) rfl #[.int .i64 (wrap64 (a0 - x6_1)), .int .i64 x6_1] rfl (by (try simp only [List.map_toArray, List.map_cons, List.map_nil]); first | done | rfl | (simp only [List.length_drop, List.length_take]; rfl)) ?_; (with_reducible refine (ih k1 (by have := HK1.out; omega) (wrap64 (a0 - x6_1)) x6_1 t518 _ A13.out).mono ?_); rintro e w14 ⟨v519, rfl, ho0, hb⟩; refine ⟨_, rfl, ?_⟩; have n0 := Az (Kd.N_elder' (nU HO_5.out) (by first | exact Kd.N_base ho0 | exact Kd.S_base ho0 | exact Kd.R_base ho0) hb); have n1 := Az (Kd.N_lower (Kd.N_mono (ok' := fun k_ => (w.heap.size ≤ k_) ∧ some k_ ≠ (u5 : Value).ownBlock) ho0 (fun k_ hk_ => ⟨(Nat.le_trans (below_size (bU0 HB.out)) hk_), (Kd.fresh' (Kd.N_lt (nU HO_5.out)) k_ hk_)⟩)) (below_size (bU0 HB.out))); have n2 := Az (below_step (bU0 HB.out) hb); clear HO_5 HB; have HO_5 := n0; have HO520 := n1; have HB := n2; clear n0 n1 n2; (try clear hb); (try clear hb2); (try clear hk); (try clear hi); (try clear ho0)))
     go_loopg [5, 8] k1 (fun kq v5 v8 w' => ∃ (x5_2 : List (List Int)) (x8_2 : Int), v8 = .int .i64 x8_2 ∧ Aside0 (spec_l5All.l1 kq a0 x5_2 x6_1 t518 x8_2 = some r) ∧ Aside0 (kq ≤ k1) ∧ Aside0 (Kd.N (Kd.slice 3 (Kd.int .i64)) 23 w' w.heap.size (fun k_ => (w.heap.size ≤ k_) ∧ some k_ ≠ (v519 : Value).ownBlock) v5 x5_2) ∧ Aside0 (Kd.N (Kd.slice 3 (Kd.int .i64)) 23 w' w.heap.size (fun k_ => (w.heap.size ≤ k_) ∧ some k_ ≠ (v5 : Value).ownBlock) v519 t518) ∧ Aside0 (Below w.heap.size w w'))
     case atStart => exact ⟨(x5_1), (0), rS, H', ⟨Nat.le_refl _⟩, ⟨nU HO_5.out⟩, ⟨nU HO520.out⟩, ⟨bU0 HB.out⟩⟩
     case round =>
      clear H'; (try clear c1); (try clear p2); (try clear c3); (try clear c3b0); (try clear c3b1); (try clear p6); (try clear c12); (try clear c12b0); (try clear p2); obtain ⟨x5_2, x8_2, rfl, HA, HK2, HO_5, HO_7, HB⟩ := hrel
      cases gk with
      | zero => exact absurd HA.out (by simp [spec_l5All.l1])
      | succ k2 =>
       have H := HA.out; clear HA; simp only [spec_l5All.l1] at H
       by_cases c15 : x8_2 < (t518.length : Int)
       ·
        rw [if_pos c15] at H; have c15b0 := decide_eq_true c15; clear c15; obtain ⟨y521, hy521⟩ : ∃ y_ : List Int, y_ = (([x6_1] : List Int)) := ⟨_, rfl⟩; replace H : (if 0 ≤ x8_2 then (if y521.length + (rd_L1 t518 x8_2).length < 17592186044416 then (if x5_2.length < 5864062014805 then (spec_l5All.l1 k2 a0 (x5_2 ++ [(y521 ++ (rd_L1 t518 x8_2))]) x6_1 t518 (wrap64 (x8_2 + 1))) else (none)) else (none)) else (none)) = some r := hR hy521 H; have Ny521 := Az hy521; clear hy521
        by_cases c16 : 0 ≤ x8_2
        ·
         rw [if_pos c16] at H; have c16b0 := decide_eq_true c16; clear c16
         by_cases c17 : y521.length + (rd_L1 t518 x8_2).length < 17592186044416
         ·
          rw [if_pos c17] at H; have LMc17 := Az c17; clear c17; obtain ⟨y525, hy525⟩ : ∃ y_ : List Int, y_ = (y521 ++ (rd_L1 t518 x8_2)) := ⟨_, rfl⟩; replace H : (if x5_2.length < 5864062014805 then (spec_l5All.l1 k2 a0 (x5_2 ++ [y525]) x6_1 t518 (wrap64 (x8_2 + 1))) else (none)) = some r := hR hy525 H; have Ny525 := Az hy525; clear hy525
          by_cases c18 : x5_2.length < 5864062014805
          ·
           rw [if_pos c18] at H; have LMc18 := Az c18; clear c18; obtain ⟨y528, hy528⟩ : ∃ y_ : List (List Int), y_ = (x5_2 ++ [y525]) := ⟨_, rfl⟩; replace H : (spec_l5All.l1 k2 a0 y528 x6_1 t518 (wrap64 (x8_2 + 1))) = some r := hR hy528 H; have Ny528 := Az hy528; clear hy528; have H' := Az H; clear H; obtain ⟨Ao19, co19, eo19⟩ := Kd.N_slice HO_7.out; subst eo19
           go_wp2_with (first | ((with_reducible refine gate_dst (N := 34) rfl ?_); refine Kd.R_lit (Kd.int .i64) _ 3 ?hg (N := 34) ?hd (xs := ([x6_1] : List Int)) (inner := [.int .i64 x6_1]) (ok := fun _ => True) (okp := fun _ => True) ?hr ?hp (fun _ hk => hk) trivial (Below.refl _ _) (Nat.le_refl _) (by simp) ?_; (case hd => rfl); (case hg => rfl); (case hr => first | (go_simp; done) | (go_simp; rfl)); (case hp => exact (Reps.one (show Kd.M (Kd.int .i64) _ _ _ x6_1 [.int .i64 x6_1] from rfl) (Reps.none _ _))); intro v522 w20 ho21 hb hg_ hnew_; clear hg_ hnew_; (first | rw [← Ny521.out] at ho21 | (simp only [Int.reduceToNat] at ho21; rw [← Ny521.out] at ho21)); have n0 := Az (Kd.N_elder' (nU HO_5.out) (Kd.R_base ho21) hb); have n1 := Az (Kd.N_elder' (nU HO_7.out) (Kd.R_base ho21) hb); have n2 := Az (Kd.R_lower (Kd.R_newM (M := fun k_ => (w.heap.size ≤ k_)) ho21 (below_size (bU0 HB.out)) (fun k_ h_ => h_)) (below_size (bU0 HB.out))); have n3 := Az (below_step (bU0 HB.out) hb); clear HO_5 HO_7 HB; have HO_5 := n0; have HO_7 := n1; have HO523 := n2; have HB := n3; clear n0 n1 n2 n3 hb ho21; have p524 : 0 ≤ (x8_2 : Int) := oA; have q524 : x8_2 < (t518.length : Int) := oA; obtain ⟨ad524, A524_0, c524_0, e524, hx524_0, hl524_0, hi524_0⟩ := at_L1 (Kd.N_reads' HO_7.out).2.2 x8_2 p524 q524; cases e524; obtain ⟨ce524, hce524, hMe524, hcc524⟩ := Kd.N_get HO_7.out [] x8_2 p524 (by first | exact q524 | exact oA | (have e_ := (Kd.N_reads' HO_7.out).1; omega)); obtain ⟨ua524_0, uc524_0, rfl, ul524_0, ge524_0⟩ := Kd.FK_slice_open hMe524; have hv524_0 := hcc524 0 _ rfl; rw [Nat.add_zero, show ((Kd.slice 3 (Kd.int .i64))).sz = 1 from rfl, Nat.mul_one] at hv524_0; replace hv524_0 := Option.some.inj (hv524_0.symm.trans hx524_0); injection hv524_0 with hva_ hvn_ hvc_; rw [hva_] at ge524_0; rw [hvc_] at ul524_0; have HL524_0 := Az (show Kd.V (Kd.int .i64) 3 _ w.heap.size _ _ (rd_L1 t518 x8_2) from Kd.V_mk ul524_0 ge524_0); clear hva_ hvn_ hvc_ ge524_0 ul524_0 hcc524 hce524; have HR524_0 := Az hi524_0; have HC524_0 := Az hl524_0; clear hi524_0 hl524_0; replace p524 := eq_true p524; replace q524 := eq_true q524) | ((with_reducible refine gate_builtin (b := .append) (xs := #[.tmp 34, .tmp 38]) rfl ?_); at_builtin; refine Kd.R_append_rows (Kd.int .i64) (w0 := w) w.heap.size rfl (.tmp 34) (.tmp 38) 23 3 (.int .i64 0) 8 rfl Try.underlying23 info3 rfl (by decide) (by omega) v522 y521 (rd_L1 t518 x8_2) _ _ _ (fun k_ => (w.heap.size ≤ k_)) (fun _ => False) rfl rfl ?aO ?aR (fun _ _ h => h) (fun _ h => h.elim) ?aF ?aB ?aS ?aL ?_; (case aR => exact cU (by repeat (first | (with_reducible exact HR524_0.out) | (with_reducible refine Kd.C_alloc ?_ _) | (with_reducible refine Kd.C_drewN ?_ _) | (with_reducible refine Kd.C_drew ?_) | exact HR524_0.out))); (case aB => exact (bU0 HB.out)); (case aF => exact (fun k_ hk => (Nat.le_trans (below_size (bU0 HB.out)) hk))); (case aO => exact (by (with_reducible repeat (first | apply Kd.R_alloc | apply Kd.R_drewN | apply Kd.R_drew)); exact Kd.R_mono HO523.out (fun _ hk => hk.1))); (case aS => exact (below_size (bU0 HB.out))); (case aL => have := LMc17.out; omega); intro v526 w22 ho hb hg hat; rw [← Ny525.out] at ho; have n0 := Az (Kd.N_afterv (ok := (fun k_ => (w.heap.size ≤ k_) ∧ some k_ ≠ (.slice (some ad524) t518.length co19 : Value).ownBlock)) (nU HO_5.out) hg hat); have n1 := Az (Kd.N_afterv (ok := (fun k_ => (w.heap.size ≤ k_) ∧ some k_ ≠ (u5 : Value).ownBlock)) (nU HO_7.out) hg hat); have n2 := Az (Kd.V_afterv (ok := (fun k_ => (w.heap.size ≤ k_) ∧ some k_ ≠ (u5 : Value).ownBlock ∧ some k_ ≠ (.slice (some ad524) t518.length co19 : Value).ownBlock)) (by (with_reducible repeat (first | apply Kd.V_alloc | apply Kd.V_drewN | apply Kd.V_drew)); exact Kd.V_mono HL524_0.out (fun _ hk => ⟨⟨hk.1.1.1, ⟨hk.1.1.2, hk.2⟩⟩, hk.1.2⟩)) hg hat); have n3 := Az (hb); have n4 := Az (ho); clear HO_5 HO_7 HL524_0 HB HO523; have HO_5 := n0; have HO_7 := n1; have HL524_0 := n2; have HB := n3; have HO527 := n4; clear n0 n1 n2 n3 n4 ho hb hg hat; obtain ⟨Ao24, co24, eo24⟩ := Kd.R_slice HO527.out; subst eo24) | ((with_reducible refine gate_builtin (b := .append) (xs := #[.tmp 32, .tmp 40]) rfl ?_); at_builtin; refine Kd.N_append (Kd.slice 3 (Kd.int .i64)) (w0 := w) w.heap.size rfl (.tmp 32) (.tmp 40) 45 23 (.slice none 0 0) 24 rfl Try.underlying45 info23 rfl (by decide) (by omega) u5 x5_2 y525 [.slice Ao24 y525.length co24] (fun k_ => (w.heap.size ≤ k_) ∧ some k_ ≠ (.slice (some ad524) t518.length co19 : Value).ownBlock) (fun k_ => ((fun k_ => (w.heap.size ≤ k_) ∧ some k_ ≠ (.slice (some ad524) t518.length co19 : Value).ownBlock)) k_ ∧ some k_ ≠ (u5 : Value).ownBlock) rfl rfl ?aP (fun _ hk => hk) ?aF ?aO ?aB ?aS ?aL ?_; (case aP => exact (Kd.FK_slice_mk (Kd.R_reads' (Kd.R_mono (ok' := (fun k_ => ((fun k_ => (w.heap.size ≤ k_) ∧ some k_ ≠ (.slice (some ad524) t518.length co19 : Value).ownBlock)) k_ ∧ some k_ ≠ (u5 : Value).ownBlock)) (Kd.R_apart' (Kd.R_apart' (HO527.out) (Kd.N_typed HO_7.out) (by decide)) (Kd.N_typed HO_5.out) (by decide)) (fun k_ hk => ⟨⟨hk.1.1, hk.1.2⟩, hk.2⟩))).2.1 (Kd.R_F (Kd.R_mono (ok' := (fun k_ => ((fun k_ => (w.heap.size ≤ k_) ∧ some k_ ≠ (.slice (some ad524) t518.length co19 : Value).ownBlock)) k_ ∧ some k_ ≠ (u5 : Value).ownBlock)) (Kd.R_apart' (Kd.R_apart' (HO527.out) (Kd.N_typed HO_7.out) (by decide)) (Kd.N_typed HO_5.out) (by decide)) (fun k_ hk => ⟨⟨hk.1.1, hk.1.2⟩, hk.2⟩))))); (case aB => exact (bU0 HB.out)); (case aF => exact (fun k_ hk => ⟨(Nat.le_trans (below_size (bU0 HB.out)) hk), Kd.fresh' (Kd.N_lt (nU HO_7.out)) k_ hk⟩)); (case aO => exact (by (with_reducible repeat (first | apply Kd.N_alloc | apply Kd.N_drewN | apply Kd.N_drew)); exact Kd.N_mono HO_5.out (fun _ hk => ⟨hk.1.1, hk.1.2⟩))); (case aS => exact (below_size (bU0 HB.out))); (case aL => have := LMc18.out; omega); intro v529 w23 ho hb hg hat; rw [← Ny528.out] at ho; have n0 := Az (Kd.N_afterv (ok := (fun k_ => (w.heap.size ≤ k_) ∧ some k_ ≠ (.slice Ao24 y525.length co24 : Value).ownBlock)) (by (with_reducible repeat (first | apply Kd.N_alloc | apply Kd.N_drewN | apply Kd.N_drew)); exact Kd.N_mono HO_7.out (fun _ hk => ⟨⟨hk.1.1, hk.2⟩, hk.1.2⟩)) hg hat); have n1 := Az (Kd.V_afterv (ok := (fun k_ => (w.heap.size ≤ k_) ∧ some k_ ≠ (.slice (some ad524) t518.length co19 : Value).ownBlock ∧ some k_ ≠ (.slice Ao24 y525.length co24 : Value).ownBlock)) (by (with_reducible repeat (first | apply Kd.V_alloc | apply Kd.V_drewN | apply Kd.V_drew)); exact Kd.V_mono HL524_0.out (fun _ hk => ⟨⟨hk.1.1, ⟨hk.1.2.2, hk.2⟩⟩, hk.1.2.1⟩)) hg hat); have n2 := Az (hb); have n3 := Az (ho); clear HO_7 HL524_0 HB HO_5 HO527; have HO_7 := n0; have HL524_0 := n1; have HB := n2; have HO530 := n3; clear n0 n1 n2 n3; clear ho hb hg hat))
           (first | go_roundg k2 | (refine Handed.intro k2 ?measure ?_; rotate_left; go_step; (try simp only [add_plain]); (repeat apply Exists.intro); refine ⟨?rel, rfl⟩))
           case measure => have := HK1.out; have := HK2.out; omega
           case rel => exact ⟨(y528), (wrap64 (x8_2 + 1)), rS, H', ⟨by have := HK1.out; have := HK2.out; omega⟩, ⟨nU HO530.out⟩, ⟨by (with_reducible repeat (first | apply Kd.N_alloc | apply Kd.N_drewN | apply Kd.N_drew)); exact Kd.N_mono HO_7.out (fun _ hk => ⟨hk.1.1, hk.2⟩)⟩, ⟨bU0 HB.out⟩⟩
          ·
           rw [if_neg c18] at H
           exact absurd H (by simp)
         ·
          rw [if_neg c17] at H
          exact absurd H (by simp)
        ·
         rw [if_neg c16] at H
         exact absurd H (by simp)
       ·
        rw [if_neg c15] at H; have c15b0 := decide_eq_false c15; clear c15; have H' := Az H; clear H; obtain ⟨Ao25, co25, eo25⟩ := Kd.N_slice HO_7.out; subst eo25
        go_wp2
        (first | go_roundg k2 | (refine Handed.intro k2 ?measure ?_; rotate_left; go_step; (try simp only [add_plain]); (repeat apply Exists.intro); refine ⟨?rel, rfl⟩))
        case measure => have := HK1.out; have := HK2.out; omega
        case rel => exact ⟨(x5_2), (wrap64 (x6_1 - 1)), rS, H', ⟨by have := HK1.out; have := HK2.out; omega⟩, ⟨by (with_reducible repeat (first | apply Kd.N_alloc | apply Kd.N_drewN | apply Kd.N_drew)); exact Kd.N_mono HO_5.out (fun _ hk => hk.1)⟩, ⟨bU0 HB.out⟩⟩
    ·
     rw [if_neg c12] at H; have c12b0 := decide_eq_false c12; clear c12; obtain rfl := Option.some.inj H
     go_wp2
     go_ret
     exact ⟨_, by first | rfl | (simp [errW_none, errW_some] <;> rfl) | (simp only [← hji9]; first | rfl | (simp [errW_none, errW_some] <;> rfl)) | (simp [*, errW_none, errW_some] <;> rfl), nU HO_5.out, bU0 HB.out⟩
end Go.Proofs.Ytggghijamfmenaa.PN
