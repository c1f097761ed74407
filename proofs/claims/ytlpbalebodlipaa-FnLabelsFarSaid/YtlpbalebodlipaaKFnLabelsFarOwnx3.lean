/- For every list of bytes, the law FnLabelsFar answers true: for the tree that it draws, TreeQuad of the program answers what the reference answers, and the labels of a valid tree's corners are the distances from the point, one more than above the least. There are no conditions. -/
import Derived.Test.YtlpbalebodlipaaKFnLabelsFarOwnx2
namespace Go.Proofs.Ytlpbalebodlipaa.PK
open Go.RowKit Go.Proofs.YtlpbalebodlipaaW.PrintWords Go.Proofs.YtlpbalebodlipaaW.PrintLast Go.Proofs.YtlpbalebodlipaaW.PrintMore
attribute [local go_sem] max2_int min2_int max_two min_two max_three min_three max_four min_four   -- for this text's walks alone
set_option linter.unusedVariables false
set_option linter.unusedSimpArgs false
def impl_walked.l0 : Nat → List Int → List Int → List Int → List Int → List Int → List Int → Int → Int → Int → ByteArray → List Int → Option (List Int × List Int × List Int)
 | 0, _, _, _, _, _, _, _, _, _, _, _ => none
 | k + 1, x6, x7, x8, x9, x10, x11, x12, x26, x27, xZ0, xZ1 => if x27 < x26 then (if 0 ≤ (wrap64 ((x9.length : Int) - 1)) then (if (wrap64 ((x9.length : Int) - 1)) < (x9.length : Int) then (if x6.length < 17592186044416 then ((some (x6 ++ [rd x9 (wrap64 ((x9.length : Int) - 1))] : List Int)).bind fun y238 => (if (wrap64 ((x9.length : Int) - 1)) < (x10.length : Int) then (if x7.length < 17592186044416 then ((some (x7 ++ [rd x10 (wrap64 ((x9.length : Int) - 1))] : List Int)).bind fun y242 => (if 0 ≤ x27 then (if x27 < (xZ0.size : Int) then (if (bt xZ0 x27) = 40 then (if x9.length < 17592186044416 then (if 0 ≤ x12 then (if x12 < (xZ1.length : Int) then (if x10.length < 17592186044416 then (if x11.length < 17592186044416 then (impl_walked.l0 k y238 y242 x8 (x9 ++ [wrap64 (x12 + 1)]) (x10 ++ [wrap64 ((rd x10 (wrap64 ((x9.length : Int) - 1))) + (rd xZ1 x12))]) (x11 ++ [x27]) (wrap64 (x12 + 1)) x26 (wrap64 (x27 + 1)) xZ0 xZ1) else (none)) else (none)) else (none)) else (none)) else (none)) else (if (wrap64 ((x9.length : Int) - 1)) ≤ (x9.length : Int) then (if (wrap64 ((x9.length : Int) - 1)) ≤ (x10.length : Int) then (if 0 ≤ (wrap64 ((x11.length : Int) - 1)) then (if (wrap64 ((x11.length : Int) - 1)) < (x11.length : Int) then (if (wrap64 ((x11.length : Int) - 1)) ≤ (x11.length : Int) then (if x27 < (x8.length : Int) then (if 0 ≤ (rd x11 (wrap64 ((x11.length : Int) - 1))) then (if (rd x11 (wrap64 ((x11.length : Int) - 1))) < (x8.length : Int) then (impl_walked.l0 k y238 y242 ((x8.set (x27 : Int).toNat (rd x11 (wrap64 ((x11.length : Int) - 1)))).set ((rd x11 (wrap64 ((x11.length : Int) - 1))) : Int).toNat x27) (x9.take ((wrap64 ((x9.length : Int) - 1)) : Int).toNat) (x10.take ((wrap64 ((x9.length : Int) - 1)) : Int).toNat) (x11.take ((wrap64 ((x11.length : Int) - 1)) : Int).toNat) x12 x26 (wrap64 (x27 + 1)) xZ0 xZ1) else (none)) else (none)) else (none)) else (none)) else (none)) else (none)) else (none)) else (none))) else (none)) else (none))) else (none)) else (none))) else (none)) else (none)) else (none)) else (some (x6, x7, x8))
def impl_walked.f (k : Nat) (a0_0 : ByteArray) (l0_1 : List Int) : Option (List Int × List Int × List Int) := if 0 ≤ (a0_0.size : Int) then (if ((a0_0.size : Int) : Int).toNat ≤ 35184372088832 then (impl_walked.l0 k (([] : List Int)) (([] : List Int)) (List.replicate ((a0_0.size : Int) : Int).toNat 0) (([0] : List Int)) (([0] : List Int)) (([] : List Int)) 0 (a0_0.size : Int) 0 a0_0 l0_1) else (none)) else (none)
theorem impl_walked.mono_l : ∀ k, (∀ y0 y1 y2 y3 y4 y5 y6 y7 y8 y9 y10, LeO (impl_walked.l0 k y0 y1 y2 y3 y4 y5 y6 y7 y8 y9 y10) (impl_walked.l0 (k + 1) y0 y1 y2 y3 y4 y5 y6 y7 y8 y9 y10))
 | 0 => fun _ _ _ _ _ _ _ _ _ _ _ r h => by simp [impl_walked.l0] at h
 | k + 1 => by
  have ih0 := impl_walked.mono_l k
  ·
   intro y0 y1 y2 y3 y4 y5 y6 y7 y8 y9 y10
   unfold impl_walked.l0
   repeat' first
   | (with_reducible exact ih0 _ _ _ _ _ _ _ _ _ _ _)
   | (with_reducible exact LeO.refl _)
   | (with_reducible exact LeO.none _)
   | (with_reducible refine LeO.ite ?_ ?_)
   | (with_reducible refine LeO.bind ?_ (fun _ => ?_))
   | exact ih0 _ _ _ _ _ _ _ _ _ _ _
   | exact LeO.none _
   | refine LeO.ite ?_ ?_
   | refine LeO.bind ?_ (fun _ => ?_)
theorem impl_walked.mono : ∀ a0 a1 k, LeO (impl_walked.f k a0 a1) (impl_walked.f (k + 1) a0 a1) := by
 intro a0 a1 k
 have ih0 := impl_walked.mono_l k
 unfold impl_walked.f
 repeat' first
   | (with_reducible exact ih0 _ _ _ _ _ _ _ _ _ _ _)
   | (with_reducible exact LeO.refl _)
   | (with_reducible exact LeO.none _)
   | (with_reducible refine LeO.ite ?_ ?_)
   | (with_reducible refine LeO.bind ?_ (fun _ => ?_))
   | exact ih0 _ _ _ _ _ _ _ _ _ _ _
   | exact LeO.none _
   | refine LeO.ite ?_ ?_
   | refine LeO.bind ?_ (fun _ => ?_)
def impl_walked.T13 : Bool × List (List Nat × List Nat) := (true, [([], []), ([], []), ([], []), ([1, 2], [1, 2]), ([3], [3]), ([], []), ([5], [5]), ([], []), ([6, 7], [6, 7]), ([8], [8]), ([4, 9], [4, 9]), ([10], [10]), ([0, 11], [0, 11]), ([12, 12, 0, 1, 2, 3, 4, 5, 6, 7, 8, 9, 10, 11, 12], [0, 1, 12])])
def impl_walked.B13 : List Nat := [0, 0, 0, 6, 14, 0, 32, 0, 224, 480, 1022, 2046, 4095, 8191]
theorem impl_walked.tab13 : rtab .any (opsOf Try.f64 13) = impl_walked.T13 := by kernel_rfl
theorem impl_walked.bits13 : waitsOk impl_walked.T13.2 impl_walked.B13 = true := by kernel_rfl
def impl_walked.T16 : Bool × List (List Nat × List Nat) := (true, [([], []), ([], []), ([0, 1], [0, 1]), ([], []), ([], []), ([3, 4], [3, 4]), ([2, 0, 1, 2], [0, 2]), ([5, 6, 0, 1, 2, 3, 4, 5, 6], [3, 5])])
def impl_walked.B16 : List Nat := [0, 0, 3, 0, 0, 24, 7, 127]
theorem impl_walked.tab16 : rtab .any (opsOf Try.f64 16) = impl_walked.T16 := by kernel_rfl
theorem impl_walked.bits16 : waitsOk impl_walked.T16.2 impl_walked.B16 = true := by kernel_rfl
set_option maxHeartbeats 8000000 in
set_option maxRecDepth 100000 in
theorem impl_walked.calls (k : Nat) (a0_0 : ByteArray) (A0_1 : Option Addr) (c0_1 : Nat) (l0_1 : List Int) (r1 : List Int) (r2 : List Int) (r3 : List Int) (w : World) (hr0_1 : Kd.C (Kd.int .i64) w A0_1 l0_1.length l0_1) (hc0_1 : l0_1.length ≤ c0_1) (h : impl_walked.f k a0_0 l0_1 = some (r1, r2, r3)) :
  Calls Try.prog 64 #[.agg #[.string a0_0, .slice A0_1 l0_1.length c0_1]] w fun e w' => ∃ v0_ v1_ v2_ : Value, e = .returned (.tuple #[v0_, v1_, v2_]) ∧ Kd.R (Kd.int .i64) 3 w' w.heap.size (fun k_ => some k_ ≠ (v1_ : Value).ownBlock ∧ some k_ ≠ (v2_ : Value).ownBlock) v0_ r1 ∧ Kd.R (Kd.int .i64) 3 w' w.heap.size (fun k_ => some k_ ≠ (v0_ : Value).ownBlock ∧ some k_ ≠ (v2_ : Value).ownBlock) v1_ r2 ∧ Kd.R (Kd.int .i64) 3 w' w.heap.size (fun k_ => some k_ ≠ (v0_ : Value).ownBlock ∧ some k_ ≠ (v1_ : Value).ownBlock) v2_ r3 ∧ Below w.heap.size w w' := by
 have hu25 := Try.underlying25; have HR0_1 := Az hr0_1; have HC0_1 := Az hc0_1; clear hr0_1 hc0_1; have HB := Az (Below.refl w.heap.size w); have H : (if 0 ≤ (a0_0.size : Int) then (if ((a0_0.size : Int) : Int).toNat ≤ 35184372088832 then (impl_walked.l0 k (([] : List Int)) (([] : List Int)) (List.replicate ((a0_0.size : Int) : Int).toNat 0) (([0] : List Int)) (([0] : List Int)) (([] : List Int)) 0 (a0_0.size : Int) 0 a0_0 l0_1) else (none)) else (none)) = some (r1, r2, r3) := h; clear h; obtain ⟨y219, hy219⟩ : ∃ y_ : List Int, y_ = (([] : List Int)) := ⟨_, rfl⟩; replace H : (if 0 ≤ (a0_0.size : Int) then (if ((a0_0.size : Int) : Int).toNat ≤ 35184372088832 then (impl_walked.l0 k y219 (([] : List Int)) (List.replicate ((a0_0.size : Int) : Int).toNat 0) (([0] : List Int)) (([0] : List Int)) (([] : List Int)) 0 (a0_0.size : Int) 0 a0_0 l0_1) else (none)) else (none)) = some (r1, r2, r3) := hR hy219 H; have Ny219 := Az hy219; clear hy219; obtain ⟨y222, hy222⟩ : ∃ y_ : List Int, y_ = (([] : List Int)) := ⟨_, rfl⟩; replace H : (if 0 ≤ (a0_0.size : Int) then (if ((a0_0.size : Int) : Int).toNat ≤ 35184372088832 then (impl_walked.l0 k y219 y222 (List.replicate ((a0_0.size : Int) : Int).toNat 0) (([0] : List Int)) (([0] : List Int)) (([] : List Int)) 0 (a0_0.size : Int) 0 a0_0 l0_1) else (none)) else (none)) = some (r1, r2, r3) := hR hy222 H; have Ny222 := Az hy222; clear hy222
 by_cases c2 : 0 ≤ (a0_0.size : Int)
 ·
  rw [if_pos c2] at H; have c2b0 := eq_true c2; have c2b1 := decide_eq_true c2; clear c2
  by_cases c3 : ((a0_0.size : Int) : Int).toNat ≤ 35184372088832
  ·
   rw [if_pos c3] at H; have c3b0 := eq_true c3; have c3b1 := decide_eq_true c3; clear c3; obtain ⟨y225, hy225⟩ : ∃ y_ : List Int, y_ = (List.replicate ((a0_0.size : Int) : Int).toNat 0) := ⟨_, rfl⟩; replace H : (impl_walked.l0 k y219 y222 y225 (([0] : List Int)) (([0] : List Int)) (([] : List Int)) 0 (a0_0.size : Int) 0 a0_0 l0_1) = some (r1, r2, r3) := hR hy225 H; have Ny225 := Az hy225; clear hy225; obtain ⟨y228, hy228⟩ : ∃ y_ : List Int, y_ = (([0] : List Int)) := ⟨_, rfl⟩; replace H : (impl_walked.l0 k y219 y222 y225 y228 (([0] : List Int)) (([] : List Int)) 0 (a0_0.size : Int) 0 a0_0 l0_1) = some (r1, r2, r3) := hR hy228 H; have Ny228 := Az hy228; clear hy228; obtain ⟨y231, hy231⟩ : ∃ y_ : List Int, y_ = (([0] : List Int)) := ⟨_, rfl⟩; replace H : (impl_walked.l0 k y219 y222 y225 y228 y231 (([] : List Int)) 0 (a0_0.size : Int) 0 a0_0 l0_1) = some (r1, r2, r3) := hR hy231 H; have Ny231 := Az hy231; clear hy231; obtain ⟨y234, hy234⟩ : ∃ y_ : List Int, y_ = (([] : List Int)) := ⟨_, rfl⟩; replace H : (impl_walked.l0 k y219 y222 y225 y228 y231 y234 0 (a0_0.size : Int) 0 a0_0 l0_1) = some (r1, r2, r3) := hR hy234 H; have Ny234 := Az hy234; clear hy234; have H' := Az H; clear H
   go_enter Try.func64, Try.ntmps64
   try go_wp2_with (first | ((with_reducible refine gate_dst (N := 1) rfl ?_); refine box_event ?hg (N := 1) ?hd (cs := #[.string a0_0, .slice A0_1 l0_1.length c0_1]) (t := 25) ?hr ?_; (case hd => rfl); (case hg => rfl); (case hr => first | (go_simp; done) | (go_simp; rfl)); intro gb218 hg w4 hbox hb; have n0 := Az (below_step (bU0 HB.out) hb); have n1 := Az (hbox); have n2 := Az ((by rw [hg]; exact (below_size (bU0 HB.out)) : w.heap.size ≤ gb218)); have n3 := n2; clear HB; have HB := n0; have BK218 := n1; have GW218 := n2; have GE218 := n3; clear n0 n1 n2 n3 hb hbox hg; have hcz5_0 : w4.cell? ⟨gb218, 0, none⟩ = some (.string a0_0) := (blk_cell BK218.out 0).trans rfl; have hcz5_1 : w4.cell? ⟨gb218, 1, none⟩ = some (.slice A0_1 l0_1.length c0_1) := (blk_cell BK218.out 1).trans rfl; have hfz5_0 := blk_frozen BK218.out 0; have hfz5_1 := blk_frozen BK218.out 1))
   have n0 := Az (blk_drew BK218.out); have n1 := Az (below_drew1 HB.out); clear BK218 HB; have BK218 := n0; have HB := n1; clear n0 n1
   refine start_ (n := 7) (S := fun w' => True) (ds := []) #[false, false, false, false, false, false, false] (by kernel_rfl) rfl rfl trivial (fun hHeld => ?_)
   generalize w4.drew = w6 at BK218 HB hHeld ⊢
   refine pure_ (i := 2) (N := some 21) (v := ?_) (a' := ?_) #[false, false, true, false, false, false, false] rfl rfl (by kernel_rfl) (fun _ _ _ h => h) (Or.inl ⟨by rfl, ?_⟩) ?_ ?_
   rotate_left
   ·
    intro w'
    go_simp
    with_reducible rfl
   rotate_left
   ·
    simp only [Act.put, List.setIfInBounds_toArray, List.set_cons_zero, List.set_cons_succ, i64_w, i32_w]
    rfl
   refine join_ (σ := Value × Value × Value) 1 #[true, true, true, true, true, true, false] (fun s_ => [(19, s_.1), (20, s_.2.1), (22, s_.2.2), (6, s_.1), (7, s_.2.1)]) (fun s_ w' => (Kd.R (Kd.int .i64) 3 w' w.heap.size (fun k_ => some k_ ≠ (s_.2.1 : Value).ownBlock ∧ some k_ ≠ (s_.2.2 : Value).ownBlock) s_.1 y219) ∧ (Kd.R (Kd.int .i64) 3 w' w.heap.size (fun k_ => some k_ ≠ (s_.1 : Value).ownBlock ∧ some k_ ≠ (s_.2.2 : Value).ownBlock) s_.2.1 y222) ∧ (Kd.R (Kd.int .i64) 3 w' w.heap.size (fun k_ => some k_ ≠ (s_.1 : Value).ownBlock ∧ some k_ ≠ (s_.2.1 : Value).ownBlock) s_.2.2 y225) ∧ (w'.heap[gb218]? = some (.cells #[.string a0_0, .slice A0_1 l0_1.length c0_1] 25 (0, 0))) ∧ (Below w.heap.size w w')) ?_ ?_
   rotate_left
   ·
    intro hJ0_1_3
    refine join_ (σ := Value × Value) 2 #[true, true, true, false, true, true, false] (fun s_ => [(19, s_.1), (20, s_.2), (6, s_.1), (7, s_.2)]) (fun s_ w' => (Kd.R (Kd.int .i64) 3 w' w.heap.size (fun k_ => some k_ ≠ (s_.2 : Value).ownBlock) s_.1 y219) ∧ (Kd.R (Kd.int .i64) 3 w' w.heap.size (fun k_ => some k_ ≠ (s_.1 : Value).ownBlock) s_.2 y222) ∧ (w'.heap[gb218]? = some (.cells #[.string a0_0, .slice A0_1 l0_1.length c0_1] 25 (0, 0))) ∧ (Below w.heap.size w w')) ?_ ?_
    rotate_left
    ·
     intro hJ0_1
     refine join_ (σ := Value × Value) 3 #[true, false, true, true, true, false, false] (fun s_ => [(19, s_.1), (22, s_.2), (6, s_.1)]) (fun s_ w' => (Kd.R (Kd.int .i64) 3 w' w.heap.size (fun k_ => some k_ ≠ (s_.2 : Value).ownBlock) s_.1 y219) ∧ (Kd.R (Kd.int .i64) 3 w' w.heap.size (fun k_ => some k_ ≠ (s_.1 : Value).ownBlock) s_.2 y225) ∧ (w'.heap[gb218]? = some (.cells #[.string a0_0, .slice A0_1 l0_1.length c0_1] 25 (0, 0))) ∧ (Below w.heap.size w w')) ?_ ?_
     rotate_left
     ·
      intro hJ0_3
      refine join_ (σ := Value × Value) 4 #[false, true, true, true, false, false, false] (fun s_ => [(20, s_.1), (22, s_.2)]) (fun s_ w' => (Kd.R (Kd.int .i64) 3 w' w.heap.size (fun k_ => some k_ ≠ (s_.2 : Value).ownBlock) s_.1 y222) ∧ (Kd.R (Kd.int .i64) 3 w' w.heap.size (fun k_ => some k_ ≠ (s_.1 : Value).ownBlock) s_.2 y225) ∧ (w'.heap[gb218]? = some (.cells #[.string a0_0, .slice A0_1 l0_1.length c0_1] 25 (0, 0))) ∧ (Below w.heap.size w w')) ?_ ?_
      rotate_left
      ·
       intro hJ1_3
       refine join_ (σ := Value) 4 #[true, false, true, false, true, false, false] (fun s_ => [(19, s_), (6, s_)]) (fun s_ w' => (Kd.R (Kd.int .i64) 3 w' w.heap.size (fun _ => True) s_ y219) ∧ (w'.heap[gb218]? = some (.cells #[.string a0_0, .slice A0_1 l0_1.length c0_1] 25 (0, 0))) ∧ (Below w.heap.size w w')) ?_ ?_
       rotate_left
       ·
        intro hJ0
        refine join_ (σ := Value) 5 #[false, true, true, false, false, false, false] (fun s_ => [(20, s_)]) (fun s_ w' => (Kd.R (Kd.int .i64) 3 w' w.heap.size (fun _ => True) s_ y222) ∧ (w'.heap[gb218]? = some (.cells #[.string a0_0, .slice A0_1 l0_1.length c0_1] 25 (0, 0))) ∧ (Below w.heap.size w w')) ?_ ?_
        rotate_left
        ·
         intro hJ1
         refine join_ (σ := Value) 5 #[false, false, true, true, false, false, false] (fun s_ => [(22, s_)]) (fun s_ w' => (Kd.R (Kd.int .i64) 3 w' w.heap.size (fun _ => True) s_ y225) ∧ (w'.heap[gb218]? = some (.cells #[.string a0_0, .slice A0_1 l0_1.length c0_1] 25 (0, 0))) ∧ (Below w.heap.size w w')) ?_ ?_
         rotate_left
         ·
          intro hJ3
          refine three_ (i := 0) (j := 1) (k := 3) (Ni := some 19) (Nj := some 20) (Nk := some 22) #[true, false, true, false, false, false, false] #[false, true, true, false, false, false, false] #[false, false, true, true, false, false, false] rfl rfl rfl rfl rfl rfl (by kernel_rfl) (by decide) (by decide) (by decide) (fun K hK => ?_) (fun K hK => ?_) (fun K hK => ?_)
          ·
           skip
           refine Kd.R_lit_step (Kd.int .i64) _ 3 ?hg (N := 19) ?hd (xs := ([] : List Int)) (inner := []) (ok := fun _ => True) (okp := fun _ => True) ?hr ?hp (fun _ hk => hk) trivial (Below.refl _ _) (Nat.le_refl _) (by simp) ?_; (case hd => rfl); (case hg => rfl); (case hr => first | (go_simp; done) | (go_simp; rfl)); (case hp => exact (Reps.none _ _))
           intro v220 w7 ho8 hb hg_ hnew_
           clear hg_ hnew_; (first | rw [← Ny219.out] at ho8 | (simp only [Int.reduceToNat] at ho8; rw [← Ny219.out] at ho8)); have n0 := Az (Kd.R_lower ho8 (below_size (bU1 HB.out GE218.out))); have n1 := Az (blk_below (g := gb218) (o := .cells #[.string a0_0, .slice A0_1 l0_1.length c0_1] 25 (0, 0)) (kU BK218.out) hb); have n2 := Az (below_step (bU1 HB.out GE218.out) hb); clear BK218 HB; have HO221 := n0; have BK218 := n1; have HB := n2; clear n0 n1 n2 hb ho8
           refine hK.out _ _ trivial (fun hHeld => ?_)
           clear hK K
           refine norm_ (a' := ?_) ?_ ?_
           rotate_left
           ·
            show Act.put _ (some 19) _ = _
            simp only [Act.put, List.setIfInBounds_toArray, List.set_cons_zero, List.set_cons_succ, i64_w, i32_w]
            rfl
           refine pure_ (i := 4) (N := some 6) (v := ?_) (a' := ?_) #[true, false, true, false, true, false, false] rfl rfl (by kernel_rfl) (fun _ _ _ h => h) (Or.inl ⟨by rfl, ?_⟩) ?_ ?_
           rotate_left
           ·
            intro w'
            go_simp
            with_reducible rfl
           rotate_left
           ·
            simp only [Act.put, List.setIfInBounds_toArray, List.set_cons_zero, List.set_cons_succ, i64_w, i32_w]
            rfl
           exact norm_ (by first | (simp only [putAll, Act.put, List.setIfInBounds_toArray, List.set_cons_zero, List.set_cons_succ]; done) | (simp only [putAll, Act.put, List.setIfInBounds_toArray, List.set_cons_zero, List.set_cons_succ]; rfl)) (hJ0 (v220) _ ⟨(rU HO221.out), (kU BK218.out), (bU1 HB.out GE218.out)⟩)
          ·
           skip
           refine Kd.R_lit_step (Kd.int .i64) _ 3 ?hg (N := 20) ?hd (xs := ([] : List Int)) (inner := []) (ok := fun _ => True) (okp := fun _ => True) ?hr ?hp (fun _ hk => hk) trivial (Below.refl _ _) (Nat.le_refl _) (by simp) ?_; (case hd => rfl); (case hg => rfl); (case hr => first | (go_simp; done) | (go_simp; rfl)); (case hp => exact (Reps.none _ _))
           intro v223 w7 ho8 hb hg_ hnew_
           clear hg_ hnew_; (first | rw [← Ny222.out] at ho8 | (simp only [Int.reduceToNat] at ho8; rw [← Ny222.out] at ho8)); have n0 := Az (Kd.R_lower ho8 (below_size (bU1 HB.out GE218.out))); have n1 := Az (blk_below (g := gb218) (o := .cells #[.string a0_0, .slice A0_1 l0_1.length c0_1] 25 (0, 0)) (kU BK218.out) hb); have n2 := Az (below_step (bU1 HB.out GE218.out) hb); clear BK218 HB; have HO224 := n0; have BK218 := n1; have HB := n2; clear n0 n1 n2 hb ho8
           refine hK.out _ _ trivial (fun hHeld => ?_)
           clear hK K
           refine norm_ (a' := ?_) ?_ ?_
           rotate_left
           ·
            show Act.put _ (some 20) _ = _
            simp only [Act.put, List.setIfInBounds_toArray, List.set_cons_zero, List.set_cons_succ, i64_w, i32_w]
            rfl
           exact norm_ (by first | (simp only [putAll, Act.put, List.setIfInBounds_toArray, List.set_cons_zero, List.set_cons_succ]; done) | (simp only [putAll, Act.put, List.setIfInBounds_toArray, List.set_cons_zero, List.set_cons_succ]; rfl)) (hJ1 (v223) _ ⟨(rU HO224.out), (kU BK218.out), (bU1 HB.out GE218.out)⟩)
          ·
           skip
           refine Kd.R_make_step (Kd.int .i64) _ 3 (by rfl) (N := 22) rfl 23 _ _ rfl (a0_0.size : Int) rfl rfl Try.underlying23 (.int .i64 0) 8 info3 rfl (by decide) (by omega) 0 (ok := fun _ => True) (okp := fun _ => True) rfl (fun _ hk => hk) trivial (oA) (Nat.le_trans (Nat.mul_le_mul_right _ (oA : (a0_0.size : Int).toNat ≤ 35184372088832)) (by omega)) (Below.refl _ _) (Nat.le_refl _) ?_
           intro v226 w7 ho8 hb hg_ hnew_
           clear hg_ hnew_; (first | rw [← Ny225.out] at ho8 | (simp only [Int.reduceToNat] at ho8; rw [← Ny225.out] at ho8)); have n0 := Az (Kd.R_lower ho8 (below_size (bU1 HB.out GE218.out))); have n1 := Az (blk_below (g := gb218) (o := .cells #[.string a0_0, .slice A0_1 l0_1.length c0_1] 25 (0, 0)) (kU BK218.out) hb); have n2 := Az (below_step (bU1 HB.out GE218.out) hb); clear BK218 HB; have HO227 := n0; have BK218 := n1; have HB := n2; clear n0 n1 n2 hb ho8
           refine hK.out _ _ trivial (fun hHeld => ?_)
           clear hK K
           refine norm_ (a' := ?_) ?_ ?_
           rotate_left
           ·
            show Act.put _ (some 22) _ = _
            simp only [Act.put, List.setIfInBounds_toArray, List.set_cons_zero, List.set_cons_succ, i64_w, i32_w]
            rfl
           exact norm_ (by first | (simp only [putAll, Act.put, List.setIfInBounds_toArray, List.set_cons_zero, List.set_cons_succ]; done) | (simp only [putAll, Act.put, List.setIfInBounds_toArray, List.set_cons_zero, List.set_cons_succ]; rfl)) (hJ3 (v226) _ ⟨(rU HO227.out), (kU BK218.out), (bU1 HB.out GE218.out)⟩)
         ·
          skip
          rintro v226 w9 ⟨h0_, h1_, h2_⟩
          have n0 : Aside0 (Kd.R (Kd.int .i64) 3 w9 w.heap.size (fun _ => True) v226 y225) := ⟨h0_⟩; have n1 : Aside0 (w9.heap[gb218]? = some (.cells #[.string a0_0, .slice A0_1 l0_1.length c0_1] 25 (0, 0))) := ⟨h1_⟩; have n2 : Aside0 (Below w.heap.size w w9) := ⟨h2_⟩; clear BK218 HB h0_ h1_ h2_; have HO227 := n0; have BK218 := n1; have HB := n2; clear n0 n1 n2; have hHeld := trivial
          refine norm_ (a' := ?_) ?_ ?_
          rotate_left
          ·
           simp only [putAll, Act.put, List.setIfInBounds_toArray, List.set_cons_zero, List.set_cons_succ]
           rfl
          refine two_ (i := 0) (j := 1) (Ni := some 19) (Nj := some 20) #[true, false, true, true, false, false, false] #[false, true, true, true, false, false, false] rfl rfl rfl rfl (by kernel_rfl) (by decide) (by decide) (fun K hK => ?_) (fun K hK => ?_)
          ·
           skip
           refine Kd.R_lit_step (Kd.int .i64) _ 3 ?hg (N := 19) ?hd (xs := ([] : List Int)) (inner := []) (ok := fun _ => True) (okp := fun _ => True) ?hr ?hp (fun _ hk => hk) trivial (Below.refl _ _) (Nat.le_refl _) (by simp) ?_; (case hd => rfl); (case hg => rfl); (case hr => first | (go_simp; done) | (go_simp; rfl)); (case hp => exact (Reps.none _ _))
           intro v220 w10 ho11 hb hg_ hnew_
           clear hg_ hnew_; (first | rw [← Ny219.out] at ho11 | (simp only [Int.reduceToNat] at ho11; rw [← Ny219.out] at ho11)); have n0 := Az (Kd.R_elder' (rU HO227.out) (Kd.R_base ho11) hb); have n1 := Az (Kd.R_lower (Kd.R_new' ho11 (Kd.R_lt (rU HO227.out))) (below_size (bU1 HB.out GE218.out))); have n2 := Az (blk_below (g := gb218) (o := .cells #[.string a0_0, .slice A0_1 l0_1.length c0_1] 25 (0, 0)) (kU BK218.out) hb); have n3 := Az (below_step (bU1 HB.out GE218.out) hb); clear HO227 BK218 HB; have HO227 := n0; have HO221 := n1; have BK218 := n2; have HB := n3; clear n0 n1 n2 n3 hb ho11
           refine hK.out _ _ trivial (fun hHeld => ?_)
           clear hK K
           refine norm_ (a' := ?_) ?_ ?_
           rotate_left
           ·
            show Act.put _ (some 19) _ = _
            simp only [Act.put, List.setIfInBounds_toArray, List.set_cons_zero, List.set_cons_succ, i64_w, i32_w]
            rfl
           refine pure_ (i := 4) (N := some 6) (v := ?_) (a' := ?_) #[true, false, true, true, true, false, false] rfl rfl (by kernel_rfl) (fun _ _ _ h => h) (Or.inl ⟨by rfl, ?_⟩) ?_ ?_
           rotate_left
           ·
            intro w'
            go_simp
            with_reducible rfl
           rotate_left
           ·
            simp only [Act.put, List.setIfInBounds_toArray, List.set_cons_zero, List.set_cons_succ, i64_w, i32_w]
            rfl
           exact norm_ (by first | (simp only [putAll, Act.put, List.setIfInBounds_toArray, List.set_cons_zero, List.set_cons_succ]; done) | (simp only [putAll, Act.put, List.setIfInBounds_toArray, List.set_cons_zero, List.set_cons_succ]; rfl)) (hJ0_3 (v220, v226) _ ⟨(by (with_reducible repeat (first | apply Kd.R_alloc | apply Kd.R_drewN | apply Kd.R_drew)); exact Kd.R_mono HO221.out (fun _ hk => hk.2)), (by (with_reducible repeat (first | apply Kd.R_alloc | apply Kd.R_drewN | apply Kd.R_drew)); exact Kd.R_mono HO227.out (fun _ hk => hk.2)), (kU BK218.out), (bU1 HB.out GE218.out)⟩)
          ·
           skip
           refine Kd.R_lit_step (Kd.int .i64) _ 3 ?hg (N := 20) ?hd (xs := ([] : List Int)) (inner := []) (ok := fun _ => True) (okp := fun _ => True) ?hr ?hp (fun _ hk => hk) trivial (Below.refl _ _) (Nat.le_refl _) (by simp) ?_; (case hd => rfl); (case hg => rfl); (case hr => first | (go_simp; done) | (go_simp; rfl)); (case hp => exact (Reps.none _ _))
           intro v223 w10 ho11 hb hg_ hnew_
           clear hg_ hnew_; (first | rw [← Ny222.out] at ho11 | (simp only [Int.reduceToNat] at ho11; rw [← Ny222.out] at ho11)); have n0 := Az (Kd.R_elder' (rU HO227.out) (Kd.R_base ho11) hb); have n1 := Az (Kd.R_lower (Kd.R_new' ho11 (Kd.R_lt (rU HO227.out))) (below_size (bU1 HB.out GE218.out))); have n2 := Az (blk_below (g := gb218) (o := .cells #[.string a0_0, .slice A0_1 l0_1.length c0_1] 25 (0, 0)) (kU BK218.out) hb); have n3 := Az (below_step (bU1 HB.out GE218.out) hb); clear HO227 BK218 HB; have HO227 := n0; have HO224 := n1; have BK218 := n2; have HB := n3; clear n0 n1 n2 n3 hb ho11
           refine hK.out _ _ trivial (fun hHeld => ?_)
           clear hK K
           refine norm_ (a' := ?_) ?_ ?_
           rotate_left
           ·
            show Act.put _ (some 20) _ = _
            simp only [Act.put, List.setIfInBounds_toArray, List.set_cons_zero, List.set_cons_succ, i64_w, i32_w]
            rfl
           exact norm_ (by first | (simp only [putAll, Act.put, List.setIfInBounds_toArray, List.set_cons_zero, List.set_cons_succ]; done) | (simp only [putAll, Act.put, List.setIfInBounds_toArray, List.set_cons_zero, List.set_cons_succ]; rfl)) (hJ1_3 (v223, v226) _ ⟨(by (with_reducible repeat (first | apply Kd.R_alloc | apply Kd.R_drewN | apply Kd.R_drew)); exact Kd.R_mono HO224.out (fun _ hk => hk.2)), (by (with_reducible repeat (first | apply Kd.R_alloc | apply Kd.R_drewN | apply Kd.R_drew)); exact Kd.R_mono HO227.out (fun _ hk => hk.2)), (kU BK218.out), (bU1 HB.out GE218.out)⟩)
        ·
         skip
         rintro v223 w9 ⟨h0_, h1_, h2_⟩
         have n0 : Aside0 (Kd.R (Kd.int .i64) 3 w9 w.heap.size (fun _ => True) v223 y222) := ⟨h0_⟩; have n1 : Aside0 (w9.heap[gb218]? = some (.cells #[.string a0_0, .slice A0_1 l0_1.length c0_1] 25 (0, 0))) := ⟨h1_⟩; have n2 : Aside0 (Below w.heap.size w w9) := ⟨h2_⟩; clear BK218 HB h0_ h1_ h2_; have HO224 := n0; have BK218 := n1; have HB := n2; clear n0 n1 n2; have hHeld := trivial
         refine norm_ (a' := ?_) ?_ ?_
         rotate_left
         ·
          simp only [putAll, Act.put, List.setIfInBounds_toArray, List.set_cons_zero, List.set_cons_succ]
          rfl
         refine two_ (i := 0) (j := 3) (Ni := some 19) (Nj := some 22) #[true, true, true, false, false, false, false] #[false, true, true, true, false, false, false] rfl rfl rfl rfl (by kernel_rfl) (by decide) (by decide) (fun K hK => ?_) (fun K hK => ?_)
         ·
          skip
          refine Kd.R_lit_step (Kd.int .i64) _ 3 ?hg (N := 19) ?hd (xs := ([] : List Int)) (inner := []) (ok := fun _ => True) (okp := fun _ => True) ?hr ?hp (fun _ hk => hk) trivial (Below.refl _ _) (Nat.le_refl _) (by simp) ?_; (case hd => rfl); (case hg => rfl); (case hr => first | (go_simp; done) | (go_simp; rfl)); (case hp => exact (Reps.none _ _))
          intro v220 w10 ho11 hb hg_ hnew_
          clear hg_ hnew_; (first | rw [← Ny219.out] at ho11 | (simp only [Int.reduceToNat] at ho11; rw [← Ny219.out] at ho11)); have n0 := Az (Kd.R_elder' (rU HO224.out) (Kd.R_base ho11) hb); have n1 := Az (Kd.R_lower (Kd.R_new' ho11 (Kd.R_lt (rU HO224.out))) (below_size (bU1 HB.out GE218.out))); have n2 := Az (blk_below (g := gb218) (o := .cells #[.string a0_0, .slice A0_1 l0_1.length c0_1] 25 (0, 0)) (kU BK218.out) hb); have n3 := Az (below_step (bU1 HB.out GE218.out) hb); clear HO224 BK218 HB; have HO224 := n0; have HO221 := n1; have BK218 := n2; have HB := n3; clear n0 n1 n2 n3 hb ho11
          refine hK.out _ _ trivial (fun hHeld => ?_)
          clear hK K
          refine norm_ (a' := ?_) ?_ ?_
          rotate_left
          ·
           show Act.put _ (some 19) _ = _
           simp only [Act.put, List.setIfInBounds_toArray, List.set_cons_zero, List.set_cons_succ, i64_w, i32_w]
           rfl
          refine pure_ (i := 4) (N := some 6) (v := ?_) (a' := ?_) #[true, true, true, false, true, false, false] rfl rfl (by kernel_rfl) (fun _ _ _ h => h) (Or.inl ⟨by rfl, ?_⟩) ?_ ?_
          rotate_left
          ·
           intro w'
           go_simp
           with_reducible rfl
          rotate_left
          ·
           simp only [Act.put, List.setIfInBounds_toArray, List.set_cons_zero, List.set_cons_succ, i64_w, i32_w]
           rfl
          refine pure_ (i := 5) (N := some 7) (v := ?_) (a' := ?_) #[true, true, true, false, true, true, false] rfl rfl (by kernel_rfl) (fun _ _ _ h => h) (Or.inl ⟨by rfl, ?_⟩) ?_ ?_
          rotate_left
          ·
           intro w'
           go_simp
           with_reducible rfl
          rotate_left
          ·
           simp only [Act.put, List.setIfInBounds_toArray, List.set_cons_zero, List.set_cons_succ, i64_w, i32_w]
           rfl
          exact norm_ (by first | (simp only [putAll, Act.put, List.setIfInBounds_toArray, List.set_cons_zero, List.set_cons_succ]; done) | (simp only [putAll, Act.put, List.setIfInBounds_toArray, List.set_cons_zero, List.set_cons_succ]; rfl)) (hJ0_1 (v220, v223) _ ⟨(by (with_reducible repeat (first | apply Kd.R_alloc | apply Kd.R_drewN | apply Kd.R_drew)); exact Kd.R_mono HO221.out (fun _ hk => hk.2)), (by (with_reducible repeat (first | apply Kd.R_alloc | apply Kd.R_drewN | apply Kd.R_drew)); exact Kd.R_mono HO224.out (fun _ hk => hk.2)), (kU BK218.out), (bU1 HB.out GE218.out)⟩)
         ·
          skip
          refine Kd.R_make_step (Kd.int .i64) _ 3 (by rfl) (N := 22) rfl 23 _ _ rfl (a0_0.size : Int) rfl rfl Try.underlying23 (.int .i64 0) 8 info3 rfl (by decide) (by omega) 0 (ok := fun _ => True) (okp := fun _ => True) rfl (fun _ hk => hk) trivial (oA) (Nat.le_trans (Nat.mul_le_mul_right _ (oA : (a0_0.size : Int).toNat ≤ 35184372088832)) (by omega)) (Below.refl _ _) (Nat.le_refl _) ?_
          intro v226 w10 ho11 hb hg_ hnew_
          clear hg_ hnew_; (first | rw [← Ny225.out] at ho11 | (simp only [Int.reduceToNat] at ho11; rw [← Ny225.out] at ho11)); have n0 := Az (Kd.R_elder' (rU HO224.out) (Kd.R_base ho11) hb); have n1 := Az (Kd.R_lower (Kd.R_new' ho11 (Kd.R_lt (rU HO224.out))) (below_size (bU1 HB.out GE218.out))); have n2 := Az (blk_below (g := gb218) (o := .cells #[.string a0_0, .slice A0_1 l0_1.length c0_1] 25 (0, 0)) (kU BK218.out) hb); have n3 := Az (below_step (bU1 HB.out GE218.out) hb); clear HO224 BK218 HB; have HO224 := n0; have HO227 := n1; have BK218 := n2; have HB := n3; clear n0 n1 n2 n3 hb ho11
          refine hK.out _ _ trivial (fun hHeld => ?_)
          clear hK K
          refine norm_ (a' := ?_) ?_ ?_
          rotate_left
          ·
           show Act.put _ (some 22) _ = _
           simp only [Act.put, List.setIfInBounds_toArray, List.set_cons_zero, List.set_cons_succ, i64_w, i32_w]
           rfl
          exact norm_ (by first | (simp only [putAll, Act.put, List.setIfInBounds_toArray, List.set_cons_zero, List.set_cons_succ]; done) | (simp only [putAll, Act.put, List.setIfInBounds_toArray, List.set_cons_zero, List.set_cons_succ]; rfl)) (hJ1_3 (v223, v226) _ ⟨(by (with_reducible repeat (first | apply Kd.R_alloc | apply Kd.R_drewN | apply Kd.R_drew)); exact Kd.R_mono HO224.out (fun _ hk => hk.2)), (by (with_reducible repeat (first | apply Kd.R_alloc | apply Kd.R_drewN | apply Kd.R_drew)); exact Kd.R_mono HO227.out (fun _ hk => hk.2)), (kU BK218.out), (bU1 HB.out GE218.out)⟩)
       ·
        skip
        rintro v220 w9 ⟨h0_, h1_, h2_⟩
        have n0 : Aside0 (Kd.R (Kd.int .i64) 3 w9 w.heap.size (fun _ => True) v220 y219) := ⟨h0_⟩; have n1 : Aside0 (w9.heap[gb218]? = some (.cells #[.string a0_0, .slice A0_1 l0_1.length c0_1] 25 (0, 0))) := ⟨h1_⟩; have n2 : Aside0 (Below w.heap.size w w9) := ⟨h2_⟩; clear BK218 HB h0_ h1_ h2_; have HO221 := n0; have BK218 := n1; have HB := n2; clear n0 n1 n2; have hHeld := trivial
        refine norm_ (a' := ?_) ?_ ?_
        rotate_left
        ·
         simp only [putAll, Act.put, List.setIfInBounds_toArray, List.set_cons_zero, List.set_cons_succ]
         rfl
        refine two_ (i := 1) (j := 3) (Ni := some 20) (Nj := some 22) #[true, true, true, false, true, false, false] #[true, false, true, true, true, false, false] rfl rfl rfl rfl (by kernel_rfl) (by decide) (by decide) (fun K hK => ?_) (fun K hK => ?_)
        ·
         skip
         refine Kd.R_lit_step (Kd.int .i64) _ 3 ?hg (N := 20) ?hd (xs := ([] : List Int)) (inner := []) (ok := fun _ => True) (okp := fun _ => True) ?hr ?hp (fun _ hk => hk) trivial (Below.refl _ _) (Nat.le_refl _) (by simp) ?_; (case hd => rfl); (case hg => rfl); (case hr => first | (go_simp; done) | (go_simp; rfl)); (case hp => exact (Reps.none _ _))
         intro v223 w10 ho11 hb hg_ hnew_
         clear hg_ hnew_; (first | rw [← Ny222.out] at ho11 | (simp only [Int.reduceToNat] at ho11; rw [← Ny222.out] at ho11)); have n0 := Az (Kd.R_elder' (rU HO221.out) (Kd.R_base ho11) hb); have n1 := Az (Kd.R_lower (Kd.R_new' ho11 (Kd.R_lt (rU HO221.out))) (below_size (bU1 HB.out GE218.out))); have n2 := Az (blk_below (g := gb218) (o := .cells #[.string a0_0, .slice A0_1 l0_1.length c0_1] 25 (0, 0)) (kU BK218.out) hb); have n3 := Az (below_step (bU1 HB.out GE218.out) hb); clear HO221 BK218 HB; have HO221 := n0; have HO224 := n1; have BK218 := n2; have HB := n3; clear n0 n1 n2 n3 hb ho11
         refine hK.out _ _ trivial (fun hHeld => ?_)
         clear hK K
         refine norm_ (a' := ?_) ?_ ?_
         rotate_left
         ·
          show Act.put _ (some 20) _ = _
          simp only [Act.put, List.setIfInBounds_toArray, List.set_cons_zero, List.set_cons_succ, i64_w, i32_w]
          rfl
         refine pure_ (i := 5) (N := some 7) (v := ?_) (a' := ?_) #[true, true, true, false, true, true, false] rfl rfl (by kernel_rfl) (fun _ _ _ h => h) (Or.inl ⟨by rfl, ?_⟩) ?_ ?_
         rotate_left
         ·
          intro w'
          go_simp
          with_reducible rfl
         rotate_left
         ·
          simp only [Act.put, List.setIfInBounds_toArray, List.set_cons_zero, List.set_cons_succ, i64_w, i32_w]
          rfl
         exact norm_ (by first | (simp only [putAll, Act.put, List.setIfInBounds_toArray, List.set_cons_zero, List.set_cons_succ]; done) | (simp only [putAll, Act.put, List.setIfInBounds_toArray, List.set_cons_zero, List.set_cons_succ]; rfl)) (hJ0_1 (v220, v223) _ ⟨(by (with_reducible repeat (first | apply Kd.R_alloc | apply Kd.R_drewN | apply Kd.R_drew)); exact Kd.R_mono HO221.out (fun _ hk => hk.2)), (by (with_reducible repeat (first | apply Kd.R_alloc | apply Kd.R_drewN | apply Kd.R_drew)); exact Kd.R_mono HO224.out (fun _ hk => hk.2)), (kU BK218.out), (bU1 HB.out GE218.out)⟩)
        ·
         skip
         refine Kd.R_make_step (Kd.int .i64) _ 3 (by rfl) (N := 22) rfl 23 _ _ rfl (a0_0.size : Int) rfl rfl Try.underlying23 (.int .i64 0) 8 info3 rfl (by decide) (by omega) 0 (ok := fun _ => True) (okp := fun _ => True) rfl (fun _ hk => hk) trivial (oA) (Nat.le_trans (Nat.mul_le_mul_right _ (oA : (a0_0.size : Int).toNat ≤ 35184372088832)) (by omega)) (Below.refl _ _) (Nat.le_refl _) ?_
         intro v226 w10 ho11 hb hg_ hnew_
         clear hg_ hnew_; (first | rw [← Ny225.out] at ho11 | (simp only [Int.reduceToNat] at ho11; rw [← Ny225.out] at ho11)); have n0 := Az (Kd.R_elder' (rU HO221.out) (Kd.R_base ho11) hb); have n1 := Az (Kd.R_lower (Kd.R_new' ho11 (Kd.R_lt (rU HO221.out))) (below_size (bU1 HB.out GE218.out))); have n2 := Az (blk_below (g := gb218) (o := .cells #[.string a0_0, .slice A0_1 l0_1.length c0_1] 25 (0, 0)) (kU BK218.out) hb); have n3 := Az (below_step (bU1 HB.out GE218.out) hb); clear HO221 BK218 HB; have HO221 := n0; have HO227 := n1; have BK218 := n2; have HB := n3; clear n0 n1 n2 n3 hb ho11
         refine hK.out _ _ trivial (fun hHeld => ?_)
         clear hK K
         refine norm_ (a' := ?_) ?_ ?_
         rotate_left
         ·
          show Act.put _ (some 22) _ = _
          simp only [Act.put, List.setIfInBounds_toArray, List.set_cons_zero, List.set_cons_succ, i64_w, i32_w]
          rfl
         exact norm_ (by first | (simp only [putAll, Act.put, List.setIfInBounds_toArray, List.set_cons_zero, List.set_cons_succ]; done) | (simp only [putAll, Act.put, List.setIfInBounds_toArray, List.set_cons_zero, List.set_cons_succ]; rfl)) (hJ0_3 (v220, v226) _ ⟨(by (with_reducible repeat (first | apply Kd.R_alloc | apply Kd.R_drewN | apply Kd.R_drew)); exact Kd.R_mono HO221.out (fun _ hk => hk.2)), (by (with_reducible repeat (first | apply Kd.R_alloc | apply Kd.R_drewN | apply Kd.R_drew)); exact Kd.R_mono HO227.out (fun _ hk => hk.2)), (kU BK218.out), (bU1 HB.out GE218.out)⟩)
      ·
       skip
       rintro ⟨v223, v226⟩ w11 ⟨h0_, h1_, h2_, h3_⟩
       have n0 : Aside0 (Kd.R (Kd.int .i64) 3 w11 w.heap.size (fun k_ => some k_ ≠ (v226 : Value).ownBlock) v223 y222) := ⟨h0_⟩; have n1 : Aside0 (Kd.R (Kd.int .i64) 3 w11 w.heap.size (fun k_ => some k_ ≠ (v223 : Value).ownBlock) v226 y225) := ⟨h1_⟩; have n2 : Aside0 (w11.heap[gb218]? = some (.cells #[.string a0_0, .slice A0_1 l0_1.length c0_1] 25 (0, 0))) := ⟨h2_⟩; have n3 : Aside0 (Below w.heap.size w w11) := ⟨h3_⟩; clear BK218 HB h0_ h1_ h2_ h3_; have HO224 := n0; have HO227 := n1; have BK218 := n2; have HB := n3; clear n0 n1 n2 n3; have hHeld := trivial
       refine norm_ (a' := ?_) ?_ ?_
       rotate_left
       ·
        simp only [putAll, Act.put, List.setIfInBounds_toArray, List.set_cons_zero, List.set_cons_succ]
        rfl
       refine one_ (i := 0) (N := some 19) #[true, true, true, true, false, false, false] rfl rfl (by kernel_rfl) (by decide) (fun K hK => ?_)
       refine Kd.R_lit_step (Kd.int .i64) _ 3 ?hg (N := 19) ?hd (xs := ([] : List Int)) (inner := []) (ok := fun _ => True) (okp := fun _ => True) ?hr ?hp (fun _ hk => hk) trivial (Below.refl _ _) (Nat.le_refl _) (by simp) ?_; (case hd => rfl); (case hg => rfl); (case hr => first | (go_simp; done) | (go_simp; rfl)); (case hp => exact (Reps.none _ _))
       intro v220 w12 ho13 hb hg_ hnew_
       clear hg_ hnew_; (first | rw [← Ny219.out] at ho13 | (simp only [Int.reduceToNat] at ho13; rw [← Ny219.out] at ho13)); have n0 := Az (Kd.R_elder' (rU HO224.out) (Kd.R_base ho13) hb); have n1 := Az (Kd.R_elder' (rU HO227.out) (Kd.R_base ho13) hb); have n2 := Az (Kd.R_lower (Kd.R_new' (Kd.R_new' ho13 (Kd.R_lt (rU HO224.out))) (Kd.R_lt (rU HO227.out))) (below_size (bU1 HB.out GE218.out))); have n3 := Az (blk_below (g := gb218) (o := .cells #[.string a0_0, .slice A0_1 l0_1.length c0_1] 25 (0, 0)) (kU BK218.out) hb); have n4 := Az (below_step (bU1 HB.out GE218.out) hb); clear HO224 HO227 BK218 HB; have HO224 := n0; have HO227 := n1; have HO221 := n2; have BK218 := n3; have HB := n4; clear n0 n1 n2 n3 n4 hb ho13
       refine hK.out _ _ trivial (fun hHeld => ?_)
       clear hK K
       refine norm_ (a' := ?_) ?_ ?_
       rotate_left
       ·
        show Act.put _ (some 19) _ = _
        simp only [Act.put, List.setIfInBounds_toArray, List.set_cons_zero, List.set_cons_succ, i64_w, i32_w]
        rfl
       refine pure_ (i := 4) (N := some 6) (v := ?_) (a' := ?_) #[true, true, true, true, true, false, false] rfl rfl (by kernel_rfl) (fun _ _ _ h => h) (Or.inl ⟨by rfl, ?_⟩) ?_ ?_
       rotate_left
       ·
        intro w'
        go_simp
        with_reducible rfl
       rotate_left
       ·
        simp only [Act.put, List.setIfInBounds_toArray, List.set_cons_zero, List.set_cons_succ, i64_w, i32_w]
        rfl
       refine pure_ (i := 5) (N := some 7) (v := ?_) (a' := ?_) #[true, true, true, true, true, true, false] rfl rfl (by kernel_rfl) (fun _ _ _ h => h) (Or.inl ⟨by rfl, ?_⟩) ?_ ?_
       rotate_left
       ·
        intro w'
        go_simp
        with_reducible rfl
       rotate_left
       ·
        simp only [Act.put, List.setIfInBounds_toArray, List.set_cons_zero, List.set_cons_succ, i64_w, i32_w]
        rfl
       exact norm_ (by first | (simp only [putAll, Act.put, List.setIfInBounds_toArray, List.set_cons_zero, List.set_cons_succ]; done) | (simp only [putAll, Act.put, List.setIfInBounds_toArray, List.set_cons_zero, List.set_cons_succ]; rfl)) (hJ0_1_3 (v220, v223, v226) _ ⟨(by (with_reducible repeat (first | apply Kd.R_alloc | apply Kd.R_drewN | apply Kd.R_drew)); exact Kd.R_mono HO221.out (fun _ hk => ⟨hk.1.2, hk.2⟩)), (by (with_reducible repeat (first | apply Kd.R_alloc | apply Kd.R_drewN | apply Kd.R_drew)); exact Kd.R_mono HO224.out (fun _ hk => ⟨hk.2, hk.1⟩)), (by (with_reducible repeat (first | apply Kd.R_alloc | apply Kd.R_drewN | apply Kd.R_drew)); exact Kd.R_mono HO227.out (fun _ hk => ⟨hk.2, hk.1⟩)), (kU BK218.out), (bU1 HB.out GE218.out)⟩)
     ·
      skip
      rintro ⟨v220, v226⟩ w11 ⟨h0_, h1_, h2_, h3_⟩
      have n0 : Aside0 (Kd.R (Kd.int .i64) 3 w11 w.heap.size (fun k_ => some k_ ≠ (v226 : Value).ownBlock) v220 y219) := ⟨h0_⟩; have n1 : Aside0 (Kd.R (Kd.int .i64) 3 w11 w.heap.size (fun k_ => some k_ ≠ (v220 : Value).ownBlock) v226 y225) := ⟨h1_⟩; have n2 : Aside0 (w11.heap[gb218]? = some (.cells #[.string a0_0, .slice A0_1 l0_1.length c0_1] 25 (0, 0))) := ⟨h2_⟩; have n3 : Aside0 (Below w.heap.size w w11) := ⟨h3_⟩; clear BK218 HB h0_ h1_ h2_ h3_; have HO221 := n0; have HO227 := n1; have BK218 := n2; have HB := n3; clear n0 n1 n2 n3; have hHeld := trivial
      refine norm_ (a' := ?_) ?_ ?_
      rotate_left
      ·
       simp only [putAll, Act.put, List.setIfInBounds_toArray, List.set_cons_zero, List.set_cons_succ]
       rfl
      refine one_ (i := 1) (N := some 20) #[true, true, true, true, true, false, false] rfl rfl (by kernel_rfl) (by decide) (fun K hK => ?_)
      refine Kd.R_lit_step (Kd.int .i64) _ 3 ?hg (N := 20) ?hd (xs := ([] : List Int)) (inner := []) (ok := fun _ => True) (okp := fun _ => True) ?hr ?hp (fun _ hk => hk) trivial (Below.refl _ _) (Nat.le_refl _) (by simp) ?_; (case hd => rfl); (case hg => rfl); (case hr => first | (go_simp; done) | (go_simp; rfl)); (case hp => exact (Reps.none _ _))
      intro v223 w12 ho13 hb hg_ hnew_
      clear hg_ hnew_; (first | rw [← Ny222.out] at ho13 | (simp only [Int.reduceToNat] at ho13; rw [← Ny222.out] at ho13)); have n0 := Az (Kd.R_elder' (rU HO221.out) (Kd.R_base ho13) hb); have n1 := Az (Kd.R_elder' (rU HO227.out) (Kd.R_base ho13) hb); have n2 := Az (Kd.R_lower (Kd.R_new' (Kd.R_new' ho13 (Kd.R_lt (rU HO221.out))) (Kd.R_lt (rU HO227.out))) (below_size (bU1 HB.out GE218.out))); have n3 := Az (blk_below (g := gb218) (o := .cells #[.string a0_0, .slice A0_1 l0_1.length c0_1] 25 (0, 0)) (kU BK218.out) hb); have n4 := Az (below_step (bU1 HB.out GE218.out) hb); clear HO221 HO227 BK218 HB; have HO221 := n0; have HO227 := n1; have HO224 := n2; have BK218 := n3; have HB := n4; clear n0 n1 n2 n3 n4 hb ho13
      refine hK.out _ _ trivial (fun hHeld => ?_)
      clear hK K
      refine norm_ (a' := ?_) ?_ ?_
      rotate_left
      ·
       show Act.put _ (some 20) _ = _
       simp only [Act.put, List.setIfInBounds_toArray, List.set_cons_zero, List.set_cons_succ, i64_w, i32_w]
       rfl
      refine pure_ (i := 5) (N := some 7) (v := ?_) (a' := ?_) #[true, true, true, true, true, true, false] rfl rfl (by kernel_rfl) (fun _ _ _ h => h) (Or.inl ⟨by rfl, ?_⟩) ?_ ?_
      rotate_left
      ·
       intro w'
       go_simp
       with_reducible rfl
      rotate_left
      ·
       simp only [Act.put, List.setIfInBounds_toArray, List.set_cons_zero, List.set_cons_succ, i64_w, i32_w]
       rfl
      exact norm_ (by first | (simp only [putAll, Act.put, List.setIfInBounds_toArray, List.set_cons_zero, List.set_cons_succ]; done) | (simp only [putAll, Act.put, List.setIfInBounds_toArray, List.set_cons_zero, List.set_cons_succ]; rfl)) (hJ0_1_3 (v220, v223, v226) _ ⟨(by (with_reducible repeat (first | apply Kd.R_alloc | apply Kd.R_drewN | apply Kd.R_drew)); exact Kd.R_mono HO221.out (fun _ hk => ⟨hk.2, hk.1⟩)), (by (with_reducible repeat (first | apply Kd.R_alloc | apply Kd.R_drewN | apply Kd.R_drew)); exact Kd.R_mono HO224.out (fun _ hk => ⟨hk.1.2, hk.2⟩)), (rU HO227.out), (kU BK218.out), (bU1 HB.out GE218.out)⟩)
    ·
     skip
     rintro ⟨v220, v223⟩ w11 ⟨h0_, h1_, h2_, h3_⟩
     have n0 : Aside0 (Kd.R (Kd.int .i64) 3 w11 w.heap.size (fun k_ => some k_ ≠ (v223 : Value).ownBlock) v220 y219) := ⟨h0_⟩; have n1 : Aside0 (Kd.R (Kd.int .i64) 3 w11 w.heap.size (fun k_ => some k_ ≠ (v220 : Value).ownBlock) v223 y222) := ⟨h1_⟩; have n2 : Aside0 (w11.heap[gb218]? = some (.cells #[.string a0_0, .slice A0_1 l0_1.length c0_1] 25 (0, 0))) := ⟨h2_⟩; have n3 : Aside0 (Below w.heap.size w w11) := ⟨h3_⟩; clear BK218 HB h0_ h1_ h2_ h3_; have HO221 := n0; have HO224 := n1; have BK218 := n2; have HB := n3; clear n0 n1 n2 n3; have hHeld := trivial
     refine norm_ (a' := ?_) ?_ ?_
     rotate_left
     ·
      simp only [putAll, Act.put, List.setIfInBounds_toArray, List.set_cons_zero, List.set_cons_succ]
      rfl
     refine one_ (i := 3) (N := some 22) #[true, true, true, true, true, true, false] rfl rfl (by kernel_rfl) (by decide) (fun K hK => ?_)
     refine Kd.R_make_step (Kd.int .i64) _ 3 (by rfl) (N := 22) rfl 23 _ _ rfl (a0_0.size : Int) rfl rfl Try.underlying23 (.int .i64 0) 8 info3 rfl (by decide) (by omega) 0 (ok := fun _ => True) (okp := fun _ => True) rfl (fun _ hk => hk) trivial (oA) (Nat.le_trans (Nat.mul_le_mul_right _ (oA : (a0_0.size : Int).toNat ≤ 35184372088832)) (by omega)) (Below.refl _ _) (Nat.le_refl _) ?_
     intro v226 w12 ho13 hb hg_ hnew_
     clear hg_ hnew_; (first | rw [← Ny225.out] at ho13 | (simp only [Int.reduceToNat] at ho13; rw [← Ny225.out] at ho13)); have n0 := Az (Kd.R_elder' (rU HO221.out) (Kd.R_base ho13) hb); have n1 := Az (Kd.R_elder' (rU HO224.out) (Kd.R_base ho13) hb); have n2 := Az (Kd.R_lower (Kd.R_new' (Kd.R_new' ho13 (Kd.R_lt (rU HO221.out))) (Kd.R_lt (rU HO224.out))) (below_size (bU1 HB.out GE218.out))); have n3 := Az (blk_below (g := gb218) (o := .cells #[.string a0_0, .slice A0_1 l0_1.length c0_1] 25 (0, 0)) (kU BK218.out) hb); have n4 := Az (below_step (bU1 HB.out GE218.out) hb); clear HO221 HO224 BK218 HB; have HO221 := n0; have HO224 := n1; have HO227 := n2; have BK218 := n3; have HB := n4; clear n0 n1 n2 n3 n4 hb ho13
     refine hK.out _ _ trivial (fun hHeld => ?_)
     clear hK K
     refine norm_ (a' := ?_) ?_ ?_
     rotate_left
     ·
      show Act.put _ (some 22) _ = _
      simp only [Act.put, List.setIfInBounds_toArray, List.set_cons_zero, List.set_cons_succ, i64_w, i32_w]
      rfl
     exact norm_ (by first | (simp only [putAll, Act.put, List.setIfInBounds_toArray, List.set_cons_zero, List.set_cons_succ]; done) | (simp only [putAll, Act.put, List.setIfInBounds_toArray, List.set_cons_zero, List.set_cons_succ]; rfl)) (hJ0_1_3 (v220, v223, v226) _ ⟨(rU HO221.out), (rU HO224.out), (by (with_reducible repeat (first | apply Kd.R_alloc | apply Kd.R_drewN | apply Kd.R_drew)); exact Kd.R_mono HO227.out (fun _ hk => ⟨hk.1.2, hk.2⟩)), (kU BK218.out), (bU1 HB.out GE218.out)⟩)
   rintro ⟨v220, v223, v226⟩ w13 ⟨h0_, h1_, h2_, h3_, h4_⟩
   have n0 : Aside0 (Kd.R (Kd.int .i64) 3 w13 w.heap.size (fun k_ => some k_ ≠ (v223 : Value).ownBlock ∧ some k_ ≠ (v226 : Value).ownBlock) v220 y219) := ⟨h0_⟩; have n1 : Aside0 (Kd.R (Kd.int .i64) 3 w13 w.heap.size (fun k_ => some k_ ≠ (v220 : Value).ownBlock ∧ some k_ ≠ (v226 : Value).ownBlock) v223 y222) := ⟨h1_⟩; have n2 : Aside0 (Kd.R (Kd.int .i64) 3 w13 w.heap.size (fun k_ => some k_ ≠ (v220 : Value).ownBlock ∧ some k_ ≠ (v223 : Value).ownBlock) v226 y225) := ⟨h2_⟩; have n3 : Aside0 (w13.heap[gb218]? = some (.cells #[.string a0_0, .slice A0_1 l0_1.length c0_1] 25 (0, 0))) := ⟨h3_⟩; have n4 : Aside0 (Below w.heap.size w w13) := ⟨h4_⟩; clear BK218 HB h0_ h1_ h2_ h3_ h4_; have HO221 := n0; have HO224 := n1; have HO227 := n2; have BK218 := n3; have HB := n4; clear n0 n1 n2 n3 n4; have hHeld := trivial
   refine norm_ (a' := ?_) ?_ ?_
   rotate_left
   ·
    simp only [putAll, Act.put, List.setIfInBounds_toArray, List.set_cons_zero, List.set_cons_succ]
    rfl
   refine pure_ (i := 6) (N := some 8) (v := ?_) (a' := ?_) #[true, true, true, true, true, true, true] rfl rfl (by kernel_rfl) (fun _ _ _ h => h) (Or.inl ⟨by rfl, ?_⟩) ?_ ?_
   rotate_left
   ·
    intro w'
    go_simp
    with_reducible rfl
   rotate_left
   ·
    simp only [Act.put, List.setIfInBounds_toArray, List.set_cons_zero, List.set_cons_succ, i64_w, i32_w]
    rfl
   refine done_ (by kernel_rfl) ?_
   try go_wp2_with (first | ((with_reducible refine gate_dst (N := 23) rfl ?_); refine Kd.R_lit (Kd.int .i64) _ 3 ?hg (N := 23) ?hd (xs := ([0] : List Int)) (inner := [.int .i64 0]) (ok := fun _ => True) (okp := fun _ => True) ?hr ?hp (fun _ hk => hk) trivial (Below.refl _ _) (Nat.le_refl _) (by simp) ?_; (case hd => rfl); (case hg => rfl); (case hr => first | (go_simp; done) | (go_simp; rfl)); (case hp => exact (Reps.one (show Kd.M (Kd.int .i64) _ _ _ 0 [.int .i64 0] from rfl) (Reps.none _ _))); intro v229 w14 ho15 hb hg_ hnew_; clear hg_ hnew_; (first | rw [← Ny228.out] at ho15 | (simp only [Int.reduceToNat] at ho15; rw [← Ny228.out] at ho15)); have n0 := Az (Kd.R_elder' (rU HO221.out) (Kd.R_base ho15) hb); have n1 := Az (Kd.R_elder' (rU HO224.out) (Kd.R_base ho15) hb); have n2 := Az (Kd.R_elder' (rU HO227.out) (Kd.R_base ho15) hb); have n3 := Az (Kd.R_lower (Kd.R_new' (Kd.R_new' (Kd.R_new' ho15 (Kd.R_lt (rU HO221.out))) (Kd.R_lt (rU HO224.out))) (Kd.R_lt (rU HO227.out))) (below_size (bU1 HB.out GE218.out))); have n4 := Az (blk_below (g := gb218) (o := .cells #[.string a0_0, .slice A0_1 l0_1.length c0_1] 25 (0, 0)) (kU BK218.out) hb); have n5 := Az (below_step (bU1 HB.out GE218.out) hb); clear HO221 HO224 HO227 BK218 HB; have HO221 := n0; have HO224 := n1; have HO227 := n2; have HO230 := n3; have BK218 := n4; have HB := n5; clear n0 n1 n2 n3 n4 n5; clear hb ho15) | ((with_reducible refine gate_dst (N := 24) rfl ?_); refine Kd.R_lit (Kd.int .i64) _ 3 ?hg (N := 24) ?hd (xs := ([0] : List Int)) (inner := [.int .i64 0]) (ok := fun _ => True) (okp := fun _ => True) ?hr ?hp (fun _ hk => hk) trivial (Below.refl _ _) (Nat.le_refl _) (by simp) ?_; (case hd => rfl); (case hg => rfl); (case hr => first | (go_simp; done) | (go_simp; rfl)); (case hp => exact (Reps.one (show Kd.M (Kd.int .i64) _ _ _ 0 [.int .i64 0] from rfl) (Reps.none _ _))); intro v232 w16 ho17 hb hg_ hnew_; clear hg_ hnew_; (first | rw [← Ny231.out] at ho17 | (simp only [Int.reduceToNat] at ho17; rw [← Ny231.out] at ho17)); have n0 := Az (Kd.R_elder' (rU HO221.out) (Kd.R_base ho17) hb); have n1 := Az (Kd.R_elder' (rU HO224.out) (Kd.R_base ho17) hb); have n2 := Az (Kd.R_elder' (rU HO227.out) (Kd.R_base ho17) hb); have n3 := Az (Kd.R_elder' (rU HO230.out) (Kd.R_base ho17) hb); have n4 := Az (Kd.R_lower (Kd.R_new' (Kd.R_new' (Kd.R_new' (Kd.R_new' ho17 (Kd.R_lt (rU HO221.out))) (Kd.R_lt (rU HO224.out))) (Kd.R_lt (rU HO227.out))) (Kd.R_lt (rU HO230.out))) (below_size (bU1 HB.out GE218.out))); have n5 := Az (blk_below (g := gb218) (o := .cells #[.string a0_0, .slice A0_1 l0_1.length c0_1] 25 (0, 0)) (kU BK218.out) hb); have n6 := Az (below_step (bU1 HB.out GE218.out) hb); clear HO221 HO224 HO227 HO230 BK218 HB; have HO221 := n0; have HO224 := n1; have HO227 := n2; have HO230 := n3; have HO233 := n4; have BK218 := n5; have HB := n6; clear n0 n1 n2 n3 n4 n5 n6; clear hb ho17) | ((with_reducible refine gate_dst (N := 25) rfl ?_); refine Kd.R_lit (Kd.int .i64) _ 3 ?hg (N := 25) ?hd (xs := ([] : List Int)) (inner := []) (ok := fun _ => True) (okp := fun _ => True) ?hr ?hp (fun _ hk => hk) trivial (Below.refl _ _) (Nat.le_refl _) (by simp) ?_; (case hd => rfl); (case hg => rfl); (case hr => first | (go_simp; done) | (go_simp; rfl)); (case hp => exact (Reps.none _ _)); intro v235 w18 ho19 hb hg_ hnew_; clear hg_ hnew_; (first | rw [← Ny234.out] at ho19 | (simp only [Int.reduceToNat] at ho19; rw [← Ny234.out] at ho19)); have n0 := Az (Kd.R_elder' (rU HO221.out) (Kd.R_base ho19) hb); have n1 := Az (Kd.R_elder' (rU HO224.out) (Kd.R_base ho19) hb); have n2 := Az (Kd.R_elder' (rU HO227.out) (Kd.R_base ho19) hb); have n3 := Az (Kd.R_elder' (rU HO230.out) (Kd.R_base ho19) hb); have n4 := Az (Kd.R_elder' (rU HO233.out) (Kd.R_base ho19) hb); have n5 := Az (Kd.R_lower (Kd.R_new' (Kd.R_new' (Kd.R_new' (Kd.R_new' (Kd.R_new' ho19 (Kd.R_lt (rU HO221.out))) (Kd.R_lt (rU HO224.out))) (Kd.R_lt (rU HO227.out))) (Kd.R_lt (rU HO230.out))) (Kd.R_lt (rU HO233.out))) (below_size (bU1 HB.out GE218.out))); have n6 := Az (blk_below (g := gb218) (o := .cells #[.string a0_0, .slice A0_1 l0_1.length c0_1] 25 (0, 0)) (kU BK218.out) hb); have n7 := Az (below_step (bU1 HB.out GE218.out) hb); clear HO221 HO224 HO227 HO230 HO233 BK218 HB; have HO221 := n0; have HO224 := n1; have HO227 := n2; have HO230 := n3; have HO233 := n4; have HO236 := n5; have BK218 := n6; have HB := n7; clear n0 n1 n2 n3 n4 n5 n6 n7; clear hb ho19))
   go_loopg [6, 7, 9, 10, 11, 12, 27] k (fun kq v6 v7 v9 v10 v11 v12 v27 w' => ∃ (x6_1 : List Int) (x7_1 : List Int) (x8_1 : List Int) (x9_1 : List Int) (x10_1 : List Int) (x11_1 : List Int) (x12_1 : Int) (x27_1 : Int), v12 = .int .i64 x12_1 ∧ v27 = .int .i64 x27_1 ∧ Aside0 (impl_walked.l0 kq x6_1 x7_1 x8_1 x9_1 x10_1 x11_1 x12_1 (a0_0.size : Int) x27_1 a0_0 l0_1 = some (r1, r2, r3)) ∧ Aside0 (kq ≤ k) ∧ Aside0 (Kd.R (Kd.int .i64) 3 w' w.heap.size (fun k_ => some k_ ≠ (v7 : Value).ownBlock ∧ some k_ ≠ (v226 : Value).ownBlock ∧ some k_ ≠ (v9 : Value).ownBlock ∧ some k_ ≠ (v10 : Value).ownBlock ∧ some k_ ≠ (v11 : Value).ownBlock) v6 x6_1) ∧ Aside0 (Kd.R (Kd.int .i64) 3 w' w.heap.size (fun k_ => some k_ ≠ (v6 : Value).ownBlock ∧ some k_ ≠ (v226 : Value).ownBlock ∧ some k_ ≠ (v9 : Value).ownBlock ∧ some k_ ≠ (v10 : Value).ownBlock ∧ some k_ ≠ (v11 : Value).ownBlock) v7 x7_1) ∧ Aside0 (Kd.R (Kd.int .i64) 3 w' w.heap.size (fun k_ => some k_ ≠ (v6 : Value).ownBlock ∧ some k_ ≠ (v7 : Value).ownBlock ∧ some k_ ≠ (v9 : Value).ownBlock ∧ some k_ ≠ (v10 : Value).ownBlock ∧ some k_ ≠ (v11 : Value).ownBlock) v226 x8_1) ∧ Aside0 (Kd.R (Kd.int .i64) 3 w' w.heap.size (fun k_ => some k_ ≠ (v6 : Value).ownBlock ∧ some k_ ≠ (v7 : Value).ownBlock ∧ some k_ ≠ (v226 : Value).ownBlock ∧ some k_ ≠ (v10 : Value).ownBlock ∧ some k_ ≠ (v11 : Value).ownBlock) v9 x9_1) ∧ Aside0 (Kd.R (Kd.int .i64) 3 w' w.heap.size (fun k_ => some k_ ≠ (v6 : Value).ownBlock ∧ some k_ ≠ (v7 : Value).ownBlock ∧ some k_ ≠ (v226 : Value).ownBlock ∧ some k_ ≠ (v9 : Value).ownBlock ∧ some k_ ≠ (v11 : Value).ownBlock) v10 x10_1) ∧ Aside0 (Kd.R (Kd.int .i64) 3 w' w.heap.size (fun k_ => some k_ ≠ (v6 : Value).ownBlock ∧ some k_ ≠ (v7 : Value).ownBlock ∧ some k_ ≠ (v226 : Value).ownBlock ∧ some k_ ≠ (v9 : Value).ownBlock ∧ some k_ ≠ (v10 : Value).ownBlock) v11 x11_1) ∧ Aside0 (w'.heap[gb218]? = some (.cells #[.string a0_0, (.slice A0_1 l0_1.length c0_1)] 25 (0, 0))) ∧ Aside0 (Below w.heap.size w w'))
   case atStart => exact ⟨(y219), (y222), (y225), (y228), (y231), (y234), (0), (0), rS, rS, H', ⟨Nat.le_refl _⟩, ⟨by (with_reducible repeat (first | apply Kd.R_alloc | apply Kd.R_drewN | apply Kd.R_drew)); exact Kd.R_mono HO221.out (fun _ hk => ⟨hk.1.1.1.1, ⟨hk.1.1.1.2, ⟨hk.1.1.2, ⟨hk.1.2, hk.2⟩⟩⟩⟩)⟩, ⟨by (with_reducible repeat (first | apply Kd.R_alloc | apply Kd.R_drewN | apply Kd.R_drew)); exact Kd.R_mono HO224.out (fun _ hk => ⟨hk.1.1.1.1, ⟨hk.1.1.1.2, ⟨hk.1.1.2, ⟨hk.1.2, hk.2⟩⟩⟩⟩)⟩, ⟨by (with_reducible repeat (first | apply Kd.R_alloc | apply Kd.R_drewN | apply Kd.R_drew)); exact Kd.R_mono HO227.out (fun _ hk => ⟨hk.1.1.1.1, ⟨hk.1.1.1.2, ⟨hk.1.1.2, ⟨hk.1.2, hk.2⟩⟩⟩⟩)⟩, ⟨by (with_reducible repeat (first | apply Kd.R_alloc | apply Kd.R_drewN | apply Kd.R_drew)); exact Kd.R_mono HO230.out (fun _ hk => ⟨hk.1.1.1.1.2, ⟨hk.1.1.1.2, ⟨hk.1.1.2, ⟨hk.1.2, hk.2⟩⟩⟩⟩)⟩, ⟨by (with_reducible repeat (first | apply Kd.R_alloc | apply Kd.R_drewN | apply Kd.R_drew)); exact Kd.R_mono HO233.out (fun _ hk => ⟨hk.1.1.1.1.2, ⟨hk.1.1.1.2, ⟨hk.1.1.2, ⟨hk.1.2, hk.2⟩⟩⟩⟩)⟩, ⟨by (with_reducible repeat (first | apply Kd.R_alloc | apply Kd.R_drewN | apply Kd.R_drew)); exact Kd.R_mono HO236.out (fun _ hk => ⟨hk.1.1.1.1.2, ⟨hk.1.1.1.2, ⟨hk.1.1.2, ⟨hk.1.2, hk.2⟩⟩⟩⟩)⟩, ⟨kU BK218.out⟩, ⟨bU1 HB.out GE218.out⟩⟩
   case round =>
    clear H'; (try clear c2); (try clear c2b0); (try clear c2b1); (try clear p2); (try clear c3); (try clear c3b0); (try clear c3b1); (try clear c6); (try clear hcz5_0); (try clear hcz5_1); (try clear hfz5_0); (try clear hfz5_1); obtain ⟨x6_1, x7_1, x8_1, x9_1, x10_1, x11_1, x12_1, x27_1, rfl, rfl, HA, HK1, HO_6, HO_7, HO_8, HO_9, HO_10, HO_11, BK218, HB⟩ := hrel
    cases gk with
    | zero => exact absurd HA.out (by simp [impl_walked.l0])
    | succ k1 =>
     have H := HA.out; clear HA; simp only [impl_walked.l0] at H
     by_cases c20 : x27_1 < (a0_0.size : Int)
     ·
      rw [if_pos c20] at H; have c20b0 := decide_eq_true c20; clear c20; obtain ⟨ji21, hji21⟩ : ∃ j_ : Int, (wrap64 ((x9_1.length : Int) - 1)) = j_ := ⟨_, rfl⟩
      replace H : (if 0 ≤ (ji21) then (if (ji21) < (x9_1.length : Int) then (if x6_1.length < 17592186044416 then ((some (x6_1 ++ [rd x9_1 (ji21)] : List Int)).bind fun y238 => (if (ji21) < (x10_1.length : Int) then (if x7_1.length < 17592186044416 then ((some (x7_1 ++ [rd x10_1 (ji21)] : List Int)).bind fun y242 => (if 0 ≤ x27_1 then (if x27_1 < (a0_0.size : Int) then (if (bt a0_0 x27_1) = 40 then (if x9_1.length < 17592186044416 then (if 0 ≤ x12_1 then (if x12_1 < (l0_1.length : Int) then (if x10_1.length < 17592186044416 then (if x11_1.length < 17592186044416 then (impl_walked.l0 k1 y238 y242 x8_1 (x9_1 ++ [wrap64 (x12_1 + 1)]) (x10_1 ++ [wrap64 ((rd x10_1 (ji21)) + (rd l0_1 x12_1))]) (x11_1 ++ [x27_1]) (wrap64 (x12_1 + 1)) (a0_0.size : Int) (wrap64 (x27_1 + 1)) a0_0 l0_1) else (none)) else (none)) else (none)) else (none)) else (none)) else (if (ji21) ≤ (x9_1.length : Int) then (if (ji21) ≤ (x10_1.length : Int) then (if 0 ≤ (wrap64 ((x11_1.length : Int) - 1)) then (if (wrap64 ((x11_1.length : Int) - 1)) < (x11_1.length : Int) then (if (wrap64 ((x11_1.length : Int) - 1)) ≤ (x11_1.length : Int) then (if x27_1 < (x8_1.length : Int) then (if 0 ≤ (rd x11_1 (wrap64 ((x11_1.length : Int) - 1))) then (if (rd x11_1 (wrap64 ((x11_1.length : Int) - 1))) < (x8_1.length : Int) then (impl_walked.l0 k1 y238 y242 ((x8_1.set (x27_1 : Int).toNat (rd x11_1 (wrap64 ((x11_1.length : Int) - 1)))).set ((rd x11_1 (wrap64 ((x11_1.length : Int) - 1))) : Int).toNat x27_1) (x9_1.take ((ji21) : Int).toNat) (x10_1.take ((ji21) : Int).toNat) (x11_1.take ((wrap64 ((x11_1.length : Int) - 1)) : Int).toNat) x12_1 (a0_0.size : Int) (wrap64 (x27_1 + 1)) a0_0 l0_1) else (none)) else (none)) else (none)) else (none)) else (none)) else (none)) else (none)) else (none))) else (none)) else (none))) else (none)) else (none))) else (none)) else (none)) else (none)) = some (r1, r2, r3) := by first | (rw [hji21] at H; exact H) | (simp only [hji21] at H ⊢; exact H)
      have hji21w : (IntKind.i64.wrap ((x9_1.length : Int) - 1)) = ji21 := (i64_w _).trans hji21
      by_cases c22 : 0 ≤ (ji21)
      ·
       rw [if_pos c22] at H; have c22b0 := decide_eq_true c22; clear c22
       by_cases c23 : (ji21) < (x9_1.length : Int)
       ·
        rw [if_pos c23] at H; have c23b0 := decide_eq_true c23; clear c23
        by_cases c24 : x6_1.length < 17592186044416
        ·
         rw [if_pos c24] at H; have LMc24 := Az c24; clear c24; obtain ⟨y238, hy238⟩ : ∃ y_ : List Int, y_ = (x6_1 ++ [rd x9_1 (ji21)]) := ⟨_, rfl⟩; replace H : (if (ji21) < (x10_1.length : Int) then (if x7_1.length < 17592186044416 then ((some (x7_1 ++ [rd x10_1 (ji21)] : List Int)).bind fun y242 => (if 0 ≤ x27_1 then (if x27_1 < (a0_0.size : Int) then (if (bt a0_0 x27_1) = 40 then (if x9_1.length < 17592186044416 then (if 0 ≤ x12_1 then (if x12_1 < (l0_1.length : Int) then (if x10_1.length < 17592186044416 then (if x11_1.length < 17592186044416 then (impl_walked.l0 k1 y238 y242 x8_1 (x9_1 ++ [wrap64 (x12_1 + 1)]) (x10_1 ++ [wrap64 ((rd x10_1 (ji21)) + (rd l0_1 x12_1))]) (x11_1 ++ [x27_1]) (wrap64 (x12_1 + 1)) (a0_0.size : Int) (wrap64 (x27_1 + 1)) a0_0 l0_1) else (none)) else (none)) else (none)) else (none)) else (none)) else (if (ji21) ≤ (x9_1.length : Int) then (if (ji21) ≤ (x10_1.length : Int) then (if 0 ≤ (wrap64 ((x11_1.length : Int) - 1)) then (if (wrap64 ((x11_1.length : Int) - 1)) < (x11_1.length : Int) then (if (wrap64 ((x11_1.length : Int) - 1)) ≤ (x11_1.length : Int) then (if x27_1 < (x8_1.length : Int) then (if 0 ≤ (rd x11_1 (wrap64 ((x11_1.length : Int) - 1))) then (if (rd x11_1 (wrap64 ((x11_1.length : Int) - 1))) < (x8_1.length : Int) then (impl_walked.l0 k1 y238 y242 ((x8_1.set (x27_1 : Int).toNat (rd x11_1 (wrap64 ((x11_1.length : Int) - 1)))).set ((rd x11_1 (wrap64 ((x11_1.length : Int) - 1))) : Int).toNat x27_1) (x9_1.take ((ji21) : Int).toNat) (x10_1.take ((ji21) : Int).toNat) (x11_1.take ((wrap64 ((x11_1.length : Int) - 1)) : Int).toNat) x12_1 (a0_0.size : Int) (wrap64 (x27_1 + 1)) a0_0 l0_1) else (none)) else (none)) else (none)) else (none)) else (none)) else (none)) else (none)) else (none))) else (none)) else (none))) else (none)) else (none)) = some (r1, r2, r3) := hR hy238 H; have Ny238 := Az hy238; clear hy238
         by_cases c25 : (ji21) < (x10_1.length : Int)
         ·
          rw [if_pos c25] at H; have c25b0 := decide_eq_true c25; clear c25
          by_cases c26 : x7_1.length < 17592186044416
          ·
           rw [if_pos c26] at H; have LMc26 := Az c26; clear c26; obtain ⟨y242, hy242⟩ : ∃ y_ : List Int, y_ = (x7_1 ++ [rd x10_1 (ji21)]) := ⟨_, rfl⟩; replace H : (if 0 ≤ x27_1 then (if x27_1 < (a0_0.size : Int) then (if (bt a0_0 x27_1) = 40 then (if x9_1.length < 17592186044416 then (if 0 ≤ x12_1 then (if x12_1 < (l0_1.length : Int) then (if x10_1.length < 17592186044416 then (if x11_1.length < 17592186044416 then (impl_walked.l0 k1 y238 y242 x8_1 (x9_1 ++ [wrap64 (x12_1 + 1)]) (x10_1 ++ [wrap64 ((rd x10_1 (ji21)) + (rd l0_1 x12_1))]) (x11_1 ++ [x27_1]) (wrap64 (x12_1 + 1)) (a0_0.size : Int) (wrap64 (x27_1 + 1)) a0_0 l0_1) else (none)) else (none)) else (none)) else (none)) else (none)) else (if (ji21) ≤ (x9_1.length : Int) then (if (ji21) ≤ (x10_1.length : Int) then (if 0 ≤ (wrap64 ((x11_1.length : Int) - 1)) then (if (wrap64 ((x11_1.length : Int) - 1)) < (x11_1.length : Int) then (if (wrap64 ((x11_1.length : Int) - 1)) ≤ (x11_1.length : Int) then (if x27_1 < (x8_1.length : Int) then (if 0 ≤ (rd x11_1 (wrap64 ((x11_1.length : Int) - 1))) then (if (rd x11_1 (wrap64 ((x11_1.length : Int) - 1))) < (x8_1.length : Int) then (impl_walked.l0 k1 y238 y242 ((x8_1.set (x27_1 : Int).toNat (rd x11_1 (wrap64 ((x11_1.length : Int) - 1)))).set ((rd x11_1 (wrap64 ((x11_1.length : Int) - 1))) : Int).toNat x27_1) (x9_1.take ((ji21) : Int).toNat) (x10_1.take ((ji21) : Int).toNat) (x11_1.take ((wrap64 ((x11_1.length : Int) - 1)) : Int).toNat) x12_1 (a0_0.size : Int) (wrap64 (x27_1 + 1)) a0_0 l0_1) else (none)) else (none)) else (none)) else (none)) else (none)) else (none)) else (none)) else (none))) else (none)) else (none)) = some (r1, r2, r3) := hR hy242 H; have Ny242 := Az hy242; clear hy242
           by_cases c27 : 0 ≤ x27_1
           ·
            rw [if_pos c27] at H; have c27b0 := decide_eq_true c27; clear c27
            by_cases c28 : x27_1 < (a0_0.size : Int)
            ·
             rw [if_pos c28] at H; have c28b0 := decide_eq_true c28; clear c28
             by_cases c30 : (bt a0_0 x27_1) = 40
             ·
              rw [if_pos c30] at H; have c30b0 := beq_iff_eq.mpr c30; have c30b1 := bne_eq_false_iff_eq.mpr c30; clear c30
              by_cases c31 : x9_1.length < 17592186044416
              ·
               rw [if_pos c31] at H; have LMc31 := Az c31; clear c31; obtain ⟨y245, hy245⟩ : ∃ y_ : List Int, y_ = (x9_1 ++ [wrap64 (x12_1 + 1)]) := ⟨_, rfl⟩; replace H : (if 0 ≤ x12_1 then (if x12_1 < (l0_1.length : Int) then (if x10_1.length < 17592186044416 then (if x11_1.length < 17592186044416 then (impl_walked.l0 k1 y238 y242 x8_1 y245 (x10_1 ++ [wrap64 ((rd x10_1 (ji21)) + (rd l0_1 x12_1))]) (x11_1 ++ [x27_1]) (wrap64 (x12_1 + 1)) (a0_0.size : Int) (wrap64 (x27_1 + 1)) a0_0 l0_1) else (none)) else (none)) else (none)) else (none)) = some (r1, r2, r3) := hR hy245 H; have Ny245 := Az hy245; clear hy245
               by_cases c32 : 0 ≤ x12_1
               ·
                rw [if_pos c32] at H; have c32b0 := decide_eq_true c32; clear c32
                by_cases c33 : x12_1 < (l0_1.length : Int)
                ·
                 rw [if_pos c33] at H; have c33b0 := decide_eq_true c33; clear c33
                 by_cases c34 : x10_1.length < 17592186044416
                 ·
                  rw [if_pos c34] at H; have LMc34 := Az c34; clear c34; obtain ⟨y250, hy250⟩ : ∃ y_ : List Int, y_ = (x10_1 ++ [wrap64 ((rd x10_1 (ji21)) + (rd l0_1 x12_1))]) := ⟨_, rfl⟩; replace H : (if x11_1.length < 17592186044416 then (impl_walked.l0 k1 y238 y242 x8_1 y245 y250 (x11_1 ++ [x27_1]) (wrap64 (x12_1 + 1)) (a0_0.size : Int) (wrap64 (x27_1 + 1)) a0_0 l0_1) else (none)) = some (r1, r2, r3) := hR hy250 H; have Ny250 := Az hy250; clear hy250
                  by_cases c35 : x11_1.length < 17592186044416
                  ·
                   rw [if_pos c35] at H; have LMc35 := Az c35; clear c35; obtain ⟨y253, hy253⟩ : ∃ y_ : List Int, y_ = (x11_1 ++ [x27_1]) := ⟨_, rfl⟩; replace H : (impl_walked.l0 k1 y238 y242 x8_1 y245 y250 y253 (wrap64 (x12_1 + 1)) (a0_0.size : Int) (wrap64 (x27_1 + 1)) a0_0 l0_1) = some (r1, r2, r3) := hR hy253 H; have Ny253 := Az hy253; clear hy253; have H' := Az H; clear H; obtain ⟨Ao36, co36, eo36⟩ := Kd.R_slice HO_9.out; subst eo36; have p237 : 0 ≤ ((ji21) : Int) := oA; have q237 : (ji21) < (x9_1.length : Int) := oA; obtain ⟨ad237, e237, hx237_0⟩ := Kd.at_int (Kd.R_reads' HO_9.out).2.2 (ji21) p237 q237
                   cases e237
                   replace p237 := eq_true p237; replace q237 := eq_true q237
                   try go_wp2_with (first | ((with_reducible refine gate_builtin (b := .append) (xs := #[.tmp 33, .tmp 38]) rfl ?_); at_builtin; refine Kd.R_append (Kd.int .i64) (w0 := w) w.heap.size rfl (.tmp 33) (.tmp 38) 23 3 (.int .i64 0) 8 rfl Try.underlying23 info3 rfl (by decide) (by omega) u6 x6_1 (rd x9_1 (ji21)) [.int .i64 (rd x9_1 (ji21))] (fun k_ => some k_ ≠ (u7 : Value).ownBlock ∧ some k_ ≠ (v226 : Value).ownBlock ∧ some k_ ≠ (.slice (some ad237) x9_1.length co36 : Value).ownBlock ∧ some k_ ≠ (u10 : Value).ownBlock ∧ some k_ ≠ (u11 : Value).ownBlock) (fun _ => False) rfl rfl ?aP (fun _ hk => hk.elim) ?aF ?aO ?aB ?aS ?aL ?_; (case aP => exact rfl); (case aB => exact (bU1 HB.out GE218.out)); (case aF => exact (fun k_ hk => ⟨Kd.fresh' (Kd.R_lt (rU HO_7.out)) k_ hk, Kd.fresh' (Kd.R_lt (rU HO_8.out)) k_ hk, Kd.fresh' (Kd.R_lt (rU HO_9.out)) k_ hk, Kd.fresh' (Kd.R_lt (rU HO_10.out)) k_ hk, Kd.fresh' (Kd.R_lt (rU HO_11.out)) k_ hk⟩)); (case aO => exact (rU HO_6.out)); (case aS => exact (below_size (bU1 HB.out GE218.out))); (case aL => have := LMc24.out; omega); intro v239 w37 ho hb hg hat; rw [← Ny238.out] at ho; have n0 := Az (Kd.R_after (ok := (fun k_ => some k_ ≠ (v226 : Value).ownBlock ∧ some k_ ≠ (.slice (some ad237) x9_1.length co36 : Value).ownBlock ∧ some k_ ≠ (u10 : Value).ownBlock ∧ some k_ ≠ (u11 : Value).ownBlock)) (by (with_reducible repeat (first | apply Kd.R_alloc | apply Kd.R_drewN | apply Kd.R_drew)); exact Kd.R_mono HO_7.out (fun _ hk => ⟨⟨hk.2.1, ⟨hk.2.2.1, ⟨hk.2.2.2.1, hk.2.2.2.2⟩⟩⟩, hk.1⟩)) hg hat); have n1 := Az (Kd.R_after (ok := (fun k_ => some k_ ≠ (u7 : Value).ownBlock ∧ some k_ ≠ (.slice (some ad237) x9_1.length co36 : Value).ownBlock ∧ some k_ ≠ (u10 : Value).ownBlock ∧ some k_ ≠ (u11 : Value).ownBlock)) (by (with_reducible repeat (first | apply Kd.R_alloc | apply Kd.R_drewN | apply Kd.R_drew)); exact Kd.R_mono HO_8.out (fun _ hk => ⟨⟨hk.2.1, ⟨hk.2.2.1, ⟨hk.2.2.2.1, hk.2.2.2.2⟩⟩⟩, hk.1⟩)) hg hat); have n2 := Az (Kd.R_after (ok := (fun k_ => some k_ ≠ (u7 : Value).ownBlock ∧ some k_ ≠ (v226 : Value).ownBlock ∧ some k_ ≠ (u10 : Value).ownBlock ∧ some k_ ≠ (u11 : Value).ownBlock)) (by (with_reducible repeat (first | apply Kd.R_alloc | apply Kd.R_drewN | apply Kd.R_drew)); exact Kd.R_mono HO_9.out (fun _ hk => ⟨⟨hk.2.1, ⟨hk.2.2.1, ⟨hk.2.2.2.1, hk.2.2.2.2⟩⟩⟩, hk.1⟩)) hg hat); have n3 := Az (Kd.R_after (ok := (fun k_ => some k_ ≠ (u7 : Value).ownBlock ∧ some k_ ≠ (v226 : Value).ownBlock ∧ some k_ ≠ (.slice (some ad237) x9_1.length co36 : Value).ownBlock ∧ some k_ ≠ (u11 : Value).ownBlock)) (by (with_reducible repeat (first | apply Kd.R_alloc | apply Kd.R_drewN | apply Kd.R_drew)); exact Kd.R_mono HO_10.out (fun _ hk => ⟨⟨hk.2.1, ⟨hk.2.2.1, ⟨hk.2.2.2.1, hk.2.2.2.2⟩⟩⟩, hk.1⟩)) hg hat); have n4 := Az (Kd.R_after (ok := (fun k_ => some k_ ≠ (u7 : Value).ownBlock ∧ some k_ ≠ (v226 : Value).ownBlock ∧ some k_ ≠ (.slice (some ad237) x9_1.length co36 : Value).ownBlock ∧ some k_ ≠ (u10 : Value).ownBlock)) (by (with_reducible repeat (first | apply Kd.R_alloc | apply Kd.R_drewN | apply Kd.R_drew)); exact Kd.R_mono HO_11.out (fun _ hk => ⟨⟨hk.2.1, ⟨hk.2.2.1, ⟨hk.2.2.2.1, hk.2.2.2.2⟩⟩⟩, hk.1⟩)) hg hat); have n5 := Az (blk_grown (g := gb218) (o := .cells #[.string a0_0, .slice A0_1 l0_1.length c0_1] 25 (0, 0)) (kU BK218.out) hg (Kd.R_ne HO_6.out BK218.out (by decide))); have n6 := Az (hb); have n7 := Az (ho); clear HO_7 HO_8 HO_9 HO_10 HO_11 BK218 HB HO_6; have HO_7 := n0; have HO_8 := n1; have HO_9 := n2; have HO_10 := n3; have HO_11 := n4; have BK218 := n5; have HB := n6; have HO240 := n7; clear n0 n1 n2 n3 n4 n5 n6 n7 ho hb hg hat; obtain ⟨Ao38, co38, eo38⟩ := Kd.R_slice HO_10.out; subst eo38; have p241 : 0 ≤ ((ji21) : Int) := oA; have q241 : (ji21) < (x10_1.length : Int) := oA; obtain ⟨ad241, e241, hx241_0⟩ := Kd.at_int (Kd.R_reads' HO_10.out).2.2 (ji21) p241 q241; cases e241; replace p241 := eq_true p241; replace q241 := eq_true q241) | ((with_reducible refine gate_builtin (b := .append) (xs := #[.tmp 40, .tmp 45]) rfl ?_); at_builtin; refine Kd.R_append (Kd.int .i64) (w0 := w) w.heap.size rfl (.tmp 40) (.tmp 45) 23 3 (.int .i64 0) 8 rfl Try.underlying23 info3 rfl (by decide) (by omega) u7 x7_1 (rd x10_1 (ji21)) [.int .i64 (rd x10_1 (ji21))] (fun k_ => some k_ ≠ (v226 : Value).ownBlock ∧ some k_ ≠ (.slice (some ad237) x9_1.length co36 : Value).ownBlock ∧ some k_ ≠ (.slice (some ad241) x10_1.length co38 : Value).ownBlock ∧ some k_ ≠ (u11 : Value).ownBlock ∧ some k_ ≠ (v239 : Value).ownBlock) (fun _ => False) rfl rfl ?aP (fun _ hk => hk.elim) ?aF ?aO ?aB ?aS ?aL ?_; (case aP => exact rfl); (case aB => exact (bU1 HB.out GE218.out)); (case aF => exact (fun k_ hk => ⟨Kd.fresh' (Kd.R_lt (rU HO_8.out)) k_ hk, Kd.fresh' (Kd.R_lt (rU HO_9.out)) k_ hk, Kd.fresh' (Kd.R_lt (rU HO_10.out)) k_ hk, Kd.fresh' (Kd.R_lt (rU HO_11.out)) k_ hk, Kd.fresh' (Kd.R_lt (rU HO240.out)) k_ hk⟩)); (case aO => exact (by (with_reducible repeat (first | apply Kd.R_alloc | apply Kd.R_drewN | apply Kd.R_drew)); exact Kd.R_mono HO_7.out (fun _ hk => ⟨hk.1.1, ⟨hk.1.2.1, ⟨hk.1.2.2.1, ⟨hk.1.2.2.2, hk.2⟩⟩⟩⟩))); (case aS => exact (below_size (bU1 HB.out GE218.out))); (case aL => have := LMc26.out; omega); intro v243 w39 ho hb hg hat; rw [← Ny242.out] at ho; have n0 := Az (Kd.R_after (ok := (fun k_ => some k_ ≠ (.slice (some ad237) x9_1.length co36 : Value).ownBlock ∧ some k_ ≠ (.slice (some ad241) x10_1.length co38 : Value).ownBlock ∧ some k_ ≠ (u11 : Value).ownBlock ∧ some k_ ≠ (v239 : Value).ownBlock)) (by (with_reducible repeat (first | apply Kd.R_alloc | apply Kd.R_drewN | apply Kd.R_drew)); exact Kd.R_mono HO_8.out (fun _ hk => ⟨⟨hk.1.2.1, ⟨hk.1.2.2.1, ⟨hk.1.2.2.2, hk.2⟩⟩⟩, hk.1.1⟩)) hg hat); have n1 := Az (Kd.R_after (ok := (fun k_ => some k_ ≠ (v226 : Value).ownBlock ∧ some k_ ≠ (.slice (some ad241) x10_1.length co38 : Value).ownBlock ∧ some k_ ≠ (u11 : Value).ownBlock ∧ some k_ ≠ (v239 : Value).ownBlock)) (by (with_reducible repeat (first | apply Kd.R_alloc | apply Kd.R_drewN | apply Kd.R_drew)); exact Kd.R_mono HO_9.out (fun _ hk => ⟨⟨hk.1.2.1, ⟨hk.1.2.2.1, ⟨hk.1.2.2.2, hk.2⟩⟩⟩, hk.1.1⟩)) hg hat); have n2 := Az (Kd.R_after (ok := (fun k_ => some k_ ≠ (v226 : Value).ownBlock ∧ some k_ ≠ (.slice (some ad237) x9_1.length co36 : Value).ownBlock ∧ some k_ ≠ (u11 : Value).ownBlock ∧ some k_ ≠ (v239 : Value).ownBlock)) (by (with_reducible repeat (first | apply Kd.R_alloc | apply Kd.R_drewN | apply Kd.R_drew)); exact Kd.R_mono HO_10.out (fun _ hk => ⟨⟨hk.1.2.1, ⟨hk.1.2.2.1, ⟨hk.1.2.2.2, hk.2⟩⟩⟩, hk.1.1⟩)) hg hat); have n3 := Az (Kd.R_after (ok := (fun k_ => some k_ ≠ (v226 : Value).ownBlock ∧ some k_ ≠ (.slice (some ad237) x9_1.length co36 : Value).ownBlock ∧ some k_ ≠ (.slice (some ad241) x10_1.length co38 : Value).ownBlock ∧ some k_ ≠ (v239 : Value).ownBlock)) (by (with_reducible repeat (first | apply Kd.R_alloc | apply Kd.R_drewN | apply Kd.R_drew)); exact Kd.R_mono HO_11.out (fun _ hk => ⟨⟨hk.1.2.1, ⟨hk.1.2.2.1, ⟨hk.1.2.2.2, hk.2⟩⟩⟩, hk.1.1⟩)) hg hat); have n4 := Az (blk_grown (g := gb218) (o := .cells #[.string a0_0, .slice A0_1 l0_1.length c0_1] 25 (0, 0)) (kU BK218.out) hg (Kd.R_ne HO_7.out BK218.out (by decide))); have n5 := Az (Kd.R_after (ok := (fun k_ => some k_ ≠ (v226 : Value).ownBlock ∧ some k_ ≠ (.slice (some ad237) x9_1.length co36 : Value).ownBlock ∧ some k_ ≠ (.slice (some ad241) x10_1.length co38 : Value).ownBlock ∧ some k_ ≠ (u11 : Value).ownBlock)) (by (with_reducible repeat (first | apply Kd.R_alloc | apply Kd.R_drewN | apply Kd.R_drew)); exact Kd.R_mono HO240.out (fun _ hk => ⟨⟨hk.2.1, ⟨hk.2.2.1, ⟨hk.2.2.2.1, hk.2.2.2.2⟩⟩⟩, hk.1⟩)) hg hat); have n6 := Az (hb); have n7 := Az (ho); clear HO_8 HO_9 HO_10 HO_11 BK218 HO240 HB HO_7; have HO_8 := n0; have HO_9 := n1; have HO_10 := n2; have HO_11 := n3; have BK218 := n4; have HO240 := n5; have HB := n6; have HO244 := n7; clear n0 n1 n2 n3 n4 n5 n6 n7 ho hb hg hat; have hcz40_0 : w39.cell? ⟨gb218, 0, none⟩ = some (.string a0_0) := (blk_cell BK218.out 0).trans rfl; have hcz40_1 : w39.cell? ⟨gb218, 1, none⟩ = some (.slice A0_1 l0_1.length c0_1) := (blk_cell BK218.out 1).trans rfl; have hfz40_0 := blk_frozen BK218.out 0; have hfz40_1 := blk_frozen BK218.out 1; have p29 : 0 ≤ (x27_1 : Int) := oA; have q29 : x27_1 < (a0_0.size : Int) := oA; have hx29 := bt_at a0_0 x27_1; replace p29 := eq_true p29; replace q29 := eq_true q29) | ((with_reducible refine gate_builtin (b := .append) (xs := #[.tmp 52, .tmp 55]) rfl ?_); at_builtin; refine Kd.R_append (Kd.int .i64) (w0 := w) w.heap.size rfl (.tmp 52) (.tmp 55) 23 3 (.int .i64 0) 8 rfl Try.underlying23 info3 rfl (by decide) (by omega) (.slice (some ad237) x9_1.length co36) x9_1 (wrap64 (x12_1 + 1)) [.int .i64 (wrap64 (x12_1 + 1))] (fun k_ => some k_ ≠ (v226 : Value).ownBlock ∧ some k_ ≠ (.slice (some ad241) x10_1.length co38 : Value).ownBlock ∧ some k_ ≠ (u11 : Value).ownBlock ∧ some k_ ≠ (v239 : Value).ownBlock ∧ some k_ ≠ (v243 : Value).ownBlock) (fun _ => False) rfl rfl ?aP (fun _ hk => hk.elim) ?aF ?aO ?aB ?aS ?aL ?_; (case aP => exact rfl); (case aB => exact (bU1 HB.out GE218.out)); (case aF => exact (fun k_ hk => ⟨Kd.fresh' (Kd.R_lt (rU HO_8.out)) k_ hk, Kd.fresh' (Kd.R_lt (rU HO_10.out)) k_ hk, Kd.fresh' (Kd.R_lt (rU HO_11.out)) k_ hk, Kd.fresh' (Kd.R_lt (rU HO240.out)) k_ hk, Kd.fresh' (Kd.R_lt (rU HO244.out)) k_ hk⟩)); (case aO => exact (by (with_reducible repeat (first | apply Kd.R_alloc | apply Kd.R_drewN | apply Kd.R_drew)); exact Kd.R_mono HO_9.out (fun _ hk => ⟨hk.1.1, ⟨hk.1.2.1, ⟨hk.1.2.2.1, ⟨hk.1.2.2.2, hk.2⟩⟩⟩⟩))); (case aS => exact (below_size (bU1 HB.out GE218.out))); (case aL => have := LMc31.out; omega); intro v246 w41 ho hb hg hat; rw [← Ny245.out] at ho; have n0 := Az (Kd.R_after (ok := (fun k_ => some k_ ≠ (.slice (some ad241) x10_1.length co38 : Value).ownBlock ∧ some k_ ≠ (u11 : Value).ownBlock ∧ some k_ ≠ (v239 : Value).ownBlock ∧ some k_ ≠ (v243 : Value).ownBlock)) (by (with_reducible repeat (first | apply Kd.R_alloc | apply Kd.R_drewN | apply Kd.R_drew)); exact Kd.R_mono HO_8.out (fun _ hk => ⟨⟨hk.1.2.1, ⟨hk.1.2.2.1, ⟨hk.1.2.2.2, hk.2⟩⟩⟩, hk.1.1⟩)) hg hat); have n1 := Az (Kd.R_after (ok := (fun k_ => some k_ ≠ (v226 : Value).ownBlock ∧ some k_ ≠ (u11 : Value).ownBlock ∧ some k_ ≠ (v239 : Value).ownBlock ∧ some k_ ≠ (v243 : Value).ownBlock)) (by (with_reducible repeat (first | apply Kd.R_alloc | apply Kd.R_drewN | apply Kd.R_drew)); exact Kd.R_mono HO_10.out (fun _ hk => ⟨⟨hk.1.1, ⟨hk.1.2.2.1, ⟨hk.1.2.2.2, hk.2⟩⟩⟩, hk.1.2.1⟩)) hg hat); have n2 := Az (Kd.R_after (ok := (fun k_ => some k_ ≠ (v226 : Value).ownBlock ∧ some k_ ≠ (.slice (some ad241) x10_1.length co38 : Value).ownBlock ∧ some k_ ≠ (v239 : Value).ownBlock ∧ some k_ ≠ (v243 : Value).ownBlock)) (by (with_reducible repeat (first | apply Kd.R_alloc | apply Kd.R_drewN | apply Kd.R_drew)); exact Kd.R_mono HO_11.out (fun _ hk => ⟨⟨hk.1.1, ⟨hk.1.2.2.1, ⟨hk.1.2.2.2, hk.2⟩⟩⟩, hk.1.2.1⟩)) hg hat); have n3 := Az (blk_grown (g := gb218) (o := .cells #[.string a0_0, .slice A0_1 l0_1.length c0_1] 25 (0, 0)) (kU BK218.out) hg (Kd.R_ne HO_9.out BK218.out (by decide))); have n4 := Az (Kd.R_after (ok := (fun k_ => some k_ ≠ (v226 : Value).ownBlock ∧ some k_ ≠ (.slice (some ad241) x10_1.length co38 : Value).ownBlock ∧ some k_ ≠ (u11 : Value).ownBlock ∧ some k_ ≠ (v243 : Value).ownBlock)) (by (with_reducible repeat (first | apply Kd.R_alloc | apply Kd.R_drewN | apply Kd.R_drew)); exact Kd.R_mono HO240.out (fun _ hk => ⟨⟨hk.1.1, ⟨hk.1.2.2.1, ⟨hk.1.2.2.2, hk.2⟩⟩⟩, hk.1.2.1⟩)) hg hat); have n5 := Az (Kd.R_after (ok := (fun k_ => some k_ ≠ (v226 : Value).ownBlock ∧ some k_ ≠ (.slice (some ad241) x10_1.length co38 : Value).ownBlock ∧ some k_ ≠ (u11 : Value).ownBlock ∧ some k_ ≠ (v239 : Value).ownBlock)) (by (with_reducible repeat (first | apply Kd.R_alloc | apply Kd.R_drewN | apply Kd.R_drew)); exact Kd.R_mono HO244.out (fun _ hk => ⟨⟨hk.1, ⟨hk.2.2.1, ⟨hk.2.2.2.1, hk.2.2.2.2⟩⟩⟩, hk.2.1⟩)) hg hat); have n6 := Az (hb); have n7 := Az (ho); clear HO_8 HO_10 HO_11 BK218 HO240 HO244 HB HO_9; have HO_8 := n0; have HO_10 := n1; have HO_11 := n2; have BK218 := n3; have HO240 := n4; have HO244 := n5; have HB := n6; have HO247 := n7; clear n0 n1 n2 n3 n4 n5 n6 n7; clear ho hb hg hat))
                   have n0 := Az (Kd.R_drew HO_8.out); have n1 := Az (Kd.R_drew HO_10.out); have n2 := Az (Kd.R_drew HO_11.out); have n3 := Az (Kd.R_drew HO240.out); have n4 := Az (Kd.R_drew HO244.out); have n5 := Az (Kd.R_drew HO247.out); have n6 := Az (blk_drew BK218.out); have n7 := Az (below_drew1 HB.out); clear HO_8 HO_10 HO_11 HO240 HO244 HO247 BK218 HB; have HO_8 := n0; have HO_10 := n1; have HO_11 := n2; have HO240 := n3; have HO244 := n4; have HO247 := n5; have BK218 := n6; have HB := n7; clear n0 n1 n2 n3 n4 n5 n6 n7; have p248 : 0 ≤ ((ji21) : Int) := oA; have q248 : (ji21) < (x10_1.length : Int) := oA; obtain ⟨ad248, e248, hx248_0⟩ := Kd.at_int (Kd.R_reads' HO_10.out).2.2 (ji21) p248 q248; obtain rfl : ad241 = ad248 := (by injection e248); replace p248 := eq_true p248; replace q248 := eq_true q248; have p249 : 0 ≤ (x12_1 : Int) := oA; have q249 : x12_1 < (l0_1.length : Int) := oA; obtain ⟨ad249, e249, hx249_0⟩ := Kd.at_int HR0_1.out x12_1 p249 q249; have hw249_0 := hx249_0
                   cases e249
                   (try replace hx249_0 := (HB.out.cell (World.block_lt_of_cell? w _ hx249_0)).trans hx249_0); replace p249 := eq_true p249; replace q249 := eq_true q249
                   refine start_ (n := 14) (S := fun w' => w'.cell? ⟨gb218, 0, none⟩ = some (.string a0_0) ∧ w'.cell? ⟨gb218, 1, none⟩ = some (.slice (some ad249) l0_1.length c0_1) ∧ w'.cell? (ad241.add ((ji21)).toNat) = some (.int .i64 (rd x10_1 (ji21))) ∧ w'.cell? (ad249.add (x12_1).toNat) = some (.int .i64 (rd l0_1 x12_1))) (ds := [11, 12]) #[false, false, false, false, false, false, false, false, false, false, false, false, false, false] (by kernel_rfl) rfl rfl ⟨(blk_cell BK218.out 0).trans rfl, (blk_cell BK218.out 1).trans rfl, hx248_0, (by first | exact hw249_0 | exact (HB.out.cell (World.block_lt_of_cell? w _ hw249_0)).trans hw249_0)⟩ (fun hHeld => ?_); refine with_tabW impl_walked.tab13 impl_walked.bits13 (fun HT_ HW_ => ?_)
                   generalize w41.drew = w42 at HO_8 HO_10 HO_11 HO240 HO244 HO247 BK218 HB hx248_0 hx249_0 hHeld ⊢
                   refine pure_ (i := 0) (N := some 57) (v := ?_) (a' := ?_) #[true, false, false, false, false, false, false, false, false, false, false, false, false, false] rfl rfl (any_of HT_.out (by kernel_rfl)) (fun _ _ _ h => h) (Or.inl ⟨by rfl, ?_⟩) ?_ ?_
                   rotate_left
                   ·
                    intro w'
                    go_simp
                    with_reducible rfl
                   rotate_left
                   ·
                    simp only [Act.put, List.setIfInBounds_toArray, List.set_cons_zero, List.set_cons_succ, i64_w, i32_w]
                    rfl
                   refine pure_ (i := 1) (N := some 58) (v := ?_) (a' := ?_) #[true, true, false, false, false, false, false, false, false, false, false, false, false, false] rfl rfl (any_of HT_.out (by kernel_rfl)) (fun _ _ _ h => h) (Or.inl ⟨by rfl, ?_⟩) ?_ ?_
                   rotate_left
                   ·
                    intro w'
                    go_simp
                    with_reducible rfl
                   rotate_left
                   ·
                    simp only [Act.put, List.setIfInBounds_toArray, List.set_cons_zero, List.set_cons_succ, i64_w, i32_w]
                    rfl
                   refine pure_ (i := 2) (N := some 59) (v := ?_) (a' := ?_) #[true, true, true, false, false, false, false, false, false, false, false, false, false, false] rfl rfl (any_of HT_.out (by kernel_rfl)) (fun _ _ _ h => h) (Or.inl ⟨by rfl, ?_⟩) ?_ ?_
                   rotate_left
                   ·
                    intro w'
                    go_simp
                    with_reducible rfl
                   rotate_left
                   ·
                    simp only [Act.put, List.setIfInBounds_toArray, List.set_cons_zero, List.set_cons_succ, i64_w, i32_w]
                    rfl
                   refine pure_ (i := 3) (N := some 60) (v := ?_) (a' := ?_) #[true, true, true, true, false, false, false, false, false, false, false, false, false, false] rfl rfl (any_of HT_.out (by kernel_rfl)) (fun _ _ _ h => h) (Or.inl ⟨by rfl, ?_⟩) ?_ ?_
                   rotate_left
                   ·
                    intro w'
                    go_simp
                    with_reducible rfl
                   rotate_left
                   ·
                    simp only [Act.put, List.setIfInBounds_toArray, List.set_cons_zero, List.set_cons_succ, i64_w, i32_w]
                    rfl
                   refine pure_ (i := 5) (N := some 62) (v := ?_) (a' := ?_) #[true, true, true, true, false, true, false, false, false, false, false, false, false, false] rfl rfl (any_of HT_.out (by kernel_rfl)) (fun _ _ _ h => h) (Or.inl ⟨by rfl, ?_⟩) ?_ ?_
                   rotate_left
                   ·
                    intro w'
                    go_simp
                    with_reducible rfl
                   rotate_left
                   ·
                    simp only [Act.put, List.setIfInBounds_toArray, List.set_cons_zero, List.set_cons_succ, i64_w, i32_w]
                    rfl
                   refine pure_ (i := 7) (N := some 64) (v := ?_) (a' := ?_) #[true, true, true, true, false, true, false, true, false, false, false, false, false, false] rfl rfl (any_of HT_.out (by kernel_rfl)) (fun _ _ _ h => h) (Or.inl ⟨by rfl, ?_⟩) ?_ ?_
                   rotate_left
                   ·
                    intro w'
                    go_simp
                    with_reducible rfl
                   rotate_left
                   ·
                    simp only [Act.put, List.setIfInBounds_toArray, List.set_cons_zero, List.set_cons_succ, i64_w, i32_w]
                    rfl
                   refine take_ (i := 4) (N := some 61) (v := ?_) (a' := ?_) #[true, true, true, true, true, true, false, true, false, false, false, false, false, false] rfl rfl (take_ofW HT_.out HW_.out (by kernel_rfl)) (fun _ _ _ h => h) (Or.inl ⟨by rfl, ?_⟩) hHeld ?_ ?_
                   rotate_left
                   ·
                    rintro w' ⟨s0, s1, s2, s3⟩
                    go_simp
                    with_reducible rfl
                   rotate_left
                   ·
                    simp only [Act.put, List.setIfInBounds_toArray, List.set_cons_zero, List.set_cons_succ, i64_w, i32_w]
                    rfl
                   refine take_ (i := 6) (N := some 63) (v := ?_) (a' := ?_) #[true, true, true, true, true, true, true, true, false, false, false, false, false, false] rfl rfl (take_ofW HT_.out HW_.out (by kernel_rfl)) (fun _ _ _ h => h) (Or.inl ⟨by rfl, ?_⟩) hHeld ?_ ?_
                   rotate_left
                   ·
                    rintro w' ⟨s0, s1, s2, s3⟩
                    go_simp
                    with_reducible rfl
                   rotate_left
                   ·
                    simp only [Act.put, List.setIfInBounds_toArray, List.set_cons_zero, List.set_cons_succ, i64_w, i32_w]
                    rfl
                   refine pure_ (i := 8) (N := some 65) (v := ?_) (a' := ?_) #[true, true, true, true, true, true, true, true, true, false, false, false, false, false] rfl rfl (any_of HT_.out (by kernel_rfl)) (fun _ _ _ h => h) (Or.inl ⟨by rfl, ?_⟩) ?_ ?_
                   rotate_left
                   ·
                    intro w'
                    go_simp
                    with_reducible rfl
                   rotate_left
                   ·
                    simp only [Act.put, List.setIfInBounds_toArray, List.set_cons_zero, List.set_cons_succ, i64_w, i32_w]
                    rfl
                   refine take_ (i := 9) (N := some 66) (v := ?_) (a' := ?_) #[true, true, true, true, true, true, true, true, true, true, false, false, false, false] rfl rfl (take_ofW HT_.out HW_.out (by kernel_rfl)) (fun _ _ _ h => h) (Or.inl ⟨by rfl, ?_⟩) hHeld ?_ ?_
                   rotate_left
                   ·
                    rintro w' ⟨s0, s1, s2, s3⟩
                    go_simp
                    with_reducible rfl
                   rotate_left
                   ·
                    simp only [Act.put, List.setIfInBounds_toArray, List.set_cons_zero, List.set_cons_succ, i64_w, i32_w]
                    rfl
                   refine pure_ (i := 10) (N := some 67) (v := ?_) (a' := ?_) #[true, true, true, true, true, true, true, true, true, true, true, false, false, false] rfl rfl (any_of HT_.out (by kernel_rfl)) (fun _ _ _ h => h) (Or.inl ⟨by rfl, ?_⟩) ?_ ?_
                   rotate_left
                   ·
                    intro w'
                    go_simp
                    with_reducible rfl
                   rotate_left
                   ·
                    simp only [Act.put, List.setIfInBounds_toArray, List.set_cons_zero, List.set_cons_succ, i64_w, i32_w]
                    rfl
                   refine last_ (i := 11) (N := some 68) #[true, true, true, true, true, true, true, true, true, true, true, true, false, false] rfl rfl (one_of HT_.out (by kernel_rfl)) (by decide) (fun K hK => ?_)
                   refine value_ (w1 := ?_) (v := ?_) (by rfl) rfl ?_ ?_
                   rotate_left 2
                   ·
                    go_simp
                    constructor
                    ·
                     rfl
                    ·
                     rfl
                   refine hK.out _ _ ?_
                   clear hK K
                   refine norm_ (a' := ?_) ?_ ?_
                   rotate_left
                   ·
                    show Act.put _ (some 68) _ = _
                    simp only [Act.put, List.setIfInBounds_toArray, List.set_cons_zero, List.set_cons_succ, i64_w, i32_w]
                    rfl
                   refine last_ (i := 12) (N := some 69) #[true, true, true, true, true, true, true, true, true, true, true, true, true, false] rfl rfl (one_of HT_.out (by kernel_rfl)) (by decide) (fun K hK => ?_)
                   refine Kd.R_append_step (Kd.int .i64) (w0 := w) w.heap.size (by rfl) (.tmp 57) (.tmp 68) 23 3 (.int .i64 0) 8 rfl Try.underlying23 info3 rfl (by decide) (by omega) (.slice (some ad241) x10_1.length co38) x10_1 (wrap64 ((rd x10_1 (ji21)) + (rd l0_1 x12_1))) [.int .i64 (wrap64 ((rd x10_1 (ji21)) + (rd l0_1 x12_1)))] (fun k_ => some k_ ≠ (v226 : Value).ownBlock ∧ some k_ ≠ (u11 : Value).ownBlock ∧ some k_ ≠ (v239 : Value).ownBlock ∧ some k_ ≠ (v243 : Value).ownBlock ∧ some k_ ≠ (v246 : Value).ownBlock) (fun _ => False) rfl rfl ?aP (fun _ hk => hk.elim) ?aF ?aO ?aB ?aS ?aL ?_
                   (case aP => exact rfl)
                   (case aB => exact (bU1 HB.out GE218.out))
                   (case aF => exact (fun k_ hk => ⟨Kd.fresh' (Kd.R_lt (rU HO_8.out)) k_ hk, Kd.fresh' (Kd.R_lt (rU HO_11.out)) k_ hk, Kd.fresh' (Kd.R_lt (rU HO240.out)) k_ hk, Kd.fresh' (Kd.R_lt (rU HO244.out)) k_ hk, Kd.fresh' (Kd.R_lt (rU HO247.out)) k_ hk⟩))
                   (case aO => exact (by (with_reducible repeat (first | apply Kd.R_alloc | apply Kd.R_drewN | apply Kd.R_drew)); exact Kd.R_mono HO_10.out (fun _ hk => ⟨hk.1.1, ⟨hk.1.2.1, ⟨hk.1.2.2.1, ⟨hk.1.2.2.2, hk.2⟩⟩⟩⟩)))
                   (case aS => exact (below_size (bU1 HB.out GE218.out)))
                   (case aL => have := LMc34.out; omega)
                   intro v251 w43 ho hb hg hat
                   rw [← Ny250.out] at ho; have n0 := Az (Kd.R_after (ok := (fun k_ => some k_ ≠ (u11 : Value).ownBlock ∧ some k_ ≠ (v239 : Value).ownBlock ∧ some k_ ≠ (v243 : Value).ownBlock ∧ some k_ ≠ (v246 : Value).ownBlock)) (by (with_reducible repeat (first | apply Kd.R_alloc | apply Kd.R_drewN | apply Kd.R_drew)); exact Kd.R_mono HO_8.out (fun _ hk => ⟨⟨hk.1.2.1, ⟨hk.1.2.2.1, ⟨hk.1.2.2.2, hk.2⟩⟩⟩, hk.1.1⟩)) hg hat); have n1 := Az (Kd.R_after (ok := (fun k_ => some k_ ≠ (v226 : Value).ownBlock ∧ some k_ ≠ (v239 : Value).ownBlock ∧ some k_ ≠ (v243 : Value).ownBlock ∧ some k_ ≠ (v246 : Value).ownBlock)) (by (with_reducible repeat (first | apply Kd.R_alloc | apply Kd.R_drewN | apply Kd.R_drew)); exact Kd.R_mono HO_11.out (fun _ hk => ⟨⟨hk.1.1, ⟨hk.1.2.2.1, ⟨hk.1.2.2.2, hk.2⟩⟩⟩, hk.1.2.1⟩)) hg hat); have n2 := Az (blk_grown (g := gb218) (o := .cells #[.string a0_0, .slice (some ad249) l0_1.length c0_1] 25 (0, 0)) (kU BK218.out) hg (Kd.R_ne HO_10.out BK218.out (by decide))); have n3 := Az (Kd.R_after (ok := (fun k_ => some k_ ≠ (v226 : Value).ownBlock ∧ some k_ ≠ (u11 : Value).ownBlock ∧ some k_ ≠ (v243 : Value).ownBlock ∧ some k_ ≠ (v246 : Value).ownBlock)) (by (with_reducible repeat (first | apply Kd.R_alloc | apply Kd.R_drewN | apply Kd.R_drew)); exact Kd.R_mono HO240.out (fun _ hk => ⟨⟨hk.1.1, ⟨hk.1.2.2.1, ⟨hk.1.2.2.2, hk.2⟩⟩⟩, hk.1.2.1⟩)) hg hat); have n4 := Az (Kd.R_after (ok := (fun k_ => some k_ ≠ (v226 : Value).ownBlock ∧ some k_ ≠ (u11 : Value).ownBlock ∧ some k_ ≠ (v239 : Value).ownBlock ∧ some k_ ≠ (v246 : Value).ownBlock)) (by (with_reducible repeat (first | apply Kd.R_alloc | apply Kd.R_drewN | apply Kd.R_drew)); exact Kd.R_mono HO244.out (fun _ hk => ⟨⟨hk.1.1, ⟨hk.1.2.2.1, ⟨hk.1.2.2.2, hk.2⟩⟩⟩, hk.1.2.1⟩)) hg hat); have n5 := Az (Kd.R_after (ok := (fun k_ => some k_ ≠ (v226 : Value).ownBlock ∧ some k_ ≠ (u11 : Value).ownBlock ∧ some k_ ≠ (v239 : Value).ownBlock ∧ some k_ ≠ (v243 : Value).ownBlock)) (by (with_reducible repeat (first | apply Kd.R_alloc | apply Kd.R_drewN | apply Kd.R_drew)); exact Kd.R_mono HO247.out (fun _ hk => ⟨⟨hk.1, ⟨hk.2.2.1, ⟨hk.2.2.2.1, hk.2.2.2.2⟩⟩⟩, hk.2.1⟩)) hg hat); have n6 := Az (hb); have n7 := Az (ho); clear HO_8 HO_11 BK218 HO240 HO244 HO247 HB HO_10; have HO_8 := n0; have HO_11 := n1; have BK218 := n2; have HO240 := n3; have HO244 := n4; have HO247 := n5; have HB := n6; have HO252 := n7; clear n0 n1 n2 n3 n4 n5 n6 n7 ho hb hg hat
                   refine hK.out _ _ ?_
                   clear hK K
                   refine norm_ (a' := ?_) ?_ ?_
                   rotate_left
                   ·
                    show Act.put _ (some 69) _ = _
                    simp only [Act.put, List.setIfInBounds_toArray, List.set_cons_zero, List.set_cons_succ, i64_w, i32_w]
                    rfl
                   refine pure_ (i := 13) (N := some 10) (v := ?_) (a' := ?_) #[true, true, true, true, true, true, true, true, true, true, true, true, true, true] rfl rfl (any_of HT_.out (by kernel_rfl)) (fun _ _ _ h => h) (Or.inl ⟨by rfl, ?_⟩) ?_ ?_
                   rotate_left
                   ·
                    intro w'
                    go_simp
                    with_reducible rfl
                   rotate_left
                   ·
                    simp only [Act.put, List.setIfInBounds_toArray, List.set_cons_zero, List.set_cons_succ, i64_w, i32_w]
                    rfl
                   refine done_ (done_of HT_.out (by kernel_rfl)) ?_
                   try go_wp2_with (first | ((with_reducible refine gate_builtin (b := .append) (xs := #[.tmp 72, .tmp 74]) rfl ?_); at_builtin; refine Kd.R_append (Kd.int .i64) (w0 := w) w.heap.size rfl (.tmp 72) (.tmp 74) 23 3 (.int .i64 0) 8 rfl Try.underlying23 info3 rfl (by decide) (by omega) u11 x11_1 x27_1 [.int .i64 x27_1] (fun k_ => some k_ ≠ (v226 : Value).ownBlock ∧ some k_ ≠ (v239 : Value).ownBlock ∧ some k_ ≠ (v243 : Value).ownBlock ∧ some k_ ≠ (v246 : Value).ownBlock ∧ some k_ ≠ (v251 : Value).ownBlock) (fun _ => False) rfl rfl ?aP (fun _ hk => hk.elim) ?aF ?aO ?aB ?aS ?aL ?_; (case aP => exact rfl); (case aB => exact (bU1 HB.out GE218.out)); (case aF => exact (fun k_ hk => ⟨Kd.fresh' (Kd.R_lt (rU HO_8.out)) k_ hk, Kd.fresh' (Kd.R_lt (rU HO240.out)) k_ hk, Kd.fresh' (Kd.R_lt (rU HO244.out)) k_ hk, Kd.fresh' (Kd.R_lt (rU HO247.out)) k_ hk, Kd.fresh' (Kd.R_lt (rU HO252.out)) k_ hk⟩)); (case aO => exact (by (with_reducible repeat (first | apply Kd.R_alloc | apply Kd.R_drewN | apply Kd.R_drew)); exact Kd.R_mono HO_11.out (fun _ hk => ⟨hk.1.1, ⟨hk.1.2.1, ⟨hk.1.2.2.1, ⟨hk.1.2.2.2, hk.2⟩⟩⟩⟩))); (case aS => exact (below_size (bU1 HB.out GE218.out))); (case aL => have := LMc35.out; omega); intro v254 w44 ho hb hg hat; rw [← Ny253.out] at ho; have n0 := Az (Kd.R_after (ok := (fun k_ => some k_ ≠ (v239 : Value).ownBlock ∧ some k_ ≠ (v243 : Value).ownBlock ∧ some k_ ≠ (v246 : Value).ownBlock ∧ some k_ ≠ (v251 : Value).ownBlock)) (by (with_reducible repeat (first | apply Kd.R_alloc | apply Kd.R_drewN | apply Kd.R_drew)); exact Kd.R_mono HO_8.out (fun _ hk => ⟨⟨hk.1.2.1, ⟨hk.1.2.2.1, ⟨hk.1.2.2.2, hk.2⟩⟩⟩, hk.1.1⟩)) hg hat); have n1 := Az (blk_grown (g := gb218) (o := .cells #[.string a0_0, .slice (some ad249) l0_1.length c0_1] 25 (0, 0)) (kU BK218.out) hg (Kd.R_ne HO_11.out BK218.out (by decide))); have n2 := Az (Kd.R_after (ok := (fun k_ => some k_ ≠ (v226 : Value).ownBlock ∧ some k_ ≠ (v243 : Value).ownBlock ∧ some k_ ≠ (v246 : Value).ownBlock ∧ some k_ ≠ (v251 : Value).ownBlock)) (by (with_reducible repeat (first | apply Kd.R_alloc | apply Kd.R_drewN | apply Kd.R_drew)); exact Kd.R_mono HO240.out (fun _ hk => ⟨⟨hk.1.1, ⟨hk.1.2.2.1, ⟨hk.1.2.2.2, hk.2⟩⟩⟩, hk.1.2.1⟩)) hg hat); have n3 := Az (Kd.R_after (ok := (fun k_ => some k_ ≠ (v226 : Value).ownBlock ∧ some k_ ≠ (v239 : Value).ownBlock ∧ some k_ ≠ (v246 : Value).ownBlock ∧ some k_ ≠ (v251 : Value).ownBlock)) (by (with_reducible repeat (first | apply Kd.R_alloc | apply Kd.R_drewN | apply Kd.R_drew)); exact Kd.R_mono HO244.out (fun _ hk => ⟨⟨hk.1.1, ⟨hk.1.2.2.1, ⟨hk.1.2.2.2, hk.2⟩⟩⟩, hk.1.2.1⟩)) hg hat); have n4 := Az (Kd.R_after (ok := (fun k_ => some k_ ≠ (v226 : Value).ownBlock ∧ some k_ ≠ (v239 : Value).ownBlock ∧ some k_ ≠ (v243 : Value).ownBlock ∧ some k_ ≠ (v251 : Value).ownBlock)) (by (with_reducible repeat (first | apply Kd.R_alloc | apply Kd.R_drewN | apply Kd.R_drew)); exact Kd.R_mono HO247.out (fun _ hk => ⟨⟨hk.1.1, ⟨hk.1.2.2.1, ⟨hk.1.2.2.2, hk.2⟩⟩⟩, hk.1.2.1⟩)) hg hat); have n5 := Az (Kd.R_after (ok := (fun k_ => some k_ ≠ (v226 : Value).ownBlock ∧ some k_ ≠ (v239 : Value).ownBlock ∧ some k_ ≠ (v243 : Value).ownBlock ∧ some k_ ≠ (v246 : Value).ownBlock)) (by (with_reducible repeat (first | apply Kd.R_alloc | apply Kd.R_drewN | apply Kd.R_drew)); exact Kd.R_mono HO252.out (fun _ hk => ⟨⟨hk.1, ⟨hk.2.2.1, ⟨hk.2.2.2.1, hk.2.2.2.2⟩⟩⟩, hk.2.1⟩)) hg hat); have n6 := Az (hb); have n7 := Az (ho); clear HO_8 BK218 HO240 HO244 HO247 HO252 HB HO_11; have HO_8 := n0; have BK218 := n1; have HO240 := n2; have HO244 := n3; have HO247 := n4; have HO252 := n5; have HB := n6; have HO255 := n7; clear n0 n1 n2 n3 n4 n5 n6 n7; clear ho hb hg hat))
                   (first | go_roundg k1 | (refine Handed.intro k1 ?measure ?_; rotate_left; go_step; (try simp only [add_plain]); (repeat apply Exists.intro); refine ⟨?rel, rfl⟩))
                   case measure => have := HK1.out; omega
                   case rel => exact ⟨(y238), (y242), (x8_1), (y245), (y250), (y253), (wrap64 (x12_1 + 1)), (wrap64 (x27_1 + 1)), rS, rS, H', ⟨by have := HK1.out; omega⟩, ⟨by (with_reducible repeat (first | apply Kd.R_alloc | apply Kd.R_drewN | apply Kd.R_drew)); exact Kd.R_mono HO240.out (fun _ hk => ⟨hk.1.2.1, ⟨hk.1.1, ⟨hk.1.2.2.1, ⟨hk.1.2.2.2, hk.2⟩⟩⟩⟩)⟩, ⟨by (with_reducible repeat (first | apply Kd.R_alloc | apply Kd.R_drewN | apply Kd.R_drew)); exact Kd.R_mono HO244.out (fun _ hk => ⟨hk.1.2.1, ⟨hk.1.1, ⟨hk.1.2.2.1, ⟨hk.1.2.2.2, hk.2⟩⟩⟩⟩)⟩, ⟨by (with_reducible repeat (first | apply Kd.R_alloc | apply Kd.R_drewN | apply Kd.R_drew)); exact Kd.R_mono HO_8.out (fun _ hk => ⟨hk.1.1, ⟨hk.1.2.1, ⟨hk.1.2.2.1, ⟨hk.1.2.2.2, hk.2⟩⟩⟩⟩)⟩, ⟨by (with_reducible repeat (first | apply Kd.R_alloc | apply Kd.R_drewN | apply Kd.R_drew)); exact Kd.R_mono HO247.out (fun _ hk => ⟨hk.1.2.1, ⟨hk.1.2.2.1, ⟨hk.1.1, ⟨hk.1.2.2.2, hk.2⟩⟩⟩⟩)⟩, ⟨by (with_reducible repeat (first | apply Kd.R_alloc | apply Kd.R_drewN | apply Kd.R_drew)); exact Kd.R_mono HO252.out (fun _ hk => ⟨hk.1.2.1, ⟨hk.1.2.2.1, ⟨hk.1.1, ⟨hk.1.2.2.2, hk.2⟩⟩⟩⟩)⟩, ⟨by (with_reducible repeat (first | apply Kd.R_alloc | apply Kd.R_drewN | apply Kd.R_drew)); exact Kd.R_mono HO255.out (fun _ hk => ⟨hk.2.1, ⟨hk.2.2.1, ⟨hk.1, ⟨hk.2.2.2.1, hk.2.2.2.2⟩⟩⟩⟩)⟩, ⟨kU BK218.out⟩, ⟨bU1 HB.out GE218.out⟩⟩
                  ·
                   rw [if_neg c35] at H
                   exact absurd H (by simp)
                 ·
                  rw [if_neg c34] at H
                  exact absurd H (by simp)
                ·
                 rw [if_neg c33] at H
                 exact absurd H (by simp)
               ·
                rw [if_neg c32] at H
                exact absurd H (by simp)
              ·
               rw [if_neg c31] at H
               exact absurd H (by simp)
             ·
              rw [if_neg c30] at H; have c30b0 := beq_eq_false_iff_ne.mpr c30; have c30b1 := bne_iff_ne.mpr c30
              by_cases c45 : (ji21) ≤ (x9_1.length : Int)
              ·
               rw [if_pos c45] at H; have c45b0 := eq_true c45; have c45b1 := decide_eq_true c45; clear c45; obtain ⟨y256, hy256⟩ : ∃ y_ : List Int, y_ = (x9_1.take ((ji21) : Int).toNat) := ⟨_, rfl⟩; replace H : (if (ji21) ≤ (x10_1.length : Int) then (if 0 ≤ (wrap64 ((x11_1.length : Int) - 1)) then (if (wrap64 ((x11_1.length : Int) - 1)) < (x11_1.length : Int) then (if (wrap64 ((x11_1.length : Int) - 1)) ≤ (x11_1.length : Int) then (if x27_1 < (x8_1.length : Int) then (if 0 ≤ (rd x11_1 (wrap64 ((x11_1.length : Int) - 1))) then (if (rd x11_1 (wrap64 ((x11_1.length : Int) - 1))) < (x8_1.length : Int) then (impl_walked.l0 k1 y238 y242 ((x8_1.set (x27_1 : Int).toNat (rd x11_1 (wrap64 ((x11_1.length : Int) - 1)))).set ((rd x11_1 (wrap64 ((x11_1.length : Int) - 1))) : Int).toNat x27_1) y256 (x10_1.take ((ji21) : Int).toNat) (x11_1.take ((wrap64 ((x11_1.length : Int) - 1)) : Int).toNat) x12_1 (a0_0.size : Int) (wrap64 (x27_1 + 1)) a0_0 l0_1) else (none)) else (none)) else (none)) else (none)) else (none)) else (none)) else (none)) = some (r1, r2, r3) := hR hy256 H; have Ny256 := Az hy256; clear hy256
               by_cases c46 : (ji21) ≤ (x10_1.length : Int)
               ·
                rw [if_pos c46] at H; have c46b0 := eq_true c46; have c46b1 := decide_eq_true c46; clear c46; obtain ⟨y259, hy259⟩ : ∃ y_ : List Int, y_ = (x10_1.take ((ji21) : Int).toNat) := ⟨_, rfl⟩; replace H : (if 0 ≤ (wrap64 ((x11_1.length : Int) - 1)) then (if (wrap64 ((x11_1.length : Int) - 1)) < (x11_1.length : Int) then (if (wrap64 ((x11_1.length : Int) - 1)) ≤ (x11_1.length : Int) then (if x27_1 < (x8_1.length : Int) then (if 0 ≤ (rd x11_1 (wrap64 ((x11_1.length : Int) - 1))) then (if (rd x11_1 (wrap64 ((x11_1.length : Int) - 1))) < (x8_1.length : Int) then (impl_walked.l0 k1 y238 y242 ((x8_1.set (x27_1 : Int).toNat (rd x11_1 (wrap64 ((x11_1.length : Int) - 1)))).set ((rd x11_1 (wrap64 ((x11_1.length : Int) - 1))) : Int).toNat x27_1) y256 y259 (x11_1.take ((wrap64 ((x11_1.length : Int) - 1)) : Int).toNat) x12_1 (a0_0.size : Int) (wrap64 (x27_1 + 1)) a0_0 l0_1) else (none)) else (none)) else (none)) else (none)) else (none)) else (none)) = some (r1, r2, r3) := hR hy259 H; have Ny259 := Az hy259; clear hy259; obtain ⟨ji47, hji47⟩ : ∃ j_ : Int, (wrap64 ((x11_1.length : Int) - 1)) = j_ := ⟨_, rfl⟩
                replace H : (if 0 ≤ (ji47) then (if (ji47) < (x11_1.length : Int) then (if (ji47) ≤ (x11_1.length : Int) then (if x27_1 < (x8_1.length : Int) then (if 0 ≤ (rd x11_1 (ji47)) then (if (rd x11_1 (ji47)) < (x8_1.length : Int) then (impl_walked.l0 k1 y238 y242 ((x8_1.set (x27_1 : Int).toNat (rd x11_1 (ji47))).set ((rd x11_1 (ji47)) : Int).toNat x27_1) y256 y259 (x11_1.take ((ji47) : Int).toNat) x12_1 (a0_0.size : Int) (wrap64 (x27_1 + 1)) a0_0 l0_1) else (none)) else (none)) else (none)) else (none)) else (none)) else (none)) = some (r1, r2, r3) := by first | (rw [hji47] at H; exact H) | (simp only [hji47] at H ⊢; exact H)
                have hji47w : (IntKind.i64.wrap ((x11_1.length : Int) - 1)) = ji47 := (i64_w _).trans hji47
                by_cases c48 : 0 ≤ (ji47)
                ·
                 rw [if_pos c48] at H; have c48b0 := decide_eq_true c48; clear c48
                 by_cases c49 : (ji47) < (x11_1.length : Int)
                 ·
                  rw [if_pos c49] at H; have c49b0 := decide_eq_true c49; clear c49
                  by_cases c50 : (ji47) ≤ (x11_1.length : Int)
                  ·
                   rw [if_pos c50] at H; have c50b0 := eq_true c50; have c50b1 := decide_eq_true c50; clear c50; obtain ⟨y263, hy263⟩ : ∃ y_ : List Int, y_ = (x11_1.take ((ji47) : Int).toNat) := ⟨_, rfl⟩; replace H : (if x27_1 < (x8_1.length : Int) then (if 0 ≤ (rd x11_1 (ji47)) then (if (rd x11_1 (ji47)) < (x8_1.length : Int) then (impl_walked.l0 k1 y238 y242 ((x8_1.set (x27_1 : Int).toNat (rd x11_1 (ji47))).set ((rd x11_1 (ji47)) : Int).toNat x27_1) y256 y259 y263 x12_1 (a0_0.size : Int) (wrap64 (x27_1 + 1)) a0_0 l0_1) else (none)) else (none)) else (none)) = some (r1, r2, r3) := hR hy263 H; have Ny263 := Az hy263; clear hy263
                   by_cases c51 : x27_1 < (x8_1.length : Int)
                   ·
                    rw [if_pos c51] at H; have c51b0 := decide_eq_true c51; clear c51; obtain ⟨y266, hy266⟩ : ∃ y_ : List Int, y_ = (x8_1.set (x27_1 : Int).toNat (rd x11_1 (ji47))) := ⟨_, rfl⟩; replace H : (if 0 ≤ (rd x11_1 (ji47)) then (if (rd x11_1 (ji47)) < (x8_1.length : Int) then (impl_walked.l0 k1 y238 y242 (y266.set ((rd x11_1 (ji47)) : Int).toNat x27_1) y256 y259 y263 x12_1 (a0_0.size : Int) (wrap64 (x27_1 + 1)) a0_0 l0_1) else (none)) else (none)) = some (r1, r2, r3) := hR hy266 H; have Ny266 := Az hy266; clear hy266
                    by_cases c53 : 0 ≤ (rd x11_1 (ji47))
                    ·
                     rw [if_pos c53] at H; have c53b0 := decide_eq_true c53; clear c53
                     by_cases c54 : (rd x11_1 (ji47)) < (x8_1.length : Int)
                     ·
                      rw [if_pos c54] at H; have c54b0 := decide_eq_true c54; clear c54; obtain ⟨y267, hy267⟩ : ∃ y_ : List Int, y_ = (y266.set ((rd x11_1 (ji47)) : Int).toNat x27_1) := ⟨_, rfl⟩; replace H : (impl_walked.l0 k1 y238 y242 y267 y256 y259 y263 x12_1 (a0_0.size : Int) (wrap64 (x27_1 + 1)) a0_0 l0_1) = some (r1, r2, r3) := hR hy267 H; have Ny267 := Az hy267; clear hy267; have H' := Az H; clear H; obtain ⟨Ao56, co56, eo56⟩ := Kd.R_slice HO_9.out; subst eo56; have p237 : 0 ≤ ((ji21) : Int) := oA; have q237 : (ji21) < (x9_1.length : Int) := oA; obtain ⟨ad237, e237, hx237_0⟩ := Kd.at_int (Kd.R_reads' HO_9.out).2.2 (ji21) p237 q237
                      cases e237
                      replace p237 := eq_true p237; replace q237 := eq_true q237
                      try go_wp2_with (first | ((with_reducible refine gate_builtin (b := .append) (xs := #[.tmp 33, .tmp 38]) rfl ?_); at_builtin; refine Kd.R_append (Kd.int .i64) (w0 := w) w.heap.size rfl (.tmp 33) (.tmp 38) 23 3 (.int .i64 0) 8 rfl Try.underlying23 info3 rfl (by decide) (by omega) u6 x6_1 (rd x9_1 (ji21)) [.int .i64 (rd x9_1 (ji21))] (fun k_ => some k_ ≠ (u7 : Value).ownBlock ∧ some k_ ≠ (v226 : Value).ownBlock ∧ some k_ ≠ (.slice (some ad237) x9_1.length co56 : Value).ownBlock ∧ some k_ ≠ (u10 : Value).ownBlock ∧ some k_ ≠ (u11 : Value).ownBlock) (fun _ => False) rfl rfl ?aP (fun _ hk => hk.elim) ?aF ?aO ?aB ?aS ?aL ?_; (case aP => exact rfl); (case aB => exact (bU1 HB.out GE218.out)); (case aF => exact (fun k_ hk => ⟨Kd.fresh' (Kd.R_lt (rU HO_7.out)) k_ hk, Kd.fresh' (Kd.R_lt (rU HO_8.out)) k_ hk, Kd.fresh' (Kd.R_lt (rU HO_9.out)) k_ hk, Kd.fresh' (Kd.R_lt (rU HO_10.out)) k_ hk, Kd.fresh' (Kd.R_lt (rU HO_11.out)) k_ hk⟩)); (case aO => exact (rU HO_6.out)); (case aS => exact (below_size (bU1 HB.out GE218.out))); (case aL => have := LMc24.out; omega); intro v239 w57 ho hb hg hat; rw [← Ny238.out] at ho; have n0 := Az (Kd.R_after (ok := (fun k_ => some k_ ≠ (v226 : Value).ownBlock ∧ some k_ ≠ (.slice (some ad237) x9_1.length co56 : Value).ownBlock ∧ some k_ ≠ (u10 : Value).ownBlock ∧ some k_ ≠ (u11 : Value).ownBlock)) (by (with_reducible repeat (first | apply Kd.R_alloc | apply Kd.R_drewN | apply Kd.R_drew)); exact Kd.R_mono HO_7.out (fun _ hk => ⟨⟨hk.2.1, ⟨hk.2.2.1, ⟨hk.2.2.2.1, hk.2.2.2.2⟩⟩⟩, hk.1⟩)) hg hat); have n1 := Az (Kd.R_after (ok := (fun k_ => some k_ ≠ (u7 : Value).ownBlock ∧ some k_ ≠ (.slice (some ad237) x9_1.length co56 : Value).ownBlock ∧ some k_ ≠ (u10 : Value).ownBlock ∧ some k_ ≠ (u11 : Value).ownBlock)) (by (with_reducible repeat (first | apply Kd.R_alloc | apply Kd.R_drewN | apply Kd.R_drew)); exact Kd.R_mono HO_8.out (fun _ hk => ⟨⟨hk.2.1, ⟨hk.2.2.1, ⟨hk.2.2.2.1, hk.2.2.2.2⟩⟩⟩, hk.1⟩)) hg hat); have n2 := Az (Kd.R_after (ok := (fun k_ => some k_ ≠ (u7 : Value).ownBlock ∧ some k_ ≠ (v226 : Value).ownBlock ∧ some k_ ≠ (u10 : Value).ownBlock ∧ some k_ ≠ (u11 : Value).ownBlock)) (by (with_reducible repeat (first | apply Kd.R_alloc | apply Kd.R_drewN | apply Kd.R_drew)); exact Kd.R_mono HO_9.out (fun _ hk => ⟨⟨hk.2.1, ⟨hk.2.2.1, ⟨hk.2.2.2.1, hk.2.2.2.2⟩⟩⟩, hk.1⟩)) hg hat); have n3 := Az (Kd.R_after (ok := (fun k_ => some k_ ≠ (u7 : Value).ownBlock ∧ some k_ ≠ (v226 : Value).ownBlock ∧ some k_ ≠ (.slice (some ad237) x9_1.length co56 : Value).ownBlock ∧ some k_ ≠ (u11 : Value).ownBlock)) (by (with_reducible repeat (first | apply Kd.R_alloc | apply Kd.R_drewN | apply Kd.R_drew)); exact Kd.R_mono HO_10.out (fun _ hk => ⟨⟨hk.2.1, ⟨hk.2.2.1, ⟨hk.2.2.2.1, hk.2.2.2.2⟩⟩⟩, hk.1⟩)) hg hat); have n4 := Az (Kd.R_after (ok := (fun k_ => some k_ ≠ (u7 : Value).ownBlock ∧ some k_ ≠ (v226 : Value).ownBlock ∧ some k_ ≠ (.slice (some ad237) x9_1.length co56 : Value).ownBlock ∧ some k_ ≠ (u10 : Value).ownBlock)) (by (with_reducible repeat (first | apply Kd.R_alloc | apply Kd.R_drewN | apply Kd.R_drew)); exact Kd.R_mono HO_11.out (fun _ hk => ⟨⟨hk.2.1, ⟨hk.2.2.1, ⟨hk.2.2.2.1, hk.2.2.2.2⟩⟩⟩, hk.1⟩)) hg hat); have n5 := Az (blk_grown (g := gb218) (o := .cells #[.string a0_0, .slice A0_1 l0_1.length c0_1] 25 (0, 0)) (kU BK218.out) hg (Kd.R_ne HO_6.out BK218.out (by decide))); have n6 := Az (hb); have n7 := Az (ho); clear HO_7 HO_8 HO_9 HO_10 HO_11 BK218 HB HO_6; have HO_7 := n0; have HO_8 := n1; have HO_9 := n2; have HO_10 := n3; have HO_11 := n4; have BK218 := n5; have HB := n6; have HO240 := n7; clear n0 n1 n2 n3 n4 n5 n6 n7 ho hb hg hat; obtain ⟨Ao58, co58, eo58⟩ := Kd.R_slice HO_10.out; subst eo58; have p241 : 0 ≤ ((ji21) : Int) := oA; have q241 : (ji21) < (x10_1.length : Int) := oA; obtain ⟨ad241, e241, hx241_0⟩ := Kd.at_int (Kd.R_reads' HO_10.out).2.2 (ji21) p241 q241; cases e241; replace p241 := eq_true p241; replace q241 := eq_true q241) | ((with_reducible refine gate_builtin (b := .append) (xs := #[.tmp 40, .tmp 45]) rfl ?_); at_builtin; refine Kd.R_append (Kd.int .i64) (w0 := w) w.heap.size rfl (.tmp 40) (.tmp 45) 23 3 (.int .i64 0) 8 rfl Try.underlying23 info3 rfl (by decide) (by omega) u7 x7_1 (rd x10_1 (ji21)) [.int .i64 (rd x10_1 (ji21))] (fun k_ => some k_ ≠ (v226 : Value).ownBlock ∧ some k_ ≠ (.slice (some ad237) x9_1.length co56 : Value).ownBlock ∧ some k_ ≠ (.slice (some ad241) x10_1.length co58 : Value).ownBlock ∧ some k_ ≠ (u11 : Value).ownBlock ∧ some k_ ≠ (v239 : Value).ownBlock) (fun _ => False) rfl rfl ?aP (fun _ hk => hk.elim) ?aF ?aO ?aB ?aS ?aL ?_; (case aP => exact rfl); (case aB => exact (bU1 HB.out GE218.out)); (case aF => exact (fun k_ hk => ⟨Kd.fresh' (Kd.R_lt (rU HO_8.out)) k_ hk, Kd.fresh' (Kd.R_lt (rU HO_9.out)) k_ hk, Kd.fresh' (Kd.R_lt (rU HO_10.out)) k_ hk, Kd.fresh' (Kd.R_lt (rU HO_11.out)) k_ hk, Kd.fresh' (Kd.R_lt (rU HO240.out)) k_ hk⟩)); (case aO => exact (by (with_reducible repeat (first | apply Kd.R_alloc | apply Kd.R_drewN | apply Kd.R_drew)); exact Kd.R_mono HO_7.out (fun _ hk => ⟨hk.1.1, ⟨hk.1.2.1, ⟨hk.1.2.2.1, ⟨hk.1.2.2.2, hk.2⟩⟩⟩⟩))); (case aS => exact (below_size (bU1 HB.out GE218.out))); (case aL => have := LMc26.out; omega); intro v243 w59 ho hb hg hat; rw [← Ny242.out] at ho; have n0 := Az (Kd.R_after (ok := (fun k_ => some k_ ≠ (.slice (some ad237) x9_1.length co56 : Value).ownBlock ∧ some k_ ≠ (.slice (some ad241) x10_1.length co58 : Value).ownBlock ∧ some k_ ≠ (u11 : Value).ownBlock ∧ some k_ ≠ (v239 : Value).ownBlock)) (by (with_reducible repeat (first | apply Kd.R_alloc | apply Kd.R_drewN | apply Kd.R_drew)); exact Kd.R_mono HO_8.out (fun _ hk => ⟨⟨hk.1.2.1, ⟨hk.1.2.2.1, ⟨hk.1.2.2.2, hk.2⟩⟩⟩, hk.1.1⟩)) hg hat); have n1 := Az (Kd.R_after (ok := (fun k_ => some k_ ≠ (v226 : Value).ownBlock ∧ some k_ ≠ (.slice (some ad241) x10_1.length co58 : Value).ownBlock ∧ some k_ ≠ (u11 : Value).ownBlock ∧ some k_ ≠ (v239 : Value).ownBlock)) (by (with_reducible repeat (first | apply Kd.R_alloc | apply Kd.R_drewN | apply Kd.R_drew)); exact Kd.R_mono HO_9.out (fun _ hk => ⟨⟨hk.1.2.1, ⟨hk.1.2.2.1, ⟨hk.1.2.2.2, hk.2⟩⟩⟩, hk.1.1⟩)) hg hat); have n2 := Az (Kd.R_after (ok := (fun k_ => some k_ ≠ (v226 : Value).ownBlock ∧ some k_ ≠ (.slice (some ad237) x9_1.length co56 : Value).ownBlock ∧ some k_ ≠ (u11 : Value).ownBlock ∧ some k_ ≠ (v239 : Value).ownBlock)) (by (with_reducible repeat (first | apply Kd.R_alloc | apply Kd.R_drewN | apply Kd.R_drew)); exact Kd.R_mono HO_10.out (fun _ hk => ⟨⟨hk.1.2.1, ⟨hk.1.2.2.1, ⟨hk.1.2.2.2, hk.2⟩⟩⟩, hk.1.1⟩)) hg hat); have n3 := Az (Kd.R_after (ok := (fun k_ => some k_ ≠ (v226 : Value).ownBlock ∧ some k_ ≠ (.slice (some ad237) x9_1.length co56 : Value).ownBlock ∧ some k_ ≠ (.slice (some ad241) x10_1.length co58 : Value).ownBlock ∧ some k_ ≠ (v239 : Value).ownBlock)) (by (with_reducible repeat (first | apply Kd.R_alloc | apply Kd.R_drewN | apply Kd.R_drew)); exact Kd.R_mono HO_11.out (fun _ hk => ⟨⟨hk.1.2.1, ⟨hk.1.2.2.1, ⟨hk.1.2.2.2, hk.2⟩⟩⟩, hk.1.1⟩)) hg hat); have n4 := Az (blk_grown (g := gb218) (o := .cells #[.string a0_0, .slice A0_1 l0_1.length c0_1] 25 (0, 0)) (kU BK218.out) hg (Kd.R_ne HO_7.out BK218.out (by decide))); have n5 := Az (Kd.R_after (ok := (fun k_ => some k_ ≠ (v226 : Value).ownBlock ∧ some k_ ≠ (.slice (some ad237) x9_1.length co56 : Value).ownBlock ∧ some k_ ≠ (.slice (some ad241) x10_1.length co58 : Value).ownBlock ∧ some k_ ≠ (u11 : Value).ownBlock)) (by (with_reducible repeat (first | apply Kd.R_alloc | apply Kd.R_drewN | apply Kd.R_drew)); exact Kd.R_mono HO240.out (fun _ hk => ⟨⟨hk.2.1, ⟨hk.2.2.1, ⟨hk.2.2.2.1, hk.2.2.2.2⟩⟩⟩, hk.1⟩)) hg hat); have n6 := Az (hb); have n7 := Az (ho); clear HO_8 HO_9 HO_10 HO_11 BK218 HO240 HB HO_7; have HO_8 := n0; have HO_9 := n1; have HO_10 := n2; have HO_11 := n3; have BK218 := n4; have HO240 := n5; have HB := n6; have HO244 := n7; clear n0 n1 n2 n3 n4 n5 n6 n7 ho hb hg hat; have hcz60_0 : w59.cell? ⟨gb218, 0, none⟩ = some (.string a0_0) := (blk_cell BK218.out 0).trans rfl; have hcz60_1 : w59.cell? ⟨gb218, 1, none⟩ = some (.slice A0_1 l0_1.length c0_1) := (blk_cell BK218.out 1).trans rfl; have hfz60_0 := blk_frozen BK218.out 0; have hfz60_1 := blk_frozen BK218.out 1; have p29 : 0 ≤ (x27_1 : Int) := oA; have q29 : x27_1 < (a0_0.size : Int) := oA; have hx29 := bt_at a0_0 x27_1; replace p29 := eq_true p29; replace q29 := eq_true q29))
                      have n0 := Az (Kd.R_drew HO_8.out); have n1 := Az (Kd.R_drew HO_9.out); have n2 := Az (Kd.R_drew HO_10.out); have n3 := Az (Kd.R_drew HO_11.out); have n4 := Az (Kd.R_drew HO240.out); have n5 := Az (Kd.R_drew HO244.out); have n6 := Az (blk_drew BK218.out); have n7 := Az (below_drew1 HB.out); clear HO_8 HO_9 HO_10 HO_11 HO240 HO244 BK218 HB; have HO_8 := n0; have HO_9 := n1; have HO_10 := n2; have HO_11 := n3; have HO240 := n4; have HO244 := n5; have BK218 := n6; have HB := n7; clear n0 n1 n2 n3 n4 n5 n6 n7; have q62 : ((ji21) : Int) ≤ ((x9_1.length : Int) : Int) := oA; obtain ⟨i062, hi062, _, hsz62, _⟩ := info_parts info3; have hcut62 := cut_to (P := Try.prog) 23 3 .i64 Try.underlying23 hi062 (some ad237) x9_1.length co56 (ji21) (oA) q62 (Kd.R_reads' HO_9.out).2.1; have hr62 := Kd.R_take (m := ((ji21) : Int).toNat) HO_9.out (by omega); have hy62 : y256.length = ((ji21) : Int).toNat := (by rw [Ny256.out, List.length_take]; omega); rw [← Ny256.out] at hr62; rw [← hy62] at hr62 hcut62; clear hy62 hi062 hsz62 HO_9; have HO258 := Az hr62; clear hr62; replace q62 := eq_true q62; have q63 : ((ji21) : Int) ≤ ((x10_1.length : Int) : Int) := oA; obtain ⟨i063, hi063, _, hsz63, _⟩ := info_parts info3; have hcut63 := cut_to (P := Try.prog) 23 3 .i64 Try.underlying23 hi063 (some ad241) x10_1.length co58 (ji21) (oA) q63 (Kd.R_reads' HO_10.out).2.1; have hr63 := Kd.R_take (m := ((ji21) : Int).toNat) HO_10.out (by omega); have hy63 : y259.length = ((ji21) : Int).toNat := (by rw [Ny259.out, List.length_take]; omega); rw [← Ny259.out] at hr63; rw [← hy63] at hr63 hcut63; clear hy63 hi063 hsz63 HO_10; have HO261 := Az hr63; clear hr63; replace q63 := eq_true q63
                      refine start_ (n := 8) (S := fun w' => True) (ds := []) #[false, false, false, false, false, false, false, false] (by kernel_rfl) rfl rfl trivial (fun hHeld => ?_); refine with_tabW impl_walked.tab16 impl_walked.bits16 (fun HT_ HW_ => ?_)
                      generalize w59.drew = w61 at HO_8 HO_11 HO240 HO244 BK218 HB HO258 HO261 hHeld ⊢
                      refine pure_ (i := 0) (N := some 76) (v := ?_) (a' := ?_) #[true, false, false, false, false, false, false, false] rfl rfl (any_of HT_.out (by kernel_rfl)) (fun _ _ _ h => h) (Or.inl ⟨by rfl, ?_⟩) ?_ ?_
                      rotate_left
                      ·
                       intro w'
                       go_simp
                       with_reducible rfl
                      rotate_left
                      ·
                       simp only [Act.put, List.setIfInBounds_toArray, List.set_cons_zero, List.set_cons_succ, i64_w, i32_w]
                       rfl
                      refine pure_ (i := 1) (N := some 77) (v := ?_) (a' := ?_) #[true, true, false, false, false, false, false, false] rfl rfl (any_of HT_.out (by kernel_rfl)) (fun _ _ _ h => h) (Or.inl ⟨by rfl, ?_⟩) ?_ ?_
                      rotate_left
                      ·
                       intro w'
                       go_simp
                       with_reducible rfl
                      rotate_left
                      ·
                       simp only [Act.put, List.setIfInBounds_toArray, List.set_cons_zero, List.set_cons_succ, i64_w, i32_w]
                       rfl
                      refine pure_ (i := 2) (N := some 78) (v := ?_) (a' := ?_) #[true, true, true, false, false, false, false, false] rfl rfl (any_of HT_.out (by kernel_rfl)) (fun _ _ _ h => h) (Or.inl ⟨by rfl, ?_⟩) ?_ ?_
                      rotate_left
                      ·
                       intro w'
                       go_simp
                       with_reducible rfl
                      rotate_left
                      ·
                       simp only [Act.put, List.setIfInBounds_toArray, List.set_cons_zero, List.set_cons_succ, i64_w, i32_w]
                       rfl
                      refine pure_ (i := 3) (N := some 79) (v := ?_) (a' := ?_) #[true, true, true, true, false, false, false, false] rfl rfl (any_of HT_.out (by kernel_rfl)) (fun _ _ _ h => h) (Or.inl ⟨by rfl, ?_⟩) ?_ ?_
                      rotate_left
                      ·
                       intro w'
                       go_simp
                       with_reducible rfl
                      rotate_left
                      ·
                       simp only [Act.put, List.setIfInBounds_toArray, List.set_cons_zero, List.set_cons_succ, i64_w, i32_w]
                       rfl
                      refine pure_ (i := 4) (N := some 80) (v := ?_) (a' := ?_) #[true, true, true, true, true, false, false, false] rfl rfl (any_of HT_.out (by kernel_rfl)) (fun _ _ _ h => h) (Or.inl ⟨by rfl, ?_⟩) ?_ ?_
                      rotate_left
                      ·
                       intro w'
                       go_simp
                       with_reducible rfl
                      rotate_left
                      ·
                       simp only [Act.put, List.setIfInBounds_toArray, List.set_cons_zero, List.set_cons_succ, i64_w, i32_w]
                       rfl
                      refine pure_ (i := 5) (N := some 81) (v := ?_) (a' := ?_) #[true, true, true, true, true, true, false, false] rfl rfl (any_of HT_.out (by kernel_rfl)) (fun _ _ _ h => h) (Or.inl ⟨by rfl, ?_⟩) ?_ ?_
                      rotate_left
                      ·
                       intro w'
                       go_simp
                       with_reducible rfl
                      rotate_left
                      ·
                       simp only [Act.put, List.setIfInBounds_toArray, List.set_cons_zero, List.set_cons_succ, i64_w, i32_w]
                       rfl
                      refine pure_ (i := 6) (N := some 9) (v := ?_) (a' := ?_) #[true, true, true, true, true, true, true, false] rfl rfl (any_of HT_.out (by kernel_rfl)) (fun _ _ _ h => h) (Or.inl ⟨by rfl, ?_⟩) ?_ ?_
                      rotate_left
                      ·
                       intro w'
                       go_simp
                       with_reducible rfl
                      rotate_left
                      ·
                       simp only [Act.put, List.setIfInBounds_toArray, List.set_cons_zero, List.set_cons_succ, i64_w, i32_w]
                       rfl
                      refine pure_ (i := 7) (N := some 10) (v := ?_) (a' := ?_) #[true, true, true, true, true, true, true, true] rfl rfl (any_of HT_.out (by kernel_rfl)) (fun _ _ _ h => h) (Or.inl ⟨by rfl, ?_⟩) ?_ ?_
                      rotate_left
                      ·
                       intro w'
                       go_simp
                       with_reducible rfl
                      rotate_left
                      ·
                       simp only [Act.put, List.setIfInBounds_toArray, List.set_cons_zero, List.set_cons_succ, i64_w, i32_w]
                       rfl
                      refine done_ (done_of HT_.out (by kernel_rfl)) ?_
                      obtain ⟨Ao64, co64, eo64⟩ := Kd.R_slice HO_11.out; subst eo64; have p262 : 0 ≤ ((ji47) : Int) := oA; have q262 : (ji47) < (x11_1.length : Int) := oA; obtain ⟨ad262, e262, hx262_0⟩ := Kd.at_int (Kd.R_reads' HO_11.out).2.2 (ji47) p262 q262
                      cases e262
                      replace p262 := eq_true p262; replace q262 := eq_true q262; have q65 : ((ji47) : Int) ≤ ((x11_1.length : Int) : Int) := oA; obtain ⟨i065, hi065, _, hsz65, _⟩ := info_parts info3; have hcut65 := cut_to (P := Try.prog) 23 3 .i64 Try.underlying23 hi065 (some ad262) x11_1.length co64 (ji47) (oA) q65 (Kd.R_reads' HO_11.out).2.1; have hr65 := Kd.R_take (m := ((ji47) : Int).toNat) HO_11.out (by omega); have hy65 : y263.length = ((ji47) : Int).toNat := (by rw [Ny263.out, List.length_take]; omega); rw [← Ny263.out] at hr65; rw [← hy65] at hr65 hcut65; clear hy65 hi065 hsz65 HO_11; have HO265 := Az hr65; clear hr65; replace q65 := eq_true q65; have p52 : 0 ≤ (x27_1 : Int) := oA; have q52 : (x27_1 : Int) < ((x8_1.length : Int) : Int) := oA; obtain ⟨go52, co52, eo52, gb52, gl52, cl52, HG52⟩ := Kd.R_form HO_8.out (by omega); (first | cases eo52 | (injection eo52 with ea_ en_ ec_; (first | subst ea_ | (injection ea_ with ea_; subst ea_)); subst ec_; clear en_)); have GB52 := Az gb52; have GG52 := Az HG52; clear gb52 gl52 HG52; obtain ⟨hx52_0, hf52_0⟩ := Kd.R_celln 0 HO_8.out (x27_1 : Int) p52 q52; replace p52 := eq_true p52; replace q52 := eq_true q52; have n_ := Az (Kd.R_mono (ok' := (fun k_ => some k_ ≠ (.slice (some ad237) y256.length co56 : Value).ownBlock ∧ some k_ ≠ (.slice (some ad241) y259.length co58 : Value).ownBlock ∧ some k_ ≠ (.slice (some ad262) y263.length co64 : Value).ownBlock ∧ some k_ ≠ (v239 : Value).ownBlock ∧ some k_ ≠ (v243 : Value).ownBlock)) HO_8.out (fun k_ hk => ⟨hk.1.1, ⟨hk.1.2.1, ⟨hk.1.2.2.1, ⟨hk.1.2.2.2, hk.2⟩⟩⟩⟩)); clear HO_8; have HO_8 := n_; clear n_; obtain ⟨hy66_, hz66_⟩ := Kd.R_celln 0 HO_8.out (x27_1 : Int) (oA) (oA); have HP66 := Kd.R_putg HO_8.out (x27_1 : Int) (rd x11_1 (ji47))
                      try go_wp2_with (first | ((with_reducible refine gate_store (t := 3) (p := 99) rfl ?_); refine store_event (t := 3) (p := 99) (v := ?vo_w67) (w1 := (w61.setCell ⟨go52, (x27_1 : Int).toNat, none⟩ (.int .i64 (rd x11_1 (ji47))))) ?hg ?ho ?hn ?hr ?_; (case ho => rfl); (case hg => rfl); (case hn => rfl); (case hr => first | (go_simp; done) | (go_simp; rfl)); intro w67 hw; have hg : w61.grownBy w67 (some go52) := (by rw [hw]; exact HP66.2); have hp_ : Kd.R (Kd.int .i64) 3 w67 w.heap.size (fun k_ => some k_ ≠ (.slice (some ad237) y256.length co56 : Value).ownBlock ∧ some k_ ≠ (.slice (some ad241) y259.length co58 : Value).ownBlock ∧ some k_ ≠ (.slice (some ad262) y263.length co64 : Value).ownBlock ∧ some k_ ≠ (v239 : Value).ownBlock ∧ some k_ ≠ (v243 : Value).ownBlock) (.slice (some ⟨go52, 0, none⟩) x8_1.length co52) y266 := (by rw [hw, Ny266.out]; exact HP66.1); clear HP66; have n0 := Az (hp_); have n1 := Az (Kd.R_after (v := (.slice (some ⟨go52, 0, none⟩) x8_1.length co52)) (v1 := (.slice (some ⟨go52, 0, none⟩) x8_1.length co52)) (ok := (fun k_ => some k_ ≠ (.slice (some ad241) y259.length co58 : Value).ownBlock ∧ some k_ ≠ (.slice (some ad262) y263.length co64 : Value).ownBlock ∧ some k_ ≠ (v239 : Value).ownBlock ∧ some k_ ≠ (v243 : Value).ownBlock)) (by (with_reducible repeat (first | apply Kd.R_alloc | apply Kd.R_drewN | apply Kd.R_drew)); exact Kd.R_mono HO258.out (fun _ hk => ⟨⟨hk.1.2.1, ⟨hk.1.2.2.1, ⟨hk.1.2.2.2, hk.2⟩⟩⟩, hk.1.1⟩)) hg (.inl rfl)); have n2 := Az (Kd.R_after (v := (.slice (some ⟨go52, 0, none⟩) x8_1.length co52)) (v1 := (.slice (some ⟨go52, 0, none⟩) x8_1.length co52)) (ok := (fun k_ => some k_ ≠ (.slice (some ad237) y256.length co56 : Value).ownBlock ∧ some k_ ≠ (.slice (some ad262) y263.length co64 : Value).ownBlock ∧ some k_ ≠ (v239 : Value).ownBlock ∧ some k_ ≠ (v243 : Value).ownBlock)) (by (with_reducible repeat (first | apply Kd.R_alloc | apply Kd.R_drewN | apply Kd.R_drew)); exact Kd.R_mono HO261.out (fun _ hk => ⟨⟨hk.1.2.1, ⟨hk.1.2.2.1, ⟨hk.1.2.2.2, hk.2⟩⟩⟩, hk.1.1⟩)) hg (.inl rfl)); have n3 := Az (Kd.R_after (v := (.slice (some ⟨go52, 0, none⟩) x8_1.length co52)) (v1 := (.slice (some ⟨go52, 0, none⟩) x8_1.length co52)) (ok := (fun k_ => some k_ ≠ (.slice (some ad237) y256.length co56 : Value).ownBlock ∧ some k_ ≠ (.slice (some ad241) y259.length co58 : Value).ownBlock ∧ some k_ ≠ (v239 : Value).ownBlock ∧ some k_ ≠ (v243 : Value).ownBlock)) (by (with_reducible repeat (first | apply Kd.R_alloc | apply Kd.R_drewN | apply Kd.R_drew)); exact Kd.R_mono HO265.out (fun _ hk => ⟨⟨hk.1.2.1, ⟨hk.1.2.2.1, ⟨hk.1.2.2.2, hk.2⟩⟩⟩, hk.1.1⟩)) hg (.inl rfl)); have n4 := Az (blk_grown (g := gb218) (o := .cells #[.string a0_0, .slice A0_1 l0_1.length c0_1] 25 (0, 0)) (kU BK218.out) hg (Kd.R_ne HO_8.out BK218.out (by decide))); have n5 := Az (Kd.R_after (v := (.slice (some ⟨go52, 0, none⟩) x8_1.length co52)) (v1 := (.slice (some ⟨go52, 0, none⟩) x8_1.length co52)) (ok := (fun k_ => some k_ ≠ (.slice (some ad237) y256.length co56 : Value).ownBlock ∧ some k_ ≠ (.slice (some ad241) y259.length co58 : Value).ownBlock ∧ some k_ ≠ (.slice (some ad262) y263.length co64 : Value).ownBlock ∧ some k_ ≠ (v243 : Value).ownBlock)) (by (with_reducible repeat (first | apply Kd.R_alloc | apply Kd.R_drewN | apply Kd.R_drew)); exact Kd.R_mono HO240.out (fun _ hk => ⟨⟨hk.1.2.1, ⟨hk.1.2.2.1, ⟨hk.1.2.2.2, hk.2⟩⟩⟩, hk.1.1⟩)) hg (.inl rfl)); have n6 := Az (Kd.R_after (v := (.slice (some ⟨go52, 0, none⟩) x8_1.length co52)) (v1 := (.slice (some ⟨go52, 0, none⟩) x8_1.length co52)) (ok := (fun k_ => some k_ ≠ (.slice (some ad237) y256.length co56 : Value).ownBlock ∧ some k_ ≠ (.slice (some ad241) y259.length co58 : Value).ownBlock ∧ some k_ ≠ (.slice (some ad262) y263.length co64 : Value).ownBlock ∧ some k_ ≠ (v239 : Value).ownBlock)) (by (with_reducible repeat (first | apply Kd.R_alloc | apply Kd.R_drewN | apply Kd.R_drew)); exact Kd.R_mono HO244.out (fun _ hk => ⟨⟨hk.2.1, ⟨hk.2.2.1, ⟨hk.2.2.2.1, hk.2.2.2.2⟩⟩⟩, hk.1⟩)) hg (.inl rfl)); have n7 := Az ((by rw [hw]; exact below_set (HB.out) GB52.out : Below w.heap.size w w67)); clear HO_8 HO258 HO261 HO265 BK218 HO240 HO244 HB; have HO_8 := n0; have HO258 := n1; have HO261 := n2; have HO265 := n3; have BK218 := n4; have HO240 := n5; have HO244 := n6; have HB := n7; clear n0 n1 n2 n3 n4 n5 n6 n7 hg hw hp_; have p55 : 0 ≤ ((rd x11_1 (ji47)) : Int) := oA; have q55 : ((rd x11_1 (ji47)) : Int) < ((x8_1.length : Int) : Int) := oA; obtain ⟨hx55_0, hf55_0⟩ := Kd.R_celln 0 HO_8.out ((rd x11_1 (ji47)) : Int) p55 q55; replace p55 := eq_true p55; replace q55 := eq_true q55; obtain ⟨hy68_, hz68_⟩ := Kd.R_celln 0 HO_8.out ((rd x11_1 (ji47)) : Int) (oA) (oA); have HP68 := Kd.R_putg HO_8.out ((rd x11_1 (ji47)) : Int) x27_1) | ((with_reducible refine gate_store (t := 3) (p := 100) rfl ?_); refine store_event (t := 3) (p := 100) (v := ?vo_w69) (w1 := (w67.setCell ⟨go52, ((rd x11_1 (ji47)) : Int).toNat, none⟩ (.int .i64 x27_1))) ?hg ?ho ?hn ?hr ?_; (case ho => rfl); (case hg => rfl); (case hn => rfl); (case hr => first | (go_simp; done) | (go_simp; rfl)); intro w69 hw; have hg : w67.grownBy w69 (some go52) := (by rw [hw]; exact HP68.2); have hp_ : Kd.R (Kd.int .i64) 3 w69 w.heap.size (fun k_ => some k_ ≠ (.slice (some ad237) y256.length co56 : Value).ownBlock ∧ some k_ ≠ (.slice (some ad241) y259.length co58 : Value).ownBlock ∧ some k_ ≠ (.slice (some ad262) y263.length co64 : Value).ownBlock ∧ some k_ ≠ (v239 : Value).ownBlock ∧ some k_ ≠ (v243 : Value).ownBlock) (.slice (some ⟨go52, 0, none⟩) x8_1.length co52) y267 := (by rw [hw, Ny267.out]; exact HP68.1); clear HP68; have n0 := Az (hp_); have n1 := Az (Kd.R_after (v := (.slice (some ⟨go52, 0, none⟩) x8_1.length co52)) (v1 := (.slice (some ⟨go52, 0, none⟩) x8_1.length co52)) (ok := (fun k_ => some k_ ≠ (.slice (some ad241) y259.length co58 : Value).ownBlock ∧ some k_ ≠ (.slice (some ad262) y263.length co64 : Value).ownBlock ∧ some k_ ≠ (v239 : Value).ownBlock ∧ some k_ ≠ (v243 : Value).ownBlock)) (rU HO258.out) hg (.inl rfl)); have n2 := Az (Kd.R_after (v := (.slice (some ⟨go52, 0, none⟩) x8_1.length co52)) (v1 := (.slice (some ⟨go52, 0, none⟩) x8_1.length co52)) (ok := (fun k_ => some k_ ≠ (.slice (some ad237) y256.length co56 : Value).ownBlock ∧ some k_ ≠ (.slice (some ad262) y263.length co64 : Value).ownBlock ∧ some k_ ≠ (v239 : Value).ownBlock ∧ some k_ ≠ (v243 : Value).ownBlock)) (rU HO261.out) hg (.inl rfl)); have n3 := Az (Kd.R_after (v := (.slice (some ⟨go52, 0, none⟩) x8_1.length co52)) (v1 := (.slice (some ⟨go52, 0, none⟩) x8_1.length co52)) (ok := (fun k_ => some k_ ≠ (.slice (some ad237) y256.length co56 : Value).ownBlock ∧ some k_ ≠ (.slice (some ad241) y259.length co58 : Value).ownBlock ∧ some k_ ≠ (v239 : Value).ownBlock ∧ some k_ ≠ (v243 : Value).ownBlock)) (rU HO265.out) hg (.inl rfl)); have n4 := Az (blk_grown (g := gb218) (o := .cells #[.string a0_0, .slice A0_1 l0_1.length c0_1] 25 (0, 0)) (kU BK218.out) hg (Kd.R_ne HO_8.out BK218.out (by decide))); have n5 := Az (Kd.R_after (v := (.slice (some ⟨go52, 0, none⟩) x8_1.length co52)) (v1 := (.slice (some ⟨go52, 0, none⟩) x8_1.length co52)) (ok := (fun k_ => some k_ ≠ (.slice (some ad237) y256.length co56 : Value).ownBlock ∧ some k_ ≠ (.slice (some ad241) y259.length co58 : Value).ownBlock ∧ some k_ ≠ (.slice (some ad262) y263.length co64 : Value).ownBlock ∧ some k_ ≠ (v243 : Value).ownBlock)) (rU HO240.out) hg (.inl rfl)); have n6 := Az (Kd.R_after (v := (.slice (some ⟨go52, 0, none⟩) x8_1.length co52)) (v1 := (.slice (some ⟨go52, 0, none⟩) x8_1.length co52)) (ok := (fun k_ => some k_ ≠ (.slice (some ad237) y256.length co56 : Value).ownBlock ∧ some k_ ≠ (.slice (some ad241) y259.length co58 : Value).ownBlock ∧ some k_ ≠ (.slice (some ad262) y263.length co64 : Value).ownBlock ∧ some k_ ≠ (v239 : Value).ownBlock)) (rU HO244.out) hg (.inl rfl)); have n7 := Az ((by rw [hw]; exact below_set (HB.out) GB52.out : Below w.heap.size w w69)); clear HO_8 HO258 HO261 HO265 BK218 HO240 HO244 HB; have HO_8 := n0; have HO258 := n1; have HO261 := n2; have HO265 := n3; have BK218 := n4; have HO240 := n5; have HO244 := n6; have HB := n7; clear n0 n1 n2 n3 n4 n5 n6 n7; clear hg hw hp_))
                      (first | go_roundg k1 | (refine Handed.intro k1 ?measure ?_; rotate_left; go_step; (try simp only [add_plain]); (repeat apply Exists.intro); refine ⟨?rel, rfl⟩))
                      case measure => have := HK1.out; omega
                      case rel => exact ⟨(y238), (y242), (y267), (y256), (y259), (y263), (x12_1), (wrap64 (x27_1 + 1)), rS, rS, H', ⟨by have := HK1.out; omega⟩, ⟨by (with_reducible repeat (first | apply Kd.R_alloc | apply Kd.R_drewN | apply Kd.R_drew)); exact Kd.R_mono HO240.out (fun _ hk => ⟨hk.1.2.2.2, ⟨hk.2, ⟨hk.1.1, ⟨hk.1.2.1, hk.1.2.2.1⟩⟩⟩⟩)⟩, ⟨by (with_reducible repeat (first | apply Kd.R_alloc | apply Kd.R_drewN | apply Kd.R_drew)); exact Kd.R_mono HO244.out (fun _ hk => ⟨hk.1.2.2.2, ⟨hk.2, ⟨hk.1.1, ⟨hk.1.2.1, hk.1.2.2.1⟩⟩⟩⟩)⟩, ⟨by (with_reducible repeat (first | apply Kd.R_alloc | apply Kd.R_drewN | apply Kd.R_drew)); exact Kd.R_mono HO_8.out (fun _ hk => ⟨hk.2.2.2.1, ⟨hk.2.2.2.2, ⟨hk.1, ⟨hk.2.1, hk.2.2.1⟩⟩⟩⟩)⟩, ⟨by (with_reducible repeat (first | apply Kd.R_alloc | apply Kd.R_drewN | apply Kd.R_drew)); exact Kd.R_mono HO258.out (fun _ hk => ⟨hk.1.2.2.1, ⟨hk.1.2.2.2, ⟨hk.2, ⟨hk.1.1, hk.1.2.1⟩⟩⟩⟩)⟩, ⟨by (with_reducible repeat (first | apply Kd.R_alloc | apply Kd.R_drewN | apply Kd.R_drew)); exact Kd.R_mono HO261.out (fun _ hk => ⟨hk.1.2.2.1, ⟨hk.1.2.2.2, ⟨hk.2, ⟨hk.1.1, hk.1.2.1⟩⟩⟩⟩)⟩, ⟨by (with_reducible repeat (first | apply Kd.R_alloc | apply Kd.R_drewN | apply Kd.R_drew)); exact Kd.R_mono HO265.out (fun _ hk => ⟨hk.1.2.2.1, ⟨hk.1.2.2.2, ⟨hk.2, ⟨hk.1.1, hk.1.2.1⟩⟩⟩⟩)⟩, ⟨kU BK218.out⟩, ⟨bU1 HB.out GE218.out⟩⟩
                     ·
                      rw [if_neg c54] at H
                      exact absurd H (by simp)
                    ·
                     rw [if_neg c53] at H
                     exact absurd H (by simp)
                   ·
                    rw [if_neg c51] at H
                    exact absurd H (by simp)
                  ·
                   rw [if_neg c50] at H
                   exact absurd H (by simp)
                 ·
                  rw [if_neg c49] at H
                  exact absurd H (by simp)
                ·
                 rw [if_neg c48] at H
                 exact absurd H (by simp)
               ·
                rw [if_neg c46] at H
                exact absurd H (by simp)
              ·
               rw [if_neg c45] at H
               exact absurd H (by simp)
            ·
             rw [if_neg c28] at H
             exact absurd H (by simp)
           ·
            rw [if_neg c27] at H
            exact absurd H (by simp)
          ·
           rw [if_neg c26] at H
           exact absurd H (by simp)
         ·
          rw [if_neg c25] at H
          exact absurd H (by simp)
        ·
         rw [if_neg c24] at H
         exact absurd H (by simp)
       ·
        rw [if_neg c23] at H
        exact absurd H (by simp)
      ·
       rw [if_neg c22] at H
       exact absurd H (by simp)
     ·
      rw [if_neg c20] at H; have c20b0 := decide_eq_false c20; clear c20; simp only [Option.some.injEq, Prod.mk.injEq] at H; obtain ⟨rfl, rfl, rfl⟩ := H
      go_wp2
      go_ret3
      exact ⟨_, _, _, rE, by (with_reducible repeat (first | apply Kd.R_alloc | apply Kd.R_drewN | apply Kd.R_drew)); exact Kd.R_mono HO_6.out (fun _ hk => ⟨hk.1, hk.2.1⟩), by (with_reducible repeat (first | apply Kd.R_alloc | apply Kd.R_drewN | apply Kd.R_drew)); exact Kd.R_mono HO_7.out (fun _ hk => ⟨hk.1, hk.2.1⟩), by (with_reducible repeat (first | apply Kd.R_alloc | apply Kd.R_drewN | apply Kd.R_drew)); exact Kd.R_mono HO_8.out (fun _ hk => ⟨hk.1, hk.2.1⟩), bU1 HB.out GE218.out⟩
  ·
   rw [if_neg c3] at H
   exact absurd H (by simp)
 ·
  rw [if_neg c2] at H
  exact absurd H (by simp)
mutual
def impl_successors.l0 : Nat → List Int → Int → List Int → List Int → Int → Int → Option (List Int)
 | 0, _, _, _, _, _, _ => none
 | k + 1, x0, x3, x4, x12, x13, x14 => if x14 < x13 then (if 0 ≤ x14 then (if x14 < (x12.length : Int) then (if x14 < (x4.length : Int) then (impl_successors.l1 k x0 x3 (x4.set (x14 : Int).toNat (-1)) x14 (rd x12 x14) (wrap64 (x3 - 1)) x12 x13 x14) else (none)) else (none)) else (none)) else (some x4)
def impl_successors.l1 : Nat → List Int → Int → List Int → Int → Int → Int → List Int → Int → Int → Option (List Int)
 | 0, _, _, _, _, _, _, _, _, _ => none
 | k + 1, x0, x3, x4, x5, x6, x7, x12, x13, x14 => if x7 ≥ 1 then (if x3 = 0 then (none) else (if 0 ≤ (Int.tmod (wrap64 (x5 + x7)) x3) then (if (Int.tmod (wrap64 (x5 + x7)) x3) < (x0.length : Int) then (if (rd x0 (Int.tmod (wrap64 (x5 + x7)) x3)) = (wrap64 (x6 - 1)) then (if 0 ≤ x5 then (if x5 < (x4.length : Int) then (impl_successors.l1 k x0 x3 (x4.set (x5 : Int).toNat (Int.tmod (wrap64 (x5 + x7)) x3)) x5 x6 (wrap64 (x7 - 1)) x12 x13 x14) else (none)) else (none)) else (impl_successors.l1 k x0 x3 x4 x5 x6 (wrap64 (x7 - 1)) x12 x13 x14)) else (none)) else (none))) else (impl_successors.l0 k x0 x3 x4 x12 x13 (wrap64 (x14 + 1)))
end
def impl_successors.f (k : Nat) (l0 : List Int) : Option (List Int) := if 0 ≤ (l0.length : Int) then (if ((l0.length : Int) : Int).toNat ≤ 35184372088832 then (impl_successors.l0 k l0 (l0.length : Int) (List.replicate ((l0.length : Int) : Int).toNat 0) l0 (l0.length : Int) 0) else (none)) else (none)
theorem impl_successors.mono_l : ∀ k, (∀ y0 y1 y2 y3 y4 y5, LeO (impl_successors.l0 k y0 y1 y2 y3 y4 y5) (impl_successors.l0 (k + 1) y0 y1 y2 y3 y4 y5)) ∧ (∀ y0 y1 y2 y3 y4 y5 y6 y7 y8, LeO (impl_successors.l1 k y0 y1 y2 y3 y4 y5 y6 y7 y8) (impl_successors.l1 (k + 1) y0 y1 y2 y3 y4 y5 y6 y7 y8))
 | 0 => ⟨fun _ _ _ _ _ _ r h => by simp [impl_successors.l0] at h, fun _ _ _ _ _ _ _ _ _ r h => by simp [impl_successors.l1] at h⟩
 | k + 1 => by
  obtain ⟨ih0, ih1⟩ := impl_successors.mono_l k
  refine ⟨?_, ?_⟩
  ·
   intro y0 y1 y2 y3 y4 y5
   unfold impl_successors.l0
   repeat' first
   | (with_reducible exact ih0 _ _ _ _ _ _)
   | (with_reducible exact ih1 _ _ _ _ _ _ _ _ _)
   | (with_reducible exact LeO.refl _)
   | (with_reducible exact LeO.none _)
   | (with_reducible refine LeO.ite ?_ ?_)
   | (with_reducible refine LeO.bind ?_ (fun _ => ?_))
   | exact ih0 _ _ _ _ _ _
   | exact ih1 _ _ _ _ _ _ _ _ _
   | exact LeO.none _
   | refine LeO.ite ?_ ?_
   | refine LeO.bind ?_ (fun _ => ?_)
  ·
   intro y0 y1 y2 y3 y4 y5 y6 y7 y8
   unfold impl_successors.l1
   repeat' first
   | (with_reducible exact ih0 _ _ _ _ _ _)
   | (with_reducible exact ih1 _ _ _ _ _ _ _ _ _)
   | (with_reducible exact LeO.refl _)
   | (with_reducible exact LeO.none _)
   | (with_reducible refine LeO.ite ?_ ?_)
   | (with_reducible refine LeO.bind ?_ (fun _ => ?_))
   | exact ih0 _ _ _ _ _ _
   | exact ih1 _ _ _ _ _ _ _ _ _
   | exact LeO.none _
   | refine LeO.ite ?_ ?_
   | refine LeO.bind ?_ (fun _ => ?_)
theorem impl_successors.mono : ∀ a0 k, LeO (impl_successors.f k a0) (impl_successors.f (k + 1) a0) := by
 intro a0 k
 obtain ⟨ih0, ih1⟩ := impl_successors.mono_l k
 unfold impl_successors.f
 repeat' first
   | (with_reducible exact ih0 _ _ _ _ _ _)
   | (with_reducible exact ih1 _ _ _ _ _ _ _ _ _)
   | (with_reducible exact LeO.refl _)
   | (with_reducible exact LeO.none _)
   | (with_reducible refine LeO.ite ?_ ?_)
   | (with_reducible refine LeO.bind ?_ (fun _ => ?_))
   | exact ih0 _ _ _ _ _ _
   | exact ih1 _ _ _ _ _ _ _ _ _
   | exact LeO.none _
   | refine LeO.ite ?_ ?_
   | refine LeO.bind ?_ (fun _ => ?_)
set_option maxHeartbeats 8000000 in
set_option maxRecDepth 100000 in
theorem impl_successors.calls (k : Nat) (A0 : Option Addr) (c0 : Nat) (l0 : List Int) (r : List Int) (w : World) (hr0 : Kd.C (Kd.int .i64) w A0 l0.length l0) (hc0 : l0.length ≤ c0) (h : impl_successors.f k l0 = some r) :
  Calls Try.prog 75 #[.slice A0 l0.length c0] w fun e w' => ∃ v0_ : Value, e = .returned (v0_) ∧ Kd.R (Kd.int .i64) 3 w' w.heap.size (fun _ => True) v0_ r ∧ Below w.heap.size w w' := by
 have HR0 := Az hr0; have HC0 := Az hc0; clear hr0 hc0; have HB := Az (Below.refl w.heap.size w); have H : (if 0 ≤ (l0.length : Int) then (if ((l0.length : Int) : Int).toNat ≤ 35184372088832 then (impl_successors.l0 k l0 (l0.length : Int) (List.replicate ((l0.length : Int) : Int).toNat 0) l0 (l0.length : Int) 0) else (none)) else (none)) = some r := h; clear h
 by_cases c2 : 0 ≤ (l0.length : Int)
 ·
  rw [if_pos c2] at H; have c2b0 := eq_true c2; have c2b1 := decide_eq_true c2; clear c2
  by_cases c3 : ((l0.length : Int) : Int).toNat ≤ 35184372088832
  ·
   rw [if_pos c3] at H; have c3b0 := eq_true c3; have c3b1 := decide_eq_true c3; clear c3; obtain ⟨y268, hy268⟩ : ∃ y_ : List Int, y_ = (List.replicate ((l0.length : Int) : Int).toNat 0) := ⟨_, rfl⟩; replace H : (impl_successors.l0 k l0 (l0.length : Int) y268 l0 (l0.length : Int) 0) = some r := hR hy268 H; have Ny268 := Az hy268; clear hy268; have H' := Az H; clear H
   go_enter Try.func75, Try.ntmps75
   go_wp2_with (first | ((with_reducible refine gate_dst (N := 11) rfl ?_); refine Kd.R_make (Kd.int .i64) _ 3 rfl (N := 11) rfl 23 _ _ rfl (l0.length : Int) rfl rfl Try.underlying23 (.int .i64 0) 8 info3 rfl (by decide) (by omega) 0 (ok := fun _ => True) (okp := fun _ => True) rfl (fun _ hk => hk) trivial (oA) (Nat.le_trans (Nat.mul_le_mul_right _ (oA : (l0.length : Int).toNat ≤ 35184372088832)) (by omega)) (Below.refl _ _) (Nat.le_refl _) ?_; intro v269 w4 ho5 hb hg_ hnew_; clear hg_ hnew_; (first | rw [← Ny268.out] at ho5 | (simp only [Int.reduceToNat] at ho5; rw [← Ny268.out] at ho5)); have n0 := Az (Kd.R_lower ho5 (below_size (bU0 HB.out))); have n1 := Az (below_step (bU0 HB.out) hb); clear HB; have HO270 := n0; have HB := n1; clear n0 n1; clear hb ho5))
   go_loopg [14] k (fun kq v14 w' => ∃ (x4_1 : List Int) (x14_1 : Int), v14 = .int .i64 x14_1 ∧ Aside0 (impl_successors.l0 kq l0 (l0.length : Int) x4_1 l0 (l0.length : Int) x14_1 = some r) ∧ Aside0 (kq ≤ k) ∧ Aside0 (Kd.R (Kd.int .i64) 3 w' w.heap.size (fun _ => True) v269 x4_1) ∧ Aside0 (Below w.heap.size w w'))
   case atStart => exact ⟨(y268), (0), rS, H', ⟨Nat.le_refl _⟩, ⟨rU HO270.out⟩, ⟨bU0 HB.out⟩⟩
   case round =>
    clear H'; (try clear c2); (try clear c2b0); (try clear c2b1); (try clear p2); (try clear c3); (try clear c3b0); (try clear c3b1); obtain ⟨x4_1, x14_1, rfl, HA, HK1, HO_4, HB⟩ := hrel
    cases gk with
    | zero => exact absurd HA.out (by simp [impl_successors.l0])
    | succ k1 =>
     have H := HA.out; clear HA; simp only [impl_successors.l0] at H
     by_cases c6 : x14_1 < (l0.length : Int)
     ·
      rw [if_pos c6] at H; have c6b0 := decide_eq_true c6; clear c6
      by_cases c7 : 0 ≤ x14_1
      ·
       rw [if_pos c7] at H; have c7b0 := decide_eq_true c7; clear c7
       by_cases c8 : x14_1 < (l0.length : Int)
       ·
        rw [if_pos c8] at H; have c8b0 := decide_eq_true c8; clear c8
        by_cases c9 : x14_1 < (x4_1.length : Int)
        ·
         rw [if_pos c9] at H; have c9b0 := decide_eq_true c9; clear c9; obtain ⟨y272, hy272⟩ : ∃ y_ : List Int, y_ = (x4_1.set (x14_1 : Int).toNat (-1)) := ⟨_, rfl⟩; replace H : (impl_successors.l1 k1 l0 (l0.length : Int) y272 x14_1 (rd l0 x14_1) (wrap64 ((l0.length : Int) - 1)) l0 (l0.length : Int) x14_1) = some r := hR hy272 H; have Ny272 := Az hy272; clear hy272; have H' := Az H; clear H; have p271 : 0 ≤ (x14_1 : Int) := oA; have q271 : x14_1 < (l0.length : Int) := oA; obtain ⟨ad271, e271, hx271_0⟩ := Kd.at_int HR0.out x14_1 p271 q271
         cases e271
         (try replace hx271_0 := (HB.out.cell (World.block_lt_of_cell? w _ hx271_0)).trans hx271_0); replace p271 := eq_true p271; replace q271 := eq_true q271; have p10 : 0 ≤ (x14_1 : Int) := oA; have q10 : (x14_1 : Int) < ((x4_1.length : Int) : Int) := oA; obtain ⟨go10, co10, eo10, gb10, gl10, cl10, HG10⟩ := Kd.R_form HO_4.out (by omega); (first | cases eo10 | (injection eo10 with ea_ en_ ec_; (first | subst ea_ | (injection ea_ with ea_; subst ea_)); subst ec_; clear en_)); have GB10 := Az gb10; have GG10 := Az HG10; clear gb10 gl10 HG10; obtain ⟨hx10_0, hf10_0⟩ := Kd.R_celln 0 HO_4.out (x14_1 : Int) p10 q10; replace p10 := eq_true p10; replace q10 := eq_true q10; obtain ⟨hy11_, hz11_⟩ := Kd.R_celln 0 HO_4.out (x14_1 : Int) (oA) (oA); have HP11 := Kd.R_putg HO_4.out (x14_1 : Int) (-1)
         go_wp2_with (first | ((with_reducible refine gate_store (t := 3) (p := 21) rfl ?_); refine store_event (t := 3) (p := 21) (v := ?vo_w12) (w1 := (wr.setCell ⟨go10, (x14_1 : Int).toNat, none⟩ (.int .i64 (-1)))) ?hg ?ho ?hn ?hr ?_; (case ho => rfl); (case hg => rfl); (case hn => rfl); (case hr => first | (go_simp; done) | (go_simp; rfl)); intro w12 hw; have hg : wr.grownBy w12 (some go10) := (by rw [hw]; exact HP11.2); have hp_ : Kd.R (Kd.int .i64) 3 w12 w.heap.size (fun _ => True) (.slice (some ⟨go10, 0, none⟩) x4_1.length co10) y272 := (by rw [hw, Ny272.out]; exact HP11.1); clear HP11; have n0 := Az (hp_); have n1 := Az ((by rw [hw]; exact below_set (HB.out) GB10.out : Below w.heap.size w w12)); clear HO_4 HB; have HO_4 := n0; have HB := n1; clear n0 n1; clear hg hw hp_))
         go_loopg [7] k1 (fun kq v7 w' => ∃ (x4_2 : List Int) (x7_2 : Int), v7 = .int .i64 x7_2 ∧ Aside0 (impl_successors.l1 kq l0 (l0.length : Int) x4_2 x14_1 (rd l0 x14_1) x7_2 l0 (l0.length : Int) x14_1 = some r) ∧ Aside0 (kq ≤ k1) ∧ Aside0 (Kd.R (Kd.int .i64) 3 w' w.heap.size (fun _ => True) (.slice (some ⟨go10, 0, none⟩) x4_1.length co10) x4_2) ∧ Aside0 (Below w.heap.size w w'))
         case atStart => exact ⟨(y272), (wrap64 ((l0.length : Int) - 1)), rS, H', ⟨Nat.le_refl _⟩, ⟨rU HO_4.out⟩, ⟨bU0 HB.out⟩⟩
         case round =>
          clear H'; (try clear p1); (try clear q1); (try clear hx1); (try clear hf1); (try clear c2); (try clear c2b0); (try clear c2b1); (try clear p2); (try clear q2); (try clear hx2); (try clear c3); (try clear c3b0); (try clear c3b1); (try clear c6); (try clear c6b0); (try clear p6); (try clear c7); (try clear c7b0); (try clear c8); (try clear c8b0); (try clear c9); (try clear c9b0); (try clear p10); (try clear q10); (try clear hx10); (try clear hf10); (try clear hx10_0); (try clear hx271_0); (try clear p10); (try clear p2); (try clear p271); (try clear q10); (try clear q271); obtain ⟨x4_2, x7_2, rfl, HA, HK2, HO_4, HB⟩ := hrel; have hl4_2 := (Kd.R_reads' HO_4.out).1; rw [hl4_2] at HO_4; (try simp only [hl4_2])
          cases gk with
          | zero => exact absurd HA.out (by simp [impl_successors.l1])
          | succ k2 =>
           have H := HA.out; clear HA; simp only [impl_successors.l1] at H
           by_cases c13 : x7_2 ≥ 1
           ·
            rw [if_pos c13] at H; have c13b0 := decide_eq_true c13; clear c13
            by_cases c14 : (l0.length : Int) = 0
            ·
             rw [if_pos c14] at H
             exact absurd H (by simp)
            ·
             rw [if_neg c14] at H; have c14b0 := beq_eq_false_iff_ne.mpr c14; (try (have c14b0hl4_2 := c14b0; rw [hl4_2] at c14b0hl4_2)); have c14b1 := bne_iff_ne.mpr c14; (try (have c14b1hl4_2 := c14b1; rw [hl4_2] at c14b1hl4_2))
             have c14b2 : ¬ (l0 = []) := fun h_ => c14 (by rw [h_]; rfl)
             obtain ⟨ji15, hji15⟩ : ∃ j_ : Int, (Int.tmod (wrap64 (x14_1 + x7_2)) (l0.length : Int)) = j_ := ⟨_, rfl⟩; (try (have hji15hl4_2 := hji15; rw [hl4_2] at hji15hl4_2))
             replace H : (if 0 ≤ (ji15) then (if (ji15) < (l0.length : Int) then (if (rd l0 (ji15)) = (wrap64 ((rd l0 x14_1) - 1)) then (if 0 ≤ x14_1 then (if x14_1 < (x4_2.length : Int) then (impl_successors.l1 k2 l0 (l0.length : Int) (x4_2.set (x14_1 : Int).toNat (ji15)) x14_1 (rd l0 x14_1) (wrap64 (x7_2 - 1)) l0 (l0.length : Int) x14_1) else (none)) else (none)) else (impl_successors.l1 k2 l0 (l0.length : Int) x4_2 x14_1 (rd l0 x14_1) (wrap64 (x7_2 - 1)) l0 (l0.length : Int) x14_1)) else (none)) else (none)) = some r := by first | (rw [hji15] at H; exact H) | (simp only [hji15] at H ⊢; exact H)
             by_cases c16 : 0 ≤ (ji15)
             ·
              rw [if_pos c16] at H; have c16b0 := decide_eq_true c16; clear c16
              by_cases c17 : (ji15) < (l0.length : Int)
              ·
               rw [if_pos c17] at H; have c17b0 := decide_eq_true c17; (try (have c17b0hl4_2 := c17b0; rw [hl4_2] at c17b0hl4_2)); clear c17
               by_cases c18 : (rd l0 (ji15)) = (wrap64 ((rd l0 x14_1) - 1))
               ·
                rw [if_pos c18] at H; have c18b0 := beq_iff_eq.mpr c18; have c18b1 := bne_eq_false_iff_eq.mpr c18; clear c18
                by_cases c19 : 0 ≤ x14_1
                ·
                 rw [if_pos c19] at H; have c19b0 := decide_eq_true c19; clear c19
                 by_cases c20 : x14_1 < (x4_2.length : Int)
                 ·
                  rw [if_pos c20] at H; have c20b0 := decide_eq_true c20; (try (have c20b0hl4_2 := c20b0; rw [hl4_2] at c20b0hl4_2)); clear c20; obtain ⟨y274, hy274⟩ : ∃ y_ : List Int, y_ = (x4_2.set (x14_1 : Int).toNat (ji15)) := ⟨_, rfl⟩; replace H : (impl_successors.l1 k2 l0 (l0.length : Int) y274 x14_1 (rd l0 x14_1) (wrap64 (x7_2 - 1)) l0 (l0.length : Int) x14_1) = some r := hR hy274 H; have Ny274 := Az hy274; clear hy274; have H' := Az H; clear H; have p273 : 0 ≤ ((ji15) : Int) := oA; have q273 : (ji15) < (l0.length : Int) := oA; obtain ⟨ad273, e273, hx273_0⟩ := Kd.at_int HR0.out (ji15) p273 q273; obtain rfl : ad271 = ad273 := (by injection e273); (try replace hx273_0 := (HB.out.cell (World.block_lt_of_cell? w _ hx273_0)).trans hx273_0); replace p273 := eq_true p273; replace q273 := eq_true q273; have p21 : 0 ≤ (x14_1 : Int) := oA; have q21 : (x14_1 : Int) < ((x4_2.length : Int) : Int) := oA; obtain ⟨hx21_0, hf21_0⟩ := Kd.R_celln 0 HO_4.out (x14_1 : Int) p21 q21; replace p21 := eq_true p21; replace q21 := eq_true q21; obtain ⟨hy22_, hz22_⟩ := Kd.R_celln 0 HO_4.out (x14_1 : Int) (oA) (oA); have HP22 := Kd.R_putg HO_4.out (x14_1 : Int) ji15
                  go_wp2_with (first | ((with_reducible refine gate_store (t := 3) (p := 46) rfl ?_); refine store_event (t := 3) (p := 46) (v := ?vo_w23) (w1 := (wr.setCell ⟨go10, (x14_1 : Int).toNat, none⟩ (.int .i64 ji15))) ?hg ?ho ?hn ?hr ?_; (case ho => rfl); (case hg => rfl); (case hn => rfl); (case hr => first | (go_simp; done) | (go_simp; rfl)); intro w23 hw; have hg : wr.grownBy w23 (some go10) := (by rw [hw]; exact HP22.2); have hp_ : Kd.R (Kd.int .i64) 3 w23 w.heap.size (fun _ => True) (.slice (some ⟨go10, 0, none⟩) x4_2.length co10) y274 := (by rw [hw, Ny274.out]; exact HP22.1); clear HP22; have n0 := Az (hp_); have n1 := Az ((by rw [hw]; exact below_set (HB.out) GB10.out : Below w.heap.size w w23)); clear HO_4 HB; have HO_4 := n0; have HB := n1; clear n0 n1; clear hg hw hp_))
                  (try simp only [← hl4_2]); (first | go_roundg k2 | (refine Handed.intro k2 ?measure ?_; rotate_left; go_step; (try simp only [add_plain]); (repeat apply Exists.intro); refine ⟨?rel, rfl⟩))
                  case measure => have := HK1.out; have := HK2.out; omega
                  case rel => exact ⟨(y274), (wrap64 (x7_2 - 1)), rS, H', ⟨by have := HK1.out; have := HK2.out; omega⟩, ⟨by (try simp only [hl4_2]); (with_reducible repeat (first | apply Kd.R_alloc | apply Kd.R_drewN | apply Kd.R_drew)); exact HO_4.out⟩, ⟨bU0 HB.out⟩⟩
                 ·
                  rw [if_neg c20] at H
                  exact absurd H (by simp)
                ·
                 rw [if_neg c19] at H
                 exact absurd H (by simp)
               ·
                rw [if_neg c18] at H; have c18b0 := beq_eq_false_iff_ne.mpr c18; have c18b1 := bne_iff_ne.mpr c18; clear c18; have H' := Az H; clear H; have p273 : 0 ≤ ((ji15) : Int) := oA; have q273 : (ji15) < (l0.length : Int) := oA; obtain ⟨ad273, e273, hx273_0⟩ := Kd.at_int HR0.out (ji15) p273 q273; obtain rfl : ad271 = ad273 := (by injection e273); (try replace hx273_0 := (HB.out.cell (World.block_lt_of_cell? w _ hx273_0)).trans hx273_0); replace p273 := eq_true p273; replace q273 := eq_true q273
                go_wp2
                (try simp only [← hl4_2]); (first | go_roundg k2 | (refine Handed.intro k2 ?measure ?_; rotate_left; go_step; (try simp only [add_plain]); (repeat apply Exists.intro); refine ⟨?rel, rfl⟩))
                case measure => have := HK1.out; have := HK2.out; omega
                case rel => exact ⟨(x4_2), (wrap64 (x7_2 - 1)), rS, H', ⟨by have := HK1.out; have := HK2.out; omega⟩, ⟨by (try simp only [hl4_2]); (with_reducible repeat (first | apply Kd.R_alloc | apply Kd.R_drewN | apply Kd.R_drew)); exact HO_4.out⟩, ⟨bU0 HB.out⟩⟩
              ·
               rw [if_neg c17] at H
               exact absurd H (by simp)
             ·
              rw [if_neg c16] at H
              exact absurd H (by simp)
           ·
            rw [if_neg c13] at H; have c13b0 := decide_eq_false c13; clear c13; have H' := Az H; clear H
            go_wp2
            (try simp only [← hl4_2]); (first | go_roundg k2 | (refine Handed.intro k2 ?measure ?_; rotate_left; go_step; (try simp only [add_plain]); (repeat apply Exists.intro); refine ⟨?rel, rfl⟩))
            case measure => have := HK1.out; have := HK2.out; omega
            case rel => exact ⟨(x4_2), (wrap64 (x14_1 + 1)), rS, H', ⟨by have := HK1.out; have := HK2.out; omega⟩, ⟨by (try simp only [hl4_2]); (with_reducible repeat (first | apply Kd.R_alloc | apply Kd.R_drewN | apply Kd.R_drew)); exact HO_4.out⟩, ⟨bU0 HB.out⟩⟩
        ·
         rw [if_neg c9] at H
         exact absurd H (by simp)
       ·
        rw [if_neg c8] at H
        exact absurd H (by simp)
      ·
       rw [if_neg c7] at H
       exact absurd H (by simp)
     ·
      rw [if_neg c6] at H; have c6b0 := decide_eq_false c6; clear c6; obtain rfl := Option.some.inj H
      go_wp2
      go_ret
      exact ⟨_, rE, rU HO_4.out, bU0 HB.out⟩
  ·
   rw [if_neg c3] at H
   exact absurd H (by simp)
 ·
  rw [if_neg c2] at H
  exact absurd H (by simp)
end Go.Proofs.Ytlpbalebodlipaa.PK
