/- For every map and number, EdgeKind of the program answers what EdgeKind of the reference answers, and leaves the map as it was. There are no conditions. -/
import Derived.Test.YtcjmgkbbmahgcaaKFnExactEdgeKindx4
namespace Go.Proofs.Ytcjmgkbbmahgcaa.PC
open Go.RowKit Go.Proofs.YtcjmgkbbmahgcaaW.PrintWords Go.Proofs.YtcjmgkbbmahgcaaW.PrintLast Go.Proofs.YtcjmgkbbmahgcaaW.PrintMore
attribute [local go_sem] max2_int min2_int max_two min_two max_three min_three max_four min_four   -- for this text's walks alone
set_option linter.unusedVariables false
set_option linter.unusedSimpArgs false
def impl_EdgeKind.j0 : Nat → Int → Bool → List Int → List Int → Option (Int)
 | 0, _, _, _, _ => none
 | k + 1, x1, x23, x597000, x597001 => if x23 = true then (some (-1)) else ((impl_edgesOf.f k x597000 x597001).bind fun t598 => (if 0 ≤ x1 then (if x1 < (t598.length : Int) then ((impl_vertexOf.f k x597000 x597001).bind fun t602 => (if 0 ≤ (rd t598 x1) then (if (rd t598 x1) < (t602.length : Int) then (if (rd t598 x1) < (x597001.length : Int) then (if 0 ≤ (rd x597001 (rd t598 x1)) then (if (rd x597001 (rd t598 x1)) < (t602.length : Int) then (if (rd t602 (rd t598 x1)) = (rd t602 (rd x597001 (rd t598 x1))) then (some 2) else ((impl_ChoiceRest.f k x597000 x597001 (([x1] : List Int))).bind fun bt611 => ((impl_ribbon.f k x597000 x597001 bt611.1).bind fun t615 => (if 0 < (t615.length : Int) then (if (rd t615 0) = 2 then (some 1) else (some 0)) else (none))))) else (none)) else (none)) else (none)) else (none)) else (none))) else (none)) else (none)))
def impl_EdgeKind.f (k : Nat) (l0_0 : List Int) (l0_1 : List Int) (a1 : Int) : Option (Int) := (impl_MapValid.f k l0_0 l0_1).bind fun t597 => (if t597 = true then (if a1 < 0 then (impl_EdgeKind.j0 k a1 true l0_0 l0_1) else (impl_EdgeKind.j0 k a1 (decide (a1 ≥ (wrap64 ((l0_1.length : Int) / 2)))) l0_0 l0_1)) else (impl_EdgeKind.j0 k a1 true l0_0 l0_1))
set_option maxHeartbeats 8000000 in
set_option maxRecDepth 100000 in
theorem impl_EdgeKind.calls (k : Nat) (A0_0 : Option Addr) (c0_0 : Nat) (l0_0 : List Int) (A0_1 : Option Addr) (c0_1 : Nat) (l0_1 : List Int) (a1 : Int) (r : Int) (w : World) (hr0_0 : Kd.C (Kd.int .i64) w A0_0 l0_0.length l0_0) (hc0_0 : l0_0.length ≤ c0_0) (hr0_1 : Kd.C (Kd.int .i64) w A0_1 l0_1.length l0_1) (hc0_1 : l0_1.length ≤ c0_1) (h : impl_EdgeKind.f k l0_0 l0_1 a1 = some r) :
  Calls Try.prog 41 #[.agg #[.slice A0_0 l0_0.length c0_0, .slice A0_1 l0_1.length c0_1], .int .i64 a1] w fun e w' => e = .returned (.int .i64 r) ∧ Below w.heap.size w w' := by
 have hu27 := Try.underlying27
 have HR0_0 := Aside0.mk hr0_0
 have HC0_0 := Aside0.mk hc0_0
 clear hr0_0 hc0_0
 have HR0_1 := Aside0.mk hr0_1
 have HC0_1 := Aside0.mk hc0_1
 clear hr0_1 hc0_1
 have HB := Aside0.mk (Below.refl w.heap.size w)
 have H : ((impl_MapValid.f k l0_0 l0_1).bind fun t597 => (if t597 = true then (if a1 < 0 then (impl_EdgeKind.j0 k a1 true l0_0 l0_1) else (impl_EdgeKind.j0 k a1 (decide (a1 ≥ (wrap64 ((l0_1.length : Int) / 2)))) l0_0 l0_1)) else (impl_EdgeKind.j0 k a1 true l0_0 l0_1))) = some r := h
 clear h
 have HC3 := Aside0.mk H
 clear H
 go_enter Try.func41, Try.ntmps41
 go_upto_region 1 with (first | ((with_reducible refine gate_dst (N := 2) rfl ?_); (try (refine gate_guard (by rfl) ?_; dsimp only)); refine box_event ?hg (N := 2) ?hd (cs := #[.slice A0_0 l0_0.length c0_0, .slice A0_1 l0_1.length c0_1]) (t := 27) ?hr ?_; (case hd => rfl); (case hg => rfl); (case hr => first | (go_simp; done) | (go_simp; rfl)); intro gb596 hg w4 hbox hb; have n0_ := Aside0.mk (below_step (by repeat (first | (with_reducible first | exact HB.out | apply below_alloc | apply pw_below_drewN | apply below_drew1) | exact HB.out)) hb); have n1_ := Aside0.mk (hbox); have n2_ := Aside0.mk ((by rw [hg]; exact (below_size (by repeat (first | (with_reducible first | exact HB.out | apply below_alloc | apply pw_below_drewN | apply below_drew1) | exact HB.out))) : w.heap.size ≤ gb596)); have n3_ := Aside0.mk ((by rw [hg]; exact (below_size (by repeat (first | (with_reducible first | exact HB.out | apply below_alloc | apply pw_below_drewN | apply below_drew1) | exact HB.out))) : w.heap.size ≤ gb596)); clear HB; have HB := n0_; have BK596 := n1_; have GW596 := n2_; have GE596 := n3_; clear n0_ n1_ n2_ n3_; clear hb hbox hg))
 repeat (go_quiet (first | ((with_reducible refine gate_dst (N := 2) rfl ?_); (try (refine gate_guard (by rfl) ?_; dsimp only)); refine box_event ?hg (N := 2) ?hd (cs := #[.slice A0_0 l0_0.length c0_0, .slice A0_1 l0_1.length c0_1]) (t := 27) ?hr ?_; (case hd => rfl); (case hg => rfl); (case hr => first | (go_simp; done) | (go_simp; rfl)); intro gb596 hg w4 hbox hb; have n0_ := Aside0.mk (below_step (by repeat (first | (with_reducible first | exact HB.out | apply below_alloc | apply pw_below_drewN | apply below_drew1) | exact HB.out)) hb); have n1_ := Aside0.mk (hbox); have n2_ := Aside0.mk ((by rw [hg]; exact (below_size (by repeat (first | (with_reducible first | exact HB.out | apply below_alloc | apply pw_below_drewN | apply below_drew1) | exact HB.out))) : w.heap.size ≤ gb596)); have n3_ := Aside0.mk ((by rw [hg]; exact (below_size (by repeat (first | (with_reducible first | exact HB.out | apply below_alloc | apply pw_below_drewN | apply below_drew1) | exact HB.out))) : w.heap.size ≤ gb596)); clear HB; have HB := n0_; have BK596 := n1_; have GW596 := n2_; have GE596 := n3_; clear n0_ n1_ n2_ n3_; clear hb hbox hg)); go_upto_region 1 with (first | ((with_reducible refine gate_dst (N := 2) rfl ?_); (try (refine gate_guard (by rfl) ?_; dsimp only)); refine box_event ?hg (N := 2) ?hd (cs := #[.slice A0_0 l0_0.length c0_0, .slice A0_1 l0_1.length c0_1]) (t := 27) ?hr ?_; (case hd => rfl); (case hg => rfl); (case hr => first | (go_simp; done) | (go_simp; rfl)); intro gb596 hg w4 hbox hb; have n0_ := Aside0.mk (below_step (by repeat (first | (with_reducible first | exact HB.out | apply below_alloc | apply pw_below_drewN | apply below_drew1) | exact HB.out)) hb); have n1_ := Aside0.mk (hbox); have n2_ := Aside0.mk ((by rw [hg]; exact (below_size (by repeat (first | (with_reducible first | exact HB.out | apply below_alloc | apply pw_below_drewN | apply below_drew1) | exact HB.out))) : w.heap.size ≤ gb596)); have n3_ := Aside0.mk ((by rw [hg]; exact (below_size (by repeat (first | (with_reducible first | exact HB.out | apply below_alloc | apply pw_below_drewN | apply below_drew1) | exact HB.out))) : w.heap.size ≤ gb596)); clear HB; have HB := n0_; have BK596 := n1_; have GW596 := n2_; have GE596 := n3_; clear n0_ n1_ n2_ n3_; clear hb hbox hg)))
 (try simp only [Act.put, List.setIfInBounds_toArray, List.set_cons_zero, List.set_cons_succ])
 go_cut [23] (fun v23 wc => ∃ (kq : Nat) (x23_2 : Bool), v23 = .bool x23_2 ∧ Aside0 (impl_EdgeKind.j0 kq a1 x23_2 l0_0 l0_1 = some r) ∧ Aside0 (kq ≤ k) ∧ Aside0 (wc.heap[gb596]? = some (.cells #[(.slice A0_0 l0_0.length c0_0), (.slice A0_1 l0_1.length c0_1)] 27 (0, 0))) ∧ Aside0 (Below w.heap.size w wc))
 case first =>
  have H := HC3.out
  clear HC3
  replace H := Option.bind_eq_some_iff.mp H
  obtain ⟨t597, A50, H⟩ := H
  replace H : (if t597 = true then (if a1 < 0 then (impl_EdgeKind.j0 k a1 true l0_0 l0_1) else (impl_EdgeKind.j0 k a1 (decide (a1 ≥ (wrap64 ((l0_1.length : Int) / 2)))) l0_0 l0_1)) else (impl_EdgeKind.j0 k a1 true l0_0 l0_1)) = some r := H
  have A5 := Aside0.mk A50
  clear A50
  by_cases c6 : t597 = true
  ·
   subst c6
   have H1 : (if a1 < 0 then (impl_EdgeKind.j0 k a1 true l0_0 l0_1) else (impl_EdgeKind.j0 k a1 (decide (a1 ≥ (wrap64 ((l0_1.length : Int) / 2)))) l0_0 l0_1)) = some r := by rw [if_pos rfl] at H; exact H
   clear H
   have H := H1
   clear H1
   by_cases c7 : a1 < 0
   ·
    rw [if_pos c7] at H
    have c7b0 : decide (a1 < 0) = true := decide_eq_true c7
    clear c7
    (first | rw [c7b0] | (simp only [i64_w, i32_w]; rw [c7b0]) | skip)
    have H' := Aside0.mk H
    clear H
    have hcz8_0 : w4.cell? ⟨gb596, 0, none⟩ = some (.slice A0_0 l0_0.length c0_0) := (blk_cell BK596.out 0).trans rfl
    have hcz8_1 : w4.cell? ⟨gb596, 1, none⟩ = some (.slice A0_1 l0_1.length c0_1) := (blk_cell BK596.out 1).trans rfl
    have hfz8_0 := blk_frozen BK596.out 0
    have hfz8_1 := blk_frozen BK596.out 1
    go_wp2_with (first | (go_at_call 51; (with_reducible refine (impl_MapValid.calls k (fun k_ => k_ < w.heap.size) _ _ l0_0 (fun k_ => k_ < w.heap.size) _ _ l0_1 true _ ?side1 ?side2 A5.out).mono ?_); (case side1 => exact Kd.V_mk HC0_0.out (Kd.F_below (Kd.C_F (Kd.heap_int .i64) HR0_0.out) (by repeat (first | (with_reducible first | exact HB.out | apply below_alloc | apply pw_below_drewN | apply below_drew1 | refine below_set ?_ GE596.out) | exact HB.out)))); (case side2 => exact Kd.V_mk HC0_1.out (Kd.F_below (Kd.C_F (Kd.heap_int .i64) HR0_1.out) (by repeat (first | (with_reducible first | exact HB.out | apply below_alloc | apply pw_below_drewN | apply below_drew1 | refine below_set ?_ GE596.out) | exact HB.out)))); rintro e w9 ⟨rfl, hb⟩; have n0_ := Aside0.mk (blk_below (g := gb596) (o := .cells #[.slice A0_0 l0_0.length c0_0, .slice A0_1 l0_1.length c0_1] 27 (0, 0)) (by (with_reducible repeat (first | refine blk_drewN ?_ _ | refine blk_drew ?_ | refine blk_alloc ?_ _)); exact BK596.out) hb); have n1_ := Aside0.mk (below_step (by repeat (first | (with_reducible first | exact HB.out | apply below_alloc | apply pw_below_drewN | apply below_drew1 | refine below_set ?_ GE596.out) | exact HB.out)) hb); clear BK596 HB; have BK596 := n0_; have HB := n1_; clear n0_ n1_; (try clear hb); (try clear hb2); (try clear hk); (try clear hi)))
    repeat (go_quiet (first | (go_at_call 51; (try simp only [Go.IntWalk.i64_left]); (with_reducible refine (impl_MapValid.calls k (fun k_ => k_ < w.heap.size) _ _ l0_0 (fun k_ => k_ < w.heap.size) _ _ l0_1 true _ ?side1 ?side2 A5.out).mono ?_); (case side1 => exact Kd.V_mk HC0_0.out (Kd.F_below (Kd.C_F (Kd.heap_int .i64) HR0_0.out) (by repeat (first | (with_reducible first | exact HB.out | apply below_alloc | apply pw_below_drewN | apply below_drew1 | refine below_set ?_ GE596.out) | exact HB.out)))); (case side2 => exact Kd.V_mk HC0_1.out (Kd.F_below (Kd.C_F (Kd.heap_int .i64) HR0_1.out) (by repeat (first | (with_reducible first | exact HB.out | apply below_alloc | apply pw_below_drewN | apply below_drew1 | refine below_set ?_ GE596.out) | exact HB.out)))); rintro e w9 ⟨rfl, hb⟩; have n0_ := Aside0.mk (blk_below (g := gb596) (o := .cells #[.slice A0_0 l0_0.length c0_0, .slice A0_1 l0_1.length c0_1] 27 (0, 0)) (by (with_reducible repeat (first | refine blk_drewN ?_ _ | refine blk_drew ?_ | refine blk_alloc ?_ _)); exact BK596.out) hb); have n1_ := Aside0.mk (below_step (by repeat (first | (with_reducible first | exact HB.out | apply below_alloc | apply pw_below_drewN | apply below_drew1 | refine below_set ?_ GE596.out) | exact HB.out)) hb); clear BK596 HB; have BK596 := n0_; have HB := n1_; clear n0_ n1_; (try clear hb); (try clear hb2); (try clear hk); (try clear hi))); try go_wp2_with (first | (go_at_call 51; (try simp only [Go.IntWalk.i64_left]); (with_reducible refine (impl_MapValid.calls k (fun k_ => k_ < w.heap.size) _ _ l0_0 (fun k_ => k_ < w.heap.size) _ _ l0_1 true _ ?side1 ?side2 A5.out).mono ?_); (case side1 => exact Kd.V_mk HC0_0.out (Kd.F_below (Kd.C_F (Kd.heap_int .i64) HR0_0.out) (by repeat (first | (with_reducible first | exact HB.out | apply below_alloc | apply pw_below_drewN | apply below_drew1 | refine below_set ?_ GE596.out) | exact HB.out)))); (case side2 => exact Kd.V_mk HC0_1.out (Kd.F_below (Kd.C_F (Kd.heap_int .i64) HR0_1.out) (by repeat (first | (with_reducible first | exact HB.out | apply below_alloc | apply pw_below_drewN | apply below_drew1 | refine below_set ?_ GE596.out) | exact HB.out)))); rintro e w9 ⟨rfl, hb⟩; have n0_ := Aside0.mk (blk_below (g := gb596) (o := .cells #[.slice A0_0 l0_0.length c0_0, .slice A0_1 l0_1.length c0_1] 27 (0, 0)) (by (with_reducible repeat (first | refine blk_drewN ?_ _ | refine blk_drew ?_ | refine blk_alloc ?_ _)); exact BK596.out) hb); have n1_ := Aside0.mk (below_step (by repeat (first | (with_reducible first | exact HB.out | apply below_alloc | apply pw_below_drewN | apply below_drew1 | refine below_set ?_ GE596.out) | exact HB.out)) hb); clear BK596 HB; have BK596 := n0_; have HB := n1_; clear n0_ n1_; (try clear hb); (try clear hb2); (try clear hk); (try clear hi))))
    go_meet
    case rel => exact ⟨_, (true), (by first | rfl | (simp; done) | (simp [*]; done)), H', ⟨by first | omega | exact Nat.le_refl _⟩, ⟨by (with_reducible repeat (first | refine blk_drewN ?_ _ | refine blk_drew ?_ | refine blk_alloc ?_ _)); exact BK596.out⟩, ⟨by repeat (first | (with_reducible first | exact HB.out | apply below_alloc | apply pw_below_drewN | apply below_drew1 | refine below_set ?_ GE596.out) | exact HB.out)⟩⟩
   ·
    rw [if_neg c7] at H
    have c7b0 : decide (a1 < 0) = false := decide_eq_false c7
    clear c7
    (first | rw [c7b0] | (simp only [i64_w, i32_w]; rw [c7b0]) | skip)
    have H' := Aside0.mk H
    clear H
    have hcz10_0 : w4.cell? ⟨gb596, 0, none⟩ = some (.slice A0_0 l0_0.length c0_0) := (blk_cell BK596.out 0).trans rfl
    have hcz10_1 : w4.cell? ⟨gb596, 1, none⟩ = some (.slice A0_1 l0_1.length c0_1) := (blk_cell BK596.out 1).trans rfl
    have hfz10_0 := blk_frozen BK596.out 0
    have hfz10_1 := blk_frozen BK596.out 1
    go_wp2_with (first | (go_at_call 51; (with_reducible refine (impl_MapValid.calls k (fun k_ => k_ < w.heap.size) _ _ l0_0 (fun k_ => k_ < w.heap.size) _ _ l0_1 true _ ?side1 ?side2 A5.out).mono ?_); (case side1 => exact Kd.V_mk HC0_0.out (Kd.F_below (Kd.C_F (Kd.heap_int .i64) HR0_0.out) (by repeat (first | (with_reducible first | exact HB.out | apply below_alloc | apply pw_below_drewN | apply below_drew1 | refine below_set ?_ GE596.out) | exact HB.out)))); (case side2 => exact Kd.V_mk HC0_1.out (Kd.F_below (Kd.C_F (Kd.heap_int .i64) HR0_1.out) (by repeat (first | (with_reducible first | exact HB.out | apply below_alloc | apply pw_below_drewN | apply below_drew1 | refine below_set ?_ GE596.out) | exact HB.out)))); rintro e w11 ⟨rfl, hb⟩; have n0_ := Aside0.mk (blk_below (g := gb596) (o := .cells #[.slice A0_0 l0_0.length c0_0, .slice A0_1 l0_1.length c0_1] 27 (0, 0)) (by (with_reducible repeat (first | refine blk_drewN ?_ _ | refine blk_drew ?_ | refine blk_alloc ?_ _)); exact BK596.out) hb); have n1_ := Aside0.mk (below_step (by repeat (first | (with_reducible first | exact HB.out | apply below_alloc | apply pw_below_drewN | apply below_drew1 | refine below_set ?_ GE596.out) | exact HB.out)) hb); clear BK596 HB; have BK596 := n0_; have HB := n1_; clear n0_ n1_; (try clear hb); (try clear hb2); (try clear hk); (try clear hi); have hcz12_0 : w11.cell? ⟨gb596, 0, none⟩ = some (.slice A0_0 l0_0.length c0_0) := (blk_cell BK596.out 0).trans rfl; have hcz12_1 : w11.cell? ⟨gb596, 1, none⟩ = some (.slice A0_1 l0_1.length c0_1) := (blk_cell BK596.out 1).trans rfl; have hfz12_0 := blk_frozen BK596.out 0; have hfz12_1 := blk_frozen BK596.out 1))
    repeat (go_quiet (first | (go_at_call 51; (try simp only [Go.IntWalk.i64_left]); (with_reducible refine (impl_MapValid.calls k (fun k_ => k_ < w.heap.size) _ _ l0_0 (fun k_ => k_ < w.heap.size) _ _ l0_1 true _ ?side1 ?side2 A5.out).mono ?_); (case side1 => exact Kd.V_mk HC0_0.out (Kd.F_below (Kd.C_F (Kd.heap_int .i64) HR0_0.out) (by repeat (first | (with_reducible first | exact HB.out | apply below_alloc | apply pw_below_drewN | apply below_drew1 | refine below_set ?_ GE596.out) | exact HB.out)))); (case side2 => exact Kd.V_mk HC0_1.out (Kd.F_below (Kd.C_F (Kd.heap_int .i64) HR0_1.out) (by repeat (first | (with_reducible first | exact HB.out | apply below_alloc | apply pw_below_drewN | apply below_drew1 | refine below_set ?_ GE596.out) | exact HB.out)))); rintro e w11 ⟨rfl, hb⟩; have n0_ := Aside0.mk (blk_below (g := gb596) (o := .cells #[.slice A0_0 l0_0.length c0_0, .slice A0_1 l0_1.length c0_1] 27 (0, 0)) (by (with_reducible repeat (first | refine blk_drewN ?_ _ | refine blk_drew ?_ | refine blk_alloc ?_ _)); exact BK596.out) hb); have n1_ := Aside0.mk (below_step (by repeat (first | (with_reducible first | exact HB.out | apply below_alloc | apply pw_below_drewN | apply below_drew1 | refine below_set ?_ GE596.out) | exact HB.out)) hb); clear BK596 HB; have BK596 := n0_; have HB := n1_; clear n0_ n1_; (try clear hb); (try clear hb2); (try clear hk); (try clear hi); have hcz12_0 : w11.cell? ⟨gb596, 0, none⟩ = some (.slice A0_0 l0_0.length c0_0) := (blk_cell BK596.out 0).trans rfl; have hcz12_1 : w11.cell? ⟨gb596, 1, none⟩ = some (.slice A0_1 l0_1.length c0_1) := (blk_cell BK596.out 1).trans rfl; have hfz12_0 := blk_frozen BK596.out 0; have hfz12_1 := blk_frozen BK596.out 1)); try go_wp2_with (first | (go_at_call 51; (try simp only [Go.IntWalk.i64_left]); (with_reducible refine (impl_MapValid.calls k (fun k_ => k_ < w.heap.size) _ _ l0_0 (fun k_ => k_ < w.heap.size) _ _ l0_1 true _ ?side1 ?side2 A5.out).mono ?_); (case side1 => exact Kd.V_mk HC0_0.out (Kd.F_below (Kd.C_F (Kd.heap_int .i64) HR0_0.out) (by repeat (first | (with_reducible first | exact HB.out | apply below_alloc | apply pw_below_drewN | apply below_drew1 | refine below_set ?_ GE596.out) | exact HB.out)))); (case side2 => exact Kd.V_mk HC0_1.out (Kd.F_below (Kd.C_F (Kd.heap_int .i64) HR0_1.out) (by repeat (first | (with_reducible first | exact HB.out | apply below_alloc | apply pw_below_drewN | apply below_drew1 | refine below_set ?_ GE596.out) | exact HB.out)))); rintro e w11 ⟨rfl, hb⟩; have n0_ := Aside0.mk (blk_below (g := gb596) (o := .cells #[.slice A0_0 l0_0.length c0_0, .slice A0_1 l0_1.length c0_1] 27 (0, 0)) (by (with_reducible repeat (first | refine blk_drewN ?_ _ | refine blk_drew ?_ | refine blk_alloc ?_ _)); exact BK596.out) hb); have n1_ := Aside0.mk (below_step (by repeat (first | (with_reducible first | exact HB.out | apply below_alloc | apply pw_below_drewN | apply below_drew1 | refine below_set ?_ GE596.out) | exact HB.out)) hb); clear BK596 HB; have BK596 := n0_; have HB := n1_; clear n0_ n1_; (try clear hb); (try clear hb2); (try clear hk); (try clear hi); have hcz12_0 : w11.cell? ⟨gb596, 0, none⟩ = some (.slice A0_0 l0_0.length c0_0) := (blk_cell BK596.out 0).trans rfl; have hcz12_1 : w11.cell? ⟨gb596, 1, none⟩ = some (.slice A0_1 l0_1.length c0_1) := (blk_cell BK596.out 1).trans rfl; have hfz12_0 := blk_frozen BK596.out 0; have hfz12_1 := blk_frozen BK596.out 1)))
    go_meet
    case rel => exact ⟨_, (decide (a1 ≥ (wrap64 ((l0_1.length : Int) / 2)))), (by first | rfl | (simp; done) | (simp [*]; done)), H', ⟨by first | omega | exact Nat.le_refl _⟩, ⟨by (with_reducible repeat (first | refine blk_drewN ?_ _ | refine blk_drew ?_ | refine blk_alloc ?_ _)); exact BK596.out⟩, ⟨by repeat (first | (with_reducible first | exact HB.out | apply below_alloc | apply pw_below_drewN | apply below_drew1 | refine below_set ?_ GE596.out) | exact HB.out)⟩⟩
  ·
   replace c6 := Bool.eq_false_iff.mpr c6
   subst c6
   have H1 : (impl_EdgeKind.j0 k a1 true l0_0 l0_1) = some r := by rw [if_neg (show ¬ (false = true) by decide)] at H; exact H
   clear H
   have H := H1
   clear H1
   have H' := Aside0.mk H
   clear H
   have hcz13_0 : w4.cell? ⟨gb596, 0, none⟩ = some (.slice A0_0 l0_0.length c0_0) := (blk_cell BK596.out 0).trans rfl
   have hcz13_1 : w4.cell? ⟨gb596, 1, none⟩ = some (.slice A0_1 l0_1.length c0_1) := (blk_cell BK596.out 1).trans rfl
   have hfz13_0 := blk_frozen BK596.out 0
   have hfz13_1 := blk_frozen BK596.out 1
   go_wp2_with (first | (go_at_call 51; (with_reducible refine (impl_MapValid.calls k (fun k_ => k_ < w.heap.size) _ _ l0_0 (fun k_ => k_ < w.heap.size) _ _ l0_1 false _ ?side1 ?side2 A5.out).mono ?_); (case side1 => exact Kd.V_mk HC0_0.out (Kd.F_below (Kd.C_F (Kd.heap_int .i64) HR0_0.out) (by repeat (first | (with_reducible first | exact HB.out | apply below_alloc | apply pw_below_drewN | apply below_drew1 | refine below_set ?_ GE596.out) | exact HB.out)))); (case side2 => exact Kd.V_mk HC0_1.out (Kd.F_below (Kd.C_F (Kd.heap_int .i64) HR0_1.out) (by repeat (first | (with_reducible first | exact HB.out | apply below_alloc | apply pw_below_drewN | apply below_drew1 | refine below_set ?_ GE596.out) | exact HB.out)))); rintro e w14 ⟨rfl, hb⟩; have n0_ := Aside0.mk (blk_below (g := gb596) (o := .cells #[.slice A0_0 l0_0.length c0_0, .slice A0_1 l0_1.length c0_1] 27 (0, 0)) (by (with_reducible repeat (first | refine blk_drewN ?_ _ | refine blk_drew ?_ | refine blk_alloc ?_ _)); exact BK596.out) hb); have n1_ := Aside0.mk (below_step (by repeat (first | (with_reducible first | exact HB.out | apply below_alloc | apply pw_below_drewN | apply below_drew1 | refine below_set ?_ GE596.out) | exact HB.out)) hb); clear BK596 HB; have BK596 := n0_; have HB := n1_; clear n0_ n1_; (try clear hb); (try clear hb2); (try clear hk); (try clear hi)))
   repeat (go_quiet (first | (go_at_call 51; (try simp only [Go.IntWalk.i64_left]); (with_reducible refine (impl_MapValid.calls k (fun k_ => k_ < w.heap.size) _ _ l0_0 (fun k_ => k_ < w.heap.size) _ _ l0_1 false _ ?side1 ?side2 A5.out).mono ?_); (case side1 => exact Kd.V_mk HC0_0.out (Kd.F_below (Kd.C_F (Kd.heap_int .i64) HR0_0.out) (by repeat (first | (with_reducible first | exact HB.out | apply below_alloc | apply pw_below_drewN | apply below_drew1 | refine below_set ?_ GE596.out) | exact HB.out)))); (case side2 => exact Kd.V_mk HC0_1.out (Kd.F_below (Kd.C_F (Kd.heap_int .i64) HR0_1.out) (by repeat (first | (with_reducible first | exact HB.out | apply below_alloc | apply pw_below_drewN | apply below_drew1 | refine below_set ?_ GE596.out) | exact HB.out)))); rintro e w14 ⟨rfl, hb⟩; have n0_ := Aside0.mk (blk_below (g := gb596) (o := .cells #[.slice A0_0 l0_0.length c0_0, .slice A0_1 l0_1.length c0_1] 27 (0, 0)) (by (with_reducible repeat (first | refine blk_drewN ?_ _ | refine blk_drew ?_ | refine blk_alloc ?_ _)); exact BK596.out) hb); have n1_ := Aside0.mk (below_step (by repeat (first | (with_reducible first | exact HB.out | apply below_alloc | apply pw_below_drewN | apply below_drew1 | refine below_set ?_ GE596.out) | exact HB.out)) hb); clear BK596 HB; have BK596 := n0_; have HB := n1_; clear n0_ n1_; (try clear hb); (try clear hb2); (try clear hk); (try clear hi))); try go_wp2_with (first | (go_at_call 51; (try simp only [Go.IntWalk.i64_left]); (with_reducible refine (impl_MapValid.calls k (fun k_ => k_ < w.heap.size) _ _ l0_0 (fun k_ => k_ < w.heap.size) _ _ l0_1 false _ ?side1 ?side2 A5.out).mono ?_); (case side1 => exact Kd.V_mk HC0_0.out (Kd.F_below (Kd.C_F (Kd.heap_int .i64) HR0_0.out) (by repeat (first | (with_reducible first | exact HB.out | apply below_alloc | apply pw_below_drewN | apply below_drew1 | refine below_set ?_ GE596.out) | exact HB.out)))); (case side2 => exact Kd.V_mk HC0_1.out (Kd.F_below (Kd.C_F (Kd.heap_int .i64) HR0_1.out) (by repeat (first | (with_reducible first | exact HB.out | apply below_alloc | apply pw_below_drewN | apply below_drew1 | refine below_set ?_ GE596.out) | exact HB.out)))); rintro e w14 ⟨rfl, hb⟩; have n0_ := Aside0.mk (blk_below (g := gb596) (o := .cells #[.slice A0_0 l0_0.length c0_0, .slice A0_1 l0_1.length c0_1] 27 (0, 0)) (by (with_reducible repeat (first | refine blk_drewN ?_ _ | refine blk_drew ?_ | refine blk_alloc ?_ _)); exact BK596.out) hb); have n1_ := Aside0.mk (below_step (by repeat (first | (with_reducible first | exact HB.out | apply below_alloc | apply pw_below_drewN | apply below_drew1 | refine below_set ?_ GE596.out) | exact HB.out)) hb); clear BK596 HB; have BK596 := n0_; have HB := n1_; clear n0_ n1_; (try clear hb); (try clear hb2); (try clear hk); (try clear hi))))
   go_meet
   case rel => exact ⟨_, (true), (by first | rfl | (simp; done) | (simp [*]; done)), H', ⟨by first | omega | exact Nat.le_refl _⟩, ⟨by (with_reducible repeat (first | refine blk_drewN ?_ _ | refine blk_drew ?_ | refine blk_alloc ?_ _)); exact BK596.out⟩, ⟨by repeat (first | (with_reducible first | exact HB.out | apply below_alloc | apply pw_below_drewN | apply below_drew1 | refine below_set ?_ GE596.out) | exact HB.out)⟩⟩
 case rest =>
  clear HC3
  try clear p2
  try clear c4
  try clear c6
  try clear p6
  try clear c7
  try clear c7b0
  try clear hcz10_0
  try clear hcz10_1
  try clear hcz12_0
  try clear hcz12_1
  try clear hcz13_0
  try clear hcz13_1
  try clear hcz8_0
  try clear hcz8_1
  try clear hfz10_0
  try clear hfz10_1
  try clear hfz12_0
  try clear hfz12_1
  try clear hfz13_0
  try clear hfz13_1
  try clear hfz8_0
  try clear hfz8_1
  obtain ⟨kq, x23_2, rfl, HA, HJ2, BK596, HB⟩ := hcut
  cases kq with
  | zero => exact absurd HA.out (by simp [impl_EdgeKind.j0])
  | succ kj2 =>
   have H := HA.out
   clear HA
   simp only [impl_EdgeKind.j0] at H
   by_cases c15 : x23_2 = true
   ·
    subst c15
    have H1 : (some (-1)) = some r := by rw [if_pos rfl] at H; exact H
    clear H
    have H := H1
    clear H1
    obtain rfl := Option.some.inj H
    go_wp2
    repeat (go_quiet (fail); try go_wp2)
    go_ret
    exact ⟨by first | rfl | (simp [errW_none, errW_some] <;> rfl) | (simp [*, errW_none, errW_some] <;> rfl), by repeat (first | (with_reducible first | exact HB.out | apply below_alloc | apply pw_below_drewN | apply below_drew1 | refine below_set ?_ GE596.out) | exact HB.out)⟩
   ·
    replace c15 := Bool.eq_false_iff.mpr c15
    subst c15
    have H1 : ((impl_edgesOf.f kj2 l0_0 l0_1).bind fun t598 => (if 0 ≤ a1 then (if a1 < (t598.length : Int) then ((impl_vertexOf.f kj2 l0_0 l0_1).bind fun t602 => (if 0 ≤ (rd t598 a1) then (if (rd t598 a1) < (t602.length : Int) then (if (rd t598 a1) < (l0_1.length : Int) then (if 0 ≤ (rd l0_1 (rd t598 a1)) then (if (rd l0_1 (rd t598 a1)) < (t602.length : Int) then (if (rd t602 (rd t598 a1)) = (rd t602 (rd l0_1 (rd t598 a1))) then (some 2) else ((impl_ChoiceRest.f kj2 l0_0 l0_1 (([a1] : List Int))).bind fun bt611 => ((impl_ribbon.f kj2 l0_0 l0_1 bt611.1).bind fun t615 => (if 0 < (t615.length : Int) then (if (rd t615 0) = 2 then (some 1) else (some 0)) else (none))))) else (none)) else (none)) else (none)) else (none)) else (none))) else (none)) else (none))) = some r := by rw [if_neg (show ¬ (false = true) by decide)] at H; exact H
    clear H
    have H := H1
    clear H1
    replace H := Option.bind_eq_some_iff.mp H
    obtain ⟨t598, A160, H⟩ := H
    replace H : (if 0 ≤ a1 then (if a1 < (t598.length : Int) then ((impl_vertexOf.f kj2 l0_0 l0_1).bind fun t602 => (if 0 ≤ (rd t598 a1) then (if (rd t598 a1) < (t602.length : Int) then (if (rd t598 a1) < (l0_1.length : Int) then (if 0 ≤ (rd l0_1 (rd t598 a1)) then (if (rd l0_1 (rd t598 a1)) < (t602.length : Int) then (if (rd t602 (rd t598 a1)) = (rd t602 (rd l0_1 (rd t598 a1))) then (some 2) else ((impl_ChoiceRest.f kj2 l0_0 l0_1 (([a1] : List Int))).bind fun bt611 => ((impl_ribbon.f kj2 l0_0 l0_1 bt611.1).bind fun t615 => (if 0 < (t615.length : Int) then (if (rd t615 0) = 2 then (some 1) else (some 0)) else (none))))) else (none)) else (none)) else (none)) else (none)) else (none))) else (none)) else (none)) = some r := H
    have A16 := Aside0.mk A160
    clear A160
    by_cases c17 : 0 ≤ a1
    ·
     rw [if_pos c17] at H
     have c17b0 : decide (0 ≤ a1) = true := decide_eq_true c17
     clear c17
     by_cases c18 : a1 < (t598.length : Int)
     ·
      rw [if_pos c18] at H
      have c18b0 : decide (a1 < (t598.length : Int)) = true := decide_eq_true c18
      clear c18
      replace H := Option.bind_eq_some_iff.mp H
      obtain ⟨t602, A190, H⟩ := H
      replace H : (if 0 ≤ (rd t598 a1) then (if (rd t598 a1) < (t602.length : Int) then (if (rd t598 a1) < (l0_1.length : Int) then (if 0 ≤ (rd l0_1 (rd t598 a1)) then (if (rd l0_1 (rd t598 a1)) < (t602.length : Int) then (if (rd t602 (rd t598 a1)) = (rd t602 (rd l0_1 (rd t598 a1))) then (some 2) else ((impl_ChoiceRest.f kj2 l0_0 l0_1 (([a1] : List Int))).bind fun bt611 => ((impl_ribbon.f kj2 l0_0 l0_1 bt611.1).bind fun t615 => (if 0 < (t615.length : Int) then (if (rd t615 0) = 2 then (some 1) else (some 0)) else (none))))) else (none)) else (none)) else (none)) else (none)) else (none)) = some r := H
      have A19 := Aside0.mk A190
      clear A190
      by_cases c20 : 0 ≤ (rd t598 a1)
      ·
       rw [if_pos c20] at H
       have c20b0 : decide (0 ≤ (rd t598 a1)) = true := decide_eq_true c20
       clear c20
       by_cases c21 : (rd t598 a1) < (t602.length : Int)
       ·
        rw [if_pos c21] at H
        have c21b0 : decide ((rd t598 a1) < (t602.length : Int)) = true := decide_eq_true c21
        clear c21
        by_cases c22 : (rd t598 a1) < (l0_1.length : Int)
        ·
         rw [if_pos c22] at H
         have c22b0 : decide ((rd t598 a1) < (l0_1.length : Int)) = true := decide_eq_true c22
         clear c22
         by_cases c23 : 0 ≤ (rd l0_1 (rd t598 a1))
         ·
          rw [if_pos c23] at H
          have c23b0 : decide (0 ≤ (rd l0_1 (rd t598 a1))) = true := decide_eq_true c23
          clear c23
          by_cases c24 : (rd l0_1 (rd t598 a1)) < (t602.length : Int)
          ·
           rw [if_pos c24] at H
           have c24b0 : decide ((rd l0_1 (rd t598 a1)) < (t602.length : Int)) = true := decide_eq_true c24
           clear c24
           by_cases c25 : (rd t602 (rd t598 a1)) = (rd t602 (rd l0_1 (rd t598 a1)))
           ·
            rw [if_pos c25] at H
            have c25b0 : ((rd t602 (rd t598 a1)) == (rd t602 (rd l0_1 (rd t598 a1)))) = true := beq_iff_eq.mpr c25
            have c25b1 : ((rd t602 (rd t598 a1)) != (rd t602 (rd l0_1 (rd t598 a1)))) = false := bne_eq_false_iff_eq.mpr c25
            clear c25
            obtain rfl := Option.some.inj H
            have hcz26_0 : wc.cell? ⟨gb596, 0, none⟩ = some (.slice A0_0 l0_0.length c0_0) := (blk_cell BK596.out 0).trans rfl
            have hcz26_1 : wc.cell? ⟨gb596, 1, none⟩ = some (.slice A0_1 l0_1.length c0_1) := (blk_cell BK596.out 1).trans rfl
            have hfz26_0 := blk_frozen BK596.out 0
            have hfz26_1 := blk_frozen BK596.out 1
            go_wp2_with (first | (go_at_call 74; (with_reducible refine (impl_edgesOf.calls kj2 _ _ l0_0 _ _ l0_1 t598 _ ?side1 ?side2 ?side3 ?side4 A16.out).mono ?_); (case side1 => repeat (first | exact (Kd.C_below HR0_0.out HB.out) | (with_reducible refine Kd.C_alloc ?_ _) | (with_reducible refine Kd.C_drewN ?_ _) | (with_reducible refine Kd.C_drew ?_))); (case side2 => exact HC0_0.out); (case side3 => repeat (first | exact (Kd.C_below HR0_1.out HB.out) | (with_reducible refine Kd.C_alloc ?_ _) | (with_reducible refine Kd.C_drewN ?_ _) | (with_reducible refine Kd.C_drew ?_))); (case side4 => exact HC0_1.out); rintro e w27 ⟨v599, rfl, ho0, hb⟩; have n0_ := Aside0.mk (Kd.R_lower ho0 (below_size (by repeat (first | (with_reducible first | exact HB.out | apply below_alloc | apply pw_below_drewN | apply below_drew1 | refine below_set ?_ GE596.out) | exact HB.out)))); have n1_ := Aside0.mk (blk_below (g := gb596) (o := .cells #[.slice A0_0 l0_0.length c0_0, .slice A0_1 l0_1.length c0_1] 27 (0, 0)) (by (with_reducible repeat (first | refine blk_drewN ?_ _ | refine blk_drew ?_ | refine blk_alloc ?_ _)); exact BK596.out) hb); have n2_ := Aside0.mk (below_step (by repeat (first | (with_reducible first | exact HB.out | apply below_alloc | apply pw_below_drewN | apply below_drew1 | refine below_set ?_ GE596.out) | exact HB.out)) hb); clear BK596 HB; have HO600 := n0_; have BK596 := n1_; have HB := n2_; clear n0_ n1_ n2_; (try clear hb); (try clear hb2); (try clear hk); (try clear hi); (try clear ho0); obtain ⟨Ao28, co28, eo28⟩ := Kd.R_slice HO600.out; subst eo28; have p601 : 0 ≤ (a1 : Int) := of_decide_eq_true (by first | (with_reducible assumption) | assumption); have q601 : a1 < (t598.length : Int) := of_decide_eq_true (by first | (with_reducible assumption) | assumption); obtain ⟨ad601, e601, hx601_0⟩ := Kd.at_int (Kd.R_reads' HO600.out).2.2 a1 p601 q601; cases e601; replace p601 := eq_true p601; replace q601 := eq_true q601; have hcz29_0 : w27.cell? ⟨gb596, 0, none⟩ = some (.slice A0_0 l0_0.length c0_0) := (blk_cell BK596.out 0).trans rfl; have hcz29_1 : w27.cell? ⟨gb596, 1, none⟩ = some (.slice A0_1 l0_1.length c0_1) := (blk_cell BK596.out 1).trans rfl; have hfz29_0 := blk_frozen BK596.out 0; have hfz29_1 := blk_frozen BK596.out 1) | (go_at_call 63; (with_reducible refine (impl_vertexOf.calls kj2 _ _ l0_0 _ _ l0_1 t602 _ ?side1 ?side2 ?side3 ?side4 A19.out).mono ?_); (case side1 => repeat (first | exact (Kd.C_below HR0_0.out HB.out) | (with_reducible refine Kd.C_alloc ?_ _) | (with_reducible refine Kd.C_drewN ?_ _) | (with_reducible refine Kd.C_drew ?_))); (case side2 => exact HC0_0.out); (case side3 => repeat (first | exact (Kd.C_below HR0_1.out HB.out) | (with_reducible refine Kd.C_alloc ?_ _) | (with_reducible refine Kd.C_drewN ?_ _) | (with_reducible refine Kd.C_drew ?_))); (case side4 => exact HC0_1.out); rintro e w30 ⟨v603, rfl, ho0, hb⟩; have n0_ := Aside0.mk (Kd.R_elder' (by (with_reducible repeat (first | apply Kd.R_alloc | apply Kd.R_drewN | apply Kd.R_drew)); exact HO600.out) (Kd.R_base ho0) hb); have n1_ := Aside0.mk (Kd.R_lower (Kd.R_new' ho0 (Kd.R_lt (by (with_reducible repeat (first | apply Kd.R_alloc | apply Kd.R_drewN | apply Kd.R_drew)); exact HO600.out))) (below_size (by repeat (first | (with_reducible first | exact HB.out | apply below_alloc | apply pw_below_drewN | apply below_drew1 | refine below_set ?_ GE596.out) | exact HB.out)))); have n2_ := Aside0.mk (blk_below (g := gb596) (o := .cells #[.slice A0_0 l0_0.length c0_0, .slice A0_1 l0_1.length c0_1] 27 (0, 0)) (by (with_reducible repeat (first | refine blk_drewN ?_ _ | refine blk_drew ?_ | refine blk_alloc ?_ _)); exact BK596.out) hb); have n3_ := Aside0.mk (below_step (by repeat (first | (with_reducible first | exact HB.out | apply below_alloc | apply pw_below_drewN | apply below_drew1 | refine below_set ?_ GE596.out) | exact HB.out)) hb); clear HO600 BK596 HB; have HO600 := n0_; have HO604 := n1_; have BK596 := n2_; have HB := n3_; clear n0_ n1_ n2_ n3_; (try clear hb); (try clear hb2); (try clear hk); (try clear hi); (try clear ho0); obtain ⟨Ao31, co31, eo31⟩ := Kd.R_slice HO604.out; subst eo31; have p605 : 0 ≤ ((rd t598 a1) : Int) := of_decide_eq_true (by first | (with_reducible assumption) | assumption); have q605 : (rd t598 a1) < (t602.length : Int) := of_decide_eq_true (by first | (with_reducible assumption) | assumption); obtain ⟨ad605, e605, hx605_0⟩ := Kd.at_int (Kd.R_reads' HO604.out).2.2 (rd t598 a1) p605 q605; cases e605; replace p605 := eq_true p605; replace q605 := eq_true q605; have hcz32_0 : w30.cell? ⟨gb596, 0, none⟩ = some (.slice A0_0 l0_0.length c0_0) := (blk_cell BK596.out 0).trans rfl; have hcz32_1 : w30.cell? ⟨gb596, 1, none⟩ = some (.slice A0_1 l0_1.length c0_1) := (blk_cell BK596.out 1).trans rfl; have hfz32_0 := blk_frozen BK596.out 0; have hfz32_1 := blk_frozen BK596.out 1; have p606 : 0 ≤ ((rd t598 a1) : Int) := of_decide_eq_true (by first | (with_reducible assumption) | assumption); have q606 : (rd t598 a1) < (l0_1.length : Int) := of_decide_eq_true (by first | (with_reducible assumption) | assumption); obtain ⟨ad606, e606, hx606_0⟩ := Kd.at_int HR0_1.out (rd t598 a1) p606 q606; cases e606; replace hx606_0 := (HB.out.cell (World.block_lt_of_cell? w _ hx606_0)).trans hx606_0; replace p606 := eq_true p606; replace q606 := eq_true q606; have p607 : 0 ≤ ((rd l0_1 (rd t598 a1)) : Int) := of_decide_eq_true (by first | (with_reducible assumption) | assumption); have q607 : (rd l0_1 (rd t598 a1)) < (t602.length : Int) := of_decide_eq_true (by first | (with_reducible assumption) | assumption); obtain ⟨ad607, e607, hx607_0⟩ := Kd.at_int (Kd.R_reads' HO604.out).2.2 (rd l0_1 (rd t598 a1)) p607 q607; obtain rfl : ad605 = ad607 := (by injection e607); replace p607 := eq_true p607; replace q607 := eq_true q607))
            repeat (go_quiet (first | (go_at_call 74; (try simp only [Go.IntWalk.i64_left]); (with_reducible refine (impl_edgesOf.calls kj2 _ _ l0_0 _ _ l0_1 t598 _ ?side1 ?side2 ?side3 ?side4 A16.out).mono ?_); (case side1 => repeat (first | exact (Kd.C_below HR0_0.out HB.out) | (with_reducible refine Kd.C_alloc ?_ _) | (with_reducible refine Kd.C_drewN ?_ _) | (with_reducible refine Kd.C_drew ?_))); (case side2 => exact HC0_0.out); (case side3 => repeat (first | exact (Kd.C_below HR0_1.out HB.out) | (with_reducible refine Kd.C_alloc ?_ _) | (with_reducible refine Kd.C_drewN ?_ _) | (with_reducible refine Kd.C_drew ?_))); (case side4 => exact HC0_1.out); rintro e w27 ⟨v599, rfl, ho0, hb⟩; have n0_ := Aside0.mk (Kd.R_lower ho0 (below_size (by repeat (first | (with_reducible first | exact HB.out | apply below_alloc | apply pw_below_drewN | apply below_drew1 | refine below_set ?_ GE596.out) | exact HB.out)))); have n1_ := Aside0.mk (blk_below (g := gb596) (o := .cells #[.slice A0_0 l0_0.length c0_0, .slice A0_1 l0_1.length c0_1] 27 (0, 0)) (by (with_reducible repeat (first | refine blk_drewN ?_ _ | refine blk_drew ?_ | refine blk_alloc ?_ _)); exact BK596.out) hb); have n2_ := Aside0.mk (below_step (by repeat (first | (with_reducible first | exact HB.out | apply below_alloc | apply pw_below_drewN | apply below_drew1 | refine below_set ?_ GE596.out) | exact HB.out)) hb); clear BK596 HB; have HO600 := n0_; have BK596 := n1_; have HB := n2_; clear n0_ n1_ n2_; (try clear hb); (try clear hb2); (try clear hk); (try clear hi); (try clear ho0); obtain ⟨Ao28, co28, eo28⟩ := Kd.R_slice HO600.out; subst eo28; have p601 : 0 ≤ (a1 : Int) := of_decide_eq_true (by first | (with_reducible assumption) | assumption); have q601 : a1 < (t598.length : Int) := of_decide_eq_true (by first | (with_reducible assumption) | assumption); obtain ⟨ad601, e601, hx601_0⟩ := Kd.at_int (Kd.R_reads' HO600.out).2.2 a1 p601 q601; cases e601; replace p601 := eq_true p601; replace q601 := eq_true q601; have hcz29_0 : w27.cell? ⟨gb596, 0, none⟩ = some (.slice A0_0 l0_0.length c0_0) := (blk_cell BK596.out 0).trans rfl; have hcz29_1 : w27.cell? ⟨gb596, 1, none⟩ = some (.slice A0_1 l0_1.length c0_1) := (blk_cell BK596.out 1).trans rfl; have hfz29_0 := blk_frozen BK596.out 0; have hfz29_1 := blk_frozen BK596.out 1) | (go_at_call 63; (try simp only [Go.IntWalk.i64_left]); (with_reducible refine (impl_vertexOf.calls kj2 _ _ l0_0 _ _ l0_1 t602 _ ?side1 ?side2 ?side3 ?side4 A19.out).mono ?_); (case side1 => repeat (first | exact (Kd.C_below HR0_0.out HB.out) | (with_reducible refine Kd.C_alloc ?_ _) | (with_reducible refine Kd.C_drewN ?_ _) | (with_reducible refine Kd.C_drew ?_))); (case side2 => exact HC0_0.out); (case side3 => repeat (first | exact (Kd.C_below HR0_1.out HB.out) | (with_reducible refine Kd.C_alloc ?_ _) | (with_reducible refine Kd.C_drewN ?_ _) | (with_reducible refine Kd.C_drew ?_))); (case side4 => exact HC0_1.out); rintro e w30 ⟨v603, rfl, ho0, hb⟩; have n0_ := Aside0.mk (Kd.R_elder' (by (with_reducible repeat (first | apply Kd.R_alloc | apply Kd.R_drewN | apply Kd.R_drew)); exact HO600.out) (Kd.R_base ho0) hb); have n1_ := Aside0.mk (Kd.R_lower (Kd.R_new' ho0 (Kd.R_lt (by (with_reducible repeat (first | apply Kd.R_alloc | apply Kd.R_drewN | apply Kd.R_drew)); exact HO600.out))) (below_size (by repeat (first | (with_reducible first | exact HB.out | apply below_alloc | apply pw_below_drewN | apply below_drew1 | refine below_set ?_ GE596.out) | exact HB.out)))); have n2_ := Aside0.mk (blk_below (g := gb596) (o := .cells #[.slice A0_0 l0_0.length c0_0, .slice A0_1 l0_1.length c0_1] 27 (0, 0)) (by (with_reducible repeat (first | refine blk_drewN ?_ _ | refine blk_drew ?_ | refine blk_alloc ?_ _)); exact BK596.out) hb); have n3_ := Aside0.mk (below_step (by repeat (first | (with_reducible first | exact HB.out | apply below_alloc | apply pw_below_drewN | apply below_drew1 | refine below_set ?_ GE596.out) | exact HB.out)) hb); clear HO600 BK596 HB; have HO600 := n0_; have HO604 := n1_; have BK596 := n2_; have HB := n3_; clear n0_ n1_ n2_ n3_; (try clear hb); (try clear hb2); (try clear hk); (try clear hi); (try clear ho0); obtain ⟨Ao31, co31, eo31⟩ := Kd.R_slice HO604.out; subst eo31; have p605 : 0 ≤ ((rd t598 a1) : Int) := of_decide_eq_true (by first | (with_reducible assumption) | assumption); have q605 : (rd t598 a1) < (t602.length : Int) := of_decide_eq_true (by first | (with_reducible assumption) | assumption); obtain ⟨ad605, e605, hx605_0⟩ := Kd.at_int (Kd.R_reads' HO604.out).2.2 (rd t598 a1) p605 q605; cases e605; replace p605 := eq_true p605; replace q605 := eq_true q605; have hcz32_0 : w30.cell? ⟨gb596, 0, none⟩ = some (.slice A0_0 l0_0.length c0_0) := (blk_cell BK596.out 0).trans rfl; have hcz32_1 : w30.cell? ⟨gb596, 1, none⟩ = some (.slice A0_1 l0_1.length c0_1) := (blk_cell BK596.out 1).trans rfl; have hfz32_0 := blk_frozen BK596.out 0; have hfz32_1 := blk_frozen BK596.out 1; have p606 : 0 ≤ ((rd t598 a1) : Int) := of_decide_eq_true (by first | (with_reducible assumption) | assumption); have q606 : (rd t598 a1) < (l0_1.length : Int) := of_decide_eq_true (by first | (with_reducible assumption) | assumption); obtain ⟨ad606, e606, hx606_0⟩ := Kd.at_int HR0_1.out (rd t598 a1) p606 q606; cases e606; replace hx606_0 := (HB.out.cell (World.block_lt_of_cell? w _ hx606_0)).trans hx606_0; replace p606 := eq_true p606; replace q606 := eq_true q606; have p607 : 0 ≤ ((rd l0_1 (rd t598 a1)) : Int) := of_decide_eq_true (by first | (with_reducible assumption) | assumption); have q607 : (rd l0_1 (rd t598 a1)) < (t602.length : Int) := of_decide_eq_true (by first | (with_reducible assumption) | assumption); obtain ⟨ad607, e607, hx607_0⟩ := Kd.at_int (Kd.R_reads' HO604.out).2.2 (rd l0_1 (rd t598 a1)) p607 q607; obtain rfl : ad605 = ad607 := (by injection e607); replace p607 := eq_true p607; replace q607 := eq_true q607)); try go_wp2_with (first | (go_at_call 74; (try simp only [Go.IntWalk.i64_left]); (with_reducible refine (impl_edgesOf.calls kj2 _ _ l0_0 _ _ l0_1 t598 _ ?side1 ?side2 ?side3 ?side4 A16.out).mono ?_); (case side1 => repeat (first | exact (Kd.C_below HR0_0.out HB.out) | (with_reducible refine Kd.C_alloc ?_ _) | (with_reducible refine Kd.C_drewN ?_ _) | (with_reducible refine Kd.C_drew ?_))); (case side2 => exact HC0_0.out); (case side3 => repeat (first | exact (Kd.C_below HR0_1.out HB.out) | (with_reducible refine Kd.C_alloc ?_ _) | (with_reducible refine Kd.C_drewN ?_ _) | (with_reducible refine Kd.C_drew ?_))); (case side4 => exact HC0_1.out); rintro e w27 ⟨v599, rfl, ho0, hb⟩; have n0_ := Aside0.mk (Kd.R_lower ho0 (below_size (by repeat (first | (with_reducible first | exact HB.out | apply below_alloc | apply pw_below_drewN | apply below_drew1 | refine below_set ?_ GE596.out) | exact HB.out)))); have n1_ := Aside0.mk (blk_below (g := gb596) (o := .cells #[.slice A0_0 l0_0.length c0_0, .slice A0_1 l0_1.length c0_1] 27 (0, 0)) (by (with_reducible repeat (first | refine blk_drewN ?_ _ | refine blk_drew ?_ | refine blk_alloc ?_ _)); exact BK596.out) hb); have n2_ := Aside0.mk (below_step (by repeat (first | (with_reducible first | exact HB.out | apply below_alloc | apply pw_below_drewN | apply below_drew1 | refine below_set ?_ GE596.out) | exact HB.out)) hb); clear BK596 HB; have HO600 := n0_; have BK596 := n1_; have HB := n2_; clear n0_ n1_ n2_; (try clear hb); (try clear hb2); (try clear hk); (try clear hi); (try clear ho0); obtain ⟨Ao28, co28, eo28⟩ := Kd.R_slice HO600.out; subst eo28; have p601 : 0 ≤ (a1 : Int) := of_decide_eq_true (by first | (with_reducible assumption) | assumption); have q601 : a1 < (t598.length : Int) := of_decide_eq_true (by first | (with_reducible assumption) | assumption); obtain ⟨ad601, e601, hx601_0⟩ := Kd.at_int (Kd.R_reads' HO600.out).2.2 a1 p601 q601; cases e601; replace p601 := eq_true p601; replace q601 := eq_true q601; have hcz29_0 : w27.cell? ⟨gb596, 0, none⟩ = some (.slice A0_0 l0_0.length c0_0) := (blk_cell BK596.out 0).trans rfl; have hcz29_1 : w27.cell? ⟨gb596, 1, none⟩ = some (.slice A0_1 l0_1.length c0_1) := (blk_cell BK596.out 1).trans rfl; have hfz29_0 := blk_frozen BK596.out 0; have hfz29_1 := blk_frozen BK596.out 1) | (go_at_call 63; (try simp only [Go.IntWalk.i64_left]); (with_reducible refine (impl_vertexOf.calls kj2 _ _ l0_0 _ _ l0_1 t602 _ ?side1 ?side2 ?side3 ?side4 A19.out).mono ?_); (case side1 => repeat (first | exact (Kd.C_below HR0_0.out HB.out) | (with_reducible refine Kd.C_alloc ?_ _) | (with_reducible refine Kd.C_drewN ?_ _) | (with_reducible refine Kd.C_drew ?_))); (case side2 => exact HC0_0.out); (case side3 => repeat (first | exact (Kd.C_below HR0_1.out HB.out) | (with_reducible refine Kd.C_alloc ?_ _) | (with_reducible refine Kd.C_drewN ?_ _) | (with_reducible refine Kd.C_drew ?_))); (case side4 => exact HC0_1.out); rintro e w30 ⟨v603, rfl, ho0, hb⟩; have n0_ := Aside0.mk (Kd.R_elder' (by (with_reducible repeat (first | apply Kd.R_alloc | apply Kd.R_drewN | apply Kd.R_drew)); exact HO600.out) (Kd.R_base ho0) hb); have n1_ := Aside0.mk (Kd.R_lower (Kd.R_new' ho0 (Kd.R_lt (by (with_reducible repeat (first | apply Kd.R_alloc | apply Kd.R_drewN | apply Kd.R_drew)); exact HO600.out))) (below_size (by repeat (first | (with_reducible first | exact HB.out | apply below_alloc | apply pw_below_drewN | apply below_drew1 | refine below_set ?_ GE596.out) | exact HB.out)))); have n2_ := Aside0.mk (blk_below (g := gb596) (o := .cells #[.slice A0_0 l0_0.length c0_0, .slice A0_1 l0_1.length c0_1] 27 (0, 0)) (by (with_reducible repeat (first | refine blk_drewN ?_ _ | refine blk_drew ?_ | refine blk_alloc ?_ _)); exact BK596.out) hb); have n3_ := Aside0.mk (below_step (by repeat (first | (with_reducible first | exact HB.out | apply below_alloc | apply pw_below_drewN | apply below_drew1 | refine below_set ?_ GE596.out) | exact HB.out)) hb); clear HO600 BK596 HB; have HO600 := n0_; have HO604 := n1_; have BK596 := n2_; have HB := n3_; clear n0_ n1_ n2_ n3_; (try clear hb); (try clear hb2); (try clear hk); (try clear hi); (try clear ho0); obtain ⟨Ao31, co31, eo31⟩ := Kd.R_slice HO604.out; subst eo31; have p605 : 0 ≤ ((rd t598 a1) : Int) := of_decide_eq_true (by first | (with_reducible assumption) | assumption); have q605 : (rd t598 a1) < (t602.length : Int) := of_decide_eq_true (by first | (with_reducible assumption) | assumption); obtain ⟨ad605, e605, hx605_0⟩ := Kd.at_int (Kd.R_reads' HO604.out).2.2 (rd t598 a1) p605 q605; cases e605; replace p605 := eq_true p605; replace q605 := eq_true q605; have hcz32_0 : w30.cell? ⟨gb596, 0, none⟩ = some (.slice A0_0 l0_0.length c0_0) := (blk_cell BK596.out 0).trans rfl; have hcz32_1 : w30.cell? ⟨gb596, 1, none⟩ = some (.slice A0_1 l0_1.length c0_1) := (blk_cell BK596.out 1).trans rfl; have hfz32_0 := blk_frozen BK596.out 0; have hfz32_1 := blk_frozen BK596.out 1; have p606 : 0 ≤ ((rd t598 a1) : Int) := of_decide_eq_true (by first | (with_reducible assumption) | assumption); have q606 : (rd t598 a1) < (l0_1.length : Int) := of_decide_eq_true (by first | (with_reducible assumption) | assumption); obtain ⟨ad606, e606, hx606_0⟩ := Kd.at_int HR0_1.out (rd t598 a1) p606 q606; cases e606; replace hx606_0 := (HB.out.cell (World.block_lt_of_cell? w _ hx606_0)).trans hx606_0; replace p606 := eq_true p606; replace q606 := eq_true q606; have p607 : 0 ≤ ((rd l0_1 (rd t598 a1)) : Int) := of_decide_eq_true (by first | (with_reducible assumption) | assumption); have q607 : (rd l0_1 (rd t598 a1)) < (t602.length : Int) := of_decide_eq_true (by first | (with_reducible assumption) | assumption); obtain ⟨ad607, e607, hx607_0⟩ := Kd.at_int (Kd.R_reads' HO604.out).2.2 (rd l0_1 (rd t598 a1)) p607 q607; obtain rfl : ad605 = ad607 := (by injection e607); replace p607 := eq_true p607; replace q607 := eq_true q607)))
            go_ret
            exact ⟨by first | rfl | (simp [errW_none, errW_some] <;> rfl) | (simp [*, errW_none, errW_some] <;> rfl), by repeat (first | (with_reducible first | exact HB.out | apply below_alloc | apply pw_below_drewN | apply below_drew1 | refine below_set ?_ GE596.out) | exact HB.out)⟩
           ·
            rw [if_neg c25] at H
            have c25b0 : ((rd t602 (rd t598 a1)) == (rd t602 (rd l0_1 (rd t598 a1)))) = false := beq_eq_false_iff_ne.mpr c25
            have c25b1 : ((rd t602 (rd t598 a1)) != (rd t602 (rd l0_1 (rd t598 a1)))) = true := bne_iff_ne.mpr c25
            obtain ⟨y608, hy608⟩ : ∃ y_ : List Int, y_ = (([a1] : List Int)) := ⟨_, rfl⟩
            replace H : ((impl_ChoiceRest.f kj2 l0_0 l0_1 y608).bind fun bt611 => ((impl_ribbon.f kj2 l0_0 l0_1 bt611.1).bind fun t615 => (if 0 < (t615.length : Int) then (if (rd t615 0) = 2 then (some 1) else (some 0)) else (none)))) = some r := by first | (rw [hy608]; with_reducible exact H) | (have H2_ := (Option.bind_some _ _).symm.trans H; rw [hy608]; with_reducible exact H2_) | (have H2_ := (Option.bind_some _ _).symm.trans H; with_reducible exact H2_) | with_reducible exact H | (rw [hy608]; exact H) | exact H
            have Ny608 := Aside0.mk hy608
            clear hy608
            replace H := Option.bind_eq_some_iff.mp H
            obtain ⟨⟨t611, t614⟩, A330, H⟩ := H
            replace H : ((impl_ribbon.f kj2 l0_0 l0_1 t611).bind fun t615 => (if 0 < (t615.length : Int) then (if (rd t615 0) = 2 then (some 1) else (some 0)) else (none))) = some r := H
            have A33 := Aside0.mk A330
            clear A330
            replace H := Option.bind_eq_some_iff.mp H
            obtain ⟨t615, A340, H⟩ := H
            replace H : (if 0 < (t615.length : Int) then (if (rd t615 0) = 2 then (some 1) else (some 0)) else (none)) = some r := H
            have A34 := Aside0.mk A340
            clear A340
            by_cases c35 : 0 < (t615.length : Int)
            ·
             rw [if_pos c35] at H
             have c35b0 : decide (0 < (t615.length : Int)) = true := decide_eq_true c35
             have c35b1 : decide (0 < t615.length) = true := decide_eq_true (by omega)
             clear c35
             by_cases c36 : (rd t615 0) = 2
             ·
              rw [if_pos c36] at H
              have c36b0 : ((rd t615 0) == 2) = true := beq_iff_eq.mpr c36
              have c36b1 : ((rd t615 0) != 2) = false := bne_eq_false_iff_eq.mpr c36
              clear c36
              obtain rfl := Option.some.inj H
              have hcz37_0 : wc.cell? ⟨gb596, 0, none⟩ = some (.slice A0_0 l0_0.length c0_0) := (blk_cell BK596.out 0).trans rfl
              have hcz37_1 : wc.cell? ⟨gb596, 1, none⟩ = some (.slice A0_1 l0_1.length c0_1) := (blk_cell BK596.out 1).trans rfl
              have hfz37_0 := blk_frozen BK596.out 0
              have hfz37_1 := blk_frozen BK596.out 1
              go_wp2_with (first | (go_at_call 74; (with_reducible refine (impl_edgesOf.calls kj2 _ _ l0_0 _ _ l0_1 t598 _ ?side1 ?side2 ?side3 ?side4 A16.out).mono ?_); (case side1 => repeat (first | exact (Kd.C_below HR0_0.out HB.out) | (with_reducible refine Kd.C_alloc ?_ _) | (with_reducible refine Kd.C_drewN ?_ _) | (with_reducible refine Kd.C_drew ?_))); (case side2 => exact HC0_0.out); (case side3 => repeat (first | exact (Kd.C_below HR0_1.out HB.out) | (with_reducible refine Kd.C_alloc ?_ _) | (with_reducible refine Kd.C_drewN ?_ _) | (with_reducible refine Kd.C_drew ?_))); (case side4 => exact HC0_1.out); rintro e w38 ⟨v599, rfl, ho0, hb⟩; have n0_ := Aside0.mk (Kd.R_lower ho0 (below_size (by repeat (first | (with_reducible first | exact HB.out | apply below_alloc | apply pw_below_drewN | apply below_drew1 | refine below_set ?_ GE596.out) | exact HB.out)))); have n1_ := Aside0.mk (blk_below (g := gb596) (o := .cells #[.slice A0_0 l0_0.length c0_0, .slice A0_1 l0_1.length c0_1] 27 (0, 0)) (by (with_reducible repeat (first | refine blk_drewN ?_ _ | refine blk_drew ?_ | refine blk_alloc ?_ _)); exact BK596.out) hb); have n2_ := Aside0.mk (below_step (by repeat (first | (with_reducible first | exact HB.out | apply below_alloc | apply pw_below_drewN | apply below_drew1 | refine below_set ?_ GE596.out) | exact HB.out)) hb); clear BK596 HB; have HO600 := n0_; have BK596 := n1_; have HB := n2_; clear n0_ n1_ n2_; (try clear hb); (try clear hb2); (try clear hk); (try clear hi); (try clear ho0); obtain ⟨Ao39, co39, eo39⟩ := Kd.R_slice HO600.out; subst eo39; have p601 : 0 ≤ (a1 : Int) := of_decide_eq_true (by first | (with_reducible assumption) | assumption); have q601 : a1 < (t598.length : Int) := of_decide_eq_true (by first | (with_reducible assumption) | assumption); obtain ⟨ad601, e601, hx601_0⟩ := Kd.at_int (Kd.R_reads' HO600.out).2.2 a1 p601 q601; cases e601; replace p601 := eq_true p601; replace q601 := eq_true q601; have hcz40_0 : w38.cell? ⟨gb596, 0, none⟩ = some (.slice A0_0 l0_0.length c0_0) := (blk_cell BK596.out 0).trans rfl; have hcz40_1 : w38.cell? ⟨gb596, 1, none⟩ = some (.slice A0_1 l0_1.length c0_1) := (blk_cell BK596.out 1).trans rfl; have hfz40_0 := blk_frozen BK596.out 0; have hfz40_1 := blk_frozen BK596.out 1) | (go_at_call 63; (with_reducible refine (impl_vertexOf.calls kj2 _ _ l0_0 _ _ l0_1 t602 _ ?side1 ?side2 ?side3 ?side4 A19.out).mono ?_); (case side1 => repeat (first | exact (Kd.C_below HR0_0.out HB.out) | (with_reducible refine Kd.C_alloc ?_ _) | (with_reducible refine Kd.C_drewN ?_ _) | (with_reducible refine Kd.C_drew ?_))); (case side2 => exact HC0_0.out); (case side3 => repeat (first | exact (Kd.C_below HR0_1.out HB.out) | (with_reducible refine Kd.C_alloc ?_ _) | (with_reducible refine Kd.C_drewN ?_ _) | (with_reducible refine Kd.C_drew ?_))); (case side4 => exact HC0_1.out); rintro e w41 ⟨v603, rfl, ho0, hb⟩; have n0_ := Aside0.mk (Kd.R_elder' (by (with_reducible repeat (first | apply Kd.R_alloc | apply Kd.R_drewN | apply Kd.R_drew)); exact HO600.out) (Kd.R_base ho0) hb); have n1_ := Aside0.mk (Kd.R_lower (Kd.R_new' ho0 (Kd.R_lt (by (with_reducible repeat (first | apply Kd.R_alloc | apply Kd.R_drewN | apply Kd.R_drew)); exact HO600.out))) (below_size (by repeat (first | (with_reducible first | exact HB.out | apply below_alloc | apply pw_below_drewN | apply below_drew1 | refine below_set ?_ GE596.out) | exact HB.out)))); have n2_ := Aside0.mk (blk_below (g := gb596) (o := .cells #[.slice A0_0 l0_0.length c0_0, .slice A0_1 l0_1.length c0_1] 27 (0, 0)) (by (with_reducible repeat (first | refine blk_drewN ?_ _ | refine blk_drew ?_ | refine blk_alloc ?_ _)); exact BK596.out) hb); have n3_ := Aside0.mk (below_step (by repeat (first | (with_reducible first | exact HB.out | apply below_alloc | apply pw_below_drewN | apply below_drew1 | refine below_set ?_ GE596.out) | exact HB.out)) hb); clear HO600 BK596 HB; have HO600 := n0_; have HO604 := n1_; have BK596 := n2_; have HB := n3_; clear n0_ n1_ n2_ n3_; (try clear hb); (try clear hb2); (try clear hk); (try clear hi); (try clear ho0); obtain ⟨Ao42, co42, eo42⟩ := Kd.R_slice HO604.out; subst eo42; have p605 : 0 ≤ ((rd t598 a1) : Int) := of_decide_eq_true (by first | (with_reducible assumption) | assumption); have q605 : (rd t598 a1) < (t602.length : Int) := of_decide_eq_true (by first | (with_reducible assumption) | assumption); obtain ⟨ad605, e605, hx605_0⟩ := Kd.at_int (Kd.R_reads' HO604.out).2.2 (rd t598 a1) p605 q605; cases e605; replace p605 := eq_true p605; replace q605 := eq_true q605; have hcz43_0 : w41.cell? ⟨gb596, 0, none⟩ = some (.slice A0_0 l0_0.length c0_0) := (blk_cell BK596.out 0).trans rfl; have hcz43_1 : w41.cell? ⟨gb596, 1, none⟩ = some (.slice A0_1 l0_1.length c0_1) := (blk_cell BK596.out 1).trans rfl; have hfz43_0 := blk_frozen BK596.out 0; have hfz43_1 := blk_frozen BK596.out 1; have p606 : 0 ≤ ((rd t598 a1) : Int) := of_decide_eq_true (by first | (with_reducible assumption) | assumption); have q606 : (rd t598 a1) < (l0_1.length : Int) := of_decide_eq_true (by first | (with_reducible assumption) | assumption); obtain ⟨ad606, e606, hx606_0⟩ := Kd.at_int HR0_1.out (rd t598 a1) p606 q606; cases e606; replace hx606_0 := (HB.out.cell (World.block_lt_of_cell? w _ hx606_0)).trans hx606_0; replace p606 := eq_true p606; replace q606 := eq_true q606; have p607 : 0 ≤ ((rd l0_1 (rd t598 a1)) : Int) := of_decide_eq_true (by first | (with_reducible assumption) | assumption); have q607 : (rd l0_1 (rd t598 a1)) < (t602.length : Int) := of_decide_eq_true (by first | (with_reducible assumption) | assumption); obtain ⟨ad607, e607, hx607_0⟩ := Kd.at_int (Kd.R_reads' HO604.out).2.2 (rd l0_1 (rd t598 a1)) p607 q607; obtain rfl : ad605 = ad607 := (by injection e607); replace p607 := eq_true p607; replace q607 := eq_true q607) | ((with_reducible refine gate_dst (N := 47) rfl ?_); (try (refine gate_guard (by rfl) ?_; dsimp only)); refine Kd.R_lit (Kd.int .i64) _ 3 ?hg (N := 47) ?hd (xs := ([a1] : List Int)) (inner := [.int .i64 a1]) (ok := fun _ => True) (okp := fun _ => True) ?hr ?hp (fun _ hk => hk) trivial (Below.refl _ _) (Nat.le_refl _) (by simp) ?_; (case hd => rfl); (case hg => rfl); (case hr => first | (go_simp; done) | (go_simp; rfl)); (case hp => exact (Reps.one (show Kd.M (Kd.int .i64) _ _ _ a1 [.int .i64 a1] from rfl) (Reps.none _ _))); intro v609 w44 ho45 hb hg_ hnew_; clear hg_ hnew_; (first | rw [← Ny608.out] at ho45 | (simp only [Int.reduceToNat] at ho45; rw [← Ny608.out] at ho45)); have n0_ := Aside0.mk (Kd.R_elder' (by (with_reducible repeat (first | apply Kd.R_alloc | apply Kd.R_drewN | apply Kd.R_drew)); exact HO600.out) (Kd.R_base ho45) hb); have n1_ := Aside0.mk (Kd.R_elder' (by (with_reducible repeat (first | apply Kd.R_alloc | apply Kd.R_drewN | apply Kd.R_drew)); exact HO604.out) (Kd.R_base ho45) hb); have n2_ := Aside0.mk (Kd.R_lower (Kd.R_new' (Kd.R_new' ho45 (Kd.R_lt (by (with_reducible repeat (first | apply Kd.R_alloc | apply Kd.R_drewN | apply Kd.R_drew)); exact HO600.out))) (Kd.R_lt (by (with_reducible repeat (first | apply Kd.R_alloc | apply Kd.R_drewN | apply Kd.R_drew)); exact HO604.out))) (below_size (by repeat (first | (with_reducible first | exact HB.out | apply below_alloc | apply pw_below_drewN | apply below_drew1 | refine below_set ?_ GE596.out) | exact HB.out)))); have n3_ := Aside0.mk (blk_below (g := gb596) (o := .cells #[.slice A0_0 l0_0.length c0_0, .slice (some ad606) l0_1.length c0_1] 27 (0, 0)) (by (with_reducible repeat (first | refine blk_drewN ?_ _ | refine blk_drew ?_ | refine blk_alloc ?_ _)); exact BK596.out) hb); have n4_ := Aside0.mk (below_step (by repeat (first | (with_reducible first | exact HB.out | apply below_alloc | apply pw_below_drewN | apply below_drew1 | refine below_set ?_ GE596.out) | exact HB.out)) hb); clear HO600 HO604 BK596 HB; have HO600 := n0_; have HO604 := n1_; have HO610 := n2_; have BK596 := n3_; have HB := n4_; clear n0_ n1_ n2_ n3_ n4_ hb ho45; obtain ⟨Ao46, co46, eo46⟩ := Kd.R_slice HO610.out; subst eo46) | (go_at_call 23; (with_reducible refine (impl_ChoiceRest.calls kj2 _ _ l0_0 _ _ l0_1 _ _ y608 t611 t614 _ ?side1 ?side2 ?side3 ?side4 ?side5 ?side6 A33.out).mono ?_); (case side1 => repeat (first | exact (Kd.C_below HR0_0.out HB.out) | (with_reducible refine Kd.C_alloc ?_ _) | (with_reducible refine Kd.C_drewN ?_ _) | (with_reducible refine Kd.C_drew ?_))); (case side2 => exact HC0_0.out); (case side3 => repeat (first | exact (Kd.C_below HR0_1.out HB.out) | (with_reducible refine Kd.C_alloc ?_ _) | (with_reducible refine Kd.C_drewN ?_ _) | (with_reducible refine Kd.C_drew ?_))); (case side4 => exact HC0_1.out); (case side5 => repeat (first | exact (Kd.R_reads' HO610.out).2.2 | (with_reducible refine Kd.C_alloc ?_ _) | (with_reducible refine Kd.C_drewN ?_ _) | (with_reducible refine Kd.C_drew ?_))); (case side6 => exact (Kd.R_reads' HO610.out).2.1); rintro e w47 ⟨v612, rfl, ho0, hb⟩; have n0_ := Aside0.mk (Kd.R_elder' (by (with_reducible repeat (first | apply Kd.R_alloc | apply Kd.R_drewN | apply Kd.R_drew)); exact HO600.out) (Kd.R_base ho0) hb); have n1_ := Aside0.mk (Kd.R_elder' (by (with_reducible repeat (first | apply Kd.R_alloc | apply Kd.R_drewN | apply Kd.R_drew)); exact HO604.out) (Kd.R_base ho0) hb); have n2_ := Aside0.mk (Kd.R_elder' (by (with_reducible repeat (first | apply Kd.R_alloc | apply Kd.R_drewN | apply Kd.R_drew)); exact HO610.out) (Kd.R_base ho0) hb); have n3_ := Aside0.mk (Kd.R_lower (Kd.R_new' (Kd.R_new' (Kd.R_new' ho0 (Kd.R_lt (by (with_reducible repeat (first | apply Kd.R_alloc | apply Kd.R_drewN | apply Kd.R_drew)); exact HO600.out))) (Kd.R_lt (by (with_reducible repeat (first | apply Kd.R_alloc | apply Kd.R_drewN | apply Kd.R_drew)); exact HO604.out))) (Kd.R_lt (by (with_reducible repeat (first | apply Kd.R_alloc | apply Kd.R_drewN | apply Kd.R_drew)); exact HO610.out))) (below_size (by repeat (first | (with_reducible first | exact HB.out | apply below_alloc | apply pw_below_drewN | apply below_drew1 | refine below_set ?_ GE596.out) | exact HB.out)))); have n4_ := Aside0.mk (blk_below (g := gb596) (o := .cells #[.slice A0_0 l0_0.length c0_0, .slice (some ad606) l0_1.length c0_1] 27 (0, 0)) (by (with_reducible repeat (first | refine blk_drewN ?_ _ | refine blk_drew ?_ | refine blk_alloc ?_ _)); exact BK596.out) hb); have n5_ := Aside0.mk (below_step (by repeat (first | (with_reducible first | exact HB.out | apply below_alloc | apply pw_below_drewN | apply below_drew1 | refine below_set ?_ GE596.out) | exact HB.out)) hb); clear HO600 HO604 HO610 BK596 HB; have HO600 := n0_; have HO604 := n1_; have HO610 := n2_; have HO613 := n3_; have BK596 := n4_; have HB := n5_; clear n0_ n1_ n2_ n3_ n4_ n5_; (try clear hb); (try clear hb2); (try clear hk); (try clear hi); (try clear ho0); have hcz48_0 : w47.cell? ⟨gb596, 0, none⟩ = some (.slice A0_0 l0_0.length c0_0) := (blk_cell BK596.out 0).trans rfl; have hcz48_1 : w47.cell? ⟨gb596, 1, none⟩ = some (.slice (some ad606) l0_1.length c0_1) := (blk_cell BK596.out 1).trans rfl; have hfz48_0 := blk_frozen BK596.out 0; have hfz48_1 := blk_frozen BK596.out 1; obtain ⟨Ao49, co49, eo49⟩ := Kd.R_slice HO613.out; subst eo49) | (go_at_call 66; (with_reducible refine (impl_ribbon.calls kj2 (fun k_ => k_ < w.heap.size) _ _ l0_0 _ _ l0_1 _ _ t611 t615 _ ?side1 ?side2 ?side3 ?side4 ?side5 A34.out).mono ?_); (case side1 => exact Kd.V_mk HC0_0.out (Kd.F_below (Kd.C_F (Kd.heap_int .i64) HR0_0.out) (by repeat (first | (with_reducible first | exact HB.out | apply below_alloc | apply pw_below_drewN | apply below_drew1 | refine below_set ?_ GE596.out) | exact HB.out)))); (case side2 => repeat (first | exact (Kd.C_below HR0_1.out HB.out) | (with_reducible refine Kd.C_alloc ?_ _) | (with_reducible refine Kd.C_drewN ?_ _) | (with_reducible refine Kd.C_drew ?_))); (case side3 => exact HC0_1.out); (case side4 => repeat (first | exact (Kd.R_reads' HO613.out).2.2 | (with_reducible refine Kd.C_alloc ?_ _) | (with_reducible refine Kd.C_drewN ?_ _) | (with_reducible refine Kd.C_drew ?_))); (case side5 => exact (Kd.R_reads' HO613.out).2.1); rintro e w50 ⟨v616, rfl, ho0, hb⟩; have n0_ := Aside0.mk (Kd.R_elder' (by (with_reducible repeat (first | apply Kd.R_alloc | apply Kd.R_drewN | apply Kd.R_drew)); exact HO600.out) (Kd.R_base ho0) hb); have n1_ := Aside0.mk (Kd.R_elder' (by (with_reducible repeat (first | apply Kd.R_alloc | apply Kd.R_drewN | apply Kd.R_drew)); exact HO604.out) (Kd.R_base ho0) hb); have n2_ := Aside0.mk (Kd.R_elder' (by (with_reducible repeat (first | apply Kd.R_alloc | apply Kd.R_drewN | apply Kd.R_drew)); exact HO610.out) (Kd.R_base ho0) hb); have n3_ := Aside0.mk (Kd.R_elder' (by (with_reducible repeat (first | apply Kd.R_alloc | apply Kd.R_drewN | apply Kd.R_drew)); exact HO613.out) (Kd.R_base ho0) hb); have n4_ := Aside0.mk (Kd.R_lower (Kd.R_new' (Kd.R_new' (Kd.R_new' (Kd.R_new' (Kd.R_mono (ok' := fun k_ => True) ho0 (fun _ hk_ => trivial)) (Kd.R_lt (by (with_reducible repeat (first | apply Kd.R_alloc | apply Kd.R_drewN | apply Kd.R_drew)); exact HO600.out))) (Kd.R_lt (by (with_reducible repeat (first | apply Kd.R_alloc | apply Kd.R_drewN | apply Kd.R_drew)); exact HO604.out))) (Kd.R_lt (by (with_reducible repeat (first | apply Kd.R_alloc | apply Kd.R_drewN | apply Kd.R_drew)); exact HO610.out))) (Kd.R_lt (by (with_reducible repeat (first | apply Kd.R_alloc | apply Kd.R_drewN | apply Kd.R_drew)); exact HO613.out))) (below_size (by repeat (first | (with_reducible first | exact HB.out | apply below_alloc | apply pw_below_drewN | apply below_drew1 | refine below_set ?_ GE596.out) | exact HB.out)))); have n5_ := Aside0.mk (blk_below (g := gb596) (o := .cells #[.slice A0_0 l0_0.length c0_0, .slice (some ad606) l0_1.length c0_1] 27 (0, 0)) (by (with_reducible repeat (first | refine blk_drewN ?_ _ | refine blk_drew ?_ | refine blk_alloc ?_ _)); exact BK596.out) hb); have n6_ := Aside0.mk (below_step (by repeat (first | (with_reducible first | exact HB.out | apply below_alloc | apply pw_below_drewN | apply below_drew1 | refine below_set ?_ GE596.out) | exact HB.out)) hb); clear HO600 HO604 HO610 HO613 BK596 HB; have HO600 := n0_; have HO604 := n1_; have HO610 := n2_; have HO613 := n3_; have HO617 := n4_; have BK596 := n5_; have HB := n6_; clear n0_ n1_ n2_ n3_ n4_ n5_ n6_; (try clear hb); (try clear hb2); (try clear hk); (try clear hi); (try clear ho0); obtain ⟨Ao51, co51, eo51⟩ := Kd.R_slice HO617.out; subst eo51; have p618 : 0 ≤ (0 : Int) := (by omega); have q618 : 0 < (t615.length : Int) := of_decide_eq_true (by first | (with_reducible assumption) | assumption); obtain ⟨ad618, e618, hx618_0⟩ := Kd.at_int (Kd.R_reads' HO617.out).2.2 0 p618 q618; cases e618; have qi618 : (0 < t615.length) = True := eq_true (by omega); (try rw [show ((0 : Int)).toNat = 0 from rfl] at hx618_0); (try rw [Addr.add_zero'] at hx618_0); replace p618 := eq_true p618; replace q618 := eq_true q618))
              repeat (go_quiet (first | (go_at_call 74; (try simp only [Go.IntWalk.i64_left]); (with_reducible refine (impl_edgesOf.calls kj2 _ _ l0_0 _ _ l0_1 t598 _ ?side1 ?side2 ?side3 ?side4 A16.out).mono ?_); (case side1 => repeat (first | exact (Kd.C_below HR0_0.out HB.out) | (with_reducible refine Kd.C_alloc ?_ _) | (with_reducible refine Kd.C_drewN ?_ _) | (with_reducible refine Kd.C_drew ?_))); (case side2 => exact HC0_0.out); (case side3 => repeat (first | exact (Kd.C_below HR0_1.out HB.out) | (with_reducible refine Kd.C_alloc ?_ _) | (with_reducible refine Kd.C_drewN ?_ _) | (with_reducible refine Kd.C_drew ?_))); (case side4 => exact HC0_1.out); rintro e w38 ⟨v599, rfl, ho0, hb⟩; have n0_ := Aside0.mk (Kd.R_lower ho0 (below_size (by repeat (first | (with_reducible first | exact HB.out | apply below_alloc | apply pw_below_drewN | apply below_drew1 | refine below_set ?_ GE596.out) | exact HB.out)))); have n1_ := Aside0.mk (blk_below (g := gb596) (o := .cells #[.slice A0_0 l0_0.length c0_0, .slice A0_1 l0_1.length c0_1] 27 (0, 0)) (by (with_reducible repeat (first | refine blk_drewN ?_ _ | refine blk_drew ?_ | refine blk_alloc ?_ _)); exact BK596.out) hb); have n2_ := Aside0.mk (below_step (by repeat (first | (with_reducible first | exact HB.out | apply below_alloc | apply pw_below_drewN | apply below_drew1 | refine below_set ?_ GE596.out) | exact HB.out)) hb); clear BK596 HB; have HO600 := n0_; have BK596 := n1_; have HB := n2_; clear n0_ n1_ n2_; (try clear hb); (try clear hb2); (try clear hk); (try clear hi); (try clear ho0); obtain ⟨Ao39, co39, eo39⟩ := Kd.R_slice HO600.out; subst eo39; have p601 : 0 ≤ (a1 : Int) := of_decide_eq_true (by first | (with_reducible assumption) | assumption); have q601 : a1 < (t598.length : Int) := of_decide_eq_true (by first | (with_reducible assumption) | assumption); obtain ⟨ad601, e601, hx601_0⟩ := Kd.at_int (Kd.R_reads' HO600.out).2.2 a1 p601 q601; cases e601; replace p601 := eq_true p601; replace q601 := eq_true q601; have hcz40_0 : w38.cell? ⟨gb596, 0, none⟩ = some (.slice A0_0 l0_0.length c0_0) := (blk_cell BK596.out 0).trans rfl; have hcz40_1 : w38.cell? ⟨gb596, 1, none⟩ = some (.slice A0_1 l0_1.length c0_1) := (blk_cell BK596.out 1).trans rfl; have hfz40_0 := blk_frozen BK596.out 0; have hfz40_1 := blk_frozen BK596.out 1) | (go_at_call 63; (try simp only [Go.IntWalk.i64_left]); (with_reducible refine (impl_vertexOf.calls kj2 _ _ l0_0 _ _ l0_1 t602 _ ?side1 ?side2 ?side3 ?side4 A19.out).mono ?_); (case side1 => repeat (first | exact (Kd.C_below HR0_0.out HB.out) | (with_reducible refine Kd.C_alloc ?_ _) | (with_reducible refine Kd.C_drewN ?_ _) | (with_reducible refine Kd.C_drew ?_))); (case side2 => exact HC0_0.out); (case side3 => repeat (first | exact (Kd.C_below HR0_1.out HB.out) | (with_reducible refine Kd.C_alloc ?_ _) | (with_reducible refine Kd.C_drewN ?_ _) | (with_reducible refine Kd.C_drew ?_))); (case side4 => exact HC0_1.out); rintro e w41 ⟨v603, rfl, ho0, hb⟩; have n0_ := Aside0.mk (Kd.R_elder' (by (with_reducible repeat (first | apply Kd.R_alloc | apply Kd.R_drewN | apply Kd.R_drew)); exact HO600.out) (Kd.R_base ho0) hb); have n1_ := Aside0.mk (Kd.R_lower (Kd.R_new' ho0 (Kd.R_lt (by (with_reducible repeat (first | apply Kd.R_alloc | apply Kd.R_drewN | apply Kd.R_drew)); exact HO600.out))) (below_size (by repeat (first | (with_reducible first | exact HB.out | apply below_alloc | apply pw_below_drewN | apply below_drew1 | refine below_set ?_ GE596.out) | exact HB.out)))); have n2_ := Aside0.mk (blk_below (g := gb596) (o := .cells #[.slice A0_0 l0_0.length c0_0, .slice A0_1 l0_1.length c0_1] 27 (0, 0)) (by (with_reducible repeat (first | refine blk_drewN ?_ _ | refine blk_drew ?_ | refine blk_alloc ?_ _)); exact BK596.out) hb); have n3_ := Aside0.mk (below_step (by repeat (first | (with_reducible first | exact HB.out | apply below_alloc | apply pw_below_drewN | apply below_drew1 | refine below_set ?_ GE596.out) | exact HB.out)) hb); clear HO600 BK596 HB; have HO600 := n0_; have HO604 := n1_; have BK596 := n2_; have HB := n3_; clear n0_ n1_ n2_ n3_; (try clear hb); (try clear hb2); (try clear hk); (try clear hi); (try clear ho0); obtain ⟨Ao42, co42, eo42⟩ := Kd.R_slice HO604.out; subst eo42; have p605 : 0 ≤ ((rd t598 a1) : Int) := of_decide_eq_true (by first | (with_reducible assumption) | assumption); have q605 : (rd t598 a1) < (t602.length : Int) := of_decide_eq_true (by first | (with_reducible assumption) | assumption); obtain ⟨ad605, e605, hx605_0⟩ := Kd.at_int (Kd.R_reads' HO604.out).2.2 (rd t598 a1) p605 q605; cases e605; replace p605 := eq_true p605; replace q605 := eq_true q605; have hcz43_0 : w41.cell? ⟨gb596, 0, none⟩ = some (.slice A0_0 l0_0.length c0_0) := (blk_cell BK596.out 0).trans rfl; have hcz43_1 : w41.cell? ⟨gb596, 1, none⟩ = some (.slice A0_1 l0_1.length c0_1) := (blk_cell BK596.out 1).trans rfl; have hfz43_0 := blk_frozen BK596.out 0; have hfz43_1 := blk_frozen BK596.out 1; have p606 : 0 ≤ ((rd t598 a1) : Int) := of_decide_eq_true (by first | (with_reducible assumption) | assumption); have q606 : (rd t598 a1) < (l0_1.length : Int) := of_decide_eq_true (by first | (with_reducible assumption) | assumption); obtain ⟨ad606, e606, hx606_0⟩ := Kd.at_int HR0_1.out (rd t598 a1) p606 q606; cases e606; replace hx606_0 := (HB.out.cell (World.block_lt_of_cell? w _ hx606_0)).trans hx606_0; replace p606 := eq_true p606; replace q606 := eq_true q606; have p607 : 0 ≤ ((rd l0_1 (rd t598 a1)) : Int) := of_decide_eq_true (by first | (with_reducible assumption) | assumption); have q607 : (rd l0_1 (rd t598 a1)) < (t602.length : Int) := of_decide_eq_true (by first | (with_reducible assumption) | assumption); obtain ⟨ad607, e607, hx607_0⟩ := Kd.at_int (Kd.R_reads' HO604.out).2.2 (rd l0_1 (rd t598 a1)) p607 q607; obtain rfl : ad605 = ad607 := (by injection e607); replace p607 := eq_true p607; replace q607 := eq_true q607) | ((with_reducible refine gate_dst (N := 47) rfl ?_); (try (refine gate_guard (by rfl) ?_; dsimp only)); refine Kd.R_lit (Kd.int .i64) _ 3 ?hg (N := 47) ?hd (xs := ([a1] : List Int)) (inner := [.int .i64 a1]) (ok := fun _ => True) (okp := fun _ => True) ?hr ?hp (fun _ hk => hk) trivial (Below.refl _ _) (Nat.le_refl _) (by simp) ?_; (case hd => rfl); (case hg => rfl); (case hr => first | (go_simp; done) | (go_simp; rfl)); (case hp => exact (Reps.one (show Kd.M (Kd.int .i64) _ _ _ a1 [.int .i64 a1] from rfl) (Reps.none _ _))); intro v609 w44 ho45 hb hg_ hnew_; clear hg_ hnew_; (first | rw [← Ny608.out] at ho45 | (simp only [Int.reduceToNat] at ho45; rw [← Ny608.out] at ho45)); have n0_ := Aside0.mk (Kd.R_elder' (by (with_reducible repeat (first | apply Kd.R_alloc | apply Kd.R_drewN | apply Kd.R_drew)); exact HO600.out) (Kd.R_base ho45) hb); have n1_ := Aside0.mk (Kd.R_elder' (by (with_reducible repeat (first | apply Kd.R_alloc | apply Kd.R_drewN | apply Kd.R_drew)); exact HO604.out) (Kd.R_base ho45) hb); have n2_ := Aside0.mk (Kd.R_lower (Kd.R_new' (Kd.R_new' ho45 (Kd.R_lt (by (with_reducible repeat (first | apply Kd.R_alloc | apply Kd.R_drewN | apply Kd.R_drew)); exact HO600.out))) (Kd.R_lt (by (with_reducible repeat (first | apply Kd.R_alloc | apply Kd.R_drewN | apply Kd.R_drew)); exact HO604.out))) (below_size (by repeat (first | (with_reducible first | exact HB.out | apply below_alloc | apply pw_below_drewN | apply below_drew1 | refine below_set ?_ GE596.out) | exact HB.out)))); have n3_ := Aside0.mk (blk_below (g := gb596) (o := .cells #[.slice A0_0 l0_0.length c0_0, .slice (some ad606) l0_1.length c0_1] 27 (0, 0)) (by (with_reducible repeat (first | refine blk_drewN ?_ _ | refine blk_drew ?_ | refine blk_alloc ?_ _)); exact BK596.out) hb); have n4_ := Aside0.mk (below_step (by repeat (first | (with_reducible first | exact HB.out | apply below_alloc | apply pw_below_drewN | apply below_drew1 | refine below_set ?_ GE596.out) | exact HB.out)) hb); clear HO600 HO604 BK596 HB; have HO600 := n0_; have HO604 := n1_; have HO610 := n2_; have BK596 := n3_; have HB := n4_; clear n0_ n1_ n2_ n3_ n4_ hb ho45; obtain ⟨Ao46, co46, eo46⟩ := Kd.R_slice HO610.out; subst eo46) | (go_at_call 23; (try simp only [Go.IntWalk.i64_left]); (with_reducible refine (impl_ChoiceRest.calls kj2 _ _ l0_0 _ _ l0_1 _ _ y608 t611 t614 _ ?side1 ?side2 ?side3 ?side4 ?side5 ?side6 A33.out).mono ?_); (case side1 => repeat (first | exact (Kd.C_below HR0_0.out HB.out) | (with_reducible refine Kd.C_alloc ?_ _) | (with_reducible refine Kd.C_drewN ?_ _) | (with_reducible refine Kd.C_drew ?_))); (case side2 => exact HC0_0.out); (case side3 => repeat (first | exact (Kd.C_below HR0_1.out HB.out) | (with_reducible refine Kd.C_alloc ?_ _) | (with_reducible refine Kd.C_drewN ?_ _) | (with_reducible refine Kd.C_drew ?_))); (case side4 => exact HC0_1.out); (case side5 => repeat (first | exact (Kd.R_reads' HO610.out).2.2 | (with_reducible refine Kd.C_alloc ?_ _) | (with_reducible refine Kd.C_drewN ?_ _) | (with_reducible refine Kd.C_drew ?_))); (case side6 => exact (Kd.R_reads' HO610.out).2.1); rintro e w47 ⟨v612, rfl, ho0, hb⟩; have n0_ := Aside0.mk (Kd.R_elder' (by (with_reducible repeat (first | apply Kd.R_alloc | apply Kd.R_drewN | apply Kd.R_drew)); exact HO600.out) (Kd.R_base ho0) hb); have n1_ := Aside0.mk (Kd.R_elder' (by (with_reducible repeat (first | apply Kd.R_alloc | apply Kd.R_drewN | apply Kd.R_drew)); exact HO604.out) (Kd.R_base ho0) hb); have n2_ := Aside0.mk (Kd.R_elder' (by (with_reducible repeat (first | apply Kd.R_alloc | apply Kd.R_drewN | apply Kd.R_drew)); exact HO610.out) (Kd.R_base ho0) hb); have n3_ := Aside0.mk (Kd.R_lower (Kd.R_new' (Kd.R_new' (Kd.R_new' ho0 (Kd.R_lt (by (with_reducible repeat (first | apply Kd.R_alloc | apply Kd.R_drewN | apply Kd.R_drew)); exact HO600.out))) (Kd.R_lt (by (with_reducible repeat (first | apply Kd.R_alloc | apply Kd.R_drewN | apply Kd.R_drew)); exact HO604.out))) (Kd.R_lt (by (with_reducible repeat (first | apply Kd.R_alloc | apply Kd.R_drewN | apply Kd.R_drew)); exact HO610.out))) (below_size (by repeat (first | (with_reducible first | exact HB.out | apply below_alloc | apply pw_below_drewN | apply below_drew1 | refine below_set ?_ GE596.out) | exact HB.out)))); have n4_ := Aside0.mk (blk_below (g := gb596) (o := .cells #[.slice A0_0 l0_0.length c0_0, .slice (some ad606) l0_1.length c0_1] 27 (0, 0)) (by (with_reducible repeat (first | refine blk_drewN ?_ _ | refine blk_drew ?_ | refine blk_alloc ?_ _)); exact BK596.out) hb); have n5_ := Aside0.mk (below_step (by repeat (first | (with_reducible first | exact HB.out | apply below_alloc | apply pw_below_drewN | apply below_drew1 | refine below_set ?_ GE596.out) | exact HB.out)) hb); clear HO600 HO604 HO610 BK596 HB; have HO600 := n0_; have HO604 := n1_; have HO610 := n2_; have HO613 := n3_; have BK596 := n4_; have HB := n5_; clear n0_ n1_ n2_ n3_ n4_ n5_; (try clear hb); (try clear hb2); (try clear hk); (try clear hi); (try clear ho0); have hcz48_0 : w47.cell? ⟨gb596, 0, none⟩ = some (.slice A0_0 l0_0.length c0_0) := (blk_cell BK596.out 0).trans rfl; have hcz48_1 : w47.cell? ⟨gb596, 1, none⟩ = some (.slice (some ad606) l0_1.length c0_1) := (blk_cell BK596.out 1).trans rfl; have hfz48_0 := blk_frozen BK596.out 0; have hfz48_1 := blk_frozen BK596.out 1; obtain ⟨Ao49, co49, eo49⟩ := Kd.R_slice HO613.out; subst eo49) | (go_at_call 66; (try simp only [Go.IntWalk.i64_left]); (with_reducible refine (impl_ribbon.calls kj2 (fun k_ => k_ < w.heap.size) _ _ l0_0 _ _ l0_1 _ _ t611 t615 _ ?side1 ?side2 ?side3 ?side4 ?side5 A34.out).mono ?_); (case side1 => exact Kd.V_mk HC0_0.out (Kd.F_below (Kd.C_F (Kd.heap_int .i64) HR0_0.out) (by repeat (first | (with_reducible first | exact HB.out | apply below_alloc | apply pw_below_drewN | apply below_drew1 | refine below_set ?_ GE596.out) | exact HB.out)))); (case side2 => repeat (first | exact (Kd.C_below HR0_1.out HB.out) | (with_reducible refine Kd.C_alloc ?_ _) | (with_reducible refine Kd.C_drewN ?_ _) | (with_reducible refine Kd.C_drew ?_))); (case side3 => exact HC0_1.out); (case side4 => repeat (first | exact (Kd.R_reads' HO613.out).2.2 | (with_reducible refine Kd.C_alloc ?_ _) | (with_reducible refine Kd.C_drewN ?_ _) | (with_reducible refine Kd.C_drew ?_))); (case side5 => exact (Kd.R_reads' HO613.out).2.1); rintro e w50 ⟨v616, rfl, ho0, hb⟩; have n0_ := Aside0.mk (Kd.R_elder' (by (with_reducible repeat (first | apply Kd.R_alloc | apply Kd.R_drewN | apply Kd.R_drew)); exact HO600.out) (Kd.R_base ho0) hb); have n1_ := Aside0.mk (Kd.R_elder' (by (with_reducible repeat (first | apply Kd.R_alloc | apply Kd.R_drewN | apply Kd.R_drew)); exact HO604.out) (Kd.R_base ho0) hb); have n2_ := Aside0.mk (Kd.R_elder' (by (with_reducible repeat (first | apply Kd.R_alloc | apply Kd.R_drewN | apply Kd.R_drew)); exact HO610.out) (Kd.R_base ho0) hb); have n3_ := Aside0.mk (Kd.R_elder' (by (with_reducible repeat (first | apply Kd.R_alloc | apply Kd.R_drewN | apply Kd.R_drew)); exact HO613.out) (Kd.R_base ho0) hb); have n4_ := Aside0.mk (Kd.R_lower (Kd.R_new' (Kd.R_new' (Kd.R_new' (Kd.R_new' (Kd.R_mono (ok' := fun k_ => True) ho0 (fun _ hk_ => trivial)) (Kd.R_lt (by (with_reducible repeat (first | apply Kd.R_alloc | apply Kd.R_drewN | apply Kd.R_drew)); exact HO600.out))) (Kd.R_lt (by (with_reducible repeat (first | apply Kd.R_alloc | apply Kd.R_drewN | apply Kd.R_drew)); exact HO604.out))) (Kd.R_lt (by (with_reducible repeat (first | apply Kd.R_alloc | apply Kd.R_drewN | apply Kd.R_drew)); exact HO610.out))) (Kd.R_lt (by (with_reducible repeat (first | apply Kd.R_alloc | apply Kd.R_drewN | apply Kd.R_drew)); exact HO613.out))) (below_size (by repeat (first | (with_reducible first | exact HB.out | apply below_alloc | apply pw_below_drewN | apply below_drew1 | refine below_set ?_ GE596.out) | exact HB.out)))); have n5_ := Aside0.mk (blk_below (g := gb596) (o := .cells #[.slice A0_0 l0_0.length c0_0, .slice (some ad606) l0_1.length c0_1] 27 (0, 0)) (by (with_reducible repeat (first | refine blk_drewN ?_ _ | refine blk_drew ?_ | refine blk_alloc ?_ _)); exact BK596.out) hb); have n6_ := Aside0.mk (below_step (by repeat (first | (with_reducible first | exact HB.out | apply below_alloc | apply pw_below_drewN | apply below_drew1 | refine below_set ?_ GE596.out) | exact HB.out)) hb); clear HO600 HO604 HO610 HO613 BK596 HB; have HO600 := n0_; have HO604 := n1_; have HO610 := n2_; have HO613 := n3_; have HO617 := n4_; have BK596 := n5_; have HB := n6_; clear n0_ n1_ n2_ n3_ n4_ n5_ n6_; (try clear hb); (try clear hb2); (try clear hk); (try clear hi); (try clear ho0); obtain ⟨Ao51, co51, eo51⟩ := Kd.R_slice HO617.out; subst eo51; have p618 : 0 ≤ (0 : Int) := (by omega); have q618 : 0 < (t615.length : Int) := of_decide_eq_true (by first | (with_reducible assumption) | assumption); obtain ⟨ad618, e618, hx618_0⟩ := Kd.at_int (Kd.R_reads' HO617.out).2.2 0 p618 q618; cases e618; have qi618 : (0 < t615.length) = True := eq_true (by omega); (try rw [show ((0 : Int)).toNat = 0 from rfl] at hx618_0); (try rw [Addr.add_zero'] at hx618_0); replace p618 := eq_true p618; replace q618 := eq_true q618)); try go_wp2_with (first | (go_at_call 74; (try simp only [Go.IntWalk.i64_left]); (with_reducible refine (impl_edgesOf.calls kj2 _ _ l0_0 _ _ l0_1 t598 _ ?side1 ?side2 ?side3 ?side4 A16.out).mono ?_); (case side1 => repeat (first | exact (Kd.C_below HR0_0.out HB.out) | (with_reducible refine Kd.C_alloc ?_ _) | (with_reducible refine Kd.C_drewN ?_ _) | (with_reducible refine Kd.C_drew ?_))); (case side2 => exact HC0_0.out); (case side3 => repeat (first | exact (Kd.C_below HR0_1.out HB.out) | (with_reducible refine Kd.C_alloc ?_ _) | (with_reducible refine Kd.C_drewN ?_ _) | (with_reducible refine Kd.C_drew ?_))); (case side4 => exact HC0_1.out); rintro e w38 ⟨v599, rfl, ho0, hb⟩; have n0_ := Aside0.mk (Kd.R_lower ho0 (below_size (by repeat (first | (with_reducible first | exact HB.out | apply below_alloc | apply pw_below_drewN | apply below_drew1 | refine below_set ?_ GE596.out) | exact HB.out)))); have n1_ := Aside0.mk (blk_below (g := gb596) (o := .cells #[.slice A0_0 l0_0.length c0_0, .slice A0_1 l0_1.length c0_1] 27 (0, 0)) (by (with_reducible repeat (first | refine blk_drewN ?_ _ | refine blk_drew ?_ | refine blk_alloc ?_ _)); exact BK596.out) hb); have n2_ := Aside0.mk (below_step (by repeat (first | (with_reducible first | exact HB.out | apply below_alloc | apply pw_below_drewN | apply below_drew1 | refine below_set ?_ GE596.out) | exact HB.out)) hb); clear BK596 HB; have HO600 := n0_; have BK596 := n1_; have HB := n2_; clear n0_ n1_ n2_; (try clear hb); (try clear hb2); (try clear hk); (try clear hi); (try clear ho0); obtain ⟨Ao39, co39, eo39⟩ := Kd.R_slice HO600.out; subst eo39; have p601 : 0 ≤ (a1 : Int) := of_decide_eq_true (by first | (with_reducible assumption) | assumption); have q601 : a1 < (t598.length : Int) := of_decide_eq_true (by first | (with_reducible assumption) | assumption); obtain ⟨ad601, e601, hx601_0⟩ := Kd.at_int (Kd.R_reads' HO600.out).2.2 a1 p601 q601; cases e601; replace p601 := eq_true p601; replace q601 := eq_true q601; have hcz40_0 : w38.cell? ⟨gb596, 0, none⟩ = some (.slice A0_0 l0_0.length c0_0) := (blk_cell BK596.out 0).trans rfl; have hcz40_1 : w38.cell? ⟨gb596, 1, none⟩ = some (.slice A0_1 l0_1.length c0_1) := (blk_cell BK596.out 1).trans rfl; have hfz40_0 := blk_frozen BK596.out 0; have hfz40_1 := blk_frozen BK596.out 1) | (go_at_call 63; (try simp only [Go.IntWalk.i64_left]); (with_reducible refine (impl_vertexOf.calls kj2 _ _ l0_0 _ _ l0_1 t602 _ ?side1 ?side2 ?side3 ?side4 A19.out).mono ?_); (case side1 => repeat (first | exact (Kd.C_below HR0_0.out HB.out) | (with_reducible refine Kd.C_alloc ?_ _) | (with_reducible refine Kd.C_drewN ?_ _) | (with_reducible refine Kd.C_drew ?_))); (case side2 => exact HC0_0.out); (case side3 => repeat (first | exact (Kd.C_below HR0_1.out HB.out) | (with_reducible refine Kd.C_alloc ?_ _) | (with_reducible refine Kd.C_drewN ?_ _) | (with_reducible refine Kd.C_drew ?_))); (case side4 => exact HC0_1.out); rintro e w41 ⟨v603, rfl, ho0, hb⟩; have n0_ := Aside0.mk (Kd.R_elder' (by (with_reducible repeat (first | apply Kd.R_alloc | apply Kd.R_drewN | apply Kd.R_drew)); exact HO600.out) (Kd.R_base ho0) hb); have n1_ := Aside0.mk (Kd.R_lower (Kd.R_new' ho0 (Kd.R_lt (by (with_reducible repeat (first | apply Kd.R_alloc | apply Kd.R_drewN | apply Kd.R_drew)); exact HO600.out))) (below_size (by repeat (first | (with_reducible first | exact HB.out | apply below_alloc | apply pw_below_drewN | apply below_drew1 | refine below_set ?_ GE596.out) | exact HB.out)))); have n2_ := Aside0.mk (blk_below (g := gb596) (o := .cells #[.slice A0_0 l0_0.length c0_0, .slice A0_1 l0_1.length c0_1] 27 (0, 0)) (by (with_reducible repeat (first | refine blk_drewN ?_ _ | refine blk_drew ?_ | refine blk_alloc ?_ _)); exact BK596.out) hb); have n3_ := Aside0.mk (below_step (by repeat (first | (with_reducible first | exact HB.out | apply below_alloc | apply pw_below_drewN | apply below_drew1 | refine below_set ?_ GE596.out) | exact HB.out)) hb); clear HO600 BK596 HB; have HO600 := n0_; have HO604 := n1_; have BK596 := n2_; have HB := n3_; clear n0_ n1_ n2_ n3_; (try clear hb); (try clear hb2); (try clear hk); (try clear hi); (try clear ho0); obtain ⟨Ao42, co42, eo42⟩ := Kd.R_slice HO604.out; subst eo42; have p605 : 0 ≤ ((rd t598 a1) : Int) := of_decide_eq_true (by first | (with_reducible assumption) | assumption); have q605 : (rd t598 a1) < (t602.length : Int) := of_decide_eq_true (by first | (with_reducible assumption) | assumption); obtain ⟨ad605, e605, hx605_0⟩ := Kd.at_int (Kd.R_reads' HO604.out).2.2 (rd t598 a1) p605 q605; cases e605; replace p605 := eq_true p605; replace q605 := eq_true q605; have hcz43_0 : w41.cell? ⟨gb596, 0, none⟩ = some (.slice A0_0 l0_0.length c0_0) := (blk_cell BK596.out 0).trans rfl; have hcz43_1 : w41.cell? ⟨gb596, 1, none⟩ = some (.slice A0_1 l0_1.length c0_1) := (blk_cell BK596.out 1).trans rfl; have hfz43_0 := blk_frozen BK596.out 0; have hfz43_1 := blk_frozen BK596.out 1; have p606 : 0 ≤ ((rd t598 a1) : Int) := of_decide_eq_true (by first | (with_reducible assumption) | assumption); have q606 : (rd t598 a1) < (l0_1.length : Int) := of_decide_eq_true (by first | (with_reducible assumption) | assumption); obtain ⟨ad606, e606, hx606_0⟩ := Kd.at_int HR0_1.out (rd t598 a1) p606 q606; cases e606; replace hx606_0 := (HB.out.cell (World.block_lt_of_cell? w _ hx606_0)).trans hx606_0; replace p606 := eq_true p606; replace q606 := eq_true q606; have p607 : 0 ≤ ((rd l0_1 (rd t598 a1)) : Int) := of_decide_eq_true (by first | (with_reducible assumption) | assumption); have q607 : (rd l0_1 (rd t598 a1)) < (t602.length : Int) := of_decide_eq_true (by first | (with_reducible assumption) | assumption); obtain ⟨ad607, e607, hx607_0⟩ := Kd.at_int (Kd.R_reads' HO604.out).2.2 (rd l0_1 (rd t598 a1)) p607 q607; obtain rfl : ad605 = ad607 := (by injection e607); replace p607 := eq_true p607; replace q607 := eq_true q607) | ((with_reducible refine gate_dst (N := 47) rfl ?_); (try (refine gate_guard (by rfl) ?_; dsimp only)); refine Kd.R_lit (Kd.int .i64) _ 3 ?hg (N := 47) ?hd (xs := ([a1] : List Int)) (inner := [.int .i64 a1]) (ok := fun _ => True) (okp := fun _ => True) ?hr ?hp (fun _ hk => hk) trivial (Below.refl _ _) (Nat.le_refl _) (by simp) ?_; (case hd => rfl); (case hg => rfl); (case hr => first | (go_simp; done) | (go_simp; rfl)); (case hp => exact (Reps.one (show Kd.M (Kd.int .i64) _ _ _ a1 [.int .i64 a1] from rfl) (Reps.none _ _))); intro v609 w44 ho45 hb hg_ hnew_; clear hg_ hnew_; (first | rw [← Ny608.out] at ho45 | (simp only [Int.reduceToNat] at ho45; rw [← Ny608.out] at ho45)); have n0_ := Aside0.mk (Kd.R_elder' (by (with_reducible repeat (first | apply Kd.R_alloc | apply Kd.R_drewN | apply Kd.R_drew)); exact HO600.out) (Kd.R_base ho45) hb); have n1_ := Aside0.mk (Kd.R_elder' (by (with_reducible repeat (first | apply Kd.R_alloc | apply Kd.R_drewN | apply Kd.R_drew)); exact HO604.out) (Kd.R_base ho45) hb); have n2_ := Aside0.mk (Kd.R_lower (Kd.R_new' (Kd.R_new' ho45 (Kd.R_lt (by (with_reducible repeat (first | apply Kd.R_alloc | apply Kd.R_drewN | apply Kd.R_drew)); exact HO600.out))) (Kd.R_lt (by (with_reducible repeat (first | apply Kd.R_alloc | apply Kd.R_drewN | apply Kd.R_drew)); exact HO604.out))) (below_size (by repeat (first | (with_reducible first | exact HB.out | apply below_alloc | apply pw_below_drewN | apply below_drew1 | refine below_set ?_ GE596.out) | exact HB.out)))); have n3_ := Aside0.mk (blk_below (g := gb596) (o := .cells #[.slice A0_0 l0_0.length c0_0, .slice (some ad606) l0_1.length c0_1] 27 (0, 0)) (by (with_reducible repeat (first | refine blk_drewN ?_ _ | refine blk_drew ?_ | refine blk_alloc ?_ _)); exact BK596.out) hb); have n4_ := Aside0.mk (below_step (by repeat (first | (with_reducible first | exact HB.out | apply below_alloc | apply pw_below_drewN | apply below_drew1 | refine below_set ?_ GE596.out) | exact HB.out)) hb); clear HO600 HO604 BK596 HB; have HO600 := n0_; have HO604 := n1_; have HO610 := n2_; have BK596 := n3_; have HB := n4_; clear n0_ n1_ n2_ n3_ n4_ hb ho45; obtain ⟨Ao46, co46, eo46⟩ := Kd.R_slice HO610.out; subst eo46) | (go_at_call 23; (try simp only [Go.IntWalk.i64_left]); (with_reducible refine (impl_ChoiceRest.calls kj2 _ _ l0_0 _ _ l0_1 _ _ y608 t611 t614 _ ?side1 ?side2 ?side3 ?side4 ?side5 ?side6 A33.out).mono ?_); (case side1 => repeat (first | exact (Kd.C_below HR0_0.out HB.out) | (with_reducible refine Kd.C_alloc ?_ _) | (with_reducible refine Kd.C_drewN ?_ _) | (with_reducible refine Kd.C_drew ?_))); (case side2 => exact HC0_0.out); (case side3 => repeat (first | exact (Kd.C_below HR0_1.out HB.out) | (with_reducible refine Kd.C_alloc ?_ _) | (with_reducible refine Kd.C_drewN ?_ _) | (with_reducible refine Kd.C_drew ?_))); (case side4 => exact HC0_1.out); (case side5 => repeat (first | exact (Kd.R_reads' HO610.out).2.2 | (with_reducible refine Kd.C_alloc ?_ _) | (with_reducible refine Kd.C_drewN ?_ _) | (with_reducible refine Kd.C_drew ?_))); (case side6 => exact (Kd.R_reads' HO610.out).2.1); rintro e w47 ⟨v612, rfl, ho0, hb⟩; have n0_ := Aside0.mk (Kd.R_elder' (by (with_reducible repeat (first | apply Kd.R_alloc | apply Kd.R_drewN | apply Kd.R_drew)); exact HO600.out) (Kd.R_base ho0) hb); have n1_ := Aside0.mk (Kd.R_elder' (by (with_reducible repeat (first | apply Kd.R_alloc | apply Kd.R_drewN | apply Kd.R_drew)); exact HO604.out) (Kd.R_base ho0) hb); have n2_ := Aside0.mk (Kd.R_elder' (by (with_reducible repeat (first | apply Kd.R_alloc | apply Kd.R_drewN | apply Kd.R_drew)); exact HO610.out) (Kd.R_base ho0) hb); have n3_ := Aside0.mk (Kd.R_lower (Kd.R_new' (Kd.R_new' (Kd.R_new' ho0 (Kd.R_lt (by (with_reducible repeat (first | apply Kd.R_alloc | apply Kd.R_drewN | apply Kd.R_drew)); exact HO600.out))) (Kd.R_lt (by (with_reducible repeat (first | apply Kd.R_alloc | apply Kd.R_drewN | apply Kd.R_drew)); exact HO604.out))) (Kd.R_lt (by (with_reducible repeat (first | apply Kd.R_alloc | apply Kd.R_drewN | apply Kd.R_drew)); exact HO610.out))) (below_size (by repeat (first | (with_reducible first | exact HB.out | apply below_alloc | apply pw_below_drewN | apply below_drew1 | refine below_set ?_ GE596.out) | exact HB.out)))); have n4_ := Aside0.mk (blk_below (g := gb596) (o := .cells #[.slice A0_0 l0_0.length c0_0, .slice (some ad606) l0_1.length c0_1] 27 (0, 0)) (by (with_reducible repeat (first | refine blk_drewN ?_ _ | refine blk_drew ?_ | refine blk_alloc ?_ _)); exact BK596.out) hb); have n5_ := Aside0.mk (below_step (by repeat (first | (with_reducible first | exact HB.out | apply below_alloc | apply pw_below_drewN | apply below_drew1 | refine below_set ?_ GE596.out) | exact HB.out)) hb); clear HO600 HO604 HO610 BK596 HB; have HO600 := n0_; have HO604 := n1_; have HO610 := n2_; have HO613 := n3_; have BK596 := n4_; have HB := n5_; clear n0_ n1_ n2_ n3_ n4_ n5_; (try clear hb); (try clear hb2); (try clear hk); (try clear hi); (try clear ho0); have hcz48_0 : w47.cell? ⟨gb596, 0, none⟩ = some (.slice A0_0 l0_0.length c0_0) := (blk_cell BK596.out 0).trans rfl; have hcz48_1 : w47.cell? ⟨gb596, 1, none⟩ = some (.slice (some ad606) l0_1.length c0_1) := (blk_cell BK596.out 1).trans rfl; have hfz48_0 := blk_frozen BK596.out 0; have hfz48_1 := blk_frozen BK596.out 1; obtain ⟨Ao49, co49, eo49⟩ := Kd.R_slice HO613.out; subst eo49) | (go_at_call 66; (try simp only [Go.IntWalk.i64_left]); (with_reducible refine (impl_ribbon.calls kj2 (fun k_ => k_ < w.heap.size) _ _ l0_0 _ _ l0_1 _ _ t611 t615 _ ?side1 ?side2 ?side3 ?side4 ?side5 A34.out).mono ?_); (case side1 => exact Kd.V_mk HC0_0.out (Kd.F_below (Kd.C_F (Kd.heap_int .i64) HR0_0.out) (by repeat (first | (with_reducible first | exact HB.out | apply below_alloc | apply pw_below_drewN | apply below_drew1 | refine below_set ?_ GE596.out) | exact HB.out)))); (case side2 => repeat (first | exact (Kd.C_below HR0_1.out HB.out) | (with_reducible refine Kd.C_alloc ?_ _) | (with_reducible refine Kd.C_drewN ?_ _) | (with_reducible refine Kd.C_drew ?_))); (case side3 => exact HC0_1.out); (case side4 => repeat (first | exact (Kd.R_reads' HO613.out).2.2 | (with_reducible refine Kd.C_alloc ?_ _) | (with_reducible refine Kd.C_drewN ?_ _) | (with_reducible refine Kd.C_drew ?_))); (case side5 => exact (Kd.R_reads' HO613.out).2.1); rintro e w50 ⟨v616, rfl, ho0, hb⟩; have n0_ := Aside0.mk (Kd.R_elder' (by (with_reducible repeat (first | apply Kd.R_alloc | apply Kd.R_drewN | apply Kd.R_drew)); exact HO600.out) (Kd.R_base ho0) hb); have n1_ := Aside0.mk (Kd.R_elder' (by (with_reducible repeat (first | apply Kd.R_alloc | apply Kd.R_drewN | apply Kd.R_drew)); exact HO604.out) (Kd.R_base ho0) hb); have n2_ := Aside0.mk (Kd.R_elder' (by (with_reducible repeat (first | apply Kd.R_alloc | apply Kd.R_drewN | apply Kd.R_drew)); exact HO610.out) (Kd.R_base ho0) hb); have n3_ := Aside0.mk (Kd.R_elder' (by (with_reducible repeat (first | apply Kd.R_alloc | apply Kd.R_drewN | apply Kd.R_drew)); exact HO613.out) (Kd.R_base ho0) hb); have n4_ := Aside0.mk (Kd.R_lower (Kd.R_new' (Kd.R_new' (Kd.R_new' (Kd.R_new' (Kd.R_mono (ok' := fun k_ => True) ho0 (fun _ hk_ => trivial)) (Kd.R_lt (by (with_reducible repeat (first | apply Kd.R_alloc | apply Kd.R_drewN | apply Kd.R_drew)); exact HO600.out))) (Kd.R_lt (by (with_reducible repeat (first | apply Kd.R_alloc | apply Kd.R_drewN | apply Kd.R_drew)); exact HO604.out))) (Kd.R_lt (by (with_reducible repeat (first | apply Kd.R_alloc | apply Kd.R_drewN | apply Kd.R_drew)); exact HO610.out))) (Kd.R_lt (by (with_reducible repeat (first | apply Kd.R_alloc | apply Kd.R_drewN | apply Kd.R_drew)); exact HO613.out))) (below_size (by repeat (first | (with_reducible first | exact HB.out | apply below_alloc | apply pw_below_drewN | apply below_drew1 | refine below_set ?_ GE596.out) | exact HB.out)))); have n5_ := Aside0.mk (blk_below (g := gb596) (o := .cells #[.slice A0_0 l0_0.length c0_0, .slice (some ad606) l0_1.length c0_1] 27 (0, 0)) (by (with_reducible repeat (first | refine blk_drewN ?_ _ | refine blk_drew ?_ | refine blk_alloc ?_ _)); exact BK596.out) hb); have n6_ := Aside0.mk (below_step (by repeat (first | (with_reducible first | exact HB.out | apply below_alloc | apply pw_below_drewN | apply below_drew1 | refine below_set ?_ GE596.out) | exact HB.out)) hb); clear HO600 HO604 HO610 HO613 BK596 HB; have HO600 := n0_; have HO604 := n1_; have HO610 := n2_; have HO613 := n3_; have HO617 := n4_; have BK596 := n5_; have HB := n6_; clear n0_ n1_ n2_ n3_ n4_ n5_ n6_; (try clear hb); (try clear hb2); (try clear hk); (try clear hi); (try clear ho0); obtain ⟨Ao51, co51, eo51⟩ := Kd.R_slice HO617.out; subst eo51; have p618 : 0 ≤ (0 : Int) := (by omega); have q618 : 0 < (t615.length : Int) := of_decide_eq_true (by first | (with_reducible assumption) | assumption); obtain ⟨ad618, e618, hx618_0⟩ := Kd.at_int (Kd.R_reads' HO617.out).2.2 0 p618 q618; cases e618; have qi618 : (0 < t615.length) = True := eq_true (by omega); (try rw [show ((0 : Int)).toNat = 0 from rfl] at hx618_0); (try rw [Addr.add_zero'] at hx618_0); replace p618 := eq_true p618; replace q618 := eq_true q618)))
              go_ret
              exact ⟨by first | rfl | (simp [errW_none, errW_some] <;> rfl) | (simp [*, errW_none, errW_some] <;> rfl), by repeat (first | (with_reducible first | exact HB.out | apply below_alloc | apply pw_below_drewN | apply below_drew1 | refine below_set ?_ GE596.out) | exact HB.out)⟩
             ·
              rw [if_neg c36] at H
              have c36b0 : ((rd t615 0) == 2) = false := beq_eq_false_iff_ne.mpr c36
              have c36b1 : ((rd t615 0) != 2) = true := bne_iff_ne.mpr c36
              obtain rfl := Option.some.inj H
              have hcz52_0 : wc.cell? ⟨gb596, 0, none⟩ = some (.slice A0_0 l0_0.length c0_0) := (blk_cell BK596.out 0).trans rfl
              have hcz52_1 : wc.cell? ⟨gb596, 1, none⟩ = some (.slice A0_1 l0_1.length c0_1) := (blk_cell BK596.out 1).trans rfl
              have hfz52_0 := blk_frozen BK596.out 0
              have hfz52_1 := blk_frozen BK596.out 1
              go_wp2_with (first | (go_at_call 74; (with_reducible refine (impl_edgesOf.calls kj2 _ _ l0_0 _ _ l0_1 t598 _ ?side1 ?side2 ?side3 ?side4 A16.out).mono ?_); (case side1 => repeat (first | exact (Kd.C_below HR0_0.out HB.out) | (with_reducible refine Kd.C_alloc ?_ _) | (with_reducible refine Kd.C_drewN ?_ _) | (with_reducible refine Kd.C_drew ?_))); (case side2 => exact HC0_0.out); (case side3 => repeat (first | exact (Kd.C_below HR0_1.out HB.out) | (with_reducible refine Kd.C_alloc ?_ _) | (with_reducible refine Kd.C_drewN ?_ _) | (with_reducible refine Kd.C_drew ?_))); (case side4 => exact HC0_1.out); rintro e w53 ⟨v599, rfl, ho0, hb⟩; have n0_ := Aside0.mk (Kd.R_lower ho0 (below_size (by repeat (first | (with_reducible first | exact HB.out | apply below_alloc | apply pw_below_drewN | apply below_drew1 | refine below_set ?_ GE596.out) | exact HB.out)))); have n1_ := Aside0.mk (blk_below (g := gb596) (o := .cells #[.slice A0_0 l0_0.length c0_0, .slice A0_1 l0_1.length c0_1] 27 (0, 0)) (by (with_reducible repeat (first | refine blk_drewN ?_ _ | refine blk_drew ?_ | refine blk_alloc ?_ _)); exact BK596.out) hb); have n2_ := Aside0.mk (below_step (by repeat (first | (with_reducible first | exact HB.out | apply below_alloc | apply pw_below_drewN | apply below_drew1 | refine below_set ?_ GE596.out) | exact HB.out)) hb); clear BK596 HB; have HO600 := n0_; have BK596 := n1_; have HB := n2_; clear n0_ n1_ n2_; (try clear hb); (try clear hb2); (try clear hk); (try clear hi); (try clear ho0); obtain ⟨Ao54, co54, eo54⟩ := Kd.R_slice HO600.out; subst eo54; have p601 : 0 ≤ (a1 : Int) := of_decide_eq_true (by first | (with_reducible assumption) | assumption); have q601 : a1 < (t598.length : Int) := of_decide_eq_true (by first | (with_reducible assumption) | assumption); obtain ⟨ad601, e601, hx601_0⟩ := Kd.at_int (Kd.R_reads' HO600.out).2.2 a1 p601 q601; cases e601; replace p601 := eq_true p601; replace q601 := eq_true q601; have hcz55_0 : w53.cell? ⟨gb596, 0, none⟩ = some (.slice A0_0 l0_0.length c0_0) := (blk_cell BK596.out 0).trans rfl; have hcz55_1 : w53.cell? ⟨gb596, 1, none⟩ = some (.slice A0_1 l0_1.length c0_1) := (blk_cell BK596.out 1).trans rfl; have hfz55_0 := blk_frozen BK596.out 0; have hfz55_1 := blk_frozen BK596.out 1) | (go_at_call 63; (with_reducible refine (impl_vertexOf.calls kj2 _ _ l0_0 _ _ l0_1 t602 _ ?side1 ?side2 ?side3 ?side4 A19.out).mono ?_); (case side1 => repeat (first | exact (Kd.C_below HR0_0.out HB.out) | (with_reducible refine Kd.C_alloc ?_ _) | (with_reducible refine Kd.C_drewN ?_ _) | (with_reducible refine Kd.C_drew ?_))); (case side2 => exact HC0_0.out); (case side3 => repeat (first | exact (Kd.C_below HR0_1.out HB.out) | (with_reducible refine Kd.C_alloc ?_ _) | (with_reducible refine Kd.C_drewN ?_ _) | (with_reducible refine Kd.C_drew ?_))); (case side4 => exact HC0_1.out); rintro e w56 ⟨v603, rfl, ho0, hb⟩; have n0_ := Aside0.mk (Kd.R_elder' (by (with_reducible repeat (first | apply Kd.R_alloc | apply Kd.R_drewN | apply Kd.R_drew)); exact HO600.out) (Kd.R_base ho0) hb); have n1_ := Aside0.mk (Kd.R_lower (Kd.R_new' ho0 (Kd.R_lt (by (with_reducible repeat (first | apply Kd.R_alloc | apply Kd.R_drewN | apply Kd.R_drew)); exact HO600.out))) (below_size (by repeat (first | (with_reducible first | exact HB.out | apply below_alloc | apply pw_below_drewN | apply below_drew1 | refine below_set ?_ GE596.out) | exact HB.out)))); have n2_ := Aside0.mk (blk_below (g := gb596) (o := .cells #[.slice A0_0 l0_0.length c0_0, .slice A0_1 l0_1.length c0_1] 27 (0, 0)) (by (with_reducible repeat (first | refine blk_drewN ?_ _ | refine blk_drew ?_ | refine blk_alloc ?_ _)); exact BK596.out) hb); have n3_ := Aside0.mk (below_step (by repeat (first | (with_reducible first | exact HB.out | apply below_alloc | apply pw_below_drewN | apply below_drew1 | refine below_set ?_ GE596.out) | exact HB.out)) hb); clear HO600 BK596 HB; have HO600 := n0_; have HO604 := n1_; have BK596 := n2_; have HB := n3_; clear n0_ n1_ n2_ n3_; (try clear hb); (try clear hb2); (try clear hk); (try clear hi); (try clear ho0); obtain ⟨Ao57, co57, eo57⟩ := Kd.R_slice HO604.out; subst eo57; have p605 : 0 ≤ ((rd t598 a1) : Int) := of_decide_eq_true (by first | (with_reducible assumption) | assumption); have q605 : (rd t598 a1) < (t602.length : Int) := of_decide_eq_true (by first | (with_reducible assumption) | assumption); obtain ⟨ad605, e605, hx605_0⟩ := Kd.at_int (Kd.R_reads' HO604.out).2.2 (rd t598 a1) p605 q605; cases e605; replace p605 := eq_true p605; replace q605 := eq_true q605; have hcz58_0 : w56.cell? ⟨gb596, 0, none⟩ = some (.slice A0_0 l0_0.length c0_0) := (blk_cell BK596.out 0).trans rfl; have hcz58_1 : w56.cell? ⟨gb596, 1, none⟩ = some (.slice A0_1 l0_1.length c0_1) := (blk_cell BK596.out 1).trans rfl; have hfz58_0 := blk_frozen BK596.out 0; have hfz58_1 := blk_frozen BK596.out 1; have p606 : 0 ≤ ((rd t598 a1) : Int) := of_decide_eq_true (by first | (with_reducible assumption) | assumption); have q606 : (rd t598 a1) < (l0_1.length : Int) := of_decide_eq_true (by first | (with_reducible assumption) | assumption); obtain ⟨ad606, e606, hx606_0⟩ := Kd.at_int HR0_1.out (rd t598 a1) p606 q606; cases e606; replace hx606_0 := (HB.out.cell (World.block_lt_of_cell? w _ hx606_0)).trans hx606_0; replace p606 := eq_true p606; replace q606 := eq_true q606; have p607 : 0 ≤ ((rd l0_1 (rd t598 a1)) : Int) := of_decide_eq_true (by first | (with_reducible assumption) | assumption); have q607 : (rd l0_1 (rd t598 a1)) < (t602.length : Int) := of_decide_eq_true (by first | (with_reducible assumption) | assumption); obtain ⟨ad607, e607, hx607_0⟩ := Kd.at_int (Kd.R_reads' HO604.out).2.2 (rd l0_1 (rd t598 a1)) p607 q607; obtain rfl : ad605 = ad607 := (by injection e607); replace p607 := eq_true p607; replace q607 := eq_true q607) | ((with_reducible refine gate_dst (N := 47) rfl ?_); (try (refine gate_guard (by rfl) ?_; dsimp only)); refine Kd.R_lit (Kd.int .i64) _ 3 ?hg (N := 47) ?hd (xs := ([a1] : List Int)) (inner := [.int .i64 a1]) (ok := fun _ => True) (okp := fun _ => True) ?hr ?hp (fun _ hk => hk) trivial (Below.refl _ _) (Nat.le_refl _) (by simp) ?_; (case hd => rfl); (case hg => rfl); (case hr => first | (go_simp; done) | (go_simp; rfl)); (case hp => exact (Reps.one (show Kd.M (Kd.int .i64) _ _ _ a1 [.int .i64 a1] from rfl) (Reps.none _ _))); intro v609 w59 ho60 hb hg_ hnew_; clear hg_ hnew_; (first | rw [← Ny608.out] at ho60 | (simp only [Int.reduceToNat] at ho60; rw [← Ny608.out] at ho60)); have n0_ := Aside0.mk (Kd.R_elder' (by (with_reducible repeat (first | apply Kd.R_alloc | apply Kd.R_drewN | apply Kd.R_drew)); exact HO600.out) (Kd.R_base ho60) hb); have n1_ := Aside0.mk (Kd.R_elder' (by (with_reducible repeat (first | apply Kd.R_alloc | apply Kd.R_drewN | apply Kd.R_drew)); exact HO604.out) (Kd.R_base ho60) hb); have n2_ := Aside0.mk (Kd.R_lower (Kd.R_new' (Kd.R_new' ho60 (Kd.R_lt (by (with_reducible repeat (first | apply Kd.R_alloc | apply Kd.R_drewN | apply Kd.R_drew)); exact HO600.out))) (Kd.R_lt (by (with_reducible repeat (first | apply Kd.R_alloc | apply Kd.R_drewN | apply Kd.R_drew)); exact HO604.out))) (below_size (by repeat (first | (with_reducible first | exact HB.out | apply below_alloc | apply pw_below_drewN | apply below_drew1 | refine below_set ?_ GE596.out) | exact HB.out)))); have n3_ := Aside0.mk (blk_below (g := gb596) (o := .cells #[.slice A0_0 l0_0.length c0_0, .slice (some ad606) l0_1.length c0_1] 27 (0, 0)) (by (with_reducible repeat (first | refine blk_drewN ?_ _ | refine blk_drew ?_ | refine blk_alloc ?_ _)); exact BK596.out) hb); have n4_ := Aside0.mk (below_step (by repeat (first | (with_reducible first | exact HB.out | apply below_alloc | apply pw_below_drewN | apply below_drew1 | refine below_set ?_ GE596.out) | exact HB.out)) hb); clear HO600 HO604 BK596 HB; have HO600 := n0_; have HO604 := n1_; have HO610 := n2_; have BK596 := n3_; have HB := n4_; clear n0_ n1_ n2_ n3_ n4_ hb ho60; obtain ⟨Ao61, co61, eo61⟩ := Kd.R_slice HO610.out; subst eo61) | (go_at_call 23; (with_reducible refine (impl_ChoiceRest.calls kj2 _ _ l0_0 _ _ l0_1 _ _ y608 t611 t614 _ ?side1 ?side2 ?side3 ?side4 ?side5 ?side6 A33.out).mono ?_); (case side1 => repeat (first | exact (Kd.C_below HR0_0.out HB.out) | (with_reducible refine Kd.C_alloc ?_ _) | (with_reducible refine Kd.C_drewN ?_ _) | (with_reducible refine Kd.C_drew ?_))); (case side2 => exact HC0_0.out); (case side3 => repeat (first | exact (Kd.C_below HR0_1.out HB.out) | (with_reducible refine Kd.C_alloc ?_ _) | (with_reducible refine Kd.C_drewN ?_ _) | (with_reducible refine Kd.C_drew ?_))); (case side4 => exact HC0_1.out); (case side5 => repeat (first | exact (Kd.R_reads' HO610.out).2.2 | (with_reducible refine Kd.C_alloc ?_ _) | (with_reducible refine Kd.C_drewN ?_ _) | (with_reducible refine Kd.C_drew ?_))); (case side6 => exact (Kd.R_reads' HO610.out).2.1); rintro e w62 ⟨v612, rfl, ho0, hb⟩; have n0_ := Aside0.mk (Kd.R_elder' (by (with_reducible repeat (first | apply Kd.R_alloc | apply Kd.R_drewN | apply Kd.R_drew)); exact HO600.out) (Kd.R_base ho0) hb); have n1_ := Aside0.mk (Kd.R_elder' (by (with_reducible repeat (first | apply Kd.R_alloc | apply Kd.R_drewN | apply Kd.R_drew)); exact HO604.out) (Kd.R_base ho0) hb); have n2_ := Aside0.mk (Kd.R_elder' (by (with_reducible repeat (first | apply Kd.R_alloc | apply Kd.R_drewN | apply Kd.R_drew)); exact HO610.out) (Kd.R_base ho0) hb); have n3_ := Aside0.mk (Kd.R_lower (Kd.R_new' (Kd.R_new' (Kd.R_new' ho0 (Kd.R_lt (by (with_reducible repeat (first | apply Kd.R_alloc | apply Kd.R_drewN | apply Kd.R_drew)); exact HO600.out))) (Kd.R_lt (by (with_reducible repeat (first | apply Kd.R_alloc | apply Kd.R_drewN | apply Kd.R_drew)); exact HO604.out))) (Kd.R_lt (by (with_reducible repeat (first | apply Kd.R_alloc | apply Kd.R_drewN | apply Kd.R_drew)); exact HO610.out))) (below_size (by repeat (first | (with_reducible first | exact HB.out | apply below_alloc | apply pw_below_drewN | apply below_drew1 | refine below_set ?_ GE596.out) | exact HB.out)))); have n4_ := Aside0.mk (blk_below (g := gb596) (o := .cells #[.slice A0_0 l0_0.length c0_0, .slice (some ad606) l0_1.length c0_1] 27 (0, 0)) (by (with_reducible repeat (first | refine blk_drewN ?_ _ | refine blk_drew ?_ | refine blk_alloc ?_ _)); exact BK596.out) hb); have n5_ := Aside0.mk (below_step (by repeat (first | (with_reducible first | exact HB.out | apply below_alloc | apply pw_below_drewN | apply below_drew1 | refine below_set ?_ GE596.out) | exact HB.out)) hb); clear HO600 HO604 HO610 BK596 HB; have HO600 := n0_; have HO604 := n1_; have HO610 := n2_; have HO613 := n3_; have BK596 := n4_; have HB := n5_; clear n0_ n1_ n2_ n3_ n4_ n5_; (try clear hb); (try clear hb2); (try clear hk); (try clear hi); (try clear ho0); have hcz63_0 : w62.cell? ⟨gb596, 0, none⟩ = some (.slice A0_0 l0_0.length c0_0) := (blk_cell BK596.out 0).trans rfl; have hcz63_1 : w62.cell? ⟨gb596, 1, none⟩ = some (.slice (some ad606) l0_1.length c0_1) := (blk_cell BK596.out 1).trans rfl; have hfz63_0 := blk_frozen BK596.out 0; have hfz63_1 := blk_frozen BK596.out 1; obtain ⟨Ao64, co64, eo64⟩ := Kd.R_slice HO613.out; subst eo64) | (go_at_call 66; (with_reducible refine (impl_ribbon.calls kj2 (fun k_ => k_ < w.heap.size) _ _ l0_0 _ _ l0_1 _ _ t611 t615 _ ?side1 ?side2 ?side3 ?side4 ?side5 A34.out).mono ?_); (case side1 => exact Kd.V_mk HC0_0.out (Kd.F_below (Kd.C_F (Kd.heap_int .i64) HR0_0.out) (by repeat (first | (with_reducible first | exact HB.out | apply below_alloc | apply pw_below_drewN | apply below_drew1 | refine below_set ?_ GE596.out) | exact HB.out)))); (case side2 => repeat (first | exact (Kd.C_below HR0_1.out HB.out) | (with_reducible refine Kd.C_alloc ?_ _) | (with_reducible refine Kd.C_drewN ?_ _) | (with_reducible refine Kd.C_drew ?_))); (case side3 => exact HC0_1.out); (case side4 => repeat (first | exact (Kd.R_reads' HO613.out).2.2 | (with_reducible refine Kd.C_alloc ?_ _) | (with_reducible refine Kd.C_drewN ?_ _) | (with_reducible refine Kd.C_drew ?_))); (case side5 => exact (Kd.R_reads' HO613.out).2.1); rintro e w65 ⟨v616, rfl, ho0, hb⟩; have n0_ := Aside0.mk (Kd.R_elder' (by (with_reducible repeat (first | apply Kd.R_alloc | apply Kd.R_drewN | apply Kd.R_drew)); exact HO600.out) (Kd.R_base ho0) hb); have n1_ := Aside0.mk (Kd.R_elder' (by (with_reducible repeat (first | apply Kd.R_alloc | apply Kd.R_drewN | apply Kd.R_drew)); exact HO604.out) (Kd.R_base ho0) hb); have n2_ := Aside0.mk (Kd.R_elder' (by (with_reducible repeat (first | apply Kd.R_alloc | apply Kd.R_drewN | apply Kd.R_drew)); exact HO610.out) (Kd.R_base ho0) hb); have n3_ := Aside0.mk (Kd.R_elder' (by (with_reducible repeat (first | apply Kd.R_alloc | apply Kd.R_drewN | apply Kd.R_drew)); exact HO613.out) (Kd.R_base ho0) hb); have n4_ := Aside0.mk (Kd.R_lower (Kd.R_new' (Kd.R_new' (Kd.R_new' (Kd.R_new' (Kd.R_mono (ok' := fun k_ => True) ho0 (fun _ hk_ => trivial)) (Kd.R_lt (by (with_reducible repeat (first | apply Kd.R_alloc | apply Kd.R_drewN | apply Kd.R_drew)); exact HO600.out))) (Kd.R_lt (by (with_reducible repeat (first | apply Kd.R_alloc | apply Kd.R_drewN | apply Kd.R_drew)); exact HO604.out))) (Kd.R_lt (by (with_reducible repeat (first | apply Kd.R_alloc | apply Kd.R_drewN | apply Kd.R_drew)); exact HO610.out))) (Kd.R_lt (by (with_reducible repeat (first | apply Kd.R_alloc | apply Kd.R_drewN | apply Kd.R_drew)); exact HO613.out))) (below_size (by repeat (first | (with_reducible first | exact HB.out | apply below_alloc | apply pw_below_drewN | apply below_drew1 | refine below_set ?_ GE596.out) | exact HB.out)))); have n5_ := Aside0.mk (blk_below (g := gb596) (o := .cells #[.slice A0_0 l0_0.length c0_0, .slice (some ad606) l0_1.length c0_1] 27 (0, 0)) (by (with_reducible repeat (first | refine blk_drewN ?_ _ | refine blk_drew ?_ | refine blk_alloc ?_ _)); exact BK596.out) hb); have n6_ := Aside0.mk (below_step (by repeat (first | (with_reducible first | exact HB.out | apply below_alloc | apply pw_below_drewN | apply below_drew1 | refine below_set ?_ GE596.out) | exact HB.out)) hb); clear HO600 HO604 HO610 HO613 BK596 HB; have HO600 := n0_; have HO604 := n1_; have HO610 := n2_; have HO613 := n3_; have HO617 := n4_; have BK596 := n5_; have HB := n6_; clear n0_ n1_ n2_ n3_ n4_ n5_ n6_; (try clear hb); (try clear hb2); (try clear hk); (try clear hi); (try clear ho0); obtain ⟨Ao66, co66, eo66⟩ := Kd.R_slice HO617.out; subst eo66; have p618 : 0 ≤ (0 : Int) := (by omega); have q618 : 0 < (t615.length : Int) := of_decide_eq_true (by first | (with_reducible assumption) | assumption); obtain ⟨ad618, e618, hx618_0⟩ := Kd.at_int (Kd.R_reads' HO617.out).2.2 0 p618 q618; cases e618; have qi618 : (0 < t615.length) = True := eq_true (by omega); (try rw [show ((0 : Int)).toNat = 0 from rfl] at hx618_0); (try rw [Addr.add_zero'] at hx618_0); replace p618 := eq_true p618; replace q618 := eq_true q618))
              repeat (go_quiet (first | (go_at_call 74; (try simp only [Go.IntWalk.i64_left]); (with_reducible refine (impl_edgesOf.calls kj2 _ _ l0_0 _ _ l0_1 t598 _ ?side1 ?side2 ?side3 ?side4 A16.out).mono ?_); (case side1 => repeat (first | exact (Kd.C_below HR0_0.out HB.out) | (with_reducible refine Kd.C_alloc ?_ _) | (with_reducible refine Kd.C_drewN ?_ _) | (with_reducible refine Kd.C_drew ?_))); (case side2 => exact HC0_0.out); (case side3 => repeat (first | exact (Kd.C_below HR0_1.out HB.out) | (with_reducible refine Kd.C_alloc ?_ _) | (with_reducible refine Kd.C_drewN ?_ _) | (with_reducible refine Kd.C_drew ?_))); (case side4 => exact HC0_1.out); rintro e w53 ⟨v599, rfl, ho0, hb⟩; have n0_ := Aside0.mk (Kd.R_lower ho0 (below_size (by repeat (first | (with_reducible first | exact HB.out | apply below_alloc | apply pw_below_drewN | apply below_drew1 | refine below_set ?_ GE596.out) | exact HB.out)))); have n1_ := Aside0.mk (blk_below (g := gb596) (o := .cells #[.slice A0_0 l0_0.length c0_0, .slice A0_1 l0_1.length c0_1] 27 (0, 0)) (by (with_reducible repeat (first | refine blk_drewN ?_ _ | refine blk_drew ?_ | refine blk_alloc ?_ _)); exact BK596.out) hb); have n2_ := Aside0.mk (below_step (by repeat (first | (with_reducible first | exact HB.out | apply below_alloc | apply pw_below_drewN | apply below_drew1 | refine below_set ?_ GE596.out) | exact HB.out)) hb); clear BK596 HB; have HO600 := n0_; have BK596 := n1_; have HB := n2_; clear n0_ n1_ n2_; (try clear hb); (try clear hb2); (try clear hk); (try clear hi); (try clear ho0); obtain ⟨Ao54, co54, eo54⟩ := Kd.R_slice HO600.out; subst eo54; have p601 : 0 ≤ (a1 : Int) := of_decide_eq_true (by first | (with_reducible assumption) | assumption); have q601 : a1 < (t598.length : Int) := of_decide_eq_true (by first | (with_reducible assumption) | assumption); obtain ⟨ad601, e601, hx601_0⟩ := Kd.at_int (Kd.R_reads' HO600.out).2.2 a1 p601 q601; cases e601; replace p601 := eq_true p601; replace q601 := eq_true q601; have hcz55_0 : w53.cell? ⟨gb596, 0, none⟩ = some (.slice A0_0 l0_0.length c0_0) := (blk_cell BK596.out 0).trans rfl; have hcz55_1 : w53.cell? ⟨gb596, 1, none⟩ = some (.slice A0_1 l0_1.length c0_1) := (blk_cell BK596.out 1).trans rfl; have hfz55_0 := blk_frozen BK596.out 0; have hfz55_1 := blk_frozen BK596.out 1) | (go_at_call 63; (try simp only [Go.IntWalk.i64_left]); (with_reducible refine (impl_vertexOf.calls kj2 _ _ l0_0 _ _ l0_1 t602 _ ?side1 ?side2 ?side3 ?side4 A19.out).mono ?_); (case side1 => repeat (first | exact (Kd.C_below HR0_0.out HB.out) | (with_reducible refine Kd.C_alloc ?_ _) | (with_reducible refine Kd.C_drewN ?_ _) | (with_reducible refine Kd.C_drew ?_))); (case side2 => exact HC0_0.out); (case side3 => repeat (first | exact (Kd.C_below HR0_1.out HB.out) | (with_reducible refine Kd.C_alloc ?_ _) | (with_reducible refine Kd.C_drewN ?_ _) | (with_reducible refine Kd.C_drew ?_))); (case side4 => exact HC0_1.out); rintro e w56 ⟨v603, rfl, ho0, hb⟩; have n0_ := Aside0.mk (Kd.R_elder' (by (with_reducible repeat (first | apply Kd.R_alloc | apply Kd.R_drewN | apply Kd.R_drew)); exact HO600.out) (Kd.R_base ho0) hb); have n1_ := Aside0.mk (Kd.R_lower (Kd.R_new' ho0 (Kd.R_lt (by (with_reducible repeat (first | apply Kd.R_alloc | apply Kd.R_drewN | apply Kd.R_drew)); exact HO600.out))) (below_size (by repeat (first | (with_reducible first | exact HB.out | apply below_alloc | apply pw_below_drewN | apply below_drew1 | refine below_set ?_ GE596.out) | exact HB.out)))); have n2_ := Aside0.mk (blk_below (g := gb596) (o := .cells #[.slice A0_0 l0_0.length c0_0, .slice A0_1 l0_1.length c0_1] 27 (0, 0)) (by (with_reducible repeat (first | refine blk_drewN ?_ _ | refine blk_drew ?_ | refine blk_alloc ?_ _)); exact BK596.out) hb); have n3_ := Aside0.mk (below_step (by repeat (first | (with_reducible first | exact HB.out | apply below_alloc | apply pw_below_drewN | apply below_drew1 | refine below_set ?_ GE596.out) | exact HB.out)) hb); clear HO600 BK596 HB; have HO600 := n0_; have HO604 := n1_; have BK596 := n2_; have HB := n3_; clear n0_ n1_ n2_ n3_; (try clear hb); (try clear hb2); (try clear hk); (try clear hi); (try clear ho0); obtain ⟨Ao57, co57, eo57⟩ := Kd.R_slice HO604.out; subst eo57; have p605 : 0 ≤ ((rd t598 a1) : Int) := of_decide_eq_true (by first | (with_reducible assumption) | assumption); have q605 : (rd t598 a1) < (t602.length : Int) := of_decide_eq_true (by first | (with_reducible assumption) | assumption); obtain ⟨ad605, e605, hx605_0⟩ := Kd.at_int (Kd.R_reads' HO604.out).2.2 (rd t598 a1) p605 q605; cases e605; replace p605 := eq_true p605; replace q605 := eq_true q605; have hcz58_0 : w56.cell? ⟨gb596, 0, none⟩ = some (.slice A0_0 l0_0.length c0_0) := (blk_cell BK596.out 0).trans rfl; have hcz58_1 : w56.cell? ⟨gb596, 1, none⟩ = some (.slice A0_1 l0_1.length c0_1) := (blk_cell BK596.out 1).trans rfl; have hfz58_0 := blk_frozen BK596.out 0; have hfz58_1 := blk_frozen BK596.out 1; have p606 : 0 ≤ ((rd t598 a1) : Int) := of_decide_eq_true (by first | (with_reducible assumption) | assumption); have q606 : (rd t598 a1) < (l0_1.length : Int) := of_decide_eq_true (by first | (with_reducible assumption) | assumption); obtain ⟨ad606, e606, hx606_0⟩ := Kd.at_int HR0_1.out (rd t598 a1) p606 q606; cases e606; replace hx606_0 := (HB.out.cell (World.block_lt_of_cell? w _ hx606_0)).trans hx606_0; replace p606 := eq_true p606; replace q606 := eq_true q606; have p607 : 0 ≤ ((rd l0_1 (rd t598 a1)) : Int) := of_decide_eq_true (by first | (with_reducible assumption) | assumption); have q607 : (rd l0_1 (rd t598 a1)) < (t602.length : Int) := of_decide_eq_true (by first | (with_reducible assumption) | assumption); obtain ⟨ad607, e607, hx607_0⟩ := Kd.at_int (Kd.R_reads' HO604.out).2.2 (rd l0_1 (rd t598 a1)) p607 q607; obtain rfl : ad605 = ad607 := (by injection e607); replace p607 := eq_true p607; replace q607 := eq_true q607) | ((with_reducible refine gate_dst (N := 47) rfl ?_); (try (refine gate_guard (by rfl) ?_; dsimp only)); refine Kd.R_lit (Kd.int .i64) _ 3 ?hg (N := 47) ?hd (xs := ([a1] : List Int)) (inner := [.int .i64 a1]) (ok := fun _ => True) (okp := fun _ => True) ?hr ?hp (fun _ hk => hk) trivial (Below.refl _ _) (Nat.le_refl _) (by simp) ?_; (case hd => rfl); (case hg => rfl); (case hr => first | (go_simp; done) | (go_simp; rfl)); (case hp => exact (Reps.one (show Kd.M (Kd.int .i64) _ _ _ a1 [.int .i64 a1] from rfl) (Reps.none _ _))); intro v609 w59 ho60 hb hg_ hnew_; clear hg_ hnew_; (first | rw [← Ny608.out] at ho60 | (simp only [Int.reduceToNat] at ho60; rw [← Ny608.out] at ho60)); have n0_ := Aside0.mk (Kd.R_elder' (by (with_reducible repeat (first | apply Kd.R_alloc | apply Kd.R_drewN | apply Kd.R_drew)); exact HO600.out) (Kd.R_base ho60) hb); have n1_ := Aside0.mk (Kd.R_elder' (by (with_reducible repeat (first | apply Kd.R_alloc | apply Kd.R_drewN | apply Kd.R_drew)); exact HO604.out) (Kd.R_base ho60) hb); have n2_ := Aside0.mk (Kd.R_lower (Kd.R_new' (Kd.R_new' ho60 (Kd.R_lt (by (with_reducible repeat (first | apply Kd.R_alloc | apply Kd.R_drewN | apply Kd.R_drew)); exact HO600.out))) (Kd.R_lt (by (with_reducible repeat (first | apply Kd.R_alloc | apply Kd.R_drewN | apply Kd.R_drew)); exact HO604.out))) (below_size (by repeat (first | (with_reducible first | exact HB.out | apply below_alloc | apply pw_below_drewN | apply below_drew1 | refine below_set ?_ GE596.out) | exact HB.out)))); have n3_ := Aside0.mk (blk_below (g := gb596) (o := .cells #[.slice A0_0 l0_0.length c0_0, .slice (some ad606) l0_1.length c0_1] 27 (0, 0)) (by (with_reducible repeat (first | refine blk_drewN ?_ _ | refine blk_drew ?_ | refine blk_alloc ?_ _)); exact BK596.out) hb); have n4_ := Aside0.mk (below_step (by repeat (first | (with_reducible first | exact HB.out | apply below_alloc | apply pw_below_drewN | apply below_drew1 | refine below_set ?_ GE596.out) | exact HB.out)) hb); clear HO600 HO604 BK596 HB; have HO600 := n0_; have HO604 := n1_; have HO610 := n2_; have BK596 := n3_; have HB := n4_; clear n0_ n1_ n2_ n3_ n4_ hb ho60; obtain ⟨Ao61, co61, eo61⟩ := Kd.R_slice HO610.out; subst eo61) | (go_at_call 23; (try simp only [Go.IntWalk.i64_left]); (with_reducible refine (impl_ChoiceRest.calls kj2 _ _ l0_0 _ _ l0_1 _ _ y608 t611 t614 _ ?side1 ?side2 ?side3 ?side4 ?side5 ?side6 A33.out).mono ?_); (case side1 => repeat (first | exact (Kd.C_below HR0_0.out HB.out) | (with_reducible refine Kd.C_alloc ?_ _) | (with_reducible refine Kd.C_drewN ?_ _) | (with_reducible refine Kd.C_drew ?_))); (case side2 => exact HC0_0.out); (case side3 => repeat (first | exact (Kd.C_below HR0_1.out HB.out) | (with_reducible refine Kd.C_alloc ?_ _) | (with_reducible refine Kd.C_drewN ?_ _) | (with_reducible refine Kd.C_drew ?_))); (case side4 => exact HC0_1.out); (case side5 => repeat (first | exact (Kd.R_reads' HO610.out).2.2 | (with_reducible refine Kd.C_alloc ?_ _) | (with_reducible refine Kd.C_drewN ?_ _) | (with_reducible refine Kd.C_drew ?_))); (case side6 => exact (Kd.R_reads' HO610.out).2.1); rintro e w62 ⟨v612, rfl, ho0, hb⟩; have n0_ := Aside0.mk (Kd.R_elder' (by (with_reducible repeat (first | apply Kd.R_alloc | apply Kd.R_drewN | apply Kd.R_drew)); exact HO600.out) (Kd.R_base ho0) hb); have n1_ := Aside0.mk (Kd.R_elder' (by (with_reducible repeat (first | apply Kd.R_alloc | apply Kd.R_drewN | apply Kd.R_drew)); exact HO604.out) (Kd.R_base ho0) hb); have n2_ := Aside0.mk (Kd.R_elder' (by (with_reducible repeat (first | apply Kd.R_alloc | apply Kd.R_drewN | apply Kd.R_drew)); exact HO610.out) (Kd.R_base ho0) hb); have n3_ := Aside0.mk (Kd.R_lower (Kd.R_new' (Kd.R_new' (Kd.R_new' ho0 (Kd.R_lt (by (with_reducible repeat (first | apply Kd.R_alloc | apply Kd.R_drewN | apply Kd.R_drew)); exact HO600.out))) (Kd.R_lt (by (with_reducible repeat (first | apply Kd.R_alloc | apply Kd.R_drewN | apply Kd.R_drew)); exact HO604.out))) (Kd.R_lt (by (with_reducible repeat (first | apply Kd.R_alloc | apply Kd.R_drewN | apply Kd.R_drew)); exact HO610.out))) (below_size (by repeat (first | (with_reducible first | exact HB.out | apply below_alloc | apply pw_below_drewN | apply below_drew1 | refine below_set ?_ GE596.out) | exact HB.out)))); have n4_ := Aside0.mk (blk_below (g := gb596) (o := .cells #[.slice A0_0 l0_0.length c0_0, .slice (some ad606) l0_1.length c0_1] 27 (0, 0)) (by (with_reducible repeat (first | refine blk_drewN ?_ _ | refine blk_drew ?_ | refine blk_alloc ?_ _)); exact BK596.out) hb); have n5_ := Aside0.mk (below_step (by repeat (first | (with_reducible first | exact HB.out | apply below_alloc | apply pw_below_drewN | apply below_drew1 | refine below_set ?_ GE596.out) | exact HB.out)) hb); clear HO600 HO604 HO610 BK596 HB; have HO600 := n0_; have HO604 := n1_; have HO610 := n2_; have HO613 := n3_; have BK596 := n4_; have HB := n5_; clear n0_ n1_ n2_ n3_ n4_ n5_; (try clear hb); (try clear hb2); (try clear hk); (try clear hi); (try clear ho0); have hcz63_0 : w62.cell? ⟨gb596, 0, none⟩ = some (.slice A0_0 l0_0.length c0_0) := (blk_cell BK596.out 0).trans rfl; have hcz63_1 : w62.cell? ⟨gb596, 1, none⟩ = some (.slice (some ad606) l0_1.length c0_1) := (blk_cell BK596.out 1).trans rfl; have hfz63_0 := blk_frozen BK596.out 0; have hfz63_1 := blk_frozen BK596.out 1; obtain ⟨Ao64, co64, eo64⟩ := Kd.R_slice HO613.out; subst eo64) | (go_at_call 66; (try simp only [Go.IntWalk.i64_left]); (with_reducible refine (impl_ribbon.calls kj2 (fun k_ => k_ < w.heap.size) _ _ l0_0 _ _ l0_1 _ _ t611 t615 _ ?side1 ?side2 ?side3 ?side4 ?side5 A34.out).mono ?_); (case side1 => exact Kd.V_mk HC0_0.out (Kd.F_below (Kd.C_F (Kd.heap_int .i64) HR0_0.out) (by repeat (first | (with_reducible first | exact HB.out | apply below_alloc | apply pw_below_drewN | apply below_drew1 | refine below_set ?_ GE596.out) | exact HB.out)))); (case side2 => repeat (first | exact (Kd.C_below HR0_1.out HB.out) | (with_reducible refine Kd.C_alloc ?_ _) | (with_reducible refine Kd.C_drewN ?_ _) | (with_reducible refine Kd.C_drew ?_))); (case side3 => exact HC0_1.out); (case side4 => repeat (first | exact (Kd.R_reads' HO613.out).2.2 | (with_reducible refine Kd.C_alloc ?_ _) | (with_reducible refine Kd.C_drewN ?_ _) | (with_reducible refine Kd.C_drew ?_))); (case side5 => exact (Kd.R_reads' HO613.out).2.1); rintro e w65 ⟨v616, rfl, ho0, hb⟩; have n0_ := Aside0.mk (Kd.R_elder' (by (with_reducible repeat (first | apply Kd.R_alloc | apply Kd.R_drewN | apply Kd.R_drew)); exact HO600.out) (Kd.R_base ho0) hb); have n1_ := Aside0.mk (Kd.R_elder' (by (with_reducible repeat (first | apply Kd.R_alloc | apply Kd.R_drewN | apply Kd.R_drew)); exact HO604.out) (Kd.R_base ho0) hb); have n2_ := Aside0.mk (Kd.R_elder' (by (with_reducible repeat (first | apply Kd.R_alloc | apply Kd.R_drewN | apply Kd.R_drew)); exact HO610.out) (Kd.R_base ho0) hb); have n3_ := Aside0.mk (Kd.R_elder' (by (with_reducible repeat (first | apply Kd.R_alloc | apply Kd.R_drewN | apply Kd.R_drew)); exact HO613.out) (Kd.R_base ho0) hb); have n4_ := Aside0.mk (Kd.R_lower (Kd.R_new' (Kd.R_new' (Kd.R_new' (Kd.R_new' (Kd.R_mono (ok' := fun k_ => True) ho0 (fun _ hk_ => trivial)) (Kd.R_lt (by (with_reducible repeat (first | apply Kd.R_alloc | apply Kd.R_drewN | apply Kd.R_drew)); exact HO600.out))) (Kd.R_lt (by (with_reducible repeat (first | apply Kd.R_alloc | apply Kd.R_drewN | apply Kd.R_drew)); exact HO604.out))) (Kd.R_lt (by (with_reducible repeat (first | apply Kd.R_alloc | apply Kd.R_drewN | apply Kd.R_drew)); exact HO610.out))) (Kd.R_lt (by (with_reducible repeat (first | apply Kd.R_alloc | apply Kd.R_drewN | apply Kd.R_drew)); exact HO613.out))) (below_size (by repeat (first | (with_reducible first | exact HB.out | apply below_alloc | apply pw_below_drewN | apply below_drew1 | refine below_set ?_ GE596.out) | exact HB.out)))); have n5_ := Aside0.mk (blk_below (g := gb596) (o := .cells #[.slice A0_0 l0_0.length c0_0, .slice (some ad606) l0_1.length c0_1] 27 (0, 0)) (by (with_reducible repeat (first | refine blk_drewN ?_ _ | refine blk_drew ?_ | refine blk_alloc ?_ _)); exact BK596.out) hb); have n6_ := Aside0.mk (below_step (by repeat (first | (with_reducible first | exact HB.out | apply below_alloc | apply pw_below_drewN | apply below_drew1 | refine below_set ?_ GE596.out) | exact HB.out)) hb); clear HO600 HO604 HO610 HO613 BK596 HB; have HO600 := n0_; have HO604 := n1_; have HO610 := n2_; have HO613 := n3_; have HO617 := n4_; have BK596 := n5_; have HB := n6_; clear n0_ n1_ n2_ n3_ n4_ n5_ n6_; (try clear hb); (try clear hb2); (try clear hk); (try clear hi); (try clear ho0); obtain ⟨Ao66, co66, eo66⟩ := Kd.R_slice HO617.out; subst eo66; have p618 : 0 ≤ (0 : Int) := (by omega); have q618 : 0 < (t615.length : Int) := of_decide_eq_true (by first | (with_reducible assumption) | assumption); obtain ⟨ad618, e618, hx618_0⟩ := Kd.at_int (Kd.R_reads' HO617.out).2.2 0 p618 q618; cases e618; have qi618 : (0 < t615.length) = True := eq_true (by omega); (try rw [show ((0 : Int)).toNat = 0 from rfl] at hx618_0); (try rw [Addr.add_zero'] at hx618_0); replace p618 := eq_true p618; replace q618 := eq_true q618)); try go_wp2_with (first | (go_at_call 74; (try simp only [Go.IntWalk.i64_left]); (with_reducible refine (impl_edgesOf.calls kj2 _ _ l0_0 _ _ l0_1 t598 _ ?side1 ?side2 ?side3 ?side4 A16.out).mono ?_); (case side1 => repeat (first | exact (Kd.C_below HR0_0.out HB.out) | (with_reducible refine Kd.C_alloc ?_ _) | (with_reducible refine Kd.C_drewN ?_ _) | (with_reducible refine Kd.C_drew ?_))); (case side2 => exact HC0_0.out); (case side3 => repeat (first | exact (Kd.C_below HR0_1.out HB.out) | (with_reducible refine Kd.C_alloc ?_ _) | (with_reducible refine Kd.C_drewN ?_ _) | (with_reducible refine Kd.C_drew ?_))); (case side4 => exact HC0_1.out); rintro e w53 ⟨v599, rfl, ho0, hb⟩; have n0_ := Aside0.mk (Kd.R_lower ho0 (below_size (by repeat (first | (with_reducible first | exact HB.out | apply below_alloc | apply pw_below_drewN | apply below_drew1 | refine below_set ?_ GE596.out) | exact HB.out)))); have n1_ := Aside0.mk (blk_below (g := gb596) (o := .cells #[.slice A0_0 l0_0.length c0_0, .slice A0_1 l0_1.length c0_1] 27 (0, 0)) (by (with_reducible repeat (first | refine blk_drewN ?_ _ | refine blk_drew ?_ | refine blk_alloc ?_ _)); exact BK596.out) hb); have n2_ := Aside0.mk (below_step (by repeat (first | (with_reducible first | exact HB.out | apply below_alloc | apply pw_below_drewN | apply below_drew1 | refine below_set ?_ GE596.out) | exact HB.out)) hb); clear BK596 HB; have HO600 := n0_; have BK596 := n1_; have HB := n2_; clear n0_ n1_ n2_; (try clear hb); (try clear hb2); (try clear hk); (try clear hi); (try clear ho0); obtain ⟨Ao54, co54, eo54⟩ := Kd.R_slice HO600.out; subst eo54; have p601 : 0 ≤ (a1 : Int) := of_decide_eq_true (by first | (with_reducible assumption) | assumption); have q601 : a1 < (t598.length : Int) := of_decide_eq_true (by first | (with_reducible assumption) | assumption); obtain ⟨ad601, e601, hx601_0⟩ := Kd.at_int (Kd.R_reads' HO600.out).2.2 a1 p601 q601; cases e601; replace p601 := eq_true p601; replace q601 := eq_true q601; have hcz55_0 : w53.cell? ⟨gb596, 0, none⟩ = some (.slice A0_0 l0_0.length c0_0) := (blk_cell BK596.out 0).trans rfl; have hcz55_1 : w53.cell? ⟨gb596, 1, none⟩ = some (.slice A0_1 l0_1.length c0_1) := (blk_cell BK596.out 1).trans rfl; have hfz55_0 := blk_frozen BK596.out 0; have hfz55_1 := blk_frozen BK596.out 1) | (go_at_call 63; (try simp only [Go.IntWalk.i64_left]); (with_reducible refine (impl_vertexOf.calls kj2 _ _ l0_0 _ _ l0_1 t602 _ ?side1 ?side2 ?side3 ?side4 A19.out).mono ?_); (case side1 => repeat (first | exact (Kd.C_below HR0_0.out HB.out) | (with_reducible refine Kd.C_alloc ?_ _) | (with_reducible refine Kd.C_drewN ?_ _) | (with_reducible refine Kd.C_drew ?_))); (case side2 => exact HC0_0.out); (case side3 => repeat (first | exact (Kd.C_below HR0_1.out HB.out) | (with_reducible refine Kd.C_alloc ?_ _) | (with_reducible refine Kd.C_drewN ?_ _) | (with_reducible refine Kd.C_drew ?_))); (case side4 => exact HC0_1.out); rintro e w56 ⟨v603, rfl, ho0, hb⟩; have n0_ := Aside0.mk (Kd.R_elder' (by (with_reducible repeat (first | apply Kd.R_alloc | apply Kd.R_drewN | apply Kd.R_drew)); exact HO600.out) (Kd.R_base ho0) hb); have n1_ := Aside0.mk (Kd.R_lower (Kd.R_new' ho0 (Kd.R_lt (by (with_reducible repeat (first | apply Kd.R_alloc | apply Kd.R_drewN | apply Kd.R_drew)); exact HO600.out))) (below_size (by repeat (first | (with_reducible first | exact HB.out | apply below_alloc | apply pw_below_drewN | apply below_drew1 | refine below_set ?_ GE596.out) | exact HB.out)))); have n2_ := Aside0.mk (blk_below (g := gb596) (o := .cells #[.slice A0_0 l0_0.length c0_0, .slice A0_1 l0_1.length c0_1] 27 (0, 0)) (by (with_reducible repeat (first | refine blk_drewN ?_ _ | refine blk_drew ?_ | refine blk_alloc ?_ _)); exact BK596.out) hb); have n3_ := Aside0.mk (below_step (by repeat (first | (with_reducible first | exact HB.out | apply below_alloc | apply pw_below_drewN | apply below_drew1 | refine below_set ?_ GE596.out) | exact HB.out)) hb); clear HO600 BK596 HB; have HO600 := n0_; have HO604 := n1_; have BK596 := n2_; have HB := n3_; clear n0_ n1_ n2_ n3_; (try clear hb); (try clear hb2); (try clear hk); (try clear hi); (try clear ho0); obtain ⟨Ao57, co57, eo57⟩ := Kd.R_slice HO604.out; subst eo57; have p605 : 0 ≤ ((rd t598 a1) : Int) := of_decide_eq_true (by first | (with_reducible assumption) | assumption); have q605 : (rd t598 a1) < (t602.length : Int) := of_decide_eq_true (by first | (with_reducible assumption) | assumption); obtain ⟨ad605, e605, hx605_0⟩ := Kd.at_int (Kd.R_reads' HO604.out).2.2 (rd t598 a1) p605 q605; cases e605; replace p605 := eq_true p605; replace q605 := eq_true q605; have hcz58_0 : w56.cell? ⟨gb596, 0, none⟩ = some (.slice A0_0 l0_0.length c0_0) := (blk_cell BK596.out 0).trans rfl; have hcz58_1 : w56.cell? ⟨gb596, 1, none⟩ = some (.slice A0_1 l0_1.length c0_1) := (blk_cell BK596.out 1).trans rfl; have hfz58_0 := blk_frozen BK596.out 0; have hfz58_1 := blk_frozen BK596.out 1; have p606 : 0 ≤ ((rd t598 a1) : Int) := of_decide_eq_true (by first | (with_reducible assumption) | assumption); have q606 : (rd t598 a1) < (l0_1.length : Int) := of_decide_eq_true (by first | (with_reducible assumption) | assumption); obtain ⟨ad606, e606, hx606_0⟩ := Kd.at_int HR0_1.out (rd t598 a1) p606 q606; cases e606; replace hx606_0 := (HB.out.cell (World.block_lt_of_cell? w _ hx606_0)).trans hx606_0; replace p606 := eq_true p606; replace q606 := eq_true q606; have p607 : 0 ≤ ((rd l0_1 (rd t598 a1)) : Int) := of_decide_eq_true (by first | (with_reducible assumption) | assumption); have q607 : (rd l0_1 (rd t598 a1)) < (t602.length : Int) := of_decide_eq_true (by first | (with_reducible assumption) | assumption); obtain ⟨ad607, e607, hx607_0⟩ := Kd.at_int (Kd.R_reads' HO604.out).2.2 (rd l0_1 (rd t598 a1)) p607 q607; obtain rfl : ad605 = ad607 := (by injection e607); replace p607 := eq_true p607; replace q607 := eq_true q607) | ((with_reducible refine gate_dst (N := 47) rfl ?_); (try (refine gate_guard (by rfl) ?_; dsimp only)); refine Kd.R_lit (Kd.int .i64) _ 3 ?hg (N := 47) ?hd (xs := ([a1] : List Int)) (inner := [.int .i64 a1]) (ok := fun _ => True) (okp := fun _ => True) ?hr ?hp (fun _ hk => hk) trivial (Below.refl _ _) (Nat.le_refl _) (by simp) ?_; (case hd => rfl); (case hg => rfl); (case hr => first | (go_simp; done) | (go_simp; rfl)); (case hp => exact (Reps.one (show Kd.M (Kd.int .i64) _ _ _ a1 [.int .i64 a1] from rfl) (Reps.none _ _))); intro v609 w59 ho60 hb hg_ hnew_; clear hg_ hnew_; (first | rw [← Ny608.out] at ho60 | (simp only [Int.reduceToNat] at ho60; rw [← Ny608.out] at ho60)); have n0_ := Aside0.mk (Kd.R_elder' (by (with_reducible repeat (first | apply Kd.R_alloc | apply Kd.R_drewN | apply Kd.R_drew)); exact HO600.out) (Kd.R_base ho60) hb); have n1_ := Aside0.mk (Kd.R_elder' (by (with_reducible repeat (first | apply Kd.R_alloc | apply Kd.R_drewN | apply Kd.R_drew)); exact HO604.out) (Kd.R_base ho60) hb); have n2_ := Aside0.mk (Kd.R_lower (Kd.R_new' (Kd.R_new' ho60 (Kd.R_lt (by (with_reducible repeat (first | apply Kd.R_alloc | apply Kd.R_drewN | apply Kd.R_drew)); exact HO600.out))) (Kd.R_lt (by (with_reducible repeat (first | apply Kd.R_alloc | apply Kd.R_drewN | apply Kd.R_drew)); exact HO604.out))) (below_size (by repeat (first | (with_reducible first | exact HB.out | apply below_alloc | apply pw_below_drewN | apply below_drew1 | refine below_set ?_ GE596.out) | exact HB.out)))); have n3_ := Aside0.mk (blk_below (g := gb596) (o := .cells #[.slice A0_0 l0_0.length c0_0, .slice (some ad606) l0_1.length c0_1] 27 (0, 0)) (by (with_reducible repeat (first | refine blk_drewN ?_ _ | refine blk_drew ?_ | refine blk_alloc ?_ _)); exact BK596.out) hb); have n4_ := Aside0.mk (below_step (by repeat (first | (with_reducible first | exact HB.out | apply below_alloc | apply pw_below_drewN | apply below_drew1 | refine below_set ?_ GE596.out) | exact HB.out)) hb); clear HO600 HO604 BK596 HB; have HO600 := n0_; have HO604 := n1_; have HO610 := n2_; have BK596 := n3_; have HB := n4_; clear n0_ n1_ n2_ n3_ n4_ hb ho60; obtain ⟨Ao61, co61, eo61⟩ := Kd.R_slice HO610.out; subst eo61) | (go_at_call 23; (try simp only [Go.IntWalk.i64_left]); (with_reducible refine (impl_ChoiceRest.calls kj2 _ _ l0_0 _ _ l0_1 _ _ y608 t611 t614 _ ?side1 ?side2 ?side3 ?side4 ?side5 ?side6 A33.out).mono ?_); (case side1 => repeat (first | exact (Kd.C_below HR0_0.out HB.out) | (with_reducible refine Kd.C_alloc ?_ _) | (with_reducible refine Kd.C_drewN ?_ _) | (with_reducible refine Kd.C_drew ?_))); (case side2 => exact HC0_0.out); (case side3 => repeat (first | exact (Kd.C_below HR0_1.out HB.out) | (with_reducible refine Kd.C_alloc ?_ _) | (with_reducible refine Kd.C_drewN ?_ _) | (with_reducible refine Kd.C_drew ?_))); (case side4 => exact HC0_1.out); (case side5 => repeat (first | exact (Kd.R_reads' HO610.out).2.2 | (with_reducible refine Kd.C_alloc ?_ _) | (with_reducible refine Kd.C_drewN ?_ _) | (with_reducible refine Kd.C_drew ?_))); (case side6 => exact (Kd.R_reads' HO610.out).2.1); rintro e w62 ⟨v612, rfl, ho0, hb⟩; have n0_ := Aside0.mk (Kd.R_elder' (by (with_reducible repeat (first | apply Kd.R_alloc | apply Kd.R_drewN | apply Kd.R_drew)); exact HO600.out) (Kd.R_base ho0) hb); have n1_ := Aside0.mk (Kd.R_elder' (by (with_reducible repeat (first | apply Kd.R_alloc | apply Kd.R_drewN | apply Kd.R_drew)); exact HO604.out) (Kd.R_base ho0) hb); have n2_ := Aside0.mk (Kd.R_elder' (by (with_reducible repeat (first | apply Kd.R_alloc | apply Kd.R_drewN | apply Kd.R_drew)); exact HO610.out) (Kd.R_base ho0) hb); have n3_ := Aside0.mk (Kd.R_lower (Kd.R_new' (Kd.R_new' (Kd.R_new' ho0 (Kd.R_lt (by (with_reducible repeat (first | apply Kd.R_alloc | apply Kd.R_drewN | apply Kd.R_drew)); exact HO600.out))) (Kd.R_lt (by (with_reducible repeat (first | apply Kd.R_alloc | apply Kd.R_drewN | apply Kd.R_drew)); exact HO604.out))) (Kd.R_lt (by (with_reducible repeat (first | apply Kd.R_alloc | apply Kd.R_drewN | apply Kd.R_drew)); exact HO610.out))) (below_size (by repeat (first | (with_reducible first | exact HB.out | apply below_alloc | apply pw_below_drewN | apply below_drew1 | refine below_set ?_ GE596.out) | exact HB.out)))); have n4_ := Aside0.mk (blk_below (g := gb596) (o := .cells #[.slice A0_0 l0_0.length c0_0, .slice (some ad606) l0_1.length c0_1] 27 (0, 0)) (by (with_reducible repeat (first | refine blk_drewN ?_ _ | refine blk_drew ?_ | refine blk_alloc ?_ _)); exact BK596.out) hb); have n5_ := Aside0.mk (below_step (by repeat (first | (with_reducible first | exact HB.out | apply below_alloc | apply pw_below_drewN | apply below_drew1 | refine below_set ?_ GE596.out) | exact HB.out)) hb); clear HO600 HO604 HO610 BK596 HB; have HO600 := n0_; have HO604 := n1_; have HO610 := n2_; have HO613 := n3_; have BK596 := n4_; have HB := n5_; clear n0_ n1_ n2_ n3_ n4_ n5_; (try clear hb); (try clear hb2); (try clear hk); (try clear hi); (try clear ho0); have hcz63_0 : w62.cell? ⟨gb596, 0, none⟩ = some (.slice A0_0 l0_0.length c0_0) := (blk_cell BK596.out 0).trans rfl; have hcz63_1 : w62.cell? ⟨gb596, 1, none⟩ = some (.slice (some ad606) l0_1.length c0_1) := (blk_cell BK596.out 1).trans rfl; have hfz63_0 := blk_frozen BK596.out 0; have hfz63_1 := blk_frozen BK596.out 1; obtain ⟨Ao64, co64, eo64⟩ := Kd.R_slice HO613.out; subst eo64) | (go_at_call 66; (try simp only [Go.IntWalk.i64_left]); (with_reducible refine (impl_ribbon.calls kj2 (fun k_ => k_ < w.heap.size) _ _ l0_0 _ _ l0_1 _ _ t611 t615 _ ?side1 ?side2 ?side3 ?side4 ?side5 A34.out).mono ?_); (case side1 => exact Kd.V_mk HC0_0.out (Kd.F_below (Kd.C_F (Kd.heap_int .i64) HR0_0.out) (by repeat (first | (with_reducible first | exact HB.out | apply below_alloc | apply pw_below_drewN | apply below_drew1 | refine below_set ?_ GE596.out) | exact HB.out)))); (case side2 => repeat (first | exact (Kd.C_below HR0_1.out HB.out) | (with_reducible refine Kd.C_alloc ?_ _) | (with_reducible refine Kd.C_drewN ?_ _) | (with_reducible refine Kd.C_drew ?_))); (case side3 => exact HC0_1.out); (case side4 => repeat (first | exact (Kd.R_reads' HO613.out).2.2 | (with_reducible refine Kd.C_alloc ?_ _) | (with_reducible refine Kd.C_drewN ?_ _) | (with_reducible refine Kd.C_drew ?_))); (case side5 => exact (Kd.R_reads' HO613.out).2.1); rintro e w65 ⟨v616, rfl, ho0, hb⟩; have n0_ := Aside0.mk (Kd.R_elder' (by (with_reducible repeat (first | apply Kd.R_alloc | apply Kd.R_drewN | apply Kd.R_drew)); exact HO600.out) (Kd.R_base ho0) hb); have n1_ := Aside0.mk (Kd.R_elder' (by (with_reducible repeat (first | apply Kd.R_alloc | apply Kd.R_drewN | apply Kd.R_drew)); exact HO604.out) (Kd.R_base ho0) hb); have n2_ := Aside0.mk (Kd.R_elder' (by (with_reducible repeat (first | apply Kd.R_alloc | apply Kd.R_drewN | apply Kd.R_drew)); exact HO610.out) (Kd.R_base ho0) hb); have n3_ := Aside0.mk (Kd.R_elder' (by (with_reducible repeat (first | apply Kd.R_alloc | apply Kd.R_drewN | apply Kd.R_drew)); exact HO613.out) (Kd.R_base ho0) hb); have n4_ := Aside0.mk (Kd.R_lower (Kd.R_new' (Kd.R_new' (Kd.R_new' (Kd.R_new' (Kd.R_mono (ok' := fun k_ => True) ho0 (fun _ hk_ => trivial)) (Kd.R_lt (by (with_reducible repeat (first | apply Kd.R_alloc | apply Kd.R_drewN | apply Kd.R_drew)); exact HO600.out))) (Kd.R_lt (by (with_reducible repeat (first | apply Kd.R_alloc | apply Kd.R_drewN | apply Kd.R_drew)); exact HO604.out))) (Kd.R_lt (by (with_reducible repeat (first | apply Kd.R_alloc | apply Kd.R_drewN | apply Kd.R_drew)); exact HO610.out))) (Kd.R_lt (by (with_reducible repeat (first | apply Kd.R_alloc | apply Kd.R_drewN | apply Kd.R_drew)); exact HO613.out))) (below_size (by repeat (first | (with_reducible first | exact HB.out | apply below_alloc | apply pw_below_drewN | apply below_drew1 | refine below_set ?_ GE596.out) | exact HB.out)))); have n5_ := Aside0.mk (blk_below (g := gb596) (o := .cells #[.slice A0_0 l0_0.length c0_0, .slice (some ad606) l0_1.length c0_1] 27 (0, 0)) (by (with_reducible repeat (first | refine blk_drewN ?_ _ | refine blk_drew ?_ | refine blk_alloc ?_ _)); exact BK596.out) hb); have n6_ := Aside0.mk (below_step (by repeat (first | (with_reducible first | exact HB.out | apply below_alloc | apply pw_below_drewN | apply below_drew1 | refine below_set ?_ GE596.out) | exact HB.out)) hb); clear HO600 HO604 HO610 HO613 BK596 HB; have HO600 := n0_; have HO604 := n1_; have HO610 := n2_; have HO613 := n3_; have HO617 := n4_; have BK596 := n5_; have HB := n6_; clear n0_ n1_ n2_ n3_ n4_ n5_ n6_; (try clear hb); (try clear hb2); (try clear hk); (try clear hi); (try clear ho0); obtain ⟨Ao66, co66, eo66⟩ := Kd.R_slice HO617.out; subst eo66; have p618 : 0 ≤ (0 : Int) := (by omega); have q618 : 0 < (t615.length : Int) := of_decide_eq_true (by first | (with_reducible assumption) | assumption); obtain ⟨ad618, e618, hx618_0⟩ := Kd.at_int (Kd.R_reads' HO617.out).2.2 0 p618 q618; cases e618; have qi618 : (0 < t615.length) = True := eq_true (by omega); (try rw [show ((0 : Int)).toNat = 0 from rfl] at hx618_0); (try rw [Addr.add_zero'] at hx618_0); replace p618 := eq_true p618; replace q618 := eq_true q618)))
              go_ret
              exact ⟨by first | rfl | (simp [errW_none, errW_some] <;> rfl) | (simp [*, errW_none, errW_some] <;> rfl), by repeat (first | (with_reducible first | exact HB.out | apply below_alloc | apply pw_below_drewN | apply below_drew1 | refine below_set ?_ GE596.out) | exact HB.out)⟩
            ·
             rw [if_neg c35] at H
             exact absurd H (by simp)
          ·
           rw [if_neg c24] at H
           exact absurd H (by simp)
         ·
          rw [if_neg c23] at H
          exact absurd H (by simp)
        ·
         rw [if_neg c22] at H
         exact absurd H (by simp)
       ·
        rw [if_neg c21] at H
        exact absurd H (by simp)
      ·
       rw [if_neg c20] at H
       exact absurd H (by simp)
     ·
      rw [if_neg c18] at H
      exact absurd H (by simp)
    ·
     rw [if_neg c17] at H
     exact absurd H (by simp)
end Go.Proofs.Ytcjmgkbbmahgcaa.PC

namespace Go.Proofs.Ytcjmgkbbmahgcaa.PC
open Go.RowKit Go.Proofs.YtcjmgkbbmahgcaaW.PrintWords Go.Proofs.YtcjmgkbbmahgcaaW.PrintLast Go.Proofs.YtcjmgkbbmahgcaaW.PrintMore
attribute [local go_sem] max2_int min2_int max_two min_two max_three min_three max_four min_four   -- for this text's walks alone
set_option linter.unusedVariables false
set_option linter.unusedSimpArgs false
def laws_FnExactEdgeKind.f (k : Nat) (l0_0 : List Int) (l0_1 : List Int) (a1 : Int) : Option (Bool) := (laws_szMap.f l0_0 l0_1 1048576).bind fun t620 => (if t620 < 0 then (some true) else ((laws_toMap.f k l0_0 l0_1).bind fun bt621 => ((spec_EdgeKind.f k bt621.1 bt621.2 a1).bind fun t627 => ((laws_toMap.f k l0_0 l0_1).bind fun bt628 => ((impl_EdgeKind.f k bt628.1 bt628.2 a1).bind fun t635 => (if t635 = t627 then ((laws_toMap.f k l0_0 l0_1).bind fun bt636 => ((laws_eqMap.f k bt628.1 bt628.2 bt636.1 bt636.2).bind fun t642 => (if t642 = true then (some true) else (some false)))) else (some false)))))))
set_option maxHeartbeats 8000000 in
set_option maxRecDepth 100000 in
theorem laws_FnExactEdgeKind.calls (k : Nat) (A0_0 : Option Addr) (c0_0 : Nat) (l0_0 : List Int) (A0_1 : Option Addr) (c0_1 : Nat) (l0_1 : List Int) (a1 : Int) (r : Bool) (w : World) (hr0_0 : Kd.C (Kd.int .i64) w A0_0 l0_0.length l0_0) (hc0_0 : l0_0.length ≤ c0_0) (hr0_1 : Kd.C (Kd.int .i64) w A0_1 l0_1.length l0_1) (hc0_1 : l0_1.length ≤ c0_1) (h : laws_FnExactEdgeKind.f k l0_0 l0_1 a1 = some r) :
  Calls Try.prog 11 #[.agg #[.slice A0_0 l0_0.length c0_0, .slice A0_1 l0_1.length c0_1], .int .i64 a1] w fun e w' => e = .returned (.bool r) ∧ Below w.heap.size w w' := by
 have hu24 := Try.underlying24
 have hu27 := Try.underlying27
 have HR0_0 := Aside0.mk hr0_0
 have HC0_0 := Aside0.mk hc0_0
 clear hr0_0 hc0_0
 have HR0_1 := Aside0.mk hr0_1
 have HC0_1 := Aside0.mk hc0_1
 clear hr0_1 hc0_1
 have HB := Aside0.mk (Below.refl w.heap.size w)
 have H : ((laws_szMap.f l0_0 l0_1 1048576).bind fun t620 => (if t620 < 0 then (some true) else ((laws_toMap.f k l0_0 l0_1).bind fun bt621 => ((spec_EdgeKind.f k bt621.1 bt621.2 a1).bind fun t627 => ((laws_toMap.f k l0_0 l0_1).bind fun bt628 => ((impl_EdgeKind.f k bt628.1 bt628.2 a1).bind fun t635 => (if t635 = t627 then ((laws_toMap.f k l0_0 l0_1).bind fun bt636 => ((laws_eqMap.f k bt628.1 bt628.2 bt636.1 bt636.2).bind fun t642 => (if t642 = true then (some true) else (some false)))) else (some false)))))))) = some r := h
 clear h
 replace H := Option.bind_eq_some_iff.mp H
 obtain ⟨t620, A30, H⟩ := H
 replace H : (if t620 < 0 then (some true) else ((laws_toMap.f k l0_0 l0_1).bind fun bt621 => ((spec_EdgeKind.f k bt621.1 bt621.2 a1).bind fun t627 => ((laws_toMap.f k l0_0 l0_1).bind fun bt628 => ((impl_EdgeKind.f k bt628.1 bt628.2 a1).bind fun t635 => (if t635 = t627 then ((laws_toMap.f k l0_0 l0_1).bind fun bt636 => ((laws_eqMap.f k bt628.1 bt628.2 bt636.1 bt636.2).bind fun t642 => (if t642 = true then (some true) else (some false)))) else (some false))))))) = some r := H
 have A3 := Aside0.mk A30
 clear A30
 by_cases c4 : t620 < 0
 ·
  rw [if_pos c4] at H
  have c4b0 : decide (t620 < 0) = true := decide_eq_true c4
  clear c4
  obtain rfl := Option.some.inj H
  go_enter Try.func11, Try.ntmps11
  go_wp2_with (first | ((with_reducible refine gate_dst (N := 2) rfl ?_); refine box_event ?hg (N := 2) ?hd (cs := #[.slice A0_0 l0_0.length c0_0, .slice A0_1 l0_1.length c0_1]) (t := 24) ?hr ?_; (case hd => rfl); (case hg => rfl); (case hr => first | (go_simp; done) | (go_simp; rfl)); intro gb619 hg w5 hbox hb; have n0_ := Aside0.mk (below_step (by repeat (first | (with_reducible first | exact HB.out | apply below_alloc | apply pw_below_drewN | apply below_drew1) | exact HB.out)) hb); have n1_ := Aside0.mk (hbox); have n2_ := Aside0.mk ((by rw [hg]; exact (below_size (by repeat (first | (with_reducible first | exact HB.out | apply below_alloc | apply pw_below_drewN | apply below_drew1) | exact HB.out))) : w.heap.size ≤ gb619)); have n3_ := Aside0.mk ((by rw [hg]; exact (below_size (by repeat (first | (with_reducible first | exact HB.out | apply below_alloc | apply pw_below_drewN | apply below_drew1) | exact HB.out))) : w.heap.size ≤ gb619)); clear HB; have HB := n0_; have BK619 := n1_; have GW619 := n2_; have GE619 := n3_; clear n0_ n1_ n2_ n3_ hb hbox hg; have hcz6_0 : w5.cell? ⟨gb619, 0, none⟩ = some (.slice A0_0 l0_0.length c0_0) := (blk_cell BK619.out 0).trans rfl; have hcz6_1 : w5.cell? ⟨gb619, 1, none⟩ = some (.slice A0_1 l0_1.length c0_1) := (blk_cell BK619.out 1).trans rfl; have hfz6_0 := blk_frozen BK619.out 0; have hfz6_1 := blk_frozen BK619.out 1) | ((with_reducible refine gate_callee (f := 15) rfl ?_); refine goesL_ (some 11) rfl rfl Try.func15 (by kernel_rfl) rfl #[.agg #[.slice A0_0 l0_0.length c0_0, .slice A0_1 l0_1.length c0_1], .int .i64 1048576] rfl (by (try simp only [List.map_toArray, List.map_cons, List.map_nil]); first | done | rfl | (simp only [List.length_drop, List.length_take]; rfl)) ?_; (with_reducible refine (laws_szMap.calls _ _ l0_0 _ _ l0_1 1048576 t620 _ ?side1 ?side2 ?side3 ?side4 A3.out).mono ?_); (case side1 => repeat (first | exact (Kd.C_below HR0_0.out HB.out) | (with_reducible refine Kd.C_alloc ?_ _) | (with_reducible refine Kd.C_drewN ?_ _) | (with_reducible refine Kd.C_drew ?_))); (case side2 => exact HC0_0.out); (case side3 => repeat (first | exact (Kd.C_below HR0_1.out HB.out) | (with_reducible refine Kd.C_alloc ?_ _) | (with_reducible refine Kd.C_drewN ?_ _) | (with_reducible refine Kd.C_drew ?_))); (case side4 => exact HC0_1.out); rintro e w7 ⟨rfl, hb⟩; refine ⟨_, rfl, ?_⟩; have n0_ := Aside0.mk (blk_below (g := gb619) (o := .cells #[.slice A0_0 l0_0.length c0_0, .slice A0_1 l0_1.length c0_1] 24 (0, 0)) (by (with_reducible repeat (first | refine blk_drewN ?_ _ | refine blk_drew ?_ | refine blk_alloc ?_ _)); exact BK619.out) hb); have n1_ := Aside0.mk (below_step (by repeat (first | (with_reducible first | exact HB.out | apply below_alloc | apply pw_below_drewN | apply below_drew1 | refine below_set ?_ GE619.out) | exact HB.out)) hb); clear BK619 HB; have BK619 := n0_; have HB := n1_; clear n0_ n1_; (try clear hb); (try clear hb2); (try clear hk); (try clear hi)))
  go_ret
  exact ⟨by first | rfl | (simp [errW_none, errW_some] <;> rfl) | (simp [*, errW_none, errW_some] <;> rfl), by repeat (first | (with_reducible first | exact HB.out | apply below_alloc | apply pw_below_drewN | apply below_drew1 | refine below_set ?_ GE619.out) | exact HB.out)⟩
 ·
  rw [if_neg c4] at H
  have c4b0 : decide (t620 < 0) = false := decide_eq_false c4
  clear c4
  replace H := Option.bind_eq_some_iff.mp H
  obtain ⟨⟨t621, t624⟩, A80, H⟩ := H
  replace H : ((spec_EdgeKind.f k t621 t624 a1).bind fun t627 => ((laws_toMap.f k l0_0 l0_1).bind fun bt628 => ((impl_EdgeKind.f k bt628.1 bt628.2 a1).bind fun t635 => (if t635 = t627 then ((laws_toMap.f k l0_0 l0_1).bind fun bt636 => ((laws_eqMap.f k bt628.1 bt628.2 bt636.1 bt636.2).bind fun t642 => (if t642 = true then (some true) else (some false)))) else (some false))))) = some r := H
  have A8 := Aside0.mk A80
  clear A80
  replace H := Option.bind_eq_some_iff.mp H
  obtain ⟨t627, A90, H⟩ := H
  replace H : ((laws_toMap.f k l0_0 l0_1).bind fun bt628 => ((impl_EdgeKind.f k bt628.1 bt628.2 a1).bind fun t635 => (if t635 = t627 then ((laws_toMap.f k l0_0 l0_1).bind fun bt636 => ((laws_eqMap.f k bt628.1 bt628.2 bt636.1 bt636.2).bind fun t642 => (if t642 = true then (some true) else (some false)))) else (some false)))) = some r := H
  have A9 := Aside0.mk A90
  clear A90
  replace H := Option.bind_eq_some_iff.mp H
  obtain ⟨⟨t628, t631⟩, A100, H⟩ := H
  replace H : ((impl_EdgeKind.f k t628 t631 a1).bind fun t635 => (if t635 = t627 then ((laws_toMap.f k l0_0 l0_1).bind fun bt636 => ((laws_eqMap.f k t628 t631 bt636.1 bt636.2).bind fun t642 => (if t642 = true then (some true) else (some false)))) else (some false))) = some r := H
  have A10 := Aside0.mk A100
  clear A100
  replace H := Option.bind_eq_some_iff.mp H
  obtain ⟨t635, A110, H⟩ := H
  replace H : (if t635 = t627 then ((laws_toMap.f k l0_0 l0_1).bind fun bt636 => ((laws_eqMap.f k t628 t631 bt636.1 bt636.2).bind fun t642 => (if t642 = true then (some true) else (some false)))) else (some false)) = some r := H
  have A11 := Aside0.mk A110
  clear A110
  by_cases c12 : t635 = t627
  ·
   rw [if_pos c12] at H
   have c12b0 : (t635 == t627) = true := beq_iff_eq.mpr c12
   have c12b1 : (t635 != t627) = false := bne_eq_false_iff_eq.mpr c12
   clear c12
   replace H := Option.bind_eq_some_iff.mp H
   obtain ⟨⟨t636, t639⟩, A130, H⟩ := H
   replace H : ((laws_eqMap.f k t628 t631 t636 t639).bind fun t642 => (if t642 = true then (some true) else (some false))) = some r := H
   have A13 := Aside0.mk A130
   clear A130
   replace H := Option.bind_eq_some_iff.mp H
   obtain ⟨t642, A140, H⟩ := H
   replace H : (if t642 = true then (some true) else (some false)) = some r := H
   have A14 := Aside0.mk A140
   clear A140
   by_cases c15 : t642 = true
   ·
    subst c15
    have H1 : (some true) = some r := by rw [if_pos rfl] at H; exact H
    clear H
    have H := H1
    clear H1
    obtain rfl := Option.some.inj H
    go_enter Try.func11, Try.ntmps11
    try go_wp2_with (first | ((with_reducible refine gate_dst (N := 2) rfl ?_); refine box_event ?hg (N := 2) ?hd (cs := #[.slice A0_0 l0_0.length c0_0, .slice A0_1 l0_1.length c0_1]) (t := 24) ?hr ?_; (case hd => rfl); (case hg => rfl); (case hr => first | (go_simp; done) | (go_simp; rfl)); intro gb619 hg w16 hbox hb; have n0_ := Aside0.mk (below_step (by repeat (first | (with_reducible first | exact HB.out | apply below_alloc | apply pw_below_drewN | apply below_drew1) | exact HB.out)) hb); have n1_ := Aside0.mk (hbox); have n2_ := Aside0.mk ((by rw [hg]; exact (below_size (by repeat (first | (with_reducible first | exact HB.out | apply below_alloc | apply pw_below_drewN | apply below_drew1) | exact HB.out))) : w.heap.size ≤ gb619)); have n3_ := Aside0.mk ((by rw [hg]; exact (below_size (by repeat (first | (with_reducible first | exact HB.out | apply below_alloc | apply pw_below_drewN | apply below_drew1) | exact HB.out))) : w.heap.size ≤ gb619)); clear HB; have HB := n0_; have BK619 := n1_; have GW619 := n2_; have GE619 := n3_; clear n0_ n1_ n2_ n3_ hb hbox hg; have hcz17_0 : w16.cell? ⟨gb619, 0, none⟩ = some (.slice A0_0 l0_0.length c0_0) := (blk_cell BK619.out 0).trans rfl; have hcz17_1 : w16.cell? ⟨gb619, 1, none⟩ = some (.slice A0_1 l0_1.length c0_1) := (blk_cell BK619.out 1).trans rfl; have hfz17_0 := blk_frozen BK619.out 0; have hfz17_1 := blk_frozen BK619.out 1) | ((with_reducible refine gate_callee (f := 15) rfl ?_); refine goesL_ (some 11) rfl rfl Try.func15 (by kernel_rfl) rfl #[.agg #[.slice A0_0 l0_0.length c0_0, .slice A0_1 l0_1.length c0_1], .int .i64 1048576] rfl (by (try simp only [List.map_toArray, List.map_cons, List.map_nil]); first | done | rfl | (simp only [List.length_drop, List.length_take]; rfl)) ?_; (with_reducible refine (laws_szMap.calls _ _ l0_0 _ _ l0_1 1048576 t620 _ ?side1 ?side2 ?side3 ?side4 A3.out).mono ?_); (case side1 => repeat (first | exact (Kd.C_below HR0_0.out HB.out) | (with_reducible refine Kd.C_alloc ?_ _) | (with_reducible refine Kd.C_drewN ?_ _) | (with_reducible refine Kd.C_drew ?_))); (case side2 => exact HC0_0.out); (case side3 => repeat (first | exact (Kd.C_below HR0_1.out HB.out) | (with_reducible refine Kd.C_alloc ?_ _) | (with_reducible refine Kd.C_drewN ?_ _) | (with_reducible refine Kd.C_drew ?_))); (case side4 => exact HC0_1.out); rintro e w18 ⟨rfl, hb⟩; refine ⟨_, rfl, ?_⟩; have n0_ := Aside0.mk (blk_below (g := gb619) (o := .cells #[.slice A0_0 l0_0.length c0_0, .slice A0_1 l0_1.length c0_1] 24 (0, 0)) (by (with_reducible repeat (first | refine blk_drewN ?_ _ | refine blk_drew ?_ | refine blk_alloc ?_ _)); exact BK619.out) hb); have n1_ := Aside0.mk (below_step (by repeat (first | (with_reducible first | exact HB.out | apply below_alloc | apply pw_below_drewN | apply below_drew1 | refine below_set ?_ GE619.out) | exact HB.out)) hb); clear BK619 HB; have BK619 := n0_; have HB := n1_; clear n0_ n1_; (try clear hb); (try clear hb2); (try clear hk); (try clear hi); have hcz19_0 : w18.cell? ⟨gb619, 0, none⟩ = some (.slice A0_0 l0_0.length c0_0) := (blk_cell BK619.out 0).trans rfl; have hcz19_1 : w18.cell? ⟨gb619, 1, none⟩ = some (.slice A0_1 l0_1.length c0_1) := (blk_cell BK619.out 1).trans rfl; have hfz19_0 := blk_frozen BK619.out 0; have hfz19_1 := blk_frozen BK619.out 1) | ((with_reducible refine gate_callee (f := 17) rfl ?_); refine goesL_ (some 15) rfl rfl Try.func17 (by kernel_rfl) rfl #[.agg #[.slice A0_0 l0_0.length c0_0, .slice A0_1 l0_1.length c0_1]] rfl (by (try simp only [List.map_toArray, List.map_cons, List.map_nil]); first | done | rfl | (simp only [List.length_drop, List.length_take]; rfl)) ?_; (with_reducible refine (laws_toMap.calls k _ _ l0_0 _ _ l0_1 t621 t624 _ ?side1 ?side2 ?side3 ?side4 A8.out).mono ?_); (case side1 => repeat (first | exact (Kd.C_below HR0_0.out HB.out) | (with_reducible refine Kd.C_alloc ?_ _) | (with_reducible refine Kd.C_drewN ?_ _) | (with_reducible refine Kd.C_drew ?_))); (case side2 => exact HC0_0.out); (case side3 => repeat (first | exact (Kd.C_below HR0_1.out HB.out) | (with_reducible refine Kd.C_alloc ?_ _) | (with_reducible refine Kd.C_drewN ?_ _) | (with_reducible refine Kd.C_drew ?_))); (case side4 => exact HC0_1.out); rintro e w20 ⟨v622, v625, rfl, ho0, ho1, hb⟩; refine ⟨_, rfl, ?_⟩; have n0_ := Aside0.mk (Kd.R_lower ho0 (below_size (by repeat (first | (with_reducible first | exact HB.out | apply below_alloc | apply pw_below_drewN | apply below_drew1 | refine below_set ?_ GE619.out) | exact HB.out)))); have n1_ := Aside0.mk (Kd.R_lower ho1 (below_size (by repeat (first | (with_reducible first | exact HB.out | apply below_alloc | apply pw_below_drewN | apply below_drew1 | refine below_set ?_ GE619.out) | exact HB.out)))); have n2_ := Aside0.mk (blk_below (g := gb619) (o := .cells #[.slice A0_0 l0_0.length c0_0, .slice A0_1 l0_1.length c0_1] 24 (0, 0)) (by (with_reducible repeat (first | refine blk_drewN ?_ _ | refine blk_drew ?_ | refine blk_alloc ?_ _)); exact BK619.out) hb); have n3_ := Aside0.mk (below_step (by repeat (first | (with_reducible first | exact HB.out | apply below_alloc | apply pw_below_drewN | apply below_drew1 | refine below_set ?_ GE619.out) | exact HB.out)) hb); clear BK619 HB; have HO623 := n0_; have HO626 := n1_; have BK619 := n2_; have HB := n3_; clear n0_ n1_ n2_ n3_; (try clear hb); (try clear hb2); (try clear hk); (try clear hi); (try clear ho0); (try clear ho1); obtain ⟨Ao21, co21, eo21⟩ := Kd.R_slice HO623.out; subst eo21; obtain ⟨Ao22, co22, eo22⟩ := Kd.R_slice HO626.out; subst eo22) | ((with_reducible refine gate_callee (f := 40) rfl ?_); refine goesL_ (some 17) rfl rfl Try.func40 (by kernel_rfl) rfl #[.agg #[.slice Ao21 t621.length co21, .slice Ao22 t624.length co22], .int .i64 a1] rfl (by (try simp only [List.map_toArray, List.map_cons, List.map_nil]); first | done | rfl | (simp only [List.length_drop, List.length_take]; rfl)) ?_; (with_reducible refine (spec_EdgeKind.calls k _ _ t621 _ _ t624 a1 t627 _ ?side1 ?side2 ?side3 ?side4 A9.out).mono ?_); (case side1 => repeat (first | exact (Kd.R_reads' HO623.out).2.2 | (with_reducible refine Kd.C_alloc ?_ _) | (with_reducible refine Kd.C_drewN ?_ _) | (with_reducible refine Kd.C_drew ?_))); (case side2 => exact (Kd.R_reads' HO623.out).2.1); (case side3 => repeat (first | exact (Kd.R_reads' HO626.out).2.2 | (with_reducible refine Kd.C_alloc ?_ _) | (with_reducible refine Kd.C_drewN ?_ _) | (with_reducible refine Kd.C_drew ?_))); (case side4 => exact (Kd.R_reads' HO626.out).2.1); rintro e w23 ⟨rfl, hb⟩; refine ⟨_, rfl, ?_⟩; have n0_ := Aside0.mk (Kd.R_below (by (with_reducible repeat (first | apply Kd.R_alloc | apply Kd.R_drewN | apply Kd.R_drew)); exact HO623.out) hb); have n1_ := Aside0.mk (Kd.R_below (by (with_reducible repeat (first | apply Kd.R_alloc | apply Kd.R_drewN | apply Kd.R_drew)); exact HO626.out) hb); have n2_ := Aside0.mk (blk_below (g := gb619) (o := .cells #[.slice A0_0 l0_0.length c0_0, .slice A0_1 l0_1.length c0_1] 24 (0, 0)) (by (with_reducible repeat (first | refine blk_drewN ?_ _ | refine blk_drew ?_ | refine blk_alloc ?_ _)); exact BK619.out) hb); have n3_ := Aside0.mk (below_step (by repeat (first | (with_reducible first | exact HB.out | apply below_alloc | apply pw_below_drewN | apply below_drew1 | refine below_set ?_ GE619.out) | exact HB.out)) hb); clear HO623 HO626 BK619 HB; have HO623 := n0_; have HO626 := n1_; have BK619 := n2_; have HB := n3_; clear n0_ n1_ n2_ n3_; (try clear hb); (try clear hb2); (try clear hk); (try clear hi); have hcz24_0 : w23.cell? ⟨gb619, 0, none⟩ = some (.slice A0_0 l0_0.length c0_0) := (blk_cell BK619.out 0).trans rfl; have hcz24_1 : w23.cell? ⟨gb619, 1, none⟩ = some (.slice A0_1 l0_1.length c0_1) := (blk_cell BK619.out 1).trans rfl; have hfz24_0 := blk_frozen BK619.out 0; have hfz24_1 := blk_frozen BK619.out 1) | ((with_reducible refine gate_callee (f := 17) rfl ?_); refine goesL_ (some 19) rfl rfl Try.func17 (by kernel_rfl) rfl #[.agg #[.slice A0_0 l0_0.length c0_0, .slice A0_1 l0_1.length c0_1]] rfl (by (try simp only [List.map_toArray, List.map_cons, List.map_nil]); first | done | rfl | (simp only [List.length_drop, List.length_take]; rfl)) ?_; (with_reducible refine (laws_toMap.calls k _ _ l0_0 _ _ l0_1 t628 t631 _ ?side1 ?side2 ?side3 ?side4 A10.out).mono ?_); (case side1 => repeat (first | exact (Kd.C_below HR0_0.out HB.out) | (with_reducible refine Kd.C_alloc ?_ _) | (with_reducible refine Kd.C_drewN ?_ _) | (with_reducible refine Kd.C_drew ?_))); (case side2 => exact HC0_0.out); (case side3 => repeat (first | exact (Kd.C_below HR0_1.out HB.out) | (with_reducible refine Kd.C_alloc ?_ _) | (with_reducible refine Kd.C_drewN ?_ _) | (with_reducible refine Kd.C_drew ?_))); (case side4 => exact HC0_1.out); rintro e w25 ⟨v629, v632, rfl, ho0, ho1, hb⟩; refine ⟨_, rfl, ?_⟩; have n0_ := Aside0.mk (Kd.R_mono (Kd.R_told (Kd.R_told (Kd.R_old (by (with_reducible repeat (first | apply Kd.R_alloc | apply Kd.R_drewN | apply Kd.R_drew)); exact HO623.out) hb) (Kd.R_base ho0)) (Kd.R_base ho1)) (fun _ h_ => h_.1)); have n1_ := Aside0.mk (Kd.R_mono (Kd.R_told (Kd.R_told (Kd.R_old (by (with_reducible repeat (first | apply Kd.R_alloc | apply Kd.R_drewN | apply Kd.R_drew)); exact HO626.out) hb) (Kd.R_base ho0)) (Kd.R_base ho1)) (fun _ h_ => h_.1)); have n2_ := Aside0.mk (Kd.R_lower (Kd.R_new' (Kd.R_new' ho0 (Kd.R_lt (by (with_reducible repeat (first | apply Kd.R_alloc | apply Kd.R_drewN | apply Kd.R_drew)); exact HO623.out))) (Kd.R_lt (by (with_reducible repeat (first | apply Kd.R_alloc | apply Kd.R_drewN | apply Kd.R_drew)); exact HO626.out))) (below_size (by repeat (first | (with_reducible first | exact HB.out | apply below_alloc | apply pw_below_drewN | apply below_drew1 | refine below_set ?_ GE619.out) | exact HB.out)))); have n3_ := Aside0.mk (Kd.R_lower (Kd.R_new' (Kd.R_new' ho1 (Kd.R_lt (by (with_reducible repeat (first | apply Kd.R_alloc | apply Kd.R_drewN | apply Kd.R_drew)); exact HO623.out))) (Kd.R_lt (by (with_reducible repeat (first | apply Kd.R_alloc | apply Kd.R_drewN | apply Kd.R_drew)); exact HO626.out))) (below_size (by repeat (first | (with_reducible first | exact HB.out | apply below_alloc | apply pw_below_drewN | apply below_drew1 | refine below_set ?_ GE619.out) | exact HB.out)))); have n4_ := Aside0.mk (blk_below (g := gb619) (o := .cells #[.slice A0_0 l0_0.length c0_0, .slice A0_1 l0_1.length c0_1] 24 (0, 0)) (by (with_reducible repeat (first | refine blk_drewN ?_ _ | refine blk_drew ?_ | refine blk_alloc ?_ _)); exact BK619.out) hb); have n5_ := Aside0.mk (below_step (by repeat (first | (with_reducible first | exact HB.out | apply below_alloc | apply pw_below_drewN | apply below_drew1 | refine below_set ?_ GE619.out) | exact HB.out)) hb); clear HO623 HO626 BK619 HB; have HO623 := n0_; have HO626 := n1_; have HO630 := n2_; have HO633 := n3_; have BK619 := n4_; have HB := n5_; clear n0_ n1_ n2_ n3_ n4_ n5_; (try clear hb); (try clear hb2); (try clear hk); (try clear hi); (try clear ho0); (try clear ho1)) | ((with_reducible refine gate_dst (N := 7) rfl ?_); refine box_event ?hg (N := 7) ?hd (cs := #[.slice none 0 0, .slice none 0 0]) (t := 27) ?hr ?_; (case hd => rfl); (case hg => rfl); (case hr => first | (go_simp; done) | (go_simp; rfl)); intro gb634 hg w26 hbox hb; have n0_ := Aside0.mk (Kd.R_below (by (with_reducible repeat (first | apply Kd.R_alloc | apply Kd.R_drewN | apply Kd.R_drew)); exact HO623.out) hb); have n1_ := Aside0.mk (Kd.R_below (by (with_reducible repeat (first | apply Kd.R_alloc | apply Kd.R_drewN | apply Kd.R_drew)); exact HO626.out) hb); have n2_ := Aside0.mk (Kd.R_below (by (with_reducible repeat (first | apply Kd.R_alloc | apply Kd.R_drewN | apply Kd.R_drew)); exact HO630.out) hb); have n3_ := Aside0.mk (Kd.R_below (by (with_reducible repeat (first | apply Kd.R_alloc | apply Kd.R_drewN | apply Kd.R_drew)); exact HO633.out) hb); have n4_ := Aside0.mk (blk_below (g := gb619) (o := .cells #[.slice A0_0 l0_0.length c0_0, .slice A0_1 l0_1.length c0_1] 24 (0, 0)) (by (with_reducible repeat (first | refine blk_drewN ?_ _ | refine blk_drew ?_ | refine blk_alloc ?_ _)); exact BK619.out) hb); have n5_ := Aside0.mk (below_step (by repeat (first | (with_reducible first | exact HB.out | apply below_alloc | apply pw_below_drewN | apply below_drew1 | refine below_set ?_ GE619.out) | exact HB.out)) hb); have n6_ := Aside0.mk (hbox); have n7_ := Aside0.mk ((by rw [hg]; exact (below_size (by repeat (first | (with_reducible first | exact HB.out | apply below_alloc | apply pw_below_drewN | apply below_drew1 | refine below_set ?_ GE619.out) | exact HB.out))) : w.heap.size ≤ gb634)); have n8_ := Aside0.mk ((by rw [hg]; exact (below_size (by repeat (first | (with_reducible first | exact HB.out | apply below_alloc | apply pw_below_drewN | apply below_drew1 | refine below_set ?_ GE619.out) | exact HB.out))) : w.heap.size ≤ gb634)); have n9_ := Aside0.mk ((by rw [hg]; exact Nat.ne_of_lt (blk_lt (g := gb619) (o := .cells #[.slice A0_0 l0_0.length c0_0, .slice A0_1 l0_1.length c0_1] 24 (0, 0)) (by (with_reducible repeat (first | refine blk_drewN ?_ _ | refine blk_drew ?_ | refine blk_alloc ?_ _)); exact BK619.out)) : gb619 ≠ gb634)); have n10_ := Aside0.mk ((by rw [hg]; exact Nat.ne_of_gt (blk_lt (g := gb619) (o := .cells #[.slice A0_0 l0_0.length c0_0, .slice A0_1 l0_1.length c0_1] 24 (0, 0)) (by (with_reducible repeat (first | refine blk_drewN ?_ _ | refine blk_drew ?_ | refine blk_alloc ?_ _)); exact BK619.out)) : gb634 ≠ gb619)); clear HO623 HO626 HO630 HO633 BK619 HB; have HO623 := n0_; have HO626 := n1_; have HO630 := n2_; have HO633 := n3_; have BK619 := n4_; have HB := n5_; have BK634 := n6_; have GW634 := n7_; have GE634 := n8_; have NB619_634 := n9_; have NB634_619 := n10_; clear n0_ n1_ n2_ n3_ n4_ n5_ n6_ n7_ n8_ n9_ n10_ hb hbox hg; obtain ⟨Ao27, co27, eo27⟩ := Kd.R_slice HO630.out; subst eo27; have hnb28 := NB634_619.out; have hnc28 := NB619_634.out; have hcz29_0 : w26.cell? ⟨gb634, 0, none⟩ = some (.slice none 0 0) := (blk_cell BK634.out 0).trans rfl; have hcz29_1 : w26.cell? ⟨gb634, 1, none⟩ = some (.slice none 0 0) := (blk_cell BK634.out 1).trans rfl; have hfz29_0 := blk_frozen BK634.out 0; have hfz29_1 := blk_frozen BK634.out 1; obtain ⟨Ao30, co30, eo30⟩ := Kd.R_slice HO633.out; subst eo30) | ((with_reducible refine gate_callee (f := 41) rfl ?_); refine goesL_ (some 22) rfl rfl Try.func41 (by kernel_rfl) rfl #[.agg #[.slice Ao27 t628.length co27, .slice Ao30 t631.length co30], .int .i64 a1] rfl (by (try simp only [List.map_toArray, List.map_cons, List.map_nil]); first | done | rfl | (simp only [List.length_drop, List.length_take]; rfl)) ?_; (with_reducible refine (impl_EdgeKind.calls k _ _ t628 _ _ t631 a1 t635 _ ?side1 ?side2 ?side3 ?side4 A11.out).mono ?_); (case side1 => refine (Kd.R_reads' (e := 3) (base := w.heap.size) (ok := fun k_ => ((some k_ ≠ (.slice Ao30 t631.length co30 : Value).ownBlock ∧ some k_ ≠ (.slice Ao21 t621.length co21 : Value).ownBlock) ∧ some k_ ≠ (.slice Ao22 t624.length co22 : Value).ownBlock)) (n := t628.length) (c := co27) ?_).2.2; exact (by (with_reducible repeat (first | apply Kd.R_alloc | apply Kd.R_drewN | apply Kd.R_drew)); exact (Kd.R_mono (Kd.R_far (p := ⟨gb634, 1, none⟩) (Kd.R_far (p := ⟨gb634, 0, none⟩) (Kd.R_types HO630.out BK634.out (by decide)) (fun _ hk => hk.2) (.slice Ao27 t628.length co27)) (fun _ hk => hk.2) (.slice Ao30 t631.length co30)) (fun _ h_ => h_.1)))); (case side2 => exact (Kd.R_reads' HO630.out).2.1); (case side3 => refine (Kd.R_reads' (e := 3) (base := w.heap.size) (ok := fun k_ => ((some k_ ≠ (.slice Ao27 t628.length co27 : Value).ownBlock ∧ some k_ ≠ (.slice Ao21 t621.length co21 : Value).ownBlock) ∧ some k_ ≠ (.slice Ao22 t624.length co22 : Value).ownBlock)) (n := t631.length) (c := co30) ?_).2.2; exact (by (with_reducible repeat (first | apply Kd.R_alloc | apply Kd.R_drewN | apply Kd.R_drew)); exact (Kd.R_mono (Kd.R_far (p := ⟨gb634, 1, none⟩) (Kd.R_far (p := ⟨gb634, 0, none⟩) (Kd.R_types HO633.out BK634.out (by decide)) (fun _ hk => hk.2) (.slice Ao27 t628.length co27)) (fun _ hk => hk.2) (.slice Ao30 t631.length co30)) (fun _ h_ => h_.1)))); (case side4 => exact (Kd.R_reads' HO633.out).2.1); rintro e w31 ⟨rfl, hb⟩; refine ⟨_, rfl, ?_⟩; have n0_ := Aside0.mk (Kd.R_below (by (with_reducible repeat (first | apply Kd.R_alloc | apply Kd.R_drewN | apply Kd.R_drew)); exact (Kd.R_mono (Kd.R_far (p := ⟨gb634, 1, none⟩) (Kd.R_far (p := ⟨gb634, 0, none⟩) (Kd.R_types HO623.out BK634.out (by decide)) (fun _ hk => hk.2) (.slice Ao27 t628.length co27)) (fun _ hk => hk.2) (.slice Ao30 t631.length co30)) (fun _ h_ => h_.1))) hb); have n1_ := Aside0.mk (Kd.R_below (by (with_reducible repeat (first | apply Kd.R_alloc | apply Kd.R_drewN | apply Kd.R_drew)); exact (Kd.R_mono (Kd.R_far (p := ⟨gb634, 1, none⟩) (Kd.R_far (p := ⟨gb634, 0, none⟩) (Kd.R_types HO626.out BK634.out (by decide)) (fun _ hk => hk.2) (.slice Ao27 t628.length co27)) (fun _ hk => hk.2) (.slice Ao30 t631.length co30)) (fun _ h_ => h_.1))) hb); have n2_ := Aside0.mk (Kd.R_below (by (with_reducible repeat (first | apply Kd.R_alloc | apply Kd.R_drewN | apply Kd.R_drew)); exact (Kd.R_mono (Kd.R_far (p := ⟨gb634, 1, none⟩) (Kd.R_far (p := ⟨gb634, 0, none⟩) (Kd.R_types HO630.out BK634.out (by decide)) (fun _ hk => hk.2) (.slice Ao27 t628.length co27)) (fun _ hk => hk.2) (.slice Ao30 t631.length co30)) (fun _ h_ => h_.1))) hb); have n3_ := Aside0.mk (Kd.R_below (by (with_reducible repeat (first | apply Kd.R_alloc | apply Kd.R_drewN | apply Kd.R_drew)); exact (Kd.R_mono (Kd.R_far (p := ⟨gb634, 1, none⟩) (Kd.R_far (p := ⟨gb634, 0, none⟩) (Kd.R_types HO633.out BK634.out (by decide)) (fun _ hk => hk.2) (.slice Ao27 t628.length co27)) (fun _ hk => hk.2) (.slice Ao30 t631.length co30)) (fun _ h_ => h_.1))) hb); have n4_ := Aside0.mk (blk_below (g := gb619) (o := .cells #[.slice A0_0 l0_0.length c0_0, .slice A0_1 l0_1.length c0_1] 24 (0, 0)) (by (with_reducible repeat (first | refine blk_drewN ?_ _ | refine blk_drew ?_ | refine blk_alloc ?_ _)); refine blk_far ?_ NB619_634.out _; (with_reducible repeat (first | refine blk_drewN ?_ _ | refine blk_drew ?_ | refine blk_alloc ?_ _)); refine blk_far ?_ NB619_634.out _; (with_reducible repeat (first | refine blk_drewN ?_ _ | refine blk_drew ?_ | refine blk_alloc ?_ _)); exact BK619.out) hb); have n5_ := Aside0.mk (blk_below (g := gb634) (o := .cells #[.slice Ao27 t628.length co27, .slice Ao30 t631.length co30] 27 (0, 0)) (by (with_reducible repeat (first | refine blk_drewN ?_ _ | refine blk_drew ?_ | refine blk_alloc ?_ _)); refine blk_put (cs := #[.slice Ao27 t628.length co27, .slice none 0 0]) ?_ 1 _ rfl; (with_reducible repeat (first | refine blk_drewN ?_ _ | refine blk_drew ?_ | refine blk_alloc ?_ _)); refine blk_put (cs := #[.slice none 0 0, .slice none 0 0]) ?_ 0 _ rfl; (with_reducible repeat (first | refine blk_drewN ?_ _ | refine blk_drew ?_ | refine blk_alloc ?_ _)); exact BK634.out) hb); have n6_ := Aside0.mk (below_step (by repeat (first | (with_reducible first | exact HB.out | apply below_alloc | apply pw_below_drewN | apply below_drew1 | refine below_set ?_ GE619.out | refine below_set ?_ GE634.out) | exact HB.out)) hb); clear HO623 HO626 HO630 HO633 BK619 BK634 HB; have HO623 := n0_; have HO626 := n1_; have HO630 := n2_; have HO633 := n3_; have BK619 := n4_; have BK634 := n5_; have HB := n6_; clear n0_ n1_ n2_ n3_ n4_ n5_ n6_; (try clear hb); (try clear hb2); (try clear hk); (try clear hi)))
    have n0_ := Aside0.mk (Kd.R_drew HO623.out)
    have n1_ := Aside0.mk (Kd.R_drew HO626.out)
    have n2_ := Aside0.mk (Kd.R_drew HO630.out)
    have n3_ := Aside0.mk (Kd.R_drew HO633.out)
    have n4_ := Aside0.mk (blk_drew BK619.out)
    have n5_ := Aside0.mk (blk_drew BK634.out)
    have n6_ := Aside0.mk (below_drew1 HB.out)
    clear HO623 HO626 HO630 HO633 BK619 BK634 HB
    have HO623 := n0_
    have HO626 := n1_
    have HO630 := n2_
    have HO633 := n3_
    have BK619 := n4_
    have BK634 := n5_
    have HB := n6_
    clear n0_ n1_ n2_ n3_ n4_ n5_ n6_
    refine start_ (n := 5) (S := fun w' => w'.cell? ⟨gb634, 0, none⟩ = some (.slice Ao27 t628.length co27) ∧ w'.cell? ⟨gb634, 1, none⟩ = some (.slice Ao30 t631.length co30) ∧ w'.cell? ⟨gb619, 0, none⟩ = some (.slice A0_0 l0_0.length c0_0) ∧ w'.cell? ⟨gb619, 1, none⟩ = some (.slice A0_1 l0_1.length c0_1)) (ds := []) #[false, false, false, false, false] (by kernel_rfl) rfl rfl ⟨(blk_cell BK634.out 0).trans rfl, (blk_cell BK634.out 1).trans rfl, (blk_cell BK619.out 0).trans rfl, (blk_cell BK619.out 1).trans rfl⟩ (fun hHeld => ?_)
    generalize w31.drew = w32 at HO623 HO626 HO630 HO633 BK619 BK634 HB hHeld ⊢
    refine take_ (i := 0) (N := some 26) (v := ?_) (a' := ?_) #[true, false, false, false, false] rfl rfl (by kernel_rfl) (fun _ _ _ h => h) (Or.inl ⟨by rfl, ?_⟩) hHeld ?_ ?_
    rotate_left
    ·
     rintro w' ⟨s0, s1, s2, s3⟩
     go_simp
     with_reducible rfl
    rotate_left
    ·
     simp only [Act.put, List.setIfInBounds_toArray, List.set_cons_zero, List.set_cons_succ, i64_w, i32_w]
     rfl
    refine take_ (i := 1) (N := some 27) (v := ?_) (a' := ?_) #[true, true, false, false, false] rfl rfl (by kernel_rfl) (fun _ _ _ h => h) (Or.inl ⟨by rfl, ?_⟩) hHeld ?_ ?_
    rotate_left
    ·
     rintro w' ⟨s0, s1, s2, s3⟩
     go_simp
     with_reducible rfl
    rotate_left
    ·
     simp only [Act.put, List.setIfInBounds_toArray, List.set_cons_zero, List.set_cons_succ, i64_w, i32_w]
     rfl
    refine one_ (i := 2) (N := some 28) #[true, true, true, false, false] rfl rfl (by kernel_rfl) (by decide) (fun K hK => ?_)
    refine goes_ Try.func17 (by kernel_rfl) rfl #[.agg #[.slice A0_0 l0_0.length c0_0, .slice A0_1 l0_1.length c0_1]] (by rfl) rfl rfl (by (try simp only [List.map_toArray, List.map_cons, List.map_nil]); first | done | rfl | (simp only [List.length_drop, List.length_take]; rfl)) ?_
    with_reducible refine (laws_toMap.calls k _ _ l0_0 _ _ l0_1 t636 t639 _ ?side1 ?side2 ?side3 ?side4 A13.out).mono ?_
    (case side1 => repeat (first | exact (Kd.C_below HR0_0.out HB.out) | (with_reducible refine Kd.C_alloc ?_ _) | (with_reducible refine Kd.C_drewN ?_ _) | (with_reducible refine Kd.C_drew ?_)))
    (case side2 => exact HC0_0.out)
    (case side3 => repeat (first | exact (Kd.C_below HR0_1.out HB.out) | (with_reducible refine Kd.C_alloc ?_ _) | (with_reducible refine Kd.C_drewN ?_ _) | (with_reducible refine Kd.C_drew ?_)))
    (case side4 => exact HC0_1.out)
    rintro e w33 ⟨v637, v640, rfl, ho0, ho1, hb⟩
    refine ⟨_, rfl, ?_⟩
    have n0_ := Aside0.mk (Kd.R_mono (Kd.R_told (Kd.R_told (Kd.R_old (by (with_reducible repeat (first | apply Kd.R_alloc | apply Kd.R_drewN | apply Kd.R_drew)); exact HO623.out) hb) (Kd.R_base ho0)) (Kd.R_base ho1)) (fun _ h_ => h_.1))
    have n1_ := Aside0.mk (Kd.R_mono (Kd.R_told (Kd.R_told (Kd.R_old (by (with_reducible repeat (first | apply Kd.R_alloc | apply Kd.R_drewN | apply Kd.R_drew)); exact HO626.out) hb) (Kd.R_base ho0)) (Kd.R_base ho1)) (fun _ h_ => h_.1))
    have n2_ := Aside0.mk (Kd.R_mono (Kd.R_told (Kd.R_told (Kd.R_old (by (with_reducible repeat (first | apply Kd.R_alloc | apply Kd.R_drewN | apply Kd.R_drew)); exact HO630.out) hb) (Kd.R_base ho0)) (Kd.R_base ho1)) (fun _ h_ => h_.1))
    have n3_ := Aside0.mk (Kd.R_mono (Kd.R_told (Kd.R_told (Kd.R_old (by (with_reducible repeat (first | apply Kd.R_alloc | apply Kd.R_drewN | apply Kd.R_drew)); exact HO633.out) hb) (Kd.R_base ho0)) (Kd.R_base ho1)) (fun _ h_ => h_.1))
    have n4_ := Aside0.mk (Kd.R_lower (Kd.R_new' (Kd.R_new' (Kd.R_new' (Kd.R_new' ho0 (Kd.R_lt (by (with_reducible repeat (first | apply Kd.R_alloc | apply Kd.R_drewN | apply Kd.R_drew)); exact HO623.out))) (Kd.R_lt (by (with_reducible repeat (first | apply Kd.R_alloc | apply Kd.R_drewN | apply Kd.R_drew)); exact HO626.out))) (Kd.R_lt (by (with_reducible repeat (first | apply Kd.R_alloc | apply Kd.R_drewN | apply Kd.R_drew)); exact HO630.out))) (Kd.R_lt (by (with_reducible repeat (first | apply Kd.R_alloc | apply Kd.R_drewN | apply Kd.R_drew)); exact HO633.out))) (below_size (by repeat (first | (with_reducible first | exact HB.out | apply below_alloc | apply pw_below_drewN | apply below_drew1 | refine below_set ?_ GE619.out | refine below_set ?_ GE634.out) | exact HB.out))))
    have n5_ := Aside0.mk (Kd.R_lower (Kd.R_new' (Kd.R_new' (Kd.R_new' (Kd.R_new' ho1 (Kd.R_lt (by (with_reducible repeat (first | apply Kd.R_alloc | apply Kd.R_drewN | apply Kd.R_drew)); exact HO623.out))) (Kd.R_lt (by (with_reducible repeat (first | apply Kd.R_alloc | apply Kd.R_drewN | apply Kd.R_drew)); exact HO626.out))) (Kd.R_lt (by (with_reducible repeat (first | apply Kd.R_alloc | apply Kd.R_drewN | apply Kd.R_drew)); exact HO630.out))) (Kd.R_lt (by (with_reducible repeat (first | apply Kd.R_alloc | apply Kd.R_drewN | apply Kd.R_drew)); exact HO633.out))) (below_size (by repeat (first | (with_reducible first | exact HB.out | apply below_alloc | apply pw_below_drewN | apply below_drew1 | refine below_set ?_ GE619.out | refine below_set ?_ GE634.out) | exact HB.out))))
    have n6_ := Aside0.mk (blk_below (g := gb619) (o := .cells #[.slice A0_0 l0_0.length c0_0, .slice A0_1 l0_1.length c0_1] 24 (0, 0)) (by (with_reducible repeat (first | refine blk_drewN ?_ _ | refine blk_drew ?_ | refine blk_alloc ?_ _)); exact BK619.out) hb)
    have n7_ := Aside0.mk (blk_below (g := gb634) (o := .cells #[.slice Ao27 t628.length co27, .slice Ao30 t631.length co30] 27 (0, 0)) (by (with_reducible repeat (first | refine blk_drewN ?_ _ | refine blk_drew ?_ | refine blk_alloc ?_ _)); exact BK634.out) hb)
    have n8_ := Aside0.mk (below_step (by repeat (first | (with_reducible first | exact HB.out | apply below_alloc | apply pw_below_drewN | apply below_drew1 | refine below_set ?_ GE619.out | refine below_set ?_ GE634.out) | exact HB.out)) hb)
    clear HO623 HO626 HO630 HO633 BK619 BK634 HB
    have HO623 := n0_
    have HO626 := n1_
    have HO630 := n2_
    have HO633 := n3_
    have HO638 := n4_
    have HO641 := n5_
    have BK619 := n6_
    have BK634 := n7_
    have HB := n8_
    clear n0_ n1_ n2_ n3_ n4_ n5_ n6_ n7_ n8_
    (try clear hb)
    (try clear hb2)
    (try clear hk)
    (try clear hi)
    (try clear ho0)
    (try clear ho1)
    obtain ⟨Ao34, co34, eo34⟩ := Kd.R_slice HO638.out
    (first | subst eo34 | (injection eo34 with f1_ f2_ f3_; have f4_ := f1_.symm; have f5_ := f3_.symm; clear f1_ f2_ f3_; subst f4_; subst f5_))
    obtain ⟨Ao35, co35, eo35⟩ := Kd.R_slice HO641.out
    (first | subst eo35 | (injection eo35 with f1_ f2_ f3_; have f4_ := f1_.symm; have f5_ := f3_.symm; clear f1_ f2_ f3_; subst f4_; subst f5_))
    refine hK.out _ _ ⟨(blk_cell BK634.out 0).trans rfl, (blk_cell BK634.out 1).trans rfl, (blk_cell BK619.out 0).trans rfl, (blk_cell BK619.out 1).trans rfl⟩ (fun hHeld => ?_)
    clear hK K
    refine norm_ (a' := ?_) ?_ ?_
    rotate_left
    ·
     show Act.put _ (some 28) _ = _
     simp only [Act.put, List.setIfInBounds_toArray, List.set_cons_zero, List.set_cons_succ, i64_w, i32_w]
     rfl
    refine one_ (i := 3) (N := some 29) #[true, true, true, true, false] rfl rfl (by kernel_rfl) (by decide) (fun K hK => ?_)
    refine goes_ Try.func20 (by kernel_rfl) rfl #[.agg #[.slice Ao27 t628.length co27, .slice Ao30 t631.length co30], .agg #[.slice Ao34 t636.length co34, .slice Ao35 t639.length co35]] (by rfl) rfl rfl (by (try simp only [List.map_toArray, List.map_cons, List.map_nil]); first | done | rfl | (simp only [List.length_drop, List.length_take]; rfl)) ?_
    with_reducible refine (laws_eqMap.calls k _ _ t628 _ _ t631 _ _ t636 _ _ t639 true _ ?side1 ?side2 ?side3 ?side4 ?side5 ?side6 ?side7 ?side8 A14.out).mono ?_
    (case side1 => repeat (first | exact (Kd.R_reads' HO630.out).2.2 | (with_reducible refine Kd.C_alloc ?_ _) | (with_reducible refine Kd.C_drewN ?_ _) | (with_reducible refine Kd.C_drew ?_)))
    (case side2 => exact (Kd.R_reads' HO630.out).2.1)
    (case side3 => repeat (first | exact (Kd.R_reads' HO633.out).2.2 | (with_reducible refine Kd.C_alloc ?_ _) | (with_reducible refine Kd.C_drewN ?_ _) | (with_reducible refine Kd.C_drew ?_)))
    (case side4 => exact (Kd.R_reads' HO633.out).2.1)
    (case side5 => repeat (first | exact (Kd.R_reads' HO638.out).2.2 | (with_reducible refine Kd.C_alloc ?_ _) | (with_reducible refine Kd.C_drewN ?_ _) | (with_reducible refine Kd.C_drew ?_)))
    (case side6 => exact (Kd.R_reads' HO638.out).2.1)
    (case side7 => repeat (first | exact (Kd.R_reads' HO641.out).2.2 | (with_reducible refine Kd.C_alloc ?_ _) | (with_reducible refine Kd.C_drewN ?_ _) | (with_reducible refine Kd.C_drew ?_)))
    (case side8 => exact (Kd.R_reads' HO641.out).2.1)
    rintro e w36 ⟨rfl, hb⟩
    refine ⟨_, rfl, ?_⟩
    have n0_ := Aside0.mk (Kd.R_below (by (with_reducible repeat (first | apply Kd.R_alloc | apply Kd.R_drewN | apply Kd.R_drew)); exact HO623.out) hb)
    have n1_ := Aside0.mk (Kd.R_below (by (with_reducible repeat (first | apply Kd.R_alloc | apply Kd.R_drewN | apply Kd.R_drew)); exact HO626.out) hb)
    have n2_ := Aside0.mk (Kd.R_below (by (with_reducible repeat (first | apply Kd.R_alloc | apply Kd.R_drewN | apply Kd.R_drew)); exact HO630.out) hb)
    have n3_ := Aside0.mk (Kd.R_below (by (with_reducible repeat (first | apply Kd.R_alloc | apply Kd.R_drewN | apply Kd.R_drew)); exact HO633.out) hb)
    have n4_ := Aside0.mk (Kd.R_below (by (with_reducible repeat (first | apply Kd.R_alloc | apply Kd.R_drewN | apply Kd.R_drew)); exact HO638.out) hb)
    have n5_ := Aside0.mk (Kd.R_below (by (with_reducible repeat (first | apply Kd.R_alloc | apply Kd.R_drewN | apply Kd.R_drew)); exact HO641.out) hb)
    have n6_ := Aside0.mk (blk_below (g := gb619) (o := .cells #[.slice A0_0 l0_0.length c0_0, .slice A0_1 l0_1.length c0_1] 24 (0, 0)) (by (with_reducible repeat (first | refine blk_drewN ?_ _ | refine blk_drew ?_ | refine blk_alloc ?_ _)); exact BK619.out) hb)
    have n7_ := Aside0.mk (blk_below (g := gb634) (o := .cells #[.slice Ao27 t628.length co27, .slice Ao30 t631.length co30] 27 (0, 0)) (by (with_reducible repeat (first | refine blk_drewN ?_ _ | refine blk_drew ?_ | refine blk_alloc ?_ _)); exact BK634.out) hb)
    have n8_ := Aside0.mk (below_step (by repeat (first | (with_reducible first | exact HB.out | apply below_alloc | apply pw_below_drewN | apply below_drew1 | refine below_set ?_ GE619.out | refine below_set ?_ GE634.out) | exact HB.out)) hb)
    clear HO623 HO626 HO630 HO633 HO638 HO641 BK619 BK634 HB
    have HO623 := n0_
    have HO626 := n1_
    have HO630 := n2_
    have HO633 := n3_
    have HO638 := n4_
    have HO641 := n5_
    have BK619 := n6_
    have BK634 := n7_
    have HB := n8_
    clear n0_ n1_ n2_ n3_ n4_ n5_ n6_ n7_ n8_
    (try clear hb)
    (try clear hb2)
    (try clear hk)
    (try clear hi)
    refine hK.out _ _ ⟨(blk_cell BK634.out 0).trans rfl, (blk_cell BK634.out 1).trans rfl, (blk_cell BK619.out 0).trans rfl, (blk_cell BK619.out 1).trans rfl⟩ (fun hHeld => ?_)
    clear hK K
    refine norm_ (a' := ?_) ?_ ?_
    rotate_left
    ·
     show Act.put _ (some 29) _ = _
     simp only [Act.put, List.setIfInBounds_toArray, List.set_cons_zero, List.set_cons_succ, i64_w, i32_w]
     rfl
    refine pure_ (i := 4) (N := some 30) (v := ?_) (a' := ?_) #[true, true, true, true, true] rfl rfl (by kernel_rfl) (fun _ _ _ h => h) (Or.inl ⟨by rfl, ?_⟩) ?_ ?_
    rotate_left
    ·
     intro w'
     go_simp
     with_reducible rfl
    rotate_left
    ·
     simp only [Act.put, List.setIfInBounds_toArray, List.set_cons_zero, List.set_cons_succ, i64_w, i32_w]
     rfl
    refine done_ (by kernel_rfl) ?_
    try go_wp2
    go_ret
    exact ⟨by first | rfl | (simp [errW_none, errW_some] <;> rfl) | (simp [*, errW_none, errW_some] <;> rfl), by repeat (first | (with_reducible first | exact HB.out | apply below_alloc | apply pw_below_drewN | apply below_drew1 | refine below_set ?_ GE619.out | refine below_set ?_ GE634.out) | exact HB.out)⟩
   ·
    replace c15 := Bool.eq_false_iff.mpr c15
    subst c15
    have H1 : (some false) = some r := by rw [if_neg (show ¬ (false = true) by decide)] at H; exact H
    clear H
    have H := H1
    clear H1
    obtain rfl := Option.some.inj H
    go_enter Try.func11, Try.ntmps11
    try go_wp2_with (first | ((with_reducible refine gate_dst (N := 2) rfl ?_); refine box_event ?hg (N := 2) ?hd (cs := #[.slice A0_0 l0_0.length c0_0, .slice A0_1 l0_1.length c0_1]) (t := 24) ?hr ?_; (case hd => rfl); (case hg => rfl); (case hr => first | (go_simp; done) | (go_simp; rfl)); intro gb619 hg w37 hbox hb; have n0_ := Aside0.mk (below_step (by repeat (first | (with_reducible first | exact HB.out | apply below_alloc | apply pw_below_drewN | apply below_drew1) | exact HB.out)) hb); have n1_ := Aside0.mk (hbox); have n2_ := Aside0.mk ((by rw [hg]; exact (below_size (by repeat (first | (with_reducible first | exact HB.out | apply below_alloc | apply pw_below_drewN | apply below_drew1) | exact HB.out))) : w.heap.size ≤ gb619)); have n3_ := Aside0.mk ((by rw [hg]; exact (below_size (by repeat (first | (with_reducible first | exact HB.out | apply below_alloc | apply pw_below_drewN | apply below_drew1) | exact HB.out))) : w.heap.size ≤ gb619)); clear HB; have HB := n0_; have BK619 := n1_; have GW619 := n2_; have GE619 := n3_; clear n0_ n1_ n2_ n3_ hb hbox hg; have hcz38_0 : w37.cell? ⟨gb619, 0, none⟩ = some (.slice A0_0 l0_0.length c0_0) := (blk_cell BK619.out 0).trans rfl; have hcz38_1 : w37.cell? ⟨gb619, 1, none⟩ = some (.slice A0_1 l0_1.length c0_1) := (blk_cell BK619.out 1).trans rfl; have hfz38_0 := blk_frozen BK619.out 0; have hfz38_1 := blk_frozen BK619.out 1) | ((with_reducible refine gate_callee (f := 15) rfl ?_); refine goesL_ (some 11) rfl rfl Try.func15 (by kernel_rfl) rfl #[.agg #[.slice A0_0 l0_0.length c0_0, .slice A0_1 l0_1.length c0_1], .int .i64 1048576] rfl (by (try simp only [List.map_toArray, List.map_cons, List.map_nil]); first | done | rfl | (simp only [List.length_drop, List.length_take]; rfl)) ?_; (with_reducible refine (laws_szMap.calls _ _ l0_0 _ _ l0_1 1048576 t620 _ ?side1 ?side2 ?side3 ?side4 A3.out).mono ?_); (case side1 => repeat (first | exact (Kd.C_below HR0_0.out HB.out) | (with_reducible refine Kd.C_alloc ?_ _) | (with_reducible refine Kd.C_drewN ?_ _) | (with_reducible refine Kd.C_drew ?_))); (case side2 => exact HC0_0.out); (case side3 => repeat (first | exact (Kd.C_below HR0_1.out HB.out) | (with_reducible refine Kd.C_alloc ?_ _) | (with_reducible refine Kd.C_drewN ?_ _) | (with_reducible refine Kd.C_drew ?_))); (case side4 => exact HC0_1.out); rintro e w39 ⟨rfl, hb⟩; refine ⟨_, rfl, ?_⟩; have n0_ := Aside0.mk (blk_below (g := gb619) (o := .cells #[.slice A0_0 l0_0.length c0_0, .slice A0_1 l0_1.length c0_1] 24 (0, 0)) (by (with_reducible repeat (first | refine blk_drewN ?_ _ | refine blk_drew ?_ | refine blk_alloc ?_ _)); exact BK619.out) hb); have n1_ := Aside0.mk (below_step (by repeat (first | (with_reducible first | exact HB.out | apply below_alloc | apply pw_below_drewN | apply below_drew1 | refine below_set ?_ GE619.out) | exact HB.out)) hb); clear BK619 HB; have BK619 := n0_; have HB := n1_; clear n0_ n1_; (try clear hb); (try clear hb2); (try clear hk); (try clear hi); have hcz40_0 : w39.cell? ⟨gb619, 0, none⟩ = some (.slice A0_0 l0_0.length c0_0) := (blk_cell BK619.out 0).trans rfl; have hcz40_1 : w39.cell? ⟨gb619, 1, none⟩ = some (.slice A0_1 l0_1.length c0_1) := (blk_cell BK619.out 1).trans rfl; have hfz40_0 := blk_frozen BK619.out 0; have hfz40_1 := blk_frozen BK619.out 1) | ((with_reducible refine gate_callee (f := 17) rfl ?_); refine goesL_ (some 15) rfl rfl Try.func17 (by kernel_rfl) rfl #[.agg #[.slice A0_0 l0_0.length c0_0, .slice A0_1 l0_1.length c0_1]] rfl (by (try simp only [List.map_toArray, List.map_cons, List.map_nil]); first | done | rfl | (simp only [List.length_drop, List.length_take]; rfl)) ?_; (with_reducible refine (laws_toMap.calls k _ _ l0_0 _ _ l0_1 t621 t624 _ ?side1 ?side2 ?side3 ?side4 A8.out).mono ?_); (case side1 => repeat (first | exact (Kd.C_below HR0_0.out HB.out) | (with_reducible refine Kd.C_alloc ?_ _) | (with_reducible refine Kd.C_drewN ?_ _) | (with_reducible refine Kd.C_drew ?_))); (case side2 => exact HC0_0.out); (case side3 => repeat (first | exact (Kd.C_below HR0_1.out HB.out) | (with_reducible refine Kd.C_alloc ?_ _) | (with_reducible refine Kd.C_drewN ?_ _) | (with_reducible refine Kd.C_drew ?_))); (case side4 => exact HC0_1.out); rintro e w41 ⟨v622, v625, rfl, ho0, ho1, hb⟩; refine ⟨_, rfl, ?_⟩; have n0_ := Aside0.mk (Kd.R_lower ho0 (below_size (by repeat (first | (with_reducible first | exact HB.out | apply below_alloc | apply pw_below_drewN | apply below_drew1 | refine below_set ?_ GE619.out) | exact HB.out)))); have n1_ := Aside0.mk (Kd.R_lower ho1 (below_size (by repeat (first | (with_reducible first | exact HB.out | apply below_alloc | apply pw_below_drewN | apply below_drew1 | refine below_set ?_ GE619.out) | exact HB.out)))); have n2_ := Aside0.mk (blk_below (g := gb619) (o := .cells #[.slice A0_0 l0_0.length c0_0, .slice A0_1 l0_1.length c0_1] 24 (0, 0)) (by (with_reducible repeat (first | refine blk_drewN ?_ _ | refine blk_drew ?_ | refine blk_alloc ?_ _)); exact BK619.out) hb); have n3_ := Aside0.mk (below_step (by repeat (first | (with_reducible first | exact HB.out | apply below_alloc | apply pw_below_drewN | apply below_drew1 | refine below_set ?_ GE619.out) | exact HB.out)) hb); clear BK619 HB; have HO623 := n0_; have HO626 := n1_; have BK619 := n2_; have HB := n3_; clear n0_ n1_ n2_ n3_; (try clear hb); (try clear hb2); (try clear hk); (try clear hi); (try clear ho0); (try clear ho1); obtain ⟨Ao42, co42, eo42⟩ := Kd.R_slice HO623.out; subst eo42; obtain ⟨Ao43, co43, eo43⟩ := Kd.R_slice HO626.out; subst eo43) | ((with_reducible refine gate_callee (f := 40) rfl ?_); refine goesL_ (some 17) rfl rfl Try.func40 (by kernel_rfl) rfl #[.agg #[.slice Ao42 t621.length co42, .slice Ao43 t624.length co43], .int .i64 a1] rfl (by (try simp only [List.map_toArray, List.map_cons, List.map_nil]); first | done | rfl | (simp only [List.length_drop, List.length_take]; rfl)) ?_; (with_reducible refine (spec_EdgeKind.calls k _ _ t621 _ _ t624 a1 t627 _ ?side1 ?side2 ?side3 ?side4 A9.out).mono ?_); (case side1 => repeat (first | exact (Kd.R_reads' HO623.out).2.2 | (with_reducible refine Kd.C_alloc ?_ _) | (with_reducible refine Kd.C_drewN ?_ _) | (with_reducible refine Kd.C_drew ?_))); (case side2 => exact (Kd.R_reads' HO623.out).2.1); (case side3 => repeat (first | exact (Kd.R_reads' HO626.out).2.2 | (with_reducible refine Kd.C_alloc ?_ _) | (with_reducible refine Kd.C_drewN ?_ _) | (with_reducible refine Kd.C_drew ?_))); (case side4 => exact (Kd.R_reads' HO626.out).2.1); rintro e w44 ⟨rfl, hb⟩; refine ⟨_, rfl, ?_⟩; have n0_ := Aside0.mk (Kd.R_below (by (with_reducible repeat (first | apply Kd.R_alloc | apply Kd.R_drewN | apply Kd.R_drew)); exact HO623.out) hb); have n1_ := Aside0.mk (Kd.R_below (by (with_reducible repeat (first | apply Kd.R_alloc | apply Kd.R_drewN | apply Kd.R_drew)); exact HO626.out) hb); have n2_ := Aside0.mk (blk_below (g := gb619) (o := .cells #[.slice A0_0 l0_0.length c0_0, .slice A0_1 l0_1.length c0_1] 24 (0, 0)) (by (with_reducible repeat (first | refine blk_drewN ?_ _ | refine blk_drew ?_ | refine blk_alloc ?_ _)); exact BK619.out) hb); have n3_ := Aside0.mk (below_step (by repeat (first | (with_reducible first | exact HB.out | apply below_alloc | apply pw_below_drewN | apply below_drew1 | refine below_set ?_ GE619.out) | exact HB.out)) hb); clear HO623 HO626 BK619 HB; have HO623 := n0_; have HO626 := n1_; have BK619 := n2_; have HB := n3_; clear n0_ n1_ n2_ n3_; (try clear hb); (try clear hb2); (try clear hk); (try clear hi); have hcz45_0 : w44.cell? ⟨gb619, 0, none⟩ = some (.slice A0_0 l0_0.length c0_0) := (blk_cell BK619.out 0).trans rfl; have hcz45_1 : w44.cell? ⟨gb619, 1, none⟩ = some (.slice A0_1 l0_1.length c0_1) := (blk_cell BK619.out 1).trans rfl; have hfz45_0 := blk_frozen BK619.out 0; have hfz45_1 := blk_frozen BK619.out 1) | ((with_reducible refine gate_callee (f := 17) rfl ?_); refine goesL_ (some 19) rfl rfl Try.func17 (by kernel_rfl) rfl #[.agg #[.slice A0_0 l0_0.length c0_0, .slice A0_1 l0_1.length c0_1]] rfl (by (try simp only [List.map_toArray, List.map_cons, List.map_nil]); first | done | rfl | (simp only [List.length_drop, List.length_take]; rfl)) ?_; (with_reducible refine (laws_toMap.calls k _ _ l0_0 _ _ l0_1 t628 t631 _ ?side1 ?side2 ?side3 ?side4 A10.out).mono ?_); (case side1 => repeat (first | exact (Kd.C_below HR0_0.out HB.out) | (with_reducible refine Kd.C_alloc ?_ _) | (with_reducible refine Kd.C_drewN ?_ _) | (with_reducible refine Kd.C_drew ?_))); (case side2 => exact HC0_0.out); (case side3 => repeat (first | exact (Kd.C_below HR0_1.out HB.out) | (with_reducible refine Kd.C_alloc ?_ _) | (with_reducible refine Kd.C_drewN ?_ _) | (with_reducible refine Kd.C_drew ?_))); (case side4 => exact HC0_1.out); rintro e w46 ⟨v629, v632, rfl, ho0, ho1, hb⟩; refine ⟨_, rfl, ?_⟩; have n0_ := Aside0.mk (Kd.R_mono (Kd.R_told (Kd.R_told (Kd.R_old (by (with_reducible repeat (first | apply Kd.R_alloc | apply Kd.R_drewN | apply Kd.R_drew)); exact HO623.out) hb) (Kd.R_base ho0)) (Kd.R_base ho1)) (fun _ h_ => h_.1)); have n1_ := Aside0.mk (Kd.R_mono (Kd.R_told (Kd.R_told (Kd.R_old (by (with_reducible repeat (first | apply Kd.R_alloc | apply Kd.R_drewN | apply Kd.R_drew)); exact HO626.out) hb) (Kd.R_base ho0)) (Kd.R_base ho1)) (fun _ h_ => h_.1)); have n2_ := Aside0.mk (Kd.R_lower (Kd.R_new' (Kd.R_new' ho0 (Kd.R_lt (by (with_reducible repeat (first | apply Kd.R_alloc | apply Kd.R_drewN | apply Kd.R_drew)); exact HO623.out))) (Kd.R_lt (by (with_reducible repeat (first | apply Kd.R_alloc | apply Kd.R_drewN | apply Kd.R_drew)); exact HO626.out))) (below_size (by repeat (first | (with_reducible first | exact HB.out | apply below_alloc | apply pw_below_drewN | apply below_drew1 | refine below_set ?_ GE619.out) | exact HB.out)))); have n3_ := Aside0.mk (Kd.R_lower (Kd.R_new' (Kd.R_new' ho1 (Kd.R_lt (by (with_reducible repeat (first | apply Kd.R_alloc | apply Kd.R_drewN | apply Kd.R_drew)); exact HO623.out))) (Kd.R_lt (by (with_reducible repeat (first | apply Kd.R_alloc | apply Kd.R_drewN | apply Kd.R_drew)); exact HO626.out))) (below_size (by repeat (first | (with_reducible first | exact HB.out | apply below_alloc | apply pw_below_drewN | apply below_drew1 | refine below_set ?_ GE619.out) | exact HB.out)))); have n4_ := Aside0.mk (blk_below (g := gb619) (o := .cells #[.slice A0_0 l0_0.length c0_0, .slice A0_1 l0_1.length c0_1] 24 (0, 0)) (by (with_reducible repeat (first | refine blk_drewN ?_ _ | refine blk_drew ?_ | refine blk_alloc ?_ _)); exact BK619.out) hb); have n5_ := Aside0.mk (below_step (by repeat (first | (with_reducible first | exact HB.out | apply below_alloc | apply pw_below_drewN | apply below_drew1 | refine below_set ?_ GE619.out) | exact HB.out)) hb); clear HO623 HO626 BK619 HB; have HO623 := n0_; have HO626 := n1_; have HO630 := n2_; have HO633 := n3_; have BK619 := n4_; have HB := n5_; clear n0_ n1_ n2_ n3_ n4_ n5_; (try clear hb); (try clear hb2); (try clear hk); (try clear hi); (try clear ho0); (try clear ho1)) | ((with_reducible refine gate_dst (N := 7) rfl ?_); refine box_event ?hg (N := 7) ?hd (cs := #[.slice none 0 0, .slice none 0 0]) (t := 27) ?hr ?_; (case hd => rfl); (case hg => rfl); (case hr => first | (go_simp; done) | (go_simp; rfl)); intro gb634 hg w47 hbox hb; have n0_ := Aside0.mk (Kd.R_below (by (with_reducible repeat (first | apply Kd.R_alloc | apply Kd.R_drewN | apply Kd.R_drew)); exact HO623.out) hb); have n1_ := Aside0.mk (Kd.R_below (by (with_reducible repeat (first | apply Kd.R_alloc | apply Kd.R_drewN | apply Kd.R_drew)); exact HO626.out) hb); have n2_ := Aside0.mk (Kd.R_below (by (with_reducible repeat (first | apply Kd.R_alloc | apply Kd.R_drewN | apply Kd.R_drew)); exact HO630.out) hb); have n3_ := Aside0.mk (Kd.R_below (by (with_reducible repeat (first | apply Kd.R_alloc | apply Kd.R_drewN | apply Kd.R_drew)); exact HO633.out) hb); have n4_ := Aside0.mk (blk_below (g := gb619) (o := .cells #[.slice A0_0 l0_0.length c0_0, .slice A0_1 l0_1.length c0_1] 24 (0, 0)) (by (with_reducible repeat (first | refine blk_drewN ?_ _ | refine blk_drew ?_ | refine blk_alloc ?_ _)); exact BK619.out) hb); have n5_ := Aside0.mk (below_step (by repeat (first | (with_reducible first | exact HB.out | apply below_alloc | apply pw_below_drewN | apply below_drew1 | refine below_set ?_ GE619.out) | exact HB.out)) hb); have n6_ := Aside0.mk (hbox); have n7_ := Aside0.mk ((by rw [hg]; exact (below_size (by repeat (first | (with_reducible first | exact HB.out | apply below_alloc | apply pw_below_drewN | apply below_drew1 | refine below_set ?_ GE619.out) | exact HB.out))) : w.heap.size ≤ gb634)); have n8_ := Aside0.mk ((by rw [hg]; exact (below_size (by repeat (first | (with_reducible first | exact HB.out | apply below_alloc | apply pw_below_drewN | apply below_drew1 | refine below_set ?_ GE619.out) | exact HB.out))) : w.heap.size ≤ gb634)); have n9_ := Aside0.mk ((by rw [hg]; exact Nat.ne_of_lt (blk_lt (g := gb619) (o := .cells #[.slice A0_0 l0_0.length c0_0, .slice A0_1 l0_1.length c0_1] 24 (0, 0)) (by (with_reducible repeat (first | refine blk_drewN ?_ _ | refine blk_drew ?_ | refine blk_alloc ?_ _)); exact BK619.out)) : gb619 ≠ gb634)); have n10_ := Aside0.mk ((by rw [hg]; exact Nat.ne_of_gt (blk_lt (g := gb619) (o := .cells #[.slice A0_0 l0_0.length c0_0, .slice A0_1 l0_1.length c0_1] 24 (0, 0)) (by (with_reducible repeat (first | refine blk_drewN ?_ _ | refine blk_drew ?_ | refine blk_alloc ?_ _)); exact BK619.out)) : gb634 ≠ gb619)); clear HO623 HO626 HO630 HO633 BK619 HB; have HO623 := n0_; have HO626 := n1_; have HO630 := n2_; have HO633 := n3_; have BK619 := n4_; have HB := n5_; have BK634 := n6_; have GW634 := n7_; have GE634 := n8_; have NB619_634 := n9_; have NB634_619 := n10_; clear n0_ n1_ n2_ n3_ n4_ n5_ n6_ n7_ n8_ n9_ n10_ hb hbox hg; obtain ⟨Ao48, co48, eo48⟩ := Kd.R_slice HO630.out; subst eo48; have hnb49 := NB634_619.out; have hnc49 := NB619_634.out; have hcz50_0 : w47.cell? ⟨gb634, 0, none⟩ = some (.slice none 0 0) := (blk_cell BK634.out 0).trans rfl; have hcz50_1 : w47.cell? ⟨gb634, 1, none⟩ = some (.slice none 0 0) := (blk_cell BK634.out 1).trans rfl; have hfz50_0 := blk_frozen BK634.out 0; have hfz50_1 := blk_frozen BK634.out 1; obtain ⟨Ao51, co51, eo51⟩ := Kd.R_slice HO633.out; subst eo51) | ((with_reducible refine gate_callee (f := 41) rfl ?_); refine goesL_ (some 22) rfl rfl Try.func41 (by kernel_rfl) rfl #[.agg #[.slice Ao48 t628.length co48, .slice Ao51 t631.length co51], .int .i64 a1] rfl (by (try simp only [List.map_toArray, List.map_cons, List.map_nil]); first | done | rfl | (simp only [List.length_drop, List.length_take]; rfl)) ?_; (with_reducible refine (impl_EdgeKind.calls k _ _ t628 _ _ t631 a1 t635 _ ?side1 ?side2 ?side3 ?side4 A11.out).mono ?_); (case side1 => refine (Kd.R_reads' (e := 3) (base := w.heap.size) (ok := fun k_ => ((some k_ ≠ (.slice Ao51 t631.length co51 : Value).ownBlock ∧ some k_ ≠ (.slice Ao42 t621.length co42 : Value).ownBlock) ∧ some k_ ≠ (.slice Ao43 t624.length co43 : Value).ownBlock)) (n := t628.length) (c := co48) ?_).2.2; exact (by (with_reducible repeat (first | apply Kd.R_alloc | apply Kd.R_drewN | apply Kd.R_drew)); exact (Kd.R_mono (Kd.R_far (p := ⟨gb634, 1, none⟩) (Kd.R_far (p := ⟨gb634, 0, none⟩) (Kd.R_types HO630.out BK634.out (by decide)) (fun _ hk => hk.2) (.slice Ao48 t628.length co48)) (fun _ hk => hk.2) (.slice Ao51 t631.length co51)) (fun _ h_ => h_.1)))); (case side2 => exact (Kd.R_reads' HO630.out).2.1); (case side3 => refine (Kd.R_reads' (e := 3) (base := w.heap.size) (ok := fun k_ => ((some k_ ≠ (.slice Ao48 t628.length co48 : Value).ownBlock ∧ some k_ ≠ (.slice Ao42 t621.length co42 : Value).ownBlock) ∧ some k_ ≠ (.slice Ao43 t624.length co43 : Value).ownBlock)) (n := t631.length) (c := co51) ?_).2.2; exact (by (with_reducible repeat (first | apply Kd.R_alloc | apply Kd.R_drewN | apply Kd.R_drew)); exact (Kd.R_mono (Kd.R_far (p := ⟨gb634, 1, none⟩) (Kd.R_far (p := ⟨gb634, 0, none⟩) (Kd.R_types HO633.out BK634.out (by decide)) (fun _ hk => hk.2) (.slice Ao48 t628.length co48)) (fun _ hk => hk.2) (.slice Ao51 t631.length co51)) (fun _ h_ => h_.1)))); (case side4 => exact (Kd.R_reads' HO633.out).2.1); rintro e w52 ⟨rfl, hb⟩; refine ⟨_, rfl, ?_⟩; have n0_ := Aside0.mk (Kd.R_below (by (with_reducible repeat (first | apply Kd.R_alloc | apply Kd.R_drewN | apply Kd.R_drew)); exact (Kd.R_mono (Kd.R_far (p := ⟨gb634, 1, none⟩) (Kd.R_far (p := ⟨gb634, 0, none⟩) (Kd.R_types HO623.out BK634.out (by decide)) (fun _ hk => hk.2) (.slice Ao48 t628.length co48)) (fun _ hk => hk.2) (.slice Ao51 t631.length co51)) (fun _ h_ => h_.1))) hb); have n1_ := Aside0.mk (Kd.R_below (by (with_reducible repeat (first | apply Kd.R_alloc | apply Kd.R_drewN | apply Kd.R_drew)); exact (Kd.R_mono (Kd.R_far (p := ⟨gb634, 1, none⟩) (Kd.R_far (p := ⟨gb634, 0, none⟩) (Kd.R_types HO626.out BK634.out (by decide)) (fun _ hk => hk.2) (.slice Ao48 t628.length co48)) (fun _ hk => hk.2) (.slice Ao51 t631.length co51)) (fun _ h_ => h_.1))) hb); have n2_ := Aside0.mk (Kd.R_below (by (with_reducible repeat (first | apply Kd.R_alloc | apply Kd.R_drewN | apply Kd.R_drew)); exact (Kd.R_mono (Kd.R_far (p := ⟨gb634, 1, none⟩) (Kd.R_far (p := ⟨gb634, 0, none⟩) (Kd.R_types HO630.out BK634.out (by decide)) (fun _ hk => hk.2) (.slice Ao48 t628.length co48)) (fun _ hk => hk.2) (.slice Ao51 t631.length co51)) (fun _ h_ => h_.1))) hb); have n3_ := Aside0.mk (Kd.R_below (by (with_reducible repeat (first | apply Kd.R_alloc | apply Kd.R_drewN | apply Kd.R_drew)); exact (Kd.R_mono (Kd.R_far (p := ⟨gb634, 1, none⟩) (Kd.R_far (p := ⟨gb634, 0, none⟩) (Kd.R_types HO633.out BK634.out (by decide)) (fun _ hk => hk.2) (.slice Ao48 t628.length co48)) (fun _ hk => hk.2) (.slice Ao51 t631.length co51)) (fun _ h_ => h_.1))) hb); have n4_ := Aside0.mk (blk_below (g := gb619) (o := .cells #[.slice A0_0 l0_0.length c0_0, .slice A0_1 l0_1.length c0_1] 24 (0, 0)) (by (with_reducible repeat (first | refine blk_drewN ?_ _ | refine blk_drew ?_ | refine blk_alloc ?_ _)); refine blk_far ?_ NB619_634.out _; (with_reducible repeat (first | refine blk_drewN ?_ _ | refine blk_drew ?_ | refine blk_alloc ?_ _)); refine blk_far ?_ NB619_634.out _; (with_reducible repeat (first | refine blk_drewN ?_ _ | refine blk_drew ?_ | refine blk_alloc ?_ _)); exact BK619.out) hb); have n5_ := Aside0.mk (blk_below (g := gb634) (o := .cells #[.slice Ao48 t628.length co48, .slice Ao51 t631.length co51] 27 (0, 0)) (by (with_reducible repeat (first | refine blk_drewN ?_ _ | refine blk_drew ?_ | refine blk_alloc ?_ _)); refine blk_put (cs := #[.slice Ao48 t628.length co48, .slice none 0 0]) ?_ 1 _ rfl; (with_reducible repeat (first | refine blk_drewN ?_ _ | refine blk_drew ?_ | refine blk_alloc ?_ _)); refine blk_put (cs := #[.slice none 0 0, .slice none 0 0]) ?_ 0 _ rfl; (with_reducible repeat (first | refine blk_drewN ?_ _ | refine blk_drew ?_ | refine blk_alloc ?_ _)); exact BK634.out) hb); have n6_ := Aside0.mk (below_step (by repeat (first | (with_reducible first | exact HB.out | apply below_alloc | apply pw_below_drewN | apply below_drew1 | refine below_set ?_ GE619.out | refine below_set ?_ GE634.out) | exact HB.out)) hb); clear HO623 HO626 HO630 HO633 BK619 BK634 HB; have HO623 := n0_; have HO626 := n1_; have HO630 := n2_; have HO633 := n3_; have BK619 := n4_; have BK634 := n5_; have HB := n6_; clear n0_ n1_ n2_ n3_ n4_ n5_ n6_; (try clear hb); (try clear hb2); (try clear hk); (try clear hi)))
    have n0_ := Aside0.mk (Kd.R_drew HO623.out)
    have n1_ := Aside0.mk (Kd.R_drew HO626.out)
    have n2_ := Aside0.mk (Kd.R_drew HO630.out)
    have n3_ := Aside0.mk (Kd.R_drew HO633.out)
    have n4_ := Aside0.mk (blk_drew BK619.out)
    have n5_ := Aside0.mk (blk_drew BK634.out)
    have n6_ := Aside0.mk (below_drew1 HB.out)
    clear HO623 HO626 HO630 HO633 BK619 BK634 HB
    have HO623 := n0_
    have HO626 := n1_
    have HO630 := n2_
    have HO633 := n3_
    have BK619 := n4_
    have BK634 := n5_
    have HB := n6_
    clear n0_ n1_ n2_ n3_ n4_ n5_ n6_
    refine start_ (n := 5) (S := fun w' => w'.cell? ⟨gb634, 0, none⟩ = some (.slice Ao48 t628.length co48) ∧ w'.cell? ⟨gb634, 1, none⟩ = some (.slice Ao51 t631.length co51) ∧ w'.cell? ⟨gb619, 0, none⟩ = some (.slice A0_0 l0_0.length c0_0) ∧ w'.cell? ⟨gb619, 1, none⟩ = some (.slice A0_1 l0_1.length c0_1)) (ds := []) #[false, false, false, false, false] (by kernel_rfl) rfl rfl ⟨(blk_cell BK634.out 0).trans rfl, (blk_cell BK634.out 1).trans rfl, (blk_cell BK619.out 0).trans rfl, (blk_cell BK619.out 1).trans rfl⟩ (fun hHeld => ?_)
    generalize w52.drew = w53 at HO623 HO626 HO630 HO633 BK619 BK634 HB hHeld ⊢
    refine take_ (i := 0) (N := some 26) (v := ?_) (a' := ?_) #[true, false, false, false, false] rfl rfl (by kernel_rfl) (fun _ _ _ h => h) (Or.inl ⟨by rfl, ?_⟩) hHeld ?_ ?_
    rotate_left
    ·
     rintro w' ⟨s0, s1, s2, s3⟩
     go_simp
     with_reducible rfl
    rotate_left
    ·
     simp only [Act.put, List.setIfInBounds_toArray, List.set_cons_zero, List.set_cons_succ, i64_w, i32_w]
     rfl
    refine take_ (i := 1) (N := some 27) (v := ?_) (a' := ?_) #[true, true, false, false, false] rfl rfl (by kernel_rfl) (fun _ _ _ h => h) (Or.inl ⟨by rfl, ?_⟩) hHeld ?_ ?_
    rotate_left
    ·
     rintro w' ⟨s0, s1, s2, s3⟩
     go_simp
     with_reducible rfl
    rotate_left
    ·
     simp only [Act.put, List.setIfInBounds_toArray, List.set_cons_zero, List.set_cons_succ, i64_w, i32_w]
     rfl
    refine one_ (i := 2) (N := some 28) #[true, true, true, false, false] rfl rfl (by kernel_rfl) (by decide) (fun K hK => ?_)
    refine goes_ Try.func17 (by kernel_rfl) rfl #[.agg #[.slice A0_0 l0_0.length c0_0, .slice A0_1 l0_1.length c0_1]] (by rfl) rfl rfl (by (try simp only [List.map_toArray, List.map_cons, List.map_nil]); first | done | rfl | (simp only [List.length_drop, List.length_take]; rfl)) ?_
    with_reducible refine (laws_toMap.calls k _ _ l0_0 _ _ l0_1 t636 t639 _ ?side1 ?side2 ?side3 ?side4 A13.out).mono ?_
    (case side1 => repeat (first | exact (Kd.C_below HR0_0.out HB.out) | (with_reducible refine Kd.C_alloc ?_ _) | (with_reducible refine Kd.C_drewN ?_ _) | (with_reducible refine Kd.C_drew ?_)))
    (case side2 => exact HC0_0.out)
    (case side3 => repeat (first | exact (Kd.C_below HR0_1.out HB.out) | (with_reducible refine Kd.C_alloc ?_ _) | (with_reducible refine Kd.C_drewN ?_ _) | (with_reducible refine Kd.C_drew ?_)))
    (case side4 => exact HC0_1.out)
    rintro e w54 ⟨v637, v640, rfl, ho0, ho1, hb⟩
    refine ⟨_, rfl, ?_⟩
    have n0_ := Aside0.mk (Kd.R_mono (Kd.R_told (Kd.R_told (Kd.R_old (by (with_reducible repeat (first | apply Kd.R_alloc | apply Kd.R_drewN | apply Kd.R_drew)); exact HO623.out) hb) (Kd.R_base ho0)) (Kd.R_base ho1)) (fun _ h_ => h_.1))
    have n1_ := Aside0.mk (Kd.R_mono (Kd.R_told (Kd.R_told (Kd.R_old (by (with_reducible repeat (first | apply Kd.R_alloc | apply Kd.R_drewN | apply Kd.R_drew)); exact HO626.out) hb) (Kd.R_base ho0)) (Kd.R_base ho1)) (fun _ h_ => h_.1))
    have n2_ := Aside0.mk (Kd.R_mono (Kd.R_told (Kd.R_told (Kd.R_old (by (with_reducible repeat (first | apply Kd.R_alloc | apply Kd.R_drewN | apply Kd.R_drew)); exact HO630.out) hb) (Kd.R_base ho0)) (Kd.R_base ho1)) (fun _ h_ => h_.1))
    have n3_ := Aside0.mk (Kd.R_mono (Kd.R_told (Kd.R_told (Kd.R_old (by (with_reducible repeat (first | apply Kd.R_alloc | apply Kd.R_drewN | apply Kd.R_drew)); exact HO633.out) hb) (Kd.R_base ho0)) (Kd.R_base ho1)) (fun _ h_ => h_.1))
    have n4_ := Aside0.mk (Kd.R_lower (Kd.R_new' (Kd.R_new' (Kd.R_new' (Kd.R_new' ho0 (Kd.R_lt (by (with_reducible repeat (first | apply Kd.R_alloc | apply Kd.R_drewN | apply Kd.R_drew)); exact HO623.out))) (Kd.R_lt (by (with_reducible repeat (first | apply Kd.R_alloc | apply Kd.R_drewN | apply Kd.R_drew)); exact HO626.out))) (Kd.R_lt (by (with_reducible repeat (first | apply Kd.R_alloc | apply Kd.R_drewN | apply Kd.R_drew)); exact HO630.out))) (Kd.R_lt (by (with_reducible repeat (first | apply Kd.R_alloc | apply Kd.R_drewN | apply Kd.R_drew)); exact HO633.out))) (below_size (by repeat (first | (with_reducible first | exact HB.out | apply below_alloc | apply pw_below_drewN | apply below_drew1 | refine below_set ?_ GE619.out | refine below_set ?_ GE634.out) | exact HB.out))))
    have n5_ := Aside0.mk (Kd.R_lower (Kd.R_new' (Kd.R_new' (Kd.R_new' (Kd.R_new' ho1 (Kd.R_lt (by (with_reducible repeat (first | apply Kd.R_alloc | apply Kd.R_drewN | apply Kd.R_drew)); exact HO623.out))) (Kd.R_lt (by (with_reducible repeat (first | apply Kd.R_alloc | apply Kd.R_drewN | apply Kd.R_drew)); exact HO626.out))) (Kd.R_lt (by (with_reducible repeat (first | apply Kd.R_alloc | apply Kd.R_drewN | apply Kd.R_drew)); exact HO630.out))) (Kd.R_lt (by (with_reducible repeat (first | apply Kd.R_alloc | apply Kd.R_drewN | apply Kd.R_drew)); exact HO633.out))) (below_size (by repeat (first | (with_reducible first | exact HB.out | apply below_alloc | apply pw_below_drewN | apply below_drew1 | refine below_set ?_ GE619.out | refine below_set ?_ GE634.out) | exact HB.out))))
    have n6_ := Aside0.mk (blk_below (g := gb619) (o := .cells #[.slice A0_0 l0_0.length c0_0, .slice A0_1 l0_1.length c0_1] 24 (0, 0)) (by (with_reducible repeat (first | refine blk_drewN ?_ _ | refine blk_drew ?_ | refine blk_alloc ?_ _)); exact BK619.out) hb)
    have n7_ := Aside0.mk (blk_below (g := gb634) (o := .cells #[.slice Ao48 t628.length co48, .slice Ao51 t631.length co51] 27 (0, 0)) (by (with_reducible repeat (first | refine blk_drewN ?_ _ | refine blk_drew ?_ | refine blk_alloc ?_ _)); exact BK634.out) hb)
    have n8_ := Aside0.mk (below_step (by repeat (first | (with_reducible first | exact HB.out | apply below_alloc | apply pw_below_drewN | apply below_drew1 | refine below_set ?_ GE619.out | refine below_set ?_ GE634.out) | exact HB.out)) hb)
    clear HO623 HO626 HO630 HO633 BK619 BK634 HB
    have HO623 := n0_
    have HO626 := n1_
    have HO630 := n2_
    have HO633 := n3_
    have HO638 := n4_
    have HO641 := n5_
    have BK619 := n6_
    have BK634 := n7_
    have HB := n8_
    clear n0_ n1_ n2_ n3_ n4_ n5_ n6_ n7_ n8_
    (try clear hb)
    (try clear hb2)
    (try clear hk)
    (try clear hi)
    (try clear ho0)
    (try clear ho1)
    obtain ⟨Ao55, co55, eo55⟩ := Kd.R_slice HO638.out
    (first | subst eo55 | (injection eo55 with f1_ f2_ f3_; have f4_ := f1_.symm; have f5_ := f3_.symm; clear f1_ f2_ f3_; subst f4_; subst f5_))
    obtain ⟨Ao56, co56, eo56⟩ := Kd.R_slice HO641.out
    (first | subst eo56 | (injection eo56 with f1_ f2_ f3_; have f4_ := f1_.symm; have f5_ := f3_.symm; clear f1_ f2_ f3_; subst f4_; subst f5_))
    refine hK.out _ _ ⟨(blk_cell BK634.out 0).trans rfl, (blk_cell BK634.out 1).trans rfl, (blk_cell BK619.out 0).trans rfl, (blk_cell BK619.out 1).trans rfl⟩ (fun hHeld => ?_)
    clear hK K
    refine norm_ (a' := ?_) ?_ ?_
    rotate_left
    ·
     show Act.put _ (some 28) _ = _
     simp only [Act.put, List.setIfInBounds_toArray, List.set_cons_zero, List.set_cons_succ, i64_w, i32_w]
     rfl
    refine one_ (i := 3) (N := some 29) #[true, true, true, true, false] rfl rfl (by kernel_rfl) (by decide) (fun K hK => ?_)
    refine goes_ Try.func20 (by kernel_rfl) rfl #[.agg #[.slice Ao48 t628.length co48, .slice Ao51 t631.length co51], .agg #[.slice Ao55 t636.length co55, .slice Ao56 t639.length co56]] (by rfl) rfl rfl (by (try simp only [List.map_toArray, List.map_cons, List.map_nil]); first | done | rfl | (simp only [List.length_drop, List.length_take]; rfl)) ?_
    with_reducible refine (laws_eqMap.calls k _ _ t628 _ _ t631 _ _ t636 _ _ t639 false _ ?side1 ?side2 ?side3 ?side4 ?side5 ?side6 ?side7 ?side8 A14.out).mono ?_
    (case side1 => repeat (first | exact (Kd.R_reads' HO630.out).2.2 | (with_reducible refine Kd.C_alloc ?_ _) | (with_reducible refine Kd.C_drewN ?_ _) | (with_reducible refine Kd.C_drew ?_)))
    (case side2 => exact (Kd.R_reads' HO630.out).2.1)
    (case side3 => repeat (first | exact (Kd.R_reads' HO633.out).2.2 | (with_reducible refine Kd.C_alloc ?_ _) | (with_reducible refine Kd.C_drewN ?_ _) | (with_reducible refine Kd.C_drew ?_)))
    (case side4 => exact (Kd.R_reads' HO633.out).2.1)
    (case side5 => repeat (first | exact (Kd.R_reads' HO638.out).2.2 | (with_reducible refine Kd.C_alloc ?_ _) | (with_reducible refine Kd.C_drewN ?_ _) | (with_reducible refine Kd.C_drew ?_)))
    (case side6 => exact (Kd.R_reads' HO638.out).2.1)
    (case side7 => repeat (first | exact (Kd.R_reads' HO641.out).2.2 | (with_reducible refine Kd.C_alloc ?_ _) | (with_reducible refine Kd.C_drewN ?_ _) | (with_reducible refine Kd.C_drew ?_)))
    (case side8 => exact (Kd.R_reads' HO641.out).2.1)
    rintro e w57 ⟨rfl, hb⟩
    refine ⟨_, rfl, ?_⟩
    have n0_ := Aside0.mk (Kd.R_below (by (with_reducible repeat (first | apply Kd.R_alloc | apply Kd.R_drewN | apply Kd.R_drew)); exact HO623.out) hb)
    have n1_ := Aside0.mk (Kd.R_below (by (with_reducible repeat (first | apply Kd.R_alloc | apply Kd.R_drewN | apply Kd.R_drew)); exact HO626.out) hb)
    have n2_ := Aside0.mk (Kd.R_below (by (with_reducible repeat (first | apply Kd.R_alloc | apply Kd.R_drewN | apply Kd.R_drew)); exact HO630.out) hb)
    have n3_ := Aside0.mk (Kd.R_below (by (with_reducible repeat (first | apply Kd.R_alloc | apply Kd.R_drewN | apply Kd.R_drew)); exact HO633.out) hb)
    have n4_ := Aside0.mk (Kd.R_below (by (with_reducible repeat (first | apply Kd.R_alloc | apply Kd.R_drewN | apply Kd.R_drew)); exact HO638.out) hb)
    have n5_ := Aside0.mk (Kd.R_below (by (with_reducible repeat (first | apply Kd.R_alloc | apply Kd.R_drewN | apply Kd.R_drew)); exact HO641.out) hb)
    have n6_ := Aside0.mk (blk_below (g := gb619) (o := .cells #[.slice A0_0 l0_0.length c0_0, .slice A0_1 l0_1.length c0_1] 24 (0, 0)) (by (with_reducible repeat (first | refine blk_drewN ?_ _ | refine blk_drew ?_ | refine blk_alloc ?_ _)); exact BK619.out) hb)
    have n7_ := Aside0.mk (blk_below (g := gb634) (o := .cells #[.slice Ao48 t628.length co48, .slice Ao51 t631.length co51] 27 (0, 0)) (by (with_reducible repeat (first | refine blk_drewN ?_ _ | refine blk_drew ?_ | refine blk_alloc ?_ _)); exact BK634.out) hb)
    have n8_ := Aside0.mk (below_step (by repeat (first | (with_reducible first | exact HB.out | apply below_alloc | apply pw_below_drewN | apply below_drew1 | refine below_set ?_ GE619.out | refine below_set ?_ GE634.out) | exact HB.out)) hb)
    clear HO623 HO626 HO630 HO633 HO638 HO641 BK619 BK634 HB
    have HO623 := n0_
    have HO626 := n1_
    have HO630 := n2_
    have HO633 := n3_
    have HO638 := n4_
    have HO641 := n5_
    have BK619 := n6_
    have BK634 := n7_
    have HB := n8_
    clear n0_ n1_ n2_ n3_ n4_ n5_ n6_ n7_ n8_
    (try clear hb)
    (try clear hb2)
    (try clear hk)
    (try clear hi)
    refine hK.out _ _ ⟨(blk_cell BK634.out 0).trans rfl, (blk_cell BK634.out 1).trans rfl, (blk_cell BK619.out 0).trans rfl, (blk_cell BK619.out 1).trans rfl⟩ (fun hHeld => ?_)
    clear hK K
    refine norm_ (a' := ?_) ?_ ?_
    rotate_left
    ·
     show Act.put _ (some 29) _ = _
     simp only [Act.put, List.setIfInBounds_toArray, List.set_cons_zero, List.set_cons_succ, i64_w, i32_w]
     rfl
    refine pure_ (i := 4) (N := some 30) (v := ?_) (a' := ?_) #[true, true, true, true, true] rfl rfl (by kernel_rfl) (fun _ _ _ h => h) (Or.inl ⟨by rfl, ?_⟩) ?_ ?_
    rotate_left
    ·
     intro w'
     go_simp
     with_reducible rfl
    rotate_left
    ·
     simp only [Act.put, List.setIfInBounds_toArray, List.set_cons_zero, List.set_cons_succ, i64_w, i32_w]
     rfl
    refine done_ (by kernel_rfl) ?_
    try go_wp2
    go_ret
    exact ⟨by first | rfl | (simp [errW_none, errW_some] <;> rfl) | (simp [*, errW_none, errW_some] <;> rfl), by repeat (first | (with_reducible first | exact HB.out | apply below_alloc | apply pw_below_drewN | apply below_drew1 | refine below_set ?_ GE619.out | refine below_set ?_ GE634.out) | exact HB.out)⟩
  ·
   rw [if_neg c12] at H
   have c12b0 : (t635 == t627) = false := beq_eq_false_iff_ne.mpr c12
   have c12b1 : (t635 != t627) = true := bne_iff_ne.mpr c12
   obtain rfl := Option.some.inj H
   go_enter Try.func11, Try.ntmps11
   go_wp2_with (first | ((with_reducible refine gate_dst (N := 2) rfl ?_); refine box_event ?hg (N := 2) ?hd (cs := #[.slice A0_0 l0_0.length c0_0, .slice A0_1 l0_1.length c0_1]) (t := 24) ?hr ?_; (case hd => rfl); (case hg => rfl); (case hr => first | (go_simp; done) | (go_simp; rfl)); intro gb619 hg w58 hbox hb; have n0_ := Aside0.mk (below_step (by repeat (first | (with_reducible first | exact HB.out | apply below_alloc | apply pw_below_drewN | apply below_drew1) | exact HB.out)) hb); have n1_ := Aside0.mk (hbox); have n2_ := Aside0.mk ((by rw [hg]; exact (below_size (by repeat (first | (with_reducible first | exact HB.out | apply below_alloc | apply pw_below_drewN | apply below_drew1) | exact HB.out))) : w.heap.size ≤ gb619)); have n3_ := Aside0.mk ((by rw [hg]; exact (below_size (by repeat (first | (with_reducible first | exact HB.out | apply below_alloc | apply pw_below_drewN | apply below_drew1) | exact HB.out))) : w.heap.size ≤ gb619)); clear HB; have HB := n0_; have BK619 := n1_; have GW619 := n2_; have GE619 := n3_; clear n0_ n1_ n2_ n3_ hb hbox hg; have hcz59_0 : w58.cell? ⟨gb619, 0, none⟩ = some (.slice A0_0 l0_0.length c0_0) := (blk_cell BK619.out 0).trans rfl; have hcz59_1 : w58.cell? ⟨gb619, 1, none⟩ = some (.slice A0_1 l0_1.length c0_1) := (blk_cell BK619.out 1).trans rfl; have hfz59_0 := blk_frozen BK619.out 0; have hfz59_1 := blk_frozen BK619.out 1) | ((with_reducible refine gate_callee (f := 15) rfl ?_); refine goesL_ (some 11) rfl rfl Try.func15 (by kernel_rfl) rfl #[.agg #[.slice A0_0 l0_0.length c0_0, .slice A0_1 l0_1.length c0_1], .int .i64 1048576] rfl (by (try simp only [List.map_toArray, List.map_cons, List.map_nil]); first | done | rfl | (simp only [List.length_drop, List.length_take]; rfl)) ?_; (with_reducible refine (laws_szMap.calls _ _ l0_0 _ _ l0_1 1048576 t620 _ ?side1 ?side2 ?side3 ?side4 A3.out).mono ?_); (case side1 => repeat (first | exact (Kd.C_below HR0_0.out HB.out) | (with_reducible refine Kd.C_alloc ?_ _) | (with_reducible refine Kd.C_drewN ?_ _) | (with_reducible refine Kd.C_drew ?_))); (case side2 => exact HC0_0.out); (case side3 => repeat (first | exact (Kd.C_below HR0_1.out HB.out) | (with_reducible refine Kd.C_alloc ?_ _) | (with_reducible refine Kd.C_drewN ?_ _) | (with_reducible refine Kd.C_drew ?_))); (case side4 => exact HC0_1.out); rintro e w60 ⟨rfl, hb⟩; refine ⟨_, rfl, ?_⟩; have n0_ := Aside0.mk (blk_below (g := gb619) (o := .cells #[.slice A0_0 l0_0.length c0_0, .slice A0_1 l0_1.length c0_1] 24 (0, 0)) (by (with_reducible repeat (first | refine blk_drewN ?_ _ | refine blk_drew ?_ | refine blk_alloc ?_ _)); exact BK619.out) hb); have n1_ := Aside0.mk (below_step (by repeat (first | (with_reducible first | exact HB.out | apply below_alloc | apply pw_below_drewN | apply below_drew1 | refine below_set ?_ GE619.out) | exact HB.out)) hb); clear BK619 HB; have BK619 := n0_; have HB := n1_; clear n0_ n1_; (try clear hb); (try clear hb2); (try clear hk); (try clear hi); have hcz61_0 : w60.cell? ⟨gb619, 0, none⟩ = some (.slice A0_0 l0_0.length c0_0) := (blk_cell BK619.out 0).trans rfl; have hcz61_1 : w60.cell? ⟨gb619, 1, none⟩ = some (.slice A0_1 l0_1.length c0_1) := (blk_cell BK619.out 1).trans rfl; have hfz61_0 := blk_frozen BK619.out 0; have hfz61_1 := blk_frozen BK619.out 1) | ((with_reducible refine gate_callee (f := 17) rfl ?_); refine goesL_ (some 15) rfl rfl Try.func17 (by kernel_rfl) rfl #[.agg #[.slice A0_0 l0_0.length c0_0, .slice A0_1 l0_1.length c0_1]] rfl (by (try simp only [List.map_toArray, List.map_cons, List.map_nil]); first | done | rfl | (simp only [List.length_drop, List.length_take]; rfl)) ?_; (with_reducible refine (laws_toMap.calls k _ _ l0_0 _ _ l0_1 t621 t624 _ ?side1 ?side2 ?side3 ?side4 A8.out).mono ?_); (case side1 => repeat (first | exact (Kd.C_below HR0_0.out HB.out) | (with_reducible refine Kd.C_alloc ?_ _) | (with_reducible refine Kd.C_drewN ?_ _) | (with_reducible refine Kd.C_drew ?_))); (case side2 => exact HC0_0.out); (case side3 => repeat (first | exact (Kd.C_below HR0_1.out HB.out) | (with_reducible refine Kd.C_alloc ?_ _) | (with_reducible refine Kd.C_drewN ?_ _) | (with_reducible refine Kd.C_drew ?_))); (case side4 => exact HC0_1.out); rintro e w62 ⟨v622, v625, rfl, ho0, ho1, hb⟩; refine ⟨_, rfl, ?_⟩; have n0_ := Aside0.mk (Kd.R_lower ho0 (below_size (by repeat (first | (with_reducible first | exact HB.out | apply below_alloc | apply pw_below_drewN | apply below_drew1 | refine below_set ?_ GE619.out) | exact HB.out)))); have n1_ := Aside0.mk (Kd.R_lower ho1 (below_size (by repeat (first | (with_reducible first | exact HB.out | apply below_alloc | apply pw_below_drewN | apply below_drew1 | refine below_set ?_ GE619.out) | exact HB.out)))); have n2_ := Aside0.mk (blk_below (g := gb619) (o := .cells #[.slice A0_0 l0_0.length c0_0, .slice A0_1 l0_1.length c0_1] 24 (0, 0)) (by (with_reducible repeat (first | refine blk_drewN ?_ _ | refine blk_drew ?_ | refine blk_alloc ?_ _)); exact BK619.out) hb); have n3_ := Aside0.mk (below_step (by repeat (first | (with_reducible first | exact HB.out | apply below_alloc | apply pw_below_drewN | apply below_drew1 | refine below_set ?_ GE619.out) | exact HB.out)) hb); clear BK619 HB; have HO623 := n0_; have HO626 := n1_; have BK619 := n2_; have HB := n3_; clear n0_ n1_ n2_ n3_; (try clear hb); (try clear hb2); (try clear hk); (try clear hi); (try clear ho0); (try clear ho1); obtain ⟨Ao63, co63, eo63⟩ := Kd.R_slice HO623.out; subst eo63; obtain ⟨Ao64, co64, eo64⟩ := Kd.R_slice HO626.out; subst eo64) | ((with_reducible refine gate_callee (f := 40) rfl ?_); refine goesL_ (some 17) rfl rfl Try.func40 (by kernel_rfl) rfl #[.agg #[.slice Ao63 t621.length co63, .slice Ao64 t624.length co64], .int .i64 a1] rfl (by (try simp only [List.map_toArray, List.map_cons, List.map_nil]); first | done | rfl | (simp only [List.length_drop, List.length_take]; rfl)) ?_; (with_reducible refine (spec_EdgeKind.calls k _ _ t621 _ _ t624 a1 t627 _ ?side1 ?side2 ?side3 ?side4 A9.out).mono ?_); (case side1 => repeat (first | exact (Kd.R_reads' HO623.out).2.2 | (with_reducible refine Kd.C_alloc ?_ _) | (with_reducible refine Kd.C_drewN ?_ _) | (with_reducible refine Kd.C_drew ?_))); (case side2 => exact (Kd.R_reads' HO623.out).2.1); (case side3 => repeat (first | exact (Kd.R_reads' HO626.out).2.2 | (with_reducible refine Kd.C_alloc ?_ _) | (with_reducible refine Kd.C_drewN ?_ _) | (with_reducible refine Kd.C_drew ?_))); (case side4 => exact (Kd.R_reads' HO626.out).2.1); rintro e w65 ⟨rfl, hb⟩; refine ⟨_, rfl, ?_⟩; have n0_ := Aside0.mk (Kd.R_below (by (with_reducible repeat (first | apply Kd.R_alloc | apply Kd.R_drewN | apply Kd.R_drew)); exact HO623.out) hb); have n1_ := Aside0.mk (Kd.R_below (by (with_reducible repeat (first | apply Kd.R_alloc | apply Kd.R_drewN | apply Kd.R_drew)); exact HO626.out) hb); have n2_ := Aside0.mk (blk_below (g := gb619) (o := .cells #[.slice A0_0 l0_0.length c0_0, .slice A0_1 l0_1.length c0_1] 24 (0, 0)) (by (with_reducible repeat (first | refine blk_drewN ?_ _ | refine blk_drew ?_ | refine blk_alloc ?_ _)); exact BK619.out) hb); have n3_ := Aside0.mk (below_step (by repeat (first | (with_reducible first | exact HB.out | apply below_alloc | apply pw_below_drewN | apply below_drew1 | refine below_set ?_ GE619.out) | exact HB.out)) hb); clear HO623 HO626 BK619 HB; have HO623 := n0_; have HO626 := n1_; have BK619 := n2_; have HB := n3_; clear n0_ n1_ n2_ n3_; (try clear hb); (try clear hb2); (try clear hk); (try clear hi); have hcz66_0 : w65.cell? ⟨gb619, 0, none⟩ = some (.slice A0_0 l0_0.length c0_0) := (blk_cell BK619.out 0).trans rfl; have hcz66_1 : w65.cell? ⟨gb619, 1, none⟩ = some (.slice A0_1 l0_1.length c0_1) := (blk_cell BK619.out 1).trans rfl; have hfz66_0 := blk_frozen BK619.out 0; have hfz66_1 := blk_frozen BK619.out 1) | ((with_reducible refine gate_callee (f := 17) rfl ?_); refine goesL_ (some 19) rfl rfl Try.func17 (by kernel_rfl) rfl #[.agg #[.slice A0_0 l0_0.length c0_0, .slice A0_1 l0_1.length c0_1]] rfl (by (try simp only [List.map_toArray, List.map_cons, List.map_nil]); first | done | rfl | (simp only [List.length_drop, List.length_take]; rfl)) ?_; (with_reducible refine (laws_toMap.calls k _ _ l0_0 _ _ l0_1 t628 t631 _ ?side1 ?side2 ?side3 ?side4 A10.out).mono ?_); (case side1 => repeat (first | exact (Kd.C_below HR0_0.out HB.out) | (with_reducible refine Kd.C_alloc ?_ _) | (with_reducible refine Kd.C_drewN ?_ _) | (with_reducible refine Kd.C_drew ?_))); (case side2 => exact HC0_0.out); (case side3 => repeat (first | exact (Kd.C_below HR0_1.out HB.out) | (with_reducible refine Kd.C_alloc ?_ _) | (with_reducible refine Kd.C_drewN ?_ _) | (with_reducible refine Kd.C_drew ?_))); (case side4 => exact HC0_1.out); rintro e w67 ⟨v629, v632, rfl, ho0, ho1, hb⟩; refine ⟨_, rfl, ?_⟩; have n0_ := Aside0.mk (Kd.R_mono (Kd.R_told (Kd.R_told (Kd.R_old (by (with_reducible repeat (first | apply Kd.R_alloc | apply Kd.R_drewN | apply Kd.R_drew)); exact HO623.out) hb) (Kd.R_base ho0)) (Kd.R_base ho1)) (fun _ h_ => h_.1)); have n1_ := Aside0.mk (Kd.R_mono (Kd.R_told (Kd.R_told (Kd.R_old (by (with_reducible repeat (first | apply Kd.R_alloc | apply Kd.R_drewN | apply Kd.R_drew)); exact HO626.out) hb) (Kd.R_base ho0)) (Kd.R_base ho1)) (fun _ h_ => h_.1)); have n2_ := Aside0.mk (Kd.R_lower (Kd.R_new' (Kd.R_new' ho0 (Kd.R_lt (by (with_reducible repeat (first | apply Kd.R_alloc | apply Kd.R_drewN | apply Kd.R_drew)); exact HO623.out))) (Kd.R_lt (by (with_reducible repeat (first | apply Kd.R_alloc | apply Kd.R_drewN | apply Kd.R_drew)); exact HO626.out))) (below_size (by repeat (first | (with_reducible first | exact HB.out | apply below_alloc | apply pw_below_drewN | apply below_drew1 | refine below_set ?_ GE619.out) | exact HB.out)))); have n3_ := Aside0.mk (Kd.R_lower (Kd.R_new' (Kd.R_new' ho1 (Kd.R_lt (by (with_reducible repeat (first | apply Kd.R_alloc | apply Kd.R_drewN | apply Kd.R_drew)); exact HO623.out))) (Kd.R_lt (by (with_reducible repeat (first | apply Kd.R_alloc | apply Kd.R_drewN | apply Kd.R_drew)); exact HO626.out))) (below_size (by repeat (first | (with_reducible first | exact HB.out | apply below_alloc | apply pw_below_drewN | apply below_drew1 | refine below_set ?_ GE619.out) | exact HB.out)))); have n4_ := Aside0.mk (blk_below (g := gb619) (o := .cells #[.slice A0_0 l0_0.length c0_0, .slice A0_1 l0_1.length c0_1] 24 (0, 0)) (by (with_reducible repeat (first | refine blk_drewN ?_ _ | refine blk_drew ?_ | refine blk_alloc ?_ _)); exact BK619.out) hb); have n5_ := Aside0.mk (below_step (by repeat (first | (with_reducible first | exact HB.out | apply below_alloc | apply pw_below_drewN | apply below_drew1 | refine below_set ?_ GE619.out) | exact HB.out)) hb); clear HO623 HO626 BK619 HB; have HO623 := n0_; have HO626 := n1_; have HO630 := n2_; have HO633 := n3_; have BK619 := n4_; have HB := n5_; clear n0_ n1_ n2_ n3_ n4_ n5_; (try clear hb); (try clear hb2); (try clear hk); (try clear hi); (try clear ho0); (try clear ho1)) | ((with_reducible refine gate_dst (N := 7) rfl ?_); refine box_event ?hg (N := 7) ?hd (cs := #[.slice none 0 0, .slice none 0 0]) (t := 27) ?hr ?_; (case hd => rfl); (case hg => rfl); (case hr => first | (go_simp; done) | (go_simp; rfl)); intro gb634 hg w68 hbox hb; have n0_ := Aside0.mk (Kd.R_below (by (with_reducible repeat (first | apply Kd.R_alloc | apply Kd.R_drewN | apply Kd.R_drew)); exact HO623.out) hb); have n1_ := Aside0.mk (Kd.R_below (by (with_reducible repeat (first | apply Kd.R_alloc | apply Kd.R_drewN | apply Kd.R_drew)); exact HO626.out) hb); have n2_ := Aside0.mk (Kd.R_below (by (with_reducible repeat (first | apply Kd.R_alloc | apply Kd.R_drewN | apply Kd.R_drew)); exact HO630.out) hb); have n3_ := Aside0.mk (Kd.R_below (by (with_reducible repeat (first | apply Kd.R_alloc | apply Kd.R_drewN | apply Kd.R_drew)); exact HO633.out) hb); have n4_ := Aside0.mk (blk_below (g := gb619) (o := .cells #[.slice A0_0 l0_0.length c0_0, .slice A0_1 l0_1.length c0_1] 24 (0, 0)) (by (with_reducible repeat (first | refine blk_drewN ?_ _ | refine blk_drew ?_ | refine blk_alloc ?_ _)); exact BK619.out) hb); have n5_ := Aside0.mk (below_step (by repeat (first | (with_reducible first | exact HB.out | apply below_alloc | apply pw_below_drewN | apply below_drew1 | refine below_set ?_ GE619.out) | exact HB.out)) hb); have n6_ := Aside0.mk (hbox); have n7_ := Aside0.mk ((by rw [hg]; exact (below_size (by repeat (first | (with_reducible first | exact HB.out | apply below_alloc | apply pw_below_drewN | apply below_drew1 | refine below_set ?_ GE619.out) | exact HB.out))) : w.heap.size ≤ gb634)); have n8_ := Aside0.mk ((by rw [hg]; exact (below_size (by repeat (first | (with_reducible first | exact HB.out | apply below_alloc | apply pw_below_drewN | apply below_drew1 | refine below_set ?_ GE619.out) | exact HB.out))) : w.heap.size ≤ gb634)); have n9_ := Aside0.mk ((by rw [hg]; exact Nat.ne_of_lt (blk_lt (g := gb619) (o := .cells #[.slice A0_0 l0_0.length c0_0, .slice A0_1 l0_1.length c0_1] 24 (0, 0)) (by (with_reducible repeat (first | refine blk_drewN ?_ _ | refine blk_drew ?_ | refine blk_alloc ?_ _)); exact BK619.out)) : gb619 ≠ gb634)); have n10_ := Aside0.mk ((by rw [hg]; exact Nat.ne_of_gt (blk_lt (g := gb619) (o := .cells #[.slice A0_0 l0_0.length c0_0, .slice A0_1 l0_1.length c0_1] 24 (0, 0)) (by (with_reducible repeat (first | refine blk_drewN ?_ _ | refine blk_drew ?_ | refine blk_alloc ?_ _)); exact BK619.out)) : gb634 ≠ gb619)); clear HO623 HO626 HO630 HO633 BK619 HB; have HO623 := n0_; have HO626 := n1_; have HO630 := n2_; have HO633 := n3_; have BK619 := n4_; have HB := n5_; have BK634 := n6_; have GW634 := n7_; have GE634 := n8_; have NB619_634 := n9_; have NB634_619 := n10_; clear n0_ n1_ n2_ n3_ n4_ n5_ n6_ n7_ n8_ n9_ n10_ hb hbox hg; obtain ⟨Ao69, co69, eo69⟩ := Kd.R_slice HO630.out; subst eo69; have hnb70 := NB634_619.out; have hnc70 := NB619_634.out; have hcz71_0 : w68.cell? ⟨gb634, 0, none⟩ = some (.slice none 0 0) := (blk_cell BK634.out 0).trans rfl; have hcz71_1 : w68.cell? ⟨gb634, 1, none⟩ = some (.slice none 0 0) := (blk_cell BK634.out 1).trans rfl; have hfz71_0 := blk_frozen BK634.out 0; have hfz71_1 := blk_frozen BK634.out 1; obtain ⟨Ao72, co72, eo72⟩ := Kd.R_slice HO633.out; subst eo72) | ((with_reducible refine gate_callee (f := 41) rfl ?_); refine goesL_ (some 22) rfl rfl Try.func41 (by kernel_rfl) rfl #[.agg #[.slice Ao69 t628.length co69, .slice Ao72 t631.length co72], .int .i64 a1] rfl (by (try simp only [List.map_toArray, List.map_cons, List.map_nil]); first | done | rfl | (simp only [List.length_drop, List.length_take]; rfl)) ?_; (with_reducible refine (impl_EdgeKind.calls k _ _ t628 _ _ t631 a1 t635 _ ?side1 ?side2 ?side3 ?side4 A11.out).mono ?_); (case side1 => refine (Kd.R_reads' (e := 3) (base := w.heap.size) (ok := fun k_ => ((some k_ ≠ (.slice Ao72 t631.length co72 : Value).ownBlock ∧ some k_ ≠ (.slice Ao63 t621.length co63 : Value).ownBlock) ∧ some k_ ≠ (.slice Ao64 t624.length co64 : Value).ownBlock)) (n := t628.length) (c := co69) ?_).2.2; exact (by (with_reducible repeat (first | apply Kd.R_alloc | apply Kd.R_drewN | apply Kd.R_drew)); exact (Kd.R_mono (Kd.R_far (p := ⟨gb634, 1, none⟩) (Kd.R_far (p := ⟨gb634, 0, none⟩) (Kd.R_types HO630.out BK634.out (by decide)) (fun _ hk => hk.2) (.slice Ao69 t628.length co69)) (fun _ hk => hk.2) (.slice Ao72 t631.length co72)) (fun _ h_ => h_.1)))); (case side2 => exact (Kd.R_reads' HO630.out).2.1); (case side3 => refine (Kd.R_reads' (e := 3) (base := w.heap.size) (ok := fun k_ => ((some k_ ≠ (.slice Ao69 t628.length co69 : Value).ownBlock ∧ some k_ ≠ (.slice Ao63 t621.length co63 : Value).ownBlock) ∧ some k_ ≠ (.slice Ao64 t624.length co64 : Value).ownBlock)) (n := t631.length) (c := co72) ?_).2.2; exact (by (with_reducible repeat (first | apply Kd.R_alloc | apply Kd.R_drewN | apply Kd.R_drew)); exact (Kd.R_mono (Kd.R_far (p := ⟨gb634, 1, none⟩) (Kd.R_far (p := ⟨gb634, 0, none⟩) (Kd.R_types HO633.out BK634.out (by decide)) (fun _ hk => hk.2) (.slice Ao69 t628.length co69)) (fun _ hk => hk.2) (.slice Ao72 t631.length co72)) (fun _ h_ => h_.1)))); (case side4 => exact (Kd.R_reads' HO633.out).2.1); rintro e w73 ⟨rfl, hb⟩; refine ⟨_, rfl, ?_⟩; have n0_ := Aside0.mk (Kd.R_below (by (with_reducible repeat (first | apply Kd.R_alloc | apply Kd.R_drewN | apply Kd.R_drew)); exact (Kd.R_mono (Kd.R_far (p := ⟨gb634, 1, none⟩) (Kd.R_far (p := ⟨gb634, 0, none⟩) (Kd.R_types HO623.out BK634.out (by decide)) (fun _ hk => hk.2) (.slice Ao69 t628.length co69)) (fun _ hk => hk.2) (.slice Ao72 t631.length co72)) (fun _ h_ => h_.1))) hb); have n1_ := Aside0.mk (Kd.R_below (by (with_reducible repeat (first | apply Kd.R_alloc | apply Kd.R_drewN | apply Kd.R_drew)); exact (Kd.R_mono (Kd.R_far (p := ⟨gb634, 1, none⟩) (Kd.R_far (p := ⟨gb634, 0, none⟩) (Kd.R_types HO626.out BK634.out (by decide)) (fun _ hk => hk.2) (.slice Ao69 t628.length co69)) (fun _ hk => hk.2) (.slice Ao72 t631.length co72)) (fun _ h_ => h_.1))) hb); have n2_ := Aside0.mk (Kd.R_below (by (with_reducible repeat (first | apply Kd.R_alloc | apply Kd.R_drewN | apply Kd.R_drew)); exact (Kd.R_mono (Kd.R_far (p := ⟨gb634, 1, none⟩) (Kd.R_far (p := ⟨gb634, 0, none⟩) (Kd.R_types HO630.out BK634.out (by decide)) (fun _ hk => hk.2) (.slice Ao69 t628.length co69)) (fun _ hk => hk.2) (.slice Ao72 t631.length co72)) (fun _ h_ => h_.1))) hb); have n3_ := Aside0.mk (Kd.R_below (by (with_reducible repeat (first | apply Kd.R_alloc | apply Kd.R_drewN | apply Kd.R_drew)); exact (Kd.R_mono (Kd.R_far (p := ⟨gb634, 1, none⟩) (Kd.R_far (p := ⟨gb634, 0, none⟩) (Kd.R_types HO633.out BK634.out (by decide)) (fun _ hk => hk.2) (.slice Ao69 t628.length co69)) (fun _ hk => hk.2) (.slice Ao72 t631.length co72)) (fun _ h_ => h_.1))) hb); have n4_ := Aside0.mk (blk_below (g := gb619) (o := .cells #[.slice A0_0 l0_0.length c0_0, .slice A0_1 l0_1.length c0_1] 24 (0, 0)) (by (with_reducible repeat (first | refine blk_drewN ?_ _ | refine blk_drew ?_ | refine blk_alloc ?_ _)); refine blk_far ?_ NB619_634.out _; (with_reducible repeat (first | refine blk_drewN ?_ _ | refine blk_drew ?_ | refine blk_alloc ?_ _)); refine blk_far ?_ NB619_634.out _; (with_reducible repeat (first | refine blk_drewN ?_ _ | refine blk_drew ?_ | refine blk_alloc ?_ _)); exact BK619.out) hb); have n5_ := Aside0.mk (blk_below (g := gb634) (o := .cells #[.slice Ao69 t628.length co69, .slice Ao72 t631.length co72] 27 (0, 0)) (by (with_reducible repeat (first | refine blk_drewN ?_ _ | refine blk_drew ?_ | refine blk_alloc ?_ _)); refine blk_put (cs := #[.slice Ao69 t628.length co69, .slice none 0 0]) ?_ 1 _ rfl; (with_reducible repeat (first | refine blk_drewN ?_ _ | refine blk_drew ?_ | refine blk_alloc ?_ _)); refine blk_put (cs := #[.slice none 0 0, .slice none 0 0]) ?_ 0 _ rfl; (with_reducible repeat (first | refine blk_drewN ?_ _ | refine blk_drew ?_ | refine blk_alloc ?_ _)); exact BK634.out) hb); have n6_ := Aside0.mk (below_step (by repeat (first | (with_reducible first | exact HB.out | apply below_alloc | apply pw_below_drewN | apply below_drew1 | refine below_set ?_ GE619.out | refine below_set ?_ GE634.out) | exact HB.out)) hb); clear HO623 HO626 HO630 HO633 BK619 BK634 HB; have HO623 := n0_; have HO626 := n1_; have HO630 := n2_; have HO633 := n3_; have BK619 := n4_; have BK634 := n5_; have HB := n6_; clear n0_ n1_ n2_ n3_ n4_ n5_ n6_; (try clear hb); (try clear hb2); (try clear hk); (try clear hi)))
   go_ret
   exact ⟨by first | rfl | (simp [errW_none, errW_some] <;> rfl) | (simp [*, errW_none, errW_some] <;> rfl), by repeat (first | (with_reducible first | exact HB.out | apply below_alloc | apply pw_below_drewN | apply below_drew1 | refine below_set ?_ GE619.out | refine below_set ?_ GE634.out) | exact HB.out)⟩
def laws_FnExactEdgeKind.Pure : Prop := ∀ (l0_0 : List Int) (l0_1 : List Int) (a1 : Int), l0_0.length ≤ maxLen → (∀ x ∈ l0_0, (Lit.int .i64 x).wf = true) → l0_1.length ≤ maxLen → (∀ x ∈ l0_1, (Lit.int .i64 x).wf = true) → (Lit.int .i64 a1).wf = true → ∃ k, laws_FnExactEdgeKind.f k l0_0 l0_1 a1 = some true
end Go.Proofs.Ytcjmgkbbmahgcaa.PC

set_option linter.unusedVariables false
set_option linter.unusedSimpArgs false
namespace Go.Proofs.Ytcjmgkbbmahgcaa.PC
open Go.RowKit Go.Proofs.YtcjmgkbbmahgcaaW.PrintWords Go.Proofs.YtcjmgkbbmahgcaaW.PrintLast Go.Proofs.YtcjmgkbbmahgcaaW.PrintMore
theorem Ev.s {α : Type} {g : Nat → Option α} {r : α} (h : Ev (fun k => g (k + 1)) r) : Ev g r := Ev.step (fun _ => rfl) h
theorem Ev.const {α : Type} {o : Option α} {r : α} (h : o = some r) : Ev (fun _ => o) r := ⟨0, fun _ _ => h⟩
theorem w64 {x : Int} (h1 : -9223372036854775808 ≤ x) (h2 : x < 9223372036854775808) : wrap64 x = x := by unfold wrap64; omega
theorem w64r {x : Int} (h : -9223372036854775808 ≤ x ∧ x < 9223372036854775808) : wrap64 x = x := w64 h.1 h.2
theorem w64n {i : Nat} (h : i < 4611686018427387904) : wrap64 ((i : Int) + 1) = ((i + 1 : Nat) : Int) := by rw [w64 (by omega) (by omega)]; omega
end Go.Proofs.Ytcjmgkbbmahgcaa.PC

set_option linter.unusedVariables false
set_option linter.unusedSimpArgs false
namespace Go.Proofs.Ytcjmgkbbmahgcaa.PC
open Go.RowKit Go.Proofs.YtcjmgkbbmahgcaaW.PrintWords Go.Proofs.YtcjmgkbbmahgcaaW.PrintLast Go.Proofs.YtcjmgkbbmahgcaaW.PrintMore
theorem rd_lt (l : List Int) (i : Nat) (h : i < l.length) : rd l (i : Int) = l[i] := by
  unfold rd
  rw [Int.toNat_natCast, List.getD_eq_getElem?_getD, List.getElem?_eq_getElem h]
  rfl
theorem toIntS_run (l : List Int) (hl : l.length ≤ 1048576) : ∀ (d : Nat) (m : List Int) (i : Nat), l.length - i = d → i ≤ l.length → m.length = l.length → m.take i = l.take i → Ev (fun k => laws_toIntS.l0 k l m i) l
  | 0, m, i, hd, hi, hm, ht => by
    refine Ev.s ?_
    simp only [laws_toIntS.l0, show ¬ (i : Int) < (l.length : Int) by omega, if_false]
    have hi' : i = l.length := by omega
    subst hi'
    rw [List.take_length] at ht
    rw [← hm, List.take_length] at ht
    exact Ev.const (by rw [ht])
  | d + 1, m, i, hd, hi, hm, ht => by
    have hlt : i < l.length := by omega
    refine Ev.s ?_
    simp only [laws_toIntS.l0, show (i : Int) < (l.length : Int) by omega, show (0 : Int) ≤ i by omega, show (i : Int) < (m.length : Int) by omega, if_true]
    rw [w64 (x := (i : Int) + 1) (by omega) (by omega), show ((i : Int) + 1) = ((i + 1 : Nat) : Int) by omega]
    refine toIntS_run l hl d _ (i + 1) (by omega) (by omega) (by simpa using hm) ?_
    rw [Int.toNat_natCast, rd_lt l i hlt]
    have h2 : i < m.length := by omega
    rw [List.take_succ_eq_append_getElem (by simpa using h2), List.take_succ_eq_append_getElem hlt, List.take_set_of_le (Nat.le_refl _), ht]
    simp
theorem toIntS_ev (l : List Int) (hl : l.length ≤ 1048576) : Ev (fun k => laws_toIntS.f k l) l := by
  unfold laws_toIntS.f
  simp only [show (0 : Int) ≤ (l.length : Int) by omega, show ((l.length : Int)).toNat ≤ 35184372088832 by omega, if_true]
  exact toIntS_run l hl l.length _ 0 (by omega) (by omega) (by simp) (by simp)
theorem eqIntS_run (l : List Int) (hl : l.length ≤ 1048576) : ∀ (d : Nat) (i : Nat), l.length - i = d → i ≤ l.length → Ev (fun k => laws_eqIntS.l0 k l l i) true
  | 0, i, hd, hi => by
    refine Ev.s ?_
    simp only [laws_eqIntS.l0, show ¬ (i : Int) < (l.length : Int) by omega, if_false]
    exact Ev.const rfl
  | d + 1, i, hd, hi => by
    refine Ev.s ?_
    simp only [laws_eqIntS.l0, show (i : Int) < (l.length : Int) by omega, show (0 : Int) ≤ i by omega, if_true]
    rw [w64 (x := (i : Int) + 1) (by omega) (by omega), show ((i : Int) + 1) = ((i + 1 : Nat) : Int) by omega]
    exact eqIntS_run l hl d (i + 1) (by omega) (by omega)
theorem eqIntS_same (l : List Int) (hl : l.length ≤ 1048576) : Ev (fun k => laws_eqIntS.f k l l) true := by
  unfold laws_eqIntS.f
  simp only [if_true]
  exact eqIntS_run l hl l.length 0 (by omega) (by omega)
end Go.Proofs.Ytcjmgkbbmahgcaa.PC

set_option linter.unusedVariables false
set_option linter.unusedSimpArgs false
namespace Go.Proofs.Ytcjmgkbbmahgcaa.PC
open Go.RowKit Go.Proofs.YtcjmgkbbmahgcaaW.PrintWords Go.Proofs.YtcjmgkbbmahgcaaW.PrintLast Go.Proofs.YtcjmgkbbmahgcaaW.PrintMore
def okAt (l : List Int) (i : Nat) : Prop := 0 ≤ rd l i ∧ rd l i < l.length ∧ ∀ k : Nat, k < i → rd l k ≠ rd l i
def isPerm (l : List Int) : Prop := 1 ≤ l.length ∧ l.length ≤ 12 ∧ ∀ i : Nat, i < l.length → okAt l i
theorem l6In_eq (a b c : Int) : spec_l6In.f a b c = some (decide (b ≤ a ∧ a ≤ c)) := by
  unfold spec_l6In.f
  by_cases h1 : a ≥ b
  · by_cases h2 : a ≤ c <;> simp [h1, h2]
  · simp [h1]
theorem specPerm_in (l : List Int) (hl : l.length ≤ 1048576) (i : Nat) (hi : i < l.length) : ∀ (d k : Nat), i - k = d → k ≤ i →
    ((∀ q : Nat, k ≤ q → q < i → rd l q ≠ rd l i) → ∀ r, Ev (fun z => spec_PermValid.l0 z l ((i + 1 : Nat) : Int)) r → Ev (fun z => spec_PermValid.l1 z l i k) r) ∧
    (¬ (∀ q : Nat, k ≤ q → q < i → rd l q ≠ rd l i) → Ev (fun z => spec_PermValid.l1 z l i k) false)
  | 0, k, hd, hk => by
    refine ⟨fun _ r h => Ev.s ?_, fun h => absurd (fun q h1 h2 => by omega) h⟩
    simp only [spec_PermValid.l1, show ¬ (k : Int) < (i : Int) by omega, if_false]
    rw [w64 (x := (i : Int) + 1) (by omega) (by omega), show ((i : Int) + 1) = ((i + 1 : Nat) : Int) by omega]
    exact h
  | d + 1, k, hd, hk => by
    have ih := specPerm_in l hl i hi d (k + 1) (by omega) (by omega)
    have hw : wrap64 ((k : Int) + 1) = ((k + 1 : Nat) : Int) := by rw [w64 (by omega) (by omega)]; omega
    by_cases e : rd l k = rd l i
    · refine ⟨fun h => absurd e (h k (Nat.le_refl _) (by omega)), fun h => Ev.s ?_⟩
      simp only [spec_PermValid.l1, show (k : Int) < (i : Int) by omega, show (0 : Int) ≤ k by omega, show (k : Int) < (l.length : Int) by omega, show (0 : Int) ≤ i by omega, show (i : Int) < (l.length : Int) by omega, e, if_true]
      exact Ev.const rfl
    · refine ⟨fun h r hr => Ev.s ?_, fun h => Ev.s ?_⟩
      · simp only [spec_PermValid.l1, show (k : Int) < (i : Int) by omega, show (0 : Int) ≤ k by omega, show (k : Int) < (l.length : Int) by omega, show (0 : Int) ≤ i by omega, show (i : Int) < (l.length : Int) by omega, e, if_true, if_false, hw]
        exact ih.1 (fun q h1 h2 => h q (by omega) h2) r hr
      · simp only [spec_PermValid.l1, show (k : Int) < (i : Int) by omega, show (0 : Int) ≤ k by omega, show (k : Int) < (l.length : Int) by omega, show (0 : Int) ≤ i by omega, show (i : Int) < (l.length : Int) by omega, e, if_true, if_false, hw]
        refine ih.2 fun h' => h fun q h1 h2 => ?_
        by_cases eq : q = k
        · rw [eq]; exact e
        · exact h' q (by omega) h2
theorem specPerm_run (l : List Int) (hl : l.length ≤ 1048576) : ∀ (d i : Nat), l.length - i = d → i ≤ l.length →
    ((∀ q : Nat, i ≤ q → q < l.length → okAt l q) → Ev (fun z => spec_PermValid.l0 z l i) (decide (1 ≤ (l.length : Int) ∧ (l.length : Int) ≤ 12))) ∧
    (¬ (∀ q : Nat, i ≤ q → q < l.length → okAt l q) → Ev (fun z => spec_PermValid.l0 z l i) false)
  | 0, i, hd, hi => by
    refine ⟨fun _ => Ev.s ?_, fun h => absurd (fun q h1 h2 => by omega) h⟩
    simp only [spec_PermValid.l0, show ¬ (i : Int) < (l.length : Int) by omega, if_false, l6In_eq, Option.bind_some]
    exact Ev.const rfl
  | d + 1, i, hd, hi => by
    have hlt : i < l.length := by omega
    have ih := specPerm_run l hl d (i + 1) (by omega) (by omega)
    have hin := specPerm_in l hl i hlt i 0 (by omega) (by omega)
    have hwl : wrap64 ((l.length : Int) - 1) = (l.length : Int) - 1 := w64 (by omega) (by omega)
    by_cases hr : 0 ≤ rd l i ∧ rd l i ≤ (l.length : Int) - 1
    · by_cases hn : ∀ q : Nat, 0 ≤ q → q < i → rd l q ≠ rd l i
      · refine ⟨fun h => Ev.s ?_, fun h => Ev.s ?_⟩
        · simp only [spec_PermValid.l0, show (i : Int) < (l.length : Int) by omega, show (0 : Int) ≤ i by omega, if_true, l6In_eq, Option.bind_some, hwl, hr, decide_true, and_self]
          exact hin.1 hn _ (ih.1 fun q h1 h2 => h q (by omega) h2)
        · simp only [spec_PermValid.l0, show (i : Int) < (l.length : Int) by omega, show (0 : Int) ≤ i by omega, if_true, l6In_eq, Option.bind_some, hwl, hr, decide_true, and_self]
          refine hin.1 hn _ (ih.2 fun h' => h fun q h1 h2 => ?_)
          by_cases e : q = i
          · rw [e]; exact ⟨hr.1, by omega, fun k hk => hn k (by omega) hk⟩
          · exact h' q (by omega) h2
      · refine ⟨fun h => absurd (fun q _ h2 => (h i (Nat.le_refl _) hlt).2.2 q h2) hn, fun h => Ev.s ?_⟩
        simp only [spec_PermValid.l0, show (i : Int) < (l.length : Int) by omega, show (0 : Int) ≤ i by omega, if_true, l6In_eq, Option.bind_some, hwl, hr, decide_true, and_self]
        exact hin.2 hn
    · refine ⟨fun h => absurd ⟨(h i (Nat.le_refl _) hlt).1, by have := (h i (Nat.le_refl _) hlt).2.1; omega⟩ hr, fun h => Ev.s ?_⟩
      simp only [spec_PermValid.l0, show (i : Int) < (l.length : Int) by omega, show (0 : Int) ≤ i by omega, if_true, l6In_eq, Option.bind_some, hwl, hr, decide_false, Bool.false_eq_true, if_false]
      exact Ev.const rfl
theorem implPerm_run (l : List Int) (hl : l.length ≤ 12) : ∀ (d i : Nat) (s : List Bool), l.length - i = d → i ≤ l.length → s.length = 12 → (∀ v : Nat, v < 12 → (s.getD v false = true ↔ ∃ k : Nat, k < i ∧ rd l k = v)) →
    ((∀ q : Nat, i ≤ q → q < l.length → okAt l q) → Ev (fun z => impl_PermValid.l0 z l s i) true) ∧
    (¬ (∀ q : Nat, i ≤ q → q < l.length → okAt l q) → Ev (fun z => impl_PermValid.l0 z l s i) false)
  | 0, i, s, hd, hi, hs, hv => by
    refine ⟨fun _ => Ev.s ?_, fun h => absurd (fun q h1 h2 => by omega) h⟩
    simp only [impl_PermValid.l0, show ¬ (i : Int) < (l.length : Int) by omega, if_false]
    exact Ev.const rfl
  | d + 1, i, s, hd, hi, hs, hv => by
    have hlt : i < l.length := by omega
    have hd1 : l.length - (i + 1) = d := by omega
    have hw : wrap64 ((i : Int) + 1) = ((i + 1 : Nat) : Int) := by rw [w64 (by omega) (by omega)]; omega
    by_cases h0 : rd l i < 0
    · refine ⟨fun h => absurd (h i (Nat.le_refl _) hlt).1 (by omega), fun h => Ev.s ?_⟩
      simp only [impl_PermValid.l0, show (i : Int) < (l.length : Int) by omega, show (0 : Int) ≤ i by omega, h0, if_true]
      exact Ev.const rfl
    · by_cases h1 : rd l i ≥ (l.length : Int)
      · refine ⟨fun h => absurd (h i (Nat.le_refl _) hlt).2.1 (by omega), fun h => Ev.s ?_⟩
        simp only [impl_PermValid.l0, show (i : Int) < (l.length : Int) by omega, show (0 : Int) ≤ i by omega, h0, h1, if_true, if_false]
        exact Ev.const rfl
      · have hvi := hv (rd l i).toNat (by omega)
        have hcast : (((rd l i).toNat : Nat) : Int) = rd l i := by omega
        rw [hcast] at hvi
        by_cases h2 : s.getD (rd l i).toNat false = true
        · obtain ⟨k, hk, hke⟩ := hvi.1 h2
          refine ⟨fun h => absurd hke ((h i (Nat.le_refl _) hlt).2.2 k hk), fun h => Ev.s ?_⟩
          simp only [impl_PermValid.l0, show (i : Int) < (l.length : Int) by omega, show (0 : Int) ≤ i by omega, h0, h1, h2, if_true, if_false]
          exact Ev.const rfl
        · have hnew : ∀ k : Nat, k < i → rd l k ≠ rd l i := fun k hk e => h2 (hvi.2 ⟨k, hk, e⟩)
          have ih := implPerm_run l hl d (i + 1) (s.set (rd l i).toNat true) hd1 hlt (by simpa using hs) (fun v hv12 => by
            by_cases ev : v = (rd l i).toNat
            · subst ev
              rw [List.getD_eq_getElem?_getD, List.getElem?_set_self (by omega)]
              simp only [Option.getD_some, true_iff]
              exact ⟨i, Nat.lt_succ_self i, hcast.symm⟩
            · rw [List.getD_eq_getElem?_getD, List.getElem?_set_ne (Ne.symm ev), ← List.getD_eq_getElem?_getD, hv v hv12]
              constructor
              · rintro ⟨k, hk, hke⟩; exact ⟨k, by omega, hke⟩
              · rintro ⟨k, hk, hke⟩
                by_cases e : k = i
                · subst e; omega
                · exact ⟨k, by omega, hke⟩)
          refine ⟨fun h => Ev.s ?_, fun h => Ev.s ?_⟩
          · simp only [impl_PermValid.l0, show (i : Int) < (l.length : Int) by omega, show (0 : Int) ≤ i by omega, h0, h1, h2, if_true, if_false, hw]
            exact ih.1 fun q g1 g2 => h q (by omega) g2
          · simp only [impl_PermValid.l0, show (i : Int) < (l.length : Int) by omega, show (0 : Int) ≤ i by omega, h0, h1, h2, if_true, if_false, hw]
            refine ih.2 fun h' => h fun q g1 g2 => ?_
            by_cases e : q = i
            · rw [e]; exact ⟨by omega, by omega, hnew⟩
            · exact h' q (by omega) g2
theorem permValid_both (l : List Int) (hl : l.length ≤ 1048576) : ∃ b : Bool, Ev (fun k => spec_PermValid.f k l) b ∧ Ev (fun k => impl_PermValid.f k l) b ∧ (b = true ↔ isPerm l) := by
  unfold spec_PermValid.f impl_PermValid.f
  have hs := specPerm_run l hl l.length 0 (by omega) (by omega)
  by_cases hall : ∀ q : Nat, 0 ≤ q → q < l.length → okAt l q
  · refine ⟨decide (1 ≤ (l.length : Int) ∧ (l.length : Int) ≤ 12), hs.1 hall, ?_, ?_⟩
    · by_cases h1 : (l.length : Int) < 1
      · simp only [h1, if_true]
        exact Ev.const (by congr 1; symm; rw [decide_eq_false_iff_not]; omega)
      · by_cases h2 : (l.length : Int) > 12
        · simp only [h1, h2, if_true, if_false]
          exact Ev.const (by congr 1; symm; rw [decide_eq_false_iff_not]; omega)
        · simp only [h1, h2, if_false]
          rw [decide_eq_true (by omega)]
          refine (implPerm_run l (by omega) l.length 0 _ (by omega) (by omega) (by simp) fun v hv => ?_).1 hall
          constructor
          · intro h
            rw [List.getD_eq_getElem?_getD, List.getElem?_replicate, if_pos hv] at h
            cases h
          · rintro ⟨k, hk, _⟩; omega
    · rw [decide_eq_true_eq]
      exact ⟨fun h => ⟨by omega, by omega, fun i hi => hall i (by omega) hi⟩, fun h => ⟨by have := h.1; omega, by have := h.2.1; omega⟩⟩
  · refine ⟨false, hs.2 hall, ?_, ?_⟩
    · by_cases h1 : (l.length : Int) < 1
      · simp only [h1, if_true]; exact Ev.const rfl
      · by_cases h2 : (l.length : Int) > 12
        · simp only [h1, h2, if_true, if_false]; exact Ev.const rfl
        · simp only [h1, h2, if_false]
          refine (implPerm_run l (by omega) l.length 0 _ (by omega) (by omega) (by simp) fun v hv => ?_).2 hall
          constructor
          · intro h
            rw [List.getD_eq_getElem?_getD, List.getElem?_replicate, if_pos hv] at h
            cases h
          · rintro ⟨k, hk, _⟩; omega
    · exact ⟨fun h => (by cases h), fun h => absurd (fun q _ hq => h.2.2 q hq) hall⟩
end Go.Proofs.Ytcjmgkbbmahgcaa.PC

set_option linter.unusedVariables false
set_option linter.unusedSimpArgs false
namespace Go.Proofs.Ytcjmgkbbmahgcaa.PC
open Go.RowKit Go.Proofs.YtcjmgkbbmahgcaaW.PrintWords Go.Proofs.YtcjmgkbbmahgcaaW.PrintLast Go.Proofs.YtcjmgkbbmahgcaaW.PrintMore
def stl (n : Nat) : List Int := (List.range n).map fun (i : Nat) => (i : Int)
theorem stl_length (n : Nat) : (stl n).length = n := by simp [stl]
theorem stl_rd (n i : Nat) (h : i < n) : rd (stl n) i = i := by
  rw [rd_lt _ _ (by rw [stl_length]; exact h)]
  simp [stl]
theorem stl_succ (n : Nat) : stl (n + 1) = stl n ++ [(n : Int)] := by simp [stl, List.range_succ]
theorem rd_set_self (l : List Int) (i : Nat) (v : Int) (h : i < l.length) : rd (l.set i v) i = v := by
  rw [rd_lt _ _ (by simpa using h)]; simp
theorem rd_set_ne (l : List Int) (i j : Nat) (v : Int) (h : i ≠ j) : rd (l.set i v) j = rd l j := by
  unfold rd
  rw [Int.toNat_natCast, List.getD_eq_getElem?_getD, List.getD_eq_getElem?_getD, List.getElem?_set_ne h]
theorem rd_app_lt (l m : List Int) (i : Nat) (h : i < l.length) : rd (l ++ m) i = rd l i := by
  unfold rd
  rw [Int.toNat_natCast, List.getD_eq_getElem?_getD, List.getD_eq_getElem?_getD, List.getElem?_append_left h]
theorem list_ext (a b : List Int) (h : a.length = b.length) (hr : ∀ i : Nat, i < a.length → rd a i = rd b i) : a = b := by
  refine List.ext_getElem h fun i h1 h2 => ?_
  have := hr i h1
  rwa [rd_lt a i h1, rd_lt b i h2] at this
theorem same_run (n : Nat) (hn : n ≤ 1048576) : ∀ (d i : Nat), n - i = d → i ≤ n → Ev (fun k => spec_l1Same.l0 k n (stl i) i) (stl n)
  | 0, i, hd, hi => by
    refine Ev.s ?_
    simp only [spec_l1Same.l0, show ¬ (i : Int) < (n : Int) by omega, if_false]
    have : i = n := by omega
    subst this
    exact Ev.const rfl
  | d + 1, i, hd, hi => by
    refine Ev.s ?_
    simp only [spec_l1Same.l0, show (i : Int) < (n : Int) by omega, if_true, stl_length, show i < 17592186044416 by omega]
    rw [w64 (x := (i : Int) + 1) (by omega) (by omega), show ((i : Int) + 1) = ((i + 1 : Nat) : Int) by omega, ← stl_succ]
    exact same_run n hn d (i + 1) (by omega) (by omega)
theorem same_ev (n : Nat) (hn : n ≤ 1048576) : Ev (fun k => spec_l1Same.f k n) (stl n) := by
  unfold spec_l1Same.f
  exact same_run n hn n 0 (by omega) (by omega)
theorem still_run (n : Nat) (hn : n ≤ 1048576) : ∀ (d i : Nat) (l : List Int), n - i = d → i ≤ n → l.length = n → l.take i = (stl n).take i → Ev (fun k => impl_still.l0 k l n i) (stl n)
  | 0, i, l, hd, hi, hl, ht => by
    refine Ev.s ?_
    simp only [impl_still.l0, show ¬ (i : Int) < (n : Int) by omega, if_false]
    have : i = n := by omega
    subst this
    have e : (stl i).take i = stl i := by rw [List.take_of_length_le]; rw [stl_length]; exact Nat.le_refl _
    rw [e, List.take_of_length_le (by omega)] at ht
    exact Ev.const (by rw [ht])
  | d + 1, i, l, hd, hi, hl, ht => by
    have hlt : i < l.length := by omega
    refine Ev.s ?_
    simp only [impl_still.l0, show (i : Int) < (n : Int) by omega, show (0 : Int) ≤ i by omega, show (i : Int) < (l.length : Int) by omega, if_true]
    rw [w64 (x := (i : Int) + 1) (by omega) (by omega), show ((i : Int) + 1) = ((i + 1 : Nat) : Int) by omega, Int.toNat_natCast]
    refine still_run n hn d (i + 1) _ (by omega) (by omega) (by simpa using hl) ?_
    have h2 : i < (stl n).length := by rw [stl_length]; omega
    rw [List.take_succ_eq_append_getElem (by simpa using hlt), List.take_succ_eq_append_getElem h2, List.take_set_of_le (Nat.le_refl _), ht]
    simp [stl]
theorem still_ev (n : Nat) (hn : n ≤ 1048576) : Ev (fun k => impl_still.f k n) (stl n) := by
  unfold impl_still.f
  have h1 : n ≤ 35184372088832 := by omega
  have h2 : (0 : Int) ≤ (n : Int) := by omega
  simp only [Int.toNat_natCast, h1, h2, if_true, Option.bind_some, List.length_replicate]
  exact still_run n hn n 0 _ (by omega) (by omega) (by simp) (by simp)
def inR (n : Nat) (p : List Int) : Prop := p.length = n ∧ ∀ i : Nat, i < n → 0 ≤ rd p i ∧ rd p i < n
def closedL (ps : List (List Int)) (n : Nat) (S : Nat → Prop) : Prop := ∀ p ∈ ps, ∀ k, k < n → (S k ↔ S (rd p k).toNat)
def Reach (ps : List (List Int)) (n : Nat) (i j : Nat) : Prop := ∀ S, closedL ps n S → (S i ↔ S j)
theorem Reach.refl (ps : List (List Int)) (n i : Nat) : Reach ps n i i := fun S _ => Iff.rfl
theorem Reach.symm {ps : List (List Int)} {n i j : Nat} (h : Reach ps n i j) : Reach ps n j i := fun S c => (h S c).symm
theorem Reach.trans {ps : List (List Int)} {n i j k : Nat} (h : Reach ps n i j) (h' : Reach ps n j k) : Reach ps n i k := fun S c => (h S c).trans (h' S c)
theorem Reach.step {ps : List (List Int)} {n : Nat} {p : List Int} (hp : p ∈ ps) {k : Nat} (hk : k < n) : Reach ps n k (rd p k).toNat := fun S c => c p hp k hk
def orbI (ps : List (List Int)) (n : Nat) (o : List Int) : Prop := o.length = n ∧ ∀ i : Nat, i < n → 0 ≤ rd o i ∧ rd o i ≤ i ∧ Reach ps n (rd o i).toNat i
def orbOk (ps : List (List Int)) (n : Nat) (o : List Int) : Prop := orbI ps n o ∧ ∀ p ∈ ps, ∀ i : Nat, i < n → rd o (rd p i) = rd o i
theorem stl_orbI (ps : List (List Int)) (n : Nat) : orbI ps n (stl n) := by
  refine ⟨stl_length n, fun i hi => ?_⟩
  rw [stl_rd n i hi]
  exact ⟨by omega, by omega, by rw [Int.toNat_natCast]; exact Reach.refl _ _ _⟩
theorem orbOk_const {ps : List (List Int)} {n : Nat} {o : List Int} (h : orbOk ps n o) (hp : ∀ p ∈ ps, inR n p) {i j : Nat} (hr : Reach ps n i j) : rd o i = rd o j := by
  have := hr (fun k => rd o k = rd o i) (fun p hp' k hk => by
    have h1 := h.2 p hp' k hk
    have h2 := (hp p hp').2 k hk
    have e : (((rd p k).toNat : Nat) : Int) = rd p k := by omega
    show (rd o k = rd o i) ↔ (rd o (((rd p k).toNat : Nat) : Int) = rd o i)
    rw [e, h1])
  exact (this.1 rfl).symm
theorem orbOk_le {ps : List (List Int)} {n : Nat} {o o' : List Int} (h : orbOk ps n o) (h' : orbI ps n o') (hp : ∀ p ∈ ps, inR n p) {i : Nat} (hi : i < n) : rd o i ≤ rd o' i := by
  obtain ⟨g0, g1, g2⟩ := h'.2 i hi
  have e := orbOk_const h hp g2
  have hlt : (rd o' i).toNat < n := by omega
  have := (h.1.2 _ hlt).2.1
  have e2 : (((rd o' i).toNat : Nat) : Int) = rd o' i := by omega
  omega
theorem mn_le (a b : Int) : mn a b ≤ a ∧ mn a b ≤ b ∧ (mn a b = a ∨ mn a b = b) := by unfold mn; split <;> omega
theorem orbI_put {ps : List (List Int)} {n : Nat} {o : List Int} (h : orbI ps n o) {i : Nat} (hi : i < n) {v : Int} (h0 : 0 ≤ v) (h1 : v ≤ i) (hr : Reach ps n v.toNat i) : orbI ps n (o.set i v) := by
  refine ⟨by simpa using h.1, fun j hj => ?_⟩
  by_cases e : i = j
  · subst e
    rw [rd_set_self _ _ _ (by rw [h.1]; exact hi)]
    exact ⟨h0, h1, hr⟩
  · rw [rd_set_ne _ _ _ _ e]
    exact h.2 j hj
def tot : List Int → Int
  | [] => 0
  | x :: xs => x + tot xs
theorem tot_set : ∀ (l : List Int) (i : Nat) (v : Int), i < l.length → tot (l.set i v) + rd l i = tot l + v
  | [], i, v, h => by simp at h
  | x :: xs, 0, v, h => by simp [tot, rd]; omega
  | x :: xs, i + 1, v, h => by
    have ih := tot_set xs i v (by simpa using h)
    have e : rd (x :: xs) ((i + 1 : Nat) : Int) = rd xs i := by unfold rd; rw [Int.toNat_natCast, Int.toNat_natCast]; rfl
    rw [e]
    simp only [List.set_cons_succ, tot]
    omega
theorem tot_nonneg : ∀ (l : List Int), (∀ i : Nat, i < l.length → 0 ≤ rd l i) → 0 ≤ tot l
  | [], _ => by simp [tot]
  | x :: xs, h => by
    have h0 := h 0 (by simp)
    have e0 : rd (x :: xs) ((0 : Nat) : Int) = x := rfl
    rw [e0] at h0
    have := tot_nonneg xs fun i hi => by
      have := h (i + 1) (by simpa using hi)
      have e : rd (x :: xs) ((i + 1 : Nat) : Int) = rd xs i := by unfold rd; rw [Int.toNat_natCast, Int.toNat_natCast]; rfl
      rwa [e] at this
    simp only [tot]
    omega
theorem rdL_nth (ps : List (List Int)) (q : Nat) (h : q < ps.length) : rd_L1 ps (q : Int) = ps[q] := by
  have e : (q : Int).toNat = q := Int.toNat_natCast q
  unfold rd_L1
  rw [e, List.getD_eq_getElem?_getD, List.getElem?_eq_getElem h]
  rfl
theorem implOrb_in (ps : List (List Int)) (n : Nat) (hn : n ≤ 12) (q : Nat) (hq : q < ps.length) (hL : ps.length ≤ 1048576) (P : List Int) (hP : P ∈ ps) (pl : P.length = n) (pr : ∀ i : Nat, i < n → 0 ≤ rd P i ∧ rd P i < n) : ∀ (d i : Nat) (o : List Int) (g : Bool), n - i = d → i ≤ n → orbI ps n o →
    ∃ (o' : List Int) (g' : Bool), orbI ps n o' ∧ (∀ r, Ev (fun k => impl_orbits.l1 k ps o' g' ps ps.length ((q + 1 : Nat) : Int)) r → Ev (fun k => impl_orbits.l2 k ps o g ps ps.length q P n i) r) ∧ tot o' ≤ tot o ∧
      (g' = true → g = true ∨ tot o' < tot o) ∧ (g' = false → g = false ∧ o' = o ∧ ∀ j : Nat, i ≤ j → j < n → rd o (rd P j) = rd o j)
  | 0, i, o, g, hd, hi, ho => by
    refine ⟨o, g, ho, fun r h => Ev.s ?_, by omega, fun h => .inl h, fun h => ⟨h, rfl, fun j h1 h2 => by omega⟩⟩
    simp only [impl_orbits.l2, show ¬ (i : Int) < (n : Int) by omega, if_false]
    rw [w64 (x := (q : Int) + 1) (by omega) (by omega), show ((q : Int) + 1) = ((q + 1 : Nat) : Int) by omega]
    exact h
  | d + 1, i, o, g, hd, hi, ho => by
    have hlt : i < n := by omega
    have hd1 : n - (i + 1) = d := by omega
    have hw : wrap64 ((i : Int) + 1) = ((i + 1 : Nat) : Int) := by rw [w64 (by omega) (by omega)]; omega
    have hr := pr i hlt
    have hst := Reach.step hP hlt
    have hlen := ho.1
    obtain ⟨t, ht⟩ : ∃ t : Nat, rd P i = t := ⟨(rd P i).toNat, by omega⟩
    rw [ht, Int.toNat_natCast] at hst
    have htn : t < n := by omega
    obtain ⟨i0, i1, i2⟩ := ho.2 i hlt
    obtain ⟨t0, t1, t2⟩ := ho.2 t htn
    obtain ⟨hm1, hm2, hm3⟩ := mn_le (rd o i) (rd o t)
    have g1 : (i : Int) < (n : Int) := by omega
    have g2 : (0 : Int) ≤ (i : Int) := by omega
    have g3 : (0 : Int) ≤ (t : Int) := by omega
    have g4 : (t : Int) < (n : Int) := by omega
    obtain ⟨v, hv⟩ : ∃ v, mn (rd o i) (rd o t) = v := ⟨_, rfl⟩
    rw [hv] at hm1 hm2 hm3
    by_cases hc : rd o i = v ∧ rd o t = v
    · obtain ⟨c1, c2⟩ := hc
      obtain ⟨o', g', a1, a2, a3, a4, a5⟩ := implOrb_in ps n hn q hq hL P hP pl pr d (i + 1) o g hd1 hlt ho
      refine ⟨o', g', a1, fun r h => Ev.s ?_, a3, a4, fun h => ?_⟩
      · simp only [impl_orbits.l2, g1, g2, g3, g4, pl, hlen, ht, hv, if_true, hw]
        simp only [c1, c2, if_true]
        exact a2 r h
      · obtain ⟨b1, b2, b3⟩ := a5 h
        refine ⟨b1, b2, fun j h1 h2 => ?_⟩
        by_cases e : j = i
        · rw [e, ht]; omega
        · exact b3 j (by omega) h2
    · have hv0 : 0 ≤ v := by omega
      have hrv : Reach ps n v.toNat i := by
        rcases hm3 with e | e
        · rw [e]; exact i2
        · rw [e]; exact t2.trans hst.symm
      have ho1 := orbI_put ho hlt hv0 (by omega) hrv
      have ho2 := orbI_put ho1 htn hv0 (by omega) (hrv.trans hst)
      have hd2 : tot ((o.set i v).set t v) < tot o := by
        have z1 := tot_set o i v (by omega)
        have z2 := tot_set (o.set i v) t v (by rw [List.length_set]; omega)
        by_cases e : i = t
        · subst e
          rw [rd_set_self _ _ _ (by omega)] at z2
          omega
        · rw [rd_set_ne _ _ _ _ e] at z2
          omega
      obtain ⟨o', g', a1, a2, a3, a4, a5⟩ := implOrb_in ps n hn q hq hL P hP pl pr d (i + 1) ((o.set i v).set t v) true hd1 hlt ho2
      refine ⟨o', g', a1, fun r h => Ev.s ?_, by omega, fun h => .inr (by omega), fun h => ?_⟩
      · have hgo := a2 r h
        by_cases c1 : rd o i = v
        · have c2 : ¬ rd o t = v := fun e => hc ⟨c1, e⟩
          simp only [impl_orbits.l2, g1, g2, g3, g4, pl, hlen, ht, hv, if_true, hw, Int.toNat_natCast]
          simp only [c1, c2, if_true, if_false]
          exact hgo
        · simp only [impl_orbits.l2, g1, g2, g3, g4, pl, hlen, ht, hv, if_true, hw, Int.toNat_natCast]
          simp only [c1, if_false]
          exact hgo
      · have := (a5 h).1
        cases this
theorem implOrb_pass (ps : List (List Int)) (n : Nat) (hn : n ≤ 12) (hL : ps.length ≤ 1048576) (hp : ∀ p ∈ ps, inR n p) : ∀ (d q : Nat) (o : List Int) (g : Bool), ps.length - q = d → q ≤ ps.length → orbI ps n o →
    ∃ (o' : List Int) (g' : Bool), orbI ps n o' ∧ (∀ r, Ev (fun k => impl_orbits.l0 k ps o' g') r → Ev (fun k => impl_orbits.l1 k ps o g ps ps.length q) r) ∧ tot o' ≤ tot o ∧
      (g' = true → g = true ∨ tot o' < tot o) ∧ (g' = false → g = false ∧ o' = o ∧ ∀ z : Nat, q ≤ z → z < ps.length → ∀ j : Nat, j < n → rd o (rd (rd_L1 ps z) j) = rd o j)
  | 0, q, o, g, hd, hi, ho => by
    refine ⟨o, g, ho, fun r h => Ev.s ?_, by omega, fun h => .inl h, fun h => ⟨h, rfl, fun j h1 h2 => by omega⟩⟩
    simp only [impl_orbits.l1, show ¬ (q : Int) < (ps.length : Int) by omega, if_false]
    exact h
  | d + 1, q, o, g, hd, hi, ho => by
    have hlt : q < ps.length := by omega
    have hd1 : ps.length - (q + 1) = d := by omega
    have hP : rd_L1 ps q ∈ ps := by rw [rdL_nth ps q hlt]; exact List.getElem_mem hlt
    obtain ⟨pl, pr⟩ := hp _ hP
    obtain ⟨o1, b1, c1, c2, c3, c4, c5⟩ := implOrb_in ps n hn q hlt hL _ hP pl pr n 0 o g (by omega) (by omega) ho
    obtain ⟨o2, b2, e1, e2, e3, e4, e5⟩ := implOrb_pass ps n hn hL hp d (q + 1) o1 b1 hd1 hlt c1
    refine ⟨o2, b2, e1, fun r h => Ev.s ?_, by omega, fun h => ?_, fun h => ?_⟩
    · simp only [impl_orbits.l1, show (q : Int) < (ps.length : Int) by omega, show (0 : Int) ≤ (q : Int) by omega, if_true, pl]
      exact c2 r (e2 r h)
    · rcases e4 h with z | z
      · rcases c4 z with y | y
        · exact .inl y
        · exact .inr (by omega)
      · exact .inr (by omega)
    · obtain ⟨f1, f2, f3⟩ := e5 h
      obtain ⟨g1, g2, g3⟩ := c5 f1
      refine ⟨g1, f2.trans g2, fun z hz hz' j hj => ?_⟩
      by_cases e : z = q
      · rw [e]; exact g3 j (by omega) hj
      · have := f3 z (by omega) hz' j hj
        rwa [g2] at this
theorem implOrb_loop (ps : List (List Int)) (n : Nat) (hn : n ≤ 12) (hL : ps.length ≤ 1048576) (hp : ∀ p ∈ ps, inR n p) : ∀ (m : Nat) (o : List Int), tot o ≤ m → orbI ps n o → ∃ o', orbOk ps n o' ∧ Ev (fun k => impl_orbits.l0 k ps o true) o' := by
  intro m
  induction m using Nat.strongRecOn with
  | _ m ih =>
    intro o hm ho
    obtain ⟨o1, g1, c1, c2, c3, c4, c5⟩ := implOrb_pass ps n hn hL hp ps.length 0 o false (by omega) (by omega) ho
    cases g1 with
    | false =>
      obtain ⟨_, e2, e3⟩ := c5 rfl
      refine ⟨o, ⟨ho, fun p hp' i hi => ?_⟩, Ev.s ?_⟩
      · obtain ⟨z, hz, rfl⟩ := List.mem_iff_getElem.1 hp'
        have := e3 z (by omega) hz i hi
        rwa [rdL_nth ps z hz] at this
      · simp only [impl_orbits.l0, if_true]
        refine c2 o (Ev.s ?_)
        simp only [impl_orbits.l0, Bool.false_eq_true, if_false]
        exact Ev.const (by rw [e2])
    | true =>
      have hlt : tot o1 < tot o := by
        rcases c4 rfl with z | z
        · cases z
        · exact z
      have h0 := tot_nonneg o1 fun i hi => (c1.2 i (by rw [← c1.1]; exact hi)).1
      obtain ⟨o', h1, h2⟩ := ih (tot o1).toNat (by omega) o1 (by omega) c1
      refine ⟨o', h1, Ev.s ?_⟩
      simp only [impl_orbits.l0, if_true]
      exact c2 o' h2
theorem implOrb_ev (ps : List (List Int)) (n : Nat) (hn : n ≤ 12) (h0 : 0 < ps.length) (hL : ps.length ≤ 1048576) (hp : ∀ p ∈ ps, inR n p) : ∃ o, orbOk ps n o ∧ Ev (fun k => impl_orbits.f k ps) o := by
  obtain ⟨o, h1, h2⟩ := implOrb_loop ps n hn hL hp (tot (stl n)).toNat (stl n) (by have := tot_nonneg (stl n) (fun i hi => by rw [stl_rd n i (by rwa [stl_length] at hi)]; omega); omega) (stl_orbI ps n)
  refine ⟨o, h1, ?_⟩
  unfold impl_orbits.f
  have hz : (rd_L1 ps 0).length = n := by
    have := rdL_nth ps 0 h0
    rw [show ((0 : Nat) : Int) = 0 from rfl] at this
    rw [this]
    exact (hp _ (List.getElem_mem h0)).1
  simp only [show (0 : Int) < (ps.length : Int) by omega, if_true, hz]
  exact Ev.bind (still_ev n (by omega)) h2
def lag (o g : List Int) : Nat → Nat
  | 0 => 0
  | i + 1 => (if rd o i = rd g i then 0 else 1) + lag o g i
theorem lag_le (o g : List Int) : ∀ i, lag o g i ≤ i
  | 0 => Nat.le_refl _
  | i + 1 => by have := lag_le o g i; simp only [lag]; split <;> omega
theorem lag_zero (o g : List Int) : ∀ n, lag o g n = 0 → ∀ i, i < n → rd o i = rd g i
  | 0, _, i, h => by omega
  | n + 1, hz, i, h => by
    simp only [lag] at hz
    by_cases e : i = n
    · subst e
      by_cases c : rd o i = rd g i
      · exact c
      · rw [if_neg c] at hz; omega
    · exact lag_zero o g n (by omega) i (by omega)
theorem lag_mono (o o' g : List Int) (h : ∀ i : Nat, rd o i = rd g i → rd o' i = rd g i) : ∀ n, lag o' g n ≤ lag o g n
  | 0 => Nat.le_refl _
  | n + 1 => by
    have ih := lag_mono o o' g h n
    simp only [lag]
    by_cases c : rd o n = rd g n
    · rw [if_pos c, if_pos (h n c)]; omega
    · rw [if_neg c]; split <;> omega
theorem lag_lt (o o' g : List Int) (h : ∀ i : Nat, rd o i = rd g i → rd o' i = rd g i) (z : Nat) (hz : rd o z ≠ rd g z) (hz' : rd o' z = rd g z) : ∀ n, z < n → lag o' g n < lag o g n
  | 0, hn => by omega
  | n + 1, hn => by
    simp only [lag]
    by_cases e : z = n
    · subst e
      have := lag_mono o o' g h z
      rw [if_neg hz, if_pos hz']; omega
    · have ih := lag_lt o o' g h z hz hz' n (by omega)
      by_cases c : rd o n = rd g n
      · rw [if_pos c, if_pos (h n c)]; omega
      · rw [if_neg c]; split <;> omega
theorem mn_eq (a b : Int) : mn a b = if a ≤ b then a else b := by unfold mn; split <;> split <;> omega
theorem specOrb_sweep (t f : List Int) (n : Nat) (hn : n ≤ 12) (ht : inR n t) (hf : inR n f) (g : List Int) (hg : orbOk [t, f] n g) (round : Int) : ∀ (d i : Nat) (o : List Int), n - i = d → i ≤ n → orbI [t, f] n o →
    ∃ o', orbI [t, f] n o' ∧ (∀ r, Ev (fun k => spec_l1Orbits.l0 k t f o' (wrap64 (round + 1))) r → Ev (fun k => spec_l1Orbits.l1 k t f o round i) r) ∧ (∀ z : Nat, z < n → rd o z = rd g z → rd o' z = rd g z) ∧
      (∀ j : Nat, i ≤ j → j < n → (rd o j = rd g j ∨ rd o (rd t j) = rd g (rd t j) ∨ rd o (rd f j) = rd g (rd f j)) → rd o' j = rd g j ∧ rd o' (rd t j) = rd g (rd t j) ∧ rd o' (rd f j) = rd g (rd f j))
  | 0, i, o, hd, hi, ho => by
    refine ⟨o, ho, fun r h => Ev.s ?_, fun z _ h => h, fun j h1 h2 => by omega⟩
    simp only [spec_l1Orbits.l1, ht.1, show ¬ (i : Int) < (n : Int) by omega, if_false]
    exact h
  | d + 1, i, o, hd, hi, ho => by
    have hlt : i < n := by omega
    have hd1 : n - (i + 1) = d := by omega
    have hw : wrap64 ((i : Int) + 1) = ((i + 1 : Nat) : Int) := by rw [w64 (by omega) (by omega)]; omega
    have hps : ∀ p ∈ [t, f], inR n p := by intro p hp; simp at hp; rcases hp with rfl | rfl <;> assumption
    have hra := ht.2 i hlt
    have hrb := hf.2 i hlt
    have sta := Reach.step (ps := [t, f]) (p := t) (by simp) hlt
    have stb := Reach.step (ps := [t, f]) (p := f) (by simp) hlt
    have ca := hg.2 t (by simp) i hlt
    have cb := hg.2 f (by simp) i hlt
    obtain ⟨a, hta⟩ : ∃ a : Nat, rd t i = a := ⟨(rd t i).toNat, by omega⟩
    obtain ⟨b, hfb⟩ : ∃ b : Nat, rd f i = b := ⟨(rd f i).toNat, by omega⟩
    rw [hta, Int.toNat_natCast] at sta
    rw [hfb, Int.toNat_natCast] at stb
    rw [hta] at ca
    rw [hfb] at cb
    have han : a < n := by omega
    have hbn : b < n := by omega
    have hlen := ho.1
    obtain ⟨i0, i1, i2⟩ := ho.2 i hlt
    obtain ⟨a0, a1, a2⟩ := ho.2 a han
    obtain ⟨b0, b1, b2⟩ := ho.2 b hbn
    have li := orbOk_le hg ho hps hlt
    have la := orbOk_le hg ho hps han
    have lb := orbOk_le hg ho hps hbn
    obtain ⟨v, hv⟩ : ∃ v, mn (rd o i) (mn (rd o a) (rd o b)) = v := ⟨_, rfl⟩
    have hvm : v ≤ rd o i ∧ v ≤ rd o a ∧ v ≤ rd o b ∧ (v = rd o i ∨ v = rd o a ∨ v = rd o b) := by
      rw [← hv, mn_eq, mn_eq]
      split <;> split at * <;> omega
    have hv0 : 0 ≤ v := by omega
    have hrv : Reach [t, f] n v.toNat i := by
      rcases hvm.2.2.2 with e | e | e
      · rw [e]; exact i2
      · rw [e]; exact a2.trans sta.symm
      · rw [e]; exact b2.trans stb.symm
    have ho1 := orbI_put ho hlt hv0 (by omega) hrv
    have ho2 := orbI_put ho1 han hv0 (by omega) (hrv.trans sta)
    have ho3 := orbI_put ho2 hbn hv0 (by omega) (hrv.trans stb)
    obtain ⟨o3, ho3e⟩ : ∃ o3, ((o.set i v).set a v).set b v = o3 := ⟨_, rfl⟩
    rw [ho3e] at ho3
    have rdo3 : ∀ z : Nat, rd o3 z = if z = i ∨ z = a ∨ z = b then v else rd o z := by
      intro z
      rw [← ho3e]
      by_cases z3 : b = z
      · subst z3; rw [rd_set_self _ _ _ (by simp; omega)]; simp
      · rw [rd_set_ne _ _ _ _ z3]
        by_cases z2 : a = z
        · subst z2; rw [rd_set_self _ _ _ (by simp; omega)]; simp
        · rw [rd_set_ne _ _ _ _ z2]
          by_cases z1 : i = z
          · subst z1; rw [rd_set_self _ _ _ (by omega)]; simp
          · rw [rd_set_ne _ _ _ _ z1, if_neg (by omega)]
    have keep3 : ∀ z : Nat, z < n → rd o z = rd g z → rd o3 z = rd g z := by
      intro z hz e
      have l3 := orbOk_le hg ho3 hps hz
      rw [rdo3 z] at l3 ⊢
      by_cases c : z = i ∨ z = a ∨ z = b
      · rw [if_pos c] at l3 ⊢
        have : v ≤ rd o z := by rcases c with rfl | rfl | rfl <;> omega
        omega
      · rw [if_neg c]; exact e
    obtain ⟨o', c1, c2, c3, c4⟩ := specOrb_sweep t f n hn ht hf g hg round d (i + 1) o3 hd1 hlt ho3
    refine ⟨o', c1, fun r h => Ev.s ?_, fun z hz e => c3 z hz (keep3 z hz e), fun j h1 h2 hj => ?_⟩
    · have hgo := c2 r h
      have g1 : (i : Int) < (n : Int) := by omega
      have g2 : (0 : Int) ≤ (i : Int) := by omega
      have g3 : (0 : Int) ≤ (a : Int) := by omega
      have g4 : (a : Int) < (n : Int) := by omega
      have g5 : (0 : Int) ≤ (b : Int) := by omega
      have g6 : (b : Int) < (n : Int) := by omega
      simp only [spec_l1Orbits.l1, ht.1, hf.1, hlen, g1, g2, g3, g4, g5, g6, hta, hfb, hv, if_true, hw, Int.toNat_natCast, ho3e]
      exact hgo
    · by_cases e : j = i
      · subst e
        have l3 := orbOk_le hg ho3 hps hlt
        have e3 : rd o3 j = v := by rw [rdo3 j, if_pos (.inl rfl)]
        have ea3 : rd o3 a = v := by rw [rdo3 a, if_pos (.inr (.inl rfl))]
        have eb3 : rd o3 b = v := by rw [rdo3 b, if_pos (.inr (.inr rfl))]
        rw [hta, hfb] at hj ⊢
        have hvg : v = rd g j := by
          rcases hj with z | z | z <;> omega
        exact ⟨c3 j hlt (by omega), c3 a han (by omega), c3 b hbn (by omega)⟩
      · refine c4 j (by omega) h2 ?_
        have hta' := ht.2 j h2
        have hfb' := hf.2 j h2
        obtain ⟨a', ha'⟩ : ∃ a' : Nat, rd t j = a' := ⟨(rd t j).toNat, by omega⟩
        obtain ⟨b', hb'⟩ : ∃ b' : Nat, rd f j = b' := ⟨(rd f j).toNat, by omega⟩
        rw [ha', hb'] at hj ⊢
        rcases hj with z | z | z
        · exact .inl (keep3 j h2 z)
        · exact .inr (.inl (keep3 a' (by omega) z))
        · exact .inr (.inr (keep3 b' (by omega) z))
theorem specOrb_loop (t f : List Int) (n : Nat) (hn : n ≤ 12) (ht : inR n t) (hf : inR n f) (g : List Int) (hg : orbOk [t, f] n g) : ∀ (d i : Nat) (o : List Int), n - i = d → i ≤ n → orbI [t, f] n o → lag o g n ≤ d → Ev (fun k => spec_l1Orbits.l0 k t f o i) g
  | 0, i, o, hd, hi, ho, hl => by
    refine Ev.s ?_
    simp only [spec_l1Orbits.l0, ht.1, show ¬ (i : Int) < (n : Int) by omega, if_false]
    have : o = g := list_ext o g (ho.1.trans hg.1.1.symm) fun z hz => lag_zero o g n (by omega) z (by rw [← ho.1]; exact hz)
    exact Ev.const (by rw [this])
  | d + 1, i, o, hd, hi, ho, hl => by
    have hlt : i < n := by omega
    have hd1 : n - (i + 1) = d := by omega
    have hw : wrap64 ((i : Int) + 1) = ((i + 1 : Nat) : Int) := by rw [w64 (by omega) (by omega)]; omega
    have hps : ∀ p ∈ [t, f], inR n p := by intro p hp; simp at hp; rcases hp with rfl | rfl <;> assumption
    obtain ⟨o', c1, c2, c3, c4⟩ := specOrb_sweep t f n hn ht hf g hg i n 0 o (by omega) (by omega) ho
    refine Ev.s ?_
    simp only [spec_l1Orbits.l0, ht.1, show (i : Int) < (n : Int) by omega, if_true]
    refine c2 g ?_
    rw [hw]
    refine specOrb_loop t f n hn ht hf g hg d (i + 1) o' hd1 hlt c1 ?_
    have hout : ∀ z : Nat, ¬ z < n → rd o z = rd o' z := by
      intro z hz
      unfold rd
      rw [Int.toNat_natCast, List.getD_eq_getElem?_getD, List.getD_eq_getElem?_getD, List.getElem?_eq_none (by rw [ho.1]; omega), List.getElem?_eq_none (by rw [c1.1]; omega)]
    have keep : ∀ z : Nat, rd o z = rd g z → rd o' z = rd g z := fun z e => by
      by_cases hz : z < n
      · exact c3 z hz e
      · rw [← hout z hz]; exact e
    by_cases hz : lag o g n = 0
    · have := lag_mono o o' g keep n
      omega
    · -- some point has not its label: some step leads from one that has it to one that has it not
      have hex : ∃ z : Nat, z < n ∧ rd o z ≠ rd g z ∧ rd o' z = rd g z := by
        refine Classical.byContradiction fun hno => ?_
        have hsame : ∀ z : Nat, z < n → (rd o z = rd g z ↔ rd o' z = rd g z) := fun z hz => ⟨keep z, fun e => Classical.byContradiction fun hne => hno ⟨z, hz, hne, e⟩⟩
        have hcl : closedL [t, f] n (fun z => rd o z = rd g z) := by
          intro p hp k hk
          have hr := (hps p hp).2 k hk
          obtain ⟨a, ha⟩ : ∃ a : Nat, rd p k = a := ⟨(rd p k).toNat, by omega⟩
          have han : a < n := by omega
          rw [ha, Int.toNat_natCast]
          show rd o k = rd g k ↔ rd o a = rd g a
          have h4 := c4 k (by omega) hk
          simp at hp
          rcases hp with rfl | rfl
          · rw [ha] at h4
            exact ⟨fun e => (hsame a han).2 (h4 (.inl e)).2.1, fun e => (hsame k hk).2 (h4 (.inr (.inl e))).1⟩
          · rw [ha] at h4
            exact ⟨fun e => (hsame a han).2 (h4 (.inl e)).2.2, fun e => (hsame k hk).2 (h4 (.inr (.inr e))).1⟩
        have hall : ∀ z : Nat, z < n → rd o z = rd g z := by
          intro z hz
          obtain ⟨g0, g1, g2⟩ := hg.1.2 z hz
          have hm : (rd g z).toNat < n := by omega
          have e1 : ((rd g z).toNat : Int) = rd g z := by omega
          have hgm : rd g ((rd g z).toNat : Nat) = rd g z := orbOk_const hg hps g2
          have hom : rd o ((rd g z).toNat : Nat) = rd g ((rd g z).toNat : Nat) := by
            have h1 := orbOk_le hg ho hps hm
            have h2 := (ho.2 _ hm).2.1
            omega
          exact (g2 _ hcl).1 hom
        have : lag o g n = 0 := by
          have hz0 : ∀ m, m ≤ n → lag o g m = 0 := by
            intro m
            induction m with
            | zero => intro _; rfl
            | succ m ih => intro hm; simp only [lag]; rw [if_pos (hall m (by omega)), ih (by omega)]
          exact hz0 n (Nat.le_refl _)
        exact hz this
      obtain ⟨z, z1, z2, z3⟩ := hex
      have := lag_lt o o' g keep z z2 z3 n z1
      omega
theorem orb_both (t f : List Int) (n : Nat) (hn : n ≤ 12) (h1 : 1 ≤ n) (ht : inR n t) (hf : inR n f) : ∃ o, orbOk [t, f] n o ∧ Ev (fun k => spec_l1Orbits.f k t f) o ∧ Ev (fun k => impl_orbits.f k [t, f]) o := by
  have hps : ∀ p ∈ [t, f], inR n p := by intro p hp; simp at hp; rcases hp with rfl | rfl <;> assumption
  obtain ⟨o, ho, he⟩ := implOrb_ev [t, f] n hn (by simp) (by simp) hps
  refine ⟨o, ho, ?_, he⟩
  unfold spec_l1Orbits.f
  rw [ht.1]
  refine Ev.bind (same_ev n (by omega)) ?_
  refine specOrb_loop t f n hn ht hf o ho n 0 (stl n) (by omega) (by omega) (stl_orbI _ n) ?_
  exact lag_le _ _ n
theorem isPerm_inR (l : List Int) (h : isPerm l) : inR l.length l := ⟨rfl, fun i hi => ⟨(h.2.2 i hi).1, (h.2.2 i hi).2.1⟩⟩
end Go.Proofs.Ytcjmgkbbmahgcaa.PC

set_option linter.unusedVariables false
set_option linter.unusedSimpArgs false
namespace Go.Proofs.Ytcjmgkbbmahgcaa.PC
open Go.RowKit Go.Proofs.YtcjmgkbbmahgcaaW.PrintWords Go.Proofs.YtcjmgkbbmahgcaaW.PrintLast Go.Proofs.YtcjmgkbbmahgcaaW.PrintMore
def flipAt (f : List Int) (i : Nat) : Prop := rd f i ≠ i ∧ rd f (rd f i) = i
def isMap (t f : List Int) : Prop := isPerm t ∧ isPerm f ∧ t.length = f.length ∧ (∀ i : Nat, i < f.length → flipAt f i) ∧ ∀ i j : Nat, i < f.length → j < f.length → Reach [t, f] f.length i j
def maxF : List Int → Int → Int
  | [], m => m
  | x :: xs, m => maxF xs (mx m x)
theorem maxF_zero : ∀ (l : List Int) (m : Int), 0 ≤ m → (∀ x ∈ l, 0 ≤ x) → 0 ≤ maxF l m ∧ (maxF l m = 0 ↔ m = 0 ∧ ∀ x ∈ l, x = 0)
  | [], m, hm, _ => by simp [maxF, hm]
  | x :: xs, m, hm, hx => by
    have hx0 := hx x (by simp)
    have hmx : 0 ≤ mx m x ∧ (mx m x = 0 ↔ m = 0 ∧ x = 0) := by unfold mx; split <;> omega
    obtain ⟨h1, h2⟩ := maxF_zero xs (mx m x) hmx.1 fun y hy => hx y (by simp [hy])
    refine ⟨h1, ?_⟩
    simp only [maxF, h2, hmx.2, List.mem_cons, forall_eq_or_imp, and_assoc]
theorem max_run (l : List Int) (hl : l.length ≤ 1048576) : ∀ (d i : Nat) (m : Int), l.length - i = d → i ≤ l.length → Ev (fun k => slices_Max_int_int.l0 k l m i) (maxF (l.drop i) m)
  | 0, i, m, hd, hi => by
    refine Ev.s ?_
    simp only [slices_Max_int_int.l0, show ¬ (i : Int) < (l.length : Int) by omega, if_false]
    rw [List.drop_eq_nil_of_le (by omega)]
    exact Ev.const rfl
  | d + 1, i, m, hd, hi => by
    have hlt : i < l.length := by omega
    refine Ev.s ?_
    simp only [slices_Max_int_int.l0, show (i : Int) < (l.length : Int) by omega, show (0 : Int) ≤ (i : Int) by omega, if_true]
    rw [w64 (x := (i : Int) + 1) (by omega) (by omega), show ((i : Int) + 1) = ((i + 1 : Nat) : Int) by omega, List.drop_eq_getElem_cons hlt, rd_lt l i hlt]
    exact max_run l hl d (i + 1) _ (by omega) (by omega)
theorem max_ev (l : List Int) (hl : l.length ≤ 1048576) (h1 : 1 ≤ l.length) (h0 : ∀ x ∈ l, 0 ≤ x) : ∃ m, Ev (fun k => slices_Max_int_int.f k l) m ∧ (m = 0 ↔ ∀ x ∈ l, x = 0) := by
  cases l with
  | nil => simp at h1
  | cons x xs =>
    refine ⟨maxF xs x, ?_, ?_⟩
    · unfold slices_Max_int_int.f
      simp only [show ¬ (((x :: xs).length : Nat) : Int) < 1 by omega, show (0 : Int) < (((x :: xs).length : Nat) : Int) by omega, if_true, if_false]
      exact max_run (x :: xs) hl _ 1 x rfl h1
    · rw [(maxF_zero xs x (h0 x (by simp)) fun y hy => h0 y (by simp [hy])).2]
      simp
theorem specFlip_run (t f : List Int) (hf : isPerm f) : ∀ (d i : Nat), f.length - i = d → i ≤ f.length →
    ((∀ q : Nat, i ≤ q → q < f.length → flipAt f q) → ∀ r, Ev (fun k => (spec_l1Orbits.f k t f).bind fun o => spec_MapValid.l1 k o 0) r → Ev (fun k => spec_MapValid.l0 k i t f) r) ∧ (¬ (∀ q : Nat, i ≤ q → q < f.length → flipAt f q) → Ev (fun k => spec_MapValid.l0 k i t f) false)
  | 0, i, hd, hi => by
    refine ⟨fun _ r h => Ev.s ?_, fun h => absurd (fun q h1 h2 => by omega) h⟩
    simp only [spec_MapValid.l0, show ¬ (i : Int) < (f.length : Int) by omega, if_false]
    exact h
  | d + 1, i, hd, hi => by
    have hlt : i < f.length := by omega
    have hl12 := hf.2.1
    have hr := (isPerm_inR f hf).2 i hlt
    have ih := specFlip_run t f hf d (i + 1) (by omega) (by omega)
    have hw : wrap64 ((i : Int) + 1) = ((i + 1 : Nat) : Int) := by rw [w64 (by omega) (by omega)]; omega
    have g1 : (i : Int) < (f.length : Int) := by omega
    have g2 : (0 : Int) ≤ (i : Int) := by omega
    by_cases c1 : rd f i = i
    · refine ⟨fun h => absurd c1 (h i (Nat.le_refl _) hlt).1, fun h => Ev.s ?_⟩
      simp only [spec_MapValid.l0, g1, g2, c1, if_true]
      exact Ev.const rfl
    · by_cases c2 : rd f (rd f i) = i
      · refine ⟨fun h r hr' => Ev.s ?_, fun h => Ev.s ?_⟩
        · simp only [spec_MapValid.l0, g1, g2, c1, c2, hr.1, hr.2, if_true, if_false, hw]
          exact ih.1 (fun q h1 h2 => h q (by omega) h2) r hr'
        · simp only [spec_MapValid.l0, g1, g2, c1, c2, hr.1, hr.2, if_true, if_false, hw]
          refine ih.2 fun h' => h fun q h1 h2 => ?_
          by_cases e : q = i
          · rw [e]; exact ⟨c1, c2⟩
          · exact h' q (by omega) h2
      · refine ⟨fun h => absurd (h i (Nat.le_refl _) hlt).2 c2, fun h => Ev.s ?_⟩
        simp only [spec_MapValid.l0, g1, g2, c1, c2, hr.1, hr.2, if_true, if_false]
        exact Ev.const rfl
theorem implFlip_run (t f : List Int) (hf : isPerm f) : ∀ (d i : Nat), f.length - i = d → i ≤ f.length →
    ((∀ q : Nat, i ≤ q → q < f.length → flipAt f q) → ∀ r, Ev (fun k => (impl_orbits.f k [t, f]).bind fun o => (slices_Max_int_int.f k o).bind fun m => some (m == 0)) r → Ev (fun k => impl_MapValid.l0 k f f.length i t f) r) ∧ (¬ (∀ q : Nat, i ≤ q → q < f.length → flipAt f q) → Ev (fun k => impl_MapValid.l0 k f f.length i t f) false)
  | 0, i, hd, hi => by
    refine ⟨fun _ r h => Ev.s ?_, fun h => absurd (fun q h1 h2 => by omega) h⟩
    simp only [impl_MapValid.l0, show ¬ (i : Int) < (f.length : Int) by omega, if_false]
    exact h
  | d + 1, i, hd, hi => by
    have hlt : i < f.length := by omega
    have hl12 := hf.2.1
    have hr := (isPerm_inR f hf).2 i hlt
    have ih := implFlip_run t f hf d (i + 1) (by omega) (by omega)
    have hw : wrap64 ((i : Int) + 1) = ((i + 1 : Nat) : Int) := by rw [w64 (by omega) (by omega)]; omega
    have g1 : (i : Int) < (f.length : Int) := by omega
    have g2 : (0 : Int) ≤ (i : Int) := by omega
    by_cases c1 : rd f i = i
    · refine ⟨fun h => absurd c1 (h i (Nat.le_refl _) hlt).1, fun h => Ev.s ?_⟩
      simp only [impl_MapValid.l0, g1, g2, c1, if_true]
      exact Ev.const rfl
    · by_cases c2 : rd f (rd f i) = i
      · refine ⟨fun h r hr' => Ev.s ?_, fun h => Ev.s ?_⟩
        · simp only [impl_MapValid.l0, g1, g2, c1, c2, hr.1, hr.2, if_true, if_false, hw]
          exact ih.1 (fun q h1 h2 => h q (by omega) h2) r hr'
        · simp only [impl_MapValid.l0, g1, g2, c1, c2, hr.1, hr.2, if_true, if_false, hw]
          refine ih.2 fun h' => h fun q h1 h2 => ?_
          by_cases e : q = i
          · rw [e]; exact ⟨c1, c2⟩
          · exact h' q (by omega) h2
      · refine ⟨fun h => absurd (h i (Nat.le_refl _) hlt).2 c2, fun h => Ev.s ?_⟩
        simp only [impl_MapValid.l0, g1, g2, c1, c2, hr.1, hr.2, if_true, if_false]
        exact Ev.const rfl
theorem zero_run (o : List Int) (hl : o.length ≤ 1048576) : ∀ (d i : Nat), o.length - i = d → i ≤ o.length →
    ((∀ q : Nat, i ≤ q → q < o.length → rd o q = 0) → Ev (fun k => spec_MapValid.l1 k o i) true) ∧ (¬ (∀ q : Nat, i ≤ q → q < o.length → rd o q = 0) → Ev (fun k => spec_MapValid.l1 k o i) false)
  | 0, i, hd, hi => by
    refine ⟨fun _ => Ev.s ?_, fun h => absurd (fun q h1 h2 => by omega) h⟩
    simp only [spec_MapValid.l1, show ¬ (i : Int) < (o.length : Int) by omega, if_false]
    exact Ev.const rfl
  | d + 1, i, hd, hi => by
    have hlt : i < o.length := by omega
    have ih := zero_run o hl d (i + 1) (by omega) (by omega)
    have hw : wrap64 ((i : Int) + 1) = ((i + 1 : Nat) : Int) := by rw [w64 (by omega) (by omega)]; omega
    have g1 : (i : Int) < (o.length : Int) := by omega
    have g2 : (0 : Int) ≤ (i : Int) := by omega
    by_cases c : rd o i = 0
    · refine ⟨fun h => Ev.s ?_, fun h => Ev.s ?_⟩
      · simp only [spec_MapValid.l1, g1, g2, c, if_true, hw]
        exact ih.1 fun q h1 h2 => h q (by omega) h2
      · simp only [spec_MapValid.l1, g1, g2, c, if_true, hw]
        refine ih.2 fun h' => h fun q h1 h2 => ?_
        by_cases e : q = i
        · rw [e]; exact c
        · exact h' q (by omega) h2
    · refine ⟨fun h => absurd (h i (Nat.le_refl _) hlt) c, fun h => Ev.s ?_⟩
      simp only [spec_MapValid.l1, g1, g2, c, if_true, if_false]
      exact Ev.const rfl
theorem orb_zero (t f : List Int) (n : Nat) (h1 : 1 ≤ n) (ht : inR n t) (hf : inR n f) (o : List Int) (ho : orbOk [t, f] n o) : (∀ q : Nat, q < n → rd o q = 0) ↔ ∀ i j : Nat, i < n → j < n → Reach [t, f] n i j := by
  have hps : ∀ p ∈ [t, f], inR n p := by intro p hp; simp at hp; rcases hp with rfl | rfl <;> assumption
  constructor
  · intro h i j hi hj
    have e1 := (ho.1.2 i hi).2.2
    have e2 := (ho.1.2 j hj).2.2
    rw [h i hi] at e1
    rw [h j hj] at e2
    exact e1.symm.trans e2
  · intro h q hq
    have := orbOk_const ho hps (h q 0 hq (by omega))
    have h0 := ho.1.2 0 (by omega)
    omega
theorem mapValid_both (t f : List Int) (ht : t.length ≤ 1048576) (hf : f.length ≤ 1048576) : ∃ b : Bool, Ev (fun k => spec_MapValid.f k t f) b ∧ Ev (fun k => impl_MapValid.f k t f) b ∧ (b = true ↔ isMap t f) := by
  obtain ⟨bt, t1, t2, t3⟩ := permValid_both t ht
  obtain ⟨bf, f1, f2, f3⟩ := permValid_both f hf
  have hb : ∀ b : Bool, (∃ c : Bool, Ev (fun k => spec_l1Both.f k t f) c ∧ (c = true ↔ isPerm t ∧ isPerm f ∧ t.length = f.length)) := fun _ => by
    unfold spec_l1Both.f
    cases bt with
    | false => exact ⟨false, Ev.bind t1 (Ev.const rfl), ⟨fun h => (by cases h), fun h => absurd (t3.2 h.1) (by decide)⟩⟩
    | true =>
      cases bf with
      | false => exact ⟨false, Ev.bind t1 (by simp only [if_true]; exact Ev.bind f1 (Ev.const rfl)), ⟨fun h => (by cases h), fun h => absurd (f3.2 h.2.1) (by decide)⟩⟩
      | true => exact ⟨((t.length : Int) == (f.length : Int)), Ev.bind t1 (by simp only [if_true]; exact Ev.bind f1 (Ev.const rfl)), ⟨fun h => ⟨t3.1 rfl, f3.1 rfl, by have := beq_iff_eq.1 h; omega⟩, fun h => by rw [beq_iff_eq]; omega⟩⟩
  obtain ⟨c, c1, c2⟩ := hb true
  by_cases hall : isPerm t ∧ isPerm f ∧ t.length = f.length
  · obtain ⟨pt, pf, hlen⟩ := hall
    have hc : c = true := c2.2 ⟨pt, pf, hlen⟩
    subst hc
    have hbt : bt = true := t3.2 pt
    have hbf : bf = true := f3.2 pf
    subst hbt; subst hbf
    have hne : (((t.length : Int)) != (f.length : Int)) = false := by rw [bne_eq_false_iff_eq]; omega
    have hrt : inR f.length t := by have := isPerm_inR t pt; rwa [hlen] at this
    have hrf := isPerm_inR f pf
    obtain ⟨o, o1, o2, o3⟩ := orb_both t f f.length pf.2.1 pf.1 hrt hrf
    have hS : ∀ r, Ev (fun k => spec_MapValid.l0 k 0 t f) r → Ev (fun k => spec_MapValid.f k t f) r := fun r h => by
      unfold spec_MapValid.f
      refine Ev.bind c1 ?_
      simp only [if_true]
      exact h
    have hI : ∀ r, Ev (fun k => impl_MapValid.l0 k f f.length 0 t f) r → Ev (fun k => impl_MapValid.f k t f) r := fun r h => by
      unfold impl_MapValid.f
      refine Ev.bind t2 ?_
      simp only [if_true]
      refine Ev.bind f2 ?_
      simp only [if_true, hne]
      refine Ev.s ?_
      simp only [impl_MapValid.j0, Bool.false_eq_true, if_false]
      exact h
    have sF := specFlip_run t f pf f.length 0 (by omega) (by omega)
    have iF := implFlip_run t f pf f.length 0 (by omega) (by omega)
    by_cases hfl : ∀ q : Nat, 0 ≤ q → q < f.length → flipAt f q
    · have zr := zero_run o (by rw [o1.1.1]; omega) o.length 0 (by omega) (by omega)
      have oz := orb_zero t f f.length pf.1 hrt hrf o o1
      obtain ⟨m, m1, m2⟩ := max_ev o (by rw [o1.1.1]; omega) (by rw [o1.1.1]; exact pf.1) (fun x hx => by
        obtain ⟨i, hi, rfl⟩ := List.mem_iff_getElem.1 hx
        have := (o1.1.2 i (by rw [← o1.1.1]; exact hi)).1
        rwa [rd_lt o i hi] at this)
      have hmz : m = 0 ↔ ∀ q : Nat, 0 ≤ q → q < o.length → rd o q = 0 := by
        rw [m2]
        constructor
        · intro h q _ hq
          rw [rd_lt o q hq]
          exact h _ (List.getElem_mem hq)
        · intro h x hx
          obtain ⟨i, hi, rfl⟩ := List.mem_iff_getElem.1 hx
          have := h i (by omega) hi
          rwa [rd_lt o i hi] at this
      by_cases hz : ∀ q : Nat, 0 ≤ q → q < o.length → rd o q = 0
      · refine ⟨true, hS _ (sF.1 hfl _ (Ev.bind o2 (zr.1 hz))), hI _ (iF.1 hfl _ (Ev.bind o3 (Ev.bind m1 (Ev.const ?_)))), ?_⟩
        · rw [hmz.2 hz]; rfl
        · refine ⟨fun _ => ⟨pt, pf, hlen, fun i hi => hfl i (by omega) hi, oz.1 fun q hq => hz q (by omega) (by rw [o1.1.1]; exact hq)⟩, fun _ => rfl⟩
      · refine ⟨false, hS _ (sF.1 hfl _ (Ev.bind o2 (zr.2 hz))), hI _ (iF.1 hfl _ (Ev.bind o3 (Ev.bind m1 (Ev.const ?_)))), ?_⟩
        · have : ¬ m = 0 := fun e => hz (hmz.1 e)
          simp [this]
        · exact ⟨fun h => (by cases h), fun h => absurd (fun q _ hq => oz.2 h.2.2.2.2 q (by rw [← o1.1.1]; exact hq)) hz⟩
    · exact ⟨false, hS _ (sF.2 hfl), hI _ (iF.2 hfl), ⟨fun h => (by cases h), fun h => absurd (fun q _ hq => h.2.2.2.1 q hq) hfl⟩⟩
  · have hc : c = false := by
      cases c with
      | false => rfl
      | true => exact absurd (c2.1 rfl) hall
    subst hc
    refine ⟨false, ?_, ?_, ⟨fun h => (by cases h), fun h => absurd ⟨h.1, h.2.1, h.2.2.1⟩ hall⟩⟩
    · unfold spec_MapValid.f
      exact Ev.bind c1 (Ev.const rfl)
    · have hj : Ev (fun k => impl_MapValid.j0 k true t f) false := by
        refine Ev.s ?_
        simp only [impl_MapValid.j0, if_true]
        exact Ev.const rfl
      unfold impl_MapValid.f
      refine Ev.bind t2 ?_
      cases bt with
      | false => simp only [Bool.false_eq_true, if_false]; exact hj
      | true =>
        simp only [if_true]
        refine Ev.bind f2 ?_
        cases bf with
        | false => simp only [Bool.false_eq_true, if_false]; exact hj
        | true =>
          have hne : (((t.length : Int)) != (f.length : Int)) = true := by
            rw [bne_iff_ne]
            intro e
            exact hall ⟨t3.1 rfl, f3.1 rfl, by omega⟩
          simp only [if_true, hne]
          exact hj
end Go.Proofs.Ytcjmgkbbmahgcaa.PC
