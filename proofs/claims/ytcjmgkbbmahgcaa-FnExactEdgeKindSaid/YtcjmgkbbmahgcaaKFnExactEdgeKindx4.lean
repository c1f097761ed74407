/- For every map and number, EdgeKind of the program answers what EdgeKind of the reference answers, and leaves the map as it was. There are no conditions. -/
import Derived.Test.YtcjmgkbbmahgcaaKFnExactEdgeKindx3
namespace Go.Proofs.Ytcjmgkbbmahgcaa.PC
open Go.RowKit Go.Proofs.YtcjmgkbbmahgcaaW.PrintWords Go.Proofs.YtcjmgkbbmahgcaaW.PrintLast Go.Proofs.YtcjmgkbbmahgcaaW.PrintMore
attribute [local go_sem] max2_int min2_int max_two min_two max_three min_three max_four min_four   -- for this text's walks alone
set_option linter.unusedVariables false
set_option linter.unusedSimpArgs false
mutual
def impl_ribbon.l0 : Nat → List Int → Int → List Int → List Int → Int → Int → List Int → List Int → List Bool → Option (List Int)
 | 0, _, _, _, _, _, _, _, _, _ => none
 | k + 1, x1, x5, x7, x30, x31, x32, x320000, x320001, x324000 => if x32 < x31 then (if 0 ≤ x32 then (if x32 < (x30.length : Int) then ((impl_edgesOf.f k x320000 x320001).bind fun t328 => (if 0 ≤ (rd x30 x32) then (if (rd x30 x32) < (t328.length : Int) then (if 0 ≤ (rd t328 (rd x30 x32)) then (if (rd t328 (rd x30 x32)) < (x320001.length : Int) then (if (rd t328 (rd x30 x32)) < (x324000.length : Int) then (if 0 ≤ (rd x320001 (rd t328 (rd x30 x32))) then (if (rd x320001 (rd t328 (rd x30 x32))) < (x324000.length : Int) then (if (rd t328 (rd x30 x32)) < (x7.length : Int) then (if (rd x320001 (rd t328 (rd x30 x32))) < (x7.length : Int) then (impl_ribbon.l0 k x1 x5 ((x7.set ((rd t328 (rd x30 x32)) : Int).toNat (rd x320001 (rd t328 (rd x30 x32)))).set ((rd x320001 (rd t328 (rd x30 x32))) : Int).toNat (rd t328 (rd x30 x32))) x30 x31 (wrap64 (x32 + 1)) x320000 x320001 ((x324000.set ((rd t328 (rd x30 x32)) : Int).toNat true).set ((rd x320001 (rd t328 (rd x30 x32))) : Int).toNat true)) else (none)) else (none)) else (none)) else (none)) else (none)) else (none)) else (none)) else (none)) else (none))) else (none)) else (none)) else ((impl_orbits.f k (([x320000, x7] : List (List Int)))).bind fun t340 => (impl_ribbon.l1 k x1 x5 x7 0 t340 (t340.length : Int) 0 x320000 x320001 x324000))
def impl_ribbon.l1 : Nat → List Int → Int → List Int → Int → List Int → Int → Int → List Int → List Int → List Bool → Option (List Int)
 | 0, _, _, _, _, _, _, _, _, _, _ => none
 | k + 1, x1, x5, x7, x12, x65, x66, x67, x320000, x320001, x324000 => if x67 < x66 then (if 0 ≤ x67 then (if x67 < (x65.length : Int) then (if x67 = (rd x65 x67) then (impl_ribbon.l1 k x1 x5 x7 (wrap64 (x12 + 1)) x65 x66 (wrap64 (x67 + 1)) x320000 x320001 x324000) else (impl_ribbon.l1 k x1 x5 x7 x12 x65 x66 (wrap64 (x67 + 1)) x320000 x320001 x324000)) else (none)) else (none)) else ((impl_cyclesOf.f k x320000).bind fun t344 => (impl_ribbon.l2 k x1 x5 x7 x12 0 t344 (t344.length : Int) 0 x320000 x320001 x324000))
def impl_ribbon.l2 : Nat → List Int → Int → List Int → Int → Int → List (List Int) → Int → Int → List Int → List Int → List Bool → Option (List Int)
 | 0, _, _, _, _, _, _, _, _, _, _, _ => none
 | k + 1, x1, x5, x7, x12, x15, x80, x81, x82, x320000, x320001, x324000 => if x82 < x81 then (if 0 ≤ x82 then (if x82 < (x80.length : Int) then ((containsF.f k (rd_L1 x80 x82) x324000).bind fun t348 => (if t348 = true then (impl_ribbon.l2 k x1 x5 x7 x12 x15 x80 x81 (wrap64 (x82 + 1)) x320000 x320001 x324000) else (impl_ribbon.l2 k x1 x5 x7 x12 (wrap64 (x15 + 1)) x80 x81 (wrap64 (x82 + 1)) x320000 x320001 x324000))) else (none)) else (none)) else (if 0 ≤ x5 then (if (x5 : Int).toNat ≤ 281474976710656 then (impl_ribbon.l3 k x1 x7 x12 x15 (List.replicate (x5 : Int).toNat false) x5 0 x320000 x320001 x324000) else (none)) else (none))
def impl_ribbon.l3 : Nat → List Int → List Int → Int → Int → List Bool → Int → Int → List Int → List Int → List Bool → Option (List Int)
 | 0, _, _, _, _, _, _, _, _, _, _ => none
 | k + 1, x1, x7, x12, x15, x18, x95, x96, x320000, x320001, x324000 => if x96 < x95 then (if 0 ≤ x96 then (if x96 < (x324000.length : Int) then (if rdOf false x324000 x96 = true then (if x96 < (x18.length : Int) then (impl_ribbon.j4 k x1 x7 x12 x15 x18 x96 x95 x96 (rdOf false x18 x96) x320000 x320001 x324000) else (none)) else (impl_ribbon.j4 k x1 x7 x12 x15 x18 x96 x95 x96 true x320000 x320001 x324000)) else (none)) else (none)) else ((impl_cyclesOf.f k x320000).bind fun t352 => (some (([x12, x15, wrap64 ((t352.length : Int) - x12), wrap64 ((x1.length : Int) - (wrap64 ((t352.length : Int) - x12))), wrap64 (Int.tdiv (wrap64 ((wrap64 ((wrap64 ((wrap64 (2 * x12)) - (t352.length : Int))) + (x1.length : Int))) - x15)) 2)] : List Int))))
def impl_ribbon.j4 : Nat → List Int → List Int → Int → Int → List Bool → Int → Int → Int → Bool → List Int → List Int → List Bool → Option (List Int)
 | 0, _, _, _, _, _, _, _, _, _, _, _, _ => none
 | k + 1, x1, x7, x12, x15, x18, x19, x95, x96, x109, x320000, x320001, x324000 => if x109 = true then (impl_ribbon.l3 k x1 x7 x12 x15 x18 x95 (wrap64 (x96 + 1)) x320000 x320001 x324000) else (impl_ribbon.l4 k x1 x7 x12 (wrap64 (x15 + 1)) x18 x19 x95 x96 x320000 x320001 x324000)
def impl_ribbon.l4 : Nat → List Int → List Int → Int → Int → List Bool → Int → Int → Int → List Int → List Int → List Bool → Option (List Int)
 | 0, _, _, _, _, _, _, _, _, _, _, _ => none
 | k + 1, x1, x7, x12, x15, x18, x20, x95, x96, x320000, x320001, x324000 => if 0 ≤ x20 then (if x20 < (x18.length : Int) then (if rdOf false x18 x20 = true then (impl_ribbon.l3 k x1 x7 x12 x15 x18 x95 (wrap64 (x96 + 1)) x320000 x320001 x324000) else (if x20 < (x7.length : Int) then (if 0 ≤ (rd x7 x20) then (if (rd x7 x20) < (x320000.length : Int) then (impl_ribbon.l5 k x1 x7 x12 x15 (x18.set (x20 : Int).toNat true) (rd x320000 (rd x7 x20)) x95 x96 x320000 x320001 x324000) else (none)) else (none)) else (none))) else (none)) else (none)
def impl_ribbon.l5 : Nat → List Int → List Int → Int → Int → List Bool → Int → Int → Int → List Int → List Int → List Bool → Option (List Int)
 | 0, _, _, _, _, _, _, _, _, _, _, _ => none
 | k + 1, x1, x7, x12, x15, x18, x20, x95, x96, x320000, x320001, x324000 => if 0 ≤ x20 then (if x20 < (x324000.length : Int) then (if rdOf false x324000 x20 = true then (impl_ribbon.l4 k x1 x7 x12 x15 x18 x20 x95 x96 x320000 x320001 x324000) else (if x20 < (x320000.length : Int) then (impl_ribbon.l5 k x1 x7 x12 x15 x18 (rd x320000 x20) x95 x96 x320000 x320001 x324000) else (none))) else (none)) else (none)
end
def impl_ribbon.f (k : Nat) (l0_0 : List Int) (l0_1 : List Int) (l1 : List Int) : Option (List Int) := if 0 ≤ (l0_0.length : Int) then (if ((l0_0.length : Int) : Int).toNat ≤ 281474976710656 then ((impl_still.f k (l0_0.length : Int)).bind fun t324 => (impl_ribbon.l0 k l1 (l0_0.length : Int) t324 l1 (l1.length : Int) 0 l0_0 l0_1 (List.replicate ((l0_0.length : Int) : Int).toNat false))) else (none)) else (none)
def impl_ribbon.T9 : Bool × List (List Nat × List Nat) := (true, [([], []), ([], []), ([], []), ([], []), ([0, 1, 0, 1], [0, 1]), ([4, 0, 1], [4]), ([2, 3, 0, 1, 2, 3, 4, 5], [2, 3]), ([6, 5, 0, 1, 2, 3, 4, 5], [6])])
def impl_ribbon.B9 : List Nat := [0, 0, 0, 0, 3, 19, 63, 127]
theorem impl_ribbon.tab9 : rtab .any (opsOf Try.f66 9) = impl_ribbon.T9 := by kernel_rfl
theorem impl_ribbon.bits9 : waitsOk impl_ribbon.T9.2 impl_ribbon.B9 = true := by kernel_rfl
def impl_ribbon.T35 : Bool × List (List Nat × List Nat) := (true, [([], []), ([0], [0]), ([], []), ([], []), ([2, 3], [2, 3]), ([4], [4]), ([1, 5], [1, 5]), ([6], [6]), ([7, 0, 1, 2, 3, 4, 5, 6, 7], [3, 7])])
def impl_ribbon.B35 : List Nat := [0, 1, 0, 0, 12, 28, 63, 127, 255]
theorem impl_ribbon.tab35 : rtab .any (opsOf Try.f66 35) = impl_ribbon.T35 := by kernel_rfl
theorem impl_ribbon.bits35 : waitsOk impl_ribbon.T35.2 impl_ribbon.B35 = true := by kernel_rfl
set_option maxHeartbeats 8000000 in
set_option maxRecDepth 100000 in
theorem impl_ribbon.calls (k : Nat) (P0_0_ : Nat → Prop) (A0_0 : Option Addr) (c0_0 : Nat) (l0_0 : List Int) (A0_1 : Option Addr) (c0_1 : Nat) (l0_1 : List Int) (A1 : Option Addr) (c1 : Nat) (l1 : List Int) (r : List Int) (w : World) (hs0_0 : Kd.V (Kd.int .i64) 3 w w.heap.size (fun k_ => P0_0_ k_) (.slice A0_0 l0_0.length c0_0) l0_0) (hr0_1 : Kd.C (Kd.int .i64) w A0_1 l0_1.length l0_1) (hc0_1 : l0_1.length ≤ c0_1) (hr1 : Kd.C (Kd.int .i64) w A1 l1.length l1) (hc1 : l1.length ≤ c1) (h : impl_ribbon.f k l0_0 l0_1 l1 = some r) :
  Calls Try.prog 66 #[.agg #[.slice A0_0 l0_0.length c0_0, .slice A0_1 l0_1.length c0_1], .slice A1 l1.length c1] w fun e w' => ∃ v0_ : Value, e = .returned (v0_) ∧ Kd.R (Kd.int .i64) 3 w' w.heap.size (fun k_ => (w.heap.size ≤ k_)) v0_ r ∧ Below w.heap.size w w' := by
 have hu27 := Try.underlying27
 have HO0_0 := Aside0.mk (show Kd.V (Kd.int .i64) 3 w w.heap.size (fun k_ => (P0_0_ k_ ∨ w.heap.size ≤ k_)) (.slice A0_0 l0_0.length c0_0) l0_0 from Kd.V_mono hs0_0 (fun k_ hk => .inl hk))
 have HR0_1 := Aside0.mk hr0_1
 have HC0_1 := Aside0.mk hc0_1
 clear hr0_1 hc0_1
 have HR1 := Aside0.mk hr1
 have HC1 := Aside0.mk hc1
 clear hr1 hc1
 have HB := Aside0.mk (Below.refl w.heap.size w)
 have H : (if 0 ≤ (l0_0.length : Int) then (if ((l0_0.length : Int) : Int).toNat ≤ 281474976710656 then ((impl_still.f k (l0_0.length : Int)).bind fun t324 => (impl_ribbon.l0 k l1 (l0_0.length : Int) t324 l1 (l1.length : Int) 0 l0_0 l0_1 (List.replicate ((l0_0.length : Int) : Int).toNat false))) else (none)) else (none)) = some r := h
 clear h
 by_cases c3 : 0 ≤ (l0_0.length : Int)
 ·
  rw [if_pos c3] at H
  have c3b0 := eq_true c3
  have c3b1 : decide (0 ≤ (l0_0.length : Int)) = true := decide_eq_true c3
  clear c3
  by_cases c4 : ((l0_0.length : Int) : Int).toNat ≤ 281474976710656
  ·
   rw [if_pos c4] at H
   have c4b0 := eq_true c4
   have c4b1 : decide (((l0_0.length : Int) : Int).toNat ≤ 281474976710656) = true := decide_eq_true c4
   clear c4
   obtain ⟨y320, hy320⟩ : ∃ y_ : List Bool, y_ = (List.replicate ((l0_0.length : Int) : Int).toNat false) := ⟨_, rfl⟩
   replace H : ((impl_still.f k (l0_0.length : Int)).bind fun t324 => (impl_ribbon.l0 k l1 (l0_0.length : Int) t324 l1 (l1.length : Int) 0 l0_0 l0_1 y320)) = some r := by first | (rw [hy320]; with_reducible exact H) | (have H2_ := (Option.bind_some _ _).symm.trans H; rw [hy320]; with_reducible exact H2_) | (have H2_ := (Option.bind_some _ _).symm.trans H; with_reducible exact H2_) | with_reducible exact H | (rw [hy320]; exact H) | exact H
   have Ny320 := Aside0.mk hy320
   clear hy320
   replace H := Option.bind_eq_some_iff.mp H
   obtain ⟨t324, A50, H⟩ := H
   replace H : (impl_ribbon.l0 k l1 (l0_0.length : Int) t324 l1 (l1.length : Int) 0 l0_0 l0_1 y320) = some r := H
   have A5 := Aside0.mk A50
   clear A50
   have H' := Aside0.mk H
   clear H
   go_enter Try.func66, Try.ntmps66
   go_wp2_with (first | ((with_reducible refine gate_dst (N := 2) rfl ?_); refine box_event ?hg (N := 2) ?hd (cs := #[.slice A0_0 l0_0.length c0_0, .slice A0_1 l0_1.length c0_1]) (t := 27) ?hr ?_; (case hd => rfl); (case hg => rfl); (case hr => first | (go_simp; done) | (go_simp; rfl)); intro gb319 hg w6 hbox hb; have n0_ := Aside0.mk (Kd.V_below (Kd.V_elderB (by (with_reducible repeat (first | apply Kd.V_alloc | apply Kd.V_drewN | apply Kd.V_drew)); exact HO0_0.out) gb319 (Nat.le_of_eq hg.symm)) hb); have n1_ := Aside0.mk (below_step (by repeat (first | (with_reducible first | exact HB.out | apply below_alloc | apply pw_below_drewN | apply below_drew1) | exact HB.out)) hb); have n2_ := Aside0.mk (hbox); have n3_ := Aside0.mk ((by rw [hg]; exact (below_size (by repeat (first | (with_reducible first | exact HB.out | apply below_alloc | apply pw_below_drewN | apply below_drew1) | exact HB.out))) : w.heap.size ≤ gb319)); have n4_ := Aside0.mk ((by rw [hg]; exact (below_size (by repeat (first | (with_reducible first | exact HB.out | apply below_alloc | apply pw_below_drewN | apply below_drew1) | exact HB.out))) : w.heap.size ≤ gb319)); clear HO0_0 HB; have HO0_0 := n0_; have HB := n1_; have BK319 := n2_; have GW319 := n3_; have GE319 := n4_; clear n0_ n1_ n2_ n3_ n4_ hb hbox hg; have hcz7_0 : w6.cell? ⟨gb319, 0, none⟩ = some (.slice A0_0 l0_0.length c0_0) := (blk_cell BK319.out 0).trans rfl; have hcz7_1 : w6.cell? ⟨gb319, 1, none⟩ = some (.slice A0_1 l0_1.length c0_1) := (blk_cell BK319.out 1).trans rfl; have hfz7_0 := blk_frozen BK319.out 0; have hfz7_1 := blk_frozen BK319.out 1) | ((with_reducible refine gate_dst (N := 27) rfl ?_); refine Kd.R_make Kd.bool _ 4 rfl (N := 27) rfl 67 _ _ rfl (l0_0.length : Int) rfl rfl Try.underlying67 (.bool false) 1 info4 rfl (by decide) (by omega) false (ok := fun _ => True) (okp := fun _ => True) rfl (fun _ hk => hk) trivial (of_decide_eq_true (by first | (with_reducible assumption) | assumption)) (Nat.le_trans (Nat.mul_le_mul_right _ (of_decide_eq_true (by first | (with_reducible assumption) | assumption) : (l0_0.length : Int).toNat ≤ 281474976710656)) (by omega)) (Below.refl _ _) (Nat.le_refl _) ?_; intro v321 w8 ho9 hb hg_ hnew_; clear hg_ hnew_; (first | rw [← Ny320.out] at ho9 | (simp only [Int.reduceToNat] at ho9; rw [← Ny320.out] at ho9)); have n0_ := Aside0.mk (Kd.V_elder' (by (with_reducible repeat (first | apply Kd.V_alloc | apply Kd.V_drewN | apply Kd.V_drew)); exact HO0_0.out) (Kd.R_base ho9) hb); have n1_ := Aside0.mk (Kd.R_lower (Kd.R_newM (M := fun k_ => (w.heap.size ≤ k_)) ho9 (below_size (by repeat (first | (with_reducible first | exact HB.out | apply below_alloc | apply pw_below_drewN | apply below_drew1 | refine below_set ?_ GE319.out) | exact HB.out))) (fun k_ h_ => h_)) (below_size (by repeat (first | (with_reducible first | exact HB.out | apply below_alloc | apply pw_below_drewN | apply below_drew1 | refine below_set ?_ GE319.out) | exact HB.out)))); have n2_ := Aside0.mk (blk_below (g := gb319) (o := .cells #[.slice A0_0 l0_0.length c0_0, .slice A0_1 l0_1.length c0_1] 27 (0, 0)) (by (with_reducible repeat (first | refine blk_drewN ?_ _ | refine blk_drew ?_ | refine blk_alloc ?_ _)); exact BK319.out) hb); have n3_ := Aside0.mk (below_step (by repeat (first | (with_reducible first | exact HB.out | apply below_alloc | apply pw_below_drewN | apply below_drew1 | refine below_set ?_ GE319.out) | exact HB.out)) hb); clear HO0_0 BK319 HB; have HO0_0 := n0_; have HO322 := n1_; have BK319 := n2_; have HB := n3_; clear n0_ n1_ n2_ n3_; clear hb ho9) | ((with_reducible refine gate_dst (N := 6) rfl ?_); refine box_event ?hg (N := 6) ?hd (cs := #[.slice none 0 0]) (t := 67) ?hr ?_; (case hd => rfl); (case hg => rfl); (case hr => first | (go_simp; done) | (go_simp; rfl)); intro gb323 hg w10 hbox hb; have n0_ := Aside0.mk (Kd.V_below (Kd.V_elderB (by (with_reducible repeat (first | apply Kd.V_alloc | apply Kd.V_drewN | apply Kd.V_drew)); exact HO0_0.out) gb323 (Nat.le_of_eq hg.symm)) hb); have n1_ := Aside0.mk (Kd.R_below (by (with_reducible repeat (first | apply Kd.R_alloc | apply Kd.R_drewN | apply Kd.R_drew)); exact HO322.out) hb); have n2_ := Aside0.mk (blk_below (g := gb319) (o := .cells #[.slice A0_0 l0_0.length c0_0, .slice A0_1 l0_1.length c0_1] 27 (0, 0)) (by (with_reducible repeat (first | refine blk_drewN ?_ _ | refine blk_drew ?_ | refine blk_alloc ?_ _)); exact BK319.out) hb); have n3_ := Aside0.mk (below_step (by repeat (first | (with_reducible first | exact HB.out | apply below_alloc | apply pw_below_drewN | apply below_drew1 | refine below_set ?_ GE319.out) | exact HB.out)) hb); have n4_ := Aside0.mk (hbox); have n5_ := Aside0.mk ((by rw [hg]; exact (below_size (by repeat (first | (with_reducible first | exact HB.out | apply below_alloc | apply pw_below_drewN | apply below_drew1 | refine below_set ?_ GE319.out) | exact HB.out))) : w.heap.size ≤ gb323)); have n6_ := Aside0.mk ((by rw [hg]; exact (below_size (by repeat (first | (with_reducible first | exact HB.out | apply below_alloc | apply pw_below_drewN | apply below_drew1 | refine below_set ?_ GE319.out) | exact HB.out))) : w.heap.size ≤ gb323)); have n7_ := Aside0.mk ((by rw [hg]; exact Nat.ne_of_lt (blk_lt (g := gb319) (o := .cells #[.slice A0_0 l0_0.length c0_0, .slice A0_1 l0_1.length c0_1] 27 (0, 0)) (by (with_reducible repeat (first | refine blk_drewN ?_ _ | refine blk_drew ?_ | refine blk_alloc ?_ _)); exact BK319.out)) : gb319 ≠ gb323)); have n8_ := Aside0.mk ((by rw [hg]; exact Nat.ne_of_gt (blk_lt (g := gb319) (o := .cells #[.slice A0_0 l0_0.length c0_0, .slice A0_1 l0_1.length c0_1] 27 (0, 0)) (by (with_reducible repeat (first | refine blk_drewN ?_ _ | refine blk_drew ?_ | refine blk_alloc ?_ _)); exact BK319.out)) : gb323 ≠ gb319)); clear HO0_0 HO322 BK319 HB; have HO0_0 := n0_; have HO322 := n1_; have BK319 := n2_; have HB := n3_; have BK323 := n4_; have GW323 := n5_; have GE323 := n6_; have NB319_323 := n7_; have NB323_319 := n8_; clear n0_ n1_ n2_ n3_ n4_ n5_ n6_ n7_ n8_ hb hbox hg; obtain ⟨Ao11, co11, eo11⟩ := Kd.R_slice HO322.out; subst eo11; have hnb12 := NB323_319.out; have hnc12 := NB319_323.out; have hcz13_0 : w10.cell? ⟨gb323, 0, none⟩ = some (.slice none 0 0) := (blk_cell BK323.out 0).trans rfl; have hfz13_0 := blk_frozen BK323.out 0) | ((with_reducible refine gate_callee (f := 90) rfl ?_); refine goesL_ (some 29) rfl rfl Try.func90 (by kernel_rfl) rfl #[.int .i64 (l0_0.length : Int)] rfl (by (try simp only [List.map_toArray, List.map_cons, List.map_nil]); first | done | rfl | (simp only [List.length_drop, List.length_take]; rfl)) ?_; (with_reducible refine (impl_still.calls k (l0_0.length : Int) t324 _ A5.out).mono ?_); rintro e w14 ⟨v325, rfl, ho0, hb⟩; refine ⟨_, rfl, ?_⟩; have n0_ := Aside0.mk (Kd.V_elder' (by (with_reducible repeat (first | apply Kd.V_alloc | apply Kd.V_drewN | apply Kd.V_drew)); exact (Kd.V_mono (Kd.V_far (p := ⟨gb323, 0, none⟩) (Kd.V_mono HO0_0.out (fun k_ hk => (⟨hk, hk.2⟩ : _ ∧ k_ ≠ gb323))) (fun _ hk => hk.2) (.slice Ao11 y320.length co11)) (fun _ h_ => h_.1))) (Kd.R_base ho0) hb); have n1_ := Aside0.mk (Kd.R_below (by (with_reducible repeat (first | apply Kd.R_alloc | apply Kd.R_drewN | apply Kd.R_drew)); exact (Kd.R_mono (Kd.R_far (p := ⟨gb323, 0, none⟩) (Kd.R_types HO322.out BK323.out (by decide)) (fun _ hk => hk.2) (.slice Ao11 y320.length co11)) (fun _ h_ => h_.1))) hb); have n2_ := Aside0.mk (Kd.R_lower (Kd.R_newM (M := fun k_ => (w.heap.size ≤ k_)) ho0 (below_size (by repeat (first | (with_reducible first | exact HB.out | apply below_alloc | apply pw_below_drewN | apply below_drew1 | refine below_set ?_ GE319.out | refine below_set ?_ GE323.out) | exact HB.out))) (fun k_ h_ => h_)) (below_size (by repeat (first | (with_reducible first | exact HB.out | apply below_alloc | apply pw_below_drewN | apply below_drew1 | refine below_set ?_ GE319.out | refine below_set ?_ GE323.out) | exact HB.out)))); have n3_ := Aside0.mk (blk_below (g := gb319) (o := .cells #[.slice A0_0 l0_0.length c0_0, .slice A0_1 l0_1.length c0_1] 27 (0, 0)) (by (with_reducible repeat (first | refine blk_drewN ?_ _ | refine blk_drew ?_ | refine blk_alloc ?_ _)); refine blk_far ?_ NB319_323.out _; (with_reducible repeat (first | refine blk_drewN ?_ _ | refine blk_drew ?_ | refine blk_alloc ?_ _)); exact BK319.out) hb); have n4_ := Aside0.mk (blk_below (g := gb323) (o := .cells #[.slice Ao11 y320.length co11] 67 (0, 0)) (by (with_reducible repeat (first | refine blk_drewN ?_ _ | refine blk_drew ?_ | refine blk_alloc ?_ _)); refine blk_put (cs := #[.slice none 0 0]) ?_ 0 _ rfl; (with_reducible repeat (first | refine blk_drewN ?_ _ | refine blk_drew ?_ | refine blk_alloc ?_ _)); exact BK323.out) hb); have n5_ := Aside0.mk (below_step (by repeat (first | (with_reducible first | exact HB.out | apply below_alloc | apply pw_below_drewN | apply below_drew1 | refine below_set ?_ GE319.out | refine below_set ?_ GE323.out) | exact HB.out)) hb); clear HO0_0 HO322 BK319 BK323 HB; have HO0_0 := n0_; have HO322 := n1_; have HO326 := n2_; have BK319 := n3_; have BK323 := n4_; have HB := n5_; clear n0_ n1_ n2_ n3_ n4_ n5_; (try clear hb); (try clear hb2); (try clear hk); (try clear hi); (try clear ho0)))
   go_loopg [32] k (fun kq v32 w' => ∃ (x7_1 : List Int) (x32_1 : Int) (x324000_1 : List Bool) (u324000 : Value), v32 = .int .i64 x32_1 ∧ Aside0 (impl_ribbon.l0 kq l1 (l0_0.length : Int) x7_1 l1 (l1.length : Int) x32_1 l0_0 l0_1 x324000_1 = some r) ∧ Aside0 (kq ≤ k) ∧ Aside0 (Kd.R (Kd.int .i64) 3 w' w.heap.size (fun k_ => (w.heap.size ≤ k_)) v325 x7_1) ∧ Aside0 (Kd.V (Kd.int .i64) 3 w' w.heap.size (fun k_ => (P0_0_ k_ ∨ w.heap.size ≤ k_) ∧ some k_ ≠ (v325 : Value).ownBlock ∧ some k_ ≠ (u324000 : Value).ownBlock ∧ k_ ≠ gb319 ∧ k_ ≠ gb323) (.slice A0_0 l0_0.length c0_0) l0_0) ∧ Aside0 (Kd.R Kd.bool 4 w' w.heap.size (fun k_ => (w.heap.size ≤ k_)) u324000 x324000_1) ∧ Aside0 (w'.heap[gb319]? = some (.cells #[(.slice A0_0 l0_0.length c0_0), (.slice A0_1 l0_1.length c0_1)] 27 (0, 0))) ∧ Aside0 (w'.heap[gb323]? = some (.cells #[u324000] 67 (0, 0))) ∧ Aside0 (Below w.heap.size w w'))
   case atStart => exact ⟨(t324), (0), (y320), (.slice Ao11 y320.length co11), (by first | rfl | (simp; done) | (simp [*]; done)), H', ⟨Nat.le_refl _⟩, ⟨by (with_reducible repeat (first | apply Kd.R_alloc | apply Kd.R_drewN | apply Kd.R_drew)); exact Kd.R_mono HO326.out (fun _ hk => hk.1)⟩, ⟨by (with_reducible repeat (first | apply Kd.V_alloc | apply Kd.V_drewN | apply Kd.V_drew)); exact Kd.V_mono HO0_0.out (fun _ hk => ⟨hk.1.1.1.1, ⟨hk.2, ⟨hk.1.1.2, ⟨hk.1.1.1.2, hk.1.2⟩⟩⟩⟩)⟩, ⟨by (with_reducible repeat (first | apply Kd.R_alloc | apply Kd.R_drewN | apply Kd.R_drew)); exact Kd.R_mono HO322.out (fun _ hk => hk.1)⟩, ⟨by (with_reducible repeat (first | refine blk_drewN ?_ _ | refine blk_drew ?_ | refine blk_alloc ?_ _)); exact BK319.out⟩, ⟨by (with_reducible repeat (first | refine blk_drewN ?_ _ | refine blk_drew ?_ | refine blk_alloc ?_ _)); exact BK323.out⟩, ⟨by repeat (first | (with_reducible first | exact HB.out | apply below_alloc | apply pw_below_drewN | apply below_drew1 | refine below_set ?_ GE319.out | refine below_set ?_ GE323.out) | exact HB.out)⟩⟩
   case round =>
    clear H'
    try clear c1
    try clear p2
    try clear c3
    try clear c3b0
    try clear c3b1
    try clear c4
    try clear c4b0
    try clear c4b1
    try clear c6
    try clear c9
    try clear c12
    try clear hcz13_0
    try clear hcz7_0
    try clear hcz7_1
    try clear hfz13_0
    try clear hfz7_0
    try clear hfz7_1
    obtain ⟨x7_1, x32_1, x324000_1, u324000, rfl, HA, HK1, HO_7, HO_320000, HO_324000, BK319, BK323, HB⟩ := hrel
    cases gk with
    | zero => exact absurd HA.out (by simp [impl_ribbon.l0])
    | succ k1 =>
     have H := HA.out
     clear HA
     simp only [impl_ribbon.l0] at H
     by_cases c15 : x32_1 < (l1.length : Int)
     ·
      rw [if_pos c15] at H
      have c15b0 : decide (x32_1 < (l1.length : Int)) = true := decide_eq_true c15
      clear c15
      by_cases c16 : 0 ≤ x32_1
      ·
       rw [if_pos c16] at H
       have c16b0 : decide (0 ≤ x32_1) = true := decide_eq_true c16
       clear c16
       by_cases c17 : x32_1 < (l1.length : Int)
       ·
        rw [if_pos c17] at H
        have c17b0 : decide (x32_1 < (l1.length : Int)) = true := decide_eq_true c17
        clear c17
        replace H := Option.bind_eq_some_iff.mp H
        obtain ⟨t328, A180, H⟩ := H
        replace H : (if 0 ≤ (rd l1 x32_1) then (if (rd l1 x32_1) < (t328.length : Int) then (if 0 ≤ (rd t328 (rd l1 x32_1)) then (if (rd t328 (rd l1 x32_1)) < (l0_1.length : Int) then (if (rd t328 (rd l1 x32_1)) < (x324000_1.length : Int) then (if 0 ≤ (rd l0_1 (rd t328 (rd l1 x32_1))) then (if (rd l0_1 (rd t328 (rd l1 x32_1))) < (x324000_1.length : Int) then (if (rd t328 (rd l1 x32_1)) < (x7_1.length : Int) then (if (rd l0_1 (rd t328 (rd l1 x32_1))) < (x7_1.length : Int) then (impl_ribbon.l0 k1 l1 (l0_0.length : Int) ((x7_1.set ((rd t328 (rd l1 x32_1)) : Int).toNat (rd l0_1 (rd t328 (rd l1 x32_1)))).set ((rd l0_1 (rd t328 (rd l1 x32_1))) : Int).toNat (rd t328 (rd l1 x32_1))) l1 (l1.length : Int) (wrap64 (x32_1 + 1)) l0_0 l0_1 ((x324000_1.set ((rd t328 (rd l1 x32_1)) : Int).toNat true).set ((rd l0_1 (rd t328 (rd l1 x32_1))) : Int).toNat true)) else (none)) else (none)) else (none)) else (none)) else (none)) else (none)) else (none)) else (none)) else (none)) = some r := H
        have A18 := Aside0.mk A180
        clear A180
        by_cases c19 : 0 ≤ (rd l1 x32_1)
        ·
         rw [if_pos c19] at H
         have c19b0 : decide (0 ≤ (rd l1 x32_1)) = true := decide_eq_true c19
         clear c19
         by_cases c20 : (rd l1 x32_1) < (t328.length : Int)
         ·
          rw [if_pos c20] at H
          have c20b0 : decide ((rd l1 x32_1) < (t328.length : Int)) = true := decide_eq_true c20
          clear c20
          by_cases c21 : 0 ≤ (rd t328 (rd l1 x32_1))
          ·
           rw [if_pos c21] at H
           have c21b0 : decide (0 ≤ (rd t328 (rd l1 x32_1))) = true := decide_eq_true c21
           clear c21
           by_cases c22 : (rd t328 (rd l1 x32_1)) < (l0_1.length : Int)
           ·
            rw [if_pos c22] at H
            have c22b0 : decide ((rd t328 (rd l1 x32_1)) < (l0_1.length : Int)) = true := decide_eq_true c22
            clear c22
            by_cases c23 : (rd t328 (rd l1 x32_1)) < (x324000_1.length : Int)
            ·
             rw [if_pos c23] at H
             have c23b0 : decide ((rd t328 (rd l1 x32_1)) < (x324000_1.length : Int)) = true := decide_eq_true c23
             clear c23
             obtain ⟨y333, hy333⟩ : ∃ y_ : List Bool, y_ = (x324000_1.set ((rd t328 (rd l1 x32_1)) : Int).toNat true) := ⟨_, rfl⟩
             replace H : (if 0 ≤ (rd l0_1 (rd t328 (rd l1 x32_1))) then (if (rd l0_1 (rd t328 (rd l1 x32_1))) < (x324000_1.length : Int) then (if (rd t328 (rd l1 x32_1)) < (x7_1.length : Int) then (if (rd l0_1 (rd t328 (rd l1 x32_1))) < (x7_1.length : Int) then (impl_ribbon.l0 k1 l1 (l0_0.length : Int) ((x7_1.set ((rd t328 (rd l1 x32_1)) : Int).toNat (rd l0_1 (rd t328 (rd l1 x32_1)))).set ((rd l0_1 (rd t328 (rd l1 x32_1))) : Int).toNat (rd t328 (rd l1 x32_1))) l1 (l1.length : Int) (wrap64 (x32_1 + 1)) l0_0 l0_1 (y333.set ((rd l0_1 (rd t328 (rd l1 x32_1))) : Int).toNat true)) else (none)) else (none)) else (none)) else (none)) = some r := by first | (rw [hy333]; with_reducible exact H) | (have H2_ := (Option.bind_some _ _).symm.trans H; rw [hy333]; with_reducible exact H2_) | (have H2_ := (Option.bind_some _ _).symm.trans H; with_reducible exact H2_) | with_reducible exact H | (rw [hy333]; exact H) | exact H
             have Ny333 := Aside0.mk hy333
             clear hy333
             by_cases c25 : 0 ≤ (rd l0_1 (rd t328 (rd l1 x32_1)))
             ·
              rw [if_pos c25] at H
              have c25b0 : decide (0 ≤ (rd l0_1 (rd t328 (rd l1 x32_1)))) = true := decide_eq_true c25
              clear c25
              by_cases c26 : (rd l0_1 (rd t328 (rd l1 x32_1))) < (x324000_1.length : Int)
              ·
               rw [if_pos c26] at H
               have c26b0 : decide ((rd l0_1 (rd t328 (rd l1 x32_1))) < (x324000_1.length : Int)) = true := decide_eq_true c26
               clear c26
               obtain ⟨y334, hy334⟩ : ∃ y_ : List Bool, y_ = (y333.set ((rd l0_1 (rd t328 (rd l1 x32_1))) : Int).toNat true) := ⟨_, rfl⟩
               replace H : (if (rd t328 (rd l1 x32_1)) < (x7_1.length : Int) then (if (rd l0_1 (rd t328 (rd l1 x32_1))) < (x7_1.length : Int) then (impl_ribbon.l0 k1 l1 (l0_0.length : Int) ((x7_1.set ((rd t328 (rd l1 x32_1)) : Int).toNat (rd l0_1 (rd t328 (rd l1 x32_1)))).set ((rd l0_1 (rd t328 (rd l1 x32_1))) : Int).toNat (rd t328 (rd l1 x32_1))) l1 (l1.length : Int) (wrap64 (x32_1 + 1)) l0_0 l0_1 y334) else (none)) else (none)) = some r := by first | (rw [hy334]; with_reducible exact H) | (have H2_ := (Option.bind_some _ _).symm.trans H; rw [hy334]; with_reducible exact H2_) | (have H2_ := (Option.bind_some _ _).symm.trans H; with_reducible exact H2_) | with_reducible exact H | (rw [hy334]; exact H) | exact H
               have Ny334 := Aside0.mk hy334
               clear hy334
               by_cases c28 : (rd t328 (rd l1 x32_1)) < (x7_1.length : Int)
               ·
                rw [if_pos c28] at H
                have c28b0 : decide ((rd t328 (rd l1 x32_1)) < (x7_1.length : Int)) = true := decide_eq_true c28
                clear c28
                obtain ⟨y335, hy335⟩ : ∃ y_ : List Int, y_ = (x7_1.set ((rd t328 (rd l1 x32_1)) : Int).toNat (rd l0_1 (rd t328 (rd l1 x32_1)))) := ⟨_, rfl⟩
                replace H : (if (rd l0_1 (rd t328 (rd l1 x32_1))) < (x7_1.length : Int) then (impl_ribbon.l0 k1 l1 (l0_0.length : Int) (y335.set ((rd l0_1 (rd t328 (rd l1 x32_1))) : Int).toNat (rd t328 (rd l1 x32_1))) l1 (l1.length : Int) (wrap64 (x32_1 + 1)) l0_0 l0_1 y334) else (none)) = some r := by first | (rw [hy335]; with_reducible exact H) | (have H2_ := (Option.bind_some _ _).symm.trans H; rw [hy335]; with_reducible exact H2_) | (have H2_ := (Option.bind_some _ _).symm.trans H; with_reducible exact H2_) | with_reducible exact H | (rw [hy335]; exact H) | exact H
                have Ny335 := Aside0.mk hy335
                clear hy335
                by_cases c30 : (rd l0_1 (rd t328 (rd l1 x32_1))) < (x7_1.length : Int)
                ·
                 rw [if_pos c30] at H
                 have c30b0 : decide ((rd l0_1 (rd t328 (rd l1 x32_1))) < (x7_1.length : Int)) = true := decide_eq_true c30
                 clear c30
                 obtain ⟨y336, hy336⟩ : ∃ y_ : List Int, y_ = (y335.set ((rd l0_1 (rd t328 (rd l1 x32_1))) : Int).toNat (rd t328 (rd l1 x32_1))) := ⟨_, rfl⟩
                 replace H : (impl_ribbon.l0 k1 l1 (l0_0.length : Int) y336 l1 (l1.length : Int) (wrap64 (x32_1 + 1)) l0_0 l0_1 y334) = some r := by first | (rw [hy336]; with_reducible exact H) | (have H2_ := (Option.bind_some _ _).symm.trans H; rw [hy336]; with_reducible exact H2_) | (have H2_ := (Option.bind_some _ _).symm.trans H; with_reducible exact H2_) | with_reducible exact H | (rw [hy336]; exact H) | exact H
                 have Ny336 := Aside0.mk hy336
                 clear hy336
                 have H' := Aside0.mk H
                 clear H
                 have p327 : 0 ≤ (x32_1 : Int) := of_decide_eq_true (by first | (with_reducible assumption) | assumption)
                 have q327 : x32_1 < (l1.length : Int) := of_decide_eq_true (by first | (with_reducible assumption) | assumption)
                 obtain ⟨ad327, e327, hx327_0⟩ := Kd.at_int HR1.out x32_1 p327 q327
                 cases e327
                 (try replace hx327_0 := (HB.out.cell (World.block_lt_of_cell? w _ hx327_0)).trans hx327_0)
                 replace p327 := eq_true p327
                 replace q327 := eq_true q327
                 have hnb32 := NB319_323.out
                 have hnc32 := NB323_319.out
                 have hcz33_0 : wr.cell? ⟨gb319, 0, none⟩ = some (.slice A0_0 l0_0.length c0_0) := (blk_cell BK319.out 0).trans rfl
                 have hcz33_1 : wr.cell? ⟨gb319, 1, none⟩ = some (.slice A0_1 l0_1.length c0_1) := (blk_cell BK319.out 1).trans rfl
                 have hfz33_0 := blk_frozen BK319.out 0
                 have hfz33_1 := blk_frozen BK319.out 1
                 try go_wp2_with (first | ((with_reducible refine gate_callee (f := 74) rfl ?_); refine goesL_ (some 37) rfl rfl Try.func74 (by kernel_rfl) rfl #[.agg #[.slice A0_0 l0_0.length c0_0, .slice A0_1 l0_1.length c0_1]] rfl (by (try simp only [List.map_toArray, List.map_cons, List.map_nil]); first | done | rfl | (simp only [List.length_drop, List.length_take]; rfl)) ?_; (with_reducible refine (impl_edgesOf.calls k1 _ _ l0_0 _ _ l0_1 t328 _ ?side1 ?side2 ?side3 ?side4 A18.out).mono ?_); (case side1 => repeat (first | exact (Kd.V_reads' HO_320000.out).2.2 | (with_reducible refine Kd.C_alloc ?_ _) | (with_reducible refine Kd.C_drewN ?_ _) | (with_reducible refine Kd.C_drew ?_))); (case side2 => exact (Kd.V_reads' HO_320000.out).2.1); (case side3 => repeat (first | exact (Kd.C_below HR0_1.out HB.out) | (with_reducible refine Kd.C_alloc ?_ _) | (with_reducible refine Kd.C_drewN ?_ _) | (with_reducible refine Kd.C_drew ?_))); (case side4 => exact HC0_1.out); rintro e w34 ⟨v329, rfl, ho0, hb⟩; refine ⟨_, rfl, ?_⟩; have n0_ := Aside0.mk (Kd.R_elder' (by (with_reducible repeat (first | apply Kd.R_alloc | apply Kd.R_drewN | apply Kd.R_drew)); exact HO_7.out) (Kd.R_base ho0) hb); have n1_ := Aside0.mk (Kd.V_elder' (by (with_reducible repeat (first | apply Kd.V_alloc | apply Kd.V_drewN | apply Kd.V_drew)); exact HO_320000.out) (Kd.R_base ho0) hb); have n2_ := Aside0.mk (Kd.R_below (by (with_reducible repeat (first | apply Kd.R_alloc | apply Kd.R_drewN | apply Kd.R_drew)); exact HO_324000.out) hb); have n3_ := Aside0.mk (Kd.R_lower (Kd.R_new' (Kd.R_newM (M := fun k_ => (w.heap.size ≤ k_)) ho0 (below_size (by repeat (first | (with_reducible first | exact HB.out | apply below_alloc | apply pw_below_drewN | apply below_drew1 | refine below_set ?_ GE319.out | refine below_set ?_ GE323.out) | exact HB.out))) (fun k_ h_ => h_)) (Kd.R_lt (by (with_reducible repeat (first | apply Kd.R_alloc | apply Kd.R_drewN | apply Kd.R_drew)); exact HO_7.out))) (below_size (by repeat (first | (with_reducible first | exact HB.out | apply below_alloc | apply pw_below_drewN | apply below_drew1 | refine below_set ?_ GE319.out | refine below_set ?_ GE323.out) | exact HB.out)))); have n4_ := Aside0.mk (blk_below (g := gb319) (o := .cells #[.slice A0_0 l0_0.length c0_0, .slice A0_1 l0_1.length c0_1] 27 (0, 0)) (by (with_reducible repeat (first | refine blk_drewN ?_ _ | refine blk_drew ?_ | refine blk_alloc ?_ _)); exact BK319.out) hb); have n5_ := Aside0.mk (blk_below (g := gb323) (o := .cells #[u324000] 67 (0, 0)) (by (with_reducible repeat (first | refine blk_drewN ?_ _ | refine blk_drew ?_ | refine blk_alloc ?_ _)); exact BK323.out) hb); have n6_ := Aside0.mk (below_step (by repeat (first | (with_reducible first | exact HB.out | apply below_alloc | apply pw_below_drewN | apply below_drew1 | refine below_set ?_ GE319.out | refine below_set ?_ GE323.out) | exact HB.out)) hb); clear HO_7 HO_320000 HO_324000 BK319 BK323 HB; have HO_7 := n0_; have HO_320000 := n1_; have HO_324000 := n2_; have HO330 := n3_; have BK319 := n4_; have BK323 := n5_; have HB := n6_; clear n0_ n1_ n2_ n3_ n4_ n5_ n6_; (try clear hb); (try clear hb2); (try clear hk); (try clear hi); (try clear ho0); obtain ⟨Ao35, co35, eo35⟩ := Kd.R_slice HO330.out; subst eo35; have p331 : 0 ≤ ((rd l1 x32_1) : Int) := of_decide_eq_true (by first | (with_reducible assumption) | assumption); have q331 : (rd l1 x32_1) < (t328.length : Int) := of_decide_eq_true (by first | (with_reducible assumption) | assumption); obtain ⟨ad331, e331, hx331_0⟩ := Kd.at_int (Kd.R_reads' HO330.out).2.2 (rd l1 x32_1) p331 q331; cases e331; replace p331 := eq_true p331; replace q331 := eq_true q331; have hcz36_0 : w34.cell? ⟨gb319, 0, none⟩ = some (.slice A0_0 l0_0.length c0_0) := (blk_cell BK319.out 0).trans rfl; have hcz36_1 : w34.cell? ⟨gb319, 1, none⟩ = some (.slice A0_1 l0_1.length c0_1) := (blk_cell BK319.out 1).trans rfl; have hfz36_0 := blk_frozen BK319.out 0; have hfz36_1 := blk_frozen BK319.out 1; have p332 : 0 ≤ ((rd t328 (rd l1 x32_1)) : Int) := of_decide_eq_true (by first | (with_reducible assumption) | assumption); have q332 : (rd t328 (rd l1 x32_1)) < (l0_1.length : Int) := of_decide_eq_true (by first | (with_reducible assumption) | assumption); obtain ⟨ad332, e332, hx332_0⟩ := Kd.at_int HR0_1.out (rd t328 (rd l1 x32_1)) p332 q332; cases e332; replace hx332_0 := (HB.out.cell (World.block_lt_of_cell? w _ hx332_0)).trans hx332_0; replace p332 := eq_true p332; replace q332 := eq_true q332))
                 have n0_ := Aside0.mk (Kd.R_drew HO_7.out)
                 have n1_ := Aside0.mk (Kd.V_drew HO_320000.out)
                 have n2_ := Aside0.mk (Kd.R_drew HO_324000.out)
                 have n3_ := Aside0.mk (Kd.R_drew HO330.out)
                 have n4_ := Aside0.mk (blk_drew BK319.out)
                 have n5_ := Aside0.mk (blk_drew BK323.out)
                 have n6_ := Aside0.mk (below_drew1 HB.out)
                 clear HO_7 HO_320000 HO_324000 HO330 BK319 BK323 HB
                 have HO_7 := n0_
                 have HO_320000 := n1_
                 have HO_324000 := n2_
                 have HO330 := n3_
                 have BK319 := n4_
                 have BK323 := n5_
                 have HB := n6_
                 clear n0_ n1_ n2_ n3_ n4_ n5_ n6_
                 have p24 : 0 ≤ ((rd t328 (rd l1 x32_1)) : Int) := of_decide_eq_true (by first | (with_reducible assumption) | assumption)
                 have q24 : ((rd t328 (rd l1 x32_1)) : Int) < ((x324000_1.length : Int) : Int) := of_decide_eq_true (by first | (with_reducible assumption) | assumption)
                 obtain ⟨go24, co24, eo24, gb24, gl24, cl24, HG24⟩ := Kd.R_form HO_324000.out (by omega)
                 (first | cases eo24 | (injection eo24 with ea_ en_ ec_; (first | subst ea_ | (injection ea_ with ea_; subst ea_)); subst ec_; clear en_))
                 have GB24 := Aside0.mk gb24
                 have GG24 := Aside0.mk HG24
                 clear gb24 gl24 HG24
                 obtain ⟨hx24_0, hf24_0⟩ := Kd.R_celln false HO_324000.out ((rd t328 (rd l1 x32_1)) : Int) p24 q24
                 replace p24 := eq_true p24
                 replace q24 := eq_true q24
                 have HP38 := Kd.R_putn HO_324000.out ((rd t328 (rd l1 x32_1)) : Int) true
                 rw [← Ny333.out] at HP38
                 have HQ38 := Aside0.mk HP38
                 clear HP38
                 have p27 : 0 ≤ ((rd l0_1 (rd t328 (rd l1 x32_1))) : Int) := of_decide_eq_true (by first | (with_reducible assumption) | assumption)
                 have q27 : ((rd l0_1 (rd t328 (rd l1 x32_1))) : Int) < ((x324000_1.length : Int) : Int) := of_decide_eq_true (by first | (with_reducible assumption) | assumption)
                 obtain ⟨hx27_0, hf27_0⟩ := Kd.R_celln false HQ38.out ((rd l0_1 (rd t328 (rd l1 x32_1))) : Int) p27 q27
                 replace p27 := eq_true p27
                 replace q27 := eq_true q27
                 have HP39 := Kd.R_putn HQ38.out ((rd l0_1 (rd t328 (rd l1 x32_1))) : Int) true
                 rw [← Ny334.out] at HP39
                 have HQ39 := Aside0.mk HP39
                 clear HP39
                 refine start_ (n := 8) (S := fun w' => w'.cell? ⟨gb323, 0, none⟩ = some (.slice (some ⟨go24, 0, none⟩) x324000_1.length co24)) (ds := [7]) #[false, false, false, false, false, false, false, false] (by kernel_rfl) rfl rfl ((blk_cell BK323.out 0).trans rfl) (fun hHeld => ?_); refine with_tabW impl_ribbon.tab9 impl_ribbon.bits9 (fun HT_ HW_ => ?_)
                 generalize w34.drew = w37 at HO_7 HO_320000 HO_324000 HO330 BK319 BK323 HB GG24 HQ38 HQ39 hf24_0 hf27_0 hx24_0 hx27_0 hHeld ⊢
                 refine pure_ (i := 1) (N := some 47) (v := ?_) (a' := ?_) #[false, true, false, false, false, false, false, false] rfl rfl (any_of HT_.out (by kernel_rfl)) (fun _ _ _ h => h) (Or.inl ⟨by rfl, ?_⟩) ?_ ?_
                 rotate_left
                 ·
                  intro w'
                  go_simp
                  with_reducible rfl
                 rotate_left
                 ·
                  simp only [Act.put, List.setIfInBounds_toArray, List.set_cons_zero, List.set_cons_succ, i64_w, i32_w]
                  rfl
                 refine pure_ (i := 3) (N := some 49) (v := ?_) (a' := ?_) #[false, true, false, true, false, false, false, false] rfl rfl (any_of HT_.out (by kernel_rfl)) (fun _ _ _ h => h) (Or.inl ⟨by rfl, ?_⟩) ?_ ?_
                 rotate_left
                 ·
                  intro w'
                  go_simp
                  with_reducible rfl
                 rotate_left
                 ·
                  simp only [Act.put, List.setIfInBounds_toArray, List.set_cons_zero, List.set_cons_succ, i64_w, i32_w]
                  rfl
                 refine take_ (i := 0) (N := some 46) (v := ?_) (a' := ?_) #[true, true, false, true, false, false, false, false] rfl rfl (take_ofW HT_.out HW_.out (by kernel_rfl)) (fun _ _ _ h => h) (Or.inl ⟨by rfl, ?_⟩) hHeld ?_ ?_
                 rotate_left
                 ·
                  intro w' s0
                  go_simp
                  with_reducible rfl
                 rotate_left
                 ·
                  simp only [Act.put, List.setIfInBounds_toArray, List.set_cons_zero, List.set_cons_succ, i64_w, i32_w]
                  rfl
                 refine pure_ (i := 4) (N := some 50) (v := ?_) (a' := ?_) #[true, true, false, true, true, false, false, false] rfl rfl (any_of HT_.out (by kernel_rfl)) (fun _ _ _ h => h) (Or.inl ⟨by rfl, ?_⟩) ?_ ?_
                 rotate_left
                 ·
                  intro w'
                  go_simp
                  with_reducible rfl
                 rotate_left
                 ·
                  simp only [Act.put, List.setIfInBounds_toArray, List.set_cons_zero, List.set_cons_succ, i64_w, i32_w]
                  rfl
                 refine take_ (i := 2) (N := some 48) (v := ?_) (a' := ?_) #[true, true, true, true, true, false, false, false] rfl rfl (take_ofW HT_.out HW_.out (by kernel_rfl)) (fun _ _ _ h => h) (Or.inl ⟨by rfl, ?_⟩) hHeld ?_ ?_
                 rotate_left
                 ·
                  intro w' s0
                  go_simp
                  with_reducible rfl
                 rotate_left
                 ·
                  simp only [Act.put, List.setIfInBounds_toArray, List.set_cons_zero, List.set_cons_succ, i64_w, i32_w]
                  rfl
                 refine one_ (i := 5) (N := none) #[true, true, true, true, true, true, false, false] rfl rfl (one_of HT_.out (by kernel_rfl)) (by decide) (fun K hK => ?_)
                 refine skip_ (w1 := ?_) (by rfl) rfl ?_ ?_
                 rotate_left
                 ·
                  go_simp
                  rfl
                 refine hK.out _ _ (((cell_far (p := ⟨go24, _, none⟩) (by have h_ := Kd.R_ne HO_324000.out BK323.out (by decide); intro e_; exact h_ (by first | exact congrArg some e_ | (rw [e_]; rfl))) _).trans (hHeld))) (fun hHeld => ?_)
                 clear hK K
                 refine pure_ (i := 6) (N := some 51) (v := ?_) (a' := ?_) #[true, true, true, true, true, true, true, false] rfl rfl (any_of HT_.out (by kernel_rfl)) (fun _ _ _ h => h) (Or.inl ⟨by rfl, ?_⟩) ?_ ?_
                 rotate_left
                 ·
                  intro w'
                  go_simp
                  with_reducible rfl
                 rotate_left
                 ·
                  simp only [Act.put, List.setIfInBounds_toArray, List.set_cons_zero, List.set_cons_succ, i64_w, i32_w]
                  rfl
                 refine last_ (i := 7) (N := none) #[true, true, true, true, true, true, true, true] rfl rfl (one_of HT_.out (by kernel_rfl)) (by decide) (fun K hK => ?_)
                 refine skip_ (w1 := ?_) (by rfl) rfl ?_ ?_
                 rotate_left
                 ·
                  go_simp
                  rfl
                 refine hK.out _ _ ?_
                 clear hK K
                 refine done_ (done_of HT_.out (by kernel_rfl)) ?_
                 have n0_ : Aside0 (Kd.R (Kd.int .i64) 3 ((w37.setCell ⟨go24, ((rd t328 (rd l1 x32_1)) : Int).toNat, none⟩ (.bool true)).setCell ⟨go24, ((rd l0_1 (rd t328 (rd l1 x32_1))) : Int).toNat, none⟩ (.bool true)) w.heap.size (fun k_ => (w.heap.size ≤ k_) ∧ some k_ ≠ (.slice (some ad331) t328.length co35 : Value).ownBlock) v325 x7_1) := ⟨by (with_reducible repeat (first | apply Kd.R_alloc | apply Kd.R_drewN | apply Kd.R_drew)); exact Kd.R_mono (Kd.R_far (p := ⟨go24, ((rd l0_1 (rd t328 (rd l1 x32_1))) : Int).toNat, none⟩) (Kd.R_far (p := ⟨go24, ((rd t328 (rd l1 x32_1)) : Int).toNat, none⟩) (Kd.R_types HO_7.out GG24.out (by decide)) (fun _ hk => hk.2) (.bool true)) (fun _ hk => hk.2) (.bool true)) (fun _ hk => ⟨hk.1.1, hk.1.2⟩)⟩
                 have n1_ : Aside0 (Kd.V (Kd.int .i64) 3 ((w37.setCell ⟨go24, ((rd t328 (rd l1 x32_1)) : Int).toNat, none⟩ (.bool true)).setCell ⟨go24, ((rd l0_1 (rd t328 (rd l1 x32_1))) : Int).toNat, none⟩ (.bool true)) w.heap.size (fun k_ => (P0_0_ k_ ∨ w.heap.size ≤ k_) ∧ some k_ ≠ (v325 : Value).ownBlock ∧ some k_ ≠ (.slice (some ⟨go24, 0, none⟩) x324000_1.length co24 : Value).ownBlock ∧ some k_ ≠ (.slice (some ad331) t328.length co35 : Value).ownBlock ∧ k_ ≠ gb319 ∧ k_ ≠ gb323) (.slice A0_0 l0_0.length c0_0) l0_0) := ⟨by (with_reducible repeat (first | apply Kd.V_alloc | apply Kd.V_drewN | apply Kd.V_drew)); exact Kd.V_mono (Kd.V_far (p := ⟨go24, ((rd l0_1 (rd t328 (rd l1 x32_1))) : Int).toNat, none⟩) (Kd.V_far (p := ⟨go24, ((rd t328 (rd l1 x32_1)) : Int).toNat, none⟩) (Kd.V_mono HO_320000.out (fun k_ hk => (⟨hk, fun e_ => hk.1.2.2.1 (by rw [e_]; rfl)⟩ : _ ∧ k_ ≠ go24))) (fun _ hk => hk.2) (.bool true)) (fun _ hk => hk.2) (.bool true)) (fun _ hk => ⟨hk.1.1.1, ⟨hk.1.1.2.1, ⟨hk.1.1.2.2.1, ⟨hk.1.2, ⟨hk.1.1.2.2.2.1, hk.1.1.2.2.2.2⟩⟩⟩⟩⟩)⟩
                 have n2_ : Aside0 (Kd.R Kd.bool 4 ((w37.setCell ⟨go24, ((rd t328 (rd l1 x32_1)) : Int).toNat, none⟩ (.bool true)).setCell ⟨go24, ((rd l0_1 (rd t328 (rd l1 x32_1))) : Int).toNat, none⟩ (.bool true)) w.heap.size (fun k_ => (w.heap.size ≤ k_)) (.slice (some ⟨go24, 0, none⟩) x324000_1.length co24) y334) := ⟨by (with_reducible repeat (first | apply Kd.R_alloc | apply Kd.R_drewN | apply Kd.R_drew)); exact HQ39.out⟩
                 have n3_ : Aside0 (Kd.R (Kd.int .i64) 3 ((w37.setCell ⟨go24, ((rd t328 (rd l1 x32_1)) : Int).toNat, none⟩ (.bool true)).setCell ⟨go24, ((rd l0_1 (rd t328 (rd l1 x32_1))) : Int).toNat, none⟩ (.bool true)) w.heap.size (fun k_ => (w.heap.size ≤ k_) ∧ some k_ ≠ (v325 : Value).ownBlock) (.slice (some ad331) t328.length co35) t328) := ⟨by (with_reducible repeat (first | apply Kd.R_alloc | apply Kd.R_drewN | apply Kd.R_drew)); exact Kd.R_mono (Kd.R_far (p := ⟨go24, ((rd l0_1 (rd t328 (rd l1 x32_1))) : Int).toNat, none⟩) (Kd.R_far (p := ⟨go24, ((rd t328 (rd l1 x32_1)) : Int).toNat, none⟩) (Kd.R_types HO330.out GG24.out (by decide)) (fun _ hk => hk.2) (.bool true)) (fun _ hk => hk.2) (.bool true)) (fun _ hk => ⟨hk.1.1.1, hk.1.2⟩)⟩
                 have n4_ : Aside0 (((w37.setCell ⟨go24, ((rd t328 (rd l1 x32_1)) : Int).toNat, none⟩ (.bool true)).setCell ⟨go24, ((rd l0_1 (rd t328 (rd l1 x32_1))) : Int).toNat, none⟩ (.bool true)).heap[gb319]? = some (.cells #[.slice A0_0 l0_0.length c0_0, .slice (some ad332) l0_1.length c0_1] 27 (0, 0))) := ⟨by (with_reducible repeat (first | refine blk_drewN ?_ _ | refine blk_drew ?_ | refine blk_alloc ?_ _)); refine blk_far ?_ (by have h_ := Kd.R_ne HO_324000.out BK319.out (by decide); intro e_; exact h_ (by rw [e_]; rfl)) _; (with_reducible repeat (first | refine blk_drewN ?_ _ | refine blk_drew ?_ | refine blk_alloc ?_ _)); refine blk_far ?_ (by have h_ := Kd.R_ne HO_324000.out BK319.out (by decide); intro e_; exact h_ (by rw [e_]; rfl)) _; (with_reducible repeat (first | refine blk_drewN ?_ _ | refine blk_drew ?_ | refine blk_alloc ?_ _)); exact BK319.out⟩
                 have n5_ : Aside0 (((w37.setCell ⟨go24, ((rd t328 (rd l1 x32_1)) : Int).toNat, none⟩ (.bool true)).setCell ⟨go24, ((rd l0_1 (rd t328 (rd l1 x32_1))) : Int).toNat, none⟩ (.bool true)).heap[gb323]? = some (.cells #[.slice (some ⟨go24, 0, none⟩) x324000_1.length co24] 67 (0, 0))) := ⟨by (with_reducible repeat (first | refine blk_drewN ?_ _ | refine blk_drew ?_ | refine blk_alloc ?_ _)); refine blk_far ?_ (by have h_ := Kd.R_ne HO_324000.out BK323.out (by decide); intro e_; exact h_ (by rw [e_]; rfl)) _; (with_reducible repeat (first | refine blk_drewN ?_ _ | refine blk_drew ?_ | refine blk_alloc ?_ _)); refine blk_far ?_ (by have h_ := Kd.R_ne HO_324000.out BK323.out (by decide); intro e_; exact h_ (by rw [e_]; rfl)) _; (with_reducible repeat (first | refine blk_drewN ?_ _ | refine blk_drew ?_ | refine blk_alloc ?_ _)); exact BK323.out⟩
                 have n6_ : Aside0 (Below w.heap.size w ((w37.setCell ⟨go24, ((rd t328 (rd l1 x32_1)) : Int).toNat, none⟩ (.bool true)).setCell ⟨go24, ((rd l0_1 (rd t328 (rd l1 x32_1))) : Int).toNat, none⟩ (.bool true))) := ⟨by repeat (first | (with_reducible first | exact HB.out | apply below_alloc | apply pw_below_drewN | apply below_drew1 | refine below_set ?_ GB24.out | refine below_set ?_ GB24.out | refine below_set ?_ GE319.out | refine below_set ?_ GE323.out) | exact HB.out)⟩
                 (try clear HO_7)
                 (try clear HO_320000)
                 (try clear HO_324000)
                 (try clear HO330)
                 (try clear BK319)
                 (try clear BK323)
                 (try clear HB)
                 generalize ((w37.setCell ⟨go24, ((rd t328 (rd l1 x32_1)) : Int).toNat, none⟩ (.bool true)).setCell ⟨go24, ((rd l0_1 (rd t328 (rd l1 x32_1))) : Int).toNat, none⟩ (.bool true)) = w40 at n0_ n1_ n2_ n3_ n4_ n5_ n6_ ⊢
                 have HO_7 := n0_
                 have HO_320000 := n1_
                 have HO_324000 := n2_
                 have HO330 := n3_
                 have BK319 := n4_
                 have BK323 := n5_
                 have HB := n6_
                 clear n0_ n1_ n2_ n3_ n4_ n5_ n6_
                 have p29 : 0 ≤ ((rd t328 (rd l1 x32_1)) : Int) := of_decide_eq_true (by first | (with_reducible assumption) | assumption)
                 have q29 : ((rd t328 (rd l1 x32_1)) : Int) < ((x7_1.length : Int) : Int) := of_decide_eq_true (by first | (with_reducible assumption) | assumption)
                 obtain ⟨go29, co29, eo29, gb29, gl29, cl29, HG29⟩ := Kd.R_form HO_7.out (by omega)
                 (first | cases eo29 | (injection eo29 with ea_ en_ ec_; (first | subst ea_ | (injection ea_ with ea_; subst ea_)); subst ec_; clear en_))
                 have GB29 := Aside0.mk gb29
                 have GG29 := Aside0.mk HG29
                 clear gb29 gl29 HG29
                 obtain ⟨hx29_0, hf29_0⟩ := Kd.R_celln 0 HO_7.out ((rd t328 (rd l1 x32_1)) : Int) p29 q29
                 replace p29 := eq_true p29
                 replace q29 := eq_true q29
                 obtain ⟨hy41_, hz41_⟩ := Kd.R_celln 0 HO_7.out ((rd t328 (rd l1 x32_1)) : Int) (of_decide_eq_true (by first | (with_reducible assumption) | assumption)) (of_decide_eq_true (by first | (with_reducible assumption) | assumption))
                 have HP41 := Kd.R_putg HO_7.out ((rd t328 (rd l1 x32_1)) : Int) (rd l0_1 (rd t328 (rd l1 x32_1)))
                 try go_wp2_with (first | ((with_reducible refine gate_store (t := 3) (p := 58) rfl ?_); refine store_event (t := 3) (p := 58) (v := ?vo_w42) (w1 := (w40.setCell ⟨go29, ((rd t328 (rd l1 x32_1)) : Int).toNat, none⟩ (.int .i64 (rd l0_1 (rd t328 (rd l1 x32_1)))))) ?hg ?ho ?hn ?hr ?_; (case ho => rfl); (case hg => rfl); (case hn => rfl); (case hr => first | (go_simp; done) | (go_simp; rfl)); intro w42 hw; have hg : w40.grownBy w42 (some go29) := (by rw [hw]; exact HP41.2); have hp_ : Kd.R (Kd.int .i64) 3 w42 w.heap.size (fun k_ => (w.heap.size ≤ k_) ∧ some k_ ≠ (.slice (some ad331) t328.length co35 : Value).ownBlock) (.slice (some ⟨go29, 0, none⟩) x7_1.length co29) y335 := (by rw [hw, Ny335.out]; exact HP41.1); clear HP41; have n0_ := Aside0.mk (hp_); have n1_ := Aside0.mk (Kd.V_afterv (v := (.slice (some ⟨go29, 0, none⟩) x7_1.length co29)) (v1 := (.slice (some ⟨go29, 0, none⟩) x7_1.length co29)) (ok := (fun k_ => (P0_0_ k_ ∨ w.heap.size ≤ k_) ∧ some k_ ≠ (.slice (some ⟨go24, 0, none⟩) x324000_1.length co24 : Value).ownBlock ∧ some k_ ≠ (.slice (some ad331) t328.length co35 : Value).ownBlock ∧ k_ ≠ gb319 ∧ k_ ≠ gb323)) (by (with_reducible repeat (first | apply Kd.V_alloc | apply Kd.V_drewN | apply Kd.V_drew)); exact Kd.V_mono HO_320000.out (fun _ hk => ⟨⟨hk.1, ⟨hk.2.2.1, ⟨hk.2.2.2.1, ⟨hk.2.2.2.2.1, hk.2.2.2.2.2⟩⟩⟩⟩, hk.2.1⟩)) hg (.inl rfl)); have n2_ := Aside0.mk (Kd.R_over' (v := (.slice (some ⟨go29, 0, none⟩) x7_1.length co29)) (by (with_reducible repeat (first | apply Kd.R_alloc | apply Kd.R_drewN | apply Kd.R_drew)); exact HO_324000.out) (Kd.R_typed HO_7.out) (by decide) hg); have n3_ := Aside0.mk (blk_grown (g := gb319) (o := .cells #[.slice A0_0 l0_0.length c0_0, .slice (some ad332) l0_1.length c0_1] 27 (0, 0)) (by (with_reducible repeat (first | refine blk_drewN ?_ _ | refine blk_drew ?_ | refine blk_alloc ?_ _)); exact BK319.out) hg (Kd.R_ne HO_7.out BK319.out (by decide))); have n4_ := Aside0.mk (blk_grown (g := gb323) (o := .cells #[.slice (some ⟨go24, 0, none⟩) x324000_1.length co24] 67 (0, 0)) (by (with_reducible repeat (first | refine blk_drewN ?_ _ | refine blk_drew ?_ | refine blk_alloc ?_ _)); exact BK323.out) hg (Kd.R_ne HO_7.out BK323.out (by decide))); have n5_ := Aside0.mk (Kd.R_after (v := (.slice (some ⟨go29, 0, none⟩) x7_1.length co29)) (v1 := (.slice (some ⟨go29, 0, none⟩) x7_1.length co29)) (ok := (fun k_ => (w.heap.size ≤ k_))) (by (with_reducible repeat (first | apply Kd.R_alloc | apply Kd.R_drewN | apply Kd.R_drew)); exact HO330.out) hg (.inl rfl)); have n6_ := Aside0.mk ((by rw [hw]; exact below_set (HB.out) GB29.out : Below w.heap.size w w42)); clear HO_7 HO_320000 HO_324000 BK319 BK323 HO330 HB; have HO_7 := n0_; have HO_320000 := n1_; have HO_324000 := n2_; have BK319 := n3_; have BK323 := n4_; have HO330 := n5_; have HB := n6_; clear n0_ n1_ n2_ n3_ n4_ n5_ n6_ hg hw hp_; have p31 : 0 ≤ ((rd l0_1 (rd t328 (rd l1 x32_1))) : Int) := of_decide_eq_true (by first | (with_reducible assumption) | assumption); have q31 : ((rd l0_1 (rd t328 (rd l1 x32_1))) : Int) < ((x7_1.length : Int) : Int) := of_decide_eq_true (by first | (with_reducible assumption) | assumption); obtain ⟨hx31_0, hf31_0⟩ := Kd.R_celln 0 HO_7.out ((rd l0_1 (rd t328 (rd l1 x32_1))) : Int) p31 q31; replace p31 := eq_true p31; replace q31 := eq_true q31; obtain ⟨hy43_, hz43_⟩ := Kd.R_celln 0 HO_7.out ((rd l0_1 (rd t328 (rd l1 x32_1))) : Int) (of_decide_eq_true (by first | (with_reducible assumption) | assumption)) (of_decide_eq_true (by first | (with_reducible assumption) | assumption)); have HP43 := Kd.R_putg HO_7.out ((rd l0_1 (rd t328 (rd l1 x32_1))) : Int) (rd t328 (rd l1 x32_1))) | ((with_reducible refine gate_store (t := 3) (p := 59) rfl ?_); refine store_event (t := 3) (p := 59) (v := ?vo_w44) (w1 := (w42.setCell ⟨go29, ((rd l0_1 (rd t328 (rd l1 x32_1))) : Int).toNat, none⟩ (.int .i64 (rd t328 (rd l1 x32_1))))) ?hg ?ho ?hn ?hr ?_; (case ho => rfl); (case hg => rfl); (case hn => rfl); (case hr => first | (go_simp; done) | (go_simp; rfl)); intro w44 hw; have hg : w42.grownBy w44 (some go29) := (by rw [hw]; exact HP43.2); have hp_ : Kd.R (Kd.int .i64) 3 w44 w.heap.size (fun k_ => (w.heap.size ≤ k_) ∧ some k_ ≠ (.slice (some ad331) t328.length co35 : Value).ownBlock) (.slice (some ⟨go29, 0, none⟩) x7_1.length co29) y336 := (by rw [hw, Ny336.out]; exact HP43.1); clear HP43; have n0_ := Aside0.mk (hp_); have n1_ := Aside0.mk (Kd.V_afterv (v := (.slice (some ⟨go29, 0, none⟩) x7_1.length co29)) (v1 := (.slice (some ⟨go29, 0, none⟩) x7_1.length co29)) (ok := (fun k_ => (P0_0_ k_ ∨ w.heap.size ≤ k_) ∧ some k_ ≠ (.slice (some ⟨go24, 0, none⟩) x324000_1.length co24 : Value).ownBlock ∧ some k_ ≠ (.slice (some ad331) t328.length co35 : Value).ownBlock ∧ k_ ≠ gb319 ∧ k_ ≠ gb323)) (by (with_reducible repeat (first | apply Kd.V_alloc | apply Kd.V_drewN | apply Kd.V_drew)); exact HO_320000.out) hg (.inl rfl)); have n2_ := Aside0.mk (Kd.R_over' (v := (.slice (some ⟨go29, 0, none⟩) x7_1.length co29)) (by (with_reducible repeat (first | apply Kd.R_alloc | apply Kd.R_drewN | apply Kd.R_drew)); exact HO_324000.out) (Kd.R_typed HO_7.out) (by decide) hg); have n3_ := Aside0.mk (blk_grown (g := gb319) (o := .cells #[.slice A0_0 l0_0.length c0_0, .slice (some ad332) l0_1.length c0_1] 27 (0, 0)) (by (with_reducible repeat (first | refine blk_drewN ?_ _ | refine blk_drew ?_ | refine blk_alloc ?_ _)); exact BK319.out) hg (Kd.R_ne HO_7.out BK319.out (by decide))); have n4_ := Aside0.mk (blk_grown (g := gb323) (o := .cells #[.slice (some ⟨go24, 0, none⟩) x324000_1.length co24] 67 (0, 0)) (by (with_reducible repeat (first | refine blk_drewN ?_ _ | refine blk_drew ?_ | refine blk_alloc ?_ _)); exact BK323.out) hg (Kd.R_ne HO_7.out BK323.out (by decide))); have n5_ := Aside0.mk (Kd.R_after (v := (.slice (some ⟨go29, 0, none⟩) x7_1.length co29)) (v1 := (.slice (some ⟨go29, 0, none⟩) x7_1.length co29)) (ok := (fun k_ => (w.heap.size ≤ k_))) (by (with_reducible repeat (first | apply Kd.R_alloc | apply Kd.R_drewN | apply Kd.R_drew)); exact HO330.out) hg (.inl rfl)); have n6_ := Aside0.mk ((by rw [hw]; exact below_set (HB.out) GB29.out : Below w.heap.size w w44)); clear HO_7 HO_320000 HO_324000 BK319 BK323 HO330 HB; have HO_7 := n0_; have HO_320000 := n1_; have HO_324000 := n2_; have BK319 := n3_; have BK323 := n4_; have HO330 := n5_; have HB := n6_; clear n0_ n1_ n2_ n3_ n4_ n5_ n6_; clear hg hw hp_))
                 (first | go_roundg k1 | (refine Handed.intro k1 ?measure ?_; rotate_left; go_step; (try simp only [add_plain]); (repeat apply Exists.intro); refine ⟨?rel, rfl⟩))
                 case measure => have := HK1.out; omega
                 case rel => exact ⟨(y336), (wrap64 (x32_1 + 1)), (y334), (.slice (some ⟨go24, 0, none⟩) x324000_1.length co24), (by first | rfl | (simp; done) | (simp [*]; done)), H', ⟨by have := HK1.out; omega⟩, ⟨by (with_reducible repeat (first | apply Kd.R_alloc | apply Kd.R_drewN | apply Kd.R_drew)); exact Kd.R_mono HO_7.out (fun _ hk => hk.1)⟩, ⟨by (with_reducible repeat (first | apply Kd.V_alloc | apply Kd.V_drewN | apply Kd.V_drew)); exact Kd.V_mono HO_320000.out (fun _ hk => ⟨hk.1.1, ⟨hk.2, ⟨hk.1.2.1, ⟨hk.1.2.2.2.1, hk.1.2.2.2.2⟩⟩⟩⟩)⟩, ⟨by (with_reducible repeat (first | apply Kd.R_alloc | apply Kd.R_drewN | apply Kd.R_drew)); exact HO_324000.out⟩, ⟨by (with_reducible repeat (first | refine blk_drewN ?_ _ | refine blk_drew ?_ | refine blk_alloc ?_ _)); exact BK319.out⟩, ⟨by (with_reducible repeat (first | refine blk_drewN ?_ _ | refine blk_drew ?_ | refine blk_alloc ?_ _)); exact BK323.out⟩, ⟨by repeat (first | (with_reducible first | exact HB.out | apply below_alloc | apply pw_below_drewN | apply below_drew1 | refine below_set ?_ GE319.out | refine below_set ?_ GE323.out) | exact HB.out)⟩⟩
                ·
                 rw [if_neg c30] at H
                 exact absurd H (by simp)
               ·
                rw [if_neg c28] at H
                exact absurd H (by simp)
              ·
               rw [if_neg c26] at H
               exact absurd H (by simp)
             ·
              rw [if_neg c25] at H
              exact absurd H (by simp)
            ·
             rw [if_neg c23] at H
             exact absurd H (by simp)
           ·
            rw [if_neg c22] at H
            exact absurd H (by simp)
          ·
           rw [if_neg c21] at H
           exact absurd H (by simp)
         ·
          rw [if_neg c20] at H
          exact absurd H (by simp)
        ·
         rw [if_neg c19] at H
         exact absurd H (by simp)
       ·
        rw [if_neg c17] at H
        exact absurd H (by simp)
      ·
       rw [if_neg c16] at H
       exact absurd H (by simp)
     ·
      rw [if_neg c15] at H
      have c15b0 : decide (x32_1 < (l1.length : Int)) = false := decide_eq_false c15
      clear c15
      obtain ⟨y337, hy337⟩ : ∃ y_ : List (List Int), y_ = (([l0_0, x7_1] : List (List Int))) := ⟨_, rfl⟩
      replace H : ((impl_orbits.f k1 y337).bind fun t340 => (impl_ribbon.l1 k1 l1 (l0_0.length : Int) x7_1 0 t340 (t340.length : Int) 0 l0_0 l0_1 x324000_1)) = some r := by first | (rw [hy337]; with_reducible exact H) | (have H2_ := (Option.bind_some _ _).symm.trans H; rw [hy337]; with_reducible exact H2_) | (have H2_ := (Option.bind_some _ _).symm.trans H; with_reducible exact H2_) | with_reducible exact H | (rw [hy337]; exact H) | exact H
      have Ny337 := Aside0.mk hy337
      clear hy337
      replace H := Option.bind_eq_some_iff.mp H
      obtain ⟨t340, A450, H⟩ := H
      replace H : (impl_ribbon.l1 k1 l1 (l0_0.length : Int) x7_1 0 t340 (t340.length : Int) 0 l0_0 l0_1 x324000_1) = some r := H
      have A45 := Aside0.mk A450
      clear A450
      have H' := Aside0.mk H
      clear H
      have hnb46 := NB319_323.out
      have hnc46 := NB323_319.out
      have hcz47_0 : wr.cell? ⟨gb319, 0, none⟩ = some (.slice A0_0 l0_0.length c0_0) := (blk_cell BK319.out 0).trans rfl
      have hcz47_1 : wr.cell? ⟨gb319, 1, none⟩ = some (.slice A0_1 l0_1.length c0_1) := (blk_cell BK319.out 1).trans rfl
      have hfz47_0 := blk_frozen BK319.out 0
      have hfz47_1 := blk_frozen BK319.out 1
      obtain ⟨Ao48, co48, eo48⟩ := Kd.R_slice HO_7.out
      subst eo48
      go_wp2_with (first | ((with_reducible refine gate_dst (N := 64) rfl ?_); refine Kd.N_lit (Kd.slice 3 (Kd.int .i64)) _ 22 ?hg (N' := 64) ?hd (xs := ([l0_0, x7_1] : List (List Int))) (inner := [.slice A0_0 l0_0.length c0_0, .slice Ao48 x7_1.length co48]) (ok := (fun k_ => (P0_0_ k_ ∨ w.heap.size ≤ k_) ∧ some k_ ≠ (u324000 : Value).ownBlock ∧ k_ ≠ gb319 ∧ k_ ≠ gb323)) (okp := (fun k_ => (P0_0_ k_ ∨ w.heap.size ≤ k_) ∧ some k_ ≠ (u324000 : Value).ownBlock ∧ k_ ≠ gb319 ∧ k_ ≠ gb323)) ?hr ?hp (fun _ hk => hk) ((show ∀ k_, wr.heap.size ≤ k_ → (fun k_ => (P0_0_ k_ ∨ w.heap.size ≤ k_) ∧ some k_ ≠ (u324000 : Value).ownBlock ∧ k_ ≠ gb319 ∧ k_ ≠ gb323) k_ from fun k_ hk => ⟨(.inr (Nat.le_trans (below_size (by repeat (first | (with_reducible first | exact HB.out | apply below_alloc | apply pw_below_drewN | apply below_drew1 | refine below_set ?_ GE319.out | refine below_set ?_ GE323.out) | exact HB.out))) hk)), Kd.fresh' (Kd.R_lt (by (with_reducible repeat (first | apply Kd.R_alloc | apply Kd.R_drewN | apply Kd.R_drew)); exact HO_324000.out)) k_ hk, Kd.freshB (g := gb319) (o := .cells #[.slice A0_0 l0_0.length c0_0, .slice A0_1 l0_1.length c0_1] 27 (0, 0)) (by (with_reducible repeat (first | refine blk_drewN ?_ _ | refine blk_drew ?_ | refine blk_alloc ?_ _)); exact BK319.out) k_ hk, Kd.freshB (g := gb323) (o := .cells #[u324000] 67 (0, 0)) (by (with_reducible repeat (first | refine blk_drewN ?_ _ | refine blk_drew ?_ | refine blk_alloc ?_ _)); exact BK323.out) k_ hk⟩) _ (Nat.le_refl _)) (Below.refl _ _) (Nat.le_refl _) (by simp) ?_; (case hd => rfl); (case hg => rfl); (case hr => first | (go_simp; done) | (go_simp; rfl)); (case hp => exact (Reps.one (show Kd.FK (Kd.slice 3 (Kd.int .i64)) _ _ l0_0 [.slice A0_0 l0_0.length c0_0] from (Kd.FK_slice_mk (Kd.V_reads' (Kd.V_mono (ok' := (fun k_ => (P0_0_ k_ ∨ w.heap.size ≤ k_) ∧ some k_ ≠ (u324000 : Value).ownBlock ∧ k_ ≠ gb319 ∧ k_ ≠ gb323)) (HO_320000.out) (fun k_ hk => ⟨hk.1, ⟨hk.2.2.1, ⟨hk.2.2.2.1, hk.2.2.2.2⟩⟩⟩))).2.1 (Kd.V_F (Kd.V_mono (ok' := (fun k_ => (P0_0_ k_ ∨ w.heap.size ≤ k_) ∧ some k_ ≠ (u324000 : Value).ownBlock ∧ k_ ≠ gb319 ∧ k_ ≠ gb323)) (HO_320000.out) (fun k_ hk => ⟨hk.1, ⟨hk.2.2.1, ⟨hk.2.2.2.1, hk.2.2.2.2⟩⟩⟩))))) (Reps.one (show Kd.FK (Kd.slice 3 (Kd.int .i64)) _ _ x7_1 [.slice Ao48 x7_1.length co48] from (Kd.FK_slice_mk (Kd.R_reads' (Kd.R_mono (ok' := (fun k_ => (P0_0_ k_ ∨ w.heap.size ≤ k_) ∧ some k_ ≠ (u324000 : Value).ownBlock ∧ k_ ≠ gb319 ∧ k_ ≠ gb323)) (Kd.R_types (Kd.R_types (Kd.R_apart' (HO_7.out) (Kd.R_typed HO_324000.out) (by decide)) BK319.out (by decide)) BK323.out (by decide)) (fun k_ hk => ⟨(.inr (hk.1.1.1)), ⟨hk.1.1.2, ⟨hk.1.2, hk.2⟩⟩⟩))).2.1 (Kd.R_F (Kd.R_mono (ok' := (fun k_ => (P0_0_ k_ ∨ w.heap.size ≤ k_) ∧ some k_ ≠ (u324000 : Value).ownBlock ∧ k_ ≠ gb319 ∧ k_ ≠ gb323)) (Kd.R_types (Kd.R_types (Kd.R_apart' (HO_7.out) (Kd.R_typed HO_324000.out) (by decide)) BK319.out (by decide)) BK323.out (by decide)) (fun k_ hk => ⟨(.inr (hk.1.1.1)), ⟨hk.1.1.2, ⟨hk.1.2, hk.2⟩⟩⟩))))) (Reps.none _ _)))); intro v338 w49 ho50 hb hg_ hnew_; clear hg_ hnew_; (first | rw [← Ny337.out] at ho50 | (simp only [Int.reduceToNat] at ho50; rw [← Ny337.out] at ho50)); have n0_ := Aside0.mk (Kd.R_below (by (with_reducible repeat (first | apply Kd.R_alloc | apply Kd.R_drewN | apply Kd.R_drew)); exact HO_7.out) hb); have n1_ := Aside0.mk (Kd.V_elder' (by (with_reducible repeat (first | apply Kd.V_alloc | apply Kd.V_drewN | apply Kd.V_drew)); exact HO_320000.out) (by first | exact Kd.N_base ho50 | exact Kd.S_base ho50 | exact Kd.R_base ho50) hb); have n2_ := Aside0.mk (Kd.R_below (by (with_reducible repeat (first | apply Kd.R_alloc | apply Kd.R_drewN | apply Kd.R_drew)); exact HO_324000.out) hb); have n3_ := Aside0.mk (Kd.N_lower ho50 (below_size (by repeat (first | (with_reducible first | exact HB.out | apply below_alloc | apply pw_below_drewN | apply below_drew1 | refine below_set ?_ GE319.out | refine below_set ?_ GE323.out) | exact HB.out)))); have n4_ := Aside0.mk (blk_below (g := gb319) (o := .cells #[.slice A0_0 l0_0.length c0_0, .slice A0_1 l0_1.length c0_1] 27 (0, 0)) (by (with_reducible repeat (first | refine blk_drewN ?_ _ | refine blk_drew ?_ | refine blk_alloc ?_ _)); exact BK319.out) hb); have n5_ := Aside0.mk (blk_below (g := gb323) (o := .cells #[u324000] 67 (0, 0)) (by (with_reducible repeat (first | refine blk_drewN ?_ _ | refine blk_drew ?_ | refine blk_alloc ?_ _)); exact BK323.out) hb); have n6_ := Aside0.mk (below_step (by repeat (first | (with_reducible first | exact HB.out | apply below_alloc | apply pw_below_drewN | apply below_drew1 | refine below_set ?_ GE319.out | refine below_set ?_ GE323.out) | exact HB.out)) hb); clear HO_7 HO_320000 HO_324000 BK319 BK323 HB; have HO_7 := n0_; have HO_320000 := n1_; have HO_324000 := n2_; have HO339 := n3_; have BK319 := n4_; have BK323 := n5_; have HB := n6_; clear n0_ n1_ n2_ n3_ n4_ n5_ n6_ hb ho50; obtain ⟨Ao51, co51, eo51⟩ := Kd.N_slice HO339.out; subst eo51) | ((with_reducible refine gate_callee (f := 86) rfl ?_); refine goesL_ (some 65) rfl rfl Try.func86 (by kernel_rfl) rfl #[.slice Ao51 y337.length co51] rfl (by (try simp only [List.map_toArray, List.map_cons, List.map_nil]); first | done | rfl | (simp only [List.length_drop, List.length_take]; rfl)) ?_; (with_reducible refine (impl_orbits.calls k1 _ _ y337 t340 _ ?side1 ?side2 A45.out).mono ?_); (case side1 => repeat (first | exact (Kd.N_reads' HO339.out).2.2 | (with_reducible refine Kd.C_alloc ?_ _) | (with_reducible refine Kd.C_drewN ?_ _) | (with_reducible refine Kd.C_drew ?_))); (case side2 => exact (Kd.N_reads' HO339.out).2.1); rintro e w52 ⟨v341, rfl, ho0, hb⟩; refine ⟨_, rfl, ?_⟩; have n0_ := Aside0.mk (Kd.R_elder' (by (with_reducible repeat (first | apply Kd.R_alloc | apply Kd.R_drewN | apply Kd.R_drew)); exact HO_7.out) (Kd.R_base ho0) hb); have n1_ := Aside0.mk (Kd.V_elder' (by (with_reducible repeat (first | apply Kd.V_alloc | apply Kd.V_drewN | apply Kd.V_drew)); exact HO_320000.out) (Kd.R_base ho0) hb); have n2_ := Aside0.mk (Kd.R_below (by (with_reducible repeat (first | apply Kd.R_alloc | apply Kd.R_drewN | apply Kd.R_drew)); exact HO_324000.out) hb); have n3_ := Aside0.mk (Kd.N_elder' (by (with_reducible repeat (first | apply Kd.N_alloc | apply Kd.N_drewN | apply Kd.N_drew)); exact HO339.out) (Kd.R_base ho0) hb); have n4_ := Aside0.mk (Kd.R_lower (Kd.R_new' (Kd.R_newM (M := fun k_ => (w.heap.size ≤ k_)) ho0 (below_size (by repeat (first | (with_reducible first | exact HB.out | apply below_alloc | apply pw_below_drewN | apply below_drew1 | refine below_set ?_ GE319.out | refine below_set ?_ GE323.out) | exact HB.out))) (fun k_ h_ => h_)) (Kd.R_lt (by (with_reducible repeat (first | apply Kd.R_alloc | apply Kd.R_drewN | apply Kd.R_drew)); exact HO_7.out))) (below_size (by repeat (first | (with_reducible first | exact HB.out | apply below_alloc | apply pw_below_drewN | apply below_drew1 | refine below_set ?_ GE319.out | refine below_set ?_ GE323.out) | exact HB.out)))); have n5_ := Aside0.mk (blk_below (g := gb319) (o := .cells #[.slice A0_0 l0_0.length c0_0, .slice A0_1 l0_1.length c0_1] 27 (0, 0)) (by (with_reducible repeat (first | refine blk_drewN ?_ _ | refine blk_drew ?_ | refine blk_alloc ?_ _)); exact BK319.out) hb); have n6_ := Aside0.mk (blk_below (g := gb323) (o := .cells #[u324000] 67 (0, 0)) (by (with_reducible repeat (first | refine blk_drewN ?_ _ | refine blk_drew ?_ | refine blk_alloc ?_ _)); exact BK323.out) hb); have n7_ := Aside0.mk (below_step (by repeat (first | (with_reducible first | exact HB.out | apply below_alloc | apply pw_below_drewN | apply below_drew1 | refine below_set ?_ GE319.out | refine below_set ?_ GE323.out) | exact HB.out)) hb); clear HO_7 HO_320000 HO_324000 HO339 BK319 BK323 HB; have HO_7 := n0_; have HO_320000 := n1_; have HO_324000 := n2_; have HO339 := n3_; have HO342 := n4_; have BK319 := n5_; have BK323 := n6_; have HB := n7_; clear n0_ n1_ n2_ n3_ n4_ n5_ n6_ n7_; (try clear hb); (try clear hb2); (try clear hk); (try clear hi); (try clear ho0); obtain ⟨Ao53, co53, eo53⟩ := Kd.R_slice HO342.out; subst eo53))
      go_loopg [12, 67] k1 (fun kq v12 v67 w' => ∃ (x12_2 : Int) (x67_2 : Int), v12 = .int .i64 x12_2 ∧ v67 = .int .i64 x67_2 ∧ Aside0 (impl_ribbon.l1 kq l1 (l0_0.length : Int) x7_1 x12_2 t340 (t340.length : Int) x67_2 l0_0 l0_1 x324000_1 = some r) ∧ Aside0 (kq ≤ k1) ∧ Aside0 (Kd.R (Kd.int .i64) 3 w' w.heap.size (fun k_ => (w.heap.size ≤ k_) ∧ some k_ ≠ ((.slice Ao53 t340.length co53) : Value).ownBlock) (.slice Ao48 x7_1.length co48) x7_1) ∧ Aside0 (Kd.R (Kd.int .i64) 3 w' w.heap.size (fun k_ => (w.heap.size ≤ k_) ∧ some k_ ≠ ((.slice Ao48 x7_1.length co48) : Value).ownBlock) (.slice Ao53 t340.length co53) t340) ∧ Aside0 (Kd.V (Kd.int .i64) 3 w' w.heap.size (fun k_ => (P0_0_ k_ ∨ w.heap.size ≤ k_) ∧ some k_ ≠ ((.slice Ao48 x7_1.length co48) : Value).ownBlock ∧ some k_ ≠ ((.slice Ao53 t340.length co53) : Value).ownBlock ∧ some k_ ≠ (u324000 : Value).ownBlock ∧ k_ ≠ gb319 ∧ k_ ≠ gb323) (.slice A0_0 l0_0.length c0_0) l0_0) ∧ Aside0 (Kd.R Kd.bool 4 w' w.heap.size (fun k_ => (w.heap.size ≤ k_)) u324000 x324000_1) ∧ Aside0 (w'.heap[gb319]? = some (.cells #[(.slice A0_0 l0_0.length c0_0), (.slice A0_1 l0_1.length c0_1)] 27 (0, 0))) ∧ Aside0 (w'.heap[gb323]? = some (.cells #[u324000] 67 (0, 0))) ∧ Aside0 (Below w.heap.size w w'))
      case atStart => exact ⟨(0), (0), (by first | rfl | (simp; done) | (simp [*]; done)), (by first | rfl | (simp; done) | (simp [*]; done)), H', ⟨Nat.le_refl _⟩, ⟨by (with_reducible repeat (first | apply Kd.R_alloc | apply Kd.R_drewN | apply Kd.R_drew)); exact HO_7.out⟩, ⟨by (with_reducible repeat (first | apply Kd.R_alloc | apply Kd.R_drewN | apply Kd.R_drew)); exact Kd.R_mono HO342.out (fun _ hk => ⟨hk.1.1, hk.2⟩)⟩, ⟨by (with_reducible repeat (first | apply Kd.V_alloc | apply Kd.V_drewN | apply Kd.V_drew)); exact Kd.V_mono HO_320000.out (fun _ hk => ⟨hk.1.1.1, ⟨hk.1.1.2.1, ⟨hk.2, ⟨hk.1.1.2.2.1, ⟨hk.1.1.2.2.2.1, hk.1.1.2.2.2.2⟩⟩⟩⟩⟩)⟩, ⟨by (with_reducible repeat (first | apply Kd.R_alloc | apply Kd.R_drewN | apply Kd.R_drew)); exact HO_324000.out⟩, ⟨by (with_reducible repeat (first | refine blk_drewN ?_ _ | refine blk_drew ?_ | refine blk_alloc ?_ _)); exact BK319.out⟩, ⟨by (with_reducible repeat (first | refine blk_drewN ?_ _ | refine blk_drew ?_ | refine blk_alloc ?_ _)); exact BK323.out⟩, ⟨by repeat (first | (with_reducible first | exact HB.out | apply below_alloc | apply pw_below_drewN | apply below_drew1 | refine below_set ?_ GE319.out | refine below_set ?_ GE323.out) | exact HB.out)⟩⟩
      case round =>
       clear H'
       try clear c1
       try clear c2
       try clear p2
       try clear q2
       try clear hx2
       try clear hf2
       try clear c3
       try clear c3b0
       try clear c3b1
       try clear p3
       try clear q3
       try clear hx3
       try clear hf3
       try clear c4
       try clear c4b0
       try clear c4b1
       try clear c6
       try clear p6
       try clear c7
       try clear c8
       try clear c9
       try clear c12
       try clear c15
       try clear c15b0
       try clear c16
       try clear c16b0
       try clear c17
       try clear c17b0
       try clear c19
       try clear c19b0
       try clear c20
       try clear c20b0
       try clear c21
       try clear c21b0
       try clear c22
       try clear c22b0
       try clear c23
       try clear c23b0
       try clear p24
       try clear q24
       try clear hx24
       try clear hf24
       try clear c25
       try clear c25b0
       try clear c26
       try clear c26b0
       try clear p27
       try clear q27
       try clear hx27
       try clear hf27
       try clear c28
       try clear c28b0
       try clear p29
       try clear q29
       try clear hx29
       try clear hf29
       try clear c30
       try clear c30b0
       try clear p31
       try clear q31
       try clear hx31
       try clear hf31
       try clear c32
       try clear p32
       try clear q32
       try clear hx32
       try clear p33
       try clear q33
       try clear hx33
       try clear c46
       try clear hcz13_0
       try clear hcz33_0
       try clear hcz33_1
       try clear hcz36_0
       try clear hcz36_1
       try clear hcz47_0
       try clear hcz47_1
       try clear hcz7_0
       try clear hcz7_1
       try clear hfz13_0
       try clear hfz33_0
       try clear hfz33_1
       try clear hfz36_0
       try clear hfz36_1
       try clear hfz47_0
       try clear hfz47_1
       try clear hfz7_0
       try clear hfz7_1
       try clear hx24_0
       try clear hx27_0
       try clear hx29_0
       try clear hx31_0
       try clear hx327_0
       try clear hx331_0
       try clear hx332_0
       try clear p2
       try clear p24
       try clear p27
       try clear p29
       try clear p31
       try clear p327
       try clear p331
       try clear p332
       try clear q24
       try clear q27
       try clear q29
       try clear q31
       try clear q327
       try clear q331
       try clear q332
       obtain ⟨x12_2, x67_2, rfl, rfl, HA, HK2, HO_7, HO_65, HO_320000, HO_324000, BK319, BK323, HB⟩ := hrel
       cases gk with
       | zero => exact absurd HA.out (by simp [impl_ribbon.l1])
       | succ k2 =>
        have H := HA.out
        clear HA
        simp only [impl_ribbon.l1] at H
        by_cases c54 : x67_2 < (t340.length : Int)
        ·
         rw [if_pos c54] at H
         have c54b0 : decide (x67_2 < (t340.length : Int)) = true := decide_eq_true c54
         clear c54
         by_cases c55 : 0 ≤ x67_2
         ·
          rw [if_pos c55] at H
          have c55b0 : decide (0 ≤ x67_2) = true := decide_eq_true c55
          clear c55
          by_cases c56 : x67_2 < (t340.length : Int)
          ·
           rw [if_pos c56] at H
           have c56b0 : decide (x67_2 < (t340.length : Int)) = true := decide_eq_true c56
           clear c56
           by_cases c57 : x67_2 = (rd t340 x67_2)
           ·
            rw [if_pos c57] at H
            have c57b0 : (x67_2 == (rd t340 x67_2)) = true := beq_iff_eq.mpr c57
            have c57b1 : (x67_2 != (rd t340 x67_2)) = false := bne_eq_false_iff_eq.mpr c57
            clear c57
            have H' := Aside0.mk H
            clear H
            have p343 : 0 ≤ (x67_2 : Int) := of_decide_eq_true (by first | (with_reducible assumption) | assumption)
            have q343 : x67_2 < (t340.length : Int) := of_decide_eq_true (by first | (with_reducible assumption) | assumption)
            obtain ⟨ad343, e343, hx343_0⟩ := Kd.at_int (Kd.R_reads' HO_65.out).2.2 x67_2 p343 q343
            cases e343
            replace p343 := eq_true p343
            replace q343 := eq_true q343
            go_wp2
            (first | go_roundg k2 | (refine Handed.intro k2 ?measure ?_; rotate_left; go_step; (try simp only [add_plain]); (repeat apply Exists.intro); refine ⟨?rel, rfl⟩))
            case measure => have := HK1.out; have := HK2.out; omega
            case rel => exact ⟨(wrap64 (x12_2 + 1)), (wrap64 (x67_2 + 1)), (by first | rfl | (simp; done) | (simp [*]; done)), (by first | rfl | (simp; done) | (simp [*]; done)), H', ⟨by have := HK1.out; have := HK2.out; omega⟩, ⟨by (with_reducible repeat (first | apply Kd.R_alloc | apply Kd.R_drewN | apply Kd.R_drew)); exact HO_7.out⟩, ⟨by (with_reducible repeat (first | apply Kd.R_alloc | apply Kd.R_drewN | apply Kd.R_drew)); exact HO_65.out⟩, ⟨by (with_reducible repeat (first | apply Kd.V_alloc | apply Kd.V_drewN | apply Kd.V_drew)); exact HO_320000.out⟩, ⟨by (with_reducible repeat (first | apply Kd.R_alloc | apply Kd.R_drewN | apply Kd.R_drew)); exact HO_324000.out⟩, ⟨by (with_reducible repeat (first | refine blk_drewN ?_ _ | refine blk_drew ?_ | refine blk_alloc ?_ _)); exact BK319.out⟩, ⟨by (with_reducible repeat (first | refine blk_drewN ?_ _ | refine blk_drew ?_ | refine blk_alloc ?_ _)); exact BK323.out⟩, ⟨by repeat (first | (with_reducible first | exact HB.out | apply below_alloc | apply pw_below_drewN | apply below_drew1 | refine below_set ?_ GE319.out | refine below_set ?_ GE323.out) | exact HB.out)⟩⟩
           ·
            rw [if_neg c57] at H
            have c57b0 : (x67_2 == (rd t340 x67_2)) = false := beq_eq_false_iff_ne.mpr c57
            have c57b1 : (x67_2 != (rd t340 x67_2)) = true := bne_iff_ne.mpr c57
            have H' := Aside0.mk H
            clear H
            have p343 : 0 ≤ (x67_2 : Int) := of_decide_eq_true (by first | (with_reducible assumption) | assumption)
            have q343 : x67_2 < (t340.length : Int) := of_decide_eq_true (by first | (with_reducible assumption) | assumption)
            obtain ⟨ad343, e343, hx343_0⟩ := Kd.at_int (Kd.R_reads' HO_65.out).2.2 x67_2 p343 q343
            cases e343
            replace p343 := eq_true p343
            replace q343 := eq_true q343
            go_wp2
            (first | go_roundg k2 | (refine Handed.intro k2 ?measure ?_; rotate_left; go_step; (try simp only [add_plain]); (repeat apply Exists.intro); refine ⟨?rel, rfl⟩))
            case measure => have := HK1.out; have := HK2.out; omega
            case rel => exact ⟨(x12_2), (wrap64 (x67_2 + 1)), (by first | rfl | (simp; done) | (simp [*]; done)), (by first | rfl | (simp; done) | (simp [*]; done)), H', ⟨by have := HK1.out; have := HK2.out; omega⟩, ⟨by (with_reducible repeat (first | apply Kd.R_alloc | apply Kd.R_drewN | apply Kd.R_drew)); exact HO_7.out⟩, ⟨by (with_reducible repeat (first | apply Kd.R_alloc | apply Kd.R_drewN | apply Kd.R_drew)); exact HO_65.out⟩, ⟨by (with_reducible repeat (first | apply Kd.V_alloc | apply Kd.V_drewN | apply Kd.V_drew)); exact HO_320000.out⟩, ⟨by (with_reducible repeat (first | apply Kd.R_alloc | apply Kd.R_drewN | apply Kd.R_drew)); exact HO_324000.out⟩, ⟨by (with_reducible repeat (first | refine blk_drewN ?_ _ | refine blk_drew ?_ | refine blk_alloc ?_ _)); exact BK319.out⟩, ⟨by (with_reducible repeat (first | refine blk_drewN ?_ _ | refine blk_drew ?_ | refine blk_alloc ?_ _)); exact BK323.out⟩, ⟨by repeat (first | (with_reducible first | exact HB.out | apply below_alloc | apply pw_below_drewN | apply below_drew1 | refine below_set ?_ GE319.out | refine below_set ?_ GE323.out) | exact HB.out)⟩⟩
          ·
           rw [if_neg c56] at H
           exact absurd H (by simp)
         ·
          rw [if_neg c55] at H
          exact absurd H (by simp)
        ·
         rw [if_neg c54] at H
         have c54b0 : decide (x67_2 < (t340.length : Int)) = false := decide_eq_false c54
         clear c54
         replace H := Option.bind_eq_some_iff.mp H
         obtain ⟨t344, A580, H⟩ := H
         replace H : (impl_ribbon.l2 k2 l1 (l0_0.length : Int) x7_1 x12_2 0 t344 (t344.length : Int) 0 l0_0 l0_1 x324000_1) = some r := H
         have A58 := Aside0.mk A580
         clear A580
         have H' := Aside0.mk H
         clear H
         have hnb59 := NB319_323.out
         have hnc59 := NB323_319.out
         have hcz60_0 : wr.cell? ⟨gb319, 0, none⟩ = some (.slice A0_0 l0_0.length c0_0) := (blk_cell BK319.out 0).trans rfl
         have hcz60_1 : wr.cell? ⟨gb319, 1, none⟩ = some (.slice A0_1 l0_1.length c0_1) := (blk_cell BK319.out 1).trans rfl
         have hfz60_0 := blk_frozen BK319.out 0
         have hfz60_1 := blk_frozen BK319.out 1
         go_wp2_with (first | ((with_reducible refine gate_callee (f := 62) rfl ?_); refine goesL_ (some 80) rfl rfl Try.func62 (by kernel_rfl) rfl #[.slice A0_0 l0_0.length c0_0] rfl (by (try simp only [List.map_toArray, List.map_cons, List.map_nil]); first | done | rfl | (simp only [List.length_drop, List.length_take]; rfl)) ?_; (with_reducible refine (impl_cyclesOf.calls k2 _ _ l0_0 t344 _ ?side1 ?side2 A58.out).mono ?_); (case side1 => repeat (first | exact (Kd.V_reads' HO_320000.out).2.2 | (with_reducible refine Kd.C_alloc ?_ _) | (with_reducible refine Kd.C_drewN ?_ _) | (with_reducible refine Kd.C_drew ?_))); (case side2 => exact (Kd.V_reads' HO_320000.out).2.1); rintro e w61 ⟨v345, rfl, ho0, hb⟩; refine ⟨_, rfl, ?_⟩; have n0_ := Aside0.mk (Kd.R_below (by (with_reducible repeat (first | apply Kd.R_alloc | apply Kd.R_drewN | apply Kd.R_drew)); exact HO_7.out) hb); have n1_ := Aside0.mk (Kd.R_below (by (with_reducible repeat (first | apply Kd.R_alloc | apply Kd.R_drewN | apply Kd.R_drew)); exact HO_65.out) hb); have n2_ := Aside0.mk (Kd.V_elder' (by (with_reducible repeat (first | apply Kd.V_alloc | apply Kd.V_drewN | apply Kd.V_drew)); exact HO_320000.out) (by first | exact Kd.N_base ho0 | exact Kd.S_base ho0 | exact Kd.R_base ho0) hb); have n3_ := Aside0.mk (Kd.R_below (by (with_reducible repeat (first | apply Kd.R_alloc | apply Kd.R_drewN | apply Kd.R_drew)); exact HO_324000.out) hb); have n4_ := Aside0.mk (Kd.N_lower (Kd.N_mono (ok' := fun k_ => (P0_0_ k_ ∨ w.heap.size ≤ k_) ∧ some k_ ≠ (.slice Ao48 x7_1.length co48 : Value).ownBlock ∧ some k_ ≠ (.slice Ao53 t340.length co53 : Value).ownBlock ∧ some k_ ≠ (u324000 : Value).ownBlock ∧ k_ ≠ gb319 ∧ k_ ≠ gb323) (Kd.S_N (Kd.S_bound ho0)) (fun k_ hk_ => ⟨(.inr (Nat.le_trans (below_size (by repeat (first | (with_reducible first | exact HB.out | apply below_alloc | apply pw_below_drewN | apply below_drew1 | refine below_set ?_ GE319.out | refine below_set ?_ GE323.out) | exact HB.out))) hk_.2.1)), (Kd.fresh' (Kd.R_lt (by (with_reducible repeat (first | apply Kd.R_alloc | apply Kd.R_drewN | apply Kd.R_drew)); exact HO_7.out)) k_ hk_.2.1), (Kd.fresh' (Kd.R_lt (by (with_reducible repeat (first | apply Kd.R_alloc | apply Kd.R_drewN | apply Kd.R_drew)); exact HO_65.out)) k_ hk_.2.1), (Kd.fresh' (Kd.R_lt (by (with_reducible repeat (first | apply Kd.R_alloc | apply Kd.R_drewN | apply Kd.R_drew)); exact HO_324000.out)) k_ hk_.2.1), (Kd.freshB (g := gb319) (o := .cells #[.slice A0_0 l0_0.length c0_0, .slice A0_1 l0_1.length c0_1] 27 (0, 0)) (by (with_reducible repeat (first | refine blk_drewN ?_ _ | refine blk_drew ?_ | refine blk_alloc ?_ _)); exact BK319.out) k_ hk_.2.1), (Kd.freshB (g := gb323) (o := .cells #[u324000] 67 (0, 0)) (by (with_reducible repeat (first | refine blk_drewN ?_ _ | refine blk_drew ?_ | refine blk_alloc ?_ _)); exact BK323.out) k_ hk_.2.1)⟩)) (below_size (by repeat (first | (with_reducible first | exact HB.out | apply below_alloc | apply pw_below_drewN | apply below_drew1 | refine below_set ?_ GE319.out | refine below_set ?_ GE323.out) | exact HB.out)))); have n5_ := Aside0.mk (blk_below (g := gb319) (o := .cells #[.slice A0_0 l0_0.length c0_0, .slice A0_1 l0_1.length c0_1] 27 (0, 0)) (by (with_reducible repeat (first | refine blk_drewN ?_ _ | refine blk_drew ?_ | refine blk_alloc ?_ _)); exact BK319.out) hb); have n6_ := Aside0.mk (blk_below (g := gb323) (o := .cells #[u324000] 67 (0, 0)) (by (with_reducible repeat (first | refine blk_drewN ?_ _ | refine blk_drew ?_ | refine blk_alloc ?_ _)); exact BK323.out) hb); have n7_ := Aside0.mk (below_step (by repeat (first | (with_reducible first | exact HB.out | apply below_alloc | apply pw_below_drewN | apply below_drew1 | refine below_set ?_ GE319.out | refine below_set ?_ GE323.out) | exact HB.out)) hb); clear HO_7 HO_65 HO_320000 HO_324000 BK319 BK323 HB; have HO_7 := n0_; have HO_65 := n1_; have HO_320000 := n2_; have HO_324000 := n3_; have HO346 := n4_; have BK319 := n5_; have BK323 := n6_; have HB := n7_; clear n0_ n1_ n2_ n3_ n4_ n5_ n6_ n7_; (try clear hb); (try clear hb2); (try clear hk); (try clear hi); (try clear ho0); obtain ⟨Ao62, co62, eo62⟩ := Kd.N_slice HO346.out; subst eo62))
         go_loopg [15, 82] k2 (fun kq v15 v82 w' => ∃ (x15_3 : Int) (x82_3 : Int), v15 = .int .i64 x15_3 ∧ v82 = .int .i64 x82_3 ∧ Aside0 (impl_ribbon.l2 kq l1 (l0_0.length : Int) x7_1 x12_2 x15_3 t344 (t344.length : Int) x82_3 l0_0 l0_1 x324000_1 = some r) ∧ Aside0 (kq ≤ k2) ∧ Aside0 (Kd.R (Kd.int .i64) 3 w' w.heap.size (fun k_ => (w.heap.size ≤ k_)) (.slice Ao48 x7_1.length co48) x7_1) ∧ Aside0 (Kd.N (Kd.slice 3 (Kd.int .i64)) 22 w' w.heap.size (fun k_ => (P0_0_ k_ ∨ w.heap.size ≤ k_) ∧ some k_ ≠ ((.slice Ao48 x7_1.length co48) : Value).ownBlock ∧ some k_ ≠ (u324000 : Value).ownBlock ∧ k_ ≠ gb319 ∧ k_ ≠ gb323) (.slice Ao62 t344.length co62) t344) ∧ Aside0 (Kd.V (Kd.int .i64) 3 w' w.heap.size (fun k_ => (P0_0_ k_ ∨ w.heap.size ≤ k_) ∧ some k_ ≠ ((.slice Ao48 x7_1.length co48) : Value).ownBlock ∧ some k_ ≠ ((.slice Ao62 t344.length co62) : Value).ownBlock ∧ some k_ ≠ (u324000 : Value).ownBlock ∧ k_ ≠ gb319 ∧ k_ ≠ gb323) (.slice A0_0 l0_0.length c0_0) l0_0) ∧ Aside0 (Kd.R Kd.bool 4 w' w.heap.size (fun k_ => (w.heap.size ≤ k_)) u324000 x324000_1) ∧ Aside0 (w'.heap[gb319]? = some (.cells #[(.slice A0_0 l0_0.length c0_0), (.slice A0_1 l0_1.length c0_1)] 27 (0, 0))) ∧ Aside0 (w'.heap[gb323]? = some (.cells #[u324000] 67 (0, 0))) ∧ Aside0 (Below w.heap.size w w'))
         case atStart => exact ⟨(0), (0), (by first | rfl | (simp; done) | (simp [*]; done)), (by first | rfl | (simp; done) | (simp [*]; done)), H', ⟨Nat.le_refl _⟩, ⟨by (with_reducible repeat (first | apply Kd.R_alloc | apply Kd.R_drewN | apply Kd.R_drew)); exact Kd.R_mono HO_7.out (fun _ hk => hk.1)⟩, ⟨by (with_reducible repeat (first | apply Kd.N_alloc | apply Kd.N_drewN | apply Kd.N_drew)); exact Kd.N_mono HO346.out (fun _ hk => ⟨hk.1, ⟨hk.2.1, ⟨hk.2.2.2.1, ⟨hk.2.2.2.2.1, hk.2.2.2.2.2⟩⟩⟩⟩)⟩, ⟨by (with_reducible repeat (first | apply Kd.V_alloc | apply Kd.V_drewN | apply Kd.V_drew)); exact Kd.V_mono HO_320000.out (fun _ hk => ⟨hk.1.1, ⟨hk.1.2.1, ⟨hk.2, ⟨hk.1.2.2.2.1, ⟨hk.1.2.2.2.2.1, hk.1.2.2.2.2.2⟩⟩⟩⟩⟩)⟩, ⟨by (with_reducible repeat (first | apply Kd.R_alloc | apply Kd.R_drewN | apply Kd.R_drew)); exact HO_324000.out⟩, ⟨by (with_reducible repeat (first | refine blk_drewN ?_ _ | refine blk_drew ?_ | refine blk_alloc ?_ _)); exact BK319.out⟩, ⟨by (with_reducible repeat (first | refine blk_drewN ?_ _ | refine blk_drew ?_ | refine blk_alloc ?_ _)); exact BK323.out⟩, ⟨by repeat (first | (with_reducible first | exact HB.out | apply below_alloc | apply pw_below_drewN | apply below_drew1 | refine below_set ?_ GE319.out | refine below_set ?_ GE323.out) | exact HB.out)⟩⟩
         case round =>
          clear H'
          try clear c1
          try clear c2
          try clear p2
          try clear q2
          try clear hx2
          try clear hf2
          try clear c3
          try clear c3b0
          try clear c3b1
          try clear p3
          try clear q3
          try clear hx3
          try clear hf3
          try clear c4
          try clear c4b0
          try clear c4b1
          try clear c5
          try clear c6
          try clear p6
          try clear c7
          try clear c8
          try clear c9
          try clear c12
          try clear c15
          try clear c15b0
          try clear c16
          try clear c16b0
          try clear c17
          try clear c17b0
          try clear c19
          try clear c19b0
          try clear c20
          try clear c20b0
          try clear c21
          try clear c21b0
          try clear c22
          try clear c22b0
          try clear c23
          try clear c23b0
          try clear p24
          try clear q24
          try clear hx24
          try clear hf24
          try clear c25
          try clear c25b0
          try clear c26
          try clear c26b0
          try clear p27
          try clear q27
          try clear hx27
          try clear hf27
          try clear c28
          try clear c28b0
          try clear p29
          try clear q29
          try clear hx29
          try clear hf29
          try clear c30
          try clear c30b0
          try clear p31
          try clear q31
          try clear hx31
          try clear hf31
          try clear c32
          try clear p32
          try clear q32
          try clear hx32
          try clear p33
          try clear q33
          try clear hx33
          try clear p34
          try clear q34
          try clear hx34
          try clear c46
          try clear c54
          try clear c54b0
          try clear c55
          try clear c55b0
          try clear c56
          try clear c56b0
          try clear c57
          try clear c57b0
          try clear c57b1
          try clear c59
          try clear c62
          try clear hcz13_0
          try clear hcz33_0
          try clear hcz33_1
          try clear hcz36_0
          try clear hcz36_1
          try clear hcz47_0
          try clear hcz47_1
          try clear hcz60_0
          try clear hcz60_1
          try clear hcz7_0
          try clear hcz7_1
          try clear hfz13_0
          try clear hfz33_0
          try clear hfz33_1
          try clear hfz36_0
          try clear hfz36_1
          try clear hfz47_0
          try clear hfz47_1
          try clear hfz60_0
          try clear hfz60_1
          try clear hfz7_0
          try clear hfz7_1
          try clear hx24_0
          try clear hx27_0
          try clear hx29_0
          try clear hx31_0
          try clear hx327_0
          try clear hx331_0
          try clear hx332_0
          try clear hx343_0
          try clear p2
          try clear p24
          try clear p27
          try clear p29
          try clear p3
          try clear p31
          try clear p32
          try clear p327
          try clear p33
          try clear p331
          try clear p332
          try clear p343
          try clear p6
          try clear q2
          try clear q24
          try clear q27
          try clear q29
          try clear q3
          try clear q31
          try clear q32
          try clear q327
          try clear q33
          try clear q331
          try clear q332
          try clear q343
          obtain ⟨x15_3, x82_3, rfl, rfl, HA, HK3, HO_7, HO_80, HO_320000, HO_324000, BK319, BK323, HB⟩ := hrel
          cases gk with
          | zero => exact absurd HA.out (by simp [impl_ribbon.l2])
          | succ k3 =>
           have H := HA.out
           clear HA
           simp only [impl_ribbon.l2] at H
           by_cases c63 : x82_3 < (t344.length : Int)
           ·
            rw [if_pos c63] at H
            have c63b0 : decide (x82_3 < (t344.length : Int)) = true := decide_eq_true c63
            clear c63
            by_cases c64 : 0 ≤ x82_3
            ·
             rw [if_pos c64] at H
             have c64b0 : decide (0 ≤ x82_3) = true := decide_eq_true c64
             clear c64
             by_cases c65 : x82_3 < (t344.length : Int)
             ·
              rw [if_pos c65] at H
              have c65b0 : decide (x82_3 < (t344.length : Int)) = true := decide_eq_true c65
              clear c65
              replace H := Option.bind_eq_some_iff.mp H
              obtain ⟨t348, A660, H⟩ := H
              replace H : (if t348 = true then (impl_ribbon.l2 k3 l1 (l0_0.length : Int) x7_1 x12_2 x15_3 t344 (t344.length : Int) (wrap64 (x82_3 + 1)) l0_0 l0_1 x324000_1) else (impl_ribbon.l2 k3 l1 (l0_0.length : Int) x7_1 x12_2 (wrap64 (x15_3 + 1)) t344 (t344.length : Int) (wrap64 (x82_3 + 1)) l0_0 l0_1 x324000_1)) = some r := H
              have A66 := Aside0.mk A660
              clear A660
              by_cases c67 : t348 = true
              ·
               subst c67
               have H1 : (impl_ribbon.l2 k3 l1 (l0_0.length : Int) x7_1 x12_2 x15_3 t344 (t344.length : Int) (wrap64 (x82_3 + 1)) l0_0 l0_1 x324000_1) = some r := by rw [if_pos rfl] at H; exact H
               clear H
               have H := H1
               clear H1
               have H' := Aside0.mk H
               clear H
               have p347 : 0 ≤ (x82_3 : Int) := of_decide_eq_true (by first | (with_reducible assumption) | assumption)
               have q347 : x82_3 < (t344.length : Int) := of_decide_eq_true (by first | (with_reducible assumption) | assumption)
               obtain ⟨ad347, A347_0, c347_0, e347, hx347_0, hl347_0, hi347_0⟩ := at_L1 (Kd.N_reads' HO_80.out).2.2 x82_3 p347 q347
               cases e347
               obtain ⟨ce347, hce347, hMe347, hcc347⟩ := Kd.N_get HO_80.out [] x82_3 p347 (by first | exact q347 | exact of_decide_eq_true (by first | (with_reducible assumption) | assumption) | (have e_ := (Kd.N_reads' HO_80.out).1; omega))
               obtain ⟨ua347_0, uc347_0, rfl, ul347_0, ge347_0⟩ := Kd.FK_slice_open hMe347
               have hv347_0 := hcc347 0 _ rfl
               rw [Nat.add_zero, show ((Kd.slice 3 (Kd.int .i64))).sz = 1 from rfl, Nat.mul_one] at hv347_0
               replace hv347_0 := Option.some.inj (hv347_0.symm.trans hx347_0)
               injection hv347_0 with hva_ hvn_ hvc_
               rw [hva_] at ge347_0
               rw [hvc_] at ul347_0
               have HL347_0 := Aside0.mk (show Kd.V (Kd.int .i64) 3 _ w.heap.size _ _ (rd_L1 t344 x82_3) from Kd.V_mk ul347_0 ge347_0)
               clear hva_ hvn_ hvc_ ge347_0 ul347_0 hcc347 hce347
               have HR347_0 := Aside0.mk hi347_0
               have HC347_0 := Aside0.mk hl347_0
               clear hi347_0 hl347_0
               replace p347 := eq_true p347
               replace q347 := eq_true q347
               obtain ⟨Ao68, co68, eo68⟩ := Kd.R_slice HO_324000.out
               subst eo68
               go_wp2_with (first | ((with_reducible refine gate_callee (f := 91) rfl ?_); refine goesL_ (some 88) rfl rfl Try.func91 (by kernel_rfl) rfl #[.slice A347_0 (rd_L1 t344 x82_3).length c347_0, .func (.func 92) #[] #[.pointer (some ⟨gb323, 0, none⟩)]] rfl (by (try simp only [List.map_toArray, List.map_cons, List.map_nil]); first | done | rfl | (simp only [List.length_drop, List.length_take]; rfl)) ?_; (with_reducible refine (containsF.calls k3 _ _ (rd_L1 t344 x82_3) gb323 Ao68 co68 x324000_1 true _ ?side1 ?side2 ?side3 ?side4 ?side5 A66.out).mono ?_); (case side1 => (with_reducible repeat (first | refine blk_drewN ?_ _ | refine blk_drew ?_ | refine blk_alloc ?_ _)); exact BK323.out); (case side2 => repeat (first | exact (by repeat (first | (with_reducible exact HR347_0.out) | (with_reducible refine Kd.C_alloc ?_ _) | (with_reducible refine Kd.C_drewN ?_ _) | (with_reducible refine Kd.C_drew ?_) | exact HR347_0.out)) | (with_reducible refine Kd.C_alloc ?_ _) | (with_reducible refine Kd.C_drewN ?_ _) | (with_reducible refine Kd.C_drew ?_))); (case side3 => exact HC347_0.out); (case side4 => repeat (first | exact (Kd.R_reads' HO_324000.out).2.2 | (with_reducible refine Kd.C_alloc ?_ _) | (with_reducible refine Kd.C_drewN ?_ _) | (with_reducible refine Kd.C_drew ?_))); (case side5 => exact (Kd.R_reads' HO_324000.out).2.1); rintro e w69 ⟨rfl, hb⟩; refine ⟨_, rfl, ?_⟩; have n0_ := Aside0.mk (Kd.R_below (by (with_reducible repeat (first | apply Kd.R_alloc | apply Kd.R_drewN | apply Kd.R_drew)); exact HO_7.out) hb); have n1_ := Aside0.mk (Kd.N_below (by (with_reducible repeat (first | apply Kd.N_alloc | apply Kd.N_drewN | apply Kd.N_drew)); exact HO_80.out) hb); have n2_ := Aside0.mk (Kd.V_below (by (with_reducible repeat (first | apply Kd.V_alloc | apply Kd.V_drewN | apply Kd.V_drew)); exact HO_320000.out) hb); have n3_ := Aside0.mk (Kd.R_below (by (with_reducible repeat (first | apply Kd.R_alloc | apply Kd.R_drewN | apply Kd.R_drew)); exact HO_324000.out) hb); have n4_ := Aside0.mk (Kd.V_below (by (with_reducible repeat (first | apply Kd.V_alloc | apply Kd.V_drewN | apply Kd.V_drew)); exact HL347_0.out) hb); have n5_ := Aside0.mk (blk_below (g := gb319) (o := .cells #[.slice A0_0 l0_0.length c0_0, .slice A0_1 l0_1.length c0_1] 27 (0, 0)) (by (with_reducible repeat (first | refine blk_drewN ?_ _ | refine blk_drew ?_ | refine blk_alloc ?_ _)); exact BK319.out) hb); have n6_ := Aside0.mk (blk_below (g := gb323) (o := .cells #[.slice Ao68 x324000_1.length co68] 67 (0, 0)) (by (with_reducible repeat (first | refine blk_drewN ?_ _ | refine blk_drew ?_ | refine blk_alloc ?_ _)); exact BK323.out) hb); have n7_ := Aside0.mk (Kd.C_below (by repeat (first | (with_reducible exact HR347_0.out) | (with_reducible refine Kd.C_alloc ?_ _) | (with_reducible refine Kd.C_drewN ?_ _) | (with_reducible refine Kd.C_drew ?_) | exact HR347_0.out)) hb); have n8_ := Aside0.mk (below_step (by repeat (first | (with_reducible first | exact HB.out | apply below_alloc | apply pw_below_drewN | apply below_drew1 | refine below_set ?_ GE319.out | refine below_set ?_ GE323.out) | exact HB.out)) hb); clear HO_7 HO_80 HO_320000 HO_324000 HL347_0 BK319 BK323 HR347_0 HB; have HO_7 := n0_; have HO_80 := n1_; have HO_320000 := n2_; have HO_324000 := n3_; have HL347_0 := n4_; have BK319 := n5_; have BK323 := n6_; have HR347_0 := n7_; have HB := n8_; clear n0_ n1_ n2_ n3_ n4_ n5_ n6_ n7_ n8_; (try clear hb); (try clear hb2); (try clear hk); (try clear hi)))
               (first | go_roundg k3 | (refine Handed.intro k3 ?measure ?_; rotate_left; go_step; (try simp only [add_plain]); (repeat apply Exists.intro); refine ⟨?rel, rfl⟩))
               case measure => have := HK1.out; have := HK2.out; have := HK3.out; omega
               case rel => exact ⟨(x15_3), (wrap64 (x82_3 + 1)), (by first | rfl | (simp; done) | (simp [*]; done)), (by first | rfl | (simp; done) | (simp [*]; done)), H', ⟨by have := HK1.out; have := HK2.out; have := HK3.out; omega⟩, ⟨by (with_reducible repeat (first | apply Kd.R_alloc | apply Kd.R_drewN | apply Kd.R_drew)); exact HO_7.out⟩, ⟨by (with_reducible repeat (first | apply Kd.N_alloc | apply Kd.N_drewN | apply Kd.N_drew)); exact HO_80.out⟩, ⟨by (with_reducible repeat (first | apply Kd.V_alloc | apply Kd.V_drewN | apply Kd.V_drew)); exact HO_320000.out⟩, ⟨by (with_reducible repeat (first | apply Kd.R_alloc | apply Kd.R_drewN | apply Kd.R_drew)); exact HO_324000.out⟩, ⟨by (with_reducible repeat (first | refine blk_drewN ?_ _ | refine blk_drew ?_ | refine blk_alloc ?_ _)); exact BK319.out⟩, ⟨by (with_reducible repeat (first | refine blk_drewN ?_ _ | refine blk_drew ?_ | refine blk_alloc ?_ _)); exact BK323.out⟩, ⟨by repeat (first | (with_reducible first | exact HB.out | apply below_alloc | apply pw_below_drewN | apply below_drew1 | refine below_set ?_ GE319.out | refine below_set ?_ GE323.out) | exact HB.out)⟩⟩
              ·
               replace c67 := Bool.eq_false_iff.mpr c67
               subst c67
               have H1 : (impl_ribbon.l2 k3 l1 (l0_0.length : Int) x7_1 x12_2 (wrap64 (x15_3 + 1)) t344 (t344.length : Int) (wrap64 (x82_3 + 1)) l0_0 l0_1 x324000_1) = some r := by rw [if_neg (show ¬ (false = true) by decide)] at H; exact H
               clear H
               have H := H1
               clear H1
               have H' := Aside0.mk H
               clear H
               have p347 : 0 ≤ (x82_3 : Int) := of_decide_eq_true (by first | (with_reducible assumption) | assumption)
               have q347 : x82_3 < (t344.length : Int) := of_decide_eq_true (by first | (with_reducible assumption) | assumption)
               obtain ⟨ad347, A347_0, c347_0, e347, hx347_0, hl347_0, hi347_0⟩ := at_L1 (Kd.N_reads' HO_80.out).2.2 x82_3 p347 q347
               cases e347
               obtain ⟨ce347, hce347, hMe347, hcc347⟩ := Kd.N_get HO_80.out [] x82_3 p347 (by first | exact q347 | exact of_decide_eq_true (by first | (with_reducible assumption) | assumption) | (have e_ := (Kd.N_reads' HO_80.out).1; omega))
               obtain ⟨ua347_0, uc347_0, rfl, ul347_0, ge347_0⟩ := Kd.FK_slice_open hMe347
               have hv347_0 := hcc347 0 _ rfl
               rw [Nat.add_zero, show ((Kd.slice 3 (Kd.int .i64))).sz = 1 from rfl, Nat.mul_one] at hv347_0
               replace hv347_0 := Option.some.inj (hv347_0.symm.trans hx347_0)
               injection hv347_0 with hva_ hvn_ hvc_
               rw [hva_] at ge347_0
               rw [hvc_] at ul347_0
               have HL347_0 := Aside0.mk (show Kd.V (Kd.int .i64) 3 _ w.heap.size _ _ (rd_L1 t344 x82_3) from Kd.V_mk ul347_0 ge347_0)
               clear hva_ hvn_ hvc_ ge347_0 ul347_0 hcc347 hce347
               have HR347_0 := Aside0.mk hi347_0
               have HC347_0 := Aside0.mk hl347_0
               clear hi347_0 hl347_0
               replace p347 := eq_true p347
               replace q347 := eq_true q347
               obtain ⟨Ao70, co70, eo70⟩ := Kd.R_slice HO_324000.out
               subst eo70
               go_wp2_with (first | ((with_reducible refine gate_callee (f := 91) rfl ?_); refine goesL_ (some 88) rfl rfl Try.func91 (by kernel_rfl) rfl #[.slice A347_0 (rd_L1 t344 x82_3).length c347_0, .func (.func 92) #[] #[.pointer (some ⟨gb323, 0, none⟩)]] rfl (by (try simp only [List.map_toArray, List.map_cons, List.map_nil]); first | done | rfl | (simp only [List.length_drop, List.length_take]; rfl)) ?_; (with_reducible refine (containsF.calls k3 _ _ (rd_L1 t344 x82_3) gb323 Ao70 co70 x324000_1 false _ ?side1 ?side2 ?side3 ?side4 ?side5 A66.out).mono ?_); (case side1 => (with_reducible repeat (first | refine blk_drewN ?_ _ | refine blk_drew ?_ | refine blk_alloc ?_ _)); exact BK323.out); (case side2 => repeat (first | exact (by repeat (first | (with_reducible exact HR347_0.out) | (with_reducible refine Kd.C_alloc ?_ _) | (with_reducible refine Kd.C_drewN ?_ _) | (with_reducible refine Kd.C_drew ?_) | exact HR347_0.out)) | (with_reducible refine Kd.C_alloc ?_ _) | (with_reducible refine Kd.C_drewN ?_ _) | (with_reducible refine Kd.C_drew ?_))); (case side3 => exact HC347_0.out); (case side4 => repeat (first | exact (Kd.R_reads' HO_324000.out).2.2 | (with_reducible refine Kd.C_alloc ?_ _) | (with_reducible refine Kd.C_drewN ?_ _) | (with_reducible refine Kd.C_drew ?_))); (case side5 => exact (Kd.R_reads' HO_324000.out).2.1); rintro e w71 ⟨rfl, hb⟩; refine ⟨_, rfl, ?_⟩; have n0_ := Aside0.mk (Kd.R_below (by (with_reducible repeat (first | apply Kd.R_alloc | apply Kd.R_drewN | apply Kd.R_drew)); exact HO_7.out) hb); have n1_ := Aside0.mk (Kd.N_below (by (with_reducible repeat (first | apply Kd.N_alloc | apply Kd.N_drewN | apply Kd.N_drew)); exact HO_80.out) hb); have n2_ := Aside0.mk (Kd.V_below (by (with_reducible repeat (first | apply Kd.V_alloc | apply Kd.V_drewN | apply Kd.V_drew)); exact HO_320000.out) hb); have n3_ := Aside0.mk (Kd.R_below (by (with_reducible repeat (first | apply Kd.R_alloc | apply Kd.R_drewN | apply Kd.R_drew)); exact HO_324000.out) hb); have n4_ := Aside0.mk (Kd.V_below (by (with_reducible repeat (first | apply Kd.V_alloc | apply Kd.V_drewN | apply Kd.V_drew)); exact HL347_0.out) hb); have n5_ := Aside0.mk (blk_below (g := gb319) (o := .cells #[.slice A0_0 l0_0.length c0_0, .slice A0_1 l0_1.length c0_1] 27 (0, 0)) (by (with_reducible repeat (first | refine blk_drewN ?_ _ | refine blk_drew ?_ | refine blk_alloc ?_ _)); exact BK319.out) hb); have n6_ := Aside0.mk (blk_below (g := gb323) (o := .cells #[.slice Ao70 x324000_1.length co70] 67 (0, 0)) (by (with_reducible repeat (first | refine blk_drewN ?_ _ | refine blk_drew ?_ | refine blk_alloc ?_ _)); exact BK323.out) hb); have n7_ := Aside0.mk (Kd.C_below (by repeat (first | (with_reducible exact HR347_0.out) | (with_reducible refine Kd.C_alloc ?_ _) | (with_reducible refine Kd.C_drewN ?_ _) | (with_reducible refine Kd.C_drew ?_) | exact HR347_0.out)) hb); have n8_ := Aside0.mk (below_step (by repeat (first | (with_reducible first | exact HB.out | apply below_alloc | apply pw_below_drewN | apply below_drew1 | refine below_set ?_ GE319.out | refine below_set ?_ GE323.out) | exact HB.out)) hb); clear HO_7 HO_80 HO_320000 HO_324000 HL347_0 BK319 BK323 HR347_0 HB; have HO_7 := n0_; have HO_80 := n1_; have HO_320000 := n2_; have HO_324000 := n3_; have HL347_0 := n4_; have BK319 := n5_; have BK323 := n6_; have HR347_0 := n7_; have HB := n8_; clear n0_ n1_ n2_ n3_ n4_ n5_ n6_ n7_ n8_; (try clear hb); (try clear hb2); (try clear hk); (try clear hi)))
               (first | go_roundg k3 | (refine Handed.intro k3 ?measure ?_; rotate_left; go_step; (try simp only [add_plain]); (repeat apply Exists.intro); refine ⟨?rel, rfl⟩))
               case measure => have := HK1.out; have := HK2.out; have := HK3.out; omega
               case rel => exact ⟨(wrap64 (x15_3 + 1)), (wrap64 (x82_3 + 1)), (by first | rfl | (simp; done) | (simp [*]; done)), (by first | rfl | (simp; done) | (simp [*]; done)), H', ⟨by have := HK1.out; have := HK2.out; have := HK3.out; omega⟩, ⟨by (with_reducible repeat (first | apply Kd.R_alloc | apply Kd.R_drewN | apply Kd.R_drew)); exact HO_7.out⟩, ⟨by (with_reducible repeat (first | apply Kd.N_alloc | apply Kd.N_drewN | apply Kd.N_drew)); exact HO_80.out⟩, ⟨by (with_reducible repeat (first | apply Kd.V_alloc | apply Kd.V_drewN | apply Kd.V_drew)); exact HO_320000.out⟩, ⟨by (with_reducible repeat (first | apply Kd.R_alloc | apply Kd.R_drewN | apply Kd.R_drew)); exact HO_324000.out⟩, ⟨by (with_reducible repeat (first | refine blk_drewN ?_ _ | refine blk_drew ?_ | refine blk_alloc ?_ _)); exact BK319.out⟩, ⟨by (with_reducible repeat (first | refine blk_drewN ?_ _ | refine blk_drew ?_ | refine blk_alloc ?_ _)); exact BK323.out⟩, ⟨by repeat (first | (with_reducible first | exact HB.out | apply below_alloc | apply pw_below_drewN | apply below_drew1 | refine below_set ?_ GE319.out | refine below_set ?_ GE323.out) | exact HB.out)⟩⟩
             ·
              rw [if_neg c65] at H
              exact absurd H (by simp)
            ·
             rw [if_neg c64] at H
             exact absurd H (by simp)
           ·
            rw [if_neg c63] at H
            have c63b0 : decide (x82_3 < (t344.length : Int)) = false := decide_eq_false c63
            clear c63
            by_cases c72 : 0 ≤ (l0_0.length : Int)
            ·
             rw [if_pos c72] at H
             have c72b0 := eq_true c72
             have c72b1 : decide (0 ≤ (l0_0.length : Int)) = true := decide_eq_true c72
             clear c72
             by_cases c73 : ((l0_0.length : Int) : Int).toNat ≤ 281474976710656
             ·
              rw [if_pos c73] at H
              have c73b0 := eq_true c73
              have c73b1 : decide (((l0_0.length : Int) : Int).toNat ≤ 281474976710656) = true := decide_eq_true c73
              clear c73
              obtain ⟨y349, hy349⟩ : ∃ y_ : List Bool, y_ = (List.replicate ((l0_0.length : Int) : Int).toNat false) := ⟨_, rfl⟩
              replace H : (impl_ribbon.l3 k3 l1 x7_1 x12_2 x15_3 y349 (l0_0.length : Int) 0 l0_0 l0_1 x324000_1) = some r := by first | (rw [hy349]; with_reducible exact H) | (have H2_ := (Option.bind_some _ _).symm.trans H; rw [hy349]; with_reducible exact H2_) | (have H2_ := (Option.bind_some _ _).symm.trans H; with_reducible exact H2_) | with_reducible exact H | (rw [hy349]; exact H) | exact H
              have Ny349 := Aside0.mk hy349
              clear hy349
              have H' := Aside0.mk H
              clear H
              go_wp2_with (first | ((with_reducible refine gate_dst (N := 94) rfl ?_); refine Kd.R_make Kd.bool _ 4 rfl (N := 94) rfl 67 _ _ rfl (l0_0.length : Int) rfl rfl Try.underlying67 (.bool false) 1 info4 rfl (by decide) (by omega) false (ok := fun _ => True) (okp := fun _ => True) rfl (fun _ hk => hk) trivial (of_decide_eq_true (by first | (with_reducible assumption) | assumption)) (Nat.le_trans (Nat.mul_le_mul_right _ (of_decide_eq_true (by first | (with_reducible assumption) | assumption) : (l0_0.length : Int).toNat ≤ 281474976710656)) (by omega)) (Below.refl _ _) (Nat.le_refl _) ?_; intro v350 w74 ho75 hb hg_ hnew_; clear hg_ hnew_; (first | rw [← Ny349.out] at ho75 | (simp only [Int.reduceToNat] at ho75; rw [← Ny349.out] at ho75)); have n0_ := Aside0.mk (Kd.R_below (by (with_reducible repeat (first | apply Kd.R_alloc | apply Kd.R_drewN | apply Kd.R_drew)); exact HO_7.out) hb); have n1_ := Aside0.mk (Kd.N_elder' (by (with_reducible repeat (first | apply Kd.N_alloc | apply Kd.N_drewN | apply Kd.N_drew)); exact HO_80.out) (Kd.R_base ho75) hb); have n2_ := Aside0.mk (Kd.V_elder' (by (with_reducible repeat (first | apply Kd.V_alloc | apply Kd.V_drewN | apply Kd.V_drew)); exact HO_320000.out) (Kd.R_base ho75) hb); have n3_ := Aside0.mk (Kd.R_elder' (by (with_reducible repeat (first | apply Kd.R_alloc | apply Kd.R_drewN | apply Kd.R_drew)); exact HO_324000.out) (Kd.R_base ho75) hb); have n4_ := Aside0.mk (Kd.R_lower (Kd.R_new' (Kd.R_newM (M := fun k_ => (w.heap.size ≤ k_)) ho75 (below_size (by repeat (first | (with_reducible first | exact HB.out | apply below_alloc | apply pw_below_drewN | apply below_drew1 | refine below_set ?_ GE319.out | refine below_set ?_ GE323.out) | exact HB.out))) (fun k_ h_ => h_)) (Kd.R_lt (by (with_reducible repeat (first | apply Kd.R_alloc | apply Kd.R_drewN | apply Kd.R_drew)); exact HO_324000.out))) (below_size (by repeat (first | (with_reducible first | exact HB.out | apply below_alloc | apply pw_below_drewN | apply below_drew1 | refine below_set ?_ GE319.out | refine below_set ?_ GE323.out) | exact HB.out)))); have n5_ := Aside0.mk (blk_below (g := gb319) (o := .cells #[.slice A0_0 l0_0.length c0_0, .slice A0_1 l0_1.length c0_1] 27 (0, 0)) (by (with_reducible repeat (first | refine blk_drewN ?_ _ | refine blk_drew ?_ | refine blk_alloc ?_ _)); exact BK319.out) hb); have n6_ := Aside0.mk (blk_below (g := gb323) (o := .cells #[u324000] 67 (0, 0)) (by (with_reducible repeat (first | refine blk_drewN ?_ _ | refine blk_drew ?_ | refine blk_alloc ?_ _)); exact BK323.out) hb); have n7_ := Aside0.mk (below_step (by repeat (first | (with_reducible first | exact HB.out | apply below_alloc | apply pw_below_drewN | apply below_drew1 | refine below_set ?_ GE319.out | refine below_set ?_ GE323.out) | exact HB.out)) hb); clear HO_7 HO_80 HO_320000 HO_324000 BK319 BK323 HB; have HO_7 := n0_; have HO_80 := n1_; have HO_320000 := n2_; have HO_324000 := n3_; have HO351 := n4_; have BK319 := n5_; have BK323 := n6_; have HB := n7_; clear n0_ n1_ n2_ n3_ n4_ n5_ n6_ n7_; clear hb ho75))
              go_loopg [15, 96] k3 (fun kq v15 v96 w' => ∃ (x15_4 : Int) (x18_4 : List Bool) (x96_4 : Int), v15 = .int .i64 x15_4 ∧ v96 = .int .i64 x96_4 ∧ Aside0 (impl_ribbon.l3 kq l1 x7_1 x12_2 x15_4 x18_4 (l0_0.length : Int) x96_4 l0_0 l0_1 x324000_1 = some r) ∧ Aside0 (kq ≤ k3) ∧ Aside0 (Kd.R (Kd.int .i64) 3 w' w.heap.size (fun k_ => (w.heap.size ≤ k_)) (.slice Ao48 x7_1.length co48) x7_1) ∧ Aside0 (Kd.R Kd.bool 4 w' w.heap.size (fun k_ => (w.heap.size ≤ k_) ∧ some k_ ≠ (u324000 : Value).ownBlock) v350 x18_4) ∧ Aside0 (Kd.V (Kd.int .i64) 3 w' w.heap.size (fun k_ => (P0_0_ k_ ∨ w.heap.size ≤ k_) ∧ some k_ ≠ ((.slice Ao48 x7_1.length co48) : Value).ownBlock ∧ some k_ ≠ (v350 : Value).ownBlock ∧ some k_ ≠ (u324000 : Value).ownBlock ∧ k_ ≠ gb319 ∧ k_ ≠ gb323) (.slice A0_0 l0_0.length c0_0) l0_0) ∧ Aside0 (Kd.R Kd.bool 4 w' w.heap.size (fun k_ => (w.heap.size ≤ k_) ∧ some k_ ≠ (v350 : Value).ownBlock) u324000 x324000_1) ∧ Aside0 (w'.heap[gb319]? = some (.cells #[(.slice A0_0 l0_0.length c0_0), (.slice A0_1 l0_1.length c0_1)] 27 (0, 0))) ∧ Aside0 (w'.heap[gb323]? = some (.cells #[u324000] 67 (0, 0))) ∧ Aside0 (Below w.heap.size w w'))
              case atStart => exact ⟨(x15_3), (y349), (0), (by first | rfl | (simp; done) | (simp [*]; done)), (by first | rfl | (simp; done) | (simp [*]; done)), H', ⟨Nat.le_refl _⟩, ⟨by (with_reducible repeat (first | apply Kd.R_alloc | apply Kd.R_drewN | apply Kd.R_drew)); exact HO_7.out⟩, ⟨by (with_reducible repeat (first | apply Kd.R_alloc | apply Kd.R_drewN | apply Kd.R_drew)); exact Kd.R_mono HO351.out (fun _ hk => ⟨hk.1.1, hk.2⟩)⟩, ⟨by (with_reducible repeat (first | apply Kd.V_alloc | apply Kd.V_drewN | apply Kd.V_drew)); exact Kd.V_mono HO_320000.out (fun _ hk => ⟨hk.1.1, ⟨hk.1.2.1, ⟨hk.2, ⟨hk.1.2.2.2.1, ⟨hk.1.2.2.2.2.1, hk.1.2.2.2.2.2⟩⟩⟩⟩⟩)⟩, ⟨by (with_reducible repeat (first | apply Kd.R_alloc | apply Kd.R_drewN | apply Kd.R_drew)); exact HO_324000.out⟩, ⟨by (with_reducible repeat (first | refine blk_drewN ?_ _ | refine blk_drew ?_ | refine blk_alloc ?_ _)); exact BK319.out⟩, ⟨by (with_reducible repeat (first | refine blk_drewN ?_ _ | refine blk_drew ?_ | refine blk_alloc ?_ _)); exact BK323.out⟩, ⟨by repeat (first | (with_reducible first | exact HB.out | apply below_alloc | apply pw_below_drewN | apply below_drew1 | refine below_set ?_ GE319.out | refine below_set ?_ GE323.out) | exact HB.out)⟩⟩
              case round =>
               clear H'
               try clear c1
               try clear c2
               try clear p2
               try clear q2
               try clear hx2
               try clear hf2
               try clear c3
               try clear c3b0
               try clear c3b1
               try clear p3
               try clear q3
               try clear hx3
               try clear hf3
               try clear c4
               try clear c4b0
               try clear c4b1
               try clear c5
               try clear c6
               try clear p6
               try clear c7
               try clear c8
               try clear c9
               try clear c12
               try clear c15
               try clear c15b0
               try clear c16
               try clear c16b0
               try clear c17
               try clear c17b0
               try clear c19
               try clear c19b0
               try clear c20
               try clear c20b0
               try clear c21
               try clear c21b0
               try clear c22
               try clear c22b0
               try clear c23
               try clear c23b0
               try clear p24
               try clear q24
               try clear hx24
               try clear hf24
               try clear c25
               try clear c25b0
               try clear c26
               try clear c26b0
               try clear p27
               try clear q27
               try clear hx27
               try clear hf27
               try clear c28
               try clear c28b0
               try clear p29
               try clear q29
               try clear hx29
               try clear hf29
               try clear c30
               try clear c30b0
               try clear p31
               try clear q31
               try clear hx31
               try clear hf31
               try clear c32
               try clear p32
               try clear q32
               try clear hx32
               try clear p33
               try clear q33
               try clear hx33
               try clear c34
               try clear p34
               try clear q34
               try clear hx34
               try clear c46
               try clear c54
               try clear c54b0
               try clear c55
               try clear c55b0
               try clear c56
               try clear c56b0
               try clear c57
               try clear c57b0
               try clear c57b1
               try clear c59
               try clear c62
               try clear c63
               try clear c63b0
               try clear c64
               try clear c64b0
               try clear p64
               try clear c65
               try clear c65b0
               try clear c67
               try clear c72
               try clear c72b0
               try clear c72b1
               try clear c73
               try clear c73b0
               try clear c73b1
               try clear hcz13_0
               try clear hcz33_0
               try clear hcz33_1
               try clear hcz36_0
               try clear hcz36_1
               try clear hcz47_0
               try clear hcz47_1
               try clear hcz60_0
               try clear hcz60_1
               try clear hcz7_0
               try clear hcz7_1
               try clear hfz13_0
               try clear hfz33_0
               try clear hfz33_1
               try clear hfz36_0
               try clear hfz36_1
               try clear hfz47_0
               try clear hfz47_1
               try clear hfz60_0
               try clear hfz60_1
               try clear hfz7_0
               try clear hfz7_1
               try clear hx24_0
               try clear hx27_0
               try clear hx29_0
               try clear hx31_0
               try clear hx327_0
               try clear hx331_0
               try clear hx332_0
               try clear hx343_0
               try clear hx347_0
               try clear p2
               try clear p24
               try clear p27
               try clear p29
               try clear p3
               try clear p31
               try clear p32
               try clear p327
               try clear p33
               try clear p331
               try clear p332
               try clear p34
               try clear p343
               try clear p347
               try clear p6
               try clear q2
               try clear q24
               try clear q27
               try clear q29
               try clear q3
               try clear q31
               try clear q32
               try clear q327
               try clear q33
               try clear q331
               try clear q332
               try clear q34
               try clear q343
               try clear q347
               obtain ⟨x15_4, x18_4, x96_4, rfl, rfl, HA, HK4, HO_7, HO_18, HO_320000, HO_324000, BK319, BK323, HB⟩ := hrel
               cases gk with
               | zero => exact absurd HA.out (by simp [impl_ribbon.l3])
               | succ k4 =>
                have H := HA.out
                clear HA
                simp only [impl_ribbon.l3] at H
                by_cases c76 : x96_4 < (l0_0.length : Int)
                ·
                 rw [if_pos c76] at H
                 have c76b0 : decide (x96_4 < (l0_0.length : Int)) = true := decide_eq_true c76
                 clear c76
                 have HC77 := Aside0.mk H
                 clear H
                 go_upto_region 30 with (fail)
                 go_cut [109] (fun v109 wc => ∃ (kq : Nat) (x109_76 : Bool), v109 = .bool x109_76 ∧ Aside0 (impl_ribbon.j4 kq l1 x7_1 x12_2 x15_4 x18_4 x96_4 (l0_0.length : Int) x96_4 x109_76 l0_0 l0_1 x324000_1 = some r) ∧ Aside0 (kq ≤ k4) ∧ Aside0 (Kd.R (Kd.int .i64) 3 wc w.heap.size (fun k_ => (w.heap.size ≤ k_)) (.slice Ao48 x7_1.length co48) x7_1) ∧ Aside0 (Kd.R Kd.bool 4 wc w.heap.size (fun k_ => (w.heap.size ≤ k_) ∧ some k_ ≠ (u324000 : Value).ownBlock) v350 x18_4) ∧ Aside0 (Kd.V (Kd.int .i64) 3 wc w.heap.size (fun k_ => (P0_0_ k_ ∨ w.heap.size ≤ k_) ∧ some k_ ≠ ((.slice Ao48 x7_1.length co48) : Value).ownBlock ∧ some k_ ≠ (v350 : Value).ownBlock ∧ some k_ ≠ (u324000 : Value).ownBlock ∧ k_ ≠ gb319 ∧ k_ ≠ gb323) (.slice A0_0 l0_0.length c0_0) l0_0) ∧ Aside0 (Kd.R Kd.bool 4 wc w.heap.size (fun k_ => (w.heap.size ≤ k_) ∧ some k_ ≠ (v350 : Value).ownBlock) u324000 x324000_1) ∧ Aside0 (wc.heap[gb319]? = some (.cells #[(.slice A0_0 l0_0.length c0_0), (.slice A0_1 l0_1.length c0_1)] 27 (0, 0))) ∧ Aside0 (wc.heap[gb323]? = some (.cells #[u324000] 67 (0, 0))) ∧ Aside0 (Below w.heap.size w wc))
                 case first =>
                  have H := HC77.out
                  clear HC77
                  by_cases c78 : 0 ≤ x96_4
                  ·
                   rw [if_pos c78] at H
                   have c78b0 : decide (0 ≤ x96_4) = true := decide_eq_true c78
                   clear c78
                   (first | rw [c78b0] | (simp only [i64_w, i32_w]; rw [c78b0]) | skip)
                   by_cases c79 : x96_4 < (x324000_1.length : Int)
                   ·
                    rw [if_pos c79] at H
                    have c79b0 : decide (x96_4 < (x324000_1.length : Int)) = true := decide_eq_true c79
                    clear c79
                    obtain ⟨bq80, hbq80⟩ : ∃ b_ : Bool, b_ = (rdOf false x324000_1 x96_4) := ⟨_, rfl⟩
                    replace H : (if bq80 = true then (if x96_4 < (x18_4.length : Int) then (impl_ribbon.j4 k4 l1 x7_1 x12_2 x15_4 x18_4 x96_4 (l0_0.length : Int) x96_4 (rdOf false x18_4 x96_4) l0_0 l0_1 x324000_1) else (none)) else (impl_ribbon.j4 k4 l1 x7_1 x12_2 x15_4 x18_4 x96_4 (l0_0.length : Int) x96_4 true l0_0 l0_1 x324000_1)) = some r := by rw [← hbq80] at H; exact H
                    have Nbq80 := Aside0.mk hbq80
                    clear hbq80
                    by_cases c81 : bq80 = true
                    ·
                     subst c81
                     have H1 : (if x96_4 < (x18_4.length : Int) then (impl_ribbon.j4 k4 l1 x7_1 x12_2 x15_4 x18_4 x96_4 (l0_0.length : Int) x96_4 (rdOf false x18_4 x96_4) l0_0 l0_1 x324000_1) else (none)) = some r := by rw [if_pos rfl] at H; exact H
                     clear H
                     have H := H1
                     clear H1
                     by_cases c82 : x96_4 < (x18_4.length : Int)
                     ·
                      rw [if_pos c82] at H
                      have c82b0 : decide (x96_4 < (x18_4.length : Int)) = true := decide_eq_true c82
                      clear c82
                      have H' := Aside0.mk H
                      clear H
                      have hnb83 := NB323_319.out
                      have hnc83 := NB319_323.out
                      have hcz84_0 : wr.cell? ⟨gb323, 0, none⟩ = some (u324000) := (blk_cell BK323.out 0).trans rfl
                      have hfz84_0 := blk_frozen BK323.out 0
                      obtain ⟨Ao85, co85, eo85⟩ := Kd.R_slice HO_324000.out
                      subst eo85
                      have p358 : 0 ≤ (x96_4 : Int) := of_decide_eq_true (by first | (with_reducible assumption) | assumption)
                      have q358 : x96_4 < (x324000_1.length : Int) := of_decide_eq_true (by first | (with_reducible assumption) | assumption)
                      obtain ⟨ad358, e358, hx358_0⟩ := Kd.at_bool (Kd.R_reads' HO_324000.out).2.2 x96_4 p358 q358
                      (try rw [← Nbq80.out] at hx358_0)
                      cases e358
                      replace p358 := eq_true p358
                      replace q358 := eq_true q358
                      obtain ⟨Ao86, co86, eo86⟩ := Kd.R_slice HO_18.out
                      subst eo86
                      have p359 : 0 ≤ (x96_4 : Int) := of_decide_eq_true (by first | (with_reducible assumption) | assumption)
                      have q359 : x96_4 < (x18_4.length : Int) := of_decide_eq_true (by first | (with_reducible assumption) | assumption)
                      obtain ⟨ad359, e359, hx359_0⟩ := Kd.at_bool (Kd.R_reads' HO_18.out).2.2 x96_4 p359 q359
                      (try rw [← Nbq80.out] at hx359_0)
                      cases e359
                      replace p359 := eq_true p359
                      replace q359 := eq_true q359
                      go_wp2
                      go_meet
                      case rel => exact ⟨_, (rdOf false x18_4 x96_4), (by first | rfl | (simp; done) | (simp [*]; done)), H', ⟨by have := HK1.out; have := HK2.out; have := HK3.out; have := HK4.out; first | omega | exact Nat.le_refl _⟩, ⟨by (with_reducible repeat (first | apply Kd.R_alloc | apply Kd.R_drewN | apply Kd.R_drew)); exact HO_7.out⟩, ⟨by (with_reducible repeat (first | apply Kd.R_alloc | apply Kd.R_drewN | apply Kd.R_drew)); exact HO_18.out⟩, ⟨by (with_reducible repeat (first | apply Kd.V_alloc | apply Kd.V_drewN | apply Kd.V_drew)); exact HO_320000.out⟩, ⟨by (with_reducible repeat (first | apply Kd.R_alloc | apply Kd.R_drewN | apply Kd.R_drew)); exact HO_324000.out⟩, ⟨by (with_reducible repeat (first | refine blk_drewN ?_ _ | refine blk_drew ?_ | refine blk_alloc ?_ _)); exact BK319.out⟩, ⟨by (with_reducible repeat (first | refine blk_drewN ?_ _ | refine blk_drew ?_ | refine blk_alloc ?_ _)); exact BK323.out⟩, ⟨by repeat (first | (with_reducible first | exact HB.out | apply below_alloc | apply pw_below_drewN | apply below_drew1 | refine below_set ?_ GE319.out | refine below_set ?_ GE323.out) | exact HB.out)⟩⟩
                     ·
                      rw [if_neg c82] at H
                      exact absurd H (by simp)
                    ·
                     replace c81 := Bool.eq_false_iff.mpr c81
                     subst c81
                     have H1 : (impl_ribbon.j4 k4 l1 x7_1 x12_2 x15_4 x18_4 x96_4 (l0_0.length : Int) x96_4 true l0_0 l0_1 x324000_1) = some r := by rw [if_neg (show ¬ (false = true) by decide)] at H; exact H
                     clear H
                     have H := H1
                     clear H1
                     have H' := Aside0.mk H
                     clear H
                     have hnb87 := NB323_319.out
                     have hnc87 := NB319_323.out
                     have hcz88_0 : wr.cell? ⟨gb323, 0, none⟩ = some (u324000) := (blk_cell BK323.out 0).trans rfl
                     have hfz88_0 := blk_frozen BK323.out 0
                     obtain ⟨Ao89, co89, eo89⟩ := Kd.R_slice HO_324000.out
                     subst eo89
                     have p358 : 0 ≤ (x96_4 : Int) := of_decide_eq_true (by first | (with_reducible assumption) | assumption)
                     have q358 : x96_4 < (x324000_1.length : Int) := of_decide_eq_true (by first | (with_reducible assumption) | assumption)
                     obtain ⟨ad358, e358, hx358_0⟩ := Kd.at_bool (Kd.R_reads' HO_324000.out).2.2 x96_4 p358 q358
                     (try rw [← Nbq80.out] at hx358_0)
                     cases e358
                     replace p358 := eq_true p358
                     replace q358 := eq_true q358
                     go_wp2
                     go_meet
                     case rel => exact ⟨_, (true), (by first | rfl | (simp; done) | (simp [*]; done)), H', ⟨by have := HK1.out; have := HK2.out; have := HK3.out; have := HK4.out; first | omega | exact Nat.le_refl _⟩, ⟨by (with_reducible repeat (first | apply Kd.R_alloc | apply Kd.R_drewN | apply Kd.R_drew)); exact HO_7.out⟩, ⟨by (with_reducible repeat (first | apply Kd.R_alloc | apply Kd.R_drewN | apply Kd.R_drew)); exact HO_18.out⟩, ⟨by (with_reducible repeat (first | apply Kd.V_alloc | apply Kd.V_drewN | apply Kd.V_drew)); exact HO_320000.out⟩, ⟨by (with_reducible repeat (first | apply Kd.R_alloc | apply Kd.R_drewN | apply Kd.R_drew)); exact HO_324000.out⟩, ⟨by (with_reducible repeat (first | refine blk_drewN ?_ _ | refine blk_drew ?_ | refine blk_alloc ?_ _)); exact BK319.out⟩, ⟨by (with_reducible repeat (first | refine blk_drewN ?_ _ | refine blk_drew ?_ | refine blk_alloc ?_ _)); exact BK323.out⟩, ⟨by repeat (first | (with_reducible first | exact HB.out | apply below_alloc | apply pw_below_drewN | apply below_drew1 | refine below_set ?_ GE319.out | refine below_set ?_ GE323.out) | exact HB.out)⟩⟩
                   ·
                    rw [if_neg c79] at H
                    exact absurd H (by simp)
                  ·
                   rw [if_neg c78] at H
                   exact absurd H (by simp)
                 case rest =>
                  clear HC77
                  try clear c1
                  try clear c2
                  try clear p2
                  try clear q2
                  try clear hx2
                  try clear hf2
                  try clear c3
                  try clear c3b0
                  try clear c3b1
                  try clear p3
                  try clear q3
                  try clear hx3
                  try clear hf3
                  try clear c4
                  try clear c4b0
                  try clear c4b1
                  try clear c5
                  try clear c6
                  try clear p6
                  try clear c7
                  try clear c8
                  try clear q8
                  try clear c9
                  try clear c12
                  try clear c15
                  try clear c15b0
                  try clear c16
                  try clear c16b0
                  try clear c17
                  try clear c17b0
                  try clear c19
                  try clear c19b0
                  try clear c20
                  try clear c20b0
                  try clear c21
                  try clear c21b0
                  try clear c22
                  try clear c22b0
                  try clear c23
                  try clear c23b0
                  try clear p24
                  try clear q24
                  try clear hx24
                  try clear hf24
                  try clear c25
                  try clear c25b0
                  try clear c26
                  try clear c26b0
                  try clear p27
                  try clear q27
                  try clear hx27
                  try clear hf27
                  try clear c28
                  try clear c28b0
                  try clear p29
                  try clear q29
                  try clear hx29
                  try clear hf29
                  try clear c30
                  try clear c30b0
                  try clear p31
                  try clear q31
                  try clear hx31
                  try clear hf31
                  try clear c32
                  try clear p32
                  try clear q32
                  try clear hx32
                  try clear p33
                  try clear q33
                  try clear hx33
                  try clear c34
                  try clear p34
                  try clear q34
                  try clear hx34
                  try clear p35
                  try clear q35
                  try clear hx35
                  try clear c46
                  try clear c54
                  try clear c54b0
                  try clear c55
                  try clear c55b0
                  try clear c56
                  try clear c56b0
                  try clear c57
                  try clear c57b0
                  try clear c57b1
                  try clear c59
                  try clear c62
                  try clear c63
                  try clear c63b0
                  try clear c64
                  try clear c64b0
                  try clear p64
                  try clear c65
                  try clear c65b0
                  try clear c67
                  try clear c72
                  try clear c72b0
                  try clear c72b1
                  try clear c73
                  try clear c73b0
                  try clear c73b1
                  try clear c76
                  try clear c76b0
                  try clear c78
                  try clear c78b0
                  try clear c79
                  try clear c79b0
                  try clear c80
                  try clear q80
                  try clear c81
                  try clear c82
                  try clear c82b0
                  try clear c83
                  try clear c87
                  try clear hcz13_0
                  try clear hcz33_0
                  try clear hcz33_1
                  try clear hcz36_0
                  try clear hcz36_1
                  try clear hcz47_0
                  try clear hcz47_1
                  try clear hcz60_0
                  try clear hcz60_1
                  try clear hcz7_0
                  try clear hcz7_1
                  try clear hcz84_0
                  try clear hcz88_0
                  try clear hfz13_0
                  try clear hfz33_0
                  try clear hfz33_1
                  try clear hfz36_0
                  try clear hfz36_1
                  try clear hfz47_0
                  try clear hfz47_1
                  try clear hfz60_0
                  try clear hfz60_1
                  try clear hfz7_0
                  try clear hfz7_1
                  try clear hfz84_0
                  try clear hfz88_0
                  try clear hx24_0
                  try clear hx27_0
                  try clear hx29_0
                  try clear hx31_0
                  try clear hx327_0
                  try clear hx331_0
                  try clear hx332_0
                  try clear hx343_0
                  try clear hx347_0
                  try clear hx358_0
                  try clear hx359_0
                  try clear p2
                  try clear p24
                  try clear p27
                  try clear p29
                  try clear p3
                  try clear p31
                  try clear p32
                  try clear p327
                  try clear p33
                  try clear p331
                  try clear p332
                  try clear p34
                  try clear p343
                  try clear p347
                  try clear p358
                  try clear p359
                  try clear p6
                  try clear p64
                  try clear q2
                  try clear q24
                  try clear q27
                  try clear q29
                  try clear q3
                  try clear q31
                  try clear q32
                  try clear q327
                  try clear q33
                  try clear q331
                  try clear q332
                  try clear q34
                  try clear q343
                  try clear q347
                  try clear q358
                  try clear q359
                  obtain ⟨kq, x109_76, rfl, HA, HJ76, HO_7, HO_18, HO_320000, HO_324000, BK319, BK323, HB⟩ := hcut
                  cases kq with
                  | zero => exact absurd HA.out (by simp [impl_ribbon.j4])
                  | succ kj76 =>
                   have H := HA.out
                   clear HA
                   simp only [impl_ribbon.j4] at H
                   by_cases c90 : x109_76 = true
                   ·
                    subst c90
                    have H1 : (impl_ribbon.l3 kj76 l1 x7_1 x12_2 x15_4 x18_4 (l0_0.length : Int) (wrap64 (x96_4 + 1)) l0_0 l0_1 x324000_1) = some r := by rw [if_pos rfl] at H; exact H
                    clear H
                    have H := H1
                    clear H1
                    have H' := Aside0.mk H
                    clear H
                    go_wp2
                    (first | go_roundg kj76 | (refine Handed.intro kj76 ?measure ?_; rotate_left; go_step; (try simp only [add_plain]); (repeat apply Exists.intro); refine ⟨?rel, rfl⟩))
                    case measure => have := HK1.out; have := HK2.out; have := HK3.out; have := HK4.out; have := HJ76.out; omega
                    case rel => exact ⟨(x15_4), (x18_4), (wrap64 (x96_4 + 1)), (by first | rfl | (simp; done) | (simp [*]; done)), (by first | rfl | (simp; done) | (simp [*]; done)), H', ⟨by have := HK1.out; have := HK2.out; have := HK3.out; have := HK4.out; have := HJ76.out; omega⟩, ⟨by (with_reducible repeat (first | apply Kd.R_alloc | apply Kd.R_drewN | apply Kd.R_drew)); exact HO_7.out⟩, ⟨by (with_reducible repeat (first | apply Kd.R_alloc | apply Kd.R_drewN | apply Kd.R_drew)); exact HO_18.out⟩, ⟨by (with_reducible repeat (first | apply Kd.V_alloc | apply Kd.V_drewN | apply Kd.V_drew)); exact HO_320000.out⟩, ⟨by (with_reducible repeat (first | apply Kd.R_alloc | apply Kd.R_drewN | apply Kd.R_drew)); exact HO_324000.out⟩, ⟨by (with_reducible repeat (first | refine blk_drewN ?_ _ | refine blk_drew ?_ | refine blk_alloc ?_ _)); exact BK319.out⟩, ⟨by (with_reducible repeat (first | refine blk_drewN ?_ _ | refine blk_drew ?_ | refine blk_alloc ?_ _)); exact BK323.out⟩, ⟨by repeat (first | (with_reducible first | exact HB.out | apply below_alloc | apply pw_below_drewN | apply below_drew1 | refine below_set ?_ GE319.out | refine below_set ?_ GE323.out) | exact HB.out)⟩⟩
                   ·
                    replace c90 := Bool.eq_false_iff.mpr c90
                    subst c90
                    have H1 : (impl_ribbon.l4 kj76 l1 x7_1 x12_2 (wrap64 (x15_4 + 1)) x18_4 x96_4 (l0_0.length : Int) x96_4 l0_0 l0_1 x324000_1) = some r := by rw [if_neg (show ¬ (false = true) by decide)] at H; exact H
                    clear H
                    have H := H1
                    clear H1
                    have H' := Aside0.mk H
                    clear H
                    go_wp2
                    go_loopg [20] kj76 (fun kq v20 w' => ∃ (x18_6 : List Bool) (x20_6 : Int), v20 = .int .i64 x20_6 ∧ Aside0 (impl_ribbon.l4 kq l1 x7_1 x12_2 (wrap64 (x15_4 + 1)) x18_6 x20_6 (l0_0.length : Int) x96_4 l0_0 l0_1 x324000_1 = some r) ∧ Aside0 (kq ≤ kj76) ∧ Aside0 (Kd.R (Kd.int .i64) 3 w' w.heap.size (fun k_ => (w.heap.size ≤ k_)) (.slice Ao48 x7_1.length co48) x7_1) ∧ Aside0 (Kd.R Kd.bool 4 w' w.heap.size (fun k_ => (w.heap.size ≤ k_) ∧ some k_ ≠ (u324000 : Value).ownBlock) v350 x18_6) ∧ Aside0 (Kd.V (Kd.int .i64) 3 w' w.heap.size (fun k_ => (P0_0_ k_ ∨ w.heap.size ≤ k_) ∧ some k_ ≠ ((.slice Ao48 x7_1.length co48) : Value).ownBlock ∧ some k_ ≠ (v350 : Value).ownBlock ∧ some k_ ≠ (u324000 : Value).ownBlock ∧ k_ ≠ gb319 ∧ k_ ≠ gb323) (.slice A0_0 l0_0.length c0_0) l0_0) ∧ Aside0 (Kd.R Kd.bool 4 w' w.heap.size (fun k_ => (w.heap.size ≤ k_) ∧ some k_ ≠ (v350 : Value).ownBlock) u324000 x324000_1) ∧ Aside0 (w'.heap[gb319]? = some (.cells #[(.slice A0_0 l0_0.length c0_0), (.slice A0_1 l0_1.length c0_1)] 27 (0, 0))) ∧ Aside0 (w'.heap[gb323]? = some (.cells #[u324000] 67 (0, 0))) ∧ Aside0 (Below w.heap.size w w'))
                    case atStart => exact ⟨(x18_4), (x96_4), (by first | rfl | (simp; done) | (simp [*]; done)), H', ⟨Nat.le_refl _⟩, ⟨by (with_reducible repeat (first | apply Kd.R_alloc | apply Kd.R_drewN | apply Kd.R_drew)); exact HO_7.out⟩, ⟨by (with_reducible repeat (first | apply Kd.R_alloc | apply Kd.R_drewN | apply Kd.R_drew)); exact HO_18.out⟩, ⟨by (with_reducible repeat (first | apply Kd.V_alloc | apply Kd.V_drewN | apply Kd.V_drew)); exact HO_320000.out⟩, ⟨by (with_reducible repeat (first | apply Kd.R_alloc | apply Kd.R_drewN | apply Kd.R_drew)); exact HO_324000.out⟩, ⟨by (with_reducible repeat (first | refine blk_drewN ?_ _ | refine blk_drew ?_ | refine blk_alloc ?_ _)); exact BK319.out⟩, ⟨by (with_reducible repeat (first | refine blk_drewN ?_ _ | refine blk_drew ?_ | refine blk_alloc ?_ _)); exact BK323.out⟩, ⟨by repeat (first | (with_reducible first | exact HB.out | apply below_alloc | apply pw_below_drewN | apply below_drew1 | refine below_set ?_ GE319.out | refine below_set ?_ GE323.out) | exact HB.out)⟩⟩
                    case round =>
                     clear H'
                     try clear c1
                     try clear c2
                     try clear p2
                     try clear q2
                     try clear hx2
                     try clear hf2
                     try clear c3
                     try clear c3b0
                     try clear c3b1
                     try clear p3
                     try clear q3
                     try clear hx3
                     try clear hf3
                     try clear c4
                     try clear c4b0
                     try clear c4b1
                     try clear c5
                     try clear c6
                     try clear p6
                     try clear c7
                     try clear c8
                     try clear q8
                     try clear c9
                     try clear c12
                     try clear c15
                     try clear c15b0
                     try clear c16
                     try clear c16b0
                     try clear c17
                     try clear c17b0
                     try clear c19
                     try clear c19b0
                     try clear c20
                     try clear c20b0
                     try clear c21
                     try clear c21b0
                     try clear c22
                     try clear c22b0
                     try clear c23
                     try clear c23b0
                     try clear p24
                     try clear q24
                     try clear hx24
                     try clear hf24
                     try clear c25
                     try clear c25b0
                     try clear c26
                     try clear c26b0
                     try clear p27
                     try clear q27
                     try clear hx27
                     try clear hf27
                     try clear c28
                     try clear c28b0
                     try clear p29
                     try clear q29
                     try clear hx29
                     try clear hf29
                     try clear c30
                     try clear c30b0
                     try clear p31
                     try clear q31
                     try clear hx31
                     try clear hf31
                     try clear c32
                     try clear p32
                     try clear q32
                     try clear hx32
                     try clear p33
                     try clear q33
                     try clear hx33
                     try clear c34
                     try clear p34
                     try clear q34
                     try clear hx34
                     try clear p35
                     try clear q35
                     try clear hx35
                     try clear c46
                     try clear c54
                     try clear c54b0
                     try clear c55
                     try clear c55b0
                     try clear c56
                     try clear c56b0
                     try clear c57
                     try clear c57b0
                     try clear c57b1
                     try clear c59
                     try clear c62
                     try clear c63
                     try clear c63b0
                     try clear c64
                     try clear c64b0
                     try clear p64
                     try clear c65
                     try clear c65b0
                     try clear c67
                     try clear c72
                     try clear c72b0
                     try clear c72b1
                     try clear c73
                     try clear c73b0
                     try clear c73b1
                     try clear c76
                     try clear c76b0
                     try clear c78
                     try clear c78b0
                     try clear c79
                     try clear c79b0
                     try clear c80
                     try clear q80
                     try clear c81
                     try clear c82
                     try clear c82b0
                     try clear c83
                     try clear c87
                     try clear c90
                     try clear hcz13_0
                     try clear hcz33_0
                     try clear hcz33_1
                     try clear hcz36_0
                     try clear hcz36_1
                     try clear hcz47_0
                     try clear hcz47_1
                     try clear hcz60_0
                     try clear hcz60_1
                     try clear hcz7_0
                     try clear hcz7_1
                     try clear hcz84_0
                     try clear hcz88_0
                     try clear hfz13_0
                     try clear hfz33_0
                     try clear hfz33_1
                     try clear hfz36_0
                     try clear hfz36_1
                     try clear hfz47_0
                     try clear hfz47_1
                     try clear hfz60_0
                     try clear hfz60_1
                     try clear hfz7_0
                     try clear hfz7_1
                     try clear hfz84_0
                     try clear hfz88_0
                     try clear hx24_0
                     try clear hx27_0
                     try clear hx29_0
                     try clear hx31_0
                     try clear hx327_0
                     try clear hx331_0
                     try clear hx332_0
                     try clear hx343_0
                     try clear hx347_0
                     try clear hx358_0
                     try clear hx359_0
                     try clear p2
                     try clear p24
                     try clear p27
                     try clear p29
                     try clear p3
                     try clear p31
                     try clear p32
                     try clear p327
                     try clear p33
                     try clear p331
                     try clear p332
                     try clear p34
                     try clear p343
                     try clear p347
                     try clear p35
                     try clear p358
                     try clear p359
                     try clear p6
                     try clear p64
                     try clear q2
                     try clear q24
                     try clear q27
                     try clear q29
                     try clear q3
                     try clear q31
                     try clear q32
                     try clear q327
                     try clear q33
                     try clear q331
                     try clear q332
                     try clear q34
                     try clear q343
                     try clear q347
                     try clear q35
                     try clear q358
                     try clear q359
                     try clear q8
                     try clear q80
                     obtain ⟨x18_6, x20_6, rfl, HA, HK6, HO_7, HO_18, HO_320000, HO_324000, BK319, BK323, HB⟩ := hrel
                     cases gk with
                     | zero => exact absurd HA.out (by simp [impl_ribbon.l4])
                     | succ k6 =>
                      have H := HA.out
                      clear HA
                      simp only [impl_ribbon.l4] at H
                      by_cases c91 : 0 ≤ x20_6
                      ·
                       rw [if_pos c91] at H
                       have c91b0 : decide (0 ≤ x20_6) = true := decide_eq_true c91
                       clear c91
                       by_cases c92 : x20_6 < (x18_6.length : Int)
                       ·
                        rw [if_pos c92] at H
                        have c92b0 : decide (x20_6 < (x18_6.length : Int)) = true := decide_eq_true c92
                        clear c92
                        obtain ⟨bq93, hbq93⟩ : ∃ b_ : Bool, b_ = (rdOf false x18_6 x20_6) := ⟨_, rfl⟩
                        replace H : (if bq93 = true then (impl_ribbon.l3 k6 l1 x7_1 x12_2 (wrap64 (x15_4 + 1)) x18_6 (l0_0.length : Int) (wrap64 (x96_4 + 1)) l0_0 l0_1 x324000_1) else (if x20_6 < (x7_1.length : Int) then (if 0 ≤ (rd x7_1 x20_6) then (if (rd x7_1 x20_6) < (l0_0.length : Int) then (impl_ribbon.l5 k6 l1 x7_1 x12_2 (wrap64 (x15_4 + 1)) (x18_6.set (x20_6 : Int).toNat true) (rd l0_0 (rd x7_1 x20_6)) (l0_0.length : Int) x96_4 l0_0 l0_1 x324000_1) else (none)) else (none)) else (none))) = some r := by rw [← hbq93] at H; exact H
                        have Nbq93 := Aside0.mk hbq93
                        clear hbq93
                        by_cases c94 : bq93 = true
                        ·
                         subst c94
                         have H1 : (impl_ribbon.l3 k6 l1 x7_1 x12_2 (wrap64 (x15_4 + 1)) x18_6 (l0_0.length : Int) (wrap64 (x96_4 + 1)) l0_0 l0_1 x324000_1) = some r := by rw [if_pos rfl] at H; exact H
                         clear H
                         have H := H1
                         clear H1
                         have H' := Aside0.mk H
                         clear H
                         obtain ⟨Ao95, co95, eo95⟩ := Kd.R_slice HO_18.out
                         subst eo95
                         have p360 : 0 ≤ (x20_6 : Int) := of_decide_eq_true (by first | (with_reducible assumption) | assumption)
                         have q360 : x20_6 < (x18_6.length : Int) := of_decide_eq_true (by first | (with_reducible assumption) | assumption)
                         obtain ⟨ad360, e360, hx360_0⟩ := Kd.at_bool (Kd.R_reads' HO_18.out).2.2 x20_6 p360 q360
                         (try rw [← Nbq93.out] at hx360_0)
                         cases e360
                         replace p360 := eq_true p360
                         replace q360 := eq_true q360
                         go_wp2
                         (first | go_roundg k6 | (refine Handed.intro k6 ?measure ?_; rotate_left; go_step; (try simp only [add_plain]); (repeat apply Exists.intro); refine ⟨?rel, rfl⟩))
                         case measure => have := HK1.out; have := HK2.out; have := HK3.out; have := HK4.out; have := HJ76.out; have := HK6.out; omega
                         case rel => exact ⟨((wrap64 (x15_4 + 1))), (x18_6), (wrap64 (x96_4 + 1)), (by first | rfl | (simp; done) | (simp [*]; done)), (by first | rfl | (simp; done) | (simp [*]; done)), H', ⟨by have := HK1.out; have := HK2.out; have := HK3.out; have := HK4.out; have := HJ76.out; have := HK6.out; omega⟩, ⟨by (with_reducible repeat (first | apply Kd.R_alloc | apply Kd.R_drewN | apply Kd.R_drew)); exact HO_7.out⟩, ⟨by (with_reducible repeat (first | apply Kd.R_alloc | apply Kd.R_drewN | apply Kd.R_drew)); exact HO_18.out⟩, ⟨by (with_reducible repeat (first | apply Kd.V_alloc | apply Kd.V_drewN | apply Kd.V_drew)); exact HO_320000.out⟩, ⟨by (with_reducible repeat (first | apply Kd.R_alloc | apply Kd.R_drewN | apply Kd.R_drew)); exact HO_324000.out⟩, ⟨by (with_reducible repeat (first | refine blk_drewN ?_ _ | refine blk_drew ?_ | refine blk_alloc ?_ _)); exact BK319.out⟩, ⟨by (with_reducible repeat (first | refine blk_drewN ?_ _ | refine blk_drew ?_ | refine blk_alloc ?_ _)); exact BK323.out⟩, ⟨by repeat (first | (with_reducible first | exact HB.out | apply below_alloc | apply pw_below_drewN | apply below_drew1 | refine below_set ?_ GE319.out | refine below_set ?_ GE323.out) | exact HB.out)⟩⟩
                        ·
                         replace c94 := Bool.eq_false_iff.mpr c94
                         subst c94
                         have H1 : (if x20_6 < (x7_1.length : Int) then (if 0 ≤ (rd x7_1 x20_6) then (if (rd x7_1 x20_6) < (l0_0.length : Int) then (impl_ribbon.l5 k6 l1 x7_1 x12_2 (wrap64 (x15_4 + 1)) (x18_6.set (x20_6 : Int).toNat true) (rd l0_0 (rd x7_1 x20_6)) (l0_0.length : Int) x96_4 l0_0 l0_1 x324000_1) else (none)) else (none)) else (none)) = some r := by rw [if_neg (show ¬ (false = true) by decide)] at H; exact H
                         clear H
                         have H := H1
                         clear H1
                         obtain ⟨y361, hy361⟩ : ∃ y_ : List Bool, y_ = (x18_6.set (x20_6 : Int).toNat true) := ⟨_, rfl⟩
                         replace H : (if x20_6 < (x7_1.length : Int) then (if 0 ≤ (rd x7_1 x20_6) then (if (rd x7_1 x20_6) < (l0_0.length : Int) then (impl_ribbon.l5 k6 l1 x7_1 x12_2 (wrap64 (x15_4 + 1)) y361 (rd l0_0 (rd x7_1 x20_6)) (l0_0.length : Int) x96_4 l0_0 l0_1 x324000_1) else (none)) else (none)) else (none)) = some r := by first | (rw [hy361]; with_reducible exact H) | (have H2_ := (Option.bind_some _ _).symm.trans H; rw [hy361]; with_reducible exact H2_) | (have H2_ := (Option.bind_some _ _).symm.trans H; with_reducible exact H2_) | with_reducible exact H | (rw [hy361]; exact H) | exact H
                         have Ny361 := Aside0.mk hy361
                         clear hy361
                         by_cases c97 : x20_6 < (x7_1.length : Int)
                         ·
                          rw [if_pos c97] at H
                          have c97b0 : decide (x20_6 < (x7_1.length : Int)) = true := decide_eq_true c97
                          clear c97
                          by_cases c98 : 0 ≤ (rd x7_1 x20_6)
                          ·
                           rw [if_pos c98] at H
                           have c98b0 : decide (0 ≤ (rd x7_1 x20_6)) = true := decide_eq_true c98
                           clear c98
                           by_cases c99 : (rd x7_1 x20_6) < (l0_0.length : Int)
                           ·
                            rw [if_pos c99] at H
                            have c99b0 : decide ((rd x7_1 x20_6) < (l0_0.length : Int)) = true := decide_eq_true c99
                            clear c99
                            have H' := Aside0.mk H
                            clear H
                            obtain ⟨Ao100, co100, eo100⟩ := Kd.R_slice HO_18.out
                            subst eo100
                            have p360 : 0 ≤ (x20_6 : Int) := of_decide_eq_true (by first | (with_reducible assumption) | assumption)
                            have q360 : x20_6 < (x18_6.length : Int) := of_decide_eq_true (by first | (with_reducible assumption) | assumption)
                            obtain ⟨ad360, e360, hx360_0⟩ := Kd.at_bool (Kd.R_reads' HO_18.out).2.2 x20_6 p360 q360
                            (try rw [← Nbq93.out] at hx360_0)
                            cases e360
                            replace p360 := eq_true p360
                            replace q360 := eq_true q360
                            have p96 : 0 ≤ (x20_6 : Int) := of_decide_eq_true (by first | (with_reducible assumption) | assumption)
                            have q96 : (x20_6 : Int) < ((x18_6.length : Int) : Int) := of_decide_eq_true (by first | (with_reducible assumption) | assumption)
                            obtain ⟨go96, co96, eo96, gb96, gl96, cl96, HG96⟩ := Kd.R_form HO_18.out (by omega)
                            (first | cases eo96 | (injection eo96 with ea_ en_ ec_; (first | subst ea_ | (injection ea_ with ea_; subst ea_)); subst ec_; clear en_))
                            have GB96 := Aside0.mk gb96
                            have GG96 := Aside0.mk HG96
                            clear gb96 gl96 HG96
                            (first | simp only [add_plain] at hx360_0 | skip)
                            obtain ⟨hx96_0, hf96_0⟩ := Kd.R_celln false HO_18.out (x20_6 : Int) p96 q96
                            replace p96 := eq_true p96
                            replace q96 := eq_true q96
                            obtain ⟨hy101_, hz101_⟩ := Kd.R_celln false HO_18.out (x20_6 : Int) (of_decide_eq_true (by first | (with_reducible assumption) | assumption)) (of_decide_eq_true (by first | (with_reducible assumption) | assumption))
                            have HP101 := Kd.R_putg HO_18.out (x20_6 : Int) true
                            try go_wp2_with (first | ((with_reducible refine gate_store (t := 4) (p := 120) rfl ?_); refine store_event (t := 4) (p := 120) (v := ?vo_w102) (w1 := (wr.setCell ⟨go96, (x20_6 : Int).toNat, none⟩ (.bool true))) ?hg ?ho ?hn ?hr ?_; (case ho => rfl); (case hg => rfl); (case hn => rfl); (case hr => first | (go_simp; done) | (go_simp; rfl)); intro w102 hw; have hg : wr.grownBy w102 (some go96) := (by rw [hw]; exact HP101.2); have hp_ : Kd.R Kd.bool 4 w102 w.heap.size (fun k_ => (w.heap.size ≤ k_) ∧ some k_ ≠ (u324000 : Value).ownBlock) (.slice (some ⟨go96, 0, none⟩) x18_6.length co100) y361 := (by rw [hw, Ny361.out]; exact HP101.1); clear HP101; have n0_ := Aside0.mk (Kd.R_over' (v := (.slice (some ⟨go96, 0, none⟩) x18_6.length co100)) (by (with_reducible repeat (first | apply Kd.R_alloc | apply Kd.R_drewN | apply Kd.R_drew)); exact HO_7.out) (Kd.R_typed HO_18.out) (by decide) hg); have n1_ := Aside0.mk (hp_); have n2_ := Aside0.mk (Kd.V_afterv (v := (.slice (some ⟨go96, 0, none⟩) x18_6.length co100)) (v1 := (.slice (some ⟨go96, 0, none⟩) x18_6.length co100)) (ok := (fun k_ => (P0_0_ k_ ∨ w.heap.size ≤ k_) ∧ some k_ ≠ (.slice Ao48 x7_1.length co48 : Value).ownBlock ∧ some k_ ≠ (u324000 : Value).ownBlock ∧ k_ ≠ gb319 ∧ k_ ≠ gb323)) (by (with_reducible repeat (first | apply Kd.V_alloc | apply Kd.V_drewN | apply Kd.V_drew)); exact Kd.V_mono HO_320000.out (fun _ hk => ⟨⟨hk.1, ⟨hk.2.1, ⟨hk.2.2.2.1, ⟨hk.2.2.2.2.1, hk.2.2.2.2.2⟩⟩⟩⟩, hk.2.2.1⟩)) hg (.inl rfl)); have n3_ := Aside0.mk (Kd.R_after (v := (.slice (some ⟨go96, 0, none⟩) x18_6.length co100)) (v1 := (.slice (some ⟨go96, 0, none⟩) x18_6.length co100)) (ok := (fun k_ => (w.heap.size ≤ k_))) (by (with_reducible repeat (first | apply Kd.R_alloc | apply Kd.R_drewN | apply Kd.R_drew)); exact HO_324000.out) hg (.inl rfl)); have n4_ := Aside0.mk (blk_grown (g := gb319) (o := .cells #[.slice A0_0 l0_0.length c0_0, .slice A0_1 l0_1.length c0_1] 27 (0, 0)) (by (with_reducible repeat (first | refine blk_drewN ?_ _ | refine blk_drew ?_ | refine blk_alloc ?_ _)); exact BK319.out) hg (Kd.R_ne HO_18.out BK319.out (by decide))); have n5_ := Aside0.mk (blk_grown (g := gb323) (o := .cells #[u324000] 67 (0, 0)) (by (with_reducible repeat (first | refine blk_drewN ?_ _ | refine blk_drew ?_ | refine blk_alloc ?_ _)); exact BK323.out) hg (Kd.R_ne HO_18.out BK323.out (by decide))); have n6_ := Aside0.mk ((by rw [hw]; exact below_set (HB.out) GB96.out : Below w.heap.size w w102)); clear HO_7 HO_18 HO_320000 HO_324000 BK319 BK323 HB; have HO_7 := n0_; have HO_18 := n1_; have HO_320000 := n2_; have HO_324000 := n3_; have BK319 := n4_; have BK323 := n5_; have HB := n6_; clear n0_ n1_ n2_ n3_ n4_ n5_ n6_; clear hg hw hp_))
                            have n0_ := Aside0.mk (Kd.R_drew HO_7.out)
                            have n1_ := Aside0.mk (Kd.R_drew HO_18.out)
                            have n2_ := Aside0.mk (Kd.V_drew HO_320000.out)
                            have n3_ := Aside0.mk (Kd.R_drew HO_324000.out)
                            have n4_ := Aside0.mk (blk_drew BK319.out)
                            have n5_ := Aside0.mk (blk_drew BK323.out)
                            have n6_ := Aside0.mk (below_drew1 HB.out)
                            clear HO_7 HO_18 HO_320000 HO_324000 BK319 BK323 HB
                            have HO_7 := n0_
                            have HO_18 := n1_
                            have HO_320000 := n2_
                            have HO_324000 := n3_
                            have BK319 := n4_
                            have BK323 := n5_
                            have HB := n6_
                            clear n0_ n1_ n2_ n3_ n4_ n5_ n6_
                            have p362 : 0 ≤ (x20_6 : Int) := of_decide_eq_true (by first | (with_reducible assumption) | assumption)
                            have q362 : x20_6 < (x7_1.length : Int) := of_decide_eq_true (by first | (with_reducible assumption) | assumption)
                            obtain ⟨ad362, e362, hx362_0⟩ := Kd.at_int (Kd.R_reads' HO_7.out).2.2 x20_6 p362 q362
                            cases e362
                            replace p362 := eq_true p362
                            replace q362 := eq_true q362
                            have p363 : 0 ≤ ((rd x7_1 x20_6) : Int) := of_decide_eq_true (by first | (with_reducible assumption) | assumption)
                            have q363 : (rd x7_1 x20_6) < (l0_0.length : Int) := of_decide_eq_true (by first | (with_reducible assumption) | assumption)
                            obtain ⟨ad363, e363, hx363_0⟩ := Kd.at_int (Kd.V_reads' HO_320000.out).2.2 (rd x7_1 x20_6) p363 q363
                            cases e363
                            replace p363 := eq_true p363
                            replace q363 := eq_true q363
                            refine start_ (n := 9) (S := fun w' => w'.cell? ⟨gb319, 0, none⟩ = some (.slice (some ad363) l0_0.length c0_0) ∧ w'.cell? ⟨gb319, 1, none⟩ = some (.slice A0_1 l0_1.length c0_1) ∧ w'.cell? (ad362.add (x20_6).toNat) = some (.int .i64 (rd x7_1 x20_6)) ∧ w'.cell? (ad363.add ((rd x7_1 x20_6)).toNat) = some (.int .i64 (rd l0_0 (rd x7_1 x20_6)))) (ds := []) #[false, false, false, false, false, false, false, false, false] (by kernel_rfl) rfl rfl ⟨(blk_cell BK319.out 0).trans rfl, (blk_cell BK319.out 1).trans rfl, hx362_0, hx363_0⟩ (fun hHeld => ?_); refine with_tabW impl_ribbon.tab35 impl_ribbon.bits35 (fun HT_ HW_ => ?_)
                            generalize w102.drew = w103 at HO_7 HO_18 HO_320000 HO_324000 BK319 BK323 HB hx362_0 hx363_0 hHeld ⊢
                            refine pure_ (i := 0) (N := some 121) (v := ?_) (a' := ?_) #[true, false, false, false, false, false, false, false, false] rfl rfl (any_of HT_.out (by kernel_rfl)) (fun _ _ _ h => h) (Or.inl ⟨by rfl, ?_⟩) ?_ ?_
                            rotate_left
                            ·
                             intro w'
                             go_simp
                             with_reducible rfl
                            rotate_left
                            ·
                             simp only [Act.put, List.setIfInBounds_toArray, List.set_cons_zero, List.set_cons_succ, i64_w, i32_w]
                             rfl
                            refine pure_ (i := 2) (N := some 123) (v := ?_) (a' := ?_) #[true, false, true, false, false, false, false, false, false] rfl rfl (any_of HT_.out (by kernel_rfl)) (fun _ _ _ h => h) (Or.inl ⟨by rfl, ?_⟩) ?_ ?_
                            rotate_left
                            ·
                             intro w'
                             go_simp
                             with_reducible rfl
                            rotate_left
                            ·
                             simp only [Act.put, List.setIfInBounds_toArray, List.set_cons_zero, List.set_cons_succ, i64_w, i32_w]
                             rfl
                            refine pure_ (i := 3) (N := some 124) (v := ?_) (a' := ?_) #[true, false, true, true, false, false, false, false, false] rfl rfl (any_of HT_.out (by kernel_rfl)) (fun _ _ _ h => h) (Or.inl ⟨by rfl, ?_⟩) ?_ ?_
                            rotate_left
                            ·
                             intro w'
                             go_simp
                             with_reducible rfl
                            rotate_left
                            ·
                             simp only [Act.put, List.setIfInBounds_toArray, List.set_cons_zero, List.set_cons_succ, i64_w, i32_w]
                             rfl
                            refine pure_ (i := 4) (N := some 125) (v := ?_) (a' := ?_) #[true, false, true, true, true, false, false, false, false] rfl rfl (any_of HT_.out (by kernel_rfl)) (fun _ _ _ h => h) (Or.inl ⟨by rfl, ?_⟩) ?_ ?_
                            rotate_left
                            ·
                             intro w'
                             go_simp
                             with_reducible rfl
                            rotate_left
                            ·
                             simp only [Act.put, List.setIfInBounds_toArray, List.set_cons_zero, List.set_cons_succ, i64_w, i32_w]
                             rfl
                            refine take_ (i := 1) (N := some 122) (v := ?_) (a' := ?_) #[true, true, true, true, true, false, false, false, false] rfl rfl (take_ofW HT_.out HW_.out (by kernel_rfl)) (fun _ _ _ h => h) (Or.inl ⟨by rfl, ?_⟩) hHeld ?_ ?_
                            rotate_left
                            ·
                             rintro w' ⟨s0, s1, s2, s3⟩
                             go_simp
                             with_reducible rfl
                            rotate_left
                            ·
                             simp only [Act.put, List.setIfInBounds_toArray, List.set_cons_zero, List.set_cons_succ, i64_w, i32_w]
                             rfl
                            refine take_ (i := 5) (N := some 126) (v := ?_) (a' := ?_) #[true, true, true, true, true, true, false, false, false] rfl rfl (take_ofW HT_.out HW_.out (by kernel_rfl)) (fun _ _ _ h => h) (Or.inl ⟨by rfl, ?_⟩) hHeld ?_ ?_
                            rotate_left
                            ·
                             rintro w' ⟨s0, s1, s2, s3⟩
                             go_simp
                             with_reducible rfl
                            rotate_left
                            ·
                             simp only [Act.put, List.setIfInBounds_toArray, List.set_cons_zero, List.set_cons_succ, i64_w, i32_w]
                             rfl
                            refine pure_ (i := 6) (N := some 127) (v := ?_) (a' := ?_) #[true, true, true, true, true, true, true, false, false] rfl rfl (any_of HT_.out (by kernel_rfl)) (fun _ _ _ h => h) (Or.inl ⟨by rfl, ?_⟩) ?_ ?_
                            rotate_left
                            ·
                             intro w'
                             go_simp
                             with_reducible rfl
                            rotate_left
                            ·
                             simp only [Act.put, List.setIfInBounds_toArray, List.set_cons_zero, List.set_cons_succ, i64_w, i32_w]
                             rfl
                            refine take_ (i := 7) (N := some 128) (v := ?_) (a' := ?_) #[true, true, true, true, true, true, true, true, false] rfl rfl (take_ofW HT_.out HW_.out (by kernel_rfl)) (fun _ _ _ h => h) (Or.inl ⟨by rfl, ?_⟩) hHeld ?_ ?_
                            rotate_left
                            ·
                             rintro w' ⟨s0, s1, s2, s3⟩
                             go_simp
                             with_reducible rfl
                            rotate_left
                            ·
                             simp only [Act.put, List.setIfInBounds_toArray, List.set_cons_zero, List.set_cons_succ, i64_w, i32_w]
                             rfl
                            refine pure_ (i := 8) (N := some 20) (v := ?_) (a' := ?_) #[true, true, true, true, true, true, true, true, true] rfl rfl (any_of HT_.out (by kernel_rfl)) (fun _ _ _ h => h) (Or.inl ⟨by rfl, ?_⟩) ?_ ?_
                            rotate_left
                            ·
                             intro w'
                             go_simp
                             with_reducible rfl
                            rotate_left
                            ·
                             simp only [Act.put, List.setIfInBounds_toArray, List.set_cons_zero, List.set_cons_succ, i64_w, i32_w]
                             rfl
                            refine done_ (done_of HT_.out (by kernel_rfl)) ?_
                            try go_wp2
                            go_loopg [20] k6 (fun kq v20 w' => ∃ (x20_7 : Int), v20 = .int .i64 x20_7 ∧ Aside0 (impl_ribbon.l5 kq l1 x7_1 x12_2 (wrap64 (x15_4 + 1)) y361 x20_7 (l0_0.length : Int) x96_4 l0_0 l0_1 x324000_1 = some r) ∧ Aside0 (kq ≤ k6) ∧ Aside0 (Kd.R (Kd.int .i64) 3 w' w.heap.size (fun k_ => (w.heap.size ≤ k_)) (.slice (some ad362) x7_1.length co48) x7_1) ∧ Aside0 (Kd.R Kd.bool 4 w' w.heap.size (fun k_ => (w.heap.size ≤ k_) ∧ some k_ ≠ (u324000 : Value).ownBlock) (.slice (some ⟨go96, 0, none⟩) x18_6.length co100) y361) ∧ Aside0 (Kd.V (Kd.int .i64) 3 w' w.heap.size (fun k_ => (P0_0_ k_ ∨ w.heap.size ≤ k_) ∧ some k_ ≠ ((.slice (some ad362) x7_1.length co48) : Value).ownBlock ∧ some k_ ≠ ((.slice (some ⟨go96, 0, none⟩) x18_6.length co100) : Value).ownBlock ∧ some k_ ≠ (u324000 : Value).ownBlock ∧ k_ ≠ gb319 ∧ k_ ≠ gb323) (.slice (some ad363) l0_0.length c0_0) l0_0) ∧ Aside0 (Kd.R Kd.bool 4 w' w.heap.size (fun k_ => (w.heap.size ≤ k_) ∧ some k_ ≠ ((.slice (some ⟨go96, 0, none⟩) x18_6.length co100) : Value).ownBlock) u324000 x324000_1) ∧ Aside0 (w'.heap[gb319]? = some (.cells #[(.slice (some ad363) l0_0.length c0_0), (.slice A0_1 l0_1.length c0_1)] 27 (0, 0))) ∧ Aside0 (w'.heap[gb323]? = some (.cells #[u324000] 67 (0, 0))) ∧ Aside0 (Below w.heap.size w w'))
                            case atStart => exact ⟨(rd l0_0 (rd x7_1 x20_6)), (by first | rfl | (simp; done) | (simp [*]; done)), H', ⟨Nat.le_refl _⟩, ⟨by (with_reducible repeat (first | apply Kd.R_alloc | apply Kd.R_drewN | apply Kd.R_drew)); exact HO_7.out⟩, ⟨by (with_reducible repeat (first | apply Kd.R_alloc | apply Kd.R_drewN | apply Kd.R_drew)); exact HO_18.out⟩, ⟨by (with_reducible repeat (first | apply Kd.V_alloc | apply Kd.V_drewN | apply Kd.V_drew)); exact Kd.V_mono HO_320000.out (fun _ hk => ⟨hk.1.1, ⟨hk.1.2.1, ⟨hk.2, ⟨hk.1.2.2.1, ⟨hk.1.2.2.2.1, hk.1.2.2.2.2⟩⟩⟩⟩⟩)⟩, ⟨by (with_reducible repeat (first | apply Kd.R_alloc | apply Kd.R_drewN | apply Kd.R_drew)); exact HO_324000.out⟩, ⟨by (with_reducible repeat (first | refine blk_drewN ?_ _ | refine blk_drew ?_ | refine blk_alloc ?_ _)); exact BK319.out⟩, ⟨by (with_reducible repeat (first | refine blk_drewN ?_ _ | refine blk_drew ?_ | refine blk_alloc ?_ _)); exact BK323.out⟩, ⟨by repeat (first | (with_reducible first | exact HB.out | apply below_alloc | apply pw_below_drewN | apply below_drew1 | refine below_set ?_ GE319.out | refine below_set ?_ GE323.out) | exact HB.out)⟩⟩
                            case round =>
                             clear H'
                             try clear c1
                             try clear c2
                             try clear p2
                             try clear q2
                             try clear hx2
                             try clear hf2
                             try clear c3
                             try clear c3b0
                             try clear c3b1
                             try clear p3
                             try clear q3
                             try clear hx3
                             try clear hf3
                             try clear c4
                             try clear c4b0
                             try clear c4b1
                             try clear c5
                             try clear c6
                             try clear p6
                             try clear c7
                             try clear c8
                             try clear q8
                             try clear c9
                             try clear p9
                             try clear q9
                             try clear hx9
                             try clear hf9
                             try clear c12
                             try clear c15
                             try clear c15b0
                             try clear c16
                             try clear c16b0
                             try clear c17
                             try clear c17b0
                             try clear c19
                             try clear c19b0
                             try clear c20
                             try clear c20b0
                             try clear c21
                             try clear c21b0
                             try clear c22
                             try clear c22b0
                             try clear c23
                             try clear c23b0
                             try clear p24
                             try clear q24
                             try clear hx24
                             try clear hf24
                             try clear c25
                             try clear c25b0
                             try clear c26
                             try clear c26b0
                             try clear p27
                             try clear q27
                             try clear hx27
                             try clear hf27
                             try clear c28
                             try clear c28b0
                             try clear p29
                             try clear q29
                             try clear hx29
                             try clear hf29
                             try clear c30
                             try clear c30b0
                             try clear p31
                             try clear q31
                             try clear hx31
                             try clear hf31
                             try clear c32
                             try clear p32
                             try clear q32
                             try clear hx32
                             try clear p33
                             try clear q33
                             try clear hx33
                             try clear c34
                             try clear p34
                             try clear q34
                             try clear hx34
                             try clear p35
                             try clear q35
                             try clear hx35
                             try clear p36
                             try clear q36
                             try clear hx36
                             try clear c46
                             try clear c54
                             try clear c54b0
                             try clear c55
                             try clear c55b0
                             try clear c56
                             try clear c56b0
                             try clear c57
                             try clear c57b0
                             try clear c57b1
                             try clear c59
                             try clear c62
                             try clear c63
                             try clear c63b0
                             try clear c64
                             try clear c64b0
                             try clear p64
                             try clear c65
                             try clear c65b0
                             try clear c67
                             try clear c72
                             try clear c72b0
                             try clear c72b1
                             try clear c73
                             try clear c73b0
                             try clear c73b1
                             try clear c76
                             try clear c76b0
                             try clear c78
                             try clear c78b0
                             try clear c79
                             try clear c79b0
                             try clear c80
                             try clear q80
                             try clear c81
                             try clear c82
                             try clear c82b0
                             try clear c83
                             try clear c87
                             try clear c90
                             try clear c91
                             try clear c91b0
                             try clear c92
                             try clear c92b0
                             try clear q93
                             try clear c94
                             try clear p96
                             try clear q96
                             try clear hx96
                             try clear hf96
                             try clear c97
                             try clear c97b0
                             try clear c98
                             try clear c98b0
                             try clear c99
                             try clear c99b0
                             try clear hcz13_0
                             try clear hcz33_0
                             try clear hcz33_1
                             try clear hcz36_0
                             try clear hcz36_1
                             try clear hcz47_0
                             try clear hcz47_1
                             try clear hcz60_0
                             try clear hcz60_1
                             try clear hcz7_0
                             try clear hcz7_1
                             try clear hcz84_0
                             try clear hcz88_0
                             try clear hfz13_0
                             try clear hfz33_0
                             try clear hfz33_1
                             try clear hfz36_0
                             try clear hfz36_1
                             try clear hfz47_0
                             try clear hfz47_1
                             try clear hfz60_0
                             try clear hfz60_1
                             try clear hfz7_0
                             try clear hfz7_1
                             try clear hfz84_0
                             try clear hfz88_0
                             try clear hx24_0
                             try clear hx27_0
                             try clear hx29_0
                             try clear hx31_0
                             try clear hx327_0
                             try clear hx331_0
                             try clear hx332_0
                             try clear hx343_0
                             try clear hx347_0
                             try clear hx358_0
                             try clear hx359_0
                             try clear hx360_0
                             try clear hx362_0
                             try clear hx363_0
                             try clear hx96_0
                             try clear p2
                             try clear p24
                             try clear p27
                             try clear p29
                             try clear p3
                             try clear p31
                             try clear p32
                             try clear p327
                             try clear p33
                             try clear p331
                             try clear p332
                             try clear p34
                             try clear p343
                             try clear p347
                             try clear p35
                             try clear p358
                             try clear p359
                             try clear p360
                             try clear p362
                             try clear p363
                             try clear p6
                             try clear p64
                             try clear p96
                             try clear q2
                             try clear q24
                             try clear q27
                             try clear q29
                             try clear q3
                             try clear q31
                             try clear q32
                             try clear q327
                             try clear q33
                             try clear q331
                             try clear q332
                             try clear q34
                             try clear q343
                             try clear q347
                             try clear q35
                             try clear q358
                             try clear q359
                             try clear q360
                             try clear q362
                             try clear q363
                             try clear q8
                             try clear q80
                             try clear q96
                             obtain ⟨x20_7, rfl, HA, HK7, HO_7, HO_18, HO_320000, HO_324000, BK319, BK323, HB⟩ := hrel
                             have hl18_7 := (Kd.R_reads' HO_18.out).1
                             rw [hl18_7] at HO_18
                             (try simp only [hl18_7])
                             (try simp only [hl18_7] at BK319)
                             (try simp only [hl18_7] at BK323)
                             (try simp only [hl18_7] at HO_7)
                             (try simp only [hl18_7] at HO_320000)
                             (try simp only [hl18_7] at HO_324000)
                             cases gk with
                             | zero => exact absurd HA.out (by simp [impl_ribbon.l5])
                             | succ k7 =>
                              have H := HA.out
                              clear HA
                              simp only [impl_ribbon.l5] at H
                              by_cases c104 : 0 ≤ x20_7
                              ·
                               rw [if_pos c104] at H
                               have c104b0 : decide (0 ≤ x20_7) = true := decide_eq_true c104
                               clear c104
                               by_cases c105 : x20_7 < (x324000_1.length : Int)
                               ·
                                rw [if_pos c105] at H
                                have c105b0 : decide (x20_7 < (x324000_1.length : Int)) = true := decide_eq_true c105
                                (try (have c105b0hl18_7 := c105b0; rw [hl18_7] at c105b0hl18_7))
                                clear c105
                                obtain ⟨bq106, hbq106⟩ : ∃ b_ : Bool, b_ = (rdOf false x324000_1 x20_7) := ⟨_, rfl⟩
                                replace H : (if bq106 = true then (impl_ribbon.l4 k7 l1 x7_1 x12_2 (wrap64 (x15_4 + 1)) y361 x20_7 (l0_0.length : Int) x96_4 l0_0 l0_1 x324000_1) else (if x20_7 < (l0_0.length : Int) then (impl_ribbon.l5 k7 l1 x7_1 x12_2 (wrap64 (x15_4 + 1)) y361 (rd l0_0 x20_7) (l0_0.length : Int) x96_4 l0_0 l0_1 x324000_1) else (none))) = some r := by rw [← hbq106] at H; exact H
                                have Nbq106 := Aside0.mk hbq106
                                clear hbq106
                                by_cases c107 : bq106 = true
                                ·
                                 subst c107
                                 have H1 : (impl_ribbon.l4 k7 l1 x7_1 x12_2 (wrap64 (x15_4 + 1)) y361 x20_7 (l0_0.length : Int) x96_4 l0_0 l0_1 x324000_1) = some r := by rw [if_pos rfl] at H; exact H
                                 clear H
                                 have H := H1
                                 clear H1
                                 have H' := Aside0.mk H
                                 clear H
                                 have hnb108 := NB323_319.out
                                 have hnc108 := NB319_323.out
                                 have hcz109_0 : wr.cell? ⟨gb323, 0, none⟩ = some (u324000) := (blk_cell BK323.out 0).trans rfl
                                 have hfz109_0 := blk_frozen BK323.out 0
                                 obtain ⟨Ao110, co110, eo110⟩ := Kd.R_slice HO_324000.out
                                 subst eo110
                                 have p364 : 0 ≤ (x20_7 : Int) := of_decide_eq_true (by first | (with_reducible assumption) | assumption)
                                 have q364 : x20_7 < (x324000_1.length : Int) := of_decide_eq_true (by first | (with_reducible assumption) | assumption)
                                 obtain ⟨ad364, e364, hx364_0⟩ := Kd.at_bool (Kd.R_reads' HO_324000.out).2.2 x20_7 p364 q364
                                 (try rw [← Nbq93.out] at hx364_0)
                                 (try rw [← Nbq106.out] at hx364_0)
                                 cases e364
                                 replace p364 := eq_true p364
                                 replace q364 := eq_true q364
                                 go_wp2
                                 (try simp only [← hl18_7])
                                 (first | go_roundg k7 | (refine Handed.intro k7 ?measure ?_; rotate_left; go_step; (try simp only [add_plain]); (repeat apply Exists.intro); refine ⟨?rel, rfl⟩))
                                 case measure => have := HK1.out; have := HK2.out; have := HK3.out; have := HK4.out; have := HJ76.out; have := HK6.out; have := HK7.out; omega
                                 case rel => exact ⟨(y361), (x20_7), (by first | rfl | (simp; done) | (simp [*]; done)), H', ⟨by have := HK1.out; have := HK2.out; have := HK3.out; have := HK4.out; have := HJ76.out; have := HK6.out; have := HK7.out; omega⟩, ⟨by (try simp only [hl18_7]); (with_reducible repeat (first | apply Kd.R_alloc | apply Kd.R_drewN | apply Kd.R_drew)); exact HO_7.out⟩, ⟨by (try simp only [hl18_7]); (with_reducible repeat (first | apply Kd.R_alloc | apply Kd.R_drewN | apply Kd.R_drew)); exact HO_18.out⟩, ⟨by (try simp only [hl18_7]); (with_reducible repeat (first | apply Kd.V_alloc | apply Kd.V_drewN | apply Kd.V_drew)); exact HO_320000.out⟩, ⟨by (try simp only [hl18_7]); (with_reducible repeat (first | apply Kd.R_alloc | apply Kd.R_drewN | apply Kd.R_drew)); exact HO_324000.out⟩, ⟨by (try simp only [hl18_7]); (with_reducible repeat (first | refine blk_drewN ?_ _ | refine blk_drew ?_ | refine blk_alloc ?_ _)); exact BK319.out⟩, ⟨by (try simp only [hl18_7]); (with_reducible repeat (first | refine blk_drewN ?_ _ | refine blk_drew ?_ | refine blk_alloc ?_ _)); exact BK323.out⟩, ⟨by repeat (first | (with_reducible first | exact HB.out | apply below_alloc | apply pw_below_drewN | apply below_drew1 | refine below_set ?_ GE319.out | refine below_set ?_ GE323.out) | exact HB.out)⟩⟩
                                ·
                                 replace c107 := Bool.eq_false_iff.mpr c107
                                 subst c107
                                 have H1 : (if x20_7 < (l0_0.length : Int) then (impl_ribbon.l5 k7 l1 x7_1 x12_2 (wrap64 (x15_4 + 1)) y361 (rd l0_0 x20_7) (l0_0.length : Int) x96_4 l0_0 l0_1 x324000_1) else (none)) = some r := by rw [if_neg (show ¬ (false = true) by decide)] at H; exact H
                                 clear H
                                 have H := H1
                                 clear H1
                                 by_cases c111 : x20_7 < (l0_0.length : Int)
                                 ·
                                  rw [if_pos c111] at H
                                  have c111b0 : decide (x20_7 < (l0_0.length : Int)) = true := decide_eq_true c111
                                  (try (have c111b0hl18_7 := c111b0; rw [hl18_7] at c111b0hl18_7))
                                  clear c111
                                  have H' := Aside0.mk H
                                  clear H
                                  have hnb112 := NB323_319.out
                                  have hnc112 := NB319_323.out
                                  have hcz113_0 : wr.cell? ⟨gb323, 0, none⟩ = some (u324000) := (blk_cell BK323.out 0).trans rfl
                                  have hfz113_0 := blk_frozen BK323.out 0
                                  obtain ⟨Ao114, co114, eo114⟩ := Kd.R_slice HO_324000.out
                                  subst eo114
                                  have p364 : 0 ≤ (x20_7 : Int) := of_decide_eq_true (by first | (with_reducible assumption) | assumption)
                                  have q364 : x20_7 < (x324000_1.length : Int) := of_decide_eq_true (by first | (with_reducible assumption) | assumption)
                                  obtain ⟨ad364, e364, hx364_0⟩ := Kd.at_bool (Kd.R_reads' HO_324000.out).2.2 x20_7 p364 q364
                                  (try rw [← Nbq93.out] at hx364_0)
                                  (try rw [← Nbq106.out] at hx364_0)
                                  cases e364
                                  replace p364 := eq_true p364
                                  replace q364 := eq_true q364
                                  have hcz115_0 : wr.cell? ⟨gb319, 0, none⟩ = some (.slice (some ad363) l0_0.length c0_0) := (blk_cell BK319.out 0).trans rfl
                                  have hcz115_1 : wr.cell? ⟨gb319, 1, none⟩ = some (.slice A0_1 l0_1.length c0_1) := (blk_cell BK319.out 1).trans rfl
                                  have hfz115_0 := blk_frozen BK319.out 0
                                  have hfz115_1 := blk_frozen BK319.out 1
                                  have p365 : 0 ≤ (x20_7 : Int) := of_decide_eq_true (by first | (with_reducible assumption) | assumption)
                                  have q365 : x20_7 < (l0_0.length : Int) := of_decide_eq_true (by first | (with_reducible assumption) | assumption)
                                  obtain ⟨ad365, e365, hx365_0⟩ := Kd.at_int (Kd.V_reads' HO_320000.out).2.2 x20_7 p365 q365
                                  obtain rfl : ad363 = ad365 := (by injection e365)
                                  replace p365 := eq_true p365
                                  replace q365 := eq_true q365
                                  go_wp2
                                  (try simp only [← hl18_7])
                                  (first | go_roundg k7 | (refine Handed.intro k7 ?measure ?_; rotate_left; go_step; (try simp only [add_plain]); (repeat apply Exists.intro); refine ⟨?rel, rfl⟩))
                                  case measure => have := HK1.out; have := HK2.out; have := HK3.out; have := HK4.out; have := HJ76.out; have := HK6.out; have := HK7.out; omega
                                  case rel => exact ⟨(rd l0_0 x20_7), (by first | rfl | (simp; done) | (simp [*]; done)), H', ⟨by have := HK1.out; have := HK2.out; have := HK3.out; have := HK4.out; have := HJ76.out; have := HK6.out; have := HK7.out; omega⟩, ⟨by (try simp only [hl18_7]); (with_reducible repeat (first | apply Kd.R_alloc | apply Kd.R_drewN | apply Kd.R_drew)); exact HO_7.out⟩, ⟨by (try simp only [hl18_7]); (with_reducible repeat (first | apply Kd.R_alloc | apply Kd.R_drewN | apply Kd.R_drew)); exact HO_18.out⟩, ⟨by (try simp only [hl18_7]); (with_reducible repeat (first | apply Kd.V_alloc | apply Kd.V_drewN | apply Kd.V_drew)); exact HO_320000.out⟩, ⟨by (try simp only [hl18_7]); (with_reducible repeat (first | apply Kd.R_alloc | apply Kd.R_drewN | apply Kd.R_drew)); exact HO_324000.out⟩, ⟨by (try simp only [hl18_7]); (with_reducible repeat (first | refine blk_drewN ?_ _ | refine blk_drew ?_ | refine blk_alloc ?_ _)); exact BK319.out⟩, ⟨by (try simp only [hl18_7]); (with_reducible repeat (first | refine blk_drewN ?_ _ | refine blk_drew ?_ | refine blk_alloc ?_ _)); exact BK323.out⟩, ⟨by repeat (first | (with_reducible first | exact HB.out | apply below_alloc | apply pw_below_drewN | apply below_drew1 | refine below_set ?_ GE319.out | refine below_set ?_ GE323.out) | exact HB.out)⟩⟩
                                 ·
                                  rw [if_neg c111] at H
                                  exact absurd H (by simp)
                               ·
                                rw [if_neg c105] at H
                                exact absurd H (by simp)
                              ·
                               rw [if_neg c104] at H
                               exact absurd H (by simp)
                           ·
                            rw [if_neg c99] at H
                            exact absurd H (by simp)
                          ·
                           rw [if_neg c98] at H
                           exact absurd H (by simp)
                         ·
                          rw [if_neg c97] at H
                          exact absurd H (by simp)
                       ·
                        rw [if_neg c92] at H
                        exact absurd H (by simp)
                      ·
                       rw [if_neg c91] at H
                       exact absurd H (by simp)
                ·
                 rw [if_neg c76] at H
                 have c76b0 : decide (x96_4 < (l0_0.length : Int)) = false := decide_eq_false c76
                 clear c76
                 replace H := Option.bind_eq_some_iff.mp H
                 obtain ⟨t352, A1160, H⟩ := H
                 replace H : (some (([x12_2, x15_4, wrap64 ((t352.length : Int) - x12_2), wrap64 ((l1.length : Int) - (wrap64 ((t352.length : Int) - x12_2))), wrap64 (Int.tdiv (wrap64 ((wrap64 ((wrap64 ((wrap64 (2 * x12_2)) - (t352.length : Int))) + (l1.length : Int))) - x15_4)) 2)] : List Int))) = some r := H
                 have A116 := Aside0.mk A1160
                 clear A1160
                 obtain ⟨y355, hy355⟩ : ∃ y_ : List Int, y_ = (([x12_2, x15_4, wrap64 ((t352.length : Int) - x12_2), wrap64 ((l1.length : Int) - (wrap64 ((t352.length : Int) - x12_2))), wrap64 (Int.tdiv (wrap64 ((wrap64 ((wrap64 ((wrap64 (2 * x12_2)) - (t352.length : Int))) + (l1.length : Int))) - x15_4)) 2)] : List Int)) := ⟨_, rfl⟩
                 replace H : (some y355) = some r := by first | (rw [hy355]; with_reducible exact H) | (have H2_ := (Option.bind_some _ _).symm.trans H; rw [hy355]; with_reducible exact H2_) | (have H2_ := (Option.bind_some _ _).symm.trans H; with_reducible exact H2_) | with_reducible exact H | (rw [hy355]; exact H) | exact H
                 have Ny355 := Aside0.mk hy355
                 clear hy355
                 obtain rfl := Option.some.inj H
                 have hnb117 := NB319_323.out
                 have hnc117 := NB323_319.out
                 have hcz118_0 : wr.cell? ⟨gb319, 0, none⟩ = some (.slice A0_0 l0_0.length c0_0) := (blk_cell BK319.out 0).trans rfl
                 have hcz118_1 : wr.cell? ⟨gb319, 1, none⟩ = some (.slice A0_1 l0_1.length c0_1) := (blk_cell BK319.out 1).trans rfl
                 have hfz118_0 := blk_frozen BK319.out 0
                 have hfz118_1 := blk_frozen BK319.out 1
                 go_wp2_with (first | ((with_reducible refine gate_callee (f := 62) rfl ?_); refine goesL_ (some 142) rfl rfl Try.func62 (by kernel_rfl) rfl #[.slice A0_0 l0_0.length c0_0] rfl (by (try simp only [List.map_toArray, List.map_cons, List.map_nil]); first | done | rfl | (simp only [List.length_drop, List.length_take]; rfl)) ?_; (with_reducible refine (impl_cyclesOf.calls k4 _ _ l0_0 t352 _ ?side1 ?side2 A116.out).mono ?_); (case side1 => repeat (first | exact (Kd.V_reads' HO_320000.out).2.2 | (with_reducible refine Kd.C_alloc ?_ _) | (with_reducible refine Kd.C_drewN ?_ _) | (with_reducible refine Kd.C_drew ?_))); (case side2 => exact (Kd.V_reads' HO_320000.out).2.1); rintro e w119 ⟨v353, rfl, ho0, hb⟩; refine ⟨_, rfl, ?_⟩; have n0_ := Aside0.mk (Kd.R_below (by (with_reducible repeat (first | apply Kd.R_alloc | apply Kd.R_drewN | apply Kd.R_drew)); exact HO_7.out) hb); have n1_ := Aside0.mk (Kd.R_below (by (with_reducible repeat (first | apply Kd.R_alloc | apply Kd.R_drewN | apply Kd.R_drew)); exact HO_18.out) hb); have n2_ := Aside0.mk (Kd.V_elder' (by (with_reducible repeat (first | apply Kd.V_alloc | apply Kd.V_drewN | apply Kd.V_drew)); exact HO_320000.out) (by first | exact Kd.N_base ho0 | exact Kd.S_base ho0 | exact Kd.R_base ho0) hb); have n3_ := Aside0.mk (Kd.R_below (by (with_reducible repeat (first | apply Kd.R_alloc | apply Kd.R_drewN | apply Kd.R_drew)); exact HO_324000.out) hb); have n4_ := Aside0.mk (Kd.N_lower (Kd.N_mono (ok' := fun k_ => (P0_0_ k_ ∨ w.heap.size ≤ k_) ∧ some k_ ≠ (.slice Ao48 x7_1.length co48 : Value).ownBlock ∧ some k_ ≠ (v350 : Value).ownBlock ∧ some k_ ≠ (u324000 : Value).ownBlock ∧ k_ ≠ gb319 ∧ k_ ≠ gb323) (Kd.S_N (Kd.S_bound ho0)) (fun k_ hk_ => ⟨(.inr (Nat.le_trans (below_size (by repeat (first | (with_reducible first | exact HB.out | apply below_alloc | apply pw_below_drewN | apply below_drew1 | refine below_set ?_ GE319.out | refine below_set ?_ GE323.out) | exact HB.out))) hk_.2.1)), (Kd.fresh' (Kd.R_lt (by (with_reducible repeat (first | apply Kd.R_alloc | apply Kd.R_drewN | apply Kd.R_drew)); exact HO_7.out)) k_ hk_.2.1), (Kd.fresh' (Kd.R_lt (by (with_reducible repeat (first | apply Kd.R_alloc | apply Kd.R_drewN | apply Kd.R_drew)); exact HO_18.out)) k_ hk_.2.1), (Kd.fresh' (Kd.R_lt (by (with_reducible repeat (first | apply Kd.R_alloc | apply Kd.R_drewN | apply Kd.R_drew)); exact HO_324000.out)) k_ hk_.2.1), (Kd.freshB (g := gb319) (o := .cells #[.slice A0_0 l0_0.length c0_0, .slice A0_1 l0_1.length c0_1] 27 (0, 0)) (by (with_reducible repeat (first | refine blk_drewN ?_ _ | refine blk_drew ?_ | refine blk_alloc ?_ _)); exact BK319.out) k_ hk_.2.1), (Kd.freshB (g := gb323) (o := .cells #[u324000] 67 (0, 0)) (by (with_reducible repeat (first | refine blk_drewN ?_ _ | refine blk_drew ?_ | refine blk_alloc ?_ _)); exact BK323.out) k_ hk_.2.1)⟩)) (below_size (by repeat (first | (with_reducible first | exact HB.out | apply below_alloc | apply pw_below_drewN | apply below_drew1 | refine below_set ?_ GE319.out | refine below_set ?_ GE323.out) | exact HB.out)))); have n5_ := Aside0.mk (blk_below (g := gb319) (o := .cells #[.slice A0_0 l0_0.length c0_0, .slice A0_1 l0_1.length c0_1] 27 (0, 0)) (by (with_reducible repeat (first | refine blk_drewN ?_ _ | refine blk_drew ?_ | refine blk_alloc ?_ _)); exact BK319.out) hb); have n6_ := Aside0.mk (blk_below (g := gb323) (o := .cells #[u324000] 67 (0, 0)) (by (with_reducible repeat (first | refine blk_drewN ?_ _ | refine blk_drew ?_ | refine blk_alloc ?_ _)); exact BK323.out) hb); have n7_ := Aside0.mk (below_step (by repeat (first | (with_reducible first | exact HB.out | apply below_alloc | apply pw_below_drewN | apply below_drew1 | refine below_set ?_ GE319.out | refine below_set ?_ GE323.out) | exact HB.out)) hb); clear HO_7 HO_18 HO_320000 HO_324000 BK319 BK323 HB; have HO_7 := n0_; have HO_18 := n1_; have HO_320000 := n2_; have HO_324000 := n3_; have HO354 := n4_; have BK319 := n5_; have BK323 := n6_; have HB := n7_; clear n0_ n1_ n2_ n3_ n4_ n5_ n6_ n7_; (try clear hb); (try clear hb2); (try clear hk); (try clear hi); (try clear ho0); obtain ⟨Ao120, co120, eo120⟩ := Kd.N_slice HO354.out; subst eo120) | ((with_reducible refine gate_dst (N := 164) rfl ?_); refine Kd.R_lit (Kd.int .i64) _ 3 ?hg (N := 164) ?hd (xs := ([x12_2, x15_4, wrap64 ((t352.length : Int) - x12_2), wrap64 ((l1.length : Int) - (wrap64 ((t352.length : Int) - x12_2))), wrap64 (Int.tdiv (wrap64 ((wrap64 ((wrap64 ((wrap64 (2 * x12_2)) - (t352.length : Int))) + (l1.length : Int))) - x15_4)) 2)] : List Int)) (inner := [.int .i64 x12_2, .int .i64 x15_4, .int .i64 (wrap64 ((t352.length : Int) - x12_2)), .int .i64 (wrap64 ((l1.length : Int) - (wrap64 ((t352.length : Int) - x12_2)))), .int .i64 (wrap64 (Int.tdiv (wrap64 ((wrap64 ((wrap64 ((wrap64 (2 * x12_2)) - (t352.length : Int))) + (l1.length : Int))) - x15_4)) 2))]) (ok := fun _ => True) (okp := fun _ => True) ?hr ?hp (fun _ hk => hk) trivial (Below.refl _ _) (Nat.le_refl _) (by simp) ?_; (case hd => rfl); (case hg => rfl); (case hr => first | (go_simp; done) | (go_simp; rfl)); (case hp => exact (Reps.one (show Kd.M (Kd.int .i64) _ _ _ x12_2 [.int .i64 x12_2] from rfl) (Reps.one (show Kd.M (Kd.int .i64) _ _ _ x15_4 [.int .i64 x15_4] from rfl) (Reps.one (show Kd.M (Kd.int .i64) _ _ _ (wrap64 ((t352.length : Int) - x12_2)) [.int .i64 (wrap64 ((t352.length : Int) - x12_2))] from rfl) (Reps.one (show Kd.M (Kd.int .i64) _ _ _ (wrap64 ((l1.length : Int) - (wrap64 ((t352.length : Int) - x12_2)))) [.int .i64 (wrap64 ((l1.length : Int) - (wrap64 ((t352.length : Int) - x12_2))))] from rfl) (Reps.one (show Kd.M (Kd.int .i64) _ _ _ (wrap64 (Int.tdiv (wrap64 ((wrap64 ((wrap64 ((wrap64 (2 * x12_2)) - (t352.length : Int))) + (l1.length : Int))) - x15_4)) 2)) [.int .i64 (wrap64 (Int.tdiv (wrap64 ((wrap64 ((wrap64 ((wrap64 (2 * x12_2)) - (t352.length : Int))) + (l1.length : Int))) - x15_4)) 2))] from rfl) (Reps.none _ _))))))); intro v356 w121 ho122 hb hg_ hnew_; clear hg_ hnew_; (first | rw [← Ny355.out] at ho122 | (simp only [Int.reduceToNat] at ho122; rw [← Ny355.out] at ho122)); have n0_ := Aside0.mk (Kd.R_elder' (by (with_reducible repeat (first | apply Kd.R_alloc | apply Kd.R_drewN | apply Kd.R_drew)); exact HO_7.out) (Kd.R_base ho122) hb); have n1_ := Aside0.mk (Kd.R_below (by (with_reducible repeat (first | apply Kd.R_alloc | apply Kd.R_drewN | apply Kd.R_drew)); exact HO_18.out) hb); have n2_ := Aside0.mk (Kd.V_elder' (by (with_reducible repeat (first | apply Kd.V_alloc | apply Kd.V_drewN | apply Kd.V_drew)); exact HO_320000.out) (Kd.R_base ho122) hb); have n3_ := Aside0.mk (Kd.R_below (by (with_reducible repeat (first | apply Kd.R_alloc | apply Kd.R_drewN | apply Kd.R_drew)); exact HO_324000.out) hb); have n4_ := Aside0.mk (Kd.N_elder' (by (with_reducible repeat (first | apply Kd.N_alloc | apply Kd.N_drewN | apply Kd.N_drew)); exact HO354.out) (Kd.R_base ho122) hb); have n5_ := Aside0.mk (Kd.R_lower (Kd.R_new' (Kd.R_newM (M := fun k_ => (w.heap.size ≤ k_)) ho122 (below_size (by repeat (first | (with_reducible first | exact HB.out | apply below_alloc | apply pw_below_drewN | apply below_drew1 | refine below_set ?_ GE319.out | refine below_set ?_ GE323.out) | exact HB.out))) (fun k_ h_ => h_)) (Kd.R_lt (by (with_reducible repeat (first | apply Kd.R_alloc | apply Kd.R_drewN | apply Kd.R_drew)); exact HO_7.out))) (below_size (by repeat (first | (with_reducible first | exact HB.out | apply below_alloc | apply pw_below_drewN | apply below_drew1 | refine below_set ?_ GE319.out | refine below_set ?_ GE323.out) | exact HB.out)))); have n6_ := Aside0.mk (blk_below (g := gb319) (o := .cells #[.slice A0_0 l0_0.length c0_0, .slice A0_1 l0_1.length c0_1] 27 (0, 0)) (by (with_reducible repeat (first | refine blk_drewN ?_ _ | refine blk_drew ?_ | refine blk_alloc ?_ _)); exact BK319.out) hb); have n7_ := Aside0.mk (blk_below (g := gb323) (o := .cells #[u324000] 67 (0, 0)) (by (with_reducible repeat (first | refine blk_drewN ?_ _ | refine blk_drew ?_ | refine blk_alloc ?_ _)); exact BK323.out) hb); have n8_ := Aside0.mk (below_step (by repeat (first | (with_reducible first | exact HB.out | apply below_alloc | apply pw_below_drewN | apply below_drew1 | refine below_set ?_ GE319.out | refine below_set ?_ GE323.out) | exact HB.out)) hb); clear HO_7 HO_18 HO_320000 HO_324000 HO354 BK319 BK323 HB; have HO_7 := n0_; have HO_18 := n1_; have HO_320000 := n2_; have HO_324000 := n3_; have HO354 := n4_; have HO357 := n5_; have BK319 := n6_; have BK323 := n7_; have HB := n8_; clear n0_ n1_ n2_ n3_ n4_ n5_ n6_ n7_ n8_; clear hb ho122))
                 go_ret
                 exact ⟨_, by first | rfl | (simp [errW_none, errW_some] <;> rfl) | (simp [*, errW_none, errW_some] <;> rfl), by (with_reducible repeat (first | apply Kd.R_alloc | apply Kd.R_drewN | apply Kd.R_drew)); exact Kd.R_mono HO357.out (fun _ hk => hk.1.1), by repeat (first | (with_reducible first | exact HB.out | apply below_alloc | apply pw_below_drewN | apply below_drew1 | refine below_set ?_ GE319.out | refine below_set ?_ GE323.out) | exact HB.out)⟩
             ·
              rw [if_neg c73] at H
              exact absurd H (by simp)
            ·
             rw [if_neg c72] at H
             exact absurd H (by simp)
  ·
   rw [if_neg c4] at H
   exact absurd H (by simp)
 ·
  rw [if_neg c3] at H
  exact absurd H (by simp)
end Go.Proofs.Ytcjmgkbbmahgcaa.PC

namespace Go.Proofs.Ytcjmgkbbmahgcaa.PC
open Go.RowKit Go.Proofs.YtcjmgkbbmahgcaaW.PrintWords Go.Proofs.YtcjmgkbbmahgcaaW.PrintLast Go.Proofs.YtcjmgkbbmahgcaaW.PrintMore
attribute [local go_sem] max2_int min2_int max_two min_two max_three min_three max_four min_four   -- for this text's walks alone
set_option linter.unusedVariables false
set_option linter.unusedSimpArgs false
mutual
def impl_vertexOf.l0 : Nat → List Int → List (List Int) → Int → Int → Option (List Int)
 | 0, _, _, _, _ => none
 | k + 1, x3, x14, x15, x16 => if x16 < x15 then (if 0 ≤ x16 then (if x16 < (x14.length : Int) then (impl_vertexOf.l1 k x3 x16 x14 x15 x16 (rd_L1 x14 x16) ((rd_L1 x14 x16).length : Int) 0) else (none)) else (none)) else (some x3)
def impl_vertexOf.l1 : Nat → List Int → Int → List (List Int) → Int → Int → List Int → Int → Int → Option (List Int)
 | 0, _, _, _, _, _, _, _, _ => none
 | k + 1, x3, x4, x14, x15, x16, x21, x22, x23 => if x23 < x22 then (if 0 ≤ x23 then (if x23 < (x21.length : Int) then (if 0 ≤ (rd x21 x23) then (if (rd x21 x23) < (x3.length : Int) then (impl_vertexOf.l1 k (x3.set ((rd x21 x23) : Int).toNat x4) x4 x14 x15 x16 x21 x22 (wrap64 (x23 + 1))) else (none)) else (none)) else (none)) else (none)) else (impl_vertexOf.l0 k x3 x14 x15 (wrap64 (x16 + 1)))
end
def impl_vertexOf.f (k : Nat) (l0_0 : List Int) (l0_1 : List Int) : Option (List Int) := if 0 ≤ (l0_0.length : Int) then (if ((l0_0.length : Int) : Int).toNat ≤ 35184372088832 then ((impl_cyclesOf.f k l0_0).bind fun t590 => (impl_vertexOf.l0 k (List.replicate ((l0_0.length : Int) : Int).toNat 0) t590 (t590.length : Int) 0)) else (none)) else (none)
set_option maxHeartbeats 8000000 in
set_option maxRecDepth 100000 in
theorem impl_vertexOf.calls (k : Nat) (A0_0 : Option Addr) (c0_0 : Nat) (l0_0 : List Int) (A0_1 : Option Addr) (c0_1 : Nat) (l0_1 : List Int) (r : List Int) (w : World) (hr0_0 : Kd.C (Kd.int .i64) w A0_0 l0_0.length l0_0) (hc0_0 : l0_0.length ≤ c0_0) (hr0_1 : Kd.C (Kd.int .i64) w A0_1 l0_1.length l0_1) (hc0_1 : l0_1.length ≤ c0_1) (h : impl_vertexOf.f k l0_0 l0_1 = some r) :
  Calls Try.prog 63 #[.agg #[.slice A0_0 l0_0.length c0_0, .slice A0_1 l0_1.length c0_1]] w fun e w' => ∃ v0_ : Value, e = .returned (v0_) ∧ Kd.R (Kd.int .i64) 3 w' w.heap.size (fun _ => True) v0_ r ∧ Below w.heap.size w w' := by
 have hu27 := Try.underlying27
 have HR0_0 := Aside0.mk hr0_0
 have HC0_0 := Aside0.mk hc0_0
 clear hr0_0 hc0_0
 have HR0_1 := Aside0.mk hr0_1
 have HC0_1 := Aside0.mk hc0_1
 clear hr0_1 hc0_1
 have HB := Aside0.mk (Below.refl w.heap.size w)
 have H : (if 0 ≤ (l0_0.length : Int) then (if ((l0_0.length : Int) : Int).toNat ≤ 35184372088832 then ((impl_cyclesOf.f k l0_0).bind fun t590 => (impl_vertexOf.l0 k (List.replicate ((l0_0.length : Int) : Int).toNat 0) t590 (t590.length : Int) 0)) else (none)) else (none)) = some r := h
 clear h
 by_cases c2 : 0 ≤ (l0_0.length : Int)
 ·
  rw [if_pos c2] at H
  have c2b0 := eq_true c2
  have c2b1 : decide (0 ≤ (l0_0.length : Int)) = true := decide_eq_true c2
  clear c2
  by_cases c3 : ((l0_0.length : Int) : Int).toNat ≤ 35184372088832
  ·
   rw [if_pos c3] at H
   have c3b0 := eq_true c3
   have c3b1 : decide (((l0_0.length : Int) : Int).toNat ≤ 35184372088832) = true := decide_eq_true c3
   clear c3
   obtain ⟨y587, hy587⟩ : ∃ y_ : List Int, y_ = (List.replicate ((l0_0.length : Int) : Int).toNat 0) := ⟨_, rfl⟩
   replace H : ((impl_cyclesOf.f k l0_0).bind fun t590 => (impl_vertexOf.l0 k y587 t590 (t590.length : Int) 0)) = some r := by first | (rw [hy587]; with_reducible exact H) | (have H2_ := (Option.bind_some _ _).symm.trans H; rw [hy587]; with_reducible exact H2_) | (have H2_ := (Option.bind_some _ _).symm.trans H; with_reducible exact H2_) | with_reducible exact H | (rw [hy587]; exact H) | exact H
   have Ny587 := Aside0.mk hy587
   clear hy587
   replace H := Option.bind_eq_some_iff.mp H
   obtain ⟨t590, A40, H⟩ := H
   replace H : (impl_vertexOf.l0 k y587 t590 (t590.length : Int) 0) = some r := H
   have A4 := Aside0.mk A40
   clear A40
   have H' := Aside0.mk H
   clear H
   go_enter Try.func63, Try.ntmps63
   go_wp2_with (first | ((with_reducible refine gate_dst (N := 1) rfl ?_); refine box_event ?hg (N := 1) ?hd (cs := #[.slice A0_0 l0_0.length c0_0, .slice A0_1 l0_1.length c0_1]) (t := 27) ?hr ?_; (case hd => rfl); (case hg => rfl); (case hr => first | (go_simp; done) | (go_simp; rfl)); intro gb586 hg w5 hbox hb; have n0_ := Aside0.mk (below_step (by repeat (first | (with_reducible first | exact HB.out | apply below_alloc | apply pw_below_drewN | apply below_drew1) | exact HB.out)) hb); have n1_ := Aside0.mk (hbox); have n2_ := Aside0.mk ((by rw [hg]; exact (below_size (by repeat (first | (with_reducible first | exact HB.out | apply below_alloc | apply pw_below_drewN | apply below_drew1) | exact HB.out))) : w.heap.size ≤ gb586)); have n3_ := Aside0.mk ((by rw [hg]; exact (below_size (by repeat (first | (with_reducible first | exact HB.out | apply below_alloc | apply pw_below_drewN | apply below_drew1) | exact HB.out))) : w.heap.size ≤ gb586)); clear HB; have HB := n0_; have BK586 := n1_; have GW586 := n2_; have GE586 := n3_; clear n0_ n1_ n2_ n3_ hb hbox hg; have hcz6_0 : w5.cell? ⟨gb586, 0, none⟩ = some (.slice A0_0 l0_0.length c0_0) := (blk_cell BK586.out 0).trans rfl; have hcz6_1 : w5.cell? ⟨gb586, 1, none⟩ = some (.slice A0_1 l0_1.length c0_1) := (blk_cell BK586.out 1).trans rfl; have hfz6_0 := blk_frozen BK586.out 0; have hfz6_1 := blk_frozen BK586.out 1) | ((with_reducible refine gate_dst (N := 11) rfl ?_); refine Kd.R_make (Kd.int .i64) _ 3 rfl (N := 11) rfl 22 _ _ rfl (l0_0.length : Int) rfl rfl Try.underlying22 (.int .i64 0) 8 info3 rfl (by decide) (by omega) 0 (ok := fun _ => True) (okp := fun _ => True) rfl (fun _ hk => hk) trivial (of_decide_eq_true (by first | (with_reducible assumption) | assumption)) (Nat.le_trans (Nat.mul_le_mul_right _ (of_decide_eq_true (by first | (with_reducible assumption) | assumption) : (l0_0.length : Int).toNat ≤ 35184372088832)) (by omega)) (Below.refl _ _) (Nat.le_refl _) ?_; intro v588 w7 ho8 hb hg_ hnew_; clear hg_ hnew_; (first | rw [← Ny587.out] at ho8 | (simp only [Int.reduceToNat] at ho8; rw [← Ny587.out] at ho8)); have n0_ := Aside0.mk (Kd.R_lower ho8 (below_size (by repeat (first | (with_reducible first | exact HB.out | apply below_alloc | apply pw_below_drewN | apply below_drew1 | refine below_set ?_ GE586.out) | exact HB.out)))); have n1_ := Aside0.mk (blk_below (g := gb586) (o := .cells #[.slice A0_0 l0_0.length c0_0, .slice A0_1 l0_1.length c0_1] 27 (0, 0)) (by (with_reducible repeat (first | refine blk_drewN ?_ _ | refine blk_drew ?_ | refine blk_alloc ?_ _)); exact BK586.out) hb); have n2_ := Aside0.mk (below_step (by repeat (first | (with_reducible first | exact HB.out | apply below_alloc | apply pw_below_drewN | apply below_drew1 | refine below_set ?_ GE586.out) | exact HB.out)) hb); clear BK586 HB; have HO589 := n0_; have BK586 := n1_; have HB := n2_; clear n0_ n1_ n2_ hb ho8; have hcz9_0 : w7.cell? ⟨gb586, 0, none⟩ = some (.slice A0_0 l0_0.length c0_0) := (blk_cell BK586.out 0).trans rfl; have hcz9_1 : w7.cell? ⟨gb586, 1, none⟩ = some (.slice A0_1 l0_1.length c0_1) := (blk_cell BK586.out 1).trans rfl; have hfz9_0 := blk_frozen BK586.out 0; have hfz9_1 := blk_frozen BK586.out 1) | ((with_reducible refine gate_callee (f := 62) rfl ?_); refine goesL_ (some 14) rfl rfl Try.func62 (by kernel_rfl) rfl #[.slice A0_0 l0_0.length c0_0] rfl (by (try simp only [List.map_toArray, List.map_cons, List.map_nil]); first | done | rfl | (simp only [List.length_drop, List.length_take]; rfl)) ?_; (with_reducible refine (impl_cyclesOf.calls k _ _ l0_0 t590 _ ?side1 ?side2 A4.out).mono ?_); (case side1 => repeat (first | exact (Kd.C_below HR0_0.out HB.out) | (with_reducible refine Kd.C_alloc ?_ _) | (with_reducible refine Kd.C_drewN ?_ _) | (with_reducible refine Kd.C_drew ?_))); (case side2 => exact HC0_0.out); rintro e w10 ⟨v591, rfl, ho0, hb⟩; refine ⟨_, rfl, ?_⟩; have n0_ := Aside0.mk (Kd.R_below (by (with_reducible repeat (first | apply Kd.R_alloc | apply Kd.R_drewN | apply Kd.R_drew)); exact HO589.out) hb); have n1_ := Aside0.mk (Kd.S_lower (Kd.S_new' ho0 (Kd.R_lt (by (with_reducible repeat (first | apply Kd.R_alloc | apply Kd.R_drewN | apply Kd.R_drew)); exact HO589.out))) (below_size (by repeat (first | (with_reducible first | exact HB.out | apply below_alloc | apply pw_below_drewN | apply below_drew1 | refine below_set ?_ GE586.out) | exact HB.out)))); have n2_ := Aside0.mk (blk_below (g := gb586) (o := .cells #[.slice A0_0 l0_0.length c0_0, .slice A0_1 l0_1.length c0_1] 27 (0, 0)) (by (with_reducible repeat (first | refine blk_drewN ?_ _ | refine blk_drew ?_ | refine blk_alloc ?_ _)); exact BK586.out) hb); have n3_ := Aside0.mk (below_step (by repeat (first | (with_reducible first | exact HB.out | apply below_alloc | apply pw_below_drewN | apply below_drew1 | refine below_set ?_ GE586.out) | exact HB.out)) hb); clear HO589 BK586 HB; have HO589 := n0_; have HO592 := n1_; have BK586 := n2_; have HB := n3_; clear n0_ n1_ n2_ n3_; (try clear hb); (try clear hb2); (try clear hk); (try clear hi); (try clear ho0); obtain ⟨Ao11, co11, eo11⟩ := Kd.S_slice HO592.out; subst eo11))
   go_loopg [16] k (fun kq v16 w' => ∃ (x3_1 : List Int) (x16_1 : Int), v16 = .int .i64 x16_1 ∧ Aside0 (impl_vertexOf.l0 kq x3_1 t590 (t590.length : Int) x16_1 = some r) ∧ Aside0 (kq ≤ k) ∧ Aside0 (Kd.R (Kd.int .i64) 3 w' w.heap.size (fun _ => True) v588 x3_1) ∧ Aside0 (Kd.S (Kd.slice 3 (Kd.int .i64)) 22 w' w.heap.size (fun k_ => some k_ ≠ (v588 : Value).ownBlock) (.slice Ao11 t590.length co11) t590) ∧ Aside0 (w'.heap[gb586]? = some (.cells #[(.slice A0_0 l0_0.length c0_0), (.slice A0_1 l0_1.length c0_1)] 27 (0, 0))) ∧ Aside0 (Below w.heap.size w w'))
   case atStart => exact ⟨(y587), (0), (by first | rfl | (simp; done) | (simp [*]; done)), H', ⟨Nat.le_refl _⟩, ⟨by (with_reducible repeat (first | apply Kd.R_alloc | apply Kd.R_drewN | apply Kd.R_drew)); exact HO589.out⟩, ⟨by (with_reducible repeat (first | apply Kd.S_alloc | apply Kd.S_drewN | apply Kd.S_drew)); exact Kd.S_mono HO592.out (fun _ hk => hk.2)⟩, ⟨by (with_reducible repeat (first | refine blk_drewN ?_ _ | refine blk_drew ?_ | refine blk_alloc ?_ _)); exact BK586.out⟩, ⟨by repeat (first | (with_reducible first | exact HB.out | apply below_alloc | apply pw_below_drewN | apply below_drew1 | refine below_set ?_ GE586.out) | exact HB.out)⟩⟩
   case round =>
    clear H'
    try clear c2
    try clear c2b0
    try clear c2b1
    try clear p2
    try clear c3
    try clear c3b0
    try clear c3b1
    try clear c6
    try clear hcz6_0
    try clear hcz6_1
    try clear hcz9_0
    try clear hcz9_1
    try clear hfz6_0
    try clear hfz6_1
    try clear hfz9_0
    try clear hfz9_1
    obtain ⟨x3_1, x16_1, rfl, HA, HK1, HO_3, HO_14, BK586, HB⟩ := hrel
    cases gk with
    | zero => exact absurd HA.out (by simp [impl_vertexOf.l0])
    | succ k1 =>
     have H := HA.out
     clear HA
     simp only [impl_vertexOf.l0] at H
     by_cases c12 : x16_1 < (t590.length : Int)
     ·
      rw [if_pos c12] at H
      have c12b0 : decide (x16_1 < (t590.length : Int)) = true := decide_eq_true c12
      clear c12
      by_cases c13 : 0 ≤ x16_1
      ·
       rw [if_pos c13] at H
       have c13b0 : decide (0 ≤ x16_1) = true := decide_eq_true c13
       clear c13
       by_cases c14 : x16_1 < (t590.length : Int)
       ·
        rw [if_pos c14] at H
        have c14b0 : decide (x16_1 < (t590.length : Int)) = true := decide_eq_true c14
        clear c14
        have H' := Aside0.mk H
        clear H
        have p593 : 0 ≤ (x16_1 : Int) := of_decide_eq_true (by first | (with_reducible assumption) | assumption)
        have q593 : x16_1 < (t590.length : Int) := of_decide_eq_true (by first | (with_reducible assumption) | assumption)
        obtain ⟨ad593, A593_0, c593_0, e593, hx593_0, hl593_0, hi593_0⟩ := at_L1 (Kd.S_reads' HO_14.out).2.2 x16_1 p593 q593
        cases e593
        obtain ⟨ce593, hce593, hMe593, hcc593⟩ := Kd.S_get HO_14.out [] x16_1 p593 (by first | exact q593 | exact of_decide_eq_true (by first | (with_reducible assumption) | assumption) | (have e_ := (Kd.S_reads' HO_14.out).1; omega))
        obtain ⟨ve593_0, rfl, ge593_0⟩ := hMe593
        have hv593_0 := hcc593 0 _ rfl
        rw [Nat.add_zero, show ((Kd.slice 3 (Kd.int .i64))).sz = 1 from rfl, Nat.mul_one] at hv593_0
        replace hv593_0 := Option.some.inj (hv593_0.symm.trans hx593_0)
        rw [hv593_0] at ge593_0
        have HL593_0 := Aside0.mk (show Kd.R (Kd.int .i64) 3 _ _ _ _ (rd_L1 t590 x16_1) from ge593_0)
        clear hv593_0 ge593_0 hcc593 hce593
        have HR593_0 := Aside0.mk hi593_0
        have HC593_0 := Aside0.mk hl593_0
        clear hi593_0 hl593_0
        replace p593 := eq_true p593
        replace q593 := eq_true q593
        go_wp2
        go_loopg [23] k1 (fun kq v23 w' => ∃ (x3_2 : List Int) (x23_2 : Int), v23 = .int .i64 x23_2 ∧ Aside0 (impl_vertexOf.l1 kq x3_2 x16_1 t590 (t590.length : Int) x16_1 (rd_L1 t590 x16_1) ((rd_L1 t590 x16_1).length : Int) x23_2 = some r) ∧ Aside0 (kq ≤ k1) ∧ Aside0 (Kd.R (Kd.int .i64) 3 w' w.heap.size (fun _ => True) v588 x3_2) ∧ Aside0 (Kd.S (Kd.slice 3 (Kd.int .i64)) 22 w' w.heap.size (fun k_ => some k_ ≠ (v588 : Value).ownBlock) (.slice (some ad593) t590.length co11) t590) ∧ Aside0 (w'.heap[gb586]? = some (.cells #[(.slice A0_0 l0_0.length c0_0), (.slice A0_1 l0_1.length c0_1)] 27 (0, 0))) ∧ Aside0 (Kd.C (Kd.int .i64) w' A593_0 (rd_L1 t590 x16_1).length (rd_L1 t590 x16_1)) ∧ Aside0 (Below w.heap.size w w'))
        case atStart => exact ⟨(x3_1), (0), (by first | rfl | (simp; done) | (simp [*]; done)), H', ⟨Nat.le_refl _⟩, ⟨by (with_reducible repeat (first | apply Kd.R_alloc | apply Kd.R_drewN | apply Kd.R_drew)); exact HO_3.out⟩, ⟨by (with_reducible repeat (first | apply Kd.S_alloc | apply Kd.S_drewN | apply Kd.S_drew)); exact HO_14.out⟩, ⟨by (with_reducible repeat (first | refine blk_drewN ?_ _ | refine blk_drew ?_ | refine blk_alloc ?_ _)); exact BK586.out⟩, ⟨by repeat (first | (with_reducible exact HR593_0.out) | (with_reducible refine Kd.C_alloc ?_ _) | (with_reducible refine Kd.C_drewN ?_ _) | (with_reducible refine Kd.C_drew ?_) | exact HR593_0.out)⟩, ⟨by repeat (first | (with_reducible first | exact HB.out | apply below_alloc | apply pw_below_drewN | apply below_drew1 | refine below_set ?_ GE586.out) | exact HB.out)⟩⟩
        case round =>
         clear H'
         try clear c1
         try clear c2
         try clear c2b0
         try clear c2b1
         try clear p2
         try clear c3
         try clear c3b0
         try clear c3b1
         try clear c5
         try clear p5
         try clear q5
         try clear hx5
         try clear c6
         try clear c12
         try clear c12b0
         try clear c13
         try clear c13b0
         try clear c14
         try clear c14b0
         try clear hcz6_0
         try clear hcz6_1
         try clear hcz9_0
         try clear hcz9_1
         try clear hfz6_0
         try clear hfz6_1
         try clear hfz9_0
         try clear hfz9_1
         try clear hx593_0
         try clear p2
         try clear p593
         try clear q593
         obtain ⟨x3_2, x23_2, rfl, HA, HK2, HO_3, HO_14, BK586, HR593_0, HB⟩ := hrel
         cases gk with
         | zero => exact absurd HA.out (by simp [impl_vertexOf.l1])
         | succ k2 =>
          have H := HA.out
          clear HA
          simp only [impl_vertexOf.l1] at H
          by_cases c15 : x23_2 < ((rd_L1 t590 x16_1).length : Int)
          ·
           rw [if_pos c15] at H
           have c15b0 : decide (x23_2 < ((rd_L1 t590 x16_1).length : Int)) = true := decide_eq_true c15
           clear c15
           by_cases c16 : 0 ≤ x23_2
           ·
            rw [if_pos c16] at H
            have c16b0 : decide (0 ≤ x23_2) = true := decide_eq_true c16
            clear c16
            by_cases c17 : x23_2 < ((rd_L1 t590 x16_1).length : Int)
            ·
             rw [if_pos c17] at H
             have c17b0 : decide (x23_2 < ((rd_L1 t590 x16_1).length : Int)) = true := decide_eq_true c17
             clear c17
             by_cases c18 : 0 ≤ (rd (rd_L1 t590 x16_1) x23_2)
             ·
              rw [if_pos c18] at H
              have c18b0 : decide (0 ≤ (rd (rd_L1 t590 x16_1) x23_2)) = true := decide_eq_true c18
              clear c18
              by_cases c19 : (rd (rd_L1 t590 x16_1) x23_2) < (x3_2.length : Int)
              ·
               rw [if_pos c19] at H
               have c19b0 : decide ((rd (rd_L1 t590 x16_1) x23_2) < (x3_2.length : Int)) = true := decide_eq_true c19
               clear c19
               obtain ⟨y595, hy595⟩ : ∃ y_ : List Int, y_ = (x3_2.set ((rd (rd_L1 t590 x16_1) x23_2) : Int).toNat x16_1) := ⟨_, rfl⟩
               replace H : (impl_vertexOf.l1 k2 y595 x16_1 t590 (t590.length : Int) x16_1 (rd_L1 t590 x16_1) ((rd_L1 t590 x16_1).length : Int) (wrap64 (x23_2 + 1))) = some r := by first | (rw [hy595]; with_reducible exact H) | (have H2_ := (Option.bind_some _ _).symm.trans H; rw [hy595]; with_reducible exact H2_) | (have H2_ := (Option.bind_some _ _).symm.trans H; with_reducible exact H2_) | with_reducible exact H | (rw [hy595]; exact H) | exact H
               have Ny595 := Aside0.mk hy595
               clear hy595
               have H' := Aside0.mk H
               clear H
               have p594 : 0 ≤ (x23_2 : Int) := of_decide_eq_true (by first | (with_reducible assumption) | assumption)
               have q594 : x23_2 < ((rd_L1 t590 x16_1).length : Int) := of_decide_eq_true (by first | (with_reducible assumption) | assumption)
               obtain ⟨ad594, e594, hx594_0⟩ := Kd.at_int HR593_0.out x23_2 p594 q594
               cases e594
               (try replace hx594_0 := (HB.out.cell (World.block_lt_of_cell? w _ hx594_0)).trans hx594_0)
               replace p594 := eq_true p594
               replace q594 := eq_true q594
               have p20 : 0 ≤ ((rd (rd_L1 t590 x16_1) x23_2) : Int) := of_decide_eq_true (by first | (with_reducible assumption) | assumption)
               have q20 : ((rd (rd_L1 t590 x16_1) x23_2) : Int) < ((x3_2.length : Int) : Int) := of_decide_eq_true (by first | (with_reducible assumption) | assumption)
               obtain ⟨go20, co20, eo20, gb20, gl20, cl20, HG20⟩ := Kd.R_form HO_3.out (by omega)
               (first | cases eo20 | (injection eo20 with ea_ en_ ec_; (first | subst ea_ | (injection ea_ with ea_; subst ea_)); subst ec_; clear en_))
               have GB20 := Aside0.mk gb20
               have GG20 := Aside0.mk HG20
               clear gb20 gl20 HG20
               obtain ⟨hx20_0, hf20_0⟩ := Kd.R_celln 0 HO_3.out ((rd (rd_L1 t590 x16_1) x23_2) : Int) p20 q20
               replace p20 := eq_true p20
               replace q20 := eq_true q20
               obtain ⟨hy21_, hz21_⟩ := Kd.R_celln 0 HO_3.out ((rd (rd_L1 t590 x16_1) x23_2) : Int) (of_decide_eq_true (by first | (with_reducible assumption) | assumption)) (of_decide_eq_true (by first | (with_reducible assumption) | assumption))
               have HP21 := Kd.R_putg HO_3.out ((rd (rd_L1 t590 x16_1) x23_2) : Int) x16_1
               go_wp2_with (first | ((with_reducible refine gate_store (t := 3) (p := 30) rfl ?_); refine store_event (t := 3) (p := 30) (v := ?vo_w22) (w1 := (wr.setCell ⟨go20, ((rd (rd_L1 t590 x16_1) x23_2) : Int).toNat, none⟩ (.int .i64 x16_1))) ?hg ?ho ?hn ?hr ?_; (case ho => rfl); (case hg => rfl); (case hn => rfl); (case hr => first | (go_simp; done) | (go_simp; rfl)); intro w22 hw; have hg : wr.grownBy w22 (some go20) := (by rw [hw]; exact HP21.2); have hp_ : Kd.R (Kd.int .i64) 3 w22 w.heap.size (fun _ => True) (.slice (some ⟨go20, 0, none⟩) x3_2.length co20) y595 := (by rw [hw, Ny595.out]; exact HP21.1); clear HP21; have n0_ := Aside0.mk (hp_); have n1_ := Aside0.mk (Kd.S_after (v := (.slice (some ⟨go20, 0, none⟩) x3_2.length co20)) (v1 := (.slice (some ⟨go20, 0, none⟩) x3_2.length co20)) (ok := (fun _ => True)) (by (with_reducible repeat (first | apply Kd.S_alloc | apply Kd.S_drewN | apply Kd.S_drew)); exact Kd.S_mono HO_14.out (fun _ hk => ⟨trivial, hk⟩)) hg (.inl rfl)); have n2_ := Aside0.mk (blk_grown (g := gb586) (o := .cells #[.slice A0_0 l0_0.length c0_0, .slice A0_1 l0_1.length c0_1] 27 (0, 0)) (by (with_reducible repeat (first | refine blk_drewN ?_ _ | refine blk_drew ?_ | refine blk_alloc ?_ _)); exact BK586.out) hg (Kd.R_ne HO_3.out BK586.out (by decide))); have n3_ := Aside0.mk (seen_put (d := 0) HR593_0.out hg (fun ad_ e_ _ eb_ => ((HL593_0.out.1 ad_.block (by rw [e_]; rfl)).1) (congrArg some eb_))); have n4_ := Aside0.mk ((by rw [hw]; exact below_set (HB.out) GB20.out : Below w.heap.size w w22)); clear HO_3 HO_14 BK586 HR593_0 HB; have HO_3 := n0_; have HO_14 := n1_; have BK586 := n2_; have HR593_0 := n3_; have HB := n4_; clear n0_ n1_ n2_ n3_ n4_; clear hg hw hp_))
               (first | go_roundg k2 | (refine Handed.intro k2 ?measure ?_; rotate_left; go_step; (try simp only [add_plain]); (repeat apply Exists.intro); refine ⟨?rel, rfl⟩))
               case measure => have := HK1.out; have := HK2.out; omega
               case rel => exact ⟨(y595), (wrap64 (x23_2 + 1)), (by first | rfl | (simp; done) | (simp [*]; done)), H', ⟨by have := HK1.out; have := HK2.out; omega⟩, ⟨by (with_reducible repeat (first | apply Kd.R_alloc | apply Kd.R_drewN | apply Kd.R_drew)); exact HO_3.out⟩, ⟨by (with_reducible repeat (first | apply Kd.S_alloc | apply Kd.S_drewN | apply Kd.S_drew)); exact Kd.S_mono HO_14.out (fun _ hk => hk.2)⟩, ⟨by (with_reducible repeat (first | refine blk_drewN ?_ _ | refine blk_drew ?_ | refine blk_alloc ?_ _)); exact BK586.out⟩, ⟨by repeat (first | (with_reducible exact HR593_0.out) | (with_reducible refine Kd.C_alloc ?_ _) | (with_reducible refine Kd.C_drewN ?_ _) | (with_reducible refine Kd.C_drew ?_) | exact HR593_0.out)⟩, ⟨by repeat (first | (with_reducible first | exact HB.out | apply below_alloc | apply pw_below_drewN | apply below_drew1 | refine below_set ?_ GE586.out) | exact HB.out)⟩⟩
              ·
               rw [if_neg c19] at H
               exact absurd H (by simp)
             ·
              rw [if_neg c18] at H
              exact absurd H (by simp)
            ·
             rw [if_neg c17] at H
             exact absurd H (by simp)
           ·
            rw [if_neg c16] at H
            exact absurd H (by simp)
          ·
           rw [if_neg c15] at H
           have c15b0 : decide (x23_2 < ((rd_L1 t590 x16_1).length : Int)) = false := decide_eq_false c15
           clear c15
           have H' := Aside0.mk H
           clear H
           go_wp2
           (first | go_roundg k2 | (refine Handed.intro k2 ?measure ?_; rotate_left; go_step; (try simp only [add_plain]); (repeat apply Exists.intro); refine ⟨?rel, rfl⟩))
           case measure => have := HK1.out; have := HK2.out; omega
           case rel => exact ⟨(x3_2), (wrap64 (x16_1 + 1)), (by first | rfl | (simp; done) | (simp [*]; done)), H', ⟨by have := HK1.out; have := HK2.out; omega⟩, ⟨by (with_reducible repeat (first | apply Kd.R_alloc | apply Kd.R_drewN | apply Kd.R_drew)); exact HO_3.out⟩, ⟨by (with_reducible repeat (first | apply Kd.S_alloc | apply Kd.S_drewN | apply Kd.S_drew)); exact HO_14.out⟩, ⟨by (with_reducible repeat (first | refine blk_drewN ?_ _ | refine blk_drew ?_ | refine blk_alloc ?_ _)); exact BK586.out⟩, ⟨by repeat (first | (with_reducible first | exact HB.out | apply below_alloc | apply pw_below_drewN | apply below_drew1 | refine below_set ?_ GE586.out) | exact HB.out)⟩⟩
       ·
        rw [if_neg c14] at H
        exact absurd H (by simp)
      ·
       rw [if_neg c13] at H
       exact absurd H (by simp)
     ·
      rw [if_neg c12] at H
      have c12b0 : decide (x16_1 < (t590.length : Int)) = false := decide_eq_false c12
      clear c12
      obtain rfl := Option.some.inj H
      go_wp2
      go_ret
      exact ⟨_, by first | rfl | (simp [errW_none, errW_some] <;> rfl) | (simp [*, errW_none, errW_some] <;> rfl), by (with_reducible repeat (first | apply Kd.R_alloc | apply Kd.R_drewN | apply Kd.R_drew)); exact HO_3.out, by repeat (first | (with_reducible first | exact HB.out | apply below_alloc | apply pw_below_drewN | apply below_drew1 | refine below_set ?_ GE586.out) | exact HB.out)⟩
  ·
   rw [if_neg c3] at H
   exact absurd H (by simp)
 ·
  rw [if_neg c2] at H
  exact absurd H (by simp)
end Go.Proofs.Ytcjmgkbbmahgcaa.PC
