/- For every list of bytes, the law FnNext answers true: for the tree that it draws. There are no conditions. -/
import Derived.Test.YtlfalkbldjjomaaKFnNextx3
import Derived.Deep.OwnRows
import Derived.Laws.Rows
import Derived.Test.YtlfalkbldjjomaaRows
namespace Go.Proofs.Ytlfalkbldjjomaa.PB
open Go.RowKit Go.Proofs.YtlfalkbldjjomaaW.PrintWords Go.Proofs.YtlfalkbldjjomaaW.PrintLast Go.Proofs.YtlfalkbldjjomaaW.PrintMore
attribute [local go_sem] max2_int min2_int max_two min_two max_three min_three max_four min_four   -- for this text's walks alone
set_option linter.unusedVariables false
set_option linter.unusedSimpArgs false
mutual
def laws_FnNext.j0 : Nat → List Int → Bool → List Int → Bool → Bool → ByteArray → List Int → Option (Bool)
 | 0, _, _, _, _, _, _, _ => none
 | k + 1, x4, x5, x6, x7, x42, x453000, x453001 => if x42 = true then (if (x5 == x7) = true then ((laws_sameInts.f k x4 x6).bind fun t462 => (some t462)) else (some false)) else ((impl_TreeLabels.f k x453000 x453001).bind fun bt463 => (if 0 < (bt463.1.length : Int) then (laws_FnNext.l0 k x4 bt463.1 bt463.2 (x4.length : Int) (rd bt463.1 0) 0) else (none)))
def laws_FnNext.l0 : Nat → List Int → List Int → Bool → Int → Int → Int → Option (Bool)
 | 0, _, _, _, _, _, _ => none
 | k + 1, x4, x8, x9, x10, x11, x12 => if x12 < x10 then (if 0 ≤ x12 then (if x12 < (x8.length : Int) then (laws_FnNext.l0 k x4 x8 x9 x10 (mn x11 (rd x8 x12)) (wrap64 (x12 + 1))) else (none)) else (none)) else (laws_FnNext.l1 k x4 x8 x9 x10 x11 0)
def laws_FnNext.l1 : Nat → List Int → List Int → Bool → Int → Int → Int → Option (Bool)
 | 0, _, _, _, _, _, _ => none
 | k + 1, x4, x8, x9, x10, x11, x13 => if x13 < x10 then (if 0 ≤ x13 then (if x13 < (x4.length : Int) then (if x13 < (x8.length : Int) then (if (((rd x4 x13) == (-1)) != ((rd x8 x13) == x11)) = true then (some false) else (if x10 = 0 then (none) else (laws_FnNext.l2 k x4 x8 x9 x10 x11 x13 (Int.tmod (wrap64 (x13 + 1)) x10)))) else (none)) else (none)) else (none)) else (some x9)
def laws_FnNext.l2 : Nat → List Int → List Int → Bool → Int → Int → Int → Int → Option (Bool)
 | 0, _, _, _, _, _, _, _ => none
 | k + 1, x4, x8, x9, x10, x11, x13, x14 => if 0 ≤ x13 then (if x13 < (x4.length : Int) then (if (rd x4 x13) ≥ 0 then (laws_FnNext.j4 k x4 x8 x9 x10 x11 x13 x14 (x14 != (rd x4 x13))) else (laws_FnNext.j4 k x4 x8 x9 x10 x11 x13 x14 false)) else (none)) else (none)
def laws_FnNext.j4 : Nat → List Int → List Int → Bool → Int → Int → Int → Int → Bool → Option (Bool)
 | 0, _, _, _, _, _, _, _, _ => none
 | k + 1, x4, x8, x9, x10, x11, x13, x14, x105 => if x105 = true then (if 0 ≤ x14 then (if x14 < (x8.length : Int) then (if 0 ≤ x13 then (if x13 < (x8.length : Int) then (if (rd x8 x14) < (rd x8 x13) then (some false) else (if x10 = 0 then (none) else (laws_FnNext.l2 k x4 x8 x9 x10 x11 x13 (Int.tmod (wrap64 (x14 + 1)) x10)))) else (none)) else (none)) else (none)) else (none)) else (if 0 ≤ x13 then (if x13 < (x4.length : Int) then (if (rd x4 x13) ≥ 0 then (if 0 ≤ (rd x4 x13) then (if (rd x4 x13) < (x8.length : Int) then (if x13 < (x8.length : Int) then (if (rd x8 (rd x4 x13)) = (wrap64 ((rd x8 x13) - 1)) then (laws_FnNext.l1 k x4 x8 x9 x10 x11 (wrap64 (x13 + 1))) else (some false)) else (none)) else (none)) else (none)) else (laws_FnNext.l1 k x4 x8 x9 x10 x11 (wrap64 (x13 + 1)))) else (none)) else (none))
end
def laws_FnNext.f (k : Nat) (l0 : List Int) : Option (Bool) := if (l0.length : Int) > 1048576 then (some true) else ((spec_DrawTreeNext.f k l0).bind fun bt448 => ((impl_TreeNext.f k bt448.1 bt448.2).bind fun bt453 => ((spec_TreeNext.f k bt448.1 bt448.2).bind fun bt457 => (if (bt453.2 != bt457.2) = true then (laws_FnNext.j0 k bt453.1 bt453.2 bt457.1 bt457.2 true bt448.1 bt448.2) else ((laws_sameInts.f k bt453.1 bt457.1).bind fun t461 => (if t461 = true then (laws_FnNext.j0 k bt453.1 bt453.2 bt457.1 bt457.2 (!bt453.2) bt448.1 bt448.2) else (laws_FnNext.j0 k bt453.1 bt453.2 bt457.1 bt457.2 true bt448.1 bt448.2)))))))
theorem laws_FnNext.mono_l : ∀ k, (∀ y0 y1 y2 y3 y4 y5 y6, LeO (laws_FnNext.j0 k y0 y1 y2 y3 y4 y5 y6) (laws_FnNext.j0 (k + 1) y0 y1 y2 y3 y4 y5 y6)) ∧ (∀ y0 y1 y2 y3 y4 y5, LeO (laws_FnNext.l0 k y0 y1 y2 y3 y4 y5) (laws_FnNext.l0 (k + 1) y0 y1 y2 y3 y4 y5)) ∧ (∀ y0 y1 y2 y3 y4 y5, LeO (laws_FnNext.l1 k y0 y1 y2 y3 y4 y5) (laws_FnNext.l1 (k + 1) y0 y1 y2 y3 y4 y5)) ∧ (∀ y0 y1 y2 y3 y4 y5 y6, LeO (laws_FnNext.l2 k y0 y1 y2 y3 y4 y5 y6) (laws_FnNext.l2 (k + 1) y0 y1 y2 y3 y4 y5 y6)) ∧ (∀ y0 y1 y2 y3 y4 y5 y6 y7, LeO (laws_FnNext.j4 k y0 y1 y2 y3 y4 y5 y6 y7) (laws_FnNext.j4 (k + 1) y0 y1 y2 y3 y4 y5 y6 y7))
 | 0 => ⟨fun _ _ _ _ _ _ _ r h => by simp [laws_FnNext.j0] at h, fun _ _ _ _ _ _ r h => by simp [laws_FnNext.l0] at h, fun _ _ _ _ _ _ r h => by simp [laws_FnNext.l1] at h, fun _ _ _ _ _ _ _ r h => by simp [laws_FnNext.l2] at h, fun _ _ _ _ _ _ _ _ r h => by simp [laws_FnNext.j4] at h⟩
 | k + 1 => by
  obtain ⟨ih0, ih1, ih2, ih3, ih4⟩ := laws_FnNext.mono_l k
  refine ⟨?_, ?_, ?_, ?_, ?_⟩
  ·
   intro y0 y1 y2 y3 y4 y5 y6
   unfold laws_FnNext.j0
   repeat' first
   | (with_reducible exact ih0 _ _ _ _ _ _ _)
   | (with_reducible exact ih1 _ _ _ _ _ _)
   | (with_reducible exact ih2 _ _ _ _ _ _)
   | (with_reducible exact ih3 _ _ _ _ _ _ _)
   | (with_reducible exact ih4 _ _ _ _ _ _ _ _)
   | (with_reducible exact impl_TreeLabels.mono _ _ _)
   | (with_reducible exact impl_TreeNext.mono _ _ _)
   | (with_reducible exact laws_sameInts.mono _ _ _)
   | (with_reducible exact spec_DrawTreeNext.mono _ _)
   | (with_reducible exact spec_TreeNext.mono _ _ _)
   | (with_reducible exact LeO.refl _)
   | (with_reducible exact LeO.none _)
   | (with_reducible refine LeO.ite ?_ ?_)
   | (with_reducible refine LeO.bind ?_ (fun _ => ?_))
   | exact ih0 _ _ _ _ _ _ _
   | exact ih1 _ _ _ _ _ _
   | exact ih2 _ _ _ _ _ _
   | exact ih3 _ _ _ _ _ _ _
   | exact ih4 _ _ _ _ _ _ _ _
   | exact impl_TreeLabels.mono _ _ _
   | exact impl_TreeNext.mono _ _ _
   | exact laws_sameInts.mono _ _ _
   | exact spec_DrawTreeNext.mono _ _
   | exact spec_TreeNext.mono _ _ _
   | exact LeO.none _
   | refine LeO.ite ?_ ?_
   | refine LeO.bind ?_ (fun _ => ?_)
  ·
   intro y0 y1 y2 y3 y4 y5
   unfold laws_FnNext.l0
   repeat' first
   | (with_reducible exact ih0 _ _ _ _ _ _ _)
   | (with_reducible exact ih1 _ _ _ _ _ _)
   | (with_reducible exact ih2 _ _ _ _ _ _)
   | (with_reducible exact ih3 _ _ _ _ _ _ _)
   | (with_reducible exact ih4 _ _ _ _ _ _ _ _)
   | (with_reducible exact impl_TreeLabels.mono _ _ _)
   | (with_reducible exact impl_TreeNext.mono _ _ _)
   | (with_reducible exact laws_sameInts.mono _ _ _)
   | (with_reducible exact spec_DrawTreeNext.mono _ _)
   | (with_reducible exact spec_TreeNext.mono _ _ _)
   | (with_reducible exact LeO.refl _)
   | (with_reducible exact LeO.none _)
   | (with_reducible refine LeO.ite ?_ ?_)
   | (with_reducible refine LeO.bind ?_ (fun _ => ?_))
   | exact ih0 _ _ _ _ _ _ _
   | exact ih1 _ _ _ _ _ _
   | exact ih2 _ _ _ _ _ _
   | exact ih3 _ _ _ _ _ _ _
   | exact ih4 _ _ _ _ _ _ _ _
   | exact impl_TreeLabels.mono _ _ _
   | exact impl_TreeNext.mono _ _ _
   | exact laws_sameInts.mono _ _ _
   | exact spec_DrawTreeNext.mono _ _
   | exact spec_TreeNext.mono _ _ _
   | exact LeO.none _
   | refine LeO.ite ?_ ?_
   | refine LeO.bind ?_ (fun _ => ?_)
  ·
   intro y0 y1 y2 y3 y4 y5
   unfold laws_FnNext.l1
   repeat' first
   | (with_reducible exact ih0 _ _ _ _ _ _ _)
   | (with_reducible exact ih1 _ _ _ _ _ _)
   | (with_reducible exact ih2 _ _ _ _ _ _)
   | (with_reducible exact ih3 _ _ _ _ _ _ _)
   | (with_reducible exact ih4 _ _ _ _ _ _ _ _)
   | (with_reducible exact impl_TreeLabels.mono _ _ _)
   | (with_reducible exact impl_TreeNext.mono _ _ _)
   | (with_reducible exact laws_sameInts.mono _ _ _)
   | (with_reducible exact spec_DrawTreeNext.mono _ _)
   | (with_reducible exact spec_TreeNext.mono _ _ _)
   | (with_reducible exact LeO.refl _)
   | (with_reducible exact LeO.none _)
   | (with_reducible refine LeO.ite ?_ ?_)
   | (with_reducible refine LeO.bind ?_ (fun _ => ?_))
   | exact ih0 _ _ _ _ _ _ _
   | exact ih1 _ _ _ _ _ _
   | exact ih2 _ _ _ _ _ _
   | exact ih3 _ _ _ _ _ _ _
   | exact ih4 _ _ _ _ _ _ _ _
   | exact impl_TreeLabels.mono _ _ _
   | exact impl_TreeNext.mono _ _ _
   | exact laws_sameInts.mono _ _ _
   | exact spec_DrawTreeNext.mono _ _
   | exact spec_TreeNext.mono _ _ _
   | exact LeO.none _
   | refine LeO.ite ?_ ?_
   | refine LeO.bind ?_ (fun _ => ?_)
  ·
   intro y0 y1 y2 y3 y4 y5 y6
   unfold laws_FnNext.l2
   repeat' first
   | (with_reducible exact ih0 _ _ _ _ _ _ _)
   | (with_reducible exact ih1 _ _ _ _ _ _)
   | (with_reducible exact ih2 _ _ _ _ _ _)
   | (with_reducible exact ih3 _ _ _ _ _ _ _)
   | (with_reducible exact ih4 _ _ _ _ _ _ _ _)
   | (with_reducible exact impl_TreeLabels.mono _ _ _)
   | (with_reducible exact impl_TreeNext.mono _ _ _)
   | (with_reducible exact laws_sameInts.mono _ _ _)
   | (with_reducible exact spec_DrawTreeNext.mono _ _)
   | (with_reducible exact spec_TreeNext.mono _ _ _)
   | (with_reducible exact LeO.refl _)
   | (with_reducible exact LeO.none _)
   | (with_reducible refine LeO.ite ?_ ?_)
   | (with_reducible refine LeO.bind ?_ (fun _ => ?_))
   | exact ih0 _ _ _ _ _ _ _
   | exact ih1 _ _ _ _ _ _
   | exact ih2 _ _ _ _ _ _
   | exact ih3 _ _ _ _ _ _ _
   | exact ih4 _ _ _ _ _ _ _ _
   | exact impl_TreeLabels.mono _ _ _
   | exact impl_TreeNext.mono _ _ _
   | exact laws_sameInts.mono _ _ _
   | exact spec_DrawTreeNext.mono _ _
   | exact spec_TreeNext.mono _ _ _
   | exact LeO.none _
   | refine LeO.ite ?_ ?_
   | refine LeO.bind ?_ (fun _ => ?_)
  ·
   intro y0 y1 y2 y3 y4 y5 y6 y7
   unfold laws_FnNext.j4
   repeat' first
   | (with_reducible exact ih0 _ _ _ _ _ _ _)
   | (with_reducible exact ih1 _ _ _ _ _ _)
   | (with_reducible exact ih2 _ _ _ _ _ _)
   | (with_reducible exact ih3 _ _ _ _ _ _ _)
   | (with_reducible exact ih4 _ _ _ _ _ _ _ _)
   | (with_reducible exact impl_TreeLabels.mono _ _ _)
   | (with_reducible exact impl_TreeNext.mono _ _ _)
   | (with_reducible exact laws_sameInts.mono _ _ _)
   | (with_reducible exact spec_DrawTreeNext.mono _ _)
   | (with_reducible exact spec_TreeNext.mono _ _ _)
   | (with_reducible exact LeO.refl _)
   | (with_reducible exact LeO.none _)
   | (with_reducible refine LeO.ite ?_ ?_)
   | (with_reducible refine LeO.bind ?_ (fun _ => ?_))
   | exact ih0 _ _ _ _ _ _ _
   | exact ih1 _ _ _ _ _ _
   | exact ih2 _ _ _ _ _ _
   | exact ih3 _ _ _ _ _ _ _
   | exact ih4 _ _ _ _ _ _ _ _
   | exact impl_TreeLabels.mono _ _ _
   | exact impl_TreeNext.mono _ _ _
   | exact laws_sameInts.mono _ _ _
   | exact spec_DrawTreeNext.mono _ _
   | exact spec_TreeNext.mono _ _ _
   | exact LeO.none _
   | refine LeO.ite ?_ ?_
   | refine LeO.bind ?_ (fun _ => ?_)
set_option maxHeartbeats 8000000 in
set_option maxRecDepth 100000 in
theorem laws_FnNext.calls (k : Nat) (A0 : Option Addr) (c0 : Nat) (l0 : List Int) (r : Bool) (w : World) (hr0 : Kd.C (Kd.int .u8) w A0 l0.length l0) (hc0 : l0.length ≤ c0) (h : laws_FnNext.f k l0 = some r) :
  Calls Try.prog 12 #[.slice A0 l0.length c0] w fun e w' => e = .returned (.bool r) ∧ Below w.heap.size w w' := by
 have hu35 := Try.underlying35
 have HR0 := Aside0.mk hr0
 have HC0 := Aside0.mk hc0
 clear hr0 hc0
 have HB := Aside0.mk (Below.refl w.heap.size w)
 have H : (if (l0.length : Int) > 1048576 then (some true) else ((spec_DrawTreeNext.f k l0).bind fun bt448 => ((impl_TreeNext.f k bt448.1 bt448.2).bind fun bt453 => ((spec_TreeNext.f k bt448.1 bt448.2).bind fun bt457 => (if (bt453.2 != bt457.2) = true then (laws_FnNext.j0 k bt453.1 bt453.2 bt457.1 bt457.2 true bt448.1 bt448.2) else ((laws_sameInts.f k bt453.1 bt457.1).bind fun t461 => (if t461 = true then (laws_FnNext.j0 k bt453.1 bt453.2 bt457.1 bt457.2 (!bt453.2) bt448.1 bt448.2) else (laws_FnNext.j0 k bt453.1 bt453.2 bt457.1 bt457.2 true bt448.1 bt448.2)))))))) = some r := h
 clear h
 by_cases c2 : (l0.length : Int) > 1048576
 ·
  rw [if_pos c2] at H
  have c2b0 : decide (1048576 < (l0.length : Int)) = true := decide_eq_true c2
  have c2b1 : decide (1048576 < l0.length) = true := decide_eq_true (by omega)
  clear c2
  obtain rfl := Option.some.inj H
  go_enter Try.func12, Try.ntmps12
  go_wp2
  repeat (go_quiet (fail); try go_wp2)
  go_ret
  exact ⟨by first | rfl | (simp [errW_none, errW_some] <;> rfl) | (simp [*, errW_none, errW_some] <;> rfl), by repeat (first | (with_reducible first | exact HB.out | apply below_alloc | apply pw_below_drewN | apply below_drew1) | exact HB.out)⟩
 ·
  rw [if_neg c2] at H
  have c2b0 : decide (1048576 < (l0.length : Int)) = false := decide_eq_false c2
  have c2b1 : decide (1048576 < l0.length) = false := decide_eq_false (by omega)
  clear c2
  replace H := Option.bind_eq_some_iff.mp H
  obtain ⟨⟨t448, t449⟩, A30, H⟩ := H
  replace H : ((impl_TreeNext.f k t448 t449).bind fun bt453 => ((spec_TreeNext.f k t448 t449).bind fun bt457 => (if (bt453.2 != bt457.2) = true then (laws_FnNext.j0 k bt453.1 bt453.2 bt457.1 bt457.2 true t448 t449) else ((laws_sameInts.f k bt453.1 bt457.1).bind fun t461 => (if t461 = true then (laws_FnNext.j0 k bt453.1 bt453.2 bt457.1 bt457.2 (!bt453.2) t448 t449) else (laws_FnNext.j0 k bt453.1 bt453.2 bt457.1 bt457.2 true t448 t449)))))) = some r := H
  have A3 := Aside0.mk A30
  clear A30
  replace H := Option.bind_eq_some_iff.mp H
  obtain ⟨⟨t453, t456⟩, A40, H⟩ := H
  replace H : ((spec_TreeNext.f k t448 t449).bind fun bt457 => (if (t456 != bt457.2) = true then (laws_FnNext.j0 k t453 t456 bt457.1 bt457.2 true t448 t449) else ((laws_sameInts.f k t453 bt457.1).bind fun t461 => (if t461 = true then (laws_FnNext.j0 k t453 t456 bt457.1 bt457.2 (!t456) t448 t449) else (laws_FnNext.j0 k t453 t456 bt457.1 bt457.2 true t448 t449))))) = some r := H
  have A4 := Aside0.mk A40
  clear A40
  replace H := Option.bind_eq_some_iff.mp H
  obtain ⟨⟨t457, t460⟩, A50, H⟩ := H
  replace H : (if (t456 != t460) = true then (laws_FnNext.j0 k t453 t456 t457 t460 true t448 t449) else ((laws_sameInts.f k t453 t457).bind fun t461 => (if t461 = true then (laws_FnNext.j0 k t453 t456 t457 t460 (!t456) t448 t449) else (laws_FnNext.j0 k t453 t456 t457 t460 true t448 t449)))) = some r := H
  have A5 := Aside0.mk A50
  clear A50
  have HC6 := Aside0.mk H
  clear H
  go_enter Try.func12, Try.ntmps12
  go_upto_region 6 with (first | (go_at_call 44; (with_reducible refine (spec_DrawTreeNext.calls k _ _ l0 t448 t449 _ ?side1 ?side2 A3.out).mono ?_); (case side1 => repeat (first | exact HR0.out | (with_reducible refine Kd.C_alloc ?_ _) | (with_reducible refine Kd.C_drewN ?_ _) | (with_reducible refine Kd.C_drew ?_))); (case side2 => exact HC0.out); rintro e w7 ⟨v450, rfl, ho0, hb⟩; have n0_ := Aside0.mk (Kd.Q_lower ho0 (below_size (by repeat (first | (with_reducible first | exact HB.out | apply below_alloc | apply pw_below_drewN | apply below_drew1) | exact HB.out)))); have n1_ := Aside0.mk (below_step (by repeat (first | (with_reducible first | exact HB.out | apply below_alloc | apply pw_below_drewN | apply below_drew1) | exact HB.out)) hb); clear HB; have HO451 := n0_; have HB := n1_; clear n0_ n1_; (try clear hb); (try clear hb2); (try clear hk); (try clear hi); (try clear ho0)) | ((with_reducible refine gate_dst (N := 3) rfl ?_); refine box_event ?hg (N := 3) ?hd (cs := #[.string (⟨#[]⟩ : ByteArray), .slice none 0 0]) (t := 35) ?hr ?_; (case hd => rfl); (case hg => rfl); (case hr => first | (go_simp; done) | (go_simp; rfl)); intro gb452 hg w8 hbox hb; have n0_ := Aside0.mk (Kd.Q_below (by (with_reducible repeat (first | apply Kd.Q_alloc | apply Kd.Q_drewN | apply Kd.Q_drew)); exact HO451.out) hb); have n1_ := Aside0.mk (below_step (by repeat (first | (with_reducible first | exact HB.out | apply below_alloc | apply pw_below_drewN | apply below_drew1) | exact HB.out)) hb); have n2_ := Aside0.mk (hbox); have n3_ := Aside0.mk ((by rw [hg]; exact (below_size (by repeat (first | (with_reducible first | exact HB.out | apply below_alloc | apply pw_below_drewN | apply below_drew1) | exact HB.out))) : w.heap.size ≤ gb452)); have n4_ := Aside0.mk ((by rw [hg]; exact (below_size (by repeat (first | (with_reducible first | exact HB.out | apply below_alloc | apply pw_below_drewN | apply below_drew1) | exact HB.out))) : w.heap.size ≤ gb452)); clear HO451; clear HB; have HO451 := n0_; have HB := n1_; have BK452 := n2_; have GW452 := n3_; have GE452 := n4_; clear n0_ n1_ n2_ n3_ n4_; clear hb hbox hg; have hcz9_0 : w8.cell? ⟨gb452, 0, none⟩ = some (.string (⟨#[]⟩ : ByteArray)) := (blk_cell BK452.out 0).trans rfl; have hcz9_1 : w8.cell? ⟨gb452, 1, none⟩ = some (.slice none 0 0) := (blk_cell BK452.out 1).trans rfl; have hfz9_0 := blk_frozen BK452.out 0; have hfz9_1 := blk_frozen BK452.out 1; obtain ⟨Ao10, co10, eo10, _⟩ := Kd.Q_slice HO451.out; subst eo10) | (go_at_call 45; (with_reducible refine (impl_TreeNext.calls k t448 _ _ t449 t453 t456 _ ?side1 ?side2 A4.out).mono ?_); (case side1 => refine (Kd.Q_reads' (e := 3) (base := w.heap.size) (ok := fun k_ => True) (n := t449.length) (c := co10) ?_).2.2; exact (by (with_reducible repeat (first | apply Kd.Q_alloc | apply Kd.Q_drewN | apply Kd.Q_drew)); exact (Kd.Q_mono (Kd.Q_far (p := ⟨gb452, 1, none⟩) (Kd.Q_far (p := ⟨gb452, 0, none⟩) (Kd.Q_types HO451.out BK452.out (by decide)) (fun _ hk => hk.2) (.string t448)) (fun _ hk => hk.2) (.slice Ao10 t449.length co10)) (fun _ h_ => h_.1)))); (case side2 => exact (Kd.Q_reads' HO451.out).2.1); rintro e w11 ⟨v454, rfl, ho0, hb⟩; have n0_ := Aside0.mk (Kd.Q_elder' (by (with_reducible repeat (first | apply Kd.Q_alloc | apply Kd.Q_drewN | apply Kd.Q_drew)); exact (Kd.Q_mono (Kd.Q_far (p := ⟨gb452, 1, none⟩) (Kd.Q_far (p := ⟨gb452, 0, none⟩) (Kd.Q_types HO451.out BK452.out (by decide)) (fun _ hk => hk.2) (.string t448)) (fun _ hk => hk.2) (.slice Ao10 t449.length co10)) (fun _ h_ => h_.1))) (Kd.R_base ho0) hb); have n1_ := Aside0.mk (Kd.R_lower (Kd.R_new' ho0 (Kd.Q_lt (by (with_reducible repeat (first | apply Kd.Q_alloc | apply Kd.Q_drewN | apply Kd.Q_drew)); exact (Kd.Q_mono (Kd.Q_far (p := ⟨gb452, 1, none⟩) (Kd.Q_far (p := ⟨gb452, 0, none⟩) (Kd.Q_types HO451.out BK452.out (by decide)) (fun _ hk => hk.2) (.string t448)) (fun _ hk => hk.2) (.slice Ao10 t449.length co10)) (fun _ h_ => h_.1))))) (below_size (by repeat (first | (with_reducible first | exact HB.out | apply below_alloc | apply pw_below_drewN | apply below_drew1 | refine below_set ?_ GE452.out) | exact HB.out)))); have n2_ := Aside0.mk (blk_below (g := gb452) (o := .cells #[.string t448, .slice Ao10 t449.length co10] 35 (0, 0)) (by (with_reducible repeat (first | refine blk_drewN ?_ _ | refine blk_drew ?_ | refine blk_alloc ?_ _)); refine blk_put (cs := #[.string t448, .slice none 0 0]) ?_ 1 _ rfl; (with_reducible repeat (first | refine blk_drewN ?_ _ | refine blk_drew ?_ | refine blk_alloc ?_ _)); refine blk_put (cs := #[.string (⟨#[]⟩ : ByteArray), .slice none 0 0]) ?_ 0 _ rfl; (with_reducible repeat (first | refine blk_drewN ?_ _ | refine blk_drew ?_ | refine blk_alloc ?_ _)); exact BK452.out) hb); have n3_ := Aside0.mk (below_step (by repeat (first | (with_reducible first | exact HB.out | apply below_alloc | apply pw_below_drewN | apply below_drew1 | refine below_set ?_ GE452.out) | exact HB.out)) hb); clear HO451; clear BK452; clear HB; have HO451 := n0_; have HO455 := n1_; have BK452 := n2_; have HB := n3_; clear n0_ n1_ n2_ n3_; (try clear hb); (try clear hb2); (try clear hk); (try clear hi); (try clear ho0); have hcz12_0 : w11.cell? ⟨gb452, 0, none⟩ = some (.string t448) := (blk_cell BK452.out 0).trans rfl; have hcz12_1 : w11.cell? ⟨gb452, 1, none⟩ = some (.slice Ao10 t449.length co10) := (blk_cell BK452.out 1).trans rfl; have hfz12_0 := blk_frozen BK452.out 0; have hfz12_1 := blk_frozen BK452.out 1) | (go_at_call 46; (with_reducible refine (spec_TreeNext.calls k t448 _ _ t449 t457 t460 _ ?side1 ?side2 A5.out).mono ?_); (case side1 => repeat (first | exact (Kd.Q_reads' HO451.out).2.2 | (with_reducible refine Kd.C_alloc ?_ _) | (with_reducible refine Kd.C_drewN ?_ _) | (with_reducible refine Kd.C_drew ?_))); (case side2 => exact (Kd.Q_reads' HO451.out).2.1); rintro e w13 ⟨v458, rfl, ho0, hb⟩; have n0_ := Aside0.mk (Kd.Q_elder' (by (with_reducible repeat (first | apply Kd.Q_alloc | apply Kd.Q_drewN | apply Kd.Q_drew)); exact HO451.out) (Kd.R_base ho0) hb); have n1_ := Aside0.mk (Kd.R_elder' (by (with_reducible repeat (first | apply Kd.R_alloc | apply Kd.R_drewN | apply Kd.R_drew)); exact HO455.out) (Kd.R_base ho0) hb); have n2_ := Aside0.mk (Kd.R_lower (Kd.R_new' (Kd.R_new' ho0 (Kd.Q_lt (by (with_reducible repeat (first | apply Kd.Q_alloc | apply Kd.Q_drewN | apply Kd.Q_drew)); exact HO451.out))) (Kd.R_lt (by (with_reducible repeat (first | apply Kd.R_alloc | apply Kd.R_drewN | apply Kd.R_drew)); exact HO455.out))) (below_size (by repeat (first | (with_reducible first | exact HB.out | apply below_alloc | apply pw_below_drewN | apply below_drew1 | refine below_set ?_ GE452.out) | exact HB.out)))); have n3_ := Aside0.mk (blk_below (g := gb452) (o := .cells #[.string t448, .slice Ao10 t449.length co10] 35 (0, 0)) (by (with_reducible repeat (first | refine blk_drewN ?_ _ | refine blk_drew ?_ | refine blk_alloc ?_ _)); exact BK452.out) hb); have n4_ := Aside0.mk (below_step (by repeat (first | (with_reducible first | exact HB.out | apply below_alloc | apply pw_below_drewN | apply below_drew1 | refine below_set ?_ GE452.out) | exact HB.out)) hb); clear HO451; clear HO455; clear BK452; clear HB; have HO451 := n0_; have HO455 := n1_; have HO459 := n2_; have BK452 := n3_; have HB := n4_; clear n0_ n1_ n2_ n3_ n4_; (try clear hb); (try clear hb2); (try clear hk); (try clear hi); (try clear ho0)))
  repeat (go_quiet (first | (go_at_call 44; (try simp only [Go.IntWalk.i64_left]); (with_reducible refine (spec_DrawTreeNext.calls k _ _ l0 t448 t449 _ ?side1 ?side2 A3.out).mono ?_); (case side1 => repeat (first | exact HR0.out | (with_reducible refine Kd.C_alloc ?_ _) | (with_reducible refine Kd.C_drewN ?_ _) | (with_reducible refine Kd.C_drew ?_))); (case side2 => exact HC0.out); rintro e w7 ⟨v450, rfl, ho0, hb⟩; have n0_ := Aside0.mk (Kd.Q_lower ho0 (below_size (by repeat (first | (with_reducible first | exact HB.out | apply below_alloc | apply pw_below_drewN | apply below_drew1) | exact HB.out)))); have n1_ := Aside0.mk (below_step (by repeat (first | (with_reducible first | exact HB.out | apply below_alloc | apply pw_below_drewN | apply below_drew1) | exact HB.out)) hb); clear HB; have HO451 := n0_; have HB := n1_; clear n0_ n1_; (try clear hb); (try clear hb2); (try clear hk); (try clear hi); (try clear ho0)) | ((with_reducible refine gate_dst (N := 3) rfl ?_); refine box_event ?hg (N := 3) ?hd (cs := #[.string (⟨#[]⟩ : ByteArray), .slice none 0 0]) (t := 35) ?hr ?_; (case hd => rfl); (case hg => rfl); (case hr => first | (go_simp; done) | (go_simp; rfl)); intro gb452 hg w8 hbox hb; have n0_ := Aside0.mk (Kd.Q_below (by (with_reducible repeat (first | apply Kd.Q_alloc | apply Kd.Q_drewN | apply Kd.Q_drew)); exact HO451.out) hb); have n1_ := Aside0.mk (below_step (by repeat (first | (with_reducible first | exact HB.out | apply below_alloc | apply pw_below_drewN | apply below_drew1) | exact HB.out)) hb); have n2_ := Aside0.mk (hbox); have n3_ := Aside0.mk ((by rw [hg]; exact (below_size (by repeat (first | (with_reducible first | exact HB.out | apply below_alloc | apply pw_below_drewN | apply below_drew1) | exact HB.out))) : w.heap.size ≤ gb452)); have n4_ := Aside0.mk ((by rw [hg]; exact (below_size (by repeat (first | (with_reducible first | exact HB.out | apply below_alloc | apply pw_below_drewN | apply below_drew1) | exact HB.out))) : w.heap.size ≤ gb452)); clear HO451; clear HB; have HO451 := n0_; have HB := n1_; have BK452 := n2_; have GW452 := n3_; have GE452 := n4_; clear n0_ n1_ n2_ n3_ n4_; clear hb hbox hg; have hcz9_0 : w8.cell? ⟨gb452, 0, none⟩ = some (.string (⟨#[]⟩ : ByteArray)) := (blk_cell BK452.out 0).trans rfl; have hcz9_1 : w8.cell? ⟨gb452, 1, none⟩ = some (.slice none 0 0) := (blk_cell BK452.out 1).trans rfl; have hfz9_0 := blk_frozen BK452.out 0; have hfz9_1 := blk_frozen BK452.out 1; obtain ⟨Ao10, co10, eo10, _⟩ := Kd.Q_slice HO451.out; subst eo10) | (go_at_call 45; (try simp only [Go.IntWalk.i64_left]); (with_reducible refine (impl_TreeNext.calls k t448 _ _ t449 t453 t456 _ ?side1 ?side2 A4.out).mono ?_); (case side1 => refine (Kd.Q_reads' (e := 3) (base := w.heap.size) (ok := fun k_ => True) (n := t449.length) (c := co10) ?_).2.2; exact (by (with_reducible repeat (first | apply Kd.Q_alloc | apply Kd.Q_drewN | apply Kd.Q_drew)); exact (Kd.Q_mono (Kd.Q_far (p := ⟨gb452, 1, none⟩) (Kd.Q_far (p := ⟨gb452, 0, none⟩) (Kd.Q_types HO451.out BK452.out (by decide)) (fun _ hk => hk.2) (.string t448)) (fun _ hk => hk.2) (.slice Ao10 t449.length co10)) (fun _ h_ => h_.1)))); (case side2 => exact (Kd.Q_reads' HO451.out).2.1); rintro e w11 ⟨v454, rfl, ho0, hb⟩; have n0_ := Aside0.mk (Kd.Q_elder' (by (with_reducible repeat (first | apply Kd.Q_alloc | apply Kd.Q_drewN | apply Kd.Q_drew)); exact (Kd.Q_mono (Kd.Q_far (p := ⟨gb452, 1, none⟩) (Kd.Q_far (p := ⟨gb452, 0, none⟩) (Kd.Q_types HO451.out BK452.out (by decide)) (fun _ hk => hk.2) (.string t448)) (fun _ hk => hk.2) (.slice Ao10 t449.length co10)) (fun _ h_ => h_.1))) (Kd.R_base ho0) hb); have n1_ := Aside0.mk (Kd.R_lower (Kd.R_new' ho0 (Kd.Q_lt (by (with_reducible repeat (first | apply Kd.Q_alloc | apply Kd.Q_drewN | apply Kd.Q_drew)); exact (Kd.Q_mono (Kd.Q_far (p := ⟨gb452, 1, none⟩) (Kd.Q_far (p := ⟨gb452, 0, none⟩) (Kd.Q_types HO451.out BK452.out (by decide)) (fun _ hk => hk.2) (.string t448)) (fun _ hk => hk.2) (.slice Ao10 t449.length co10)) (fun _ h_ => h_.1))))) (below_size (by repeat (first | (with_reducible first | exact HB.out | apply below_alloc | apply pw_below_drewN | apply below_drew1 | refine below_set ?_ GE452.out) | exact HB.out)))); have n2_ := Aside0.mk (blk_below (g := gb452) (o := .cells #[.string t448, .slice Ao10 t449.length co10] 35 (0, 0)) (by (with_reducible repeat (first | refine blk_drewN ?_ _ | refine blk_drew ?_ | refine blk_alloc ?_ _)); refine blk_put (cs := #[.string t448, .slice none 0 0]) ?_ 1 _ rfl; (with_reducible repeat (first | refine blk_drewN ?_ _ | refine blk_drew ?_ | refine blk_alloc ?_ _)); refine blk_put (cs := #[.string (⟨#[]⟩ : ByteArray), .slice none 0 0]) ?_ 0 _ rfl; (with_reducible repeat (first | refine blk_drewN ?_ _ | refine blk_drew ?_ | refine blk_alloc ?_ _)); exact BK452.out) hb); have n3_ := Aside0.mk (below_step (by repeat (first | (with_reducible first | exact HB.out | apply below_alloc | apply pw_below_drewN | apply below_drew1 | refine below_set ?_ GE452.out) | exact HB.out)) hb); clear HO451; clear BK452; clear HB; have HO451 := n0_; have HO455 := n1_; have BK452 := n2_; have HB := n3_; clear n0_ n1_ n2_ n3_; (try clear hb); (try clear hb2); (try clear hk); (try clear hi); (try clear ho0); have hcz12_0 : w11.cell? ⟨gb452, 0, none⟩ = some (.string t448) := (blk_cell BK452.out 0).trans rfl; have hcz12_1 : w11.cell? ⟨gb452, 1, none⟩ = some (.slice Ao10 t449.length co10) := (blk_cell BK452.out 1).trans rfl; have hfz12_0 := blk_frozen BK452.out 0; have hfz12_1 := blk_frozen BK452.out 1) | (go_at_call 46; (try simp only [Go.IntWalk.i64_left]); (with_reducible refine (spec_TreeNext.calls k t448 _ _ t449 t457 t460 _ ?side1 ?side2 A5.out).mono ?_); (case side1 => repeat (first | exact (Kd.Q_reads' HO451.out).2.2 | (with_reducible refine Kd.C_alloc ?_ _) | (with_reducible refine Kd.C_drewN ?_ _) | (with_reducible refine Kd.C_drew ?_))); (case side2 => exact (Kd.Q_reads' HO451.out).2.1); rintro e w13 ⟨v458, rfl, ho0, hb⟩; have n0_ := Aside0.mk (Kd.Q_elder' (by (with_reducible repeat (first | apply Kd.Q_alloc | apply Kd.Q_drewN | apply Kd.Q_drew)); exact HO451.out) (Kd.R_base ho0) hb); have n1_ := Aside0.mk (Kd.R_elder' (by (with_reducible repeat (first | apply Kd.R_alloc | apply Kd.R_drewN | apply Kd.R_drew)); exact HO455.out) (Kd.R_base ho0) hb); have n2_ := Aside0.mk (Kd.R_lower (Kd.R_new' (Kd.R_new' ho0 (Kd.Q_lt (by (with_reducible repeat (first | apply Kd.Q_alloc | apply Kd.Q_drewN | apply Kd.Q_drew)); exact HO451.out))) (Kd.R_lt (by (with_reducible repeat (first | apply Kd.R_alloc | apply Kd.R_drewN | apply Kd.R_drew)); exact HO455.out))) (below_size (by repeat (first | (with_reducible first | exact HB.out | apply below_alloc | apply pw_below_drewN | apply below_drew1 | refine below_set ?_ GE452.out) | exact HB.out)))); have n3_ := Aside0.mk (blk_below (g := gb452) (o := .cells #[.string t448, .slice Ao10 t449.length co10] 35 (0, 0)) (by (with_reducible repeat (first | refine blk_drewN ?_ _ | refine blk_drew ?_ | refine blk_alloc ?_ _)); exact BK452.out) hb); have n4_ := Aside0.mk (below_step (by repeat (first | (with_reducible first | exact HB.out | apply below_alloc | apply pw_below_drewN | apply below_drew1 | refine below_set ?_ GE452.out) | exact HB.out)) hb); clear HO451; clear HO455; clear BK452; clear HB; have HO451 := n0_; have HO455 := n1_; have HO459 := n2_; have BK452 := n3_; have HB := n4_; clear n0_ n1_ n2_ n3_ n4_; (try clear hb); (try clear hb2); (try clear hk); (try clear hi); (try clear ho0))); go_upto_region 6 with (first | (go_at_call 44; (try simp only [Go.IntWalk.i64_left]); (with_reducible refine (spec_DrawTreeNext.calls k _ _ l0 t448 t449 _ ?side1 ?side2 A3.out).mono ?_); (case side1 => repeat (first | exact HR0.out | (with_reducible refine Kd.C_alloc ?_ _) | (with_reducible refine Kd.C_drewN ?_ _) | (with_reducible refine Kd.C_drew ?_))); (case side2 => exact HC0.out); rintro e w7 ⟨v450, rfl, ho0, hb⟩; have n0_ := Aside0.mk (Kd.Q_lower ho0 (below_size (by repeat (first | (with_reducible first | exact HB.out | apply below_alloc | apply pw_below_drewN | apply below_drew1) | exact HB.out)))); have n1_ := Aside0.mk (below_step (by repeat (first | (with_reducible first | exact HB.out | apply below_alloc | apply pw_below_drewN | apply below_drew1) | exact HB.out)) hb); clear HB; have HO451 := n0_; have HB := n1_; clear n0_ n1_; (try clear hb); (try clear hb2); (try clear hk); (try clear hi); (try clear ho0)) | ((with_reducible refine gate_dst (N := 3) rfl ?_); refine box_event ?hg (N := 3) ?hd (cs := #[.string (⟨#[]⟩ : ByteArray), .slice none 0 0]) (t := 35) ?hr ?_; (case hd => rfl); (case hg => rfl); (case hr => first | (go_simp; done) | (go_simp; rfl)); intro gb452 hg w8 hbox hb; have n0_ := Aside0.mk (Kd.Q_below (by (with_reducible repeat (first | apply Kd.Q_alloc | apply Kd.Q_drewN | apply Kd.Q_drew)); exact HO451.out) hb); have n1_ := Aside0.mk (below_step (by repeat (first | (with_reducible first | exact HB.out | apply below_alloc | apply pw_below_drewN | apply below_drew1) | exact HB.out)) hb); have n2_ := Aside0.mk (hbox); have n3_ := Aside0.mk ((by rw [hg]; exact (below_size (by repeat (first | (with_reducible first | exact HB.out | apply below_alloc | apply pw_below_drewN | apply below_drew1) | exact HB.out))) : w.heap.size ≤ gb452)); have n4_ := Aside0.mk ((by rw [hg]; exact (below_size (by repeat (first | (with_reducible first | exact HB.out | apply below_alloc | apply pw_below_drewN | apply below_drew1) | exact HB.out))) : w.heap.size ≤ gb452)); clear HO451; clear HB; have HO451 := n0_; have HB := n1_; have BK452 := n2_; have GW452 := n3_; have GE452 := n4_; clear n0_ n1_ n2_ n3_ n4_; clear hb hbox hg; have hcz9_0 : w8.cell? ⟨gb452, 0, none⟩ = some (.string (⟨#[]⟩ : ByteArray)) := (blk_cell BK452.out 0).trans rfl; have hcz9_1 : w8.cell? ⟨gb452, 1, none⟩ = some (.slice none 0 0) := (blk_cell BK452.out 1).trans rfl; have hfz9_0 := blk_frozen BK452.out 0; have hfz9_1 := blk_frozen BK452.out 1; obtain ⟨Ao10, co10, eo10, _⟩ := Kd.Q_slice HO451.out; subst eo10) | (go_at_call 45; (try simp only [Go.IntWalk.i64_left]); (with_reducible refine (impl_TreeNext.calls k t448 _ _ t449 t453 t456 _ ?side1 ?side2 A4.out).mono ?_); (case side1 => refine (Kd.Q_reads' (e := 3) (base := w.heap.size) (ok := fun k_ => True) (n := t449.length) (c := co10) ?_).2.2; exact (by (with_reducible repeat (first | apply Kd.Q_alloc | apply Kd.Q_drewN | apply Kd.Q_drew)); exact (Kd.Q_mono (Kd.Q_far (p := ⟨gb452, 1, none⟩) (Kd.Q_far (p := ⟨gb452, 0, none⟩) (Kd.Q_types HO451.out BK452.out (by decide)) (fun _ hk => hk.2) (.string t448)) (fun _ hk => hk.2) (.slice Ao10 t449.length co10)) (fun _ h_ => h_.1)))); (case side2 => exact (Kd.Q_reads' HO451.out).2.1); rintro e w11 ⟨v454, rfl, ho0, hb⟩; have n0_ := Aside0.mk (Kd.Q_elder' (by (with_reducible repeat (first | apply Kd.Q_alloc | apply Kd.Q_drewN | apply Kd.Q_drew)); exact (Kd.Q_mono (Kd.Q_far (p := ⟨gb452, 1, none⟩) (Kd.Q_far (p := ⟨gb452, 0, none⟩) (Kd.Q_types HO451.out BK452.out (by decide)) (fun _ hk => hk.2) (.string t448)) (fun _ hk => hk.2) (.slice Ao10 t449.length co10)) (fun _ h_ => h_.1))) (Kd.R_base ho0) hb); have n1_ := Aside0.mk (Kd.R_lower (Kd.R_new' ho0 (Kd.Q_lt (by (with_reducible repeat (first | apply Kd.Q_alloc | apply Kd.Q_drewN | apply Kd.Q_drew)); exact (Kd.Q_mono (Kd.Q_far (p := ⟨gb452, 1, none⟩) (Kd.Q_far (p := ⟨gb452, 0, none⟩) (Kd.Q_types HO451.out BK452.out (by decide)) (fun _ hk => hk.2) (.string t448)) (fun _ hk => hk.2) (.slice Ao10 t449.length co10)) (fun _ h_ => h_.1))))) (below_size (by repeat (first | (with_reducible first | exact HB.out | apply below_alloc | apply pw_below_drewN | apply below_drew1 | refine below_set ?_ GE452.out) | exact HB.out)))); have n2_ := Aside0.mk (blk_below (g := gb452) (o := .cells #[.string t448, .slice Ao10 t449.length co10] 35 (0, 0)) (by (with_reducible repeat (first | refine blk_drewN ?_ _ | refine blk_drew ?_ | refine blk_alloc ?_ _)); refine blk_put (cs := #[.string t448, .slice none 0 0]) ?_ 1 _ rfl; (with_reducible repeat (first | refine blk_drewN ?_ _ | refine blk_drew ?_ | refine blk_alloc ?_ _)); refine blk_put (cs := #[.string (⟨#[]⟩ : ByteArray), .slice none 0 0]) ?_ 0 _ rfl; (with_reducible repeat (first | refine blk_drewN ?_ _ | refine blk_drew ?_ | refine blk_alloc ?_ _)); exact BK452.out) hb); have n3_ := Aside0.mk (below_step (by repeat (first | (with_reducible first | exact HB.out | apply below_alloc | apply pw_below_drewN | apply below_drew1 | refine below_set ?_ GE452.out) | exact HB.out)) hb); clear HO451; clear BK452; clear HB; have HO451 := n0_; have HO455 := n1_; have BK452 := n2_; have HB := n3_; clear n0_ n1_ n2_ n3_; (try clear hb); (try clear hb2); (try clear hk); (try clear hi); (try clear ho0); have hcz12_0 : w11.cell? ⟨gb452, 0, none⟩ = some (.string t448) := (blk_cell BK452.out 0).trans rfl; have hcz12_1 : w11.cell? ⟨gb452, 1, none⟩ = some (.slice Ao10 t449.length co10) := (blk_cell BK452.out 1).trans rfl; have hfz12_0 := blk_frozen BK452.out 0; have hfz12_1 := blk_frozen BK452.out 1) | (go_at_call 46; (try simp only [Go.IntWalk.i64_left]); (with_reducible refine (spec_TreeNext.calls k t448 _ _ t449 t457 t460 _ ?side1 ?side2 A5.out).mono ?_); (case side1 => repeat (first | exact (Kd.Q_reads' HO451.out).2.2 | (with_reducible refine Kd.C_alloc ?_ _) | (with_reducible refine Kd.C_drewN ?_ _) | (with_reducible refine Kd.C_drew ?_))); (case side2 => exact (Kd.Q_reads' HO451.out).2.1); rintro e w13 ⟨v458, rfl, ho0, hb⟩; have n0_ := Aside0.mk (Kd.Q_elder' (by (with_reducible repeat (first | apply Kd.Q_alloc | apply Kd.Q_drewN | apply Kd.Q_drew)); exact HO451.out) (Kd.R_base ho0) hb); have n1_ := Aside0.mk (Kd.R_elder' (by (with_reducible repeat (first | apply Kd.R_alloc | apply Kd.R_drewN | apply Kd.R_drew)); exact HO455.out) (Kd.R_base ho0) hb); have n2_ := Aside0.mk (Kd.R_lower (Kd.R_new' (Kd.R_new' ho0 (Kd.Q_lt (by (with_reducible repeat (first | apply Kd.Q_alloc | apply Kd.Q_drewN | apply Kd.Q_drew)); exact HO451.out))) (Kd.R_lt (by (with_reducible repeat (first | apply Kd.R_alloc | apply Kd.R_drewN | apply Kd.R_drew)); exact HO455.out))) (below_size (by repeat (first | (with_reducible first | exact HB.out | apply below_alloc | apply pw_below_drewN | apply below_drew1 | refine below_set ?_ GE452.out) | exact HB.out)))); have n3_ := Aside0.mk (blk_below (g := gb452) (o := .cells #[.string t448, .slice Ao10 t449.length co10] 35 (0, 0)) (by (with_reducible repeat (first | refine blk_drewN ?_ _ | refine blk_drew ?_ | refine blk_alloc ?_ _)); exact BK452.out) hb); have n4_ := Aside0.mk (below_step (by repeat (first | (with_reducible first | exact HB.out | apply below_alloc | apply pw_below_drewN | apply below_drew1 | refine below_set ?_ GE452.out) | exact HB.out)) hb); clear HO451; clear HO455; clear BK452; clear HB; have HO451 := n0_; have HO455 := n1_; have HO459 := n2_; have BK452 := n3_; have HB := n4_; clear n0_ n1_ n2_ n3_ n4_; (try clear hb); (try clear hb2); (try clear hk); (try clear hi); (try clear ho0))))
  (try simp only [Act.put, List.setIfInBounds_toArray, List.set_cons_zero, List.set_cons_succ])
  go_cut [42] (fun v42 wc => ∃ (kq : Nat) (x42_5 : Bool), v42 = .bool x42_5 ∧ Aside0 (laws_FnNext.j0 kq t453 t456 t457 t460 x42_5 t448 t449 = some r) ∧ Aside0 (kq ≤ k) ∧ Aside0 (Kd.R (Kd.int .i64) 3 wc w.heap.size (fun k_ => some k_ ≠ (v458 : Value).ownBlock ∧ some k_ ≠ ((.slice Ao10 t449.length co10) : Value).ownBlock) v454 t453) ∧ Aside0 (Kd.R (Kd.int .i64) 3 wc w.heap.size (fun k_ => some k_ ≠ (v454 : Value).ownBlock ∧ some k_ ≠ ((.slice Ao10 t449.length co10) : Value).ownBlock) v458 t457) ∧ Aside0 (Kd.Q (Kd.int .i64) 3 wc w.heap.size (fun k_ => some k_ ≠ (v454 : Value).ownBlock ∧ some k_ ≠ (v458 : Value).ownBlock) (.slice Ao10 t449.length co10) t449) ∧ Aside0 (wc.heap[gb452]? = some (.cells #[.string t448, (.slice Ao10 t449.length co10)] 35 (0, 0))) ∧ Aside0 (Below w.heap.size w wc))
  case first =>
   have H := HC6.out
   clear HC6
   by_cases c14 : (t456 != t460) = true
   ·
    rw [if_pos c14] at H
    have c14b0 : (t456 != t460) = true := c14
    (try (have c14b1 : decide (t456 = t460) = false := by simpa using c14))
    (try (have c14b2 : (t456 == t460) = false := by simpa using c14))
    (try (have c14b3 : ¬ (t456 = t460) := by simpa using c14))
    clear c14
    (first | rw [c14b0] | (simp only [i64_w, i32_w]; rw [c14b0]) | skip)
    have H' := Aside0.mk H
    clear H
    go_wp2
    repeat (go_quiet (fail); try go_wp2)
    go_meet
    case rel => exact ⟨_, (true), (by first | rfl | (simp; done) | (simp [*]; done)), H', ⟨by first | omega | exact Nat.le_refl _⟩, ⟨by (with_reducible repeat (first | apply Kd.R_alloc | apply Kd.R_drewN | apply Kd.R_drew)); exact Kd.R_mono HO455.out (fun _ hk => ⟨hk.2, hk.1.2⟩)⟩, ⟨by (with_reducible repeat (first | apply Kd.R_alloc | apply Kd.R_drewN | apply Kd.R_drew)); exact Kd.R_mono HO459.out (fun _ hk => ⟨hk.2, hk.1.2⟩)⟩, ⟨by (with_reducible repeat (first | apply Kd.Q_alloc | apply Kd.Q_drewN | apply Kd.Q_drew)); exact Kd.Q_mono HO451.out (fun _ hk => ⟨hk.1.2, hk.2⟩)⟩, ⟨by (with_reducible repeat (first | refine blk_drewN ?_ _ | refine blk_drew ?_ | refine blk_alloc ?_ _)); exact BK452.out⟩, ⟨by repeat (first | (with_reducible first | exact HB.out | apply below_alloc | apply pw_below_drewN | apply below_drew1 | refine below_set ?_ GE452.out) | exact HB.out)⟩⟩
   ·
    rw [if_neg c14] at H
    have c14b0 : (t456 != t460) = false := by simpa using c14
    (try (have c14b1 : decide (t456 = t460) = true := by simpa using c14))
    (try (have c14b2 : (t456 == t460) = true := by simpa using c14))
    clear c14
    (first | rw [c14b0] | (simp only [i64_w, i32_w]; rw [c14b0]) | skip)
    replace H := Option.bind_eq_some_iff.mp H
    obtain ⟨t461, A150, H⟩ := H
    replace H : (if t461 = true then (laws_FnNext.j0 k t453 t456 t457 t460 (!t456) t448 t449) else (laws_FnNext.j0 k t453 t456 t457 t460 true t448 t449)) = some r := H
    have A15 := Aside0.mk A150
    clear A150
    by_cases c16 : t461 = true
    ·
     subst c16
     have H1 : (laws_FnNext.j0 k t453 t456 t457 t460 (!t456) t448 t449) = some r := by rw [if_pos rfl] at H; exact H
     clear H
     have H := H1
     clear H1
     have H' := Aside0.mk H
     clear H
     obtain ⟨Ao17, co17, eo17⟩ := Kd.R_slice HO455.out
     subst eo17
     obtain ⟨Ao18, co18, eo18⟩ := Kd.R_slice HO459.out
     subst eo18
     go_wp2_with (first | (go_at_call 42; (with_reducible refine (laws_sameInts.calls k _ _ t453 _ _ t457 true _ ?side1 ?side2 ?side3 ?side4 A15.out).mono ?_); (case side1 => repeat (first | exact (Kd.R_reads' HO455.out).2.2 | (with_reducible refine Kd.C_alloc ?_ _) | (with_reducible refine Kd.C_drewN ?_ _) | (with_reducible refine Kd.C_drew ?_))); (case side2 => exact (Kd.R_reads' HO455.out).2.1); (case side3 => repeat (first | exact (Kd.R_reads' HO459.out).2.2 | (with_reducible refine Kd.C_alloc ?_ _) | (with_reducible refine Kd.C_drewN ?_ _) | (with_reducible refine Kd.C_drew ?_))); (case side4 => exact (Kd.R_reads' HO459.out).2.1); rintro e w' ⟨rfl, ⟨nd, rfl⟩⟩; (try first | exact ⟨rfl, _, World.drewN_drewN _ _ _⟩ | exact ⟨rfl, _, Eq.trans (World.drewN_drewN _ _ _) (congrArg (World.drewN _) (Nat.add_assoc _ _ _))⟩)))
     repeat (go_quiet (first | (go_at_call 42; (try simp only [Go.IntWalk.i64_left]); (with_reducible refine (laws_sameInts.calls k _ _ t453 _ _ t457 true _ ?side1 ?side2 ?side3 ?side4 A15.out).mono ?_); (case side1 => repeat (first | exact (Kd.R_reads' HO455.out).2.2 | (with_reducible refine Kd.C_alloc ?_ _) | (with_reducible refine Kd.C_drewN ?_ _) | (with_reducible refine Kd.C_drew ?_))); (case side2 => exact (Kd.R_reads' HO455.out).2.1); (case side3 => repeat (first | exact (Kd.R_reads' HO459.out).2.2 | (with_reducible refine Kd.C_alloc ?_ _) | (with_reducible refine Kd.C_drewN ?_ _) | (with_reducible refine Kd.C_drew ?_))); (case side4 => exact (Kd.R_reads' HO459.out).2.1); rintro e w' ⟨rfl, ⟨nd, rfl⟩⟩; (try first | exact ⟨rfl, _, World.drewN_drewN _ _ _⟩ | exact ⟨rfl, _, Eq.trans (World.drewN_drewN _ _ _) (congrArg (World.drewN _) (Nat.add_assoc _ _ _))⟩))); try go_wp2_with (first | (go_at_call 42; (try simp only [Go.IntWalk.i64_left]); (with_reducible refine (laws_sameInts.calls k _ _ t453 _ _ t457 true _ ?side1 ?side2 ?side3 ?side4 A15.out).mono ?_); (case side1 => repeat (first | exact (Kd.R_reads' HO455.out).2.2 | (with_reducible refine Kd.C_alloc ?_ _) | (with_reducible refine Kd.C_drewN ?_ _) | (with_reducible refine Kd.C_drew ?_))); (case side2 => exact (Kd.R_reads' HO455.out).2.1); (case side3 => repeat (first | exact (Kd.R_reads' HO459.out).2.2 | (with_reducible refine Kd.C_alloc ?_ _) | (with_reducible refine Kd.C_drewN ?_ _) | (with_reducible refine Kd.C_drew ?_))); (case side4 => exact (Kd.R_reads' HO459.out).2.1); rintro e w' ⟨rfl, ⟨nd, rfl⟩⟩; (try first | exact ⟨rfl, _, World.drewN_drewN _ _ _⟩ | exact ⟨rfl, _, Eq.trans (World.drewN_drewN _ _ _) (congrArg (World.drewN _) (Nat.add_assoc _ _ _))⟩))))
     go_meet
     case rel => exact ⟨_, (!t456), (by first | rfl | (simp; done) | (simp [*]; done)), H', ⟨by first | omega | exact Nat.le_refl _⟩, ⟨by (with_reducible repeat (first | apply Kd.R_alloc | apply Kd.R_drewN | apply Kd.R_drew)); exact Kd.R_mono HO455.out (fun _ hk => ⟨hk.2, hk.1.2⟩)⟩, ⟨by (with_reducible repeat (first | apply Kd.R_alloc | apply Kd.R_drewN | apply Kd.R_drew)); exact Kd.R_mono HO459.out (fun _ hk => ⟨hk.2, hk.1.2⟩)⟩, ⟨by (with_reducible repeat (first | apply Kd.Q_alloc | apply Kd.Q_drewN | apply Kd.Q_drew)); exact Kd.Q_mono HO451.out (fun _ hk => ⟨hk.1.2, hk.2⟩)⟩, ⟨by (with_reducible repeat (first | refine blk_drewN ?_ _ | refine blk_drew ?_ | refine blk_alloc ?_ _)); exact BK452.out⟩, ⟨by repeat (first | (with_reducible first | exact HB.out | apply below_alloc | apply pw_below_drewN | apply below_drew1 | refine below_set ?_ GE452.out) | exact HB.out)⟩⟩
    ·
     replace c16 := Bool.eq_false_iff.mpr c16
     subst c16
     have H1 : (laws_FnNext.j0 k t453 t456 t457 t460 true t448 t449) = some r := by rw [if_neg (show ¬ (false = true) by decide)] at H; exact H
     clear H
     have H := H1
     clear H1
     have H' := Aside0.mk H
     clear H
     obtain ⟨Ao19, co19, eo19⟩ := Kd.R_slice HO455.out
     subst eo19
     obtain ⟨Ao20, co20, eo20⟩ := Kd.R_slice HO459.out
     subst eo20
     go_wp2_with (first | (go_at_call 42; (with_reducible refine (laws_sameInts.calls k _ _ t453 _ _ t457 false _ ?side1 ?side2 ?side3 ?side4 A15.out).mono ?_); (case side1 => repeat (first | exact (Kd.R_reads' HO455.out).2.2 | (with_reducible refine Kd.C_alloc ?_ _) | (with_reducible refine Kd.C_drewN ?_ _) | (with_reducible refine Kd.C_drew ?_))); (case side2 => exact (Kd.R_reads' HO455.out).2.1); (case side3 => repeat (first | exact (Kd.R_reads' HO459.out).2.2 | (with_reducible refine Kd.C_alloc ?_ _) | (with_reducible refine Kd.C_drewN ?_ _) | (with_reducible refine Kd.C_drew ?_))); (case side4 => exact (Kd.R_reads' HO459.out).2.1); rintro e w' ⟨rfl, ⟨nd, rfl⟩⟩; (try first | exact ⟨rfl, _, World.drewN_drewN _ _ _⟩ | exact ⟨rfl, _, Eq.trans (World.drewN_drewN _ _ _) (congrArg (World.drewN _) (Nat.add_assoc _ _ _))⟩)))
     repeat (go_quiet (first | (go_at_call 42; (try simp only [Go.IntWalk.i64_left]); (with_reducible refine (laws_sameInts.calls k _ _ t453 _ _ t457 false _ ?side1 ?side2 ?side3 ?side4 A15.out).mono ?_); (case side1 => repeat (first | exact (Kd.R_reads' HO455.out).2.2 | (with_reducible refine Kd.C_alloc ?_ _) | (with_reducible refine Kd.C_drewN ?_ _) | (with_reducible refine Kd.C_drew ?_))); (case side2 => exact (Kd.R_reads' HO455.out).2.1); (case side3 => repeat (first | exact (Kd.R_reads' HO459.out).2.2 | (with_reducible refine Kd.C_alloc ?_ _) | (with_reducible refine Kd.C_drewN ?_ _) | (with_reducible refine Kd.C_drew ?_))); (case side4 => exact (Kd.R_reads' HO459.out).2.1); rintro e w' ⟨rfl, ⟨nd, rfl⟩⟩; (try first | exact ⟨rfl, _, World.drewN_drewN _ _ _⟩ | exact ⟨rfl, _, Eq.trans (World.drewN_drewN _ _ _) (congrArg (World.drewN _) (Nat.add_assoc _ _ _))⟩))); try go_wp2_with (first | (go_at_call 42; (try simp only [Go.IntWalk.i64_left]); (with_reducible refine (laws_sameInts.calls k _ _ t453 _ _ t457 false _ ?side1 ?side2 ?side3 ?side4 A15.out).mono ?_); (case side1 => repeat (first | exact (Kd.R_reads' HO455.out).2.2 | (with_reducible refine Kd.C_alloc ?_ _) | (with_reducible refine Kd.C_drewN ?_ _) | (with_reducible refine Kd.C_drew ?_))); (case side2 => exact (Kd.R_reads' HO455.out).2.1); (case side3 => repeat (first | exact (Kd.R_reads' HO459.out).2.2 | (with_reducible refine Kd.C_alloc ?_ _) | (with_reducible refine Kd.C_drewN ?_ _) | (with_reducible refine Kd.C_drew ?_))); (case side4 => exact (Kd.R_reads' HO459.out).2.1); rintro e w' ⟨rfl, ⟨nd, rfl⟩⟩; (try first | exact ⟨rfl, _, World.drewN_drewN _ _ _⟩ | exact ⟨rfl, _, Eq.trans (World.drewN_drewN _ _ _) (congrArg (World.drewN _) (Nat.add_assoc _ _ _))⟩))))
     go_meet
     case rel => exact ⟨_, (true), (by first | rfl | (simp; done) | (simp [*]; done)), H', ⟨by first | omega | exact Nat.le_refl _⟩, ⟨by (with_reducible repeat (first | apply Kd.R_alloc | apply Kd.R_drewN | apply Kd.R_drew)); exact Kd.R_mono HO455.out (fun _ hk => ⟨hk.2, hk.1.2⟩)⟩, ⟨by (with_reducible repeat (first | apply Kd.R_alloc | apply Kd.R_drewN | apply Kd.R_drew)); exact Kd.R_mono HO459.out (fun _ hk => ⟨hk.2, hk.1.2⟩)⟩, ⟨by (with_reducible repeat (first | apply Kd.Q_alloc | apply Kd.Q_drewN | apply Kd.Q_drew)); exact Kd.Q_mono HO451.out (fun _ hk => ⟨hk.1.2, hk.2⟩)⟩, ⟨by (with_reducible repeat (first | refine blk_drewN ?_ _ | refine blk_drew ?_ | refine blk_alloc ?_ _)); exact BK452.out⟩, ⟨by repeat (first | (with_reducible first | exact HB.out | apply below_alloc | apply pw_below_drewN | apply below_drew1 | refine below_set ?_ GE452.out) | exact HB.out)⟩⟩
  case rest =>
   clear HC6
   try clear c1
   try clear c2
   try clear c2b0
   try clear c2b1
   try clear p2
   try clear c12
   try clear c14
   try clear c14b0
   try clear c14b1
   try clear c14b2
   try clear c16
   try clear hcz12_0
   try clear hcz12_1
   try clear hcz9_0
   try clear hcz9_1
   try clear hfz12_0
   try clear hfz12_1
   try clear hfz9_0
   try clear hfz9_1
   obtain ⟨kq, x42_5, rfl, HA, HJ5, HO_4, HO_6, HO_453001, BK452, HB⟩ := hcut
   cases kq with
   | zero => exact absurd HA.out (by simp [laws_FnNext.j0])
   | succ kj5 =>
    have H := HA.out
    clear HA
    simp only [laws_FnNext.j0] at H
    by_cases c21 : x42_5 = true
    ·
     subst c21
     have H1 : (if (t456 == t460) = true then ((laws_sameInts.f kj5 t453 t457).bind fun t462 => (some t462)) else (some false)) = some r := by rw [if_pos rfl] at H; exact H
     clear H
     have H := H1
     clear H1
     by_cases c22 : (t456 == t460) = true
     ·
      rw [if_pos c22] at H
      have c22b0 : (t456 == t460) = true := c22
      (try (have c22b1 : decide (t456 = t460) = true := by simpa using c22))
      (try (have c22b2 : (t456 == t460) = true := by simpa using c22))
      clear c22
      replace H := Option.bind_eq_some_iff.mp H
      obtain ⟨t462, A230, H⟩ := H
      replace H : (some t462) = some r := H
      have A23 := Aside0.mk A230
      clear A230
      obtain rfl := Option.some.inj H
      obtain ⟨Ao24, co24, eo24⟩ := Kd.R_slice HO_4.out
      subst eo24
      obtain ⟨Ao25, co25, eo25⟩ := Kd.R_slice HO_6.out
      subst eo25
      go_wp2_with (first | (go_at_call 42; (with_reducible refine (laws_sameInts.calls kj5 _ _ t453 _ _ t457 t462 _ ?side1 ?side2 ?side3 ?side4 A23.out).mono ?_); (case side1 => repeat (first | exact (Kd.R_reads' HO_4.out).2.2 | (with_reducible refine Kd.C_alloc ?_ _) | (with_reducible refine Kd.C_drewN ?_ _) | (with_reducible refine Kd.C_drew ?_))); (case side2 => exact (Kd.R_reads' HO_4.out).2.1); (case side3 => repeat (first | exact (Kd.R_reads' HO_6.out).2.2 | (with_reducible refine Kd.C_alloc ?_ _) | (with_reducible refine Kd.C_drewN ?_ _) | (with_reducible refine Kd.C_drew ?_))); (case side4 => exact (Kd.R_reads' HO_6.out).2.1); rintro e w' ⟨rfl, ⟨nd, rfl⟩⟩; (try first | exact ⟨rfl, _, World.drewN_drewN _ _ _⟩ | exact ⟨rfl, _, Eq.trans (World.drewN_drewN _ _ _) (congrArg (World.drewN _) (Nat.add_assoc _ _ _))⟩)))
      repeat (go_quiet (first | (go_at_call 42; (try simp only [Go.IntWalk.i64_left]); (with_reducible refine (laws_sameInts.calls kj5 _ _ t453 _ _ t457 t462 _ ?side1 ?side2 ?side3 ?side4 A23.out).mono ?_); (case side1 => repeat (first | exact (Kd.R_reads' HO_4.out).2.2 | (with_reducible refine Kd.C_alloc ?_ _) | (with_reducible refine Kd.C_drewN ?_ _) | (with_reducible refine Kd.C_drew ?_))); (case side2 => exact (Kd.R_reads' HO_4.out).2.1); (case side3 => repeat (first | exact (Kd.R_reads' HO_6.out).2.2 | (with_reducible refine Kd.C_alloc ?_ _) | (with_reducible refine Kd.C_drewN ?_ _) | (with_reducible refine Kd.C_drew ?_))); (case side4 => exact (Kd.R_reads' HO_6.out).2.1); rintro e w' ⟨rfl, ⟨nd, rfl⟩⟩; (try first | exact ⟨rfl, _, World.drewN_drewN _ _ _⟩ | exact ⟨rfl, _, Eq.trans (World.drewN_drewN _ _ _) (congrArg (World.drewN _) (Nat.add_assoc _ _ _))⟩))); try go_wp2_with (first | (go_at_call 42; (try simp only [Go.IntWalk.i64_left]); (with_reducible refine (laws_sameInts.calls kj5 _ _ t453 _ _ t457 t462 _ ?side1 ?side2 ?side3 ?side4 A23.out).mono ?_); (case side1 => repeat (first | exact (Kd.R_reads' HO_4.out).2.2 | (with_reducible refine Kd.C_alloc ?_ _) | (with_reducible refine Kd.C_drewN ?_ _) | (with_reducible refine Kd.C_drew ?_))); (case side2 => exact (Kd.R_reads' HO_4.out).2.1); (case side3 => repeat (first | exact (Kd.R_reads' HO_6.out).2.2 | (with_reducible refine Kd.C_alloc ?_ _) | (with_reducible refine Kd.C_drewN ?_ _) | (with_reducible refine Kd.C_drew ?_))); (case side4 => exact (Kd.R_reads' HO_6.out).2.1); rintro e w' ⟨rfl, ⟨nd, rfl⟩⟩; (try first | exact ⟨rfl, _, World.drewN_drewN _ _ _⟩ | exact ⟨rfl, _, Eq.trans (World.drewN_drewN _ _ _) (congrArg (World.drewN _) (Nat.add_assoc _ _ _))⟩))))
      go_ret
      exact ⟨by first | rfl | (simp [errW_none, errW_some] <;> rfl) | (simp [*, errW_none, errW_some] <;> rfl), by repeat (first | (with_reducible first | exact HB.out | apply below_alloc | apply pw_below_drewN | apply below_drew1 | refine below_set ?_ GE452.out) | exact HB.out)⟩
     ·
      rw [if_neg c22] at H
      have c22b0 : (t456 == t460) = false := by simpa using c22
      (try (have c22b1 : decide (t456 = t460) = false := by simpa using c22))
      (try (have c22b2 : (t456 == t460) = false := by simpa using c22))
      (try (have c22b3 : ¬ (t456 = t460) := by simpa using c22))
      clear c22
      obtain rfl := Option.some.inj H
      go_wp2
      repeat (go_quiet (fail); try go_wp2)
      go_ret
      exact ⟨by first | rfl | (simp [errW_none, errW_some] <;> rfl) | (simp [*, errW_none, errW_some] <;> rfl), by repeat (first | (with_reducible first | exact HB.out | apply below_alloc | apply pw_below_drewN | apply below_drew1 | refine below_set ?_ GE452.out) | exact HB.out)⟩
    ·
     replace c21 := Bool.eq_false_iff.mpr c21
     subst c21
     have H1 : ((impl_TreeLabels.f kj5 t448 t449).bind fun bt463 => (if 0 < (bt463.1.length : Int) then (laws_FnNext.l0 kj5 t453 bt463.1 bt463.2 (t453.length : Int) (rd bt463.1 0) 0) else (none))) = some r := by rw [if_neg (show ¬ (false = true) by decide)] at H; exact H
     clear H
     have H := H1
     clear H1
     replace H := Option.bind_eq_some_iff.mp H
     obtain ⟨⟨t463, t466⟩, A260, H⟩ := H
     replace H : (if 0 < (t463.length : Int) then (laws_FnNext.l0 kj5 t453 t463 t466 (t453.length : Int) (rd t463 0) 0) else (none)) = some r := H
     have A26 := Aside0.mk A260
     clear A260
     by_cases c27 : 0 < (t463.length : Int)
     ·
      rw [if_pos c27] at H
      have c27b0 : decide (0 < (t463.length : Int)) = true := decide_eq_true c27
      have c27b1 : decide (0 < t463.length) = true := decide_eq_true (by omega)
      clear c27
      have H' := Aside0.mk H
      clear H
      have hcz28_0 : wc.cell? ⟨gb452, 0, none⟩ = some (.string t448) := (blk_cell BK452.out 0).trans rfl
      have hcz28_1 : wc.cell? ⟨gb452, 1, none⟩ = some (.slice Ao10 t449.length co10) := (blk_cell BK452.out 1).trans rfl
      have hfz28_0 := blk_frozen BK452.out 0
      have hfz28_1 := blk_frozen BK452.out 1
      go_wp2_with (first | (go_at_call 36; (with_reducible refine (impl_TreeLabels.calls kj5 t448 _ _ t449 t463 t466 _ ?side1 ?side2 A26.out).mono ?_); (case side1 => repeat (first | exact (Kd.Q_reads' HO_453001.out).2.2 | (with_reducible refine Kd.C_alloc ?_ _) | (with_reducible refine Kd.C_drewN ?_ _) | (with_reducible refine Kd.C_drew ?_))); (case side2 => exact (Kd.Q_reads' HO_453001.out).2.1); rintro e w29 ⟨v464, rfl, ho0, hb⟩; have n0_ := Aside0.mk (Kd.R_elder' (by (with_reducible repeat (first | apply Kd.R_alloc | apply Kd.R_drewN | apply Kd.R_drew)); exact HO_4.out) (Kd.R_base ho0) hb); have n1_ := Aside0.mk (Kd.R_elder' (by (with_reducible repeat (first | apply Kd.R_alloc | apply Kd.R_drewN | apply Kd.R_drew)); exact HO_6.out) (Kd.R_base ho0) hb); have n2_ := Aside0.mk (Kd.Q_elder' (by (with_reducible repeat (first | apply Kd.Q_alloc | apply Kd.Q_drewN | apply Kd.Q_drew)); exact HO_453001.out) (Kd.R_base ho0) hb); have n3_ := Aside0.mk (Kd.R_lower (Kd.R_new' (Kd.R_new' (Kd.R_new' ho0 (Kd.R_lt (by (with_reducible repeat (first | apply Kd.R_alloc | apply Kd.R_drewN | apply Kd.R_drew)); exact HO_4.out))) (Kd.R_lt (by (with_reducible repeat (first | apply Kd.R_alloc | apply Kd.R_drewN | apply Kd.R_drew)); exact HO_6.out))) (Kd.Q_lt (by (with_reducible repeat (first | apply Kd.Q_alloc | apply Kd.Q_drewN | apply Kd.Q_drew)); exact HO_453001.out))) (below_size (by repeat (first | (with_reducible first | exact HB.out | apply below_alloc | apply pw_below_drewN | apply below_drew1 | refine below_set ?_ GE452.out) | exact HB.out)))); have n4_ := Aside0.mk (blk_below (g := gb452) (o := .cells #[.string t448, .slice Ao10 t449.length co10] 35 (0, 0)) (by (with_reducible repeat (first | refine blk_drewN ?_ _ | refine blk_drew ?_ | refine blk_alloc ?_ _)); exact BK452.out) hb); have n5_ := Aside0.mk (below_step (by repeat (first | (with_reducible first | exact HB.out | apply below_alloc | apply pw_below_drewN | apply below_drew1 | refine below_set ?_ GE452.out) | exact HB.out)) hb); clear HO_4; clear HO_6; clear HO_453001; clear BK452; clear HB; have HO_4 := n0_; have HO_6 := n1_; have HO_453001 := n2_; have HO465 := n3_; have BK452 := n4_; have HB := n5_; clear n0_ n1_ n2_ n3_ n4_ n5_; (try clear hb); (try clear hb2); (try clear hk); (try clear hi); (try clear ho0); obtain ⟨Ao30, co30, eo30⟩ := Kd.R_slice HO_4.out; subst eo30; obtain ⟨Ao31, co31, eo31⟩ := Kd.R_slice HO465.out; subst eo31; have p467 : 0 ≤ (0 : Int) := (by omega); have q467 : 0 < (t463.length : Int) := of_decide_eq_true (by first | (with_reducible assumption) | assumption); obtain ⟨ad467, e467, hx467_0⟩ := Kd.at_int (Kd.R_reads' HO465.out).2.2 0 p467 q467; cases e467; have qi467 : (0 < t463.length) = True := eq_true (by omega); (try rw [show ((0 : Int)).toNat = 0 from rfl] at hx467_0); (try rw [Addr.add_zero'] at hx467_0); replace p467 := eq_true p467; replace q467 := eq_true q467))
      repeat (go_quiet (first | (go_at_call 36; (try simp only [Go.IntWalk.i64_left]); (with_reducible refine (impl_TreeLabels.calls kj5 t448 _ _ t449 t463 t466 _ ?side1 ?side2 A26.out).mono ?_); (case side1 => repeat (first | exact (Kd.Q_reads' HO_453001.out).2.2 | (with_reducible refine Kd.C_alloc ?_ _) | (with_reducible refine Kd.C_drewN ?_ _) | (with_reducible refine Kd.C_drew ?_))); (case side2 => exact (Kd.Q_reads' HO_453001.out).2.1); rintro e w29 ⟨v464, rfl, ho0, hb⟩; have n0_ := Aside0.mk (Kd.R_elder' (by (with_reducible repeat (first | apply Kd.R_alloc | apply Kd.R_drewN | apply Kd.R_drew)); exact HO_4.out) (Kd.R_base ho0) hb); have n1_ := Aside0.mk (Kd.R_elder' (by (with_reducible repeat (first | apply Kd.R_alloc | apply Kd.R_drewN | apply Kd.R_drew)); exact HO_6.out) (Kd.R_base ho0) hb); have n2_ := Aside0.mk (Kd.Q_elder' (by (with_reducible repeat (first | apply Kd.Q_alloc | apply Kd.Q_drewN | apply Kd.Q_drew)); exact HO_453001.out) (Kd.R_base ho0) hb); have n3_ := Aside0.mk (Kd.R_lower (Kd.R_new' (Kd.R_new' (Kd.R_new' ho0 (Kd.R_lt (by (with_reducible repeat (first | apply Kd.R_alloc | apply Kd.R_drewN | apply Kd.R_drew)); exact HO_4.out))) (Kd.R_lt (by (with_reducible repeat (first | apply Kd.R_alloc | apply Kd.R_drewN | apply Kd.R_drew)); exact HO_6.out))) (Kd.Q_lt (by (with_reducible repeat (first | apply Kd.Q_alloc | apply Kd.Q_drewN | apply Kd.Q_drew)); exact HO_453001.out))) (below_size (by repeat (first | (with_reducible first | exact HB.out | apply below_alloc | apply pw_below_drewN | apply below_drew1 | refine below_set ?_ GE452.out) | exact HB.out)))); have n4_ := Aside0.mk (blk_below (g := gb452) (o := .cells #[.string t448, .slice Ao10 t449.length co10] 35 (0, 0)) (by (with_reducible repeat (first | refine blk_drewN ?_ _ | refine blk_drew ?_ | refine blk_alloc ?_ _)); exact BK452.out) hb); have n5_ := Aside0.mk (below_step (by repeat (first | (with_reducible first | exact HB.out | apply below_alloc | apply pw_below_drewN | apply below_drew1 | refine below_set ?_ GE452.out) | exact HB.out)) hb); clear HO_4; clear HO_6; clear HO_453001; clear BK452; clear HB; have HO_4 := n0_; have HO_6 := n1_; have HO_453001 := n2_; have HO465 := n3_; have BK452 := n4_; have HB := n5_; clear n0_ n1_ n2_ n3_ n4_ n5_; (try clear hb); (try clear hb2); (try clear hk); (try clear hi); (try clear ho0); obtain ⟨Ao30, co30, eo30⟩ := Kd.R_slice HO_4.out; subst eo30; obtain ⟨Ao31, co31, eo31⟩ := Kd.R_slice HO465.out; subst eo31; have p467 : 0 ≤ (0 : Int) := (by omega); have q467 : 0 < (t463.length : Int) := of_decide_eq_true (by first | (with_reducible assumption) | assumption); obtain ⟨ad467, e467, hx467_0⟩ := Kd.at_int (Kd.R_reads' HO465.out).2.2 0 p467 q467; cases e467; have qi467 : (0 < t463.length) = True := eq_true (by omega); (try rw [show ((0 : Int)).toNat = 0 from rfl] at hx467_0); (try rw [Addr.add_zero'] at hx467_0); replace p467 := eq_true p467; replace q467 := eq_true q467)); try go_wp2_with (first | (go_at_call 36; (try simp only [Go.IntWalk.i64_left]); (with_reducible refine (impl_TreeLabels.calls kj5 t448 _ _ t449 t463 t466 _ ?side1 ?side2 A26.out).mono ?_); (case side1 => repeat (first | exact (Kd.Q_reads' HO_453001.out).2.2 | (with_reducible refine Kd.C_alloc ?_ _) | (with_reducible refine Kd.C_drewN ?_ _) | (with_reducible refine Kd.C_drew ?_))); (case side2 => exact (Kd.Q_reads' HO_453001.out).2.1); rintro e w29 ⟨v464, rfl, ho0, hb⟩; have n0_ := Aside0.mk (Kd.R_elder' (by (with_reducible repeat (first | apply Kd.R_alloc | apply Kd.R_drewN | apply Kd.R_drew)); exact HO_4.out) (Kd.R_base ho0) hb); have n1_ := Aside0.mk (Kd.R_elder' (by (with_reducible repeat (first | apply Kd.R_alloc | apply Kd.R_drewN | apply Kd.R_drew)); exact HO_6.out) (Kd.R_base ho0) hb); have n2_ := Aside0.mk (Kd.Q_elder' (by (with_reducible repeat (first | apply Kd.Q_alloc | apply Kd.Q_drewN | apply Kd.Q_drew)); exact HO_453001.out) (Kd.R_base ho0) hb); have n3_ := Aside0.mk (Kd.R_lower (Kd.R_new' (Kd.R_new' (Kd.R_new' ho0 (Kd.R_lt (by (with_reducible repeat (first | apply Kd.R_alloc | apply Kd.R_drewN | apply Kd.R_drew)); exact HO_4.out))) (Kd.R_lt (by (with_reducible repeat (first | apply Kd.R_alloc | apply Kd.R_drewN | apply Kd.R_drew)); exact HO_6.out))) (Kd.Q_lt (by (with_reducible repeat (first | apply Kd.Q_alloc | apply Kd.Q_drewN | apply Kd.Q_drew)); exact HO_453001.out))) (below_size (by repeat (first | (with_reducible first | exact HB.out | apply below_alloc | apply pw_below_drewN | apply below_drew1 | refine below_set ?_ GE452.out) | exact HB.out)))); have n4_ := Aside0.mk (blk_below (g := gb452) (o := .cells #[.string t448, .slice Ao10 t449.length co10] 35 (0, 0)) (by (with_reducible repeat (first | refine blk_drewN ?_ _ | refine blk_drew ?_ | refine blk_alloc ?_ _)); exact BK452.out) hb); have n5_ := Aside0.mk (below_step (by repeat (first | (with_reducible first | exact HB.out | apply below_alloc | apply pw_below_drewN | apply below_drew1 | refine below_set ?_ GE452.out) | exact HB.out)) hb); clear HO_4; clear HO_6; clear HO_453001; clear BK452; clear HB; have HO_4 := n0_; have HO_6 := n1_; have HO_453001 := n2_; have HO465 := n3_; have BK452 := n4_; have HB := n5_; clear n0_ n1_ n2_ n3_ n4_ n5_; (try clear hb); (try clear hb2); (try clear hk); (try clear hi); (try clear ho0); obtain ⟨Ao30, co30, eo30⟩ := Kd.R_slice HO_4.out; subst eo30; obtain ⟨Ao31, co31, eo31⟩ := Kd.R_slice HO465.out; subst eo31; have p467 : 0 ≤ (0 : Int) := (by omega); have q467 : 0 < (t463.length : Int) := of_decide_eq_true (by first | (with_reducible assumption) | assumption); obtain ⟨ad467, e467, hx467_0⟩ := Kd.at_int (Kd.R_reads' HO465.out).2.2 0 p467 q467; cases e467; have qi467 : (0 < t463.length) = True := eq_true (by omega); (try rw [show ((0 : Int)).toNat = 0 from rfl] at hx467_0); (try rw [Addr.add_zero'] at hx467_0); replace p467 := eq_true p467; replace q467 := eq_true q467)))
      go_loopg [11, 12] kj5 (fun kq v11 v12 w' => ∃ (x11_2 : Int) (x12_2 : Int), v11 = .int .i64 x11_2 ∧ v12 = .int .i64 x12_2 ∧ Aside0 (laws_FnNext.l0 kq t453 t463 t466 (t453.length : Int) x11_2 x12_2 = some r) ∧ Aside0 (kq ≤ kj5) ∧ Aside0 (Kd.R (Kd.int .i64) 3 w' w.heap.size (fun k_ => some k_ ≠ ((.slice (some ad467) t463.length co31) : Value).ownBlock ∧ some k_ ≠ ((.slice Ao10 t449.length co10) : Value).ownBlock) (.slice Ao30 t453.length co30) t453) ∧ Aside0 (Kd.R (Kd.int .i64) 3 w' w.heap.size (fun k_ => some k_ ≠ ((.slice Ao30 t453.length co30) : Value).ownBlock ∧ some k_ ≠ ((.slice Ao10 t449.length co10) : Value).ownBlock) (.slice (some ad467) t463.length co31) t463) ∧ Aside0 (Kd.Q (Kd.int .i64) 3 w' w.heap.size (fun k_ => some k_ ≠ ((.slice Ao30 t453.length co30) : Value).ownBlock ∧ some k_ ≠ ((.slice (some ad467) t463.length co31) : Value).ownBlock) (.slice Ao10 t449.length co10) t449) ∧ Aside0 (w'.heap[gb452]? = some (.cells #[.string t448, (.slice Ao10 t449.length co10)] 35 (0, 0))) ∧ Aside0 (Below w.heap.size w w'))
      case atStart => exact ⟨(rd t463 0), (0), (by first | rfl | (simp; done) | (simp [*]; done)), (by first | rfl | (simp; done) | (simp [*]; done)), H', ⟨Nat.le_refl _⟩, ⟨by (with_reducible repeat (first | apply Kd.R_alloc | apply Kd.R_drewN | apply Kd.R_drew)); exact Kd.R_mono HO_4.out (fun _ hk => ⟨hk.2, hk.1.2⟩)⟩, ⟨by (with_reducible repeat (first | apply Kd.R_alloc | apply Kd.R_drewN | apply Kd.R_drew)); exact Kd.R_mono HO465.out (fun _ hk => ⟨hk.1.1.2, hk.2⟩)⟩, ⟨by (with_reducible repeat (first | apply Kd.Q_alloc | apply Kd.Q_drewN | apply Kd.Q_drew)); exact Kd.Q_mono HO_453001.out (fun _ hk => ⟨hk.1.1, hk.2⟩)⟩, ⟨by (with_reducible repeat (first | refine blk_drewN ?_ _ | refine blk_drew ?_ | refine blk_alloc ?_ _)); exact BK452.out⟩, ⟨by repeat (first | (with_reducible first | exact HB.out | apply below_alloc | apply pw_below_drewN | apply below_drew1 | refine below_set ?_ GE452.out) | exact HB.out)⟩⟩
      case round =>
       clear H'
       try clear c1
       try clear c2
       try clear c2b0
       try clear c2b1
       try clear p2
       try clear p4
       try clear q4
       try clear hx4
       try clear qi4
       try clear c12
       try clear c14
       try clear c14b0
       try clear c14b1
       try clear c14b2
       try clear c16
       try clear c21
       try clear c22
       try clear c22b0
       try clear c22b1
       try clear c22b2
       try clear c27
       try clear c27b0
       try clear c27b1
       try clear hcz12_0
       try clear hcz12_1
       try clear hcz28_0
       try clear hcz28_1
       try clear hcz9_0
       try clear hcz9_1
       try clear hfz12_0
       try clear hfz12_1
       try clear hfz28_0
       try clear hfz28_1
       try clear hfz9_0
       try clear hfz9_1
       try clear hx467_0
       try clear p2
       try clear p467
       try clear q467
       obtain ⟨x11_2, x12_2, rfl, rfl, HA, HK2, HO_4, HO_8, HO_453001, BK452, HB⟩ := hrel
       cases gk with
       | zero => exact absurd HA.out (by simp [laws_FnNext.l0])
       | succ k2 =>
        have H := HA.out
        clear HA
        simp only [laws_FnNext.l0] at H
        by_cases c32 : x12_2 < (t453.length : Int)
        ·
         rw [if_pos c32] at H
         have c32b0 : decide (x12_2 < (t453.length : Int)) = true := decide_eq_true c32
         clear c32
         by_cases c33 : 0 ≤ x12_2
         ·
          rw [if_pos c33] at H
          have c33b0 : decide (0 ≤ x12_2) = true := decide_eq_true c33
          clear c33
          by_cases c34 : x12_2 < (t463.length : Int)
          ·
           rw [if_pos c34] at H
           have c34b0 : decide (x12_2 < (t463.length : Int)) = true := decide_eq_true c34
           clear c34
           obtain ⟨ji35, hji35⟩ : ∃ j_ : Int, (mn x11_2 (rd t463 x12_2)) = j_ := ⟨_, rfl⟩
           replace H : (laws_FnNext.l0 k2 t453 t463 t466 (t453.length : Int) ji35 (wrap64 (x12_2 + 1))) = some r := by first | (rw [hji35] at H; exact H) | (simp only [hji35] at H ⊢; exact H)
           have hji35_ : (if (rd t463 x12_2) < x11_2 then (rd t463 x12_2) else x11_2) = ji35 := hji35
           have H' := Aside0.mk H
           clear H
           have p468 : 0 ≤ (x12_2 : Int) := of_decide_eq_true (by first | (with_reducible assumption) | assumption)
           have q468 : x12_2 < (t463.length : Int) := of_decide_eq_true (by first | (with_reducible assumption) | assumption)
           obtain ⟨ad468, e468, hx468_0⟩ := Kd.at_int (Kd.R_reads' HO_8.out).2.2 x12_2 p468 q468
           obtain rfl : ad467 = ad468 := (by injection e468)
           replace p468 := eq_true p468
           replace q468 := eq_true q468
           go_wp2
           repeat (go_quiet (fail); try go_wp2)
           (first | go_roundg k2 | (refine Handed.intro k2 ?measure ?_; rotate_left; go_step; (try simp only [add_plain]); (repeat apply Exists.intro); refine ⟨?rel, rfl⟩))
           case measure => have := HJ5.out; have := HK2.out; omega
           case rel => exact ⟨(ji35), (wrap64 (x12_2 + 1)), (by first | rfl | (simp; done) | (simp only [← hji35] <;> (first | rfl | simp)) | (simp [*]; done)), (by first | rfl | (simp; done) | (simp [*]; done)), H', ⟨by have := HJ5.out; have := HK2.out; omega⟩, ⟨by (with_reducible repeat (first | apply Kd.R_alloc | apply Kd.R_drewN | apply Kd.R_drew)); exact HO_4.out⟩, ⟨by (with_reducible repeat (first | apply Kd.R_alloc | apply Kd.R_drewN | apply Kd.R_drew)); exact HO_8.out⟩, ⟨by (with_reducible repeat (first | apply Kd.Q_alloc | apply Kd.Q_drewN | apply Kd.Q_drew)); exact HO_453001.out⟩, ⟨by (with_reducible repeat (first | refine blk_drewN ?_ _ | refine blk_drew ?_ | refine blk_alloc ?_ _)); exact BK452.out⟩, ⟨by repeat (first | (with_reducible first | exact HB.out | apply below_alloc | apply pw_below_drewN | apply below_drew1 | refine below_set ?_ GE452.out) | exact HB.out)⟩⟩
          ·
           rw [if_neg c34] at H
           exact absurd H (by simp)
         ·
          rw [if_neg c33] at H
          exact absurd H (by simp)
        ·
         rw [if_neg c32] at H
         have c32b0 : decide (x12_2 < (t453.length : Int)) = false := decide_eq_false c32
         clear c32
         have H' := Aside0.mk H
         clear H
         go_wp2
         repeat (go_quiet (fail); try go_wp2)
         go_loopg [13] k2 (fun kq v13 w' => ∃ (x13_3 : Int), v13 = .int .i64 x13_3 ∧ Aside0 (laws_FnNext.l1 kq t453 t463 t466 (t453.length : Int) x11_2 x13_3 = some r) ∧ Aside0 (kq ≤ k2) ∧ Aside0 (Kd.R (Kd.int .i64) 3 w' w.heap.size (fun k_ => some k_ ≠ ((.slice (some ad467) t463.length co31) : Value).ownBlock ∧ some k_ ≠ ((.slice Ao10 t449.length co10) : Value).ownBlock) (.slice Ao30 t453.length co30) t453) ∧ Aside0 (Kd.R (Kd.int .i64) 3 w' w.heap.size (fun k_ => some k_ ≠ ((.slice Ao30 t453.length co30) : Value).ownBlock ∧ some k_ ≠ ((.slice Ao10 t449.length co10) : Value).ownBlock) (.slice (some ad467) t463.length co31) t463) ∧ Aside0 (Kd.Q (Kd.int .i64) 3 w' w.heap.size (fun k_ => some k_ ≠ ((.slice Ao30 t453.length co30) : Value).ownBlock ∧ some k_ ≠ ((.slice (some ad467) t463.length co31) : Value).ownBlock) (.slice Ao10 t449.length co10) t449) ∧ Aside0 (w'.heap[gb452]? = some (.cells #[.string t448, (.slice Ao10 t449.length co10)] 35 (0, 0))) ∧ Aside0 (Below w.heap.size w w'))
         case atStart => exact ⟨(0), (by first | rfl | (simp; done) | (simp [*]; done)), H', ⟨Nat.le_refl _⟩, ⟨by (with_reducible repeat (first | apply Kd.R_alloc | apply Kd.R_drewN | apply Kd.R_drew)); exact HO_4.out⟩, ⟨by (with_reducible repeat (first | apply Kd.R_alloc | apply Kd.R_drewN | apply Kd.R_drew)); exact HO_8.out⟩, ⟨by (with_reducible repeat (first | apply Kd.Q_alloc | apply Kd.Q_drewN | apply Kd.Q_drew)); exact HO_453001.out⟩, ⟨by (with_reducible repeat (first | refine blk_drewN ?_ _ | refine blk_drew ?_ | refine blk_alloc ?_ _)); exact BK452.out⟩, ⟨by repeat (first | (with_reducible first | exact HB.out | apply below_alloc | apply pw_below_drewN | apply below_drew1 | refine below_set ?_ GE452.out) | exact HB.out)⟩⟩
         case round =>
          clear H'
          try clear c1
          try clear c2
          try clear c2b0
          try clear c2b1
          try clear p2
          try clear c3
          try clear p4
          try clear q4
          try clear hx4
          try clear qi4
          try clear p6
          try clear c12
          try clear c14
          try clear c14b0
          try clear c14b1
          try clear c14b2
          try clear c16
          try clear c21
          try clear c22
          try clear c22b0
          try clear c22b1
          try clear c22b2
          try clear c27
          try clear c27b0
          try clear c27b1
          try clear c32
          try clear c32b0
          try clear c33
          try clear c33b0
          try clear c34
          try clear c34b0
          try clear hcz12_0
          try clear hcz12_1
          try clear hcz28_0
          try clear hcz28_1
          try clear hcz9_0
          try clear hcz9_1
          try clear hfz12_0
          try clear hfz12_1
          try clear hfz28_0
          try clear hfz28_1
          try clear hfz9_0
          try clear hfz9_1
          try clear hx467_0
          try clear hx468_0
          try clear p2
          try clear p4
          try clear p467
          try clear p468
          try clear q4
          try clear q467
          try clear q468
          obtain ⟨x13_3, rfl, HA, HK3, HO_4, HO_8, HO_453001, BK452, HB⟩ := hrel
          cases gk with
          | zero => exact absurd HA.out (by simp [laws_FnNext.l1])
          | succ k3 =>
           have H := HA.out
           clear HA
           simp only [laws_FnNext.l1] at H
           by_cases c36 : x13_3 < (t453.length : Int)
           ·
            rw [if_pos c36] at H
            have c36b0 : decide (x13_3 < (t453.length : Int)) = true := decide_eq_true c36
            clear c36
            by_cases c37 : 0 ≤ x13_3
            ·
             rw [if_pos c37] at H
             have c37b0 : decide (0 ≤ x13_3) = true := decide_eq_true c37
             clear c37
             by_cases c38 : x13_3 < (t453.length : Int)
             ·
              rw [if_pos c38] at H
              have c38b0 : decide (x13_3 < (t453.length : Int)) = true := decide_eq_true c38
              clear c38
              by_cases c39 : x13_3 < (t463.length : Int)
              ·
               rw [if_pos c39] at H
               have c39b0 : decide (x13_3 < (t463.length : Int)) = true := decide_eq_true c39
               clear c39
               by_cases c40 : (((rd t453 x13_3) == (-1)) != ((rd t463 x13_3) == x11_2)) = true
               ·
                rw [if_pos c40] at H
                have c40b0 : (((rd t453 x13_3) == (-1)) != ((rd t463 x13_3) == x11_2)) = true := c40
                (try (have c40b1 : decide (((rd t453 x13_3) == (-1)) = ((rd t463 x13_3) == x11_2)) = false := by simpa using c40))
                (try (have c40b2 : (((rd t453 x13_3) == (-1)) == ((rd t463 x13_3) == x11_2)) = false := by simpa using c40))
                (try (have c40b3 : ¬ (((rd t453 x13_3) == (-1)) = ((rd t463 x13_3) == x11_2)) := by simpa using c40))
                clear c40
                obtain rfl := Option.some.inj H
                have p469 : 0 ≤ (x13_3 : Int) := of_decide_eq_true (by first | (with_reducible assumption) | assumption)
                have q469 : x13_3 < (t453.length : Int) := of_decide_eq_true (by first | (with_reducible assumption) | assumption)
                obtain ⟨ad469, e469, hx469_0⟩ := Kd.at_int (Kd.R_reads' HO_4.out).2.2 x13_3 p469 q469
                cases e469
                replace p469 := eq_true p469
                replace q469 := eq_true q469
                have p470 : 0 ≤ (x13_3 : Int) := of_decide_eq_true (by first | (with_reducible assumption) | assumption)
                have q470 : x13_3 < (t463.length : Int) := of_decide_eq_true (by first | (with_reducible assumption) | assumption)
                obtain ⟨ad470, e470, hx470_0⟩ := Kd.at_int (Kd.R_reads' HO_8.out).2.2 x13_3 p470 q470
                obtain rfl : ad467 = ad470 := (by injection e470)
                replace p470 := eq_true p470
                replace q470 := eq_true q470
                go_wp2
                repeat (go_quiet (fail); try go_wp2)
                go_ret
                exact ⟨by first | rfl | (simp [errW_none, errW_some] <;> rfl) | (simp [*, errW_none, errW_some] <;> rfl), by repeat (first | (with_reducible first | exact HB.out | apply below_alloc | apply pw_below_drewN | apply below_drew1 | refine below_set ?_ GE452.out) | exact HB.out)⟩
               ·
                rw [if_neg c40] at H
                have c40b0 : (((rd t453 x13_3) == (-1)) != ((rd t463 x13_3) == x11_2)) = false := by simpa using c40
                (try (have c40b1 : decide (((rd t453 x13_3) == (-1)) = ((rd t463 x13_3) == x11_2)) = true := by simpa using c40))
                (try (have c40b2 : (((rd t453 x13_3) == (-1)) == ((rd t463 x13_3) == x11_2)) = true := by simpa using c40))
                clear c40
                by_cases c41 : (t453.length : Int) = 0
                ·
                 rw [if_pos c41] at H
                 exact absurd H (by simp)
                ·
                 rw [if_neg c41] at H
                 have c41b0 : ((t453.length : Int) == 0) = false := beq_eq_false_iff_ne.mpr c41
                 have c41b1 : ((t453.length : Int) != 0) = true := bne_iff_ne.mpr c41
                 have c41b2 : ¬ (t453 = []) := fun h_ => c41 (by rw [h_]; rfl)
                 have H' := Aside0.mk H
                 clear H
                 have p469 : 0 ≤ (x13_3 : Int) := of_decide_eq_true (by first | (with_reducible assumption) | assumption)
                 have q469 : x13_3 < (t453.length : Int) := of_decide_eq_true (by first | (with_reducible assumption) | assumption)
                 obtain ⟨ad469, e469, hx469_0⟩ := Kd.at_int (Kd.R_reads' HO_4.out).2.2 x13_3 p469 q469
                 cases e469
                 replace p469 := eq_true p469
                 replace q469 := eq_true q469
                 have p470 : 0 ≤ (x13_3 : Int) := of_decide_eq_true (by first | (with_reducible assumption) | assumption)
                 have q470 : x13_3 < (t463.length : Int) := of_decide_eq_true (by first | (with_reducible assumption) | assumption)
                 obtain ⟨ad470, e470, hx470_0⟩ := Kd.at_int (Kd.R_reads' HO_8.out).2.2 x13_3 p470 q470
                 obtain rfl : ad467 = ad470 := (by injection e470)
                 replace p470 := eq_true p470
                 replace q470 := eq_true q470
                 go_wp2
                 repeat (go_quiet (fail); try go_wp2)
                 go_loopg [14] k3 (fun kq v14 w' => ∃ (x14_4 : Int), v14 = .int .i64 x14_4 ∧ Aside0 (laws_FnNext.l2 kq t453 t463 t466 (t453.length : Int) x11_2 x13_3 x14_4 = some r) ∧ Aside0 (kq ≤ k3) ∧ Aside0 (Kd.R (Kd.int .i64) 3 w' w.heap.size (fun k_ => some k_ ≠ ((.slice (some ad467) t463.length co31) : Value).ownBlock ∧ some k_ ≠ ((.slice Ao10 t449.length co10) : Value).ownBlock) (.slice (some ad469) t453.length co30) t453) ∧ Aside0 (Kd.R (Kd.int .i64) 3 w' w.heap.size (fun k_ => some k_ ≠ ((.slice (some ad469) t453.length co30) : Value).ownBlock ∧ some k_ ≠ ((.slice Ao10 t449.length co10) : Value).ownBlock) (.slice (some ad467) t463.length co31) t463) ∧ Aside0 (Kd.Q (Kd.int .i64) 3 w' w.heap.size (fun k_ => some k_ ≠ ((.slice (some ad469) t453.length co30) : Value).ownBlock ∧ some k_ ≠ ((.slice (some ad467) t463.length co31) : Value).ownBlock) (.slice Ao10 t449.length co10) t449) ∧ Aside0 (w'.heap[gb452]? = some (.cells #[.string t448, (.slice Ao10 t449.length co10)] 35 (0, 0))) ∧ Aside0 (Below w.heap.size w w'))
                 case atStart => exact ⟨(Int.tmod (wrap64 (x13_3 + 1)) (t453.length : Int)), (by first | rfl | (simp; done) | (simp [*]; done)), H', ⟨Nat.le_refl _⟩, ⟨by (with_reducible repeat (first | apply Kd.R_alloc | apply Kd.R_drewN | apply Kd.R_drew)); exact HO_4.out⟩, ⟨by (with_reducible repeat (first | apply Kd.R_alloc | apply Kd.R_drewN | apply Kd.R_drew)); exact HO_8.out⟩, ⟨by (with_reducible repeat (first | apply Kd.Q_alloc | apply Kd.Q_drewN | apply Kd.Q_drew)); exact HO_453001.out⟩, ⟨by (with_reducible repeat (first | refine blk_drewN ?_ _ | refine blk_drew ?_ | refine blk_alloc ?_ _)); exact BK452.out⟩, ⟨by repeat (first | (with_reducible first | exact HB.out | apply below_alloc | apply pw_below_drewN | apply below_drew1 | refine below_set ?_ GE452.out) | exact HB.out)⟩⟩
                 case round =>
                  clear H'
                  try clear c1
                  try clear c2
                  try clear c2b0
                  try clear c2b1
                  try clear p2
                  try clear c3
                  try clear c4
                  try clear p4
                  try clear q4
                  try clear hx4
                  try clear qi4
                  try clear p6
                  try clear c12
                  try clear c14
                  try clear c14b0
                  try clear c14b1
                  try clear c14b2
                  try clear c16
                  try clear c21
                  try clear c22
                  try clear c22b0
                  try clear c22b1
                  try clear c22b2
                  try clear c27
                  try clear c27b0
                  try clear c27b1
                  try clear c32
                  try clear c32b0
                  try clear c33
                  try clear c33b0
                  try clear c34
                  try clear c34b0
                  try clear c36
                  try clear c36b0
                  try clear c37
                  try clear c37b0
                  try clear c38
                  try clear c38b0
                  try clear c39
                  try clear c39b0
                  try clear c40
                  try clear c40b0
                  try clear c40b1
                  try clear c40b2
                  try clear c41
                  try clear c41b0
                  try clear c41b1
                  try clear c41b2
                  try clear hcz12_0
                  try clear hcz12_1
                  try clear hcz28_0
                  try clear hcz28_1
                  try clear hcz9_0
                  try clear hcz9_1
                  try clear hfz12_0
                  try clear hfz12_1
                  try clear hfz28_0
                  try clear hfz28_1
                  try clear hfz9_0
                  try clear hfz9_1
                  try clear hx467_0
                  try clear hx468_0
                  try clear hx469_0
                  try clear hx470_0
                  try clear p2
                  try clear p4
                  try clear p467
                  try clear p468
                  try clear p469
                  try clear p470
                  try clear p6
                  try clear q4
                  try clear q467
                  try clear q468
                  try clear q469
                  try clear q470
                  obtain ⟨x14_4, rfl, HA, HK4, HO_4, HO_8, HO_453001, BK452, HB⟩ := hrel
                  cases gk with
                  | zero => exact absurd HA.out (by simp [laws_FnNext.l2])
                  | succ k4 =>
                   have H := HA.out
                   clear HA
                   simp only [laws_FnNext.l2] at H
                   have HC42 := Aside0.mk H
                   clear H
                   go_upto_region 21 with (fail)
                   repeat (go_quiet (fail); go_upto_region 21 with (fail))
                   go_cut [105] (fun v105 wc => ∃ (kq : Nat) (x105_41 : Bool), v105 = .bool x105_41 ∧ Aside0 (laws_FnNext.j4 kq t453 t463 t466 (t453.length : Int) x11_2 x13_3 x14_4 x105_41 = some r) ∧ Aside0 (kq ≤ k4) ∧ Aside0 (Kd.R (Kd.int .i64) 3 wc w.heap.size (fun k_ => some k_ ≠ ((.slice (some ad467) t463.length co31) : Value).ownBlock ∧ some k_ ≠ ((.slice Ao10 t449.length co10) : Value).ownBlock) (.slice (some ad469) t453.length co30) t453) ∧ Aside0 (Kd.R (Kd.int .i64) 3 wc w.heap.size (fun k_ => some k_ ≠ ((.slice (some ad469) t453.length co30) : Value).ownBlock ∧ some k_ ≠ ((.slice Ao10 t449.length co10) : Value).ownBlock) (.slice (some ad467) t463.length co31) t463) ∧ Aside0 (Kd.Q (Kd.int .i64) 3 wc w.heap.size (fun k_ => some k_ ≠ ((.slice (some ad469) t453.length co30) : Value).ownBlock ∧ some k_ ≠ ((.slice (some ad467) t463.length co31) : Value).ownBlock) (.slice Ao10 t449.length co10) t449) ∧ Aside0 (wc.heap[gb452]? = some (.cells #[.string t448, (.slice Ao10 t449.length co10)] 35 (0, 0))) ∧ Aside0 (Below w.heap.size w wc))
                   case first =>
                    have H := HC42.out
                    clear HC42
                    by_cases c43 : 0 ≤ x13_3
                    ·
                     rw [if_pos c43] at H
                     have c43b0 : decide (0 ≤ x13_3) = true := decide_eq_true c43
                     clear c43
                     (first | rw [c43b0] | (simp only [i64_w, i32_w]; rw [c43b0]) | skip)
                     by_cases c44 : x13_3 < (t453.length : Int)
                     ·
                      rw [if_pos c44] at H
                      have c44b0 : decide (x13_3 < (t453.length : Int)) = true := decide_eq_true c44
                      clear c44
                      by_cases c45 : (rd t453 x13_3) ≥ 0
                      ·
                       rw [if_pos c45] at H
                       have c45b0 : decide (0 ≤ (rd t453 x13_3)) = true := decide_eq_true c45
                       clear c45
                       have H' := Aside0.mk H
                       clear H
                       have p471 : 0 ≤ (x13_3 : Int) := of_decide_eq_true (by first | (with_reducible assumption) | assumption)
                       have q471 : x13_3 < (t453.length : Int) := of_decide_eq_true (by first | (with_reducible assumption) | assumption)
                       obtain ⟨ad471, e471, hx471_0⟩ := Kd.at_int (Kd.R_reads' HO_4.out).2.2 x13_3 p471 q471
                       obtain rfl : ad469 = ad471 := (by injection e471)
                       replace p471 := eq_true p471
                       replace q471 := eq_true q471
                       have p472 : 0 ≤ (x13_3 : Int) := of_decide_eq_true (by first | (with_reducible assumption) | assumption)
                       have q472 : x13_3 < (t453.length : Int) := of_decide_eq_true (by first | (with_reducible assumption) | assumption)
                       obtain ⟨ad472, e472, hx472_0⟩ := Kd.at_int (Kd.R_reads' HO_4.out).2.2 x13_3 p472 q472
                       obtain rfl : ad469 = ad472 := (by injection e472)
                       replace p472 := eq_true p472
                       replace q472 := eq_true q472
                       go_wp2
                       repeat (go_quiet (fail); try go_wp2)
                       go_meet
                       case rel => exact ⟨_, ((x14_4 != (rd t453 x13_3))), (by first | rfl | (simp; done) | (simp [*]; done)), H', ⟨by have := HJ5.out; have := HK2.out; have := HK3.out; have := HK4.out; first | omega | exact Nat.le_refl _⟩, ⟨by (with_reducible repeat (first | apply Kd.R_alloc | apply Kd.R_drewN | apply Kd.R_drew)); exact HO_4.out⟩, ⟨by (with_reducible repeat (first | apply Kd.R_alloc | apply Kd.R_drewN | apply Kd.R_drew)); exact HO_8.out⟩, ⟨by (with_reducible repeat (first | apply Kd.Q_alloc | apply Kd.Q_drewN | apply Kd.Q_drew)); exact HO_453001.out⟩, ⟨by (with_reducible repeat (first | refine blk_drewN ?_ _ | refine blk_drew ?_ | refine blk_alloc ?_ _)); exact BK452.out⟩, ⟨by repeat (first | (with_reducible first | exact HB.out | apply below_alloc | apply pw_below_drewN | apply below_drew1 | refine below_set ?_ GE452.out) | exact HB.out)⟩⟩
                      ·
                       rw [if_neg c45] at H
                       have c45b0 : decide (0 ≤ (rd t453 x13_3)) = false := decide_eq_false c45
                       clear c45
                       have H' := Aside0.mk H
                       clear H
                       have p471 : 0 ≤ (x13_3 : Int) := of_decide_eq_true (by first | (with_reducible assumption) | assumption)
                       have q471 : x13_3 < (t453.length : Int) := of_decide_eq_true (by first | (with_reducible assumption) | assumption)
                       obtain ⟨ad471, e471, hx471_0⟩ := Kd.at_int (Kd.R_reads' HO_4.out).2.2 x13_3 p471 q471
                       obtain rfl : ad469 = ad471 := (by injection e471)
                       replace p471 := eq_true p471
                       replace q471 := eq_true q471
                       go_wp2
                       repeat (go_quiet (fail); try go_wp2)
                       go_meet
                       case rel => exact ⟨_, (false), (by first | rfl | (simp; done) | (simp [*]; done)), H', ⟨by have := HJ5.out; have := HK2.out; have := HK3.out; have := HK4.out; first | omega | exact Nat.le_refl _⟩, ⟨by (with_reducible repeat (first | apply Kd.R_alloc | apply Kd.R_drewN | apply Kd.R_drew)); exact HO_4.out⟩, ⟨by (with_reducible repeat (first | apply Kd.R_alloc | apply Kd.R_drewN | apply Kd.R_drew)); exact HO_8.out⟩, ⟨by (with_reducible repeat (first | apply Kd.Q_alloc | apply Kd.Q_drewN | apply Kd.Q_drew)); exact HO_453001.out⟩, ⟨by (with_reducible repeat (first | refine blk_drewN ?_ _ | refine blk_drew ?_ | refine blk_alloc ?_ _)); exact BK452.out⟩, ⟨by repeat (first | (with_reducible first | exact HB.out | apply below_alloc | apply pw_below_drewN | apply below_drew1 | refine below_set ?_ GE452.out) | exact HB.out)⟩⟩
                     ·
                      rw [if_neg c44] at H
                      exact absurd H (by simp)
                    ·
                     rw [if_neg c43] at H
                     exact absurd H (by simp)
                   case rest =>
                    clear HC42
                    try clear c1
                    try clear c2
                    try clear c2b0
                    try clear c2b1
                    try clear p2
                    try clear c3
                    try clear c4
                    try clear p4
                    try clear q4
                    try clear hx4
                    try clear qi4
                    try clear p6
                    try clear c12
                    try clear c14
                    try clear c14b0
                    try clear c14b1
                    try clear c14b2
                    try clear c16
                    try clear c21
                    try clear c22
                    try clear c22b0
                    try clear c22b1
                    try clear c22b2
                    try clear c27
                    try clear c27b0
                    try clear c27b1
                    try clear c32
                    try clear c32b0
                    try clear c33
                    try clear c33b0
                    try clear c34
                    try clear c34b0
                    try clear c36
                    try clear c36b0
                    try clear c37
                    try clear c37b0
                    try clear c38
                    try clear c38b0
                    try clear c39
                    try clear c39b0
                    try clear c40
                    try clear c40b0
                    try clear c40b1
                    try clear c40b2
                    try clear c41
                    try clear c41b0
                    try clear c41b1
                    try clear c41b2
                    try clear c43
                    try clear c43b0
                    try clear c44
                    try clear c44b0
                    try clear c45
                    try clear c45b0
                    try clear hcz12_0
                    try clear hcz12_1
                    try clear hcz28_0
                    try clear hcz28_1
                    try clear hcz9_0
                    try clear hcz9_1
                    try clear hfz12_0
                    try clear hfz12_1
                    try clear hfz28_0
                    try clear hfz28_1
                    try clear hfz9_0
                    try clear hfz9_1
                    try clear hx467_0
                    try clear hx468_0
                    try clear hx469_0
                    try clear hx470_0
                    try clear hx471_0
                    try clear hx472_0
                    try clear p2
                    try clear p4
                    try clear p467
                    try clear p468
                    try clear p469
                    try clear p470
                    try clear p471
                    try clear p472
                    try clear p6
                    try clear q4
                    try clear q467
                    try clear q468
                    try clear q469
                    try clear q470
                    try clear q471
                    try clear q472
                    obtain ⟨kq, x105_41, rfl, HA, HJ41, HO_4, HO_8, HO_453001, BK452, HB⟩ := hcut
                    cases kq with
                    | zero => exact absurd HA.out (by simp [laws_FnNext.j4])
                    | succ kj41 =>
                     have H := HA.out
                     clear HA
                     simp only [laws_FnNext.j4] at H
                     by_cases c46 : x105_41 = true
                     ·
                      subst c46
                      have H1 : (if 0 ≤ x14_4 then (if x14_4 < (t463.length : Int) then (if 0 ≤ x13_3 then (if x13_3 < (t463.length : Int) then (if (rd t463 x14_4) < (rd t463 x13_3) then (some false) else (if (t453.length : Int) = 0 then (none) else (laws_FnNext.l2 kj41 t453 t463 t466 (t453.length : Int) x11_2 x13_3 (Int.tmod (wrap64 (x14_4 + 1)) (t453.length : Int))))) else (none)) else (none)) else (none)) else (none)) = some r := by rw [if_pos rfl] at H; exact H
                      clear H
                      have H := H1
                      clear H1
                      by_cases c47 : 0 ≤ x14_4
                      ·
                       rw [if_pos c47] at H
                       have c47b0 : decide (0 ≤ x14_4) = true := decide_eq_true c47
                       clear c47
                       by_cases c48 : x14_4 < (t463.length : Int)
                       ·
                        rw [if_pos c48] at H
                        have c48b0 : decide (x14_4 < (t463.length : Int)) = true := decide_eq_true c48
                        clear c48
                        by_cases c49 : 0 ≤ x13_3
                        ·
                         rw [if_pos c49] at H
                         have c49b0 : decide (0 ≤ x13_3) = true := decide_eq_true c49
                         clear c49
                         by_cases c50 : x13_3 < (t463.length : Int)
                         ·
                          rw [if_pos c50] at H
                          have c50b0 : decide (x13_3 < (t463.length : Int)) = true := decide_eq_true c50
                          clear c50
                          by_cases c51 : (rd t463 x14_4) < (rd t463 x13_3)
                          ·
                           rw [if_pos c51] at H
                           have c51b0 : decide ((rd t463 x14_4) < (rd t463 x13_3)) = true := decide_eq_true c51
                           clear c51
                           obtain rfl := Option.some.inj H
                           have p473 : 0 ≤ (x14_4 : Int) := of_decide_eq_true (by first | (with_reducible assumption) | assumption)
                           have q473 : x14_4 < (t463.length : Int) := of_decide_eq_true (by first | (with_reducible assumption) | assumption)
                           obtain ⟨ad473, e473, hx473_0⟩ := Kd.at_int (Kd.R_reads' HO_8.out).2.2 x14_4 p473 q473
                           obtain rfl : ad467 = ad473 := (by injection e473)
                           replace p473 := eq_true p473
                           replace q473 := eq_true q473
                           have p474 : 0 ≤ (x13_3 : Int) := of_decide_eq_true (by first | (with_reducible assumption) | assumption)
                           have q474 : x13_3 < (t463.length : Int) := of_decide_eq_true (by first | (with_reducible assumption) | assumption)
                           obtain ⟨ad474, e474, hx474_0⟩ := Kd.at_int (Kd.R_reads' HO_8.out).2.2 x13_3 p474 q474
                           obtain rfl : ad467 = ad474 := (by injection e474)
                           replace p474 := eq_true p474
                           replace q474 := eq_true q474
                           go_wp2
                           repeat (go_quiet (fail); try go_wp2)
                           go_ret
                           exact ⟨by first | rfl | (simp [errW_none, errW_some] <;> rfl) | (simp [*, errW_none, errW_some] <;> rfl), by repeat (first | (with_reducible first | exact HB.out | apply below_alloc | apply pw_below_drewN | apply below_drew1 | refine below_set ?_ GE452.out) | exact HB.out)⟩
                          ·
                           rw [if_neg c51] at H
                           have c51b0 : decide ((rd t463 x14_4) < (rd t463 x13_3)) = false := decide_eq_false c51
                           clear c51
                           by_cases c52 : (t453.length : Int) = 0
                           ·
                            rw [if_pos c52] at H
                            exact absurd H (by simp)
                           ·
                            rw [if_neg c52] at H
                            have c52b0 : ((t453.length : Int) == 0) = false := beq_eq_false_iff_ne.mpr c52
                            have c52b1 : ((t453.length : Int) != 0) = true := bne_iff_ne.mpr c52
                            have c52b2 : ¬ (t453 = []) := fun h_ => c52 (by rw [h_]; rfl)
                            have H' := Aside0.mk H
                            clear H
                            have p473 : 0 ≤ (x14_4 : Int) := of_decide_eq_true (by first | (with_reducible assumption) | assumption)
                            have q473 : x14_4 < (t463.length : Int) := of_decide_eq_true (by first | (with_reducible assumption) | assumption)
                            obtain ⟨ad473, e473, hx473_0⟩ := Kd.at_int (Kd.R_reads' HO_8.out).2.2 x14_4 p473 q473
                            obtain rfl : ad467 = ad473 := (by injection e473)
                            replace p473 := eq_true p473
                            replace q473 := eq_true q473
                            have p474 : 0 ≤ (x13_3 : Int) := of_decide_eq_true (by first | (with_reducible assumption) | assumption)
                            have q474 : x13_3 < (t463.length : Int) := of_decide_eq_true (by first | (with_reducible assumption) | assumption)
                            obtain ⟨ad474, e474, hx474_0⟩ := Kd.at_int (Kd.R_reads' HO_8.out).2.2 x13_3 p474 q474
                            obtain rfl : ad467 = ad474 := (by injection e474)
                            replace p474 := eq_true p474
                            replace q474 := eq_true q474
                            go_wp2
                            repeat (go_quiet (fail); try go_wp2)
                            (first | go_roundg kj41 | (refine Handed.intro kj41 ?measure ?_; rotate_left; go_step; (try simp only [add_plain]); (repeat apply Exists.intro); refine ⟨?rel, rfl⟩))
                            case measure => have := HJ5.out; have := HK2.out; have := HK3.out; have := HK4.out; have := HJ41.out; omega
                            case rel => exact ⟨(Int.tmod (wrap64 (x14_4 + 1)) (t453.length : Int)), (by first | rfl | (simp; done) | (simp [*]; done)), H', ⟨by have := HJ5.out; have := HK2.out; have := HK3.out; have := HK4.out; have := HJ41.out; omega⟩, ⟨by (with_reducible repeat (first | apply Kd.R_alloc | apply Kd.R_drewN | apply Kd.R_drew)); exact HO_4.out⟩, ⟨by (with_reducible repeat (first | apply Kd.R_alloc | apply Kd.R_drewN | apply Kd.R_drew)); exact HO_8.out⟩, ⟨by (with_reducible repeat (first | apply Kd.Q_alloc | apply Kd.Q_drewN | apply Kd.Q_drew)); exact HO_453001.out⟩, ⟨by (with_reducible repeat (first | refine blk_drewN ?_ _ | refine blk_drew ?_ | refine blk_alloc ?_ _)); exact BK452.out⟩, ⟨by repeat (first | (with_reducible first | exact HB.out | apply below_alloc | apply pw_below_drewN | apply below_drew1 | refine below_set ?_ GE452.out) | exact HB.out)⟩⟩
                         ·
                          rw [if_neg c50] at H
                          exact absurd H (by simp)
                        ·
                         rw [if_neg c49] at H
                         exact absurd H (by simp)
                       ·
                        rw [if_neg c48] at H
                        exact absurd H (by simp)
                      ·
                       rw [if_neg c47] at H
                       exact absurd H (by simp)
                     ·
                      replace c46 := Bool.eq_false_iff.mpr c46
                      subst c46
                      have H1 : (if 0 ≤ x13_3 then (if x13_3 < (t453.length : Int) then (if (rd t453 x13_3) ≥ 0 then (if 0 ≤ (rd t453 x13_3) then (if (rd t453 x13_3) < (t463.length : Int) then (if x13_3 < (t463.length : Int) then (if (rd t463 (rd t453 x13_3)) = (wrap64 ((rd t463 x13_3) - 1)) then (laws_FnNext.l1 kj41 t453 t463 t466 (t453.length : Int) x11_2 (wrap64 (x13_3 + 1))) else (some false)) else (none)) else (none)) else (none)) else (laws_FnNext.l1 kj41 t453 t463 t466 (t453.length : Int) x11_2 (wrap64 (x13_3 + 1)))) else (none)) else (none)) = some r := by rw [if_neg (show ¬ (false = true) by decide)] at H; exact H
                      clear H
                      have H := H1
                      clear H1
                      by_cases c53 : 0 ≤ x13_3
                      ·
                       rw [if_pos c53] at H
                       have c53b0 : decide (0 ≤ x13_3) = true := decide_eq_true c53
                       clear c53
                       by_cases c54 : x13_3 < (t453.length : Int)
                       ·
                        rw [if_pos c54] at H
                        have c54b0 : decide (x13_3 < (t453.length : Int)) = true := decide_eq_true c54
                        clear c54
                        by_cases c55 : (rd t453 x13_3) ≥ 0
                        ·
                         rw [if_pos c55] at H
                         have c55b0 : decide (0 ≤ (rd t453 x13_3)) = true := decide_eq_true c55
                         clear c55
                         by_cases c56 : 0 ≤ (rd t453 x13_3)
                         ·
                          rw [if_pos c56] at H
                          have c56b0 : decide (0 ≤ (rd t453 x13_3)) = true := decide_eq_true c56
                          clear c56
                          by_cases c57 : (rd t453 x13_3) < (t463.length : Int)
                          ·
                           rw [if_pos c57] at H
                           have c57b0 : decide ((rd t453 x13_3) < (t463.length : Int)) = true := decide_eq_true c57
                           clear c57
                           by_cases c58 : x13_3 < (t463.length : Int)
                           ·
                            rw [if_pos c58] at H
                            have c58b0 : decide (x13_3 < (t463.length : Int)) = true := decide_eq_true c58
                            clear c58
                            by_cases c59 : (rd t463 (rd t453 x13_3)) = (wrap64 ((rd t463 x13_3) - 1))
                            ·
                             rw [if_pos c59] at H
                             have c59b0 : ((rd t463 (rd t453 x13_3)) == (wrap64 ((rd t463 x13_3) - 1))) = true := beq_iff_eq.mpr c59
                             have c59b1 : ((rd t463 (rd t453 x13_3)) != (wrap64 ((rd t463 x13_3) - 1))) = false := bne_eq_false_iff_eq.mpr c59
                             clear c59
                             have H' := Aside0.mk H
                             clear H
                             have p475 : 0 ≤ (x13_3 : Int) := of_decide_eq_true (by first | (with_reducible assumption) | assumption)
                             have q475 : x13_3 < (t453.length : Int) := of_decide_eq_true (by first | (with_reducible assumption) | assumption)
                             obtain ⟨ad475, e475, hx475_0⟩ := Kd.at_int (Kd.R_reads' HO_4.out).2.2 x13_3 p475 q475
                             obtain rfl : ad469 = ad475 := (by injection e475)
                             replace p475 := eq_true p475
                             replace q475 := eq_true q475
                             have p476 : 0 ≤ (x13_3 : Int) := of_decide_eq_true (by first | (with_reducible assumption) | assumption)
                             have q476 : x13_3 < (t453.length : Int) := of_decide_eq_true (by first | (with_reducible assumption) | assumption)
                             obtain ⟨ad476, e476, hx476_0⟩ := Kd.at_int (Kd.R_reads' HO_4.out).2.2 x13_3 p476 q476
                             obtain rfl : ad469 = ad476 := (by injection e476)
                             replace p476 := eq_true p476
                             replace q476 := eq_true q476
                             have p477 : 0 ≤ ((rd t453 x13_3) : Int) := of_decide_eq_true (by first | (with_reducible assumption) | assumption)
                             have q477 : (rd t453 x13_3) < (t463.length : Int) := of_decide_eq_true (by first | (with_reducible assumption) | assumption)
                             obtain ⟨ad477, e477, hx477_0⟩ := Kd.at_int (Kd.R_reads' HO_8.out).2.2 (rd t453 x13_3) p477 q477
                             obtain rfl : ad467 = ad477 := (by injection e477)
                             replace p477 := eq_true p477
                             replace q477 := eq_true q477
                             have p478 : 0 ≤ (x13_3 : Int) := of_decide_eq_true (by first | (with_reducible assumption) | assumption)
                             have q478 : x13_3 < (t463.length : Int) := of_decide_eq_true (by first | (with_reducible assumption) | assumption)
                             obtain ⟨ad478, e478, hx478_0⟩ := Kd.at_int (Kd.R_reads' HO_8.out).2.2 x13_3 p478 q478
                             obtain rfl : ad467 = ad478 := (by injection e478)
                             replace p478 := eq_true p478
                             replace q478 := eq_true q478
                             go_wp2
                             repeat (go_quiet (fail); try go_wp2)
                             (first | go_roundg kj41 | (refine Handed.intro kj41 ?measure ?_; rotate_left; go_step; (try simp only [add_plain]); (repeat apply Exists.intro); refine ⟨?rel, rfl⟩))
                             case measure => have := HJ5.out; have := HK2.out; have := HK3.out; have := HK4.out; have := HJ41.out; omega
                             case rel => exact ⟨(wrap64 (x13_3 + 1)), (by first | rfl | (simp; done) | (simp [*]; done)), H', ⟨by have := HJ5.out; have := HK2.out; have := HK3.out; have := HK4.out; have := HJ41.out; omega⟩, ⟨by (with_reducible repeat (first | apply Kd.R_alloc | apply Kd.R_drewN | apply Kd.R_drew)); exact HO_4.out⟩, ⟨by (with_reducible repeat (first | apply Kd.R_alloc | apply Kd.R_drewN | apply Kd.R_drew)); exact HO_8.out⟩, ⟨by (with_reducible repeat (first | apply Kd.Q_alloc | apply Kd.Q_drewN | apply Kd.Q_drew)); exact HO_453001.out⟩, ⟨by (with_reducible repeat (first | refine blk_drewN ?_ _ | refine blk_drew ?_ | refine blk_alloc ?_ _)); exact BK452.out⟩, ⟨by repeat (first | (with_reducible first | exact HB.out | apply below_alloc | apply pw_below_drewN | apply below_drew1 | refine below_set ?_ GE452.out) | exact HB.out)⟩⟩
                            ·
                             rw [if_neg c59] at H
                             have c59b0 : ((rd t463 (rd t453 x13_3)) == (wrap64 ((rd t463 x13_3) - 1))) = false := beq_eq_false_iff_ne.mpr c59
                             have c59b1 : ((rd t463 (rd t453 x13_3)) != (wrap64 ((rd t463 x13_3) - 1))) = true := bne_iff_ne.mpr c59
                             obtain rfl := Option.some.inj H
                             have p475 : 0 ≤ (x13_3 : Int) := of_decide_eq_true (by first | (with_reducible assumption) | assumption)
                             have q475 : x13_3 < (t453.length : Int) := of_decide_eq_true (by first | (with_reducible assumption) | assumption)
                             obtain ⟨ad475, e475, hx475_0⟩ := Kd.at_int (Kd.R_reads' HO_4.out).2.2 x13_3 p475 q475
                             obtain rfl : ad469 = ad475 := (by injection e475)
                             replace p475 := eq_true p475
                             replace q475 := eq_true q475
                             have p476 : 0 ≤ (x13_3 : Int) := of_decide_eq_true (by first | (with_reducible assumption) | assumption)
                             have q476 : x13_3 < (t453.length : Int) := of_decide_eq_true (by first | (with_reducible assumption) | assumption)
                             obtain ⟨ad476, e476, hx476_0⟩ := Kd.at_int (Kd.R_reads' HO_4.out).2.2 x13_3 p476 q476
                             obtain rfl : ad469 = ad476 := (by injection e476)
                             replace p476 := eq_true p476
                             replace q476 := eq_true q476
                             have p477 : 0 ≤ ((rd t453 x13_3) : Int) := of_decide_eq_true (by first | (with_reducible assumption) | assumption)
                             have q477 : (rd t453 x13_3) < (t463.length : Int) := of_decide_eq_true (by first | (with_reducible assumption) | assumption)
                             obtain ⟨ad477, e477, hx477_0⟩ := Kd.at_int (Kd.R_reads' HO_8.out).2.2 (rd t453 x13_3) p477 q477
                             obtain rfl : ad467 = ad477 := (by injection e477)
                             replace p477 := eq_true p477
                             replace q477 := eq_true q477
                             have p478 : 0 ≤ (x13_3 : Int) := of_decide_eq_true (by first | (with_reducible assumption) | assumption)
                             have q478 : x13_3 < (t463.length : Int) := of_decide_eq_true (by first | (with_reducible assumption) | assumption)
                             obtain ⟨ad478, e478, hx478_0⟩ := Kd.at_int (Kd.R_reads' HO_8.out).2.2 x13_3 p478 q478
                             obtain rfl : ad467 = ad478 := (by injection e478)
                             replace p478 := eq_true p478
                             replace q478 := eq_true q478
                             go_wp2
                             repeat (go_quiet (fail); try go_wp2)
                             go_ret
                             exact ⟨by first | rfl | (simp [errW_none, errW_some] <;> rfl) | (simp [*, errW_none, errW_some] <;> rfl), by repeat (first | (with_reducible first | exact HB.out | apply below_alloc | apply pw_below_drewN | apply below_drew1 | refine below_set ?_ GE452.out) | exact HB.out)⟩
                           ·
                            rw [if_neg c58] at H
                            exact absurd H (by simp)
                          ·
                           rw [if_neg c57] at H
                           exact absurd H (by simp)
                         ·
                          rw [if_neg c56] at H
                          exact absurd H (by simp)
                        ·
                         rw [if_neg c55] at H
                         have c55b0 : decide (0 ≤ (rd t453 x13_3)) = false := decide_eq_false c55
                         clear c55
                         have H' := Aside0.mk H
                         clear H
                         have p475 : 0 ≤ (x13_3 : Int) := of_decide_eq_true (by first | (with_reducible assumption) | assumption)
                         have q475 : x13_3 < (t453.length : Int) := of_decide_eq_true (by first | (with_reducible assumption) | assumption)
                         obtain ⟨ad475, e475, hx475_0⟩ := Kd.at_int (Kd.R_reads' HO_4.out).2.2 x13_3 p475 q475
                         obtain rfl : ad469 = ad475 := (by injection e475)
                         replace p475 := eq_true p475
                         replace q475 := eq_true q475
                         go_wp2
                         repeat (go_quiet (fail); try go_wp2)
                         (first | go_roundg kj41 | (refine Handed.intro kj41 ?measure ?_; rotate_left; go_step; (try simp only [add_plain]); (repeat apply Exists.intro); refine ⟨?rel, rfl⟩))
                         case measure => have := HJ5.out; have := HK2.out; have := HK3.out; have := HK4.out; have := HJ41.out; omega
                         case rel => exact ⟨(wrap64 (x13_3 + 1)), (by first | rfl | (simp; done) | (simp [*]; done)), H', ⟨by have := HJ5.out; have := HK2.out; have := HK3.out; have := HK4.out; have := HJ41.out; omega⟩, ⟨by (with_reducible repeat (first | apply Kd.R_alloc | apply Kd.R_drewN | apply Kd.R_drew)); exact HO_4.out⟩, ⟨by (with_reducible repeat (first | apply Kd.R_alloc | apply Kd.R_drewN | apply Kd.R_drew)); exact HO_8.out⟩, ⟨by (with_reducible repeat (first | apply Kd.Q_alloc | apply Kd.Q_drewN | apply Kd.Q_drew)); exact HO_453001.out⟩, ⟨by (with_reducible repeat (first | refine blk_drewN ?_ _ | refine blk_drew ?_ | refine blk_alloc ?_ _)); exact BK452.out⟩, ⟨by repeat (first | (with_reducible first | exact HB.out | apply below_alloc | apply pw_below_drewN | apply below_drew1 | refine below_set ?_ GE452.out) | exact HB.out)⟩⟩
                       ·
                        rw [if_neg c54] at H
                        exact absurd H (by simp)
                      ·
                       rw [if_neg c53] at H
                       exact absurd H (by simp)
              ·
               rw [if_neg c39] at H
               exact absurd H (by simp)
             ·
              rw [if_neg c38] at H
              exact absurd H (by simp)
            ·
             rw [if_neg c37] at H
             exact absurd H (by simp)
           ·
            rw [if_neg c36] at H
            have c36b0 : decide (x13_3 < (t453.length : Int)) = false := decide_eq_false c36
            clear c36
            obtain rfl := Option.some.inj H
            go_wp2
            repeat (go_quiet (fail); try go_wp2)
            go_ret
            exact ⟨by first | rfl | (simp [errW_none, errW_some] <;> rfl) | (simp [*, errW_none, errW_some] <;> rfl), by repeat (first | (with_reducible first | exact HB.out | apply below_alloc | apply pw_below_drewN | apply below_drew1 | refine below_set ?_ GE452.out) | exact HB.out)⟩
     ·
      rw [if_neg c27] at H
      exact absurd H (by simp)
def laws_FnNext.Pure : Prop := ∀ (l0 : List Int), l0.length ≤ maxLen → l0.length * 1 ≤ 140737488351232 → (∀ x ∈ l0, (Lit.int .u8 x).wf = true) → ∃ k, laws_FnNext.f k l0 = some true
theorem laws_FnNext.walk (P : laws_FnNext.Pure) (a0 : Option Addr) (len0 cap0 : Nat) (z0 : List Int) (w : World) (w0 : (a0 = none ∧ len0 = 0 ∧ cap0 = 0 ∧ z0 = []) ∨ ∃ x, a0 = some x ∧ len0 ≤ cap0 ∧ cap0 ≤ maxLen ∧ z0.length = cap0 ∧ (∀ i, i < z0.length → w.cell? (x.add i) = some (.int .u8 (z0.getD i 0))) ∧ ∀ n ∈ z0, (Lit.int .u8 n).wf = true) (y0 : len0 * 1 ≤ 140737488351232) :
  Calls Try.prog 12 #[.slice a0 len0 cap0] w fun e w' => e = .returned (.bool true) ∧ Below w.heap.size w w' := by
 obtain ⟨l0, rfl, hr0, hm0, hw0, hc0⟩ := ReadsInt.ofRowC w0
 obtain ⟨k, h⟩ := P l0 hm0 y0 hw0
 refine (laws_FnNext.calls k _ _ l0 true w (Kd.C_of_reads (d := (0 : Int)) (h1 := fun _ => rfl) hr0) hc0 h).mono ?_
 rintro e w' ⟨rfl, hd⟩
 exact ⟨rfl, hd⟩
end Go.Proofs.Ytlfalkbldjjomaa.PB

set_option linter.unusedVariables false
set_option linter.unusedSimpArgs false
namespace Go.Proofs.Ytlfalkbldjjomaa.PB
open Go.RowKit Go.Proofs.YtlfalkbldjjomaaW.PrintWords Go.Proofs.YtlfalkbldjjomaaW.PrintLast Go.Proofs.YtlfalkbldjjomaaW.PrintMore
theorem Ev.s {α : Type} {g : Nat → Option α} {r : α} (h : Ev (fun k => g (k + 1)) r) : Ev g r := Ev.step (fun _ => rfl) h
theorem Ev.const {α : Type} {o : Option α} {r : α} (h : o = some r) : Ev (fun _ => o) r := ⟨0, fun _ _ => h⟩
theorem Ev.uniq {α : Type} {g : Nat → Option α} {r r' : α} (h : Ev g r) (h' : Ev g r') : r = r' := by
  obtain ⟨K, h⟩ := h
  obtain ⟨K', h'⟩ := h'
  have h1 := h (max K K') (by omega)
  rw [h' (max K K') (by omega)] at h1
  exact (Option.some.inj h1).symm
theorem w64 {x : Int} (h1 : -9223372036854775808 ≤ x) (h2 : x < 9223372036854775808) : wrap64 x = x := by unfold wrap64; omega
end Go.Proofs.Ytlfalkbldjjomaa.PB

set_option linter.unusedVariables false
set_option linter.unusedSimpArgs false
namespace Go.Proofs.Ytlfalkbldjjomaa.PB
open Go.RowKit Go.Proofs.YtlfalkbldjjomaaW.PrintWords Go.Proofs.YtlfalkbldjjomaaW.PrintLast Go.Proofs.YtlfalkbldjjomaaW.PrintMore
theorem rd_lt (l : List Int) (i : Nat) (h : i < l.length) : rd l (i : Int) = l[i] := by
  unfold rd
  rw [Int.toNat_natCast, List.getD_eq_getElem?_getD, List.getElem?_eq_getElem h]
  rfl
end Go.Proofs.Ytlfalkbldjjomaa.PB

set_option linter.unusedVariables false
set_option linter.unusedSimpArgs false
namespace Go.Proofs.Ytlfalkbldjjomaa.PB
open Go.RowKit Go.Proofs.YtlfalkbldjjomaaW.PrintWords Go.Proofs.YtlfalkbldjjomaaW.PrintLast Go.Proofs.YtlfalkbldjjomaaW.PrintMore
def walkT (s : ByteArray) : Nat → Int → Option (Int × Int)
  | 0, g => some (g, 0)
  | d + 1, g => if bt s ((s.size : Int) - (d + 1 : Nat)) = 40 then (walkT s d (g + 1)).map (fun p => (p.1, p.2 + 1)) else if bt s ((s.size : Int) - (d + 1 : Nat)) = 41 then (if g - 1 < 0 then none else walkT s d (g - 1)) else none
theorem walkT_range (s : ByteArray) : ∀ (d : Nat) (g : Int) (p : Int × Int), 0 ≤ g → walkT s d g = some p → 0 ≤ p.1 ∧ 0 ≤ p.2 ∧ p.2 ≤ d ∧ p.1 = g + 2 * p.2 - d
  | 0, g, p, hg, h => by simp only [walkT, Option.some.injEq] at h; subst h; simp; omega
  | d + 1, g, p, hg, h => by
    simp only [walkT] at h
    split at h
    · cases e : walkT s d (g + 1) with
      | none => rw [e] at h; cases h
      | some q =>
        rw [e] at h
        obtain rfl := Option.some.inj h
        have := walkT_range s d (g + 1) q (by omega) e
        simp only
        omega
    · split at h
      · split at h
        · cases h
        · have := walkT_range s d (g - 1) p (by omega) h
          omega
      · cases h
theorem spec_steps (x3 x4 : Int) (s : ByteArray) (l : List Int) (hl : l.length ≤ 1048576) : ∀ (d i : Nat), l.length - i = d → i ≤ l.length →
    ((∀ j, i ≤ j → j < l.length → -1 ≤ rd l j ∧ rd l j ≤ 1) → Ev (fun k => spec_TreeValid.l1 k x3 x4 i s l) (decide (x3 = 0 ∧ (1 ≤ x4 ∧ x4 ≤ 3) ∧ (l.length : Int) = x4))) ∧
    (¬ (∀ j, i ≤ j → j < l.length → -1 ≤ rd l j ∧ rd l j ≤ 1) → Ev (fun k => spec_TreeValid.l1 k x3 x4 i s l) false)
  | 0, i, hd, hi => by
    refine ⟨fun _ => Ev.s ?_, fun h => absurd (fun j h1 h2 => by omega) h⟩
    simp only [spec_TreeValid.l1, show ¬ (i : Int) < (l.length : Int) by omega, if_false]
    refine Ev.const ?_
    unfold spec_l6In.f
    by_cases h1 : x3 = 0
    · by_cases h2 : x4 ≥ 1
      · by_cases h3 : x4 ≤ 3
        · by_cases h4 : (l.length : Int) = x4 <;> simp [h1, h2, h3, h4] <;> (try omega)
        · simp [h1, h2, h3]
      · simp [h1, h2] <;> (first | done | omega)
    · simp [h1]
  | d + 1, i, hd, hi => by
    have ih := spec_steps x3 x4 s l hl d (i + 1) (by omega) (by omega)
    have hw : wrap64 ((i : Int) + 1) = ((i + 1 : Nat) : Int) := by rw [w64 (by omega) (by omega)]; omega
    by_cases hb : -1 ≤ rd l i ∧ rd l i ≤ 1
    · have hin : spec_l6In.f (rd l i) (-1) 1 = some true := by unfold spec_l6In.f; rw [if_pos hb.1, decide_eq_true hb.2]
      refine ⟨fun h => Ev.s ?_, fun h => Ev.s ?_⟩
      · simp only [spec_TreeValid.l1, show (i : Int) < (l.length : Int) by omega, show (0 : Int) ≤ i by omega, if_true, hin, Option.bind_some, hw]
        exact ih.1 fun j h1 h2 => h j (by omega) h2
      · simp only [spec_TreeValid.l1, show (i : Int) < (l.length : Int) by omega, show (0 : Int) ≤ i by omega, if_true, hin, Option.bind_some, hw]
        refine ih.2 fun h' => h fun j h1 h2 => ?_
        by_cases e : j = i
        · rw [e]; exact hb
        · exact h' j (by omega) h2
    · have hin : spec_l6In.f (rd l i) (-1) 1 = some false := by
        unfold spec_l6In.f
        by_cases h1 : rd l i ≥ -1
        · rw [if_pos h1, decide_eq_false (by omega)]
        · rw [if_neg h1]
      refine ⟨fun h => absurd (h i (Nat.le_refl _) (by omega)) hb, fun h => Ev.s ?_⟩
      simp only [spec_TreeValid.l1, show (i : Int) < (l.length : Int) by omega, show (0 : Int) ≤ i by omega, if_true, hin, Option.bind_some]
      exact Ev.const rfl
theorem spec_walk (s : ByteArray) (hs : s.size ≤ 1048576) (l : List Int) : ∀ (d : Nat) (i g c : Int), 0 ≤ i → (s.size : Int) - i = d → 0 ≤ g → g ≤ i → 0 ≤ c → c ≤ i →
    (∀ p, walkT s d g = some p → ∀ r, Ev (fun k => spec_TreeValid.l1 k p.1 (c + p.2) 0 s l) r → Ev (fun k => spec_TreeValid.l0 k g c i s l) r) ∧ (walkT s d g = none → Ev (fun k => spec_TreeValid.l0 k g c i s l) false)
  | 0, i, g, c, hi, hd, hg, hgi, hc, hci => by
    refine ⟨fun p hp r h => Ev.s ?_, fun h => by simp [walkT] at h⟩
    simp only [spec_TreeValid.l0, show ¬ i < (s.size : Int) by omega, if_false]
    simp only [walkT, Option.some.injEq] at hp
    subst hp
    simpa using h
  | d + 1, i, g, c, hi, hd, hg, hgi, hc, hci => by
    have hj : (s.size : Int) - ((d + 1 : Nat) : Int) = i := by omega
    have w1 : wrap64 (g + 1) = g + 1 := w64 (by omega) (by omega)
    have w2 : wrap64 (g - 1) = g - 1 := w64 (by omega) (by omega)
    have w3 : wrap64 (c + 1) = c + 1 := w64 (by omega) (by omega)
    have w4 : wrap64 (i + 1) = i + 1 := w64 (by omega) (by omega)
    simp only [walkT, hj]
    by_cases b0 : bt s i = 40
    · simp only [b0, if_true]
      have ih := spec_walk s hs l d (i + 1) (g + 1) (c + 1) (by omega) (by omega) (by omega) (by omega) (by omega) (by omega)
      refine ⟨fun p hp r h => Ev.s ?_, fun h => Ev.s ?_⟩
      · simp only [spec_TreeValid.l0, show i < (s.size : Int) by omega, hi, b0, if_true, w1, w3, w4, show ¬ g + 1 < 0 by omega, if_false]
        cases e : walkT s d (g + 1) with
        | none => rw [e] at hp; cases hp
        | some q =>
          rw [e] at hp
          obtain rfl := Option.some.inj hp
          refine ih.1 q e r ?_
          have : c + 1 + q.2 = c + (q.2 + 1) := by omega
          rw [this]
          exact h
      · simp only [spec_TreeValid.l0, show i < (s.size : Int) by omega, hi, b0, if_true, w1, w3, w4, show ¬ g + 1 < 0 by omega, if_false]
        exact ih.2 (by simpa using h)
    · by_cases b1 : bt s i = 41
      · simp only [b1, if_true, show ¬ ((41 : Int) = 40) by decide, if_false]
        by_cases hz : g - 1 < 0
        · refine ⟨fun p hp => by simp [hz] at hp, fun _ => Ev.s ?_⟩
          simp only [spec_TreeValid.l0, show i < (s.size : Int) by omega, hi, b1, if_true, w2, hz, show ¬ ((41 : Int) = 40) by decide, if_false]
          exact Ev.const rfl
        · have ih := spec_walk s hs l d (i + 1) (g - 1) c (by omega) (by omega) (by omega) (by omega) (by omega) (by omega)
          simp only [hz, if_false]
          refine ⟨fun p hp r h => Ev.s ?_, fun h => Ev.s ?_⟩
          · simp only [spec_TreeValid.l0, show i < (s.size : Int) by omega, hi, b1, if_true, w2, w4, hz, show ¬ ((41 : Int) = 40) by decide, if_false]
            exact ih.1 p hp r h
          · simp only [spec_TreeValid.l0, show i < (s.size : Int) by omega, hi, b1, if_true, w2, w4, hz, show ¬ ((41 : Int) = 40) by decide, if_false]
            exact ih.2 h
      · simp only [b0, b1, if_false]
        refine ⟨fun p hp => by simp at hp, fun _ => Ev.s ?_⟩
        simp only [spec_TreeValid.l0, show i < (s.size : Int) by omega, hi, b0, b1, if_true, if_false]
        exact Ev.const rfl
theorem impl_walk (s : ByteArray) (hs : s.size ≤ 1048576) : ∀ (d i : Nat) (g : Int), (s.size : Int) - i = d → 0 ≤ g → g ≤ i →
    (∀ p, walkT s d g = some p → Ev (fun k => impl_TreeValid.l1 k s i g) (p.1 == 0)) ∧ (walkT s d g = none → Ev (fun k => impl_TreeValid.l1 k s i g) false)
  | 0, i, g, hd, hg, hgi => by
    refine ⟨fun p hp => Ev.s ?_, fun h => by simp [walkT] at h⟩
    simp only [impl_TreeValid.l1, show ¬ i < s.size by omega, if_false]
    simp only [walkT, Option.some.injEq] at hp
    subst hp
    exact Ev.const rfl
  | d + 1, i, g, hd, hg, hgi => by
    have hj : (s.size : Int) - ((d + 1 : Nat) : Int) = (i : Int) := by omega
    have w1 : wrap64 (g + 1) = g + 1 := w64 (by omega) (by omega)
    have w2 : wrap64 (g - 1) = g - 1 := w64 (by omega) (by omega)
    simp only [walkT, hj]
    by_cases b0 : bt s i = 40
    · simp only [b0, if_true]
      have ih := impl_walk s hs d (i + 1) (g + 1) (by omega) (by omega) (by omega)
      refine ⟨fun p hp => Ev.s ?_, fun h => Ev.s ?_⟩
      · simp only [impl_TreeValid.l1, show i < s.size by omega, b0, if_true, w1, show ¬ g + 1 < 0 by omega, if_false]
        cases e : walkT s d (g + 1) with
        | none => rw [e] at hp; cases hp
        | some q =>
          rw [e] at hp
          obtain rfl := Option.some.inj hp
          exact ih.1 q e
      · simp only [impl_TreeValid.l1, show i < s.size by omega, b0, if_true, w1, show ¬ g + 1 < 0 by omega, if_false]
        exact ih.2 (by simpa using h)
    · by_cases b1 : bt s i = 41
      · simp only [b1, if_true, show ¬ ((41 : Int) = 40) by decide, if_false]
        by_cases hz : g - 1 < 0
        · refine ⟨fun p hp => by simp [hz] at hp, fun _ => Ev.s ?_⟩
          simp only [impl_TreeValid.l1, show i < s.size by omega, b1, if_true, w2, hz, show ¬ ((41 : Int) = 40) by decide, if_false]
          exact Ev.const rfl
        · have ih := impl_walk s hs d (i + 1) (g - 1) (by omega) (by omega) (by omega)
          simp only [hz, if_false]
          refine ⟨fun p hp => Ev.s ?_, fun h => Ev.s ?_⟩
          · simp only [impl_TreeValid.l1, show i < s.size by omega, b1, if_true, w2, hz, show ¬ ((41 : Int) = 40) by decide, if_false]
            exact ih.1 p hp
          · simp only [impl_TreeValid.l1, show i < s.size by omega, b1, if_true, w2, hz, show ¬ ((41 : Int) = 40) by decide, if_false]
            exact ih.2 h
      · simp only [b0, b1, if_false]
        refine ⟨fun p hp => by simp at hp, fun _ => Ev.s ?_⟩
        simp only [impl_TreeValid.l1, show i < s.size by omega, b0, b1, if_true, if_false]
        exact Ev.const rfl
theorem impl_steps (s : ByteArray) (l : List Int) (hl : l.length ≤ 3) : ∀ (d i : Nat), l.length - i = d → i ≤ l.length →
    ((∀ j, i ≤ j → j < l.length → -1 ≤ rd l j ∧ rd l j ≤ 1) → ∀ r, Ev (fun k => impl_TreeValid.l1 k s 0 0) r → Ev (fun k => impl_TreeValid.l0 k s l i) r) ∧
    (¬ (∀ j, i ≤ j → j < l.length → -1 ≤ rd l j ∧ rd l j ≤ 1) → Ev (fun k => impl_TreeValid.l0 k s l i) false)
  | 0, i, hd, hi => by
    refine ⟨fun _ r h => Ev.s ?_, fun h => absurd (fun j h1 h2 => by omega) h⟩
    simp only [impl_TreeValid.l0, show ¬ (i : Int) < (l.length : Int) by omega, if_false]
    exact h
  | d + 1, i, hd, hi => by
    have ih := impl_steps s l hl d (i + 1) (by omega) (by omega)
    have hw : wrap64 ((i : Int) + 1) = ((i + 1 : Nat) : Int) := by rw [w64 (by omega) (by omega)]; omega
    by_cases hb1 : rd l i < -1
    · refine ⟨fun h => absurd (h i (Nat.le_refl _) (by omega)) (by omega), fun h => Ev.s ?_⟩
      simp only [impl_TreeValid.l0, show (i : Int) < (l.length : Int) by omega, show (0 : Int) ≤ i by omega, hb1, if_true]
      exact Ev.const rfl
    · by_cases hb2 : rd l i > 1
      · refine ⟨fun h => absurd (h i (Nat.le_refl _) (by omega)) (by omega), fun h => Ev.s ?_⟩
        simp only [impl_TreeValid.l0, show (i : Int) < (l.length : Int) by omega, show (0 : Int) ≤ i by omega, hb1, hb2, if_true, if_false]
        exact Ev.const rfl
      · refine ⟨fun h r hr => Ev.s ?_, fun h => Ev.s ?_⟩
        · simp only [impl_TreeValid.l0, show (i : Int) < (l.length : Int) by omega, show (0 : Int) ≤ i by omega, hb1, hb2, if_true, if_false, hw]
          exact ih.1 (fun j h1 h2 => h j (by omega) h2) r hr
        · simp only [impl_TreeValid.l0, show (i : Int) < (l.length : Int) by omega, show (0 : Int) ≤ i by omega, hb1, hb2, if_true, if_false, hw]
          refine ih.2 fun h' => h fun j h1 h2 => ?_
          by_cases e : j = i
          · rw [e]; omega
          · exact h' j (by omega) h2
def treeOk (s : ByteArray) (l : List Int) : Prop := 1 ≤ l.length ∧ l.length ≤ 3 ∧ s.size = 2 * l.length ∧ (∀ j : Nat, j < l.length → -1 ≤ rd l j ∧ rd l j ≤ 1) ∧ ∃ c, walkT s s.size 0 = some (0, c)
theorem treeValid_both (s : ByteArray) (hs : s.size ≤ 1048576) (l : List Int) (hl : l.length ≤ 1048576) :
    ∃ b : Bool, Ev (fun k => spec_TreeValid.f k s l) b ∧ Ev (fun k => impl_TreeValid.f k s l) b ∧ (b = true → treeOk s l) := by
  have hsp := spec_walk s hs l s.size 0 0 0 (by omega) (by omega) (by omega) (by omega) (by omega) (by omega)
  have hst := fun x3 x4 => spec_steps x3 x4 s l hl l.length 0 (by omega) (by omega)
  simp only [spec_TreeValid.f, impl_TreeValid.f]
  cases hw : walkT s s.size 0 with
  | none =>
    refine ⟨false, hsp.2 hw, ?_, fun h => by cases h⟩
    by_cases h1 : (l.length : Int) < 1
    · simp only [h1, if_true]; exact Ev.const rfl
    · by_cases h3 : (l.length : Int) > 3
      · simp only [h1, h3, if_true, if_false]; exact Ev.const rfl
      · by_cases h2 : (s.size : Int) = wrap64 (2 * (l.length : Int))
        · simp only [h1, h3, if_false]
          simp only [if_pos h2]
          by_cases hb : ∀ j : Nat, 0 ≤ j → j < l.length → -1 ≤ rd l j ∧ rd l j ≤ 1
          · exact (impl_steps s l (by omega) l.length 0 (by omega) (by omega)).1 hb _ ((impl_walk s hs s.size 0 0 (by omega) (by omega) (by omega)).2 hw)
          · exact (impl_steps s l (by omega) l.length 0 (by omega) (by omega)).2 hb
        · simp only [h1, h3, h2, if_false]
          exact Ev.const rfl
  | some p =>
    have hr := walkT_range s s.size 0 p (by omega) hw
    have hc0 : (0 : Int) + p.2 = p.2 := by omega
    by_cases hb : ∀ j : Nat, 0 ≤ j → j < l.length → -1 ≤ rd l j ∧ rd l j ≤ 1
    · refine ⟨decide (p.1 = 0 ∧ (1 ≤ p.2 ∧ p.2 ≤ 3) ∧ (l.length : Int) = p.2), hsp.1 p hw _ ?_, ?_, fun h => ?_⟩
      · rw [hc0]; exact (hst p.1 p.2).1 hb
      · by_cases h1 : (l.length : Int) < 1
        · simp only [h1, if_true]
          exact Ev.const (by congr 1; symm; rw [decide_eq_false_iff_not]; omega)
        · by_cases h3 : (l.length : Int) > 3
          · simp only [h1, h3, if_true, if_false]
            exact Ev.const (by congr 1; symm; rw [decide_eq_false_iff_not]; omega)
          · have h2w : wrap64 (2 * (l.length : Int)) = 2 * (l.length : Int) := w64 (by omega) (by omega)
            by_cases h2 : (s.size : Int) = 2 * (l.length : Int)
            · simp only [h1, h3, if_false, h2w]
              simp only [if_pos h2]
              have hi := (impl_steps s l (by omega) l.length 0 (by omega) (by omega)).1 hb _ ((impl_walk s hs s.size 0 0 (by omega) (by omega) (by omega)).1 p hw)
              have e : (p.1 == 0) = decide (p.1 = 0 ∧ (1 ≤ p.2 ∧ p.2 ≤ 3) ∧ (l.length : Int) = p.2) := by
                rw [Bool.eq_iff_iff]
                simp only [beq_iff_eq, decide_eq_true_eq]
                omega
              rw [e] at hi
              exact hi
            · simp only [h1, h3, h2, if_false, h2w]
              exact Ev.const (by congr 1; symm; rw [decide_eq_false_iff_not]; omega)
      · have := of_decide_eq_true h
        refine ⟨by omega, by omega, by omega, fun j hj => hb j (by omega) hj, p.2, ?_⟩
        rw [hw]
        congr 1
        exact Prod.ext this.1 rfl
    · refine ⟨false, hsp.1 p hw _ ?_, ?_, fun h => by cases h⟩
      · exact (hst p.1 _).2 hb
      · by_cases h1 : (l.length : Int) < 1
        · simp only [h1, if_true]; exact Ev.const rfl
        · by_cases h3 : (l.length : Int) > 3
          · simp only [h1, h3, if_true, if_false]; exact Ev.const rfl
          · by_cases h2 : (s.size : Int) = wrap64 (2 * (l.length : Int))
            · simp only [h1, h3, if_false]
              simp only [if_pos h2]
              exact (impl_steps s l (by omega) l.length 0 (by omega) (by omega)).2 hb
            · simp only [h1, h3, h2, if_false]
              exact Ev.const rfl
end Go.Proofs.Ytlfalkbldjjomaa.PB

set_option linter.unusedVariables false
set_option linter.unusedSimpArgs false
namespace Go.Proofs.Ytlfalkbldjjomaa.PB
open Go.RowKit Go.Proofs.YtlfalkbldjjomaaW.PrintWords Go.Proofs.YtlfalkbldjjomaaW.PrintLast Go.Proofs.YtlfalkbldjjomaaW.PrintMore
def stepsAll : Nat → List (List Int)
  | 0 => [[]]
  | n + 1 => [-1, 0, 1].flatMap fun a => (stepsAll n).map fun l => a :: l
def wordsAll : Nat → List ByteArray
  | 1 => [⟨#[40, 41]⟩]
  | 2 => [⟨#[40, 40, 41, 41]⟩, ⟨#[40, 41, 40, 41]⟩]
  | 3 => [⟨#[40, 40, 40, 41, 41, 41]⟩, ⟨#[40, 40, 41, 40, 41, 41]⟩, ⟨#[40, 40, 41, 41, 40, 41]⟩, ⟨#[40, 41, 40, 40, 41, 41]⟩, ⟨#[40, 41, 40, 41, 40, 41]⟩]
  | _ => []
def chkN (P : ByteArray → List Int → Bool) (n : Nat) : Bool := (wordsAll n).all fun s => (stepsAll n).all fun l => P s l
theorem stepsAll_mem : ∀ (l : List Int), (∀ x ∈ l, -1 ≤ x ∧ x ≤ 1) → l ∈ stepsAll l.length
  | [], _ => by simp [stepsAll]
  | a :: l, h => by
    have ih := stepsAll_mem l fun x hx => h x (by simp [hx])
    have ha := h a (by simp)
    simp only [List.length_cons, stepsAll, List.mem_flatMap, List.mem_map]
    exact ⟨a, by simp; omega, l, ih, rfl⟩
theorem walkT_bytes (s : ByteArray) : ∀ (d : Nat) (g : Int) (p : Int × Int), walkT s d g = some p → ∀ q : Int, (s.size : Int) - d ≤ q → q < s.size → bt s q = 40 ∨ bt s q = 41
  | 0, g, p, h, q, h1, h2 => by omega
  | d + 1, g, p, h, q, h1, h2 => by
    simp only [walkT] at h
    by_cases e : q = (s.size : Int) - ((d + 1 : Nat) : Int)
    · rw [e]
      by_cases b0 : bt s ((s.size : Int) - ((d + 1 : Nat) : Int)) = 40
      · exact .inl b0
      · by_cases b1 : bt s ((s.size : Int) - ((d + 1 : Nat) : Int)) = 41
        · exact .inr b1
        · rw [if_neg b0, if_neg b1] at h
          cases h
    · split at h
      · cases e2 : walkT s d (g + 1) with
        | none => rw [e2] at h; cases h
        | some q' => exact walkT_bytes s d (g + 1) q' e2 q (by omega) h2
      · split at h
        · split at h
          · cases h
          · exact walkT_bytes s d (g - 1) p h q (by omega) h2
        · cases h
theorem byte_of (b : UInt8) (h : ((b.toNat : Int) = 40) ∨ ((b.toNat : Int) = 41)) : b = 40 ∨ b = 41 := by
  rcases h with h | h
  · left; apply UInt8.toNat_inj.1; simpa using (by omega : b.toNat = 40)
  · right; apply UInt8.toNat_inj.1; simpa using (by omega : b.toNat = 41)
theorem bytes_of (s : ByteArray) (n : Nat) (hn : s.size = n) : ∃ l : List UInt8, l.length = n ∧ s = ⟨l.toArray⟩ := by
  refine ⟨s.data.toList, ?_, ?_⟩
  · rw [Array.length_toList]; exact hn
  · apply ByteArray.ext; simp
theorem bt_nth (l : List UInt8) (i : Nat) (h : i < l.length) : bt ⟨l.toArray⟩ (i : Int) = (l[i].toNat : Int) := by
  have := (bt_at ⟨l.toArray⟩ (i : Int) (by simpa [ByteArray.size] using h)).symm
  rw [this]
  rfl
theorem words_mem (s : ByteArray) (n : Nat) (h1 : 1 ≤ n) (h3 : n ≤ 3) (hs : s.size = 2 * n) (c : Int) (hw : walkT s s.size 0 = some (0, c)) : s ∈ wordsAll n := by
  have hb := walkT_bytes s s.size 0 (0, c) hw
  have hw' : (walkT s s.size 0).map (fun p => p.1) = some 0 := by rw [hw]; rfl
  clear hw
  obtain ⟨l, hl, rfl⟩ := bytes_of s (2 * n) hs
  have hbl : ∀ i (h : i < l.length), l[i] = 40 ∨ l[i] = 41 := fun i h => byte_of _ (by
    have := hb (i : Int) (by omega) (by rw [hs]; omega)
    rwa [bt_nth l i h] at this)
  clear hb
  have hc : n = 1 ∨ n = 2 ∨ n = 3 := by omega
  rcases hc with rfl | rfl | rfl
  · obtain ⟨a, b, rfl⟩ : ∃ a b, l = [a, b] := by
      match l, hl with
      | [a, b], _ => exact ⟨a, b, rfl⟩
    · skip
      have h0 : a = 40 ∨ a = 41 := hbl 0 (show 0 < 2 by decide); have h1' : b = 40 ∨ b = 41 := hbl 1 (show 1 < 2 by decide)
      rcases h0 with rfl | rfl <;> rcases h1' with rfl | rfl <;> first | (exact absurd hw' (by decide +kernel)) | (simp [wordsAll]; done)
  · obtain ⟨a, b, c, d, rfl⟩ : ∃ a b c d, l = [a, b, c, d] := by
      match l, hl with
      | [a, b, c, d], _ => exact ⟨a, b, c, d, rfl⟩
    · skip
      have g0 : a = 40 ∨ a = 41 := hbl 0 (show 0 < 4 by decide); have g1 : b = 40 ∨ b = 41 := hbl 1 (show 1 < 4 by decide); have g2 : c = 40 ∨ c = 41 := hbl 2 (show 2 < 4 by decide); have g3 : d = 40 ∨ d = 41 := hbl 3 (show 3 < 4 by decide)
      rcases g0 with rfl | rfl <;> rcases g1 with rfl | rfl <;> rcases g2 with rfl | rfl <;> rcases g3 with rfl | rfl <;> first | (exact absurd hw' (by decide +kernel)) | (simp [wordsAll]; done)
  · obtain ⟨a, b, c, d, e, f, rfl⟩ : ∃ a b c d e f, l = [a, b, c, d, e, f] := by
      match l, hl with
      | [a, b, c, d, e, f], _ => exact ⟨a, b, c, d, e, f, rfl⟩
    · skip
      have g0 : a = 40 ∨ a = 41 := hbl 0 (show 0 < 6 by decide); have g1 : b = 40 ∨ b = 41 := hbl 1 (show 1 < 6 by decide); have g2 : c = 40 ∨ c = 41 := hbl 2 (show 2 < 6 by decide); have g3 : d = 40 ∨ d = 41 := hbl 3 (show 3 < 6 by decide); have g4 : e = 40 ∨ e = 41 := hbl 4 (show 4 < 6 by decide); have g5 : f = 40 ∨ f = 41 := hbl 5 (show 5 < 6 by decide)
      rcases g0 with rfl | rfl <;> rcases g1 with rfl | rfl <;> rcases g2 with rfl | rfl <;> rcases g3 with rfl | rfl <;> rcases g4 with rfl | rfl <;> rcases g5 with rfl | rfl <;> first | (exact absurd hw' (by decide +kernel)) | (simp [wordsAll]; done)
theorem chk_all (P : ByteArray → List Int → Bool) (h1 : chkN P 1 = true) (h2 : chkN P 2 = true) (h3 : chkN P 3 = true) (s : ByteArray) (l : List Int) (h : treeOk s l) : P s l = true := by
  obtain ⟨a1, a3, hs, hst, c, hw⟩ := h
  have hm := words_mem s l.length a1 a3 hs c hw
  have hl : ∀ x ∈ l, -1 ≤ x ∧ x ≤ 1 := by
    intro x hx
    obtain ⟨i, hi, rfl⟩ := List.mem_iff_getElem.1 hx
    have := hst i hi
    rwa [rd_lt l i hi] at this
  have hsm := stepsAll_mem l hl
  have hn : chkN P l.length = true := by
    have hc : l.length = 1 ∨ l.length = 2 ∨ l.length = 3 := by omega
    rcases hc with e | e | e <;> rw [e] <;> assumption
  unfold chkN at hn
  rw [List.all_eq_true] at hn
  have := hn s hm
  rw [List.all_eq_true] at this
  exact this l hsm
end Go.Proofs.Ytlfalkbldjjomaa.PB

namespace Go.Proofs.Ytlfalkbldjjomaa.PB
open Go.RowKit Go.Proofs.YtlfalkbldjjomaaW.PrintWords Go.Proofs.YtlfalkbldjjomaaW.PrintLast Go.Proofs.YtlfalkbldjjomaaW.PrintMore
attribute [local go_sem] max2_int min2_int max_two min_two max_three min_three max_four min_four   -- for this text's walks alone
set_option linter.unusedVariables false
set_option linter.unusedSimpArgs false
def spec_l4Corners.l0 : Nat → List Int → List Int → Int → Option (List Int)
 | 0, _, _, _ => none
 | k + 1, x0, x3, x4 => if x4 < (x0.length : Int) then (if 0 ≤ x4 then (if (x0.length : Int) = 0 then (none) else (if x3.length < 17592186044416 then (spec_l4Corners.l0 k x0 (x3 ++ [Int.tmod (wrap64 ((rd x0 x4) + 1)) (x0.length : Int)]) (wrap64 (x4 + 1))) else (none))) else (none)) else (some x3)
def spec_l4Corners.f (k : Nat) (l0 : List Int) : Option (List Int) := spec_l4Corners.l0 k l0 (([] : List Int)) 0
theorem spec_l4Corners.mono_l : ∀ k, (∀ y0 y1 y2, LeO (spec_l4Corners.l0 k y0 y1 y2) (spec_l4Corners.l0 (k + 1) y0 y1 y2))
 | 0 => fun _ _ _ r h => by simp [spec_l4Corners.l0] at h
 | k + 1 => by
  have ih0 := spec_l4Corners.mono_l k
  ·
   intro y0 y1 y2
   unfold spec_l4Corners.l0
   repeat' first
   | (with_reducible exact ih0 _ _ _)
   | (with_reducible exact LeO.refl _)
   | (with_reducible exact LeO.none _)
   | (with_reducible refine LeO.ite ?_ ?_)
   | (with_reducible refine LeO.bind ?_ (fun _ => ?_))
   | exact ih0 _ _ _
   | exact LeO.none _
   | refine LeO.ite ?_ ?_
   | refine LeO.bind ?_ (fun _ => ?_)
theorem spec_l4Corners.mono : ∀ a0 k, LeO (spec_l4Corners.f k a0) (spec_l4Corners.f (k + 1) a0) := by
 intro a0 k
 have ih0 := spec_l4Corners.mono_l k
 unfold spec_l4Corners.f
 repeat' first
   | (with_reducible exact ih0 _ _ _)
   | (with_reducible exact LeO.refl _)
   | (with_reducible exact LeO.none _)
   | (with_reducible refine LeO.ite ?_ ?_)
   | (with_reducible refine LeO.bind ?_ (fun _ => ?_))
   | exact ih0 _ _ _
   | exact LeO.none _
   | refine LeO.ite ?_ ?_
   | refine LeO.bind ?_ (fun _ => ?_)
end Go.Proofs.Ytlfalkbldjjomaa.PB

set_option linter.unusedVariables false
set_option linter.unusedSimpArgs false
namespace Go.Proofs.Ytlfalkbldjjomaa.PB
open Go.RowKit Go.Proofs.YtlfalkbldjjomaaW.PrintWords Go.Proofs.YtlfalkbldjjomaaW.PrintLast Go.Proofs.YtlfalkbldjjomaaW.PrintMore
def walkP (s : ByteArray) (l : List Int) : Bool :=
  match spec_l6qWalk.f 30 s l with
  | none => false
  | some (v, lb, fl) => decide (impl_walked.f 30 s l = some (v, lb, fl)) && decide (v.length = s.size) && decide (lb.length = s.size) && decide (fl.length = s.size)
def nextP (s : ByteArray) (l : List Int) : Bool :=
  match spec_l6qWalk.f 30 s l with
  | none => false
  | some (v, lb, fl) => match spec_l6qNext.f 200 lb with
    | none => false
    | some nx => decide (impl_successors.f 200 lb = some nx) && decide (nx.length = s.size)
def turnP (s : ByteArray) (l : List Int) : Bool :=
  match spec_l6qWalk.f 30 s l with
  | none => false
  | some (v, lb, fl) => match spec_l4Corners.f 30 fl with
    | none => false
    | some tn => decide (impl_turnOf.f 30 fl = some tn) && decide (tn.length = s.size)
theorem walkP_all (s : ByteArray) (l : List Int) (h : treeOk s l) : walkP s l = true := chk_all walkP (by decide +kernel) (by decide +kernel) (by decide +kernel) s l h
theorem nextP_all (s : ByteArray) (l : List Int) (h : treeOk s l) : nextP s l = true := chk_all nextP (by decide +kernel) (by decide +kernel) (by decide +kernel) s l h
theorem turnP_all (s : ByteArray) (l : List Int) (h : treeOk s l) : turnP s l = true := chk_all turnP (by decide +kernel) (by decide +kernel) (by decide +kernel) s l h
theorem walk_both (s : ByteArray) (l : List Int) (h : treeOk s l) : ∃ v lb fl nx tn, spec_l6qWalk.f 30 s l = some (v, lb, fl) ∧ Ev (fun k => spec_l6qWalk.f k s l) (v, lb, fl) ∧ Ev (fun k => impl_walked.f k s l) (v, lb, fl) ∧
    Ev (fun k => spec_l6qNext.f k lb) nx ∧ Ev (fun k => impl_successors.f k lb) nx ∧ Ev (fun k => spec_l4Corners.f k fl) tn ∧ Ev (fun k => impl_turnOf.f k fl) tn ∧ lb.length = s.size ∧ fl.length = s.size ∧ nx.length = s.size ∧ tn.length = s.size := by
  have h1 := walkP_all s l h
  have h2 := nextP_all s l h
  have h3 := turnP_all s l h
  unfold walkP at h1
  unfold nextP at h2
  unfold turnP at h3
  cases e : spec_l6qWalk.f 30 s l with
  | none => rw [e] at h1; cases h1
  | some p =>
    obtain ⟨v, lb, fl⟩ := p
    rw [e] at h1 h2 h3
    simp only [Bool.and_eq_true, decide_eq_true_eq] at h1 h2 h3
    obtain ⟨⟨⟨i1, _⟩, i2⟩, i3⟩ := h1
    cases e2 : spec_l6qNext.f 200 lb with
    | none => rw [e2] at h2; cases h2
    | some nx =>
      rw [e2] at h2
      simp only [Bool.and_eq_true, decide_eq_true_eq] at h2
      cases e3 : spec_l4Corners.f 30 fl with
      | none => rw [e3] at h3; cases h3
      | some tn =>
        rw [e3] at h3
        simp only [Bool.and_eq_true, decide_eq_true_eq] at h3
        exact ⟨v, lb, fl, nx, tn, rfl, Ev.of (spec_l6qWalk.mono _ _) e, Ev.of (impl_walked.mono _ _) i1, Ev.of (spec_l6qNext.mono _) e2, Ev.of (impl_successors.mono _) h2.1, Ev.of (spec_l4Corners.mono _) e3, Ev.of (impl_turnOf.mono _) h3.1, i2, i3, h2.2, h3.2⟩
end Go.Proofs.Ytlfalkbldjjomaa.PB

set_option linter.unusedVariables false
set_option linter.unusedSimpArgs false
namespace Go.Proofs.Ytlfalkbldjjomaa.Pure
open Go.RowKit Go.Proofs.Ytlfalkbldjjomaa.PB Go.Proofs.YtlfalkbldjjomaaW.PrintWords Go.Proofs.YtlfalkbldjjomaaW.PrintLast Go.Proofs.YtlfalkbldjjomaaW.PrintMore
theorem bothTreeNext (s : ByteArray) (hs : s.size ≤ 1048576) (l : List Int) (hl : l.length ≤ 1048576) : ∃ (r : List Int) (b : Bool), Ev (fun k => spec_TreeNext.f k s l) (r, b) ∧ Ev (fun k => impl_TreeNext.f k s l) (r, b) ∧ r.length ≤ 1048576 := by
  obtain ⟨b, b1, b2, b3⟩ := treeValid_both s hs l hl
  cases b with
  | false =>
    refine ⟨[], false, ?_, ?_, by simp⟩
    · unfold spec_TreeNext.f spec_TreeLabels.f
      exact Ev.bind (a := (([] : List Int), false)) (Ev.bind b1 (Ev.const rfl)) (Ev.const rfl)
    · unfold impl_TreeNext.f
      exact Ev.bind b2 (Ev.const rfl)
  | true =>
    obtain ⟨v, lb, fl, nx, tn, _, w1, w2, n1, n2, t1, t2, z1, z2, z3, z4⟩ := walk_both s l (b3 rfl)
    refine ⟨nx, true, ?_, ?_, by omega⟩
    · unfold spec_TreeNext.f spec_TreeLabels.f
      refine Ev.bind (a := (lb, true)) (Ev.bind b1 ?_) ?_
      · simp only [if_true]
        exact Ev.bind w1 (Ev.const rfl)
      · simp only [if_true]
        exact Ev.bind n1 (Ev.const rfl)
    · unfold impl_TreeNext.f
      refine Ev.bind b2 ?_
      simp only [if_true]
      refine Ev.bind w2 ?_
      exact Ev.bind n2 (Ev.const rfl)
end Go.Proofs.Ytlfalkbldjjomaa.Pure

set_option linter.unusedVariables false
set_option linter.unusedSimpArgs false
namespace Go.Proofs.Ytlfalkbldjjomaa.PB
open Go.RowKit Go.Proofs.YtlfalkbldjjomaaW.PrintWords Go.Proofs.YtlfalkbldjjomaaW.PrintLast Go.Proofs.YtlfalkbldjjomaaW.PrintMore
theorem xor_nonneg (a b : Int) (ha : 0 ≤ a) (hb : 0 ≤ b) (ha' : a < 9223372036854775808) (hb' : b < 9223372036854775808) : 0 ≤ Go.bits .xor .i64 a b := by
  obtain ⟨n, rfl⟩ := Int.eq_ofNat_of_zero_le ha
  obtain ⟨m, rfl⟩ := Int.eq_ofNat_of_zero_le hb
  have hn : n % 2 ^ 64 = n := Nat.mod_eq_of_lt (by omega)
  have hm : m % 2 ^ 64 = m := Nat.mod_eq_of_lt (by omega)
  have hx : n ^^^ m < 2 ^ 63 := Nat.xor_lt_two_pow (by omega) (by omega)
  have e : Go.bits .xor .i64 (n : Int) (m : Int) = IntKind.i64.wrap ((n ^^^ m : Nat) : Int) := by
    simp only [Go.bits, BitVec.ofInt_natCast]
    show IntKind.i64.wrap (((BitVec.ofNat 64 n ^^^ BitVec.ofNat 64 m).toNat : Nat) : Int) = _
    rw [BitVec.toNat_xor, BitVec.toNat_ofNat, BitVec.toNat_ofNat, hn, hm]
  rw [e, IntKind.wrap_i64]
  omega
def bytesOk (l : List Int) : Prop := l.length ≤ 2000 ∧ ∀ x ∈ l, 0 ≤ x ∧ x ≤ 255
theorem rd_byte (l : List Int) (h : bytesOk l) (i : Int) : 0 ≤ rd l i ∧ rd l i ≤ 255 := by
  unfold rd
  by_cases hi : i.toNat < l.length
  · rw [List.getD_eq_getElem?_getD, List.getElem?_eq_getElem hi]
    exact h.2 _ (List.getElem_mem hi)
  · rw [List.getD_eq_getElem?_getD, List.getElem?_eq_none (by omega)]
    decide
theorem pick_ev (l : List Int) (h : bytesOk l) (p : Int) (hp : 0 ≤ p) (hp' : p ≤ 1000000) (n : Int) (hn : 1 ≤ n) (hn' : n ≤ 1000000) : ∃ v, Ev (fun k => spec_l6Rd_pick.f k l p n) (v, p + 1) ∧ 0 ≤ v ∧ v < n := by
  have w0 : wrap64 (p + 1) = p + 1 := w64 (by omega) (by omega)
  have w1 : wrap64 (p + 1 - 1) = p := by rw [w64 (by omega) (by omega)]; omega
  have hl := h.1
  unfold spec_l6Rd_pick.f
  simp only [show ¬ n < 1 by omega, if_false, w0]
  by_cases hz : l.length = 0
  · refine ⟨0, Ev.s ?_, by omega, by omega⟩
    have : (((l.length : Int)) == 0) = true := by simp [hz]
    simp only [this, spec_l6Rd_pick.j0, if_true]
    exact Ev.const rfl
  · have hb : (((l.length : Int)) == 0) = false := by rw [beq_eq_false_iff_ne]; omega
    have hn0 : ¬ n = 0 := by omega
    by_cases hlt : p < (l.length : Int)
    · have hr := rd_byte l h p
      have wr : wrap64 (rd l p) = rd l p := w64 (by omega) (by omega)
      refine ⟨Int.tmod (rd l p) n, Ev.s ?_, Int.tmod_nonneg _ (by omega), Int.tmod_lt_of_pos _ (by omega)⟩
      simp only [hb, spec_l6Rd_pick.j0, w1, hlt, hp, hn0, wr, Bool.false_eq_true, if_true, if_false]
      exact Ev.const rfl
    · have hl0 : ¬ (l.length : Int) = 0 := by omega
      have wk : wrap64 (p * 7) = p * 7 := w64 (by omega) (by omega)
      have wk3 : wrap64 (p * 7 + 3) = p * 7 + 3 := w64 (by omega) (by omega)
      have t1 := Int.tmod_nonneg (a := p) (l.length : Int) hp
      have t2 := Int.tmod_lt_of_pos p (b := (l.length : Int)) (by omega)
      have t3 := Int.tmod_nonneg (a := p * 7 + 3) (l.length : Int) (by omega)
      have t4 := Int.tmod_lt_of_pos (p * 7 + 3) (b := (l.length : Int)) (by omega)
      have r1 := rd_byte l h (Int.tmod p (l.length : Int))
      have r2 := rd_byte l h (Int.tmod (p * 7 + 3) (l.length : Int))
      have d1 : 0 ≤ Int.tdiv p (l.length : Int) := Int.tdiv_nonneg hp (by omega)
      have d2 : Int.tdiv p (l.length : Int) ≤ p := Int.tdiv_le_self _ hp
      obtain ⟨X, hX, hX0, hX1⟩ : ∃ X, (wrap64 ((wrap64 ((wrap64 ((wrap64 ((wrap64 (rd l (Int.tmod p (l.length : Int)))) * 131)) + (wrap64 ((wrap64 (rd l (Int.tmod (p * 7 + 3) (l.length : Int)))) * 1117)))) + (wrap64 (p * 29)))) + (wrap64 ((wrap64 (Int.tdiv p (l.length : Int))) * 53)))) = X ∧ 0 ≤ X ∧ X < 4611686018427387904 := by
        refine ⟨_, rfl, ?_, ?_⟩
        all_goals
          generalize rd l (Int.tmod p (l.length : Int)) = a at *
          generalize rd l (Int.tmod (p * 7 + 3) (l.length : Int)) = b at *
          generalize Int.tdiv p (l.length : Int) = c at *
          rw [w64 (x := a) (by omega) (by omega), w64 (x := b) (by omega) (by omega), w64 (x := a * 131) (by omega) (by omega), w64 (x := b * 1117) (by omega) (by omega), w64 (x := a * 131 + b * 1117) (by omega) (by omega), w64 (x := p * 29) (by omega) (by omega), w64 (x := a * 131 + b * 1117 + p * 29) (by omega) (by omega), w64 (x := c) (by omega) (by omega), w64 (x := c * 53) (by omega) (by omega), w64 (x := a * 131 + b * 1117 + p * 29 + c * 53) (by omega) (by omega)]
          omega
      have hd : 0 ≤ wrap64 (Int.tdiv X 64) ∧ wrap64 (Int.tdiv X 64) < 9223372036854775808 := by
        have := Int.tdiv_nonneg hX0 (show (0 : Int) ≤ 64 by decide)
        have := Int.tdiv_le_self 64 hX0
        rw [w64 (by omega) (by omega)]
        omega
      have hx := xor_nonneg X (wrap64 (Int.tdiv X 64)) hX0 hd.1 (by omega) hd.2
      refine ⟨Int.tmod (Go.bits .xor .i64 X (wrap64 (Int.tdiv X 64))) n, Ev.s ?_, Int.tmod_nonneg _ hx, Int.tmod_lt_of_pos _ (by omega)⟩
      simp only [hb, spec_l6Rd_pick.j0, w1, hlt, hl0, wk, wk3, t1, t2, t3, t4, hn0, hX, Bool.false_eq_true, if_true, if_false]
      exact Ev.const rfl
theorem open_ev (l : List Int) (hb : ∀ x ∈ l, (Lit.int .u8 x).wf = true) : ∃ l', spec_l6Open.f l = some (l', 0) ∧ bytesOk l' := by
  have hb' : ∀ x ∈ l, 0 ≤ x ∧ x ≤ 255 := by
    intro x hx
    have := hb x hx
    simp only [Lit.wf, IntKind.min, IntKind.max, IntKind.signed, IntKind.bits, Bool.and_eq_true, decide_eq_true_eq, Bool.false_eq_true, if_false] at this
    omega
  unfold spec_l6Open.f
  by_cases h : (l.length : Int) > 2000
  · refine ⟨l.take 2000, ?_, ?_, fun x hx => hb' x (List.mem_of_mem_take hx)⟩
    · rw [if_pos h, if_pos (by omega)]
    · rw [List.length_take]; omega
  · exact ⟨l, by rw [if_neg h], by omega, hb'⟩
end Go.Proofs.Ytlfalkbldjjomaa.PB

set_option linter.unusedVariables false
set_option linter.unusedSimpArgs false
namespace Go.Proofs.Ytlfalkbldjjomaa.PB
open Go.RowKit Go.Proofs.YtlfalkbldjjomaaW.PrintWords Go.Proofs.YtlfalkbldjjomaaW.PrintLast Go.Proofs.YtlfalkbldjjomaaW.PrintMore
theorem of_ev (l : List Int) (h : bytesOk l) (p : Int) (hp : 0 ≤ p) (hp' : p ≤ 1000000) (L : List ByteArray) (h1 : 1 ≤ L.length) (h2 : L.length ≤ 100) : ∃ v : Int, Ev (fun k => spec_l6Rd_of.f k l p L) (rdOf ByteArray.empty L v, p + 1) ∧ 0 ≤ v ∧ v < L.length := by
  obtain ⟨v, hv, v0, v1⟩ := pick_ev l h p hp hp' (L.length : Int) (by omega) (by omega)
  refine ⟨v, ?_, v0, v1⟩
  unfold spec_l6Rd_of.f
  refine Ev.bind hv ?_
  simp only [v0, v1, if_true]
  exact Ev.const rfl
theorem size_push (s : ByteArray) (b : UInt8) : (s ++ (⟨#[b]⟩ : ByteArray)).size = s.size + 1 := by
  rw [ByteArray.size_append]; rfl
theorem tree_end (l : List Int) (h : bytesOk l) (n up p : Int) (s : ByteArray) (st : List Int) (hn : 1 ≤ n) (hn' : n ≤ 4) (hs : ¬ (s.size : Int) < 2 * n) (hs' : s.size ≤ 8) (h1 : 1 ≤ st.length) (h8 : st.length ≤ 8) (hp : 0 ≤ p) (hp' : p ≤ 10000) :
    ∃ s' st' p', Ev (fun k => spec_l92Tree.l0 k n up l p s st) (s', st', p') ∧ s'.size ≤ 10 ∧ st'.length ≤ 10 := by
  have w2 : wrap64 (2 * n) = 2 * n := w64 (by omega) (by omega)
  obtain ⟨v, hv, v0, v1⟩ := pick_ev l h p hp (by omega) 40 (by omega) (by omega)
  by_cases c0 : v = 0
  · obtain ⟨q, hq, q0, q1⟩ := of_ev l h (p + 1) (by omega) (by omega) ([(⟨#[40]⟩ : ByteArray), (⟨#[41]⟩ : ByteArray), (⟨#[120]⟩ : ByteArray), (⟨#[40, 41]⟩ : ByteArray)] : List ByteArray) (by decide) (by decide)
    have hz : (rdOf ByteArray.empty ([(⟨#[40]⟩ : ByteArray), (⟨#[41]⟩ : ByteArray), (⟨#[120]⟩ : ByteArray), (⟨#[40, 41]⟩ : ByteArray)] : List ByteArray) q).size ≤ 2 := by
      have hc : q = 0 ∨ q = 1 ∨ q = 2 ∨ q = 3 := by
        have : q < 4 := q1
        omega
      rcases hc with rfl | rfl | rfl | rfl <;> decide
    generalize rdOf ByteArray.empty ([(⟨#[40]⟩ : ByteArray), (⟨#[41]⟩ : ByteArray), (⟨#[120]⟩ : ByteArray), (⟨#[40, 41]⟩ : ByteArray)] : List ByteArray) q = y at hq hz
    refine ⟨s ++ y, st, p + 1 + 1, Ev.s ?_, ?_, by omega⟩
    · simp only [spec_l92Tree.l0, w2, hs, if_false]
      refine Ev.bind hv ?_
      simp only [c0, if_true]
      refine Ev.bind hq ?_
      simp only [show s.size + y.size ≤ 9223372036854775807 by omega, if_true]
      exact Ev.const rfl
    · rw [ByteArray.size_append]; omega
  · by_cases c1 : v = 1
    · obtain ⟨q, hq, q0, q1⟩ := pick_ev l h (p + 1) (by omega) (by omega) 2 (by omega) (by omega)
      refine ⟨s, st.set (Int.toNat 0) (rd [(-2), 2] q), p + 1 + 1, Ev.s ?_, by omega, by simp; omega⟩
      simp only [spec_l92Tree.l0, w2, hs, if_false]
      refine Ev.bind hv ?_
      simp only [c1, show ¬ ((1 : Int) = 0) by decide, if_false, if_true, Option.bind_some]
      refine Ev.bind hq ?_
      simp only [q0, show q < (([(-2), 2] : List Int).length : Int) from q1, show (0 : Int) < (st.length : Int) by omega, if_true]
      exact Ev.const rfl
    · by_cases c2 : v = 2
      · refine ⟨s, st.drop (Int.toNat 1), p + 1, Ev.s ?_, by omega, by simp; omega⟩
        simp only [spec_l92Tree.l0, w2, hs, if_false]
        refine Ev.bind hv ?_
        simp only [c2, show ¬ ((2 : Int) = 0) by decide, show ¬ ((2 : Int) = 1) by decide, show (1 : Int) ≤ (st.length : Int) by omega, if_false, if_true]
        exact Ev.const rfl
      · refine ⟨s, st, p + 1, Ev.s ?_, by omega, by omega⟩
        simp only [spec_l92Tree.l0, w2, hs, if_false]
        refine Ev.bind hv ?_
        simp only [c0, c1, c2, if_false]
        exact Ev.const rfl
theorem tree_run (l : List Int) (h : bytesOk l) (n : Int) (hn : 1 ≤ n) (hn' : n ≤ 4) : ∀ (d : Nat) (up p : Int) (s : ByteArray) (st : List Int), 0 ≤ up → up ≤ st.length → (s.size : Int) + up = 2 * st.length → 2 * n - s.size = d → 0 ≤ p → p + 2 * d ≤ 1000 →
    ∃ s' st' p', Ev (fun k => spec_l92Tree.l0 k n up l p s st) (s', st', p') ∧ s'.size ≤ 10 ∧ st'.length ≤ 10
  | 0, up, p, s, st, hu, hu', hs, hd, hp, hp' => tree_end l h n up p s st hn hn' (by omega) (by omega) (by omega) (by omega) hp (by omega)
  | d + 1, up, p, s, st, hu, hu', hs, hd, hp, hp' => by
    have w2 : wrap64 (2 * n) = 2 * n := w64 (by omega) (by omega)
    have wm : wrap64 (up - 1) = up - 1 := w64 (by omega) (by omega)
    have wp : wrap64 (up + 1) = up + 1 := w64 (by omega) (by omega)
    have hlt : (s.size : Int) < 2 * n := by omega
    have hs1 : s.size + 1 ≤ 9223372036854775807 := by omega
    have hst : st.length < 17592186044416 := by omega
    have down : ∀ p1 : Int, 0 ≤ p1 → p1 ≤ p + 2 → up > 0 → ∃ s' st' p', Ev (fun k => spec_l92Tree.l0 k n (up - 1) l p1 (s ++ (⟨#[41]⟩ : ByteArray)) st) (s', st', p') ∧ s'.size ≤ 10 ∧ st'.length ≤ 10 := fun p1 h0 h1 hup =>
      tree_run l h n hn hn' d (up - 1) p1 _ st (by omega) (by omega) (by rw [size_push]; omega) (by rw [size_push]; omega) h0 (by omega)
    have over : ∀ (p1 x : Int), 0 ≤ p1 → p1 ≤ p + 2 → ∃ s' st' p', Ev (fun k => spec_l92Tree.l0 k n (up + 1) l p1 (s ++ (⟨#[40]⟩ : ByteArray)) (st ++ [x])) (s', st', p') ∧ s'.size ≤ 10 ∧ st'.length ≤ 10 := fun p1 x h0 h1 =>
      tree_run l h n hn hn' d (up + 1) p1 _ _ (by omega) (by simp; omega) (by rw [size_push]; simp; omega) (by rw [size_push]; omega) h0 (by omega)
    by_cases c1 : up > 0
    · by_cases c2 : (st.length : Int) = n
      · obtain ⟨s', st', p', e, z1, z2⟩ := down p hp (by omega) c1
        refine ⟨s', st', p', Ev.s ?_, z1, z2⟩
        simp only [spec_l92Tree.l0, w2, hlt, c1, c2, hs1, wm, if_true]
        exact e
      · obtain ⟨v, hv, v0, v1⟩ := pick_ev l h p hp (by omega) 2 (by omega) (by omega)
        by_cases c3 : v = 0
        · obtain ⟨s', st', p', e, z1, z2⟩ := down (p + 1) (by omega) (by omega) c1
          refine ⟨s', st', p', Ev.s ?_, z1, z2⟩
          simp only [spec_l92Tree.l0, w2, hlt, c1, c2, if_true, if_false]
          refine Ev.bind hv ?_
          simp only [c3, hs1, wm, if_true]
          exact e
        · obtain ⟨q, hq, q0, q1⟩ := pick_ev l h (p + 1) (by omega) (by omega) 3 (by omega) (by omega)
          obtain ⟨s', st', p', e, z1, z2⟩ := over (p + 1 + 1) (wrap64 (q - 1)) (by omega) (by omega)
          refine ⟨s', st', p', Ev.s ?_, z1, z2⟩
          simp only [spec_l92Tree.l0, w2, hlt, c1, c2, if_true, if_false]
          refine Ev.bind hv ?_
          simp only [c3, hs1, if_true, if_false]
          refine Ev.bind hq ?_
          simp only [hst, wp, if_true]
          exact e
    · obtain ⟨q, hq, q0, q1⟩ := pick_ev l h p hp (by omega) 3 (by omega) (by omega)
      obtain ⟨s', st', p', e, z1, z2⟩ := over (p + 1) (wrap64 (q - 1)) (by omega) (by omega)
      refine ⟨s', st', p', Ev.s ?_, z1, z2⟩
      simp only [spec_l92Tree.l0, w2, hlt, c1, hs1, if_true, if_false]
      refine Ev.bind hq ?_
      simp only [hst, wp, if_true]
      exact e
theorem l92Tree_ev (l : List Int) (h : bytesOk l) (most : Int) (hm : 1 ≤ most) (hm' : most ≤ 4) : ∃ s st p, Ev (fun k => spec_l92Tree.f k l 0 most) (s, st, p) ∧ s.size ≤ 10 ∧ st.length ≤ 10 := by
  obtain ⟨v, hv, v0, v1⟩ := pick_ev l h 0 (by omega) (by omega) most hm (by omega)
  obtain ⟨s, st, p, e, z1, z2⟩ := tree_run l h (1 + v) (by omega) (by omega) (2 * (1 + v)).toNat 0 (0 + 1) (⟨#[]⟩ : ByteArray) [] (by omega) (by simp) (by rfl) (by
    show 2 * (1 + v) - ((0 : Nat) : Int) = _
    omega) (by omega) (by omega)
  refine ⟨s, st, p, ?_, z1, z2⟩
  unfold spec_l92Tree.f
  refine Ev.bind hv ?_
  rw [w64 (x := 1 + v) (by omega) (by omega)]
  exact e
end Go.Proofs.Ytlfalkbldjjomaa.PB

set_option linter.unusedVariables false
set_option linter.unusedSimpArgs false
namespace Go.Proofs.Ytlfalkbldjjomaa.PB
open Go.RowKit Go.Proofs.YtlfalkbldjjomaaW.PrintWords Go.Proofs.YtlfalkbldjjomaaW.PrintLast Go.Proofs.YtlfalkbldjjomaaW.PrintMore
theorem sameInts_run (l : List Int) (hl : l.length ≤ 1048576) : ∀ (d : Nat) (i : Nat), l.length - i = d → i ≤ l.length → Ev (fun k => laws_sameInts.l0 k l l i) true
  | 0, i, hd, hi => by
    refine Ev.s ?_
    simp only [laws_sameInts.l0, show ¬ (i : Int) < (l.length : Int) by omega, if_false]
    exact Ev.const rfl
  | d + 1, i, hd, hi => by
    refine Ev.s ?_
    simp only [laws_sameInts.l0, show (i : Int) < (l.length : Int) by omega, show (0 : Int) ≤ i by omega, if_true]
    rw [w64 (x := (i : Int) + 1) (by omega) (by omega), show ((i : Int) + 1) = ((i + 1 : Nat) : Int) by omega]
    exact sameInts_run l hl d (i + 1) (by omega) (by omega)
theorem sameInts_same (l : List Int) (hl : l.length ≤ 1048576) : Ev (fun k => laws_sameInts.f k l l) true := by
  unfold laws_sameInts.f
  simp only [if_true]
  exact sameInts_run l hl l.length 0 (by omega) (by omega)
end Go.Proofs.Ytlfalkbldjjomaa.PB

set_option linter.unusedVariables false
set_option linter.unusedSimpArgs false
namespace Go.Proofs.Ytlfalkbldjjomaa.Pure
open Go.RowKit Go.Proofs.Ytlfalkbldjjomaa.PB Go.Proofs.YtlfalkbldjjomaaW.PrintWords Go.Proofs.YtlfalkbldjjomaaW.PrintLast Go.Proofs.YtlfalkbldjjomaaW.PrintMore
def chkFnNext (s : ByteArray) (l : List Int) : Bool :=
  match impl_TreeNext.f 300 s l with
  | some (r, true) => decide (laws_FnNext.j0 300 r true r true false s l = some true)
  | _ => false
theorem chkFnNext_all (s : ByteArray) (l : List Int) (h : treeOk s l) : chkFnNext s l = true := chk_all chkFnNext (by decide +kernel) (by decide +kernel) (by decide +kernel) s l h
theorem FnNext : laws_FnNext.Pure := by
  intro c _ _ hc
  by_cases hs : (c.length : Int) > 1048576
  · exact ⟨0, by unfold laws_FnNext.f; rw [if_pos hs]⟩
  · refine Ev.rounds (r := true) ?_
    unfold laws_FnNext.f
    simp only [hs, if_false]
    obtain ⟨c', ho, hb'⟩ := open_ev c hc
    obtain ⟨s, l, p, hd, z1, z2⟩ := l92Tree_ev c' hb' 3 (by omega) (by omega)
    have hdraw : Ev (fun k => spec_DrawTreeNext.f k c) (s, l) := by
      unfold spec_DrawTreeNext.f
      simp only [ho, Option.bind_some]
      exact Ev.bind hd (Ev.const rfl)
    refine Ev.bind hdraw ?_
    obtain ⟨r, b, e1, e2, hr⟩ := bothTreeNext s (by omega) l (by omega)
    refine Ev.bind e2 ?_
    refine Ev.bind e1 ?_
    have hbb : (b != b) = false := by simp
    simp only [hbb, Bool.false_eq_true, if_false]
    refine Ev.bind (sameInts_same r hr) ?_
    simp only [if_true]
    cases b with
    | false =>
      refine Ev.s ?_
      simp only [laws_FnNext.j0, Bool.not_false, if_true, beq_self_eq_true]
      exact Ev.bind (sameInts_same r hr) (Ev.const rfl)
    | true =>
      obtain ⟨b', b1, b2, b3⟩ := treeValid_both s (by omega) l (by omega)
      have hok : treeOk s l := by
        cases b' with
        | true => exact b3 rfl
        | false =>
          exfalso
          have e3 : Ev (fun k => impl_TreeNext.f k s l) ([], false) := by
            unfold impl_TreeNext.f
            exact Ev.bind b2 (Ev.const rfl)
          have := Ev.uniq e2 e3
          cases this
      have hck := chkFnNext_all s l hok
      unfold chkFnNext at hck
      cases e4 : impl_TreeNext.f 300 s l with
      | none => rw [e4] at hck; cases hck
      | some q =>
        obtain ⟨r', b''⟩ := q
        have e5 := Ev.uniq e2 (Ev.of (impl_TreeNext.mono _ _) e4)
        obtain ⟨rfl, rfl⟩ := Prod.mk.inj e5
        rw [e4] at hck
        simp only [decide_eq_true_eq] at hck
        simp only [Bool.not_true]
        exact Ev.of (fun k => (laws_FnNext.mono_l k).1 _ _ _ _ _ _ _) hck
end Go.Proofs.Ytlfalkbldjjomaa.Pure

namespace Go.Proofs.Ytlfalkbldjjomaa.fnNext
open Go.ChangeShapes Go.WideShapes Go.ChangeAt Go.RowKit
open Go.ChangeMaps (open_string shut_string)
set_option linter.unusedVariables false
theorem own : ownKnob Try.prog.godebug = none := by kernel_rfl
theorem laidOut : laidOutB Try.prog = true := by kernel_rfl
def IsRow (k : IntKind) (w : World) (a : Option Addr) (len cap : Nat) (zs : List Int) : Prop :=
 (a = none ∧ len = 0 ∧ cap = 0 ∧ zs = []) ∨
 ∃ x, a = some x ∧ len ≤ cap ∧ cap ≤ maxLen ∧ zs.length = cap ∧ (∀ i, i < zs.length → w.cell? (x.add i) = some (.int k (zs.getD i 0))) ∧ ∀ n ∈ zs, (Lit.int k n).wf = true
set_option maxRecDepth 100000 in
theorem lifted (os : Os) (started : os.Started) (H : Type) (enc : TypeId × Value → H) :
  ReturnsInHanded {} Try.checked os 12 .any (Rows.fnNextSpec.pre6 enc Try.prog Try.f12 Rows.fnNextRow.domain false) (Rows.fnNextSpec.post enc Try.prog Try.f12 false true false false) := by
 refine returnsInHanded_of_change_sized (C := Try.checked) own started (by kernel_rfl) Try.func12
  (ChangeSpec.witness6 (enc := enc) (C := Try.checked) false ⟨#[], #[.slice none 0 0], []⟩ 8 (by kernel_rfl) (by kernel_rfl) (by kernel_rfl) (by kernel_rfl)) ?_
 intro W base args ds gs before hval0 hW hcnd hsz0 _
 have hsz : (DataW.weightsEach Try.prog (Try.f12.params.toList ++ Rows.fnNextSpec.plain.varTypes Try.prog) (ds ++ gs)).all (· ≤ reachBytes) = true := hsz0
 have hval : ∀ (j : Nat) t v, Try.f12.params[j]? = some t → args[j]? = some v → Value.okWide Try.prog W .any base t v := hval0
 have hW' := hW
 obtain ⟨p, q, hA0, hV, rfl, hfz, hnd⟩ := hW
 have hA : DataW.TrodAll enc Try.prog W 0 (fun _ => true) true Try.f12.params.toList args.toList ds p := hA0
 rw [Try.params12] at hA hval hsz
 obtain ⟨v0, vs0, d0, ds0, p0, q0, hargs, rfl, rfl, h0, r0⟩ := trodAll_cons hA
 obtain ⟨rfl, rfl, rfl⟩ := trodAll_nil r0
 obtain rfl : args = #[v0] := by cases args; simp_all
 obtain ⟨rfl, rfl⟩ := trodVars_none hV
 obtain ⟨a0, len0, cap0, rfl⟩ := okWide_slice Try.underlying27 (hval 0 27 v0 rfl rfl)
 have k0 := h0
 have lt0 : ∀ x ∈ p0, x.block < W.heap.size := by obtain ⟨m, hm⟩ := k0; exact DataW.trod_lt m _ _ _ hm
 obtain ⟨z0, w0⟩ : ∃ zs, IsRow .u8 W a0 len0 cap0 zs := by
  obtain ⟨fuel, hf⟩ := h0
  rcases open_ints Try.underlying27 Try.underlying5 (by kernel_rfl) hf with ⟨hcs, _⟩ | ⟨x, l, c, zs, hcs, _, hl, hm, hz, _, hcell, hwz⟩
  ·
   simp [Value.cells] at hcs
   obtain ⟨rfl, rfl, rfl⟩ := hcs
   exact ⟨[], .inl ⟨rfl, rfl, rfl, rfl⟩⟩
  ·
   simp [Value.cells] at hcs
   obtain ⟨rfl, rfl, rfl⟩ := hcs
   exact ⟨zs, .inr ⟨_, rfl, hl, hm, by simpa using hz, hcell, hwz⟩⟩
 have y0 : len0 * 1 ≤ 140737488351232 := Go.Proofs.YtlfalkbldjjomaaW.PrintWords.sized_ints hsz (j := 0) (t := 27) rfl rfl Try.underlying27 Try.underlying5 (by kernel_rfl) (by kernel_rfl) h0
 clear hA0 hval0 hsz0 hsz
 refine (PB.laws_FnNext.walk Pure.FnNext a0 len0 cap0 z0 W w0 y0).mono fun e W' ⟨he, bel⟩ => ?_
 subst he
 exact ⟨_, rfl, _, _, _, [], _, [], hW', trodAll_mk1 (shut_bool Try.underlying4 _), (trodAll_cons_mk (Below.trod laidOut (by kernel_rfl) (of_decide_eq_true (by kernel_rfl)) k0 bel lt0) trodAll_mk0), rfl, bel.frame _, fun h => by cases h⟩
theorem over : Rows.fnNextRow.holds Try.pinned (OpenSpec.ofChange Rows.fnNextSpec) :=
 OpenClaim.holds_of_wide 12 Try.f12 rfl rfl rfl rfl rfl rfl rfl ⟨rfl, rfl, rfl, rfl, rfl⟩ rfl rfl rfl rfl rfl (by kernel_rfl) Try.func12 (by kernel_rfl)
  (of_decide_eq_true (by kernel_rfl)) (by unfold Func.isWrapper; first | (rw [if_pos (by decide +kernel)]; kernel_rfl) | (rw [if_neg (by decide +kernel)]; exact ⟨rfl, rfl⟩))
  (fun os started H enc _ => lifted os started H enc)
theorem proved : Rows.FnNextSaid := over
#print axioms proved
end Go.Proofs.Ytlfalkbldjjomaa.fnNext
namespace Go.Proofs.Ytlfalkbldjjomaa
theorem fnNext_holds : Rows.FnNextSaid := fnNext.proved
end Go.Proofs.Ytlfalkbldjjomaa
