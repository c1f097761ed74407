/- For every code: of the map and the choice that the statement draws, ChoiceTree of the program answers what the reference answers; and a spanning tree has one edge less than there are vertices, genus 0 and one side, and falls in two parts without any of its edges. There are no conditions. -/
import Derived.Test.YtjgknblneokhlaaKFnChoiceTreeOwnx3
namespace Go.Proofs.Ytjgknblneokhlaa.PA
open Go.RowKit Go.Proofs.YtjgknblneokhlaaW.PrintWords Go.Proofs.YtjgknblneokhlaaW.PrintLast Go.Proofs.YtjgknblneokhlaaW.PrintMore
attribute [local go_sem] max2_int min2_int max_two min_two max_three min_three max_four min_four   -- for this text's walks alone
set_option linter.unusedVariables false
set_option linter.unusedSimpArgs false
mutual
def spec_l7Sides.l0 : Nat → List Int → List Int → List Int → Int → List (List Int) → Int → List Int → List Int → Option (Int)
 | 0, _, _, _, _, _, _, _, _ => none
 | k + 1, x1, x5, x6, x7, x8, x9, xZ0, xZ1 => if x9 < (x8.length : Int) then (spec_l7Sides.l1 k x1 x5 x6 x7 x8 x9 0 0 xZ0 xZ1) else (spec_l7Sides.l2 k x1 x5 x6 x7 0 xZ0 xZ1)
def spec_l7Sides.l1 : Nat → List Int → List Int → List Int → Int → List (List Int) → Int → Int → Int → List Int → List Int → Option (Int)
 | 0, _, _, _, _, _, _, _, _, _, _ => none
 | k + 1, x1, x5, x6, x7, x8, x9, x10, x11, xZ0, xZ1 => if 0 ≤ x9 then (if x9 < (x8.length : Int) then (if x11 < ((rd_L2 x8 x9).length : Int) then (if 0 ≤ x11 then (if 0 ≤ (rd (rd_L2 x8 x9) x11) then (if (rd (rd_L2 x8 x9) x11) < (x5.length : Int) then ((spec_l7Has.f k x1 (rd x5 (rd (rd_L2 x8 x9) x11))).bind fun t585 => (if t585 = true then (spec_l7Sides.l1 k x1 x5 x6 x7 x8 x9 (wrap64 (x10 + 1)) (wrap64 (x11 + 1)) xZ0 xZ1) else (spec_l7Sides.l1 k x1 x5 x6 x7 x8 x9 x10 (wrap64 (x11 + 1)) xZ0 xZ1))) else (none)) else (none)) else (none)) else (if x10 = 0 then (spec_l7Sides.l0 k x1 x5 x6 (wrap64 (x7 + 1)) x8 (wrap64 (x9 + 1)) xZ0 xZ1) else (spec_l7Sides.l0 k x1 x5 x6 x7 x8 (wrap64 (x9 + 1)) xZ0 xZ1))) else (none)) else (none)
def spec_l7Sides.l2 : Nat → List Int → List Int → List Int → Int → Int → List Int → List Int → Option (Int)
 | 0, _, _, _, _, _, _, _ => none
 | k + 1, x1, x5, x6, x7, x12, xZ0, xZ1 => if x12 < (x6.length : Int) then (if 0 ≤ x12 then (if x12 < (x5.length : Int) then ((spec_l7Has.f k x1 (rd x5 x12)).bind fun t590 => (if t590 = true then (if x12 < (xZ1.length : Int) then (if 0 ≤ (rd xZ1 x12) then (if (rd xZ1 x12) < (xZ0.length : Int) then (spec_l7Sides.l3 k x1 x5 x6 x7 x12 (rd xZ0 (rd xZ1 x12)) xZ0 xZ1) else (none)) else (none)) else (none)) else (spec_l7Sides.l2 k x1 x5 x6 x7 (wrap64 (x12 + 1)) xZ0 xZ1))) else (none)) else (none)) else ((spec_l1Cycles.f k x6).bind fun t586 => (some (wrap64 ((wrap64 ((t586.length : Int) - (wrap64 ((x6.length : Int) - (wrap64 (2 * (x1.length : Int))))))) + x7))))
def spec_l7Sides.l3 : Nat → List Int → List Int → List Int → Int → Int → Int → List Int → List Int → Option (Int)
 | 0, _, _, _, _, _, _, _, _ => none
 | k + 1, x1, x5, x6, x7, x12, x13, xZ0, xZ1 => if 0 ≤ x13 then (if x13 < (x5.length : Int) then ((spec_l7Has.f k x1 (rd x5 x13)).bind fun t594 => (if t594 = true then (if 0 ≤ x12 then (if x12 < (x6.length : Int) then (spec_l7Sides.l2 k x1 x5 (x6.set (x12 : Int).toNat x13) x7 (wrap64 (x12 + 1)) xZ0 xZ1) else (none)) else (none)) else (if x13 < (xZ0.length : Int) then (spec_l7Sides.l3 k x1 x5 x6 x7 x12 (rd xZ0 x13) xZ0 xZ1) else (none)))) else (none)) else (none)
end
def spec_l7Sides.f (k : Nat) (l0_0 : List Int) (l0_1 : List Int) (l1 : List Int) : Option (Int) := (spec_l7Edges.f k l0_0 l0_1).bind fun t572 => ((spec_l1Same.f k (l0_1.length : Int)).bind fun t575 => ((spec_l1Cycles.f k l0_0).bind fun t578 => (spec_l7Sides.l0 k l1 t572 t575 0 t578 0 l0_0 l0_1)))
set_option maxHeartbeats 8000000 in
set_option maxRecDepth 100000 in
theorem spec_l7Sides.calls (k : Nat) (A0_0 : Option Addr) (c0_0 : Nat) (l0_0 : List Int) (A0_1 : Option Addr) (c0_1 : Nat) (l0_1 : List Int) (A1 : Option Addr) (c1 : Nat) (l1 : List Int) (r : Int) (w : World) (hr0_0 : Kd.C (Kd.int .i64) w A0_0 l0_0.length l0_0) (hc0_0 : l0_0.length ≤ c0_0) (hr0_1 : Kd.C (Kd.int .i64) w A0_1 l0_1.length l0_1) (hc0_1 : l0_1.length ≤ c0_1) (hr1 : Kd.C (Kd.int .i64) w A1 l1.length l1) (hc1 : l1.length ≤ c1) (h : spec_l7Sides.f k l0_0 l0_1 l1 = some r) :
  Calls Try.prog 104 #[.agg #[.slice A0_0 l0_0.length c0_0, .slice A0_1 l0_1.length c0_1], .slice A1 l1.length c1] w fun e w' => e = .returned (.int .i64 r) ∧ Below w.heap.size w w' := by
 have hu25 := Try.underlying25; have HR0_0 := Az hr0_0; have HC0_0 := Az hc0_0; clear hr0_0 hc0_0; have HR0_1 := Az hr0_1; have HC0_1 := Az hc0_1; clear hr0_1 hc0_1; have HR1 := Az hr1; have HC1 := Az hc1; clear hr1 hc1; have HB := Az (Below.refl w.heap.size w); have H : ((spec_l7Edges.f k l0_0 l0_1).bind fun t572 => ((spec_l1Same.f k (l0_1.length : Int)).bind fun t575 => ((spec_l1Cycles.f k l0_0).bind fun t578 => (spec_l7Sides.l0 k l1 t572 t575 0 t578 0 l0_0 l0_1)))) = some r := h; clear h; replace H := Option.bind_eq_some_iff.mp H; obtain ⟨t572, A30, H⟩ := H; replace H : ((spec_l1Same.f k (l0_1.length : Int)).bind fun t575 => ((spec_l1Cycles.f k l0_0).bind fun t578 => (spec_l7Sides.l0 k l1 t572 t575 0 t578 0 l0_0 l0_1))) = some r := H; have A3 := Az A30; clear A30; replace H := Option.bind_eq_some_iff.mp H; obtain ⟨t575, A40, H⟩ := H; replace H : ((spec_l1Cycles.f k l0_0).bind fun t578 => (spec_l7Sides.l0 k l1 t572 t575 0 t578 0 l0_0 l0_1)) = some r := H; have A4 := Az A40; clear A40; replace H := Option.bind_eq_some_iff.mp H; obtain ⟨t578, A50, H⟩ := H; replace H : (spec_l7Sides.l0 k l1 t572 t575 0 t578 0 l0_0 l0_1) = some r := H; have A5 := Az A50; clear A50; have H' := Az H; clear H
 go_enter Try.func104, Try.ntmps104
 go_wp2_with (first | ((with_reducible refine gate_dst (N := 2) rfl ?_); refine box_event ?hg (N := 2) ?hd (cs := #[.slice A0_0 l0_0.length c0_0, .slice A0_1 l0_1.length c0_1]) (t := 25) ?hr ?_; (case hd => rfl); (case hg => rfl); (case hr => first | (go_simp; done) | (go_simp; rfl)); intro gb571 hg w6 hbox hb; have n0 := Az (below_step (bU0 HB.out) hb); have n1 := Az (hbox); have n2 := Az ((by rw [hg]; exact (below_size (bU0 HB.out)) : w.heap.size ≤ gb571)); have n3 := n2; clear HB; have HB := n0; have BK571 := n1; have GW571 := n2; have GE571 := n3; clear n0 n1 n2 n3 hb hbox hg; have hcz7_0 : w6.cell? ⟨gb571, 0, none⟩ = some (.slice A0_0 l0_0.length c0_0) := (blk_cell BK571.out 0).trans rfl; have hcz7_1 : w6.cell? ⟨gb571, 1, none⟩ = some (.slice A0_1 l0_1.length c0_1) := (blk_cell BK571.out 1).trans rfl; have hfz7_0 := blk_frozen BK571.out 0; have hfz7_1 := blk_frozen BK571.out 1) | (go_at_call 107; (with_reducible refine (spec_l7Edges.calls k _ _ l0_0 _ _ l0_1 t572 _ ?side1 ?side2 ?side3 ?side4 A3.out).mono ?_); (case side1 => exact cU (Kd.C_below HR0_0.out HB.out)); (case side2 => exact HC0_0.out); (case side3 => exact cU (Kd.C_below HR0_1.out HB.out)); (case side4 => exact HC0_1.out); rintro e w8 ⟨v573, rfl, ho0, hb⟩; have n0 := Az (Kd.R_lower ho0 (below_size (bU1 HB.out GE571.out))); have n1 := Az (blk_below (g := gb571) (o := .cells #[.slice A0_0 l0_0.length c0_0, .slice A0_1 l0_1.length c0_1] 25 (0, 0)) (kU BK571.out) hb); have n2 := Az (below_step (bU1 HB.out GE571.out) hb); clear BK571 HB; have HO574 := n0; have BK571 := n1; have HB := n2; clear n0 n1 n2; (try clear hb); (try clear hb2); (try clear hk); (try clear hi); (try clear ho0); have hcz9_0 : w8.cell? ⟨gb571, 0, none⟩ = some (.slice A0_0 l0_0.length c0_0) := (blk_cell BK571.out 0).trans rfl; have hcz9_1 : w8.cell? ⟨gb571, 1, none⟩ = some (.slice A0_1 l0_1.length c0_1) := (blk_cell BK571.out 1).trans rfl; have hfz9_0 := blk_frozen BK571.out 0; have hfz9_1 := blk_frozen BK571.out 1) | (go_at_call 108; (with_reducible refine (spec_l1Same.calls k (l0_1.length : Int) t575 _ A4.out).mono ?_); rintro e w10 ⟨v576, rfl, ho0, hb⟩; have n0 := Az (Kd.R_elder' (rU HO574.out) (Kd.R_base ho0) hb); have n1 := Az (Kd.R_lower (Kd.R_new' ho0 (Kd.R_lt (rU HO574.out))) (below_size (bU1 HB.out GE571.out))); have n2 := Az (blk_below (g := gb571) (o := .cells #[.slice A0_0 l0_0.length c0_0, .slice A0_1 l0_1.length c0_1] 25 (0, 0)) (kU BK571.out) hb); have n3 := Az (below_step (bU1 HB.out GE571.out) hb); clear HO574 BK571 HB; have HO574 := n0; have HO577 := n1; have BK571 := n2; have HB := n3; clear n0 n1 n2 n3; (try clear hb); (try clear hb2); (try clear hk); (try clear hi); (try clear ho0); have hcz11_0 : w10.cell? ⟨gb571, 0, none⟩ = some (.slice A0_0 l0_0.length c0_0) := (blk_cell BK571.out 0).trans rfl; have hcz11_1 : w10.cell? ⟨gb571, 1, none⟩ = some (.slice A0_1 l0_1.length c0_1) := (blk_cell BK571.out 1).trans rfl; have hfz11_0 := blk_frozen BK571.out 0; have hfz11_1 := blk_frozen BK571.out 1) | (go_at_call 81; (with_reducible refine (spec_l1Cycles.calls k _ _ l0_0 t578 _ ?side1 ?side2 A5.out).mono ?_); (case side1 => exact cU (Kd.C_below HR0_0.out HB.out)); (case side2 => exact HC0_0.out); rintro e w12 ⟨v579, rfl, ho0, hb⟩; have n0 := Az (Kd.R_below (rU HO574.out) hb); have n1 := Az (Kd.R_below (rU HO577.out) hb); have n2 := Az (Kd.S_lower (Kd.S_new' (Kd.S_new' ho0 (Kd.R_lt (rU HO574.out))) (Kd.R_lt (rU HO577.out))) (below_size (bU1 HB.out GE571.out))); have n3 := Az (blk_below (g := gb571) (o := .cells #[.slice A0_0 l0_0.length c0_0, .slice A0_1 l0_1.length c0_1] 25 (0, 0)) (kU BK571.out) hb); have n4 := Az (below_step (bU1 HB.out GE571.out) hb); clear HO574 HO577 BK571 HB; have HO574 := n0; have HO577 := n1; have HO580 := n2; have BK571 := n3; have HB := n4; clear n0 n1 n2 n3 n4; (try clear hb); (try clear hb2); (try clear hk); (try clear hi); (try clear ho0)))
 repeat (go_quiet (first | ((with_reducible refine gate_dst (N := 2) rfl ?_); refine box_event ?hg (N := 2) ?hd (cs := #[.slice A0_0 l0_0.length c0_0, .slice A0_1 l0_1.length c0_1]) (t := 25) ?hr ?_; (case hd => rfl); (case hg => rfl); (case hr => first | (go_simp; done) | (go_simp; rfl)); intro gb571 hg w6 hbox hb; have n0 := Az (below_step (bU0 HB.out) hb); have n1 := Az (hbox); have n2 := Az ((by rw [hg]; exact (below_size (bU0 HB.out)) : w.heap.size ≤ gb571)); have n3 := n2; clear HB; have HB := n0; have BK571 := n1; have GW571 := n2; have GE571 := n3; clear n0 n1 n2 n3 hb hbox hg; have hcz7_0 : w6.cell? ⟨gb571, 0, none⟩ = some (.slice A0_0 l0_0.length c0_0) := (blk_cell BK571.out 0).trans rfl; have hcz7_1 : w6.cell? ⟨gb571, 1, none⟩ = some (.slice A0_1 l0_1.length c0_1) := (blk_cell BK571.out 1).trans rfl; have hfz7_0 := blk_frozen BK571.out 0; have hfz7_1 := blk_frozen BK571.out 1) | (go_at_call 107; (try simp only [Go.IntWalk.i64_left]); (with_reducible refine (spec_l7Edges.calls k _ _ l0_0 _ _ l0_1 t572 _ ?side1 ?side2 ?side3 ?side4 A3.out).mono ?_); (case side1 => exact cU (Kd.C_below HR0_0.out HB.out)); (case side2 => exact HC0_0.out); (case side3 => exact cU (Kd.C_below HR0_1.out HB.out)); (case side4 => exact HC0_1.out); rintro e w8 ⟨v573, rfl, ho0, hb⟩; have n0 := Az (Kd.R_lower ho0 (below_size (bU1 HB.out GE571.out))); have n1 := Az (blk_below (g := gb571) (o := .cells #[.slice A0_0 l0_0.length c0_0, .slice A0_1 l0_1.length c0_1] 25 (0, 0)) (kU BK571.out) hb); have n2 := Az (below_step (bU1 HB.out GE571.out) hb); clear BK571 HB; have HO574 := n0; have BK571 := n1; have HB := n2; clear n0 n1 n2; (try clear hb); (try clear hb2); (try clear hk); (try clear hi); (try clear ho0); have hcz9_0 : w8.cell? ⟨gb571, 0, none⟩ = some (.slice A0_0 l0_0.length c0_0) := (blk_cell BK571.out 0).trans rfl; have hcz9_1 : w8.cell? ⟨gb571, 1, none⟩ = some (.slice A0_1 l0_1.length c0_1) := (blk_cell BK571.out 1).trans rfl; have hfz9_0 := blk_frozen BK571.out 0; have hfz9_1 := blk_frozen BK571.out 1) | (go_at_call 108; (try simp only [Go.IntWalk.i64_left]); (with_reducible refine (spec_l1Same.calls k (l0_1.length : Int) t575 _ A4.out).mono ?_); rintro e w10 ⟨v576, rfl, ho0, hb⟩; have n0 := Az (Kd.R_elder' (rU HO574.out) (Kd.R_base ho0) hb); have n1 := Az (Kd.R_lower (Kd.R_new' ho0 (Kd.R_lt (rU HO574.out))) (below_size (bU1 HB.out GE571.out))); have n2 := Az (blk_below (g := gb571) (o := .cells #[.slice A0_0 l0_0.length c0_0, .slice A0_1 l0_1.length c0_1] 25 (0, 0)) (kU BK571.out) hb); have n3 := Az (below_step (bU1 HB.out GE571.out) hb); clear HO574 BK571 HB; have HO574 := n0; have HO577 := n1; have BK571 := n2; have HB := n3; clear n0 n1 n2 n3; (try clear hb); (try clear hb2); (try clear hk); (try clear hi); (try clear ho0); have hcz11_0 : w10.cell? ⟨gb571, 0, none⟩ = some (.slice A0_0 l0_0.length c0_0) := (blk_cell BK571.out 0).trans rfl; have hcz11_1 : w10.cell? ⟨gb571, 1, none⟩ = some (.slice A0_1 l0_1.length c0_1) := (blk_cell BK571.out 1).trans rfl; have hfz11_0 := blk_frozen BK571.out 0; have hfz11_1 := blk_frozen BK571.out 1) | (go_at_call 81; (try simp only [Go.IntWalk.i64_left]); (with_reducible refine (spec_l1Cycles.calls k _ _ l0_0 t578 _ ?side1 ?side2 A5.out).mono ?_); (case side1 => exact cU (Kd.C_below HR0_0.out HB.out)); (case side2 => exact HC0_0.out); rintro e w12 ⟨v579, rfl, ho0, hb⟩; have n0 := Az (Kd.R_below (rU HO574.out) hb); have n1 := Az (Kd.R_below (rU HO577.out) hb); have n2 := Az (Kd.S_lower (Kd.S_new' (Kd.S_new' ho0 (Kd.R_lt (rU HO574.out))) (Kd.R_lt (rU HO577.out))) (below_size (bU1 HB.out GE571.out))); have n3 := Az (blk_below (g := gb571) (o := .cells #[.slice A0_0 l0_0.length c0_0, .slice A0_1 l0_1.length c0_1] 25 (0, 0)) (kU BK571.out) hb); have n4 := Az (below_step (bU1 HB.out GE571.out) hb); clear HO574 HO577 BK571 HB; have HO574 := n0; have HO577 := n1; have HO580 := n2; have BK571 := n3; have HB := n4; clear n0 n1 n2 n3 n4; (try clear hb); (try clear hb2); (try clear hk); (try clear hi); (try clear ho0))); try go_wp2_with (first | ((with_reducible refine gate_dst (N := 2) rfl ?_); refine box_event ?hg (N := 2) ?hd (cs := #[.slice A0_0 l0_0.length c0_0, .slice A0_1 l0_1.length c0_1]) (t := 25) ?hr ?_; (case hd => rfl); (case hg => rfl); (case hr => first | (go_simp; done) | (go_simp; rfl)); intro gb571 hg w6 hbox hb; have n0 := Az (below_step (bU0 HB.out) hb); have n1 := Az (hbox); have n2 := Az ((by rw [hg]; exact (below_size (bU0 HB.out)) : w.heap.size ≤ gb571)); have n3 := n2; clear HB; have HB := n0; have BK571 := n1; have GW571 := n2; have GE571 := n3; clear n0 n1 n2 n3 hb hbox hg; have hcz7_0 : w6.cell? ⟨gb571, 0, none⟩ = some (.slice A0_0 l0_0.length c0_0) := (blk_cell BK571.out 0).trans rfl; have hcz7_1 : w6.cell? ⟨gb571, 1, none⟩ = some (.slice A0_1 l0_1.length c0_1) := (blk_cell BK571.out 1).trans rfl; have hfz7_0 := blk_frozen BK571.out 0; have hfz7_1 := blk_frozen BK571.out 1) | (go_at_call 107; (try simp only [Go.IntWalk.i64_left]); (with_reducible refine (spec_l7Edges.calls k _ _ l0_0 _ _ l0_1 t572 _ ?side1 ?side2 ?side3 ?side4 A3.out).mono ?_); (case side1 => exact cU (Kd.C_below HR0_0.out HB.out)); (case side2 => exact HC0_0.out); (case side3 => exact cU (Kd.C_below HR0_1.out HB.out)); (case side4 => exact HC0_1.out); rintro e w8 ⟨v573, rfl, ho0, hb⟩; have n0 := Az (Kd.R_lower ho0 (below_size (bU1 HB.out GE571.out))); have n1 := Az (blk_below (g := gb571) (o := .cells #[.slice A0_0 l0_0.length c0_0, .slice A0_1 l0_1.length c0_1] 25 (0, 0)) (kU BK571.out) hb); have n2 := Az (below_step (bU1 HB.out GE571.out) hb); clear BK571 HB; have HO574 := n0; have BK571 := n1; have HB := n2; clear n0 n1 n2; (try clear hb); (try clear hb2); (try clear hk); (try clear hi); (try clear ho0); have hcz9_0 : w8.cell? ⟨gb571, 0, none⟩ = some (.slice A0_0 l0_0.length c0_0) := (blk_cell BK571.out 0).trans rfl; have hcz9_1 : w8.cell? ⟨gb571, 1, none⟩ = some (.slice A0_1 l0_1.length c0_1) := (blk_cell BK571.out 1).trans rfl; have hfz9_0 := blk_frozen BK571.out 0; have hfz9_1 := blk_frozen BK571.out 1) | (go_at_call 108; (try simp only [Go.IntWalk.i64_left]); (with_reducible refine (spec_l1Same.calls k (l0_1.length : Int) t575 _ A4.out).mono ?_); rintro e w10 ⟨v576, rfl, ho0, hb⟩; have n0 := Az (Kd.R_elder' (rU HO574.out) (Kd.R_base ho0) hb); have n1 := Az (Kd.R_lower (Kd.R_new' ho0 (Kd.R_lt (rU HO574.out))) (below_size (bU1 HB.out GE571.out))); have n2 := Az (blk_below (g := gb571) (o := .cells #[.slice A0_0 l0_0.length c0_0, .slice A0_1 l0_1.length c0_1] 25 (0, 0)) (kU BK571.out) hb); have n3 := Az (below_step (bU1 HB.out GE571.out) hb); clear HO574 BK571 HB; have HO574 := n0; have HO577 := n1; have BK571 := n2; have HB := n3; clear n0 n1 n2 n3; (try clear hb); (try clear hb2); (try clear hk); (try clear hi); (try clear ho0); have hcz11_0 : w10.cell? ⟨gb571, 0, none⟩ = some (.slice A0_0 l0_0.length c0_0) := (blk_cell BK571.out 0).trans rfl; have hcz11_1 : w10.cell? ⟨gb571, 1, none⟩ = some (.slice A0_1 l0_1.length c0_1) := (blk_cell BK571.out 1).trans rfl; have hfz11_0 := blk_frozen BK571.out 0; have hfz11_1 := blk_frozen BK571.out 1) | (go_at_call 81; (try simp only [Go.IntWalk.i64_left]); (with_reducible refine (spec_l1Cycles.calls k _ _ l0_0 t578 _ ?side1 ?side2 A5.out).mono ?_); (case side1 => exact cU (Kd.C_below HR0_0.out HB.out)); (case side2 => exact HC0_0.out); rintro e w12 ⟨v579, rfl, ho0, hb⟩; have n0 := Az (Kd.R_below (rU HO574.out) hb); have n1 := Az (Kd.R_below (rU HO577.out) hb); have n2 := Az (Kd.S_lower (Kd.S_new' (Kd.S_new' ho0 (Kd.R_lt (rU HO574.out))) (Kd.R_lt (rU HO577.out))) (below_size (bU1 HB.out GE571.out))); have n3 := Az (blk_below (g := gb571) (o := .cells #[.slice A0_0 l0_0.length c0_0, .slice A0_1 l0_1.length c0_1] 25 (0, 0)) (kU BK571.out) hb); have n4 := Az (below_step (bU1 HB.out GE571.out) hb); clear HO574 HO577 BK571 HB; have HO574 := n0; have HO577 := n1; have HO580 := n2; have BK571 := n3; have HB := n4; clear n0 n1 n2 n3 n4; (try clear hb); (try clear hb2); (try clear hk); (try clear hi); (try clear ho0))))
 go_loopg [7, 9] k (fun kq v7 v9 w' => ∃ (x7_1 : Int) (x9_1 : Int), v7 = .int .i64 x7_1 ∧ v9 = .int .i64 x9_1 ∧ Aside0 (spec_l7Sides.l0 kq l1 t572 t575 x7_1 t578 x9_1 l0_0 l0_1 = some r) ∧ Aside0 (kq ≤ k) ∧ Aside0 (Kd.R (Kd.int .i64) 3 w' w.heap.size (fun k_ => some k_ ≠ (v576 : Value).ownBlock) v573 t572) ∧ Aside0 (Kd.R (Kd.int .i64) 3 w' w.heap.size (fun k_ => some k_ ≠ (v573 : Value).ownBlock) v576 t575) ∧ Aside0 (Kd.S (Kd.slice 3 (Kd.int .i64)) 23 w' w.heap.size (fun k_ => some k_ ≠ (v573 : Value).ownBlock ∧ some k_ ≠ (v576 : Value).ownBlock) v579 t578) ∧ Aside0 (w'.heap[gb571]? = some (.cells #[(.slice A0_0 l0_0.length c0_0), (.slice A0_1 l0_1.length c0_1)] 25 (0, 0))) ∧ Aside0 (Below w.heap.size w w'))
 case atStart => exact ⟨(0), (0), rS, rS, H', ⟨Nat.le_refl _⟩, ⟨by (with_reducible repeat (first | apply Kd.R_alloc | apply Kd.R_drewN | apply Kd.R_drew)); exact Kd.R_mono HO574.out (fun _ hk => hk.2)⟩, ⟨by (with_reducible repeat (first | apply Kd.R_alloc | apply Kd.R_drewN | apply Kd.R_drew)); exact Kd.R_mono HO577.out (fun _ hk => hk.2)⟩, ⟨by (with_reducible repeat (first | apply Kd.S_alloc | apply Kd.S_drewN | apply Kd.S_drew)); exact Kd.S_mono HO580.out (fun _ hk => ⟨hk.1.2, hk.2⟩)⟩, ⟨kU BK571.out⟩, ⟨bU1 HB.out GE571.out⟩⟩
 case round =>
  clear H'; (try clear c1); (try clear p2); (try clear c10); (try clear hcz11_0); (try clear hcz11_1); (try clear hcz7_0); (try clear hcz7_1); (try clear hcz9_0); (try clear hcz9_1); (try clear hfz11_0); (try clear hfz11_1); (try clear hfz7_0); (try clear hfz7_1); (try clear hfz9_0); (try clear hfz9_1); obtain ⟨x7_1, x9_1, rfl, rfl, HA, HK1, HO_5, HO_6, HO_8, BK571, HB⟩ := hrel
  cases gk with
  | zero => exact absurd HA.out (by simp [spec_l7Sides.l0])
  | succ k1 =>
   have H := HA.out; clear HA; simp only [spec_l7Sides.l0] at H
   by_cases c13 : x9_1 < (t578.length : Int)
   ·
    rw [if_pos c13] at H; have c13b0 : decide (x9_1 < (t578.length : Int)) = true := decide_eq_true c13; clear c13; have H' := Az H; clear H; obtain ⟨Ao14, co14, eo14⟩ := Kd.S_slice HO_8.out; subst eo14
    go_wp2
    repeat (go_quiet (fail); try go_wp2)
    go_loopg [10, 11] k1 (fun kq v10 v11 w' => ∃ (x10_2 : Int) (x11_2 : Int), v10 = .int .i64 x10_2 ∧ v11 = .int .i64 x11_2 ∧ Aside0 (spec_l7Sides.l1 kq l1 t572 t575 x7_1 t578 x9_1 x10_2 x11_2 l0_0 l0_1 = some r) ∧ Aside0 (kq ≤ k1) ∧ Aside0 (Kd.R (Kd.int .i64) 3 w' w.heap.size (fun k_ => some k_ ≠ (v576 : Value).ownBlock) v573 t572) ∧ Aside0 (Kd.R (Kd.int .i64) 3 w' w.heap.size (fun k_ => some k_ ≠ (v573 : Value).ownBlock) v576 t575) ∧ Aside0 (Kd.S (Kd.slice 3 (Kd.int .i64)) 23 w' w.heap.size (fun k_ => some k_ ≠ (v573 : Value).ownBlock ∧ some k_ ≠ (v576 : Value).ownBlock) (.slice Ao14 t578.length co14) t578) ∧ Aside0 (w'.heap[gb571]? = some (.cells #[(.slice A0_0 l0_0.length c0_0), (.slice A0_1 l0_1.length c0_1)] 25 (0, 0))) ∧ Aside0 (Below w.heap.size w w'))
    case atStart => exact ⟨(0), (0), rS, rS, H', ⟨Nat.le_refl _⟩, ⟨rU HO_5.out⟩, ⟨rU HO_6.out⟩, ⟨sU HO_8.out⟩, ⟨kU BK571.out⟩, ⟨bU1 HB.out GE571.out⟩⟩
    case round =>
     clear H'; (try clear c1); (try clear p2); (try clear c10); (try clear c13); (try clear c13b0); (try clear hcz11_0); (try clear hcz11_1); (try clear hcz7_0); (try clear hcz7_1); (try clear hcz9_0); (try clear hcz9_1); (try clear hfz11_0); (try clear hfz11_1); (try clear hfz7_0); (try clear hfz7_1); (try clear hfz9_0); (try clear hfz9_1); (try clear p2); obtain ⟨x10_2, x11_2, rfl, rfl, HA, HK2, HO_5, HO_6, HO_8, BK571, HB⟩ := hrel
     cases gk with
     | zero => exact absurd HA.out (by simp [spec_l7Sides.l1])
     | succ k2 =>
      have H := HA.out; clear HA; simp only [spec_l7Sides.l1] at H
      by_cases c15 : 0 ≤ x9_1
      ·
       rw [if_pos c15] at H; have c15b0 : decide (0 ≤ x9_1) = true := decide_eq_true c15; clear c15
       by_cases c16 : x9_1 < (t578.length : Int)
       ·
        rw [if_pos c16] at H; have c16b0 : decide (x9_1 < (t578.length : Int)) = true := decide_eq_true c16; clear c16
        by_cases c17 : x11_2 < ((rd_L2 t578 x9_1).length : Int)
        ·
         rw [if_pos c17] at H; have c17b0 : decide (x11_2 < ((rd_L2 t578 x9_1).length : Int)) = true := decide_eq_true c17; clear c17
         by_cases c18 : 0 ≤ x11_2
         ·
          rw [if_pos c18] at H; have c18b0 : decide (0 ≤ x11_2) = true := decide_eq_true c18; clear c18
          by_cases c19 : 0 ≤ (rd (rd_L2 t578 x9_1) x11_2)
          ·
           rw [if_pos c19] at H; have c19b0 : decide (0 ≤ (rd (rd_L2 t578 x9_1) x11_2)) = true := decide_eq_true c19; clear c19
           by_cases c20 : (rd (rd_L2 t578 x9_1) x11_2) < (t572.length : Int)
           ·
            rw [if_pos c20] at H; have c20b0 : decide ((rd (rd_L2 t578 x9_1) x11_2) < (t572.length : Int)) = true := decide_eq_true c20; clear c20; replace H := Option.bind_eq_some_iff.mp H; obtain ⟨t585, A210, H⟩ := H; replace H : (if t585 = true then (spec_l7Sides.l1 k2 l1 t572 t575 x7_1 t578 x9_1 (wrap64 (x10_2 + 1)) (wrap64 (x11_2 + 1)) l0_0 l0_1) else (spec_l7Sides.l1 k2 l1 t572 t575 x7_1 t578 x9_1 x10_2 (wrap64 (x11_2 + 1)) l0_0 l0_1)) = some r := H; have A21 := Az A210; clear A210
            by_cases c22 : t585 = true
            ·
             subst c22
             have H1 : (spec_l7Sides.l1 k2 l1 t572 t575 x7_1 t578 x9_1 (wrap64 (x10_2 + 1)) (wrap64 (x11_2 + 1)) l0_0 l0_1) = some r := by rw [if_pos rfl] at H; exact H
             clear H; have H := H1; clear H1; have H' := Az H; clear H; have p581 : 0 ≤ (x9_1 : Int) := oA; have q581 : x9_1 < (t578.length : Int) := oA; obtain ⟨ad581, A581_0, c581_0, e581, hx581_0, hl581_0, hi581_0⟩ := at_L2 (Kd.S_reads' HO_8.out).2.2 x9_1 p581 q581
             cases e581
             obtain ⟨ce581, hce581, hMe581, hcc581⟩ := Kd.S_get HO_8.out [] x9_1 p581 (by first | exact q581 | exact oA | (have e_ := (Kd.S_reads' HO_8.out).1; omega)); obtain ⟨ve581_0, rfl, ge581_0⟩ := hMe581; have hv581_0 := hcc581 0 _ rfl; rw [Nat.add_zero, show ((Kd.slice 3 (Kd.int .i64))).sz = 1 from rfl, Nat.mul_one] at hv581_0; replace hv581_0 := Option.some.inj (hv581_0.symm.trans hx581_0); rw [hv581_0] at ge581_0; have HL581_0 := Az (show Kd.R (Kd.int .i64) 3 _ _ _ _ (rd_L2 t578 x9_1) from ge581_0); clear hv581_0 ge581_0 hcc581 hce581; have HR581_0 := Az hi581_0; have HC581_0 := Az hl581_0; clear hi581_0 hl581_0; replace p581 := eq_true p581; replace q581 := eq_true q581; have p582 : 0 ≤ (x9_1 : Int) := oA; have q582 : x9_1 < (t578.length : Int) := oA; obtain ⟨ad582, A582_0, c582_0, e582, hx582_0, hl582_0, hi582_0⟩ := at_L2 (Kd.S_reads' HO_8.out).2.2 x9_1 p582 q582; obtain rfl : ad581 = ad582 := (by injection e582); obtain ⟨ce582, hce582, hMe582, hcc582⟩ := Kd.S_get HO_8.out [] x9_1 p582 (by first | exact q582 | exact oA | (have e_ := (Kd.S_reads' HO_8.out).1; omega)); obtain ⟨ve582_0, rfl, ge582_0⟩ := hMe582; have hv582_0 := hcc582 0 _ rfl; rw [Nat.add_zero, show ((Kd.slice 3 (Kd.int .i64))).sz = 1 from rfl, Nat.mul_one] at hv582_0; replace hv582_0 := Option.some.inj (hv582_0.symm.trans hx582_0); rw [hv582_0] at ge582_0; have HL582_0 := Az (show Kd.R (Kd.int .i64) 3 _ _ _ _ (rd_L2 t578 x9_1) from ge582_0); clear hv582_0 ge582_0 hcc582 hce582; have HR582_0 := Az hi582_0; have HC582_0 := Az hl582_0; clear hi582_0 hl582_0; replace p582 := eq_true p582; replace q582 := eq_true q582; have ea_ := Option.some.inj (hx581_0.symm.trans hx582_0); injection ea_ with ea_ en_ ec_; subst ea_; subst ec_; clear en_; have p583 : 0 ≤ (x11_2 : Int) := oA; have q583 : x11_2 < ((rd_L2 t578 x9_1).length : Int) := oA; obtain ⟨ad583, e583, hx583_0⟩ := Kd.at_int (by repeat (first | (with_reducible exact HR582_0.out) | (with_reducible refine Kd.C_alloc ?_ _) | (with_reducible refine Kd.C_drewN ?_ _) | (with_reducible refine Kd.C_drew ?_) | exact HR582_0.out)) x11_2 p583 q583
             cases e583
             replace p583 := eq_true p583; replace q583 := eq_true q583; obtain ⟨Ao23, co23, eo23⟩ := Kd.R_slice HO_5.out; subst eo23; have p584 : 0 ≤ ((rd (rd_L2 t578 x9_1) x11_2) : Int) := oA; have q584 : (rd (rd_L2 t578 x9_1) x11_2) < (t572.length : Int) := oA; obtain ⟨ad584, e584, hx584_0⟩ := Kd.at_int (Kd.R_reads' HO_5.out).2.2 (rd (rd_L2 t578 x9_1) x11_2) p584 q584
             cases e584
             replace p584 := eq_true p584; replace q584 := eq_true q584
             go_wp2_with (first | (go_at_call 67; (with_reducible refine (spec_l7Has.calls k2 _ _ l1 (rd t572 (rd (rd_L2 t578 x9_1) x11_2)) true _ ?side1 ?side2 A21.out).mono ?_); (case side1 => exact cU (Kd.C_below HR1.out HB.out)); (case side2 => exact HC1.out); rintro e w' ⟨rfl, ⟨nd, rfl⟩⟩; (try first | exact ⟨rfl, _, World.drewN_drewN _ _ _⟩ | exact ⟨rfl, _, Eq.trans (World.drewN_drewN _ _ _) (congrArg (World.drewN _) (Nat.add_assoc _ _ _))⟩)))
             repeat (go_quiet (first | (go_at_call 67; (try simp only [Go.IntWalk.i64_left]); (with_reducible refine (spec_l7Has.calls k2 _ _ l1 (rd t572 (rd (rd_L2 t578 x9_1) x11_2)) true _ ?side1 ?side2 A21.out).mono ?_); (case side1 => exact cU (Kd.C_below HR1.out HB.out)); (case side2 => exact HC1.out); rintro e w' ⟨rfl, ⟨nd, rfl⟩⟩; (try first | exact ⟨rfl, _, World.drewN_drewN _ _ _⟩ | exact ⟨rfl, _, Eq.trans (World.drewN_drewN _ _ _) (congrArg (World.drewN _) (Nat.add_assoc _ _ _))⟩))); try go_wp2_with (first | (go_at_call 67; (try simp only [Go.IntWalk.i64_left]); (with_reducible refine (spec_l7Has.calls k2 _ _ l1 (rd t572 (rd (rd_L2 t578 x9_1) x11_2)) true _ ?side1 ?side2 A21.out).mono ?_); (case side1 => exact cU (Kd.C_below HR1.out HB.out)); (case side2 => exact HC1.out); rintro e w' ⟨rfl, ⟨nd, rfl⟩⟩; (try first | exact ⟨rfl, _, World.drewN_drewN _ _ _⟩ | exact ⟨rfl, _, Eq.trans (World.drewN_drewN _ _ _) (congrArg (World.drewN _) (Nat.add_assoc _ _ _))⟩))))
             (first | go_roundg k2 | (refine Handed.intro k2 ?measure ?_; rotate_left; go_step; (try simp only [add_plain]); (repeat apply Exists.intro); refine ⟨?rel, rfl⟩))
             case measure => have := HK1.out; have := HK2.out; omega
             case rel => exact ⟨(wrap64 (x10_2 + 1)), (wrap64 (x11_2 + 1)), rS, rS, H', ⟨by have := HK1.out; have := HK2.out; omega⟩, ⟨rU HO_5.out⟩, ⟨rU HO_6.out⟩, ⟨sU HO_8.out⟩, ⟨kU BK571.out⟩, ⟨bU1 HB.out GE571.out⟩⟩
            ·
             replace c22 := Bool.eq_false_iff.mpr c22; subst c22
             have H1 : (spec_l7Sides.l1 k2 l1 t572 t575 x7_1 t578 x9_1 x10_2 (wrap64 (x11_2 + 1)) l0_0 l0_1) = some r := by rw [if_neg (show ¬ (false = true) by decide)] at H; exact H
             clear H; have H := H1; clear H1; have H' := Az H; clear H; have p581 : 0 ≤ (x9_1 : Int) := oA; have q581 : x9_1 < (t578.length : Int) := oA; obtain ⟨ad581, A581_0, c581_0, e581, hx581_0, hl581_0, hi581_0⟩ := at_L2 (Kd.S_reads' HO_8.out).2.2 x9_1 p581 q581
             cases e581
             obtain ⟨ce581, hce581, hMe581, hcc581⟩ := Kd.S_get HO_8.out [] x9_1 p581 (by first | exact q581 | exact oA | (have e_ := (Kd.S_reads' HO_8.out).1; omega)); obtain ⟨ve581_0, rfl, ge581_0⟩ := hMe581; have hv581_0 := hcc581 0 _ rfl; rw [Nat.add_zero, show ((Kd.slice 3 (Kd.int .i64))).sz = 1 from rfl, Nat.mul_one] at hv581_0; replace hv581_0 := Option.some.inj (hv581_0.symm.trans hx581_0); rw [hv581_0] at ge581_0; have HL581_0 := Az (show Kd.R (Kd.int .i64) 3 _ _ _ _ (rd_L2 t578 x9_1) from ge581_0); clear hv581_0 ge581_0 hcc581 hce581; have HR581_0 := Az hi581_0; have HC581_0 := Az hl581_0; clear hi581_0 hl581_0; replace p581 := eq_true p581; replace q581 := eq_true q581; have p582 : 0 ≤ (x9_1 : Int) := oA; have q582 : x9_1 < (t578.length : Int) := oA; obtain ⟨ad582, A582_0, c582_0, e582, hx582_0, hl582_0, hi582_0⟩ := at_L2 (Kd.S_reads' HO_8.out).2.2 x9_1 p582 q582; obtain rfl : ad581 = ad582 := (by injection e582); obtain ⟨ce582, hce582, hMe582, hcc582⟩ := Kd.S_get HO_8.out [] x9_1 p582 (by first | exact q582 | exact oA | (have e_ := (Kd.S_reads' HO_8.out).1; omega)); obtain ⟨ve582_0, rfl, ge582_0⟩ := hMe582; have hv582_0 := hcc582 0 _ rfl; rw [Nat.add_zero, show ((Kd.slice 3 (Kd.int .i64))).sz = 1 from rfl, Nat.mul_one] at hv582_0; replace hv582_0 := Option.some.inj (hv582_0.symm.trans hx582_0); rw [hv582_0] at ge582_0; have HL582_0 := Az (show Kd.R (Kd.int .i64) 3 _ _ _ _ (rd_L2 t578 x9_1) from ge582_0); clear hv582_0 ge582_0 hcc582 hce582; have HR582_0 := Az hi582_0; have HC582_0 := Az hl582_0; clear hi582_0 hl582_0; replace p582 := eq_true p582; replace q582 := eq_true q582; have ea_ := Option.some.inj (hx581_0.symm.trans hx582_0); injection ea_ with ea_ en_ ec_; subst ea_; subst ec_; clear en_; have p583 : 0 ≤ (x11_2 : Int) := oA; have q583 : x11_2 < ((rd_L2 t578 x9_1).length : Int) := oA; obtain ⟨ad583, e583, hx583_0⟩ := Kd.at_int (by repeat (first | (with_reducible exact HR582_0.out) | (with_reducible refine Kd.C_alloc ?_ _) | (with_reducible refine Kd.C_drewN ?_ _) | (with_reducible refine Kd.C_drew ?_) | exact HR582_0.out)) x11_2 p583 q583
             cases e583
             replace p583 := eq_true p583; replace q583 := eq_true q583; obtain ⟨Ao24, co24, eo24⟩ := Kd.R_slice HO_5.out; subst eo24; have p584 : 0 ≤ ((rd (rd_L2 t578 x9_1) x11_2) : Int) := oA; have q584 : (rd (rd_L2 t578 x9_1) x11_2) < (t572.length : Int) := oA; obtain ⟨ad584, e584, hx584_0⟩ := Kd.at_int (Kd.R_reads' HO_5.out).2.2 (rd (rd_L2 t578 x9_1) x11_2) p584 q584
             cases e584
             replace p584 := eq_true p584; replace q584 := eq_true q584
             go_wp2_with (first | (go_at_call 67; (with_reducible refine (spec_l7Has.calls k2 _ _ l1 (rd t572 (rd (rd_L2 t578 x9_1) x11_2)) false _ ?side1 ?side2 A21.out).mono ?_); (case side1 => exact cU (Kd.C_below HR1.out HB.out)); (case side2 => exact HC1.out); rintro e w' ⟨rfl, ⟨nd, rfl⟩⟩; (try first | exact ⟨rfl, _, World.drewN_drewN _ _ _⟩ | exact ⟨rfl, _, Eq.trans (World.drewN_drewN _ _ _) (congrArg (World.drewN _) (Nat.add_assoc _ _ _))⟩)))
             repeat (go_quiet (first | (go_at_call 67; (try simp only [Go.IntWalk.i64_left]); (with_reducible refine (spec_l7Has.calls k2 _ _ l1 (rd t572 (rd (rd_L2 t578 x9_1) x11_2)) false _ ?side1 ?side2 A21.out).mono ?_); (case side1 => exact cU (Kd.C_below HR1.out HB.out)); (case side2 => exact HC1.out); rintro e w' ⟨rfl, ⟨nd, rfl⟩⟩; (try first | exact ⟨rfl, _, World.drewN_drewN _ _ _⟩ | exact ⟨rfl, _, Eq.trans (World.drewN_drewN _ _ _) (congrArg (World.drewN _) (Nat.add_assoc _ _ _))⟩))); try go_wp2_with (first | (go_at_call 67; (try simp only [Go.IntWalk.i64_left]); (with_reducible refine (spec_l7Has.calls k2 _ _ l1 (rd t572 (rd (rd_L2 t578 x9_1) x11_2)) false _ ?side1 ?side2 A21.out).mono ?_); (case side1 => exact cU (Kd.C_below HR1.out HB.out)); (case side2 => exact HC1.out); rintro e w' ⟨rfl, ⟨nd, rfl⟩⟩; (try first | exact ⟨rfl, _, World.drewN_drewN _ _ _⟩ | exact ⟨rfl, _, Eq.trans (World.drewN_drewN _ _ _) (congrArg (World.drewN _) (Nat.add_assoc _ _ _))⟩))))
             (first | go_roundg k2 | (refine Handed.intro k2 ?measure ?_; rotate_left; go_step; (try simp only [add_plain]); (repeat apply Exists.intro); refine ⟨?rel, rfl⟩))
             case measure => have := HK1.out; have := HK2.out; omega
             case rel => exact ⟨(x10_2), (wrap64 (x11_2 + 1)), rS, rS, H', ⟨by have := HK1.out; have := HK2.out; omega⟩, ⟨rU HO_5.out⟩, ⟨rU HO_6.out⟩, ⟨sU HO_8.out⟩, ⟨kU BK571.out⟩, ⟨bU1 HB.out GE571.out⟩⟩
           ·
            rw [if_neg c20] at H
            exact absurd H (by simp)
          ·
           rw [if_neg c19] at H
           exact absurd H (by simp)
         ·
          rw [if_neg c18] at H
          exact absurd H (by simp)
        ·
         rw [if_neg c17] at H; have c17b0 : decide (x11_2 < ((rd_L2 t578 x9_1).length : Int)) = false := decide_eq_false c17; clear c17
         by_cases c25 : x10_2 = 0
         ·
          rw [if_pos c25] at H; have c25b0 : (x10_2 == 0) = true := beq_iff_eq.mpr c25; have c25b1 : (x10_2 != 0) = false := bne_eq_false_iff_eq.mpr c25; clear c25; have H' := Az H; clear H; have p581 : 0 ≤ (x9_1 : Int) := oA; have q581 : x9_1 < (t578.length : Int) := oA; obtain ⟨ad581, A581_0, c581_0, e581, hx581_0, hl581_0, hi581_0⟩ := at_L2 (Kd.S_reads' HO_8.out).2.2 x9_1 p581 q581
          cases e581
          obtain ⟨ce581, hce581, hMe581, hcc581⟩ := Kd.S_get HO_8.out [] x9_1 p581 (by first | exact q581 | exact oA | (have e_ := (Kd.S_reads' HO_8.out).1; omega)); obtain ⟨ve581_0, rfl, ge581_0⟩ := hMe581; have hv581_0 := hcc581 0 _ rfl; rw [Nat.add_zero, show ((Kd.slice 3 (Kd.int .i64))).sz = 1 from rfl, Nat.mul_one] at hv581_0; replace hv581_0 := Option.some.inj (hv581_0.symm.trans hx581_0); rw [hv581_0] at ge581_0; have HL581_0 := Az (show Kd.R (Kd.int .i64) 3 _ _ _ _ (rd_L2 t578 x9_1) from ge581_0); clear hv581_0 ge581_0 hcc581 hce581; have HR581_0 := Az hi581_0; have HC581_0 := Az hl581_0; clear hi581_0 hl581_0; replace p581 := eq_true p581; replace q581 := eq_true q581
          go_wp2
          repeat (go_quiet (fail); try go_wp2)
          (first | go_roundg k2 | (refine Handed.intro k2 ?measure ?_; rotate_left; go_step; (try simp only [add_plain]); (repeat apply Exists.intro); refine ⟨?rel, rfl⟩))
          case measure => have := HK1.out; have := HK2.out; omega
          case rel => exact ⟨(wrap64 (x7_1 + 1)), (wrap64 (x9_1 + 1)), rS, rS, H', ⟨by have := HK1.out; have := HK2.out; omega⟩, ⟨rU HO_5.out⟩, ⟨rU HO_6.out⟩, ⟨sU HO_8.out⟩, ⟨kU BK571.out⟩, ⟨bU1 HB.out GE571.out⟩⟩
         ·
          rw [if_neg c25] at H; have c25b0 : (x10_2 == 0) = false := beq_eq_false_iff_ne.mpr c25; have c25b1 : (x10_2 != 0) = true := bne_iff_ne.mpr c25; have H' := Az H; clear H; have p581 : 0 ≤ (x9_1 : Int) := oA; have q581 : x9_1 < (t578.length : Int) := oA; obtain ⟨ad581, A581_0, c581_0, e581, hx581_0, hl581_0, hi581_0⟩ := at_L2 (Kd.S_reads' HO_8.out).2.2 x9_1 p581 q581
          cases e581
          obtain ⟨ce581, hce581, hMe581, hcc581⟩ := Kd.S_get HO_8.out [] x9_1 p581 (by first | exact q581 | exact oA | (have e_ := (Kd.S_reads' HO_8.out).1; omega)); obtain ⟨ve581_0, rfl, ge581_0⟩ := hMe581; have hv581_0 := hcc581 0 _ rfl; rw [Nat.add_zero, show ((Kd.slice 3 (Kd.int .i64))).sz = 1 from rfl, Nat.mul_one] at hv581_0; replace hv581_0 := Option.some.inj (hv581_0.symm.trans hx581_0); rw [hv581_0] at ge581_0; have HL581_0 := Az (show Kd.R (Kd.int .i64) 3 _ _ _ _ (rd_L2 t578 x9_1) from ge581_0); clear hv581_0 ge581_0 hcc581 hce581; have HR581_0 := Az hi581_0; have HC581_0 := Az hl581_0; clear hi581_0 hl581_0; replace p581 := eq_true p581; replace q581 := eq_true q581
          go_wp2
          repeat (go_quiet (fail); try go_wp2)
          (first | go_roundg k2 | (refine Handed.intro k2 ?measure ?_; rotate_left; go_step; (try simp only [add_plain]); (repeat apply Exists.intro); refine ⟨?rel, rfl⟩))
          case measure => have := HK1.out; have := HK2.out; omega
          case rel => exact ⟨(x7_1), (wrap64 (x9_1 + 1)), rS, rS, H', ⟨by have := HK1.out; have := HK2.out; omega⟩, ⟨rU HO_5.out⟩, ⟨rU HO_6.out⟩, ⟨sU HO_8.out⟩, ⟨kU BK571.out⟩, ⟨bU1 HB.out GE571.out⟩⟩
       ·
        rw [if_neg c16] at H
        exact absurd H (by simp)
      ·
       rw [if_neg c15] at H
       exact absurd H (by simp)
   ·
    rw [if_neg c13] at H; have c13b0 : decide (x9_1 < (t578.length : Int)) = false := decide_eq_false c13; clear c13; have H' := Az H; clear H; obtain ⟨Ao26, co26, eo26⟩ := Kd.S_slice HO_8.out; subst eo26
    go_wp2
    repeat (go_quiet (fail); try go_wp2)
    go_loopg [12] k1 (fun kq v12 w' => ∃ (x6_2 : List Int) (x12_2 : Int), v12 = .int .i64 x12_2 ∧ Aside0 (spec_l7Sides.l2 kq l1 t572 x6_2 x7_1 x12_2 l0_0 l0_1 = some r) ∧ Aside0 (kq ≤ k1) ∧ Aside0 (Kd.R (Kd.int .i64) 3 w' w.heap.size (fun k_ => some k_ ≠ (v576 : Value).ownBlock) v573 t572) ∧ Aside0 (Kd.R (Kd.int .i64) 3 w' w.heap.size (fun k_ => some k_ ≠ (v573 : Value).ownBlock) v576 x6_2) ∧ Aside0 (w'.heap[gb571]? = some (.cells #[(.slice A0_0 l0_0.length c0_0), (.slice A0_1 l0_1.length c0_1)] 25 (0, 0))) ∧ Aside0 (Below w.heap.size w w'))
    case atStart => exact ⟨(t575), (0), rS, H', ⟨Nat.le_refl _⟩, ⟨rU HO_5.out⟩, ⟨rU HO_6.out⟩, ⟨kU BK571.out⟩, ⟨bU1 HB.out GE571.out⟩⟩
    case round =>
     clear H'; (try clear c1); (try clear c2); (try clear p2); (try clear c5); (try clear p5); (try clear q5); (try clear hx5); (try clear p6); (try clear c10); (try clear c13); (try clear c13b0); (try clear c15); (try clear c15b0); (try clear c16); (try clear c16b0); (try clear c17); (try clear c17b0); (try clear c18); (try clear c18b0); (try clear c19); (try clear c19b0); (try clear c20); (try clear c20b0); (try clear c22); (try clear c25); (try clear c25b0); (try clear c25b1); (try clear hcz11_0); (try clear hcz11_1); (try clear hcz7_0); (try clear hcz7_1); (try clear hcz9_0); (try clear hcz9_1); (try clear hfz11_0); (try clear hfz11_1); (try clear hfz7_0); (try clear hfz7_1); (try clear hfz9_0); (try clear hfz9_1); (try clear hx581_0); (try clear hx582_0); (try clear hx583_0); (try clear hx584_0); (try clear p2); (try clear p581); (try clear p582); (try clear p583); (try clear p584); (try clear q581); (try clear q582); (try clear q583); (try clear q584); obtain ⟨x6_2, x12_2, rfl, HA, HK2, HO_5, HO_6, BK571, HB⟩ := hrel
     cases gk with
     | zero => exact absurd HA.out (by simp [spec_l7Sides.l2])
     | succ k2 =>
      have H := HA.out; clear HA; simp only [spec_l7Sides.l2] at H
      by_cases c27 : x12_2 < (x6_2.length : Int)
      ·
       rw [if_pos c27] at H; have c27b0 : decide (x12_2 < (x6_2.length : Int)) = true := decide_eq_true c27; clear c27
       by_cases c28 : 0 ≤ x12_2
       ·
        rw [if_pos c28] at H; have c28b0 : decide (0 ≤ x12_2) = true := decide_eq_true c28; clear c28
        by_cases c29 : x12_2 < (t572.length : Int)
        ·
         rw [if_pos c29] at H; have c29b0 : decide (x12_2 < (t572.length : Int)) = true := decide_eq_true c29; clear c29; replace H := Option.bind_eq_some_iff.mp H; obtain ⟨t590, A300, H⟩ := H; replace H : (if t590 = true then (if x12_2 < (l0_1.length : Int) then (if 0 ≤ (rd l0_1 x12_2) then (if (rd l0_1 x12_2) < (l0_0.length : Int) then (spec_l7Sides.l3 k2 l1 t572 x6_2 x7_1 x12_2 (rd l0_0 (rd l0_1 x12_2)) l0_0 l0_1) else (none)) else (none)) else (none)) else (spec_l7Sides.l2 k2 l1 t572 x6_2 x7_1 (wrap64 (x12_2 + 1)) l0_0 l0_1)) = some r := H; have A30 := Az A300; clear A300
         by_cases c31 : t590 = true
         ·
          subst c31
          have H1 : (if x12_2 < (l0_1.length : Int) then (if 0 ≤ (rd l0_1 x12_2) then (if (rd l0_1 x12_2) < (l0_0.length : Int) then (spec_l7Sides.l3 k2 l1 t572 x6_2 x7_1 x12_2 (rd l0_0 (rd l0_1 x12_2)) l0_0 l0_1) else (none)) else (none)) else (none)) = some r := by rw [if_pos rfl] at H; exact H
          clear H; have H := H1; clear H1
          by_cases c32 : x12_2 < (l0_1.length : Int)
          ·
           rw [if_pos c32] at H; have c32b0 : decide (x12_2 < (l0_1.length : Int)) = true := decide_eq_true c32; clear c32
           by_cases c33 : 0 ≤ (rd l0_1 x12_2)
           ·
            rw [if_pos c33] at H; have c33b0 : decide (0 ≤ (rd l0_1 x12_2)) = true := decide_eq_true c33; clear c33
            by_cases c34 : (rd l0_1 x12_2) < (l0_0.length : Int)
            ·
             rw [if_pos c34] at H; have c34b0 : decide ((rd l0_1 x12_2) < (l0_0.length : Int)) = true := decide_eq_true c34; clear c34; have H' := Az H; clear H; obtain ⟨Ao35, co35, eo35⟩ := Kd.R_slice HO_6.out; subst eo35; obtain ⟨Ao36, co36, eo36⟩ := Kd.R_slice HO_5.out; subst eo36; have p589 : 0 ≤ (x12_2 : Int) := oA; have q589 : x12_2 < (t572.length : Int) := oA; obtain ⟨ad589, e589, hx589_0⟩ := Kd.at_int (Kd.R_reads' HO_5.out).2.2 x12_2 p589 q589
             cases e589
             replace p589 := eq_true p589; replace q589 := eq_true q589
             go_wp2_with (first | (go_at_call 67; (with_reducible refine (spec_l7Has.calls k2 _ _ l1 (rd t572 x12_2) true _ ?side1 ?side2 A30.out).mono ?_); (case side1 => exact cU (Kd.C_below HR1.out HB.out)); (case side2 => exact HC1.out); rintro e w' ⟨rfl, ⟨nd, rfl⟩⟩; (try first | exact ⟨rfl, _, World.drewN_drewN _ _ _⟩ | exact ⟨rfl, _, Eq.trans (World.drewN_drewN _ _ _) (congrArg (World.drewN _) (Nat.add_assoc _ _ _))⟩); have hcz37_0 : wr.cell? ⟨gb571, 0, none⟩ = some (.slice A0_0 l0_0.length c0_0) := (blk_cell BK571.out 0).trans rfl; have hcz37_1 : wr.cell? ⟨gb571, 1, none⟩ = some (.slice A0_1 l0_1.length c0_1) := (blk_cell BK571.out 1).trans rfl; have hfz37_0 := blk_frozen BK571.out 0; have hfz37_1 := blk_frozen BK571.out 1; have p591 : 0 ≤ (x12_2 : Int) := oA; have q591 : x12_2 < (l0_1.length : Int) := oA; obtain ⟨ad591, e591, hx591_0⟩ := Kd.at_int HR0_1.out x12_2 p591 q591; cases e591; replace hx591_0 := (HB.out.cell (World.block_lt_of_cell? w _ hx591_0)).trans hx591_0; replace p591 := eq_true p591; replace q591 := eq_true q591; have p592 : 0 ≤ ((rd l0_1 x12_2) : Int) := oA; have q592 : (rd l0_1 x12_2) < (l0_0.length : Int) := oA; obtain ⟨ad592, e592, hx592_0⟩ := Kd.at_int HR0_0.out (rd l0_1 x12_2) p592 q592; cases e592; replace hx592_0 := (HB.out.cell (World.block_lt_of_cell? w _ hx592_0)).trans hx592_0; replace p592 := eq_true p592; replace q592 := eq_true q592))
             repeat (go_quiet (first | (go_at_call 67; (try simp only [Go.IntWalk.i64_left]); (with_reducible refine (spec_l7Has.calls k2 _ _ l1 (rd t572 x12_2) true _ ?side1 ?side2 A30.out).mono ?_); (case side1 => exact cU (Kd.C_below HR1.out HB.out)); (case side2 => exact HC1.out); rintro e w' ⟨rfl, ⟨nd, rfl⟩⟩; (try first | exact ⟨rfl, _, World.drewN_drewN _ _ _⟩ | exact ⟨rfl, _, Eq.trans (World.drewN_drewN _ _ _) (congrArg (World.drewN _) (Nat.add_assoc _ _ _))⟩); have hcz37_0 : wr.cell? ⟨gb571, 0, none⟩ = some (.slice A0_0 l0_0.length c0_0) := (blk_cell BK571.out 0).trans rfl; have hcz37_1 : wr.cell? ⟨gb571, 1, none⟩ = some (.slice A0_1 l0_1.length c0_1) := (blk_cell BK571.out 1).trans rfl; have hfz37_0 := blk_frozen BK571.out 0; have hfz37_1 := blk_frozen BK571.out 1; have p591 : 0 ≤ (x12_2 : Int) := oA; have q591 : x12_2 < (l0_1.length : Int) := oA; obtain ⟨ad591, e591, hx591_0⟩ := Kd.at_int HR0_1.out x12_2 p591 q591; cases e591; replace hx591_0 := (HB.out.cell (World.block_lt_of_cell? w _ hx591_0)).trans hx591_0; replace p591 := eq_true p591; replace q591 := eq_true q591; have p592 : 0 ≤ ((rd l0_1 x12_2) : Int) := oA; have q592 : (rd l0_1 x12_2) < (l0_0.length : Int) := oA; obtain ⟨ad592, e592, hx592_0⟩ := Kd.at_int HR0_0.out (rd l0_1 x12_2) p592 q592; cases e592; replace hx592_0 := (HB.out.cell (World.block_lt_of_cell? w _ hx592_0)).trans hx592_0; replace p592 := eq_true p592; replace q592 := eq_true q592)); try go_wp2_with (first | (go_at_call 67; (try simp only [Go.IntWalk.i64_left]); (with_reducible refine (spec_l7Has.calls k2 _ _ l1 (rd t572 x12_2) true _ ?side1 ?side2 A30.out).mono ?_); (case side1 => exact cU (Kd.C_below HR1.out HB.out)); (case side2 => exact HC1.out); rintro e w' ⟨rfl, ⟨nd, rfl⟩⟩; (try first | exact ⟨rfl, _, World.drewN_drewN _ _ _⟩ | exact ⟨rfl, _, Eq.trans (World.drewN_drewN _ _ _) (congrArg (World.drewN _) (Nat.add_assoc _ _ _))⟩); have hcz37_0 : wr.cell? ⟨gb571, 0, none⟩ = some (.slice A0_0 l0_0.length c0_0) := (blk_cell BK571.out 0).trans rfl; have hcz37_1 : wr.cell? ⟨gb571, 1, none⟩ = some (.slice A0_1 l0_1.length c0_1) := (blk_cell BK571.out 1).trans rfl; have hfz37_0 := blk_frozen BK571.out 0; have hfz37_1 := blk_frozen BK571.out 1; have p591 : 0 ≤ (x12_2 : Int) := oA; have q591 : x12_2 < (l0_1.length : Int) := oA; obtain ⟨ad591, e591, hx591_0⟩ := Kd.at_int HR0_1.out x12_2 p591 q591; cases e591; replace hx591_0 := (HB.out.cell (World.block_lt_of_cell? w _ hx591_0)).trans hx591_0; replace p591 := eq_true p591; replace q591 := eq_true q591; have p592 : 0 ≤ ((rd l0_1 x12_2) : Int) := oA; have q592 : (rd l0_1 x12_2) < (l0_0.length : Int) := oA; obtain ⟨ad592, e592, hx592_0⟩ := Kd.at_int HR0_0.out (rd l0_1 x12_2) p592 q592; cases e592; replace hx592_0 := (HB.out.cell (World.block_lt_of_cell? w _ hx592_0)).trans hx592_0; replace p592 := eq_true p592; replace q592 := eq_true q592)))
             go_loopg [13] k2 (fun kq v13 w' => ∃ (x13_3 : Int), v13 = .int .i64 x13_3 ∧ Aside0 (spec_l7Sides.l3 kq l1 t572 x6_2 x7_1 x12_2 x13_3 l0_0 l0_1 = some r) ∧ Aside0 (kq ≤ k2) ∧ Aside0 (Kd.R (Kd.int .i64) 3 w' w.heap.size (fun k_ => some k_ ≠ ((.slice Ao35 x6_2.length co35) : Value).ownBlock) (.slice (some ad589) t572.length co36) t572) ∧ Aside0 (Kd.R (Kd.int .i64) 3 w' w.heap.size (fun k_ => some k_ ≠ ((.slice (some ad589) t572.length co36) : Value).ownBlock) (.slice Ao35 x6_2.length co35) x6_2) ∧ Aside0 (w'.heap[gb571]? = some (.cells #[(.slice (some ad592) l0_0.length c0_0), (.slice (some ad591) l0_1.length c0_1)] 25 (0, 0))) ∧ Aside0 (Below w.heap.size w w'))
             case atStart => exact ⟨(rd l0_0 (rd l0_1 x12_2)), rS, H', ⟨Nat.le_refl _⟩, ⟨rU HO_5.out⟩, ⟨rU HO_6.out⟩, ⟨kU BK571.out⟩, ⟨bU1 HB.out GE571.out⟩⟩
             case round =>
              clear H'; (try clear c1); (try clear c2); (try clear p2); (try clear c3); (try clear c5); (try clear p5); (try clear q5); (try clear hx5); (try clear p6); (try clear c10); (try clear c13); (try clear c13b0); (try clear c15); (try clear c15b0); (try clear c16); (try clear c16b0); (try clear c17); (try clear c17b0); (try clear c18); (try clear c18b0); (try clear c19); (try clear c19b0); (try clear c20); (try clear c20b0); (try clear c22); (try clear c25); (try clear c25b0); (try clear c25b1); (try clear c27); (try clear c27b0); (try clear c28); (try clear c28b0); (try clear c29); (try clear c29b0); (try clear c31); (try clear c32); (try clear c32b0); (try clear c33); (try clear c33b0); (try clear c34); (try clear c34b0); (try clear hcz11_0); (try clear hcz11_1); (try clear hcz37_0); (try clear hcz37_1); (try clear hcz7_0); (try clear hcz7_1); (try clear hcz9_0); (try clear hcz9_1); (try clear hfz11_0); (try clear hfz11_1); (try clear hfz37_0); (try clear hfz37_1); (try clear hfz7_0); (try clear hfz7_1); (try clear hfz9_0); (try clear hfz9_1); (try clear hx581_0); (try clear hx582_0); (try clear hx583_0); (try clear hx584_0); (try clear hx589_0); (try clear hx591_0); (try clear hx592_0); (try clear p2); (try clear p5); (try clear p581); (try clear p582); (try clear p583); (try clear p584); (try clear p589); (try clear p591); (try clear p592); (try clear p6); (try clear q5); (try clear q581); (try clear q582); (try clear q583); (try clear q584); (try clear q589); (try clear q591); (try clear q592); obtain ⟨x13_3, rfl, HA, HK3, HO_5, HO_6, BK571, HB⟩ := hrel
              cases gk with
              | zero => exact absurd HA.out (by simp [spec_l7Sides.l3])
              | succ k3 =>
               have H := HA.out; clear HA; simp only [spec_l7Sides.l3] at H
               by_cases c38 : 0 ≤ x13_3
               ·
                rw [if_pos c38] at H; have c38b0 : decide (0 ≤ x13_3) = true := decide_eq_true c38; clear c38
                by_cases c39 : x13_3 < (t572.length : Int)
                ·
                 rw [if_pos c39] at H; have c39b0 : decide (x13_3 < (t572.length : Int)) = true := decide_eq_true c39; clear c39; replace H := Option.bind_eq_some_iff.mp H; obtain ⟨t594, A400, H⟩ := H; replace H : (if t594 = true then (if 0 ≤ x12_2 then (if x12_2 < (x6_2.length : Int) then (spec_l7Sides.l2 k3 l1 t572 (x6_2.set (x12_2 : Int).toNat x13_3) x7_1 (wrap64 (x12_2 + 1)) l0_0 l0_1) else (none)) else (none)) else (if x13_3 < (l0_0.length : Int) then (spec_l7Sides.l3 k3 l1 t572 x6_2 x7_1 x12_2 (rd l0_0 x13_3) l0_0 l0_1) else (none))) = some r := H; have A40 := Az A400; clear A400
                 by_cases c41 : t594 = true
                 ·
                  subst c41
                  have H1 : (if 0 ≤ x12_2 then (if x12_2 < (x6_2.length : Int) then (spec_l7Sides.l2 k3 l1 t572 (x6_2.set (x12_2 : Int).toNat x13_3) x7_1 (wrap64 (x12_2 + 1)) l0_0 l0_1) else (none)) else (none)) = some r := by rw [if_pos rfl] at H; exact H
                  clear H; have H := H1; clear H1
                  by_cases c42 : 0 ≤ x12_2
                  ·
                   rw [if_pos c42] at H; have c42b0 : decide (0 ≤ x12_2) = true := decide_eq_true c42; clear c42
                   by_cases c43 : x12_2 < (x6_2.length : Int)
                   ·
                    rw [if_pos c43] at H; have c43b0 : decide (x12_2 < (x6_2.length : Int)) = true := decide_eq_true c43; clear c43; obtain ⟨y595, hy595⟩ : ∃ y_ : List Int, y_ = (x6_2.set (x12_2 : Int).toNat x13_3) := ⟨_, rfl⟩; replace H : (spec_l7Sides.l2 k3 l1 t572 y595 x7_1 (wrap64 (x12_2 + 1)) l0_0 l0_1) = some r := hR hy595 H; have Ny595 := Az hy595; clear hy595; have H' := Az H; clear H; have p593 : 0 ≤ (x13_3 : Int) := oA; have q593 : x13_3 < (t572.length : Int) := oA; obtain ⟨ad593, e593, hx593_0⟩ := Kd.at_int (Kd.R_reads' HO_5.out).2.2 x13_3 p593 q593; obtain rfl : ad589 = ad593 := (by injection e593); replace p593 := eq_true p593; replace q593 := eq_true q593
                    go_wp2_with (first | (go_at_call 67; (with_reducible refine (spec_l7Has.calls k3 _ _ l1 (rd t572 x13_3) true _ ?side1 ?side2 A40.out).mono ?_); (case side1 => exact cU (Kd.C_below HR1.out HB.out)); (case side2 => exact HC1.out); rintro e w' ⟨rfl, ⟨nd, rfl⟩⟩; (try first | exact ⟨rfl, _, World.drewN_drewN _ _ _⟩ | exact ⟨rfl, _, Eq.trans (World.drewN_drewN _ _ _) (congrArg (World.drewN _) (Nat.add_assoc _ _ _))⟩); have p44 : 0 ≤ (x12_2 : Int) := oA; have q44 : (x12_2 : Int) < ((x6_2.length : Int) : Int) := oA; obtain ⟨go44, co44, eo44, gb44, gl44, cl44, HG44⟩ := Kd.R_form HO_6.out (by omega); (first | cases eo44 | (injection eo44 with ea_ en_ ec_; (first | subst ea_ | (injection ea_ with ea_; subst ea_)); subst ec_; clear en_)); have GB44 := Az gb44; have GG44 := Az HG44; clear gb44 gl44 HG44; obtain ⟨hx44_0, hf44_0⟩ := Kd.R_celln 0 HO_6.out (x12_2 : Int) p44 q44; replace p44 := eq_true p44; replace q44 := eq_true q44; obtain ⟨hy45_, hz45_⟩ := Kd.R_celln 0 HO_6.out (x12_2 : Int) (oA) (oA); have HP45 := Kd.R_putg HO_6.out (x12_2 : Int) x13_3) | ((with_reducible refine gate_store (t := 3) (p := 92) rfl ?_); (try (rw [drewN_self wr]; generalize hq_ : World.drewN wr _ = wr; have n0 := Az (Kd.R_at hq_ HO_5.out); have n1 := Az (Kd.R_at hq_ HO_6.out); have n2 := Az (blk_at hq_ BK571.out); have n3 := Az (below_at hq_ HB.out); clear hq_ HO_5 HO_6 BK571 HB; have HO_5 := n0; have HO_6 := n1; have BK571 := n2; have HB := n3; clear n0 n1 n2 n3; (try (obtain ⟨hy45_, hz45_⟩ := Kd.R_celln 0 HO_6.out (x12_2 : Int) (oA) (oA))); (try (have HP45 := Kd.R_putg HO_6.out (x12_2 : Int) x13_3)))); refine store_event (t := 3) (p := 92) (v := ?vo_w46) (w1 := (wr.setCell ⟨go44, (x12_2 : Int).toNat, none⟩ (.int .i64 x13_3))) ?hg ?ho ?hn ?hr ?_; (case ho => rfl); (case hg => rfl); (case hn => rfl); (case hr => first | (go_simp; done) | (go_simp; rfl)); intro w46 hw; have hg : wr.grownBy w46 (some go44) := (by rw [hw]; exact HP45.2); have hp_ : Kd.R (Kd.int .i64) 3 w46 w.heap.size (fun k_ => some k_ ≠ (.slice (some ad589) t572.length co36 : Value).ownBlock) (.slice (some ⟨go44, 0, none⟩) x6_2.length co35) y595 := (by rw [hw, Ny595.out]; exact HP45.1); clear HP45; have n0 := Az (Kd.R_after (v := (.slice (some ⟨go44, 0, none⟩) x6_2.length co35)) (v1 := (.slice (some ⟨go44, 0, none⟩) x6_2.length co35)) (ok := (fun _ => True)) (by (with_reducible repeat (first | apply Kd.R_alloc | apply Kd.R_drewN | apply Kd.R_drew)); exact Kd.R_mono HO_5.out (fun _ hk => ⟨trivial, hk⟩)) hg (.inl rfl)); have n1 := Az (hp_); have n2 := Az (blk_grown (g := gb571) (o := .cells #[.slice (some ad592) l0_0.length c0_0, .slice (some ad591) l0_1.length c0_1] 25 (0, 0)) (kU BK571.out) hg (Kd.R_ne HO_6.out BK571.out (by decide))); have n3 := Az ((by rw [hw]; exact below_set (HB.out) GB44.out : Below w.heap.size w w46)); clear HO_5 HO_6 BK571 HB; have HO_5 := n0; have HO_6 := n1; have BK571 := n2; have HB := n3; clear n0 n1 n2 n3; clear hg hw hp_))
                    repeat (go_quiet (first | (go_at_call 67; (try simp only [Go.IntWalk.i64_left]); (with_reducible refine (spec_l7Has.calls k3 _ _ l1 (rd t572 x13_3) true _ ?side1 ?side2 A40.out).mono ?_); (case side1 => exact cU (Kd.C_below HR1.out HB.out)); (case side2 => exact HC1.out); rintro e w' ⟨rfl, ⟨nd, rfl⟩⟩; (try first | exact ⟨rfl, _, World.drewN_drewN _ _ _⟩ | exact ⟨rfl, _, Eq.trans (World.drewN_drewN _ _ _) (congrArg (World.drewN _) (Nat.add_assoc _ _ _))⟩); have p44 : 0 ≤ (x12_2 : Int) := oA; have q44 : (x12_2 : Int) < ((x6_2.length : Int) : Int) := oA; obtain ⟨go44, co44, eo44, gb44, gl44, cl44, HG44⟩ := Kd.R_form HO_6.out (by omega); (first | cases eo44 | (injection eo44 with ea_ en_ ec_; (first | subst ea_ | (injection ea_ with ea_; subst ea_)); subst ec_; clear en_)); have GB44 := Az gb44; have GG44 := Az HG44; clear gb44 gl44 HG44; obtain ⟨hx44_0, hf44_0⟩ := Kd.R_celln 0 HO_6.out (x12_2 : Int) p44 q44; replace p44 := eq_true p44; replace q44 := eq_true q44; obtain ⟨hy45_, hz45_⟩ := Kd.R_celln 0 HO_6.out (x12_2 : Int) (oA) (oA); have HP45 := Kd.R_putg HO_6.out (x12_2 : Int) x13_3) | ((with_reducible refine gate_store (t := 3) (p := 92) rfl ?_); (try (rw [drewN_self wr]; generalize hq_ : World.drewN wr _ = wr; have n0 := Az (Kd.R_at hq_ HO_5.out); have n1 := Az (Kd.R_at hq_ HO_6.out); have n2 := Az (blk_at hq_ BK571.out); have n3 := Az (below_at hq_ HB.out); clear hq_ HO_5 HO_6 BK571 HB; have HO_5 := n0; have HO_6 := n1; have BK571 := n2; have HB := n3; clear n0 n1 n2 n3; (try (obtain ⟨hy45_, hz45_⟩ := Kd.R_celln 0 HO_6.out (x12_2 : Int) (oA) (oA))); (try (have HP45 := Kd.R_putg HO_6.out (x12_2 : Int) x13_3)))); refine store_event (t := 3) (p := 92) (v := ?vo_w46) (w1 := (wr.setCell ⟨go44, (x12_2 : Int).toNat, none⟩ (.int .i64 x13_3))) ?hg ?ho ?hn ?hr ?_; (case ho => rfl); (case hg => rfl); (case hn => rfl); (case hr => first | (go_simp; done) | (go_simp; rfl)); intro w46 hw; have hg : wr.grownBy w46 (some go44) := (by rw [hw]; exact HP45.2); have hp_ : Kd.R (Kd.int .i64) 3 w46 w.heap.size (fun k_ => some k_ ≠ (.slice (some ad589) t572.length co36 : Value).ownBlock) (.slice (some ⟨go44, 0, none⟩) x6_2.length co35) y595 := (by rw [hw, Ny595.out]; exact HP45.1); clear HP45; have n0 := Az (Kd.R_after (v := (.slice (some ⟨go44, 0, none⟩) x6_2.length co35)) (v1 := (.slice (some ⟨go44, 0, none⟩) x6_2.length co35)) (ok := (fun _ => True)) (by (with_reducible repeat (first | apply Kd.R_alloc | apply Kd.R_drewN | apply Kd.R_drew)); exact Kd.R_mono HO_5.out (fun _ hk => ⟨trivial, hk⟩)) hg (.inl rfl)); have n1 := Az (hp_); have n2 := Az (blk_grown (g := gb571) (o := .cells #[.slice (some ad592) l0_0.length c0_0, .slice (some ad591) l0_1.length c0_1] 25 (0, 0)) (kU BK571.out) hg (Kd.R_ne HO_6.out BK571.out (by decide))); have n3 := Az ((by rw [hw]; exact below_set (HB.out) GB44.out : Below w.heap.size w w46)); clear HO_5 HO_6 BK571 HB; have HO_5 := n0; have HO_6 := n1; have BK571 := n2; have HB := n3; clear n0 n1 n2 n3; clear hg hw hp_)); try go_wp2_with (first | (go_at_call 67; (try simp only [Go.IntWalk.i64_left]); (with_reducible refine (spec_l7Has.calls k3 _ _ l1 (rd t572 x13_3) true _ ?side1 ?side2 A40.out).mono ?_); (case side1 => exact cU (Kd.C_below HR1.out HB.out)); (case side2 => exact HC1.out); rintro e w' ⟨rfl, ⟨nd, rfl⟩⟩; (try first | exact ⟨rfl, _, World.drewN_drewN _ _ _⟩ | exact ⟨rfl, _, Eq.trans (World.drewN_drewN _ _ _) (congrArg (World.drewN _) (Nat.add_assoc _ _ _))⟩); have p44 : 0 ≤ (x12_2 : Int) := oA; have q44 : (x12_2 : Int) < ((x6_2.length : Int) : Int) := oA; obtain ⟨go44, co44, eo44, gb44, gl44, cl44, HG44⟩ := Kd.R_form HO_6.out (by omega); (first | cases eo44 | (injection eo44 with ea_ en_ ec_; (first | subst ea_ | (injection ea_ with ea_; subst ea_)); subst ec_; clear en_)); have GB44 := Az gb44; have GG44 := Az HG44; clear gb44 gl44 HG44; obtain ⟨hx44_0, hf44_0⟩ := Kd.R_celln 0 HO_6.out (x12_2 : Int) p44 q44; replace p44 := eq_true p44; replace q44 := eq_true q44; obtain ⟨hy45_, hz45_⟩ := Kd.R_celln 0 HO_6.out (x12_2 : Int) (oA) (oA); have HP45 := Kd.R_putg HO_6.out (x12_2 : Int) x13_3) | ((with_reducible refine gate_store (t := 3) (p := 92) rfl ?_); (try (rw [drewN_self wr]; generalize hq_ : World.drewN wr _ = wr; have n0 := Az (Kd.R_at hq_ HO_5.out); have n1 := Az (Kd.R_at hq_ HO_6.out); have n2 := Az (blk_at hq_ BK571.out); have n3 := Az (below_at hq_ HB.out); clear hq_ HO_5 HO_6 BK571 HB; have HO_5 := n0; have HO_6 := n1; have BK571 := n2; have HB := n3; clear n0 n1 n2 n3; (try (obtain ⟨hy45_, hz45_⟩ := Kd.R_celln 0 HO_6.out (x12_2 : Int) (oA) (oA))); (try (have HP45 := Kd.R_putg HO_6.out (x12_2 : Int) x13_3)))); refine store_event (t := 3) (p := 92) (v := ?vo_w46) (w1 := (wr.setCell ⟨go44, (x12_2 : Int).toNat, none⟩ (.int .i64 x13_3))) ?hg ?ho ?hn ?hr ?_; (case ho => rfl); (case hg => rfl); (case hn => rfl); (case hr => first | (go_simp; done) | (go_simp; rfl)); intro w46 hw; have hg : wr.grownBy w46 (some go44) := (by rw [hw]; exact HP45.2); have hp_ : Kd.R (Kd.int .i64) 3 w46 w.heap.size (fun k_ => some k_ ≠ (.slice (some ad589) t572.length co36 : Value).ownBlock) (.slice (some ⟨go44, 0, none⟩) x6_2.length co35) y595 := (by rw [hw, Ny595.out]; exact HP45.1); clear HP45; have n0 := Az (Kd.R_after (v := (.slice (some ⟨go44, 0, none⟩) x6_2.length co35)) (v1 := (.slice (some ⟨go44, 0, none⟩) x6_2.length co35)) (ok := (fun _ => True)) (by (with_reducible repeat (first | apply Kd.R_alloc | apply Kd.R_drewN | apply Kd.R_drew)); exact Kd.R_mono HO_5.out (fun _ hk => ⟨trivial, hk⟩)) hg (.inl rfl)); have n1 := Az (hp_); have n2 := Az (blk_grown (g := gb571) (o := .cells #[.slice (some ad592) l0_0.length c0_0, .slice (some ad591) l0_1.length c0_1] 25 (0, 0)) (kU BK571.out) hg (Kd.R_ne HO_6.out BK571.out (by decide))); have n3 := Az ((by rw [hw]; exact below_set (HB.out) GB44.out : Below w.heap.size w w46)); clear HO_5 HO_6 BK571 HB; have HO_5 := n0; have HO_6 := n1; have BK571 := n2; have HB := n3; clear n0 n1 n2 n3; clear hg hw hp_)))
                    (first | go_roundg k3 | (refine Handed.intro k3 ?measure ?_; rotate_left; go_step; (try simp only [add_plain]); (repeat apply Exists.intro); refine ⟨?rel, rfl⟩))
                    case measure => have := HK1.out; have := HK2.out; have := HK3.out; omega
                    case rel => exact ⟨(y595), (wrap64 (x12_2 + 1)), rS, H', ⟨by have := HK1.out; have := HK2.out; have := HK3.out; omega⟩, ⟨by (with_reducible repeat (first | apply Kd.R_alloc | apply Kd.R_drewN | apply Kd.R_drew)); exact Kd.R_mono HO_5.out (fun _ hk => hk.2)⟩, ⟨rU HO_6.out⟩, ⟨kU BK571.out⟩, ⟨bU1 HB.out GE571.out⟩⟩
                   ·
                    rw [if_neg c43] at H
                    exact absurd H (by simp)
                  ·
                   rw [if_neg c42] at H
                   exact absurd H (by simp)
                 ·
                  replace c41 := Bool.eq_false_iff.mpr c41; subst c41
                  have H1 : (if x13_3 < (l0_0.length : Int) then (spec_l7Sides.l3 k3 l1 t572 x6_2 x7_1 x12_2 (rd l0_0 x13_3) l0_0 l0_1) else (none)) = some r := by rw [if_neg (show ¬ (false = true) by decide)] at H; exact H
                  clear H; have H := H1; clear H1
                  by_cases c47 : x13_3 < (l0_0.length : Int)
                  ·
                   rw [if_pos c47] at H; have c47b0 : decide (x13_3 < (l0_0.length : Int)) = true := decide_eq_true c47; clear c47; have H' := Az H; clear H; have p593 : 0 ≤ (x13_3 : Int) := oA; have q593 : x13_3 < (t572.length : Int) := oA; obtain ⟨ad593, e593, hx593_0⟩ := Kd.at_int (Kd.R_reads' HO_5.out).2.2 x13_3 p593 q593; obtain rfl : ad589 = ad593 := (by injection e593); replace p593 := eq_true p593; replace q593 := eq_true q593
                   go_wp2_with (first | (go_at_call 67; (with_reducible refine (spec_l7Has.calls k3 _ _ l1 (rd t572 x13_3) false _ ?side1 ?side2 A40.out).mono ?_); (case side1 => exact cU (Kd.C_below HR1.out HB.out)); (case side2 => exact HC1.out); rintro e w' ⟨rfl, ⟨nd, rfl⟩⟩; (try first | exact ⟨rfl, _, World.drewN_drewN _ _ _⟩ | exact ⟨rfl, _, Eq.trans (World.drewN_drewN _ _ _) (congrArg (World.drewN _) (Nat.add_assoc _ _ _))⟩); have hcz48_0 : wr.cell? ⟨gb571, 0, none⟩ = some (.slice (some ad592) l0_0.length c0_0) := (blk_cell BK571.out 0).trans rfl; have hcz48_1 : wr.cell? ⟨gb571, 1, none⟩ = some (.slice (some ad591) l0_1.length c0_1) := (blk_cell BK571.out 1).trans rfl; have hfz48_0 := blk_frozen BK571.out 0; have hfz48_1 := blk_frozen BK571.out 1; have p596 : 0 ≤ (x13_3 : Int) := oA; have q596 : x13_3 < (l0_0.length : Int) := oA; obtain ⟨ad596, e596, hx596_0⟩ := Kd.at_int HR0_0.out x13_3 p596 q596; obtain rfl : ad592 = ad596 := (by injection e596); replace hx596_0 := (HB.out.cell (World.block_lt_of_cell? w _ hx596_0)).trans hx596_0; replace p596 := eq_true p596; replace q596 := eq_true q596))
                   repeat (go_quiet (first | (go_at_call 67; (try simp only [Go.IntWalk.i64_left]); (with_reducible refine (spec_l7Has.calls k3 _ _ l1 (rd t572 x13_3) false _ ?side1 ?side2 A40.out).mono ?_); (case side1 => exact cU (Kd.C_below HR1.out HB.out)); (case side2 => exact HC1.out); rintro e w' ⟨rfl, ⟨nd, rfl⟩⟩; (try first | exact ⟨rfl, _, World.drewN_drewN _ _ _⟩ | exact ⟨rfl, _, Eq.trans (World.drewN_drewN _ _ _) (congrArg (World.drewN _) (Nat.add_assoc _ _ _))⟩); have hcz48_0 : wr.cell? ⟨gb571, 0, none⟩ = some (.slice (some ad592) l0_0.length c0_0) := (blk_cell BK571.out 0).trans rfl; have hcz48_1 : wr.cell? ⟨gb571, 1, none⟩ = some (.slice (some ad591) l0_1.length c0_1) := (blk_cell BK571.out 1).trans rfl; have hfz48_0 := blk_frozen BK571.out 0; have hfz48_1 := blk_frozen BK571.out 1; have p596 : 0 ≤ (x13_3 : Int) := oA; have q596 : x13_3 < (l0_0.length : Int) := oA; obtain ⟨ad596, e596, hx596_0⟩ := Kd.at_int HR0_0.out x13_3 p596 q596; obtain rfl : ad592 = ad596 := (by injection e596); replace hx596_0 := (HB.out.cell (World.block_lt_of_cell? w _ hx596_0)).trans hx596_0; replace p596 := eq_true p596; replace q596 := eq_true q596)); try go_wp2_with (first | (go_at_call 67; (try simp only [Go.IntWalk.i64_left]); (with_reducible refine (spec_l7Has.calls k3 _ _ l1 (rd t572 x13_3) false _ ?side1 ?side2 A40.out).mono ?_); (case side1 => exact cU (Kd.C_below HR1.out HB.out)); (case side2 => exact HC1.out); rintro e w' ⟨rfl, ⟨nd, rfl⟩⟩; (try first | exact ⟨rfl, _, World.drewN_drewN _ _ _⟩ | exact ⟨rfl, _, Eq.trans (World.drewN_drewN _ _ _) (congrArg (World.drewN _) (Nat.add_assoc _ _ _))⟩); have hcz48_0 : wr.cell? ⟨gb571, 0, none⟩ = some (.slice (some ad592) l0_0.length c0_0) := (blk_cell BK571.out 0).trans rfl; have hcz48_1 : wr.cell? ⟨gb571, 1, none⟩ = some (.slice (some ad591) l0_1.length c0_1) := (blk_cell BK571.out 1).trans rfl; have hfz48_0 := blk_frozen BK571.out 0; have hfz48_1 := blk_frozen BK571.out 1; have p596 : 0 ≤ (x13_3 : Int) := oA; have q596 : x13_3 < (l0_0.length : Int) := oA; obtain ⟨ad596, e596, hx596_0⟩ := Kd.at_int HR0_0.out x13_3 p596 q596; obtain rfl : ad592 = ad596 := (by injection e596); replace hx596_0 := (HB.out.cell (World.block_lt_of_cell? w _ hx596_0)).trans hx596_0; replace p596 := eq_true p596; replace q596 := eq_true q596)))
                   (first | go_roundg k3 | (refine Handed.intro k3 ?measure ?_; rotate_left; go_step; (try simp only [add_plain]); (repeat apply Exists.intro); refine ⟨?rel, rfl⟩))
                   case measure => have := HK1.out; have := HK2.out; have := HK3.out; omega
                   case rel => exact ⟨(rd l0_0 x13_3), rS, H', ⟨by have := HK1.out; have := HK2.out; have := HK3.out; omega⟩, ⟨rU HO_5.out⟩, ⟨rU HO_6.out⟩, ⟨kU BK571.out⟩, ⟨bU1 HB.out GE571.out⟩⟩
                  ·
                   rw [if_neg c47] at H
                   exact absurd H (by simp)
                ·
                 rw [if_neg c39] at H
                 exact absurd H (by simp)
               ·
                rw [if_neg c38] at H
                exact absurd H (by simp)
            ·
             rw [if_neg c34] at H
             exact absurd H (by simp)
           ·
            rw [if_neg c33] at H
            exact absurd H (by simp)
          ·
           rw [if_neg c32] at H
           exact absurd H (by simp)
         ·
          replace c31 := Bool.eq_false_iff.mpr c31; subst c31
          have H1 : (spec_l7Sides.l2 k2 l1 t572 x6_2 x7_1 (wrap64 (x12_2 + 1)) l0_0 l0_1) = some r := by rw [if_neg (show ¬ (false = true) by decide)] at H; exact H
          clear H; have H := H1; clear H1; have H' := Az H; clear H; obtain ⟨Ao49, co49, eo49⟩ := Kd.R_slice HO_6.out; subst eo49; obtain ⟨Ao50, co50, eo50⟩ := Kd.R_slice HO_5.out; subst eo50; have p589 : 0 ≤ (x12_2 : Int) := oA; have q589 : x12_2 < (t572.length : Int) := oA; obtain ⟨ad589, e589, hx589_0⟩ := Kd.at_int (Kd.R_reads' HO_5.out).2.2 x12_2 p589 q589
          cases e589
          replace p589 := eq_true p589; replace q589 := eq_true q589
          go_wp2_with (first | (go_at_call 67; (with_reducible refine (spec_l7Has.calls k2 _ _ l1 (rd t572 x12_2) false _ ?side1 ?side2 A30.out).mono ?_); (case side1 => exact cU (Kd.C_below HR1.out HB.out)); (case side2 => exact HC1.out); rintro e w' ⟨rfl, ⟨nd, rfl⟩⟩; (try first | exact ⟨rfl, _, World.drewN_drewN _ _ _⟩ | exact ⟨rfl, _, Eq.trans (World.drewN_drewN _ _ _) (congrArg (World.drewN _) (Nat.add_assoc _ _ _))⟩)))
          repeat (go_quiet (first | (go_at_call 67; (try simp only [Go.IntWalk.i64_left]); (with_reducible refine (spec_l7Has.calls k2 _ _ l1 (rd t572 x12_2) false _ ?side1 ?side2 A30.out).mono ?_); (case side1 => exact cU (Kd.C_below HR1.out HB.out)); (case side2 => exact HC1.out); rintro e w' ⟨rfl, ⟨nd, rfl⟩⟩; (try first | exact ⟨rfl, _, World.drewN_drewN _ _ _⟩ | exact ⟨rfl, _, Eq.trans (World.drewN_drewN _ _ _) (congrArg (World.drewN _) (Nat.add_assoc _ _ _))⟩))); try go_wp2_with (first | (go_at_call 67; (try simp only [Go.IntWalk.i64_left]); (with_reducible refine (spec_l7Has.calls k2 _ _ l1 (rd t572 x12_2) false _ ?side1 ?side2 A30.out).mono ?_); (case side1 => exact cU (Kd.C_below HR1.out HB.out)); (case side2 => exact HC1.out); rintro e w' ⟨rfl, ⟨nd, rfl⟩⟩; (try first | exact ⟨rfl, _, World.drewN_drewN _ _ _⟩ | exact ⟨rfl, _, Eq.trans (World.drewN_drewN _ _ _) (congrArg (World.drewN _) (Nat.add_assoc _ _ _))⟩))))
          (first | go_roundg k2 | (refine Handed.intro k2 ?measure ?_; rotate_left; go_step; (try simp only [add_plain]); (repeat apply Exists.intro); refine ⟨?rel, rfl⟩))
          case measure => have := HK1.out; have := HK2.out; omega
          case rel => exact ⟨(x6_2), (wrap64 (x12_2 + 1)), rS, H', ⟨by have := HK1.out; have := HK2.out; omega⟩, ⟨rU HO_5.out⟩, ⟨rU HO_6.out⟩, ⟨kU BK571.out⟩, ⟨bU1 HB.out GE571.out⟩⟩
        ·
         rw [if_neg c29] at H
         exact absurd H (by simp)
       ·
        rw [if_neg c28] at H
        exact absurd H (by simp)
      ·
       rw [if_neg c27] at H; have c27b0 : decide (x12_2 < (x6_2.length : Int)) = false := decide_eq_false c27; clear c27; replace H := Option.bind_eq_some_iff.mp H; obtain ⟨t586, A510, H⟩ := H; replace H : (some (wrap64 ((wrap64 ((t586.length : Int) - (wrap64 ((x6_2.length : Int) - (wrap64 (2 * (l1.length : Int))))))) + x7_1))) = some r := H; have A51 := Az A510; clear A510; obtain rfl := Option.some.inj H; obtain ⟨Ao52, co52, eo52⟩ := Kd.R_slice HO_6.out; subst eo52
       go_wp2_with (first | (go_at_call 81; (with_reducible refine (spec_l1Cycles.calls k2 _ _ x6_2 t586 _ ?side1 ?side2 A51.out).mono ?_); (case side1 => exact cU ((Kd.R_reads' HO_6.out).2.2)); (case side2 => exact (Kd.R_reads' HO_6.out).2.1); rintro e w53 ⟨v587, rfl, ho0, hb⟩; have n0 := Az (Kd.R_below (rU HO_5.out) hb); have n1 := Az (Kd.R_below (rU HO_6.out) hb); have n2 := Az (Kd.S_lower (Kd.S_new' (Kd.S_new' ho0 (Kd.R_lt (rU HO_5.out))) (Kd.R_lt (rU HO_6.out))) (below_size (bU1 HB.out GE571.out))); have n3 := Az (blk_below (g := gb571) (o := .cells #[.slice A0_0 l0_0.length c0_0, .slice A0_1 l0_1.length c0_1] 25 (0, 0)) (kU BK571.out) hb); have n4 := Az (below_step (bU1 HB.out GE571.out) hb); clear HO_5 HO_6 BK571 HB; have HO_5 := n0; have HO_6 := n1; have HO588 := n2; have BK571 := n3; have HB := n4; clear n0 n1 n2 n3 n4; (try clear hb); (try clear hb2); (try clear hk); (try clear hi); (try clear ho0); obtain ⟨Ao54, co54, eo54⟩ := Kd.S_slice HO588.out; subst eo54))
       repeat (go_quiet (first | (go_at_call 81; (try simp only [Go.IntWalk.i64_left]); (with_reducible refine (spec_l1Cycles.calls k2 _ _ x6_2 t586 _ ?side1 ?side2 A51.out).mono ?_); (case side1 => exact cU ((Kd.R_reads' HO_6.out).2.2)); (case side2 => exact (Kd.R_reads' HO_6.out).2.1); rintro e w53 ⟨v587, rfl, ho0, hb⟩; have n0 := Az (Kd.R_below (rU HO_5.out) hb); have n1 := Az (Kd.R_below (rU HO_6.out) hb); have n2 := Az (Kd.S_lower (Kd.S_new' (Kd.S_new' ho0 (Kd.R_lt (rU HO_5.out))) (Kd.R_lt (rU HO_6.out))) (below_size (bU1 HB.out GE571.out))); have n3 := Az (blk_below (g := gb571) (o := .cells #[.slice A0_0 l0_0.length c0_0, .slice A0_1 l0_1.length c0_1] 25 (0, 0)) (kU BK571.out) hb); have n4 := Az (below_step (bU1 HB.out GE571.out) hb); clear HO_5 HO_6 BK571 HB; have HO_5 := n0; have HO_6 := n1; have HO588 := n2; have BK571 := n3; have HB := n4; clear n0 n1 n2 n3 n4; (try clear hb); (try clear hb2); (try clear hk); (try clear hi); (try clear ho0); obtain ⟨Ao54, co54, eo54⟩ := Kd.S_slice HO588.out; subst eo54)); try go_wp2_with (first | (go_at_call 81; (try simp only [Go.IntWalk.i64_left]); (with_reducible refine (spec_l1Cycles.calls k2 _ _ x6_2 t586 _ ?side1 ?side2 A51.out).mono ?_); (case side1 => exact cU ((Kd.R_reads' HO_6.out).2.2)); (case side2 => exact (Kd.R_reads' HO_6.out).2.1); rintro e w53 ⟨v587, rfl, ho0, hb⟩; have n0 := Az (Kd.R_below (rU HO_5.out) hb); have n1 := Az (Kd.R_below (rU HO_6.out) hb); have n2 := Az (Kd.S_lower (Kd.S_new' (Kd.S_new' ho0 (Kd.R_lt (rU HO_5.out))) (Kd.R_lt (rU HO_6.out))) (below_size (bU1 HB.out GE571.out))); have n3 := Az (blk_below (g := gb571) (o := .cells #[.slice A0_0 l0_0.length c0_0, .slice A0_1 l0_1.length c0_1] 25 (0, 0)) (kU BK571.out) hb); have n4 := Az (below_step (bU1 HB.out GE571.out) hb); clear HO_5 HO_6 BK571 HB; have HO_5 := n0; have HO_6 := n1; have HO588 := n2; have BK571 := n3; have HB := n4; clear n0 n1 n2 n3 n4; (try clear hb); (try clear hb2); (try clear hk); (try clear hi); (try clear ho0); obtain ⟨Ao54, co54, eo54⟩ := Kd.S_slice HO588.out; subst eo54)))
       go_ret
       exact ⟨rE, bU1 HB.out GE571.out⟩
def spec_l7Counts.f (k : Nat) (l0_0 : List Int) (l0_1 : List Int) (l1 : List Int) : Option (List Int) := (spec_l7Parts.f k l0_0 l0_1 l1).bind fun t598 => ((spec_l7Sides.f k l0_0 l0_1 l1).bind fun t599 => ((spec_l1Cycles.f k l0_0).bind fun t600 => (some (([t598, t599, wrap64 ((t600.length : Int) - t598), wrap64 ((l1.length : Int) - (wrap64 ((t600.length : Int) - t598))), wrap64 (Int.tdiv (wrap64 ((wrap64 ((wrap64 ((wrap64 (2 * t598)) - (t600.length : Int))) + (l1.length : Int))) - t599)) 2)] : List Int)))))
set_option maxHeartbeats 8000000 in
set_option maxRecDepth 100000 in
theorem spec_l7Counts.calls (k : Nat) (A0_0 : Option Addr) (c0_0 : Nat) (l0_0 : List Int) (A0_1 : Option Addr) (c0_1 : Nat) (l0_1 : List Int) (A1 : Option Addr) (c1 : Nat) (l1 : List Int) (r : List Int) (w : World) (hr0_0 : Kd.C (Kd.int .i64) w A0_0 l0_0.length l0_0) (hc0_0 : l0_0.length ≤ c0_0) (hr0_1 : Kd.C (Kd.int .i64) w A0_1 l0_1.length l0_1) (hc0_1 : l0_1.length ≤ c0_1) (hr1 : Kd.C (Kd.int .i64) w A1 l1.length l1) (hc1 : l1.length ≤ c1) (h : spec_l7Counts.f k l0_0 l0_1 l1 = some r) :
  Calls Try.prog 69 #[.agg #[.slice A0_0 l0_0.length c0_0, .slice A0_1 l0_1.length c0_1], .slice A1 l1.length c1] w fun e w' => ∃ v0_ : Value, e = .returned (v0_) ∧ Kd.R (Kd.int .i64) 3 w' w.heap.size (fun _ => True) v0_ r ∧ Below w.heap.size w w' := by
 have hu25 := Try.underlying25; have HR0_0 := Az hr0_0; have HC0_0 := Az hc0_0; clear hr0_0 hc0_0; have HR0_1 := Az hr0_1; have HC0_1 := Az hc0_1; clear hr0_1 hc0_1; have HR1 := Az hr1; have HC1 := Az hc1; clear hr1 hc1; have HB := Az (Below.refl w.heap.size w); have H : ((spec_l7Parts.f k l0_0 l0_1 l1).bind fun t598 => ((spec_l7Sides.f k l0_0 l0_1 l1).bind fun t599 => ((spec_l1Cycles.f k l0_0).bind fun t600 => (some (([t598, t599, wrap64 ((t600.length : Int) - t598), wrap64 ((l1.length : Int) - (wrap64 ((t600.length : Int) - t598))), wrap64 (Int.tdiv (wrap64 ((wrap64 ((wrap64 ((wrap64 (2 * t598)) - (t600.length : Int))) + (l1.length : Int))) - t599)) 2)] : List Int)))))) = some r := h; clear h; replace H := Option.bind_eq_some_iff.mp H; obtain ⟨t598, A30, H⟩ := H; replace H : ((spec_l7Sides.f k l0_0 l0_1 l1).bind fun t599 => ((spec_l1Cycles.f k l0_0).bind fun t600 => (some (([t598, t599, wrap64 ((t600.length : Int) - t598), wrap64 ((l1.length : Int) - (wrap64 ((t600.length : Int) - t598))), wrap64 (Int.tdiv (wrap64 ((wrap64 ((wrap64 ((wrap64 (2 * t598)) - (t600.length : Int))) + (l1.length : Int))) - t599)) 2)] : List Int))))) = some r := H; have A3 := Az A30; clear A30; replace H := Option.bind_eq_some_iff.mp H; obtain ⟨t599, A40, H⟩ := H; replace H : ((spec_l1Cycles.f k l0_0).bind fun t600 => (some (([t598, t599, wrap64 ((t600.length : Int) - t598), wrap64 ((l1.length : Int) - (wrap64 ((t600.length : Int) - t598))), wrap64 (Int.tdiv (wrap64 ((wrap64 ((wrap64 ((wrap64 (2 * t598)) - (t600.length : Int))) + (l1.length : Int))) - t599)) 2)] : List Int)))) = some r := H; have A4 := Az A40; clear A40; replace H := Option.bind_eq_some_iff.mp H; obtain ⟨t600, A50, H⟩ := H; replace H : (some (([t598, t599, wrap64 ((t600.length : Int) - t598), wrap64 ((l1.length : Int) - (wrap64 ((t600.length : Int) - t598))), wrap64 (Int.tdiv (wrap64 ((wrap64 ((wrap64 ((wrap64 (2 * t598)) - (t600.length : Int))) + (l1.length : Int))) - t599)) 2)] : List Int))) = some r := H; have A5 := Az A50; clear A50; obtain ⟨y603, hy603⟩ : ∃ y_ : List Int, y_ = (([t598, t599, wrap64 ((t600.length : Int) - t598), wrap64 ((l1.length : Int) - (wrap64 ((t600.length : Int) - t598))), wrap64 (Int.tdiv (wrap64 ((wrap64 ((wrap64 ((wrap64 (2 * t598)) - (t600.length : Int))) + (l1.length : Int))) - t599)) 2)] : List Int)) := ⟨_, rfl⟩; replace H : (some y603) = some r := hR hy603 H; have Ny603 := Az hy603; clear hy603; obtain rfl := Option.some.inj H
 go_enter Try.func69, Try.ntmps69
 go_wp2_with (first | ((with_reducible refine gate_dst (N := 2) rfl ?_); refine box_event ?hg (N := 2) ?hd (cs := #[.slice A0_0 l0_0.length c0_0, .slice A0_1 l0_1.length c0_1]) (t := 25) ?hr ?_; (case hd => rfl); (case hg => rfl); (case hr => first | (go_simp; done) | (go_simp; rfl)); intro gb597 hg w6 hbox hb; have n0 := Az (below_step (bU0 HB.out) hb); have n1 := Az (hbox); have n2 := Az ((by rw [hg]; exact (below_size (bU0 HB.out)) : w.heap.size ≤ gb597)); have n3 := n2; clear HB; have HB := n0; have BK597 := n1; have GW597 := n2; have GE597 := n3; clear n0 n1 n2 n3 hb hbox hg; have hcz7_0 : w6.cell? ⟨gb597, 0, none⟩ = some (.slice A0_0 l0_0.length c0_0) := (blk_cell BK597.out 0).trans rfl; have hcz7_1 : w6.cell? ⟨gb597, 1, none⟩ = some (.slice A0_1 l0_1.length c0_1) := (blk_cell BK597.out 1).trans rfl; have hfz7_0 := blk_frozen BK597.out 0; have hfz7_1 := blk_frozen BK597.out 1) | ((with_reducible refine gate_callee (f := 89) rfl ?_); refine goesL_ (some 11) rfl rfl Try.func89 (by kernel_rfl) rfl #[.agg #[.slice A0_0 l0_0.length c0_0, .slice A0_1 l0_1.length c0_1], .slice A1 l1.length c1] rfl (by (try simp only [List.map_toArray, List.map_cons, List.map_nil]); first | done | rfl | (simp only [List.length_drop, List.length_take]; rfl)) ?_; (with_reducible refine (spec_l7Parts.calls k _ _ l0_0 _ _ l0_1 _ _ l1 t598 _ ?side1 ?side2 ?side3 ?side4 ?side5 ?side6 A3.out).mono ?_); (case side1 => exact cU (Kd.C_below HR0_0.out HB.out)); (case side2 => exact HC0_0.out); (case side3 => exact cU (Kd.C_below HR0_1.out HB.out)); (case side4 => exact HC0_1.out); (case side5 => exact cU (Kd.C_below HR1.out HB.out)); (case side6 => exact HC1.out); rintro e w8 ⟨rfl, hb⟩; refine ⟨_, rfl, ?_⟩; have n0 := Az (blk_below (g := gb597) (o := .cells #[.slice A0_0 l0_0.length c0_0, .slice A0_1 l0_1.length c0_1] 25 (0, 0)) (kU BK597.out) hb); have n1 := Az (below_step (bU1 HB.out GE597.out) hb); clear BK597 HB; have BK597 := n0; have HB := n1; clear n0 n1; (try clear hb); (try clear hb2); (try clear hk); (try clear hi); have hcz9_0 : w8.cell? ⟨gb597, 0, none⟩ = some (.slice A0_0 l0_0.length c0_0) := (blk_cell BK597.out 0).trans rfl; have hcz9_1 : w8.cell? ⟨gb597, 1, none⟩ = some (.slice A0_1 l0_1.length c0_1) := (blk_cell BK597.out 1).trans rfl; have hfz9_0 := blk_frozen BK597.out 0; have hfz9_1 := blk_frozen BK597.out 1) | ((with_reducible refine gate_callee (f := 104) rfl ?_); refine goesL_ (some 14) rfl rfl Try.func104 (by kernel_rfl) rfl #[.agg #[.slice A0_0 l0_0.length c0_0, .slice A0_1 l0_1.length c0_1], .slice A1 l1.length c1] rfl (by (try simp only [List.map_toArray, List.map_cons, List.map_nil]); first | done | rfl | (simp only [List.length_drop, List.length_take]; rfl)) ?_; (with_reducible refine (spec_l7Sides.calls k _ _ l0_0 _ _ l0_1 _ _ l1 t599 _ ?side1 ?side2 ?side3 ?side4 ?side5 ?side6 A4.out).mono ?_); (case side1 => exact cU (Kd.C_below HR0_0.out HB.out)); (case side2 => exact HC0_0.out); (case side3 => exact cU (Kd.C_below HR0_1.out HB.out)); (case side4 => exact HC0_1.out); (case side5 => exact cU (Kd.C_below HR1.out HB.out)); (case side6 => exact HC1.out); rintro e w10 ⟨rfl, hb⟩; refine ⟨_, rfl, ?_⟩; have n0 := Az (blk_below (g := gb597) (o := .cells #[.slice A0_0 l0_0.length c0_0, .slice A0_1 l0_1.length c0_1] 25 (0, 0)) (kU BK597.out) hb); have n1 := Az (below_step (bU1 HB.out GE597.out) hb); clear BK597 HB; have BK597 := n0; have HB := n1; clear n0 n1; (try clear hb); (try clear hb2); (try clear hk); (try clear hi); have hcz11_0 : w10.cell? ⟨gb597, 0, none⟩ = some (.slice A0_0 l0_0.length c0_0) := (blk_cell BK597.out 0).trans rfl; have hcz11_1 : w10.cell? ⟨gb597, 1, none⟩ = some (.slice A0_1 l0_1.length c0_1) := (blk_cell BK597.out 1).trans rfl; have hfz11_0 := blk_frozen BK597.out 0; have hfz11_1 := blk_frozen BK597.out 1) | ((with_reducible refine gate_callee (f := 81) rfl ?_); refine goesL_ (some 17) rfl rfl Try.func81 (by kernel_rfl) rfl #[.slice A0_0 l0_0.length c0_0] rfl (by (try simp only [List.map_toArray, List.map_cons, List.map_nil]); first | done | rfl | (simp only [List.length_drop, List.length_take]; rfl)) ?_; (with_reducible refine (spec_l1Cycles.calls k _ _ l0_0 t600 _ ?side1 ?side2 A5.out).mono ?_); (case side1 => exact cU (Kd.C_below HR0_0.out HB.out)); (case side2 => exact HC0_0.out); rintro e w12 ⟨v601, rfl, ho0, hb⟩; refine ⟨_, rfl, ?_⟩; have n0 := Az (Kd.S_lower ho0 (below_size (bU1 HB.out GE597.out))); have n1 := Az (blk_below (g := gb597) (o := .cells #[.slice A0_0 l0_0.length c0_0, .slice A0_1 l0_1.length c0_1] 25 (0, 0)) (kU BK597.out) hb); have n2 := Az (below_step (bU1 HB.out GE597.out) hb); clear BK597 HB; have HO602 := n0; have BK597 := n1; have HB := n2; clear n0 n1 n2; (try clear hb); (try clear hb2); (try clear hk); (try clear hi); (try clear ho0); obtain ⟨Ao13, co13, eo13⟩ := Kd.S_slice HO602.out; subst eo13) | ((with_reducible refine gate_dst (N := 39) rfl ?_); refine Kd.R_lit (Kd.int .i64) _ 3 ?hg (N := 39) ?hd (xs := ([t598, t599, wrap64 ((t600.length : Int) - t598), wrap64 ((l1.length : Int) - (wrap64 ((t600.length : Int) - t598))), wrap64 (Int.tdiv (wrap64 ((wrap64 ((wrap64 ((wrap64 (2 * t598)) - (t600.length : Int))) + (l1.length : Int))) - t599)) 2)] : List Int)) (inner := [.int .i64 t598, .int .i64 t599, .int .i64 (wrap64 ((t600.length : Int) - t598)), .int .i64 (wrap64 ((l1.length : Int) - (wrap64 ((t600.length : Int) - t598)))), .int .i64 (wrap64 (Int.tdiv (wrap64 ((wrap64 ((wrap64 ((wrap64 (2 * t598)) - (t600.length : Int))) + (l1.length : Int))) - t599)) 2))]) (ok := fun _ => True) (okp := fun _ => True) ?hr ?hp (fun _ hk => hk) trivial (Below.refl _ _) (Nat.le_refl _) (by simp) ?_; (case hd => rfl); (case hg => rfl); (case hr => first | (go_simp; done) | (go_simp; rfl)); (case hp => exact (Reps.one (show Kd.M (Kd.int .i64) _ _ _ t598 [.int .i64 t598] from rfl) (Reps.one (show Kd.M (Kd.int .i64) _ _ _ t599 [.int .i64 t599] from rfl) (Reps.one (show Kd.M (Kd.int .i64) _ _ _ (wrap64 ((t600.length : Int) - t598)) [.int .i64 (wrap64 ((t600.length : Int) - t598))] from rfl) (Reps.one (show Kd.M (Kd.int .i64) _ _ _ (wrap64 ((l1.length : Int) - (wrap64 ((t600.length : Int) - t598)))) [.int .i64 (wrap64 ((l1.length : Int) - (wrap64 ((t600.length : Int) - t598))))] from rfl) (Reps.one (show Kd.M (Kd.int .i64) _ _ _ (wrap64 (Int.tdiv (wrap64 ((wrap64 ((wrap64 ((wrap64 (2 * t598)) - (t600.length : Int))) + (l1.length : Int))) - t599)) 2)) [.int .i64 (wrap64 (Int.tdiv (wrap64 ((wrap64 ((wrap64 ((wrap64 (2 * t598)) - (t600.length : Int))) + (l1.length : Int))) - t599)) 2))] from rfl) (Reps.none _ _))))))); intro v604 w14 ho15 hb hg_ hnew_; clear hg_ hnew_; (first | rw [← Ny603.out] at ho15 | (simp only [Int.reduceToNat] at ho15; rw [← Ny603.out] at ho15)); have n0 := Az (Kd.S_elder' (sU HO602.out) (Kd.R_base ho15) hb); have n1 := Az (Kd.R_lower ho15 (below_size (bU1 HB.out GE597.out))); have n2 := Az (blk_below (g := gb597) (o := .cells #[.slice A0_0 l0_0.length c0_0, .slice A0_1 l0_1.length c0_1] 25 (0, 0)) (kU BK597.out) hb); have n3 := Az (below_step (bU1 HB.out GE597.out) hb); clear HO602 BK597 HB; have HO602 := n0; have HO605 := n1; have BK597 := n2; have HB := n3; clear n0 n1 n2 n3; clear hb ho15))
 go_ret
 exact ⟨_, rE, rU HO605.out, bU1 HB.out GE597.out⟩
def spec_ChoiceCounts.f (k : Nat) (l0_0 : List Int) (l0_1 : List Int) (l1 : List Int) : Option (List Int × Bool) := (spec_ChoiceValid.f k l0_0 l0_1 l1).bind fun t607 => (if t607 = true then ((spec_l7Counts.f k l0_0 l0_1 l1).bind fun t608 => (some (t608, true))) else (some ((([] : List Int)), false)))
set_option maxHeartbeats 8000000 in
set_option maxRecDepth 100000 in
theorem spec_ChoiceCounts.calls (k : Nat) (A0_0 : Option Addr) (c0_0 : Nat) (l0_0 : List Int) (A0_1 : Option Addr) (c0_1 : Nat) (l0_1 : List Int) (A1 : Option Addr) (c1 : Nat) (l1 : List Int) (r1 : List Int) (r2 : Bool) (w : World) (hr0_0 : Kd.C (Kd.int .i64) w A0_0 l0_0.length l0_0) (hc0_0 : l0_0.length ≤ c0_0) (hr0_1 : Kd.C (Kd.int .i64) w A0_1 l0_1.length l0_1) (hc0_1 : l0_1.length ≤ c0_1) (hr1 : Kd.C (Kd.int .i64) w A1 l1.length l1) (hc1 : l1.length ≤ c1) (h : spec_ChoiceCounts.f k l0_0 l0_1 l1 = some (r1, r2)) :
  Calls Try.prog 32 #[.agg #[.slice A0_0 l0_0.length c0_0, .slice A0_1 l0_1.length c0_1], .slice A1 l1.length c1] w fun e w' => ∃ v0_ : Value, e = .returned (.tuple #[v0_, .bool r2]) ∧ Kd.R (Kd.int .i64) 3 w' w.heap.size (fun _ => True) v0_ r1 ∧ Below w.heap.size w w' := by
 have hu25 := Try.underlying25; have HR0_0 := Az hr0_0; have HC0_0 := Az hc0_0; clear hr0_0 hc0_0; have HR0_1 := Az hr0_1; have HC0_1 := Az hc0_1; clear hr0_1 hc0_1; have HR1 := Az hr1; have HC1 := Az hc1; clear hr1 hc1; have HB := Az (Below.refl w.heap.size w); have H : ((spec_ChoiceValid.f k l0_0 l0_1 l1).bind fun t607 => (if t607 = true then ((spec_l7Counts.f k l0_0 l0_1 l1).bind fun t608 => (some (t608, true))) else (some ((([] : List Int)), false)))) = some (r1, r2) := h; clear h; replace H := Option.bind_eq_some_iff.mp H; obtain ⟨t607, A30, H⟩ := H; replace H : (if t607 = true then ((spec_l7Counts.f k l0_0 l0_1 l1).bind fun t608 => (some (t608, true))) else (some ((([] : List Int)), false))) = some (r1, r2) := H; have A3 := Az A30; clear A30
 by_cases c4 : t607 = true
 ·
  subst c4
  have H1 : ((spec_l7Counts.f k l0_0 l0_1 l1).bind fun t608 => (some (t608, true))) = some (r1, r2) := by rw [if_pos rfl] at H; exact H
  clear H; have H := H1; clear H1; replace H := Option.bind_eq_some_iff.mp H; obtain ⟨t608, A50, H⟩ := H; replace H : (some (t608, true)) = some (r1, r2) := H; have A5 := Az A50; clear A50; simp only [Option.some.injEq, Prod.mk.injEq] at H; obtain ⟨rfl, rfl⟩ := H
  go_enter Try.func32, Try.ntmps32
  go_wp2_with (first | ((with_reducible refine gate_dst (N := 2) rfl ?_); refine box_event ?hg (N := 2) ?hd (cs := #[.slice A0_0 l0_0.length c0_0, .slice A0_1 l0_1.length c0_1]) (t := 25) ?hr ?_; (case hd => rfl); (case hg => rfl); (case hr => first | (go_simp; done) | (go_simp; rfl)); intro gb606 hg w6 hbox hb; have n0 := Az (below_step (bU0 HB.out) hb); have n1 := Az (hbox); have n2 := Az ((by rw [hg]; exact (below_size (bU0 HB.out)) : w.heap.size ≤ gb606)); have n3 := n2; clear HB; have HB := n0; have BK606 := n1; have GW606 := n2; have GE606 := n3; clear n0 n1 n2 n3 hb hbox hg; have hcz7_0 : w6.cell? ⟨gb606, 0, none⟩ = some (.slice A0_0 l0_0.length c0_0) := (blk_cell BK606.out 0).trans rfl; have hcz7_1 : w6.cell? ⟨gb606, 1, none⟩ = some (.slice A0_1 l0_1.length c0_1) := (blk_cell BK606.out 1).trans rfl; have hfz7_0 := blk_frozen BK606.out 0; have hfz7_1 := blk_frozen BK606.out 1) | ((with_reducible refine gate_callee (f := 17) rfl ?_); refine goesL_ (some 8) rfl rfl Try.func17 (by kernel_rfl) rfl #[.agg #[.slice A0_0 l0_0.length c0_0, .slice A0_1 l0_1.length c0_1], .slice A1 l1.length c1] rfl (by (try simp only [List.map_toArray, List.map_cons, List.map_nil]); first | done | rfl | (simp only [List.length_drop, List.length_take]; rfl)) ?_; (with_reducible refine (spec_ChoiceValid.calls k _ _ l0_0 _ _ l0_1 _ _ l1 true _ ?side1 ?side2 ?side3 ?side4 ?side5 ?side6 A3.out).mono ?_); (case side1 => exact cU (Kd.C_below HR0_0.out HB.out)); (case side2 => exact HC0_0.out); (case side3 => exact cU (Kd.C_below HR0_1.out HB.out)); (case side4 => exact HC0_1.out); (case side5 => exact cU (Kd.C_below HR1.out HB.out)); (case side6 => exact HC1.out); rintro e w8 ⟨rfl, hb⟩; refine ⟨_, rfl, ?_⟩; have n0 := Az (blk_below (g := gb606) (o := .cells #[.slice A0_0 l0_0.length c0_0, .slice A0_1 l0_1.length c0_1] 25 (0, 0)) (kU BK606.out) hb); have n1 := Az (below_step (bU1 HB.out GE606.out) hb); clear BK606 HB; have BK606 := n0; have HB := n1; clear n0 n1; (try clear hb); (try clear hb2); (try clear hk); (try clear hi); have hcz9_0 : w8.cell? ⟨gb606, 0, none⟩ = some (.slice A0_0 l0_0.length c0_0) := (blk_cell BK606.out 0).trans rfl; have hcz9_1 : w8.cell? ⟨gb606, 1, none⟩ = some (.slice A0_1 l0_1.length c0_1) := (blk_cell BK606.out 1).trans rfl; have hfz9_0 := blk_frozen BK606.out 0; have hfz9_1 := blk_frozen BK606.out 1) | ((with_reducible refine gate_callee (f := 69) rfl ?_); refine goesL_ (some 13) rfl rfl Try.func69 (by kernel_rfl) rfl #[.agg #[.slice A0_0 l0_0.length c0_0, .slice A0_1 l0_1.length c0_1], .slice A1 l1.length c1] rfl (by (try simp only [List.map_toArray, List.map_cons, List.map_nil]); first | done | rfl | (simp only [List.length_drop, List.length_take]; rfl)) ?_; (with_reducible refine (spec_l7Counts.calls k _ _ l0_0 _ _ l0_1 _ _ l1 t608 _ ?side1 ?side2 ?side3 ?side4 ?side5 ?side6 A5.out).mono ?_); (case side1 => exact cU (Kd.C_below HR0_0.out HB.out)); (case side2 => exact HC0_0.out); (case side3 => exact cU (Kd.C_below HR0_1.out HB.out)); (case side4 => exact HC0_1.out); (case side5 => exact cU (Kd.C_below HR1.out HB.out)); (case side6 => exact HC1.out); rintro e w10 ⟨v609, rfl, ho0, hb⟩; refine ⟨_, rfl, ?_⟩; have n0 := Az (Kd.R_lower ho0 (below_size (bU1 HB.out GE606.out))); have n1 := Az (blk_below (g := gb606) (o := .cells #[.slice A0_0 l0_0.length c0_0, .slice A0_1 l0_1.length c0_1] 25 (0, 0)) (kU BK606.out) hb); have n2 := Az (below_step (bU1 HB.out GE606.out) hb); clear BK606 HB; have HO610 := n0; have BK606 := n1; have HB := n2; clear n0 n1 n2; (try clear hb); (try clear hb2); (try clear hk); (try clear hi); (try clear ho0)))
  go_ret2
  exact ⟨_, rE, rU HO610.out, bU1 HB.out GE606.out⟩
 ·
  replace c4 := Bool.eq_false_iff.mpr c4; subst c4
  have H1 : (some ((([] : List Int)), false)) = some (r1, r2) := by rw [if_neg (show ¬ (false = true) by decide)] at H; exact H
  clear H; have H := H1; clear H1; obtain ⟨y611, hy611⟩ : ∃ y_ : List Int, y_ = (([] : List Int)) := ⟨_, rfl⟩; replace H : (some (y611, false)) = some (r1, r2) := hR hy611 H; have Ny611 := Az hy611; clear hy611; simp only [Option.some.injEq, Prod.mk.injEq] at H; obtain ⟨rfl, rfl⟩ := H
  go_enter Try.func32, Try.ntmps32
  go_wp2_with (first | ((with_reducible refine gate_dst (N := 2) rfl ?_); refine box_event ?hg (N := 2) ?hd (cs := #[.slice A0_0 l0_0.length c0_0, .slice A0_1 l0_1.length c0_1]) (t := 25) ?hr ?_; (case hd => rfl); (case hg => rfl); (case hr => first | (go_simp; done) | (go_simp; rfl)); intro gb606 hg w11 hbox hb; have n0 := Az (below_step (bU0 HB.out) hb); have n1 := Az (hbox); have n2 := Az ((by rw [hg]; exact (below_size (bU0 HB.out)) : w.heap.size ≤ gb606)); have n3 := n2; clear HB; have HB := n0; have BK606 := n1; have GW606 := n2; have GE606 := n3; clear n0 n1 n2 n3 hb hbox hg; have hcz12_0 : w11.cell? ⟨gb606, 0, none⟩ = some (.slice A0_0 l0_0.length c0_0) := (blk_cell BK606.out 0).trans rfl; have hcz12_1 : w11.cell? ⟨gb606, 1, none⟩ = some (.slice A0_1 l0_1.length c0_1) := (blk_cell BK606.out 1).trans rfl; have hfz12_0 := blk_frozen BK606.out 0; have hfz12_1 := blk_frozen BK606.out 1) | ((with_reducible refine gate_callee (f := 17) rfl ?_); refine goesL_ (some 8) rfl rfl Try.func17 (by kernel_rfl) rfl #[.agg #[.slice A0_0 l0_0.length c0_0, .slice A0_1 l0_1.length c0_1], .slice A1 l1.length c1] rfl (by (try simp only [List.map_toArray, List.map_cons, List.map_nil]); first | done | rfl | (simp only [List.length_drop, List.length_take]; rfl)) ?_; (with_reducible refine (spec_ChoiceValid.calls k _ _ l0_0 _ _ l0_1 _ _ l1 false _ ?side1 ?side2 ?side3 ?side4 ?side5 ?side6 A3.out).mono ?_); (case side1 => exact cU (Kd.C_below HR0_0.out HB.out)); (case side2 => exact HC0_0.out); (case side3 => exact cU (Kd.C_below HR0_1.out HB.out)); (case side4 => exact HC0_1.out); (case side5 => exact cU (Kd.C_below HR1.out HB.out)); (case side6 => exact HC1.out); rintro e w13 ⟨rfl, hb⟩; refine ⟨_, rfl, ?_⟩; have n0 := Az (blk_below (g := gb606) (o := .cells #[.slice A0_0 l0_0.length c0_0, .slice A0_1 l0_1.length c0_1] 25 (0, 0)) (kU BK606.out) hb); have n1 := Az (below_step (bU1 HB.out GE606.out) hb); clear BK606 HB; have BK606 := n0; have HB := n1; clear n0 n1; (try clear hb); (try clear hb2); (try clear hk); (try clear hi)) | ((with_reducible refine gate_dst (N := 10) rfl ?_); refine Kd.R_lit (Kd.int .i64) _ 3 ?hg (N := 10) ?hd (xs := ([] : List Int)) (inner := []) (ok := fun _ => True) (okp := fun _ => True) ?hr ?hp (fun _ hk => hk) trivial (Below.refl _ _) (Nat.le_refl _) (by simp) ?_; (case hd => rfl); (case hg => rfl); (case hr => first | (go_simp; done) | (go_simp; rfl)); (case hp => exact (Reps.none _ _)); intro v612 w14 ho15 hb hg_ hnew_; clear hg_ hnew_; (first | rw [← Ny611.out] at ho15 | (simp only [Int.reduceToNat] at ho15; rw [← Ny611.out] at ho15)); have n0 := Az (Kd.R_lower ho15 (below_size (bU1 HB.out GE606.out))); have n1 := Az (blk_below (g := gb606) (o := .cells #[.slice A0_0 l0_0.length c0_0, .slice A0_1 l0_1.length c0_1] 25 (0, 0)) (kU BK606.out) hb); have n2 := Az (below_step (bU1 HB.out GE606.out) hb); clear BK606 HB; have HO613 := n0; have BK606 := n1; have HB := n2; clear n0 n1 n2; clear hb ho15))
  go_ret2
  exact ⟨_, rE, rU HO613.out, bU1 HB.out GE606.out⟩
def spec_ChoiceTree.f (k : Nat) (l0_0 : List Int) (l0_1 : List Int) (l1 : List Int) : Option (Bool) := (spec_ChoiceCounts.f k l0_0 l0_1 l1).bind fun bt615 => (if bt615.2 = true then (if 0 < (bt615.1.length : Int) then (if (rd bt615.1 0) = 1 then (if 3 < (bt615.1.length : Int) then (some ((rd bt615.1 3) == 0)) else (none)) else (some false)) else (none)) else (some false))
set_option maxHeartbeats 8000000 in
set_option maxRecDepth 100000 in
theorem spec_ChoiceTree.calls (k : Nat) (A0_0 : Option Addr) (c0_0 : Nat) (l0_0 : List Int) (A0_1 : Option Addr) (c0_1 : Nat) (l0_1 : List Int) (A1 : Option Addr) (c1 : Nat) (l1 : List Int) (r : Bool) (w : World) (hr0_0 : Kd.C (Kd.int .i64) w A0_0 l0_0.length l0_0) (hc0_0 : l0_0.length ≤ c0_0) (hr0_1 : Kd.C (Kd.int .i64) w A0_1 l0_1.length l0_1) (hc0_1 : l0_1.length ≤ c0_1) (hr1 : Kd.C (Kd.int .i64) w A1 l1.length l1) (hc1 : l1.length ≤ c1) (h : spec_ChoiceTree.f k l0_0 l0_1 l1 = some r) :
  Calls Try.prog 29 #[.agg #[.slice A0_0 l0_0.length c0_0, .slice A0_1 l0_1.length c0_1], .slice A1 l1.length c1] w fun e w' => e = .returned (.bool r) ∧ Below w.heap.size w w' := by
 have hu25 := Try.underlying25; have HR0_0 := Az hr0_0; have HC0_0 := Az hc0_0; clear hr0_0 hc0_0; have HR0_1 := Az hr0_1; have HC0_1 := Az hc0_1; clear hr0_1 hc0_1; have HR1 := Az hr1; have HC1 := Az hc1; clear hr1 hc1; have HB := Az (Below.refl w.heap.size w); have H : ((spec_ChoiceCounts.f k l0_0 l0_1 l1).bind fun bt615 => (if bt615.2 = true then (if 0 < (bt615.1.length : Int) then (if (rd bt615.1 0) = 1 then (if 3 < (bt615.1.length : Int) then (some ((rd bt615.1 3) == 0)) else (none)) else (some false)) else (none)) else (some false))) = some r := h; clear h; replace H := Option.bind_eq_some_iff.mp H; obtain ⟨⟨t615, t618⟩, A30, H⟩ := H; replace H : (if t618 = true then (if 0 < (t615.length : Int) then (if (rd t615 0) = 1 then (if 3 < (t615.length : Int) then (some ((rd t615 3) == 0)) else (none)) else (some false)) else (none)) else (some false)) = some r := H; have A3 := Az A30; clear A30
 by_cases c4 : t618 = true
 ·
  subst c4
  have H1 : (if 0 < (t615.length : Int) then (if (rd t615 0) = 1 then (if 3 < (t615.length : Int) then (some ((rd t615 3) == 0)) else (none)) else (some false)) else (none)) = some r := by rw [if_pos rfl] at H; exact H
  clear H; have H := H1; clear H1
  by_cases c5 : 0 < (t615.length : Int)
  ·
   rw [if_pos c5] at H; have c5b0 : decide (0 < (t615.length : Int)) = true := decide_eq_true c5; have c5b1 : decide (0 < t615.length) = true := decide_eq_true (by omega); clear c5
   by_cases c6 : (rd t615 0) = 1
   ·
    rw [if_pos c6] at H; have c6b0 : ((rd t615 0) == 1) = true := beq_iff_eq.mpr c6; have c6b1 : ((rd t615 0) != 1) = false := bne_eq_false_iff_eq.mpr c6; clear c6
    by_cases c7 : 3 < (t615.length : Int)
    ·
     rw [if_pos c7] at H; have c7b0 : decide (3 < (t615.length : Int)) = true := decide_eq_true c7; have c7b1 : decide (3 < t615.length) = true := decide_eq_true (by omega); clear c7; obtain rfl := Option.some.inj H
     go_enter Try.func29, Try.ntmps29
     go_wp2_with (first | ((with_reducible refine gate_dst (N := 2) rfl ?_); refine box_event ?hg (N := 2) ?hd (cs := #[.slice A0_0 l0_0.length c0_0, .slice A0_1 l0_1.length c0_1]) (t := 25) ?hr ?_; (case hd => rfl); (case hg => rfl); (case hr => first | (go_simp; done) | (go_simp; rfl)); intro gb614 hg w8 hbox hb; have n0 := Az (below_step (bU0 HB.out) hb); have n1 := Az (hbox); have n2 := Az ((by rw [hg]; exact (below_size (bU0 HB.out)) : w.heap.size ≤ gb614)); have n3 := n2; clear HB; have HB := n0; have BK614 := n1; have GW614 := n2; have GE614 := n3; clear n0 n1 n2 n3 hb hbox hg; have hcz9_0 : w8.cell? ⟨gb614, 0, none⟩ = some (.slice A0_0 l0_0.length c0_0) := (blk_cell BK614.out 0).trans rfl; have hcz9_1 : w8.cell? ⟨gb614, 1, none⟩ = some (.slice A0_1 l0_1.length c0_1) := (blk_cell BK614.out 1).trans rfl; have hfz9_0 := blk_frozen BK614.out 0; have hfz9_1 := blk_frozen BK614.out 1) | ((with_reducible refine gate_callee (f := 32) rfl ?_); refine goesL_ (some 10) rfl rfl Try.func32 (by kernel_rfl) rfl #[.agg #[.slice A0_0 l0_0.length c0_0, .slice A0_1 l0_1.length c0_1], .slice A1 l1.length c1] rfl (by (try simp only [List.map_toArray, List.map_cons, List.map_nil]); first | done | rfl | (simp only [List.length_drop, List.length_take]; rfl)) ?_; (with_reducible refine (spec_ChoiceCounts.calls k _ _ l0_0 _ _ l0_1 _ _ l1 t615 true _ ?side1 ?side2 ?side3 ?side4 ?side5 ?side6 A3.out).mono ?_); (case side1 => exact cU (Kd.C_below HR0_0.out HB.out)); (case side2 => exact HC0_0.out); (case side3 => exact cU (Kd.C_below HR0_1.out HB.out)); (case side4 => exact HC0_1.out); (case side5 => exact cU (Kd.C_below HR1.out HB.out)); (case side6 => exact HC1.out); rintro e w10 ⟨v616, rfl, ho0, hb⟩; refine ⟨_, rfl, ?_⟩; have n0 := Az (Kd.R_lower ho0 (below_size (bU1 HB.out GE614.out))); have n1 := Az (blk_below (g := gb614) (o := .cells #[.slice A0_0 l0_0.length c0_0, .slice A0_1 l0_1.length c0_1] 25 (0, 0)) (kU BK614.out) hb); have n2 := Az (below_step (bU1 HB.out GE614.out) hb); clear BK614 HB; have HO617 := n0; have BK614 := n1; have HB := n2; clear n0 n1 n2; (try clear hb); (try clear hb2); (try clear hk); (try clear hi); (try clear ho0); obtain ⟨Ao11, co11, eo11⟩ := Kd.R_slice HO617.out; subst eo11; have p619 : 0 ≤ (0 : Int) := (by omega); have q619 : 0 < (t615.length : Int) := oA; obtain ⟨ad619, e619, hx619_0⟩ := Kd.at_int (Kd.R_reads' HO617.out).2.2 0 p619 q619; cases e619; have qi619 : (0 < t615.length) = True := eq_true (by omega); (try rw [show ((0 : Int)).toNat = 0 from rfl] at hx619_0); (try rw [Addr.add_zero'] at hx619_0); replace p619 := eq_true p619; replace q619 := eq_true q619; have p620 : 0 ≤ (3 : Int) := (by omega); have q620 : 3 < (t615.length : Int) := oA; obtain ⟨ad620, e620, hx620_0⟩ := Kd.at_int (Kd.R_reads' HO617.out).2.2 3 p620 q620; obtain rfl : ad619 = ad620 := (by injection e620); (try simp only [show (3 : Int).toNat = 3 from rfl, Nat.reduceMul, Nat.reduceEqDiff, Go.Addr.add, ↓reduceIte] at hx620_0); have qi620 : (3 < t615.length) = True := eq_true (by omega); (try rw [show ((3 : Int)).toNat = 3 from rfl] at hx620_0); replace p620 := eq_true p620; replace q620 := eq_true q620))
     go_ret
     exact ⟨rE, bU1 HB.out GE614.out⟩
    ·
     rw [if_neg c7] at H
     exact absurd H (by simp)
   ·
    rw [if_neg c6] at H; have c6b0 : ((rd t615 0) == 1) = false := beq_eq_false_iff_ne.mpr c6; have c6b1 : ((rd t615 0) != 1) = true := bne_iff_ne.mpr c6; obtain rfl := Option.some.inj H
    go_enter Try.func29, Try.ntmps29
    go_wp2_with (first | ((with_reducible refine gate_dst (N := 2) rfl ?_); refine box_event ?hg (N := 2) ?hd (cs := #[.slice A0_0 l0_0.length c0_0, .slice A0_1 l0_1.length c0_1]) (t := 25) ?hr ?_; (case hd => rfl); (case hg => rfl); (case hr => first | (go_simp; done) | (go_simp; rfl)); intro gb614 hg w12 hbox hb; have n0 := Az (below_step (bU0 HB.out) hb); have n1 := Az (hbox); have n2 := Az ((by rw [hg]; exact (below_size (bU0 HB.out)) : w.heap.size ≤ gb614)); have n3 := n2; clear HB; have HB := n0; have BK614 := n1; have GW614 := n2; have GE614 := n3; clear n0 n1 n2 n3 hb hbox hg; have hcz13_0 : w12.cell? ⟨gb614, 0, none⟩ = some (.slice A0_0 l0_0.length c0_0) := (blk_cell BK614.out 0).trans rfl; have hcz13_1 : w12.cell? ⟨gb614, 1, none⟩ = some (.slice A0_1 l0_1.length c0_1) := (blk_cell BK614.out 1).trans rfl; have hfz13_0 := blk_frozen BK614.out 0; have hfz13_1 := blk_frozen BK614.out 1) | ((with_reducible refine gate_callee (f := 32) rfl ?_); refine goesL_ (some 10) rfl rfl Try.func32 (by kernel_rfl) rfl #[.agg #[.slice A0_0 l0_0.length c0_0, .slice A0_1 l0_1.length c0_1], .slice A1 l1.length c1] rfl (by (try simp only [List.map_toArray, List.map_cons, List.map_nil]); first | done | rfl | (simp only [List.length_drop, List.length_take]; rfl)) ?_; (with_reducible refine (spec_ChoiceCounts.calls k _ _ l0_0 _ _ l0_1 _ _ l1 t615 true _ ?side1 ?side2 ?side3 ?side4 ?side5 ?side6 A3.out).mono ?_); (case side1 => exact cU (Kd.C_below HR0_0.out HB.out)); (case side2 => exact HC0_0.out); (case side3 => exact cU (Kd.C_below HR0_1.out HB.out)); (case side4 => exact HC0_1.out); (case side5 => exact cU (Kd.C_below HR1.out HB.out)); (case side6 => exact HC1.out); rintro e w14 ⟨v616, rfl, ho0, hb⟩; refine ⟨_, rfl, ?_⟩; have n0 := Az (Kd.R_lower ho0 (below_size (bU1 HB.out GE614.out))); have n1 := Az (blk_below (g := gb614) (o := .cells #[.slice A0_0 l0_0.length c0_0, .slice A0_1 l0_1.length c0_1] 25 (0, 0)) (kU BK614.out) hb); have n2 := Az (below_step (bU1 HB.out GE614.out) hb); clear BK614 HB; have HO617 := n0; have BK614 := n1; have HB := n2; clear n0 n1 n2; (try clear hb); (try clear hb2); (try clear hk); (try clear hi); (try clear ho0); obtain ⟨Ao15, co15, eo15⟩ := Kd.R_slice HO617.out; subst eo15; have p619 : 0 ≤ (0 : Int) := (by omega); have q619 : 0 < (t615.length : Int) := oA; obtain ⟨ad619, e619, hx619_0⟩ := Kd.at_int (Kd.R_reads' HO617.out).2.2 0 p619 q619; cases e619; have qi619 : (0 < t615.length) = True := eq_true (by omega); (try rw [show ((0 : Int)).toNat = 0 from rfl] at hx619_0); (try rw [Addr.add_zero'] at hx619_0); replace p619 := eq_true p619; replace q619 := eq_true q619))
    go_ret
    exact ⟨rE, bU1 HB.out GE614.out⟩
  ·
   rw [if_neg c5] at H
   exact absurd H (by simp)
 ·
  replace c4 := Bool.eq_false_iff.mpr c4; subst c4
  have H1 : (some false) = some r := by rw [if_neg (show ¬ (false = true) by decide)] at H; exact H
  clear H; have H := H1; clear H1; obtain rfl := Option.some.inj H
  go_enter Try.func29, Try.ntmps29
  go_wp2_with (first | ((with_reducible refine gate_dst (N := 2) rfl ?_); refine box_event ?hg (N := 2) ?hd (cs := #[.slice A0_0 l0_0.length c0_0, .slice A0_1 l0_1.length c0_1]) (t := 25) ?hr ?_; (case hd => rfl); (case hg => rfl); (case hr => first | (go_simp; done) | (go_simp; rfl)); intro gb614 hg w16 hbox hb; have n0 := Az (below_step (bU0 HB.out) hb); have n1 := Az (hbox); have n2 := Az ((by rw [hg]; exact (below_size (bU0 HB.out)) : w.heap.size ≤ gb614)); have n3 := n2; clear HB; have HB := n0; have BK614 := n1; have GW614 := n2; have GE614 := n3; clear n0 n1 n2 n3 hb hbox hg; have hcz17_0 : w16.cell? ⟨gb614, 0, none⟩ = some (.slice A0_0 l0_0.length c0_0) := (blk_cell BK614.out 0).trans rfl; have hcz17_1 : w16.cell? ⟨gb614, 1, none⟩ = some (.slice A0_1 l0_1.length c0_1) := (blk_cell BK614.out 1).trans rfl; have hfz17_0 := blk_frozen BK614.out 0; have hfz17_1 := blk_frozen BK614.out 1) | ((with_reducible refine gate_callee (f := 32) rfl ?_); refine goesL_ (some 10) rfl rfl Try.func32 (by kernel_rfl) rfl #[.agg #[.slice A0_0 l0_0.length c0_0, .slice A0_1 l0_1.length c0_1], .slice A1 l1.length c1] rfl (by (try simp only [List.map_toArray, List.map_cons, List.map_nil]); first | done | rfl | (simp only [List.length_drop, List.length_take]; rfl)) ?_; (with_reducible refine (spec_ChoiceCounts.calls k _ _ l0_0 _ _ l0_1 _ _ l1 t615 false _ ?side1 ?side2 ?side3 ?side4 ?side5 ?side6 A3.out).mono ?_); (case side1 => exact cU (Kd.C_below HR0_0.out HB.out)); (case side2 => exact HC0_0.out); (case side3 => exact cU (Kd.C_below HR0_1.out HB.out)); (case side4 => exact HC0_1.out); (case side5 => exact cU (Kd.C_below HR1.out HB.out)); (case side6 => exact HC1.out); rintro e w18 ⟨v616, rfl, ho0, hb⟩; refine ⟨_, rfl, ?_⟩; have n0 := Az (Kd.R_lower ho0 (below_size (bU1 HB.out GE614.out))); have n1 := Az (blk_below (g := gb614) (o := .cells #[.slice A0_0 l0_0.length c0_0, .slice A0_1 l0_1.length c0_1] 25 (0, 0)) (kU BK614.out) hb); have n2 := Az (below_step (bU1 HB.out GE614.out) hb); clear BK614 HB; have HO617 := n0; have BK614 := n1; have HB := n2; clear n0 n1 n2; (try clear hb); (try clear hb2); (try clear hk); (try clear hi); (try clear ho0)))
  go_ret
  exact ⟨rE, bU1 HB.out GE614.out⟩
def impl_ChoiceQuasi.f (k : Nat) (l0_0 : List Int) (l0_1 : List Int) (l1 : List Int) : Option (Bool) := (impl_ChoiceValid.f k l0_0 l0_1 l1).bind fun t622 => (if t622 = true then ((impl_ribbon.f k l0_0 l0_1 l1).bind fun t623 => (if 0 < (t623.length : Int) then (if (rd t623 0) = 1 then (if 1 < (t623.length : Int) then (some ((rd t623 1) == 1)) else (none)) else (some false)) else (none))) else (some false))
set_option maxHeartbeats 8000000 in
set_option maxRecDepth 100000 in
theorem impl_ChoiceQuasi.calls (k : Nat) (A0_0 : Option Addr) (c0_0 : Nat) (l0_0 : List Int) (A0_1 : Option Addr) (c0_1 : Nat) (l0_1 : List Int) (A1 : Option Addr) (c1 : Nat) (l1 : List Int) (r : Bool) (w : World) (hr0_0 : Kd.C (Kd.int .i64) w A0_0 l0_0.length l0_0) (hc0_0 : l0_0.length ≤ c0_0) (hr0_1 : Kd.C (Kd.int .i64) w A0_1 l0_1.length l0_1) (hc0_1 : l0_1.length ≤ c0_1) (hr1 : Kd.C (Kd.int .i64) w A1 l1.length l1) (hc1 : l1.length ≤ c1) (h : impl_ChoiceQuasi.f k l0_0 l0_1 l1 = some r) :
  Calls Try.prog 30 #[.agg #[.slice A0_0 l0_0.length c0_0, .slice A0_1 l0_1.length c0_1], .slice A1 l1.length c1] w fun e w' => e = .returned (.bool r) ∧ Below w.heap.size w w' := by
 have hu25 := Try.underlying25; have HR0_0 := Az hr0_0; have HC0_0 := Az hc0_0; clear hr0_0 hc0_0; have HR0_1 := Az hr0_1; have HC0_1 := Az hc0_1; clear hr0_1 hc0_1; have HR1 := Az hr1; have HC1 := Az hc1; clear hr1 hc1; have HB := Az (Below.refl w.heap.size w); have H : ((impl_ChoiceValid.f k l0_0 l0_1 l1).bind fun t622 => (if t622 = true then ((impl_ribbon.f k l0_0 l0_1 l1).bind fun t623 => (if 0 < (t623.length : Int) then (if (rd t623 0) = 1 then (if 1 < (t623.length : Int) then (some ((rd t623 1) == 1)) else (none)) else (some false)) else (none))) else (some false))) = some r := h; clear h; replace H := Option.bind_eq_some_iff.mp H; obtain ⟨t622, A30, H⟩ := H; replace H : (if t622 = true then ((impl_ribbon.f k l0_0 l0_1 l1).bind fun t623 => (if 0 < (t623.length : Int) then (if (rd t623 0) = 1 then (if 1 < (t623.length : Int) then (some ((rd t623 1) == 1)) else (none)) else (some false)) else (none))) else (some false)) = some r := H; have A3 := Az A30; clear A30
 by_cases c4 : t622 = true
 ·
  subst c4
  have H1 : ((impl_ribbon.f k l0_0 l0_1 l1).bind fun t623 => (if 0 < (t623.length : Int) then (if (rd t623 0) = 1 then (if 1 < (t623.length : Int) then (some ((rd t623 1) == 1)) else (none)) else (some false)) else (none))) = some r := by rw [if_pos rfl] at H; exact H
  clear H; have H := H1; clear H1; replace H := Option.bind_eq_some_iff.mp H; obtain ⟨t623, A50, H⟩ := H; replace H : (if 0 < (t623.length : Int) then (if (rd t623 0) = 1 then (if 1 < (t623.length : Int) then (some ((rd t623 1) == 1)) else (none)) else (some false)) else (none)) = some r := H; have A5 := Az A50; clear A50
  by_cases c6 : 0 < (t623.length : Int)
  ·
   rw [if_pos c6] at H; have c6b0 : decide (0 < (t623.length : Int)) = true := decide_eq_true c6; have c6b1 : decide (0 < t623.length) = true := decide_eq_true (by omega); clear c6
   by_cases c7 : (rd t623 0) = 1
   ·
    rw [if_pos c7] at H; have c7b0 : ((rd t623 0) == 1) = true := beq_iff_eq.mpr c7; have c7b1 : ((rd t623 0) != 1) = false := bne_eq_false_iff_eq.mpr c7; clear c7
    by_cases c8 : 1 < (t623.length : Int)
    ·
     rw [if_pos c8] at H; have c8b0 : decide (1 < (t623.length : Int)) = true := decide_eq_true c8; have c8b1 : decide (1 < t623.length) = true := decide_eq_true (by omega); clear c8; obtain rfl := Option.some.inj H
     go_enter Try.func30, Try.ntmps30
     go_wp2_with (first | ((with_reducible refine gate_dst (N := 2) rfl ?_); refine box_event ?hg (N := 2) ?hd (cs := #[.slice A0_0 l0_0.length c0_0, .slice A0_1 l0_1.length c0_1]) (t := 25) ?hr ?_; (case hd => rfl); (case hg => rfl); (case hr => first | (go_simp; done) | (go_simp; rfl)); intro gb621 hg w9 hbox hb; have n0 := Az (below_step (bU0 HB.out) hb); have n1 := Az (hbox); have n2 := Az ((by rw [hg]; exact (below_size (bU0 HB.out)) : w.heap.size ≤ gb621)); have n3 := n2; clear HB; have HB := n0; have BK621 := n1; have GW621 := n2; have GE621 := n3; clear n0 n1 n2 n3 hb hbox hg; have hcz10_0 : w9.cell? ⟨gb621, 0, none⟩ = some (.slice A0_0 l0_0.length c0_0) := (blk_cell BK621.out 0).trans rfl; have hcz10_1 : w9.cell? ⟨gb621, 1, none⟩ = some (.slice A0_1 l0_1.length c0_1) := (blk_cell BK621.out 1).trans rfl; have hfz10_0 := blk_frozen BK621.out 0; have hfz10_1 := blk_frozen BK621.out 1) | ((with_reducible refine gate_callee (f := 16) rfl ?_); refine goesL_ (some 8) rfl rfl Try.func16 (by kernel_rfl) rfl #[.agg #[.slice A0_0 l0_0.length c0_0, .slice A0_1 l0_1.length c0_1], .slice A1 l1.length c1] rfl (by (try simp only [List.map_toArray, List.map_cons, List.map_nil]); first | done | rfl | (simp only [List.length_drop, List.length_take]; rfl)) ?_; (with_reducible refine (impl_ChoiceValid.calls k _ _ l0_0 _ _ l0_1 _ _ l1 true _ ?side1 ?side2 ?side3 ?side4 ?side5 ?side6 A3.out).mono ?_); (case side1 => exact cU (Kd.C_below HR0_0.out HB.out)); (case side2 => exact HC0_0.out); (case side3 => exact cU (Kd.C_below HR0_1.out HB.out)); (case side4 => exact HC0_1.out); (case side5 => exact cU (Kd.C_below HR1.out HB.out)); (case side6 => exact HC1.out); rintro e w11 ⟨rfl, hb⟩; refine ⟨_, rfl, ?_⟩; have n0 := Az (blk_below (g := gb621) (o := .cells #[.slice A0_0 l0_0.length c0_0, .slice A0_1 l0_1.length c0_1] 25 (0, 0)) (kU BK621.out) hb); have n1 := Az (below_step (bU1 HB.out GE621.out) hb); clear BK621 HB; have BK621 := n0; have HB := n1; clear n0 n1; (try clear hb); (try clear hb2); (try clear hk); (try clear hi); have hcz12_0 : w11.cell? ⟨gb621, 0, none⟩ = some (.slice A0_0 l0_0.length c0_0) := (blk_cell BK621.out 0).trans rfl; have hcz12_1 : w11.cell? ⟨gb621, 1, none⟩ = some (.slice A0_1 l0_1.length c0_1) := (blk_cell BK621.out 1).trans rfl; have hfz12_0 := blk_frozen BK621.out 0; have hfz12_1 := blk_frozen BK621.out 1) | ((with_reducible refine gate_callee (f := 65) rfl ?_); refine goesL_ (some 12) rfl rfl Try.func65 (by kernel_rfl) rfl #[.agg #[.slice A0_0 l0_0.length c0_0, .slice A0_1 l0_1.length c0_1], .slice A1 l1.length c1] rfl (by (try simp only [List.map_toArray, List.map_cons, List.map_nil]); first | done | rfl | (simp only [List.length_drop, List.length_take]; rfl)) ?_; (with_reducible refine (impl_ribbon.calls k (fun k_ => k_ < w.heap.size) _ _ l0_0 _ _ l0_1 _ _ l1 t623 _ ?side1 ?side2 ?side3 ?side4 ?side5 A5.out).mono ?_); (case side1 => exact Kd.V_mk HC0_0.out (Kd.F_below (Kd.C_F (Kd.heap_int .i64) HR0_0.out) (bU1 HB.out GE621.out))); (case side2 => exact cU (Kd.C_below HR0_1.out HB.out)); (case side3 => exact HC0_1.out); (case side4 => exact cU (Kd.C_below HR1.out HB.out)); (case side5 => exact HC1.out); rintro e w13 ⟨v624, rfl, ho0, hb⟩; refine ⟨_, rfl, ?_⟩; have n0 := Az (Kd.R_lower (Kd.R_mono (ok' := fun k_ => True) ho0 (fun _ hk_ => trivial)) (below_size (bU1 HB.out GE621.out))); have n1 := Az (blk_below (g := gb621) (o := .cells #[.slice A0_0 l0_0.length c0_0, .slice A0_1 l0_1.length c0_1] 25 (0, 0)) (kU BK621.out) hb); have n2 := Az (below_step (bU1 HB.out GE621.out) hb); clear BK621 HB; have HO625 := n0; have BK621 := n1; have HB := n2; clear n0 n1 n2; (try clear hb); (try clear hb2); (try clear hk); (try clear hi); (try clear ho0); obtain ⟨Ao14, co14, eo14⟩ := Kd.R_slice HO625.out; subst eo14; have p626 : 0 ≤ (0 : Int) := (by omega); have q626 : 0 < (t623.length : Int) := oA; obtain ⟨ad626, e626, hx626_0⟩ := Kd.at_int (Kd.R_reads' HO625.out).2.2 0 p626 q626; cases e626; have qi626 : (0 < t623.length) = True := eq_true (by omega); (try rw [show ((0 : Int)).toNat = 0 from rfl] at hx626_0); (try rw [Addr.add_zero'] at hx626_0); replace p626 := eq_true p626; replace q626 := eq_true q626; have p627 : 0 ≤ (1 : Int) := (by omega); have q627 : 1 < (t623.length : Int) := oA; obtain ⟨ad627, e627, hx627_0⟩ := Kd.at_int (Kd.R_reads' HO625.out).2.2 1 p627 q627; obtain rfl : ad626 = ad627 := (by injection e627); (try simp only [show (1 : Int).toNat = 1 from rfl, Nat.reduceMul, Nat.reduceEqDiff, Go.Addr.add, ↓reduceIte] at hx627_0); have qi627 : (1 < t623.length) = True := eq_true (by omega); (try rw [show ((1 : Int)).toNat = 1 from rfl] at hx627_0); replace p627 := eq_true p627; replace q627 := eq_true q627))
     go_ret
     exact ⟨rE, bU1 HB.out GE621.out⟩
    ·
     rw [if_neg c8] at H
     exact absurd H (by simp)
   ·
    rw [if_neg c7] at H; have c7b0 : ((rd t623 0) == 1) = false := beq_eq_false_iff_ne.mpr c7; have c7b1 : ((rd t623 0) != 1) = true := bne_iff_ne.mpr c7; obtain rfl := Option.some.inj H
    go_enter Try.func30, Try.ntmps30
    go_wp2_with (first | ((with_reducible refine gate_dst (N := 2) rfl ?_); refine box_event ?hg (N := 2) ?hd (cs := #[.slice A0_0 l0_0.length c0_0, .slice A0_1 l0_1.length c0_1]) (t := 25) ?hr ?_; (case hd => rfl); (case hg => rfl); (case hr => first | (go_simp; done) | (go_simp; rfl)); intro gb621 hg w15 hbox hb; have n0 := Az (below_step (bU0 HB.out) hb); have n1 := Az (hbox); have n2 := Az ((by rw [hg]; exact (below_size (bU0 HB.out)) : w.heap.size ≤ gb621)); have n3 := n2; clear HB; have HB := n0; have BK621 := n1; have GW621 := n2; have GE621 := n3; clear n0 n1 n2 n3 hb hbox hg; have hcz16_0 : w15.cell? ⟨gb621, 0, none⟩ = some (.slice A0_0 l0_0.length c0_0) := (blk_cell BK621.out 0).trans rfl; have hcz16_1 : w15.cell? ⟨gb621, 1, none⟩ = some (.slice A0_1 l0_1.length c0_1) := (blk_cell BK621.out 1).trans rfl; have hfz16_0 := blk_frozen BK621.out 0; have hfz16_1 := blk_frozen BK621.out 1) | ((with_reducible refine gate_callee (f := 16) rfl ?_); refine goesL_ (some 8) rfl rfl Try.func16 (by kernel_rfl) rfl #[.agg #[.slice A0_0 l0_0.length c0_0, .slice A0_1 l0_1.length c0_1], .slice A1 l1.length c1] rfl (by (try simp only [List.map_toArray, List.map_cons, List.map_nil]); first | done | rfl | (simp only [List.length_drop, List.length_take]; rfl)) ?_; (with_reducible refine (impl_ChoiceValid.calls k _ _ l0_0 _ _ l0_1 _ _ l1 true _ ?side1 ?side2 ?side3 ?side4 ?side5 ?side6 A3.out).mono ?_); (case side1 => exact cU (Kd.C_below HR0_0.out HB.out)); (case side2 => exact HC0_0.out); (case side3 => exact cU (Kd.C_below HR0_1.out HB.out)); (case side4 => exact HC0_1.out); (case side5 => exact cU (Kd.C_below HR1.out HB.out)); (case side6 => exact HC1.out); rintro e w17 ⟨rfl, hb⟩; refine ⟨_, rfl, ?_⟩; have n0 := Az (blk_below (g := gb621) (o := .cells #[.slice A0_0 l0_0.length c0_0, .slice A0_1 l0_1.length c0_1] 25 (0, 0)) (kU BK621.out) hb); have n1 := Az (below_step (bU1 HB.out GE621.out) hb); clear BK621 HB; have BK621 := n0; have HB := n1; clear n0 n1; (try clear hb); (try clear hb2); (try clear hk); (try clear hi); have hcz18_0 : w17.cell? ⟨gb621, 0, none⟩ = some (.slice A0_0 l0_0.length c0_0) := (blk_cell BK621.out 0).trans rfl; have hcz18_1 : w17.cell? ⟨gb621, 1, none⟩ = some (.slice A0_1 l0_1.length c0_1) := (blk_cell BK621.out 1).trans rfl; have hfz18_0 := blk_frozen BK621.out 0; have hfz18_1 := blk_frozen BK621.out 1) | ((with_reducible refine gate_callee (f := 65) rfl ?_); refine goesL_ (some 12) rfl rfl Try.func65 (by kernel_rfl) rfl #[.agg #[.slice A0_0 l0_0.length c0_0, .slice A0_1 l0_1.length c0_1], .slice A1 l1.length c1] rfl (by (try simp only [List.map_toArray, List.map_cons, List.map_nil]); first | done | rfl | (simp only [List.length_drop, List.length_take]; rfl)) ?_; (with_reducible refine (impl_ribbon.calls k (fun k_ => k_ < w.heap.size) _ _ l0_0 _ _ l0_1 _ _ l1 t623 _ ?side1 ?side2 ?side3 ?side4 ?side5 A5.out).mono ?_); (case side1 => exact Kd.V_mk HC0_0.out (Kd.F_below (Kd.C_F (Kd.heap_int .i64) HR0_0.out) (bU1 HB.out GE621.out))); (case side2 => exact cU (Kd.C_below HR0_1.out HB.out)); (case side3 => exact HC0_1.out); (case side4 => exact cU (Kd.C_below HR1.out HB.out)); (case side5 => exact HC1.out); rintro e w19 ⟨v624, rfl, ho0, hb⟩; refine ⟨_, rfl, ?_⟩; have n0 := Az (Kd.R_lower (Kd.R_mono (ok' := fun k_ => True) ho0 (fun _ hk_ => trivial)) (below_size (bU1 HB.out GE621.out))); have n1 := Az (blk_below (g := gb621) (o := .cells #[.slice A0_0 l0_0.length c0_0, .slice A0_1 l0_1.length c0_1] 25 (0, 0)) (kU BK621.out) hb); have n2 := Az (below_step (bU1 HB.out GE621.out) hb); clear BK621 HB; have HO625 := n0; have BK621 := n1; have HB := n2; clear n0 n1 n2; (try clear hb); (try clear hb2); (try clear hk); (try clear hi); (try clear ho0); obtain ⟨Ao20, co20, eo20⟩ := Kd.R_slice HO625.out; subst eo20; have p626 : 0 ≤ (0 : Int) := (by omega); have q626 : 0 < (t623.length : Int) := oA; obtain ⟨ad626, e626, hx626_0⟩ := Kd.at_int (Kd.R_reads' HO625.out).2.2 0 p626 q626; cases e626; have qi626 : (0 < t623.length) = True := eq_true (by omega); (try rw [show ((0 : Int)).toNat = 0 from rfl] at hx626_0); (try rw [Addr.add_zero'] at hx626_0); replace p626 := eq_true p626; replace q626 := eq_true q626))
    go_ret
    exact ⟨rE, bU1 HB.out GE621.out⟩
  ·
   rw [if_neg c6] at H
   exact absurd H (by simp)
 ·
  replace c4 := Bool.eq_false_iff.mpr c4; subst c4
  have H1 : (some false) = some r := by rw [if_neg (show ¬ (false = true) by decide)] at H; exact H
  clear H; have H := H1; clear H1; obtain rfl := Option.some.inj H
  go_enter Try.func30, Try.ntmps30
  go_wp2_with (first | ((with_reducible refine gate_dst (N := 2) rfl ?_); refine box_event ?hg (N := 2) ?hd (cs := #[.slice A0_0 l0_0.length c0_0, .slice A0_1 l0_1.length c0_1]) (t := 25) ?hr ?_; (case hd => rfl); (case hg => rfl); (case hr => first | (go_simp; done) | (go_simp; rfl)); intro gb621 hg w21 hbox hb; have n0 := Az (below_step (bU0 HB.out) hb); have n1 := Az (hbox); have n2 := Az ((by rw [hg]; exact (below_size (bU0 HB.out)) : w.heap.size ≤ gb621)); have n3 := n2; clear HB; have HB := n0; have BK621 := n1; have GW621 := n2; have GE621 := n3; clear n0 n1 n2 n3 hb hbox hg; have hcz22_0 : w21.cell? ⟨gb621, 0, none⟩ = some (.slice A0_0 l0_0.length c0_0) := (blk_cell BK621.out 0).trans rfl; have hcz22_1 : w21.cell? ⟨gb621, 1, none⟩ = some (.slice A0_1 l0_1.length c0_1) := (blk_cell BK621.out 1).trans rfl; have hfz22_0 := blk_frozen BK621.out 0; have hfz22_1 := blk_frozen BK621.out 1) | ((with_reducible refine gate_callee (f := 16) rfl ?_); refine goesL_ (some 8) rfl rfl Try.func16 (by kernel_rfl) rfl #[.agg #[.slice A0_0 l0_0.length c0_0, .slice A0_1 l0_1.length c0_1], .slice A1 l1.length c1] rfl (by (try simp only [List.map_toArray, List.map_cons, List.map_nil]); first | done | rfl | (simp only [List.length_drop, List.length_take]; rfl)) ?_; (with_reducible refine (impl_ChoiceValid.calls k _ _ l0_0 _ _ l0_1 _ _ l1 false _ ?side1 ?side2 ?side3 ?side4 ?side5 ?side6 A3.out).mono ?_); (case side1 => exact cU (Kd.C_below HR0_0.out HB.out)); (case side2 => exact HC0_0.out); (case side3 => exact cU (Kd.C_below HR0_1.out HB.out)); (case side4 => exact HC0_1.out); (case side5 => exact cU (Kd.C_below HR1.out HB.out)); (case side6 => exact HC1.out); rintro e w23 ⟨rfl, hb⟩; refine ⟨_, rfl, ?_⟩; have n0 := Az (blk_below (g := gb621) (o := .cells #[.slice A0_0 l0_0.length c0_0, .slice A0_1 l0_1.length c0_1] 25 (0, 0)) (kU BK621.out) hb); have n1 := Az (below_step (bU1 HB.out GE621.out) hb); clear BK621 HB; have BK621 := n0; have HB := n1; clear n0 n1; (try clear hb); (try clear hb2); (try clear hk); (try clear hi)))
  go_ret
  exact ⟨rE, bU1 HB.out GE621.out⟩
mutual
def laws_FnChoiceTree.j0 : Nat → List Int → Bool → Bool → Bool → List Int → List Int → Option (Bool)
 | 0, _, _, _, _, _, _ => none
 | k + 1, x4, x5, x6, x35, xZ0, xZ1 => if x35 = true then (some (x5 == x6)) else ((impl_MapCounts.f k xZ0 xZ1).bind fun bt640 => ((impl_ChoiceCounts.f k xZ0 xZ1 x4).bind fun bt644 => (laws_FnChoiceTree.l0 k x4 bt640.1 bt640.2 bt644.1 bt644.2 0 xZ0 xZ1)))
def laws_FnChoiceTree.l0 : Nat → List Int → List Int → Bool → List Int → Bool → Int → List Int → List Int → Option (Bool)
 | 0, _, _, _, _, _, _, _, _ => none
 | k + 1, x4, x7, x8, x9, x10, x11, xZ0, xZ1 => if x11 < (x4.length : Int) then ((some (([] : List Int) : List Int)).bind fun y648 => (if 0 ≤ x11 then (if x11 ≤ (x4.length : Int) then ((some (x4.take (x11 : Int).toNat : List Int)).bind fun y651 => (if y648.length + y651.length < 17592186044416 then ((some (y648 ++ y651 : List Int)).bind fun y655 => (if 0 ≤ (wrap64 (x11 + 1)) then (if (wrap64 (x11 + 1)) ≤ (x4.length : Int) then ((some (x4.drop ((wrap64 (x11 + 1)) : Int).toNat : List Int)).bind fun y658 => (if y655.length + y658.length < 17592186044416 then ((impl_ChoiceCounts.f k xZ0 xZ1 (y655 ++ y658)).bind fun bt665 => (if bt665.2 = true then (if 0 < (bt665.1.length : Int) then (if (rd bt665.1 0) = 2 then (laws_FnChoiceTree.l0 k x4 x7 x8 x9 x10 (wrap64 (x11 + 1)) xZ0 xZ1) else (some false)) else (none)) else (some false))) else (none))) else (none)) else (none))) else (none))) else (none)) else (none))) else (if x8 = true then (if x10 = true then (if 0 < (x7.length : Int) then (if (x4.length : Int) = (wrap64 ((rd x7 0) - 1)) then (if 4 < (x9.length : Int) then (if (rd x9 4) = 0 then ((impl_ChoiceQuasi.f k xZ0 xZ1 x4).bind fun t672 => (some t672)) else (some false)) else (none)) else (some false)) else (none)) else (some false)) else (some false))
end
def laws_FnChoiceTree.f (k : Nat) (l0 : List Int) : Option (Bool) := if (l0.length : Int) > 1048576 then (some true) else ((spec_DrawChoiceTree.f k l0).bind fun bt628 => ((impl_ChoiceTree.f k bt628.1 bt628.2.1 bt628.2.2).bind fun t638 => ((spec_ChoiceTree.f k bt628.1 bt628.2.1 bt628.2.2).bind fun t639 => (if (t638 != t639) = true then (laws_FnChoiceTree.j0 k bt628.2.2 t638 t639 true bt628.1 bt628.2.1) else (laws_FnChoiceTree.j0 k bt628.2.2 t638 t639 (!t638) bt628.1 bt628.2.1)))))
def laws_FnChoiceTree.T13 : Bool × List (List Nat × List Nat) := (true, [([], []), ([], []), ([], []), ([1, 2], [1, 2]), ([0, 3], [0, 3]), ([], []), ([], []), ([6], [6]), ([5, 7], [5, 7]), ([4, 8, 4], [4, 8]), ([9, 9, 0, 1, 2, 3, 4, 5, 6, 7, 8, 9], [9])])
def laws_FnChoiceTree.B13 : List Nat := [0, 0, 0, 6, 15, 0, 0, 64, 224, 511, 1023]
theorem laws_FnChoiceTree.tab13 : rtab .any (opsOf Try.f5 13) = laws_FnChoiceTree.T13 := by kernel_rfl
theorem laws_FnChoiceTree.bits13 : waitsOk laws_FnChoiceTree.T13.2 laws_FnChoiceTree.B13 = true := by kernel_rfl
set_option maxHeartbeats 8000000 in
set_option maxRecDepth 100000 in
theorem laws_FnChoiceTree.calls (k : Nat) (A0 : Option Addr) (c0 : Nat) (l0 : List Int) (r : Bool) (w : World) (hr0 : Kd.C (Kd.int .u8) w A0 l0.length l0) (hc0 : l0.length ≤ c0) (h : laws_FnChoiceTree.f k l0 = some r) :
  Calls Try.prog 5 #[.slice A0 l0.length c0] w fun e w' => e = .returned (.bool r) ∧ Below w.heap.size w w' := by
 have hu25 := Try.underlying25; have HR0 := Az hr0; have HC0 := Az hc0; clear hr0 hc0; have HB := Az (Below.refl w.heap.size w); have H : (if (l0.length : Int) > 1048576 then (some true) else ((spec_DrawChoiceTree.f k l0).bind fun bt628 => ((impl_ChoiceTree.f k bt628.1 bt628.2.1 bt628.2.2).bind fun t638 => ((spec_ChoiceTree.f k bt628.1 bt628.2.1 bt628.2.2).bind fun t639 => (if (t638 != t639) = true then (laws_FnChoiceTree.j0 k bt628.2.2 t638 t639 true bt628.1 bt628.2.1) else (laws_FnChoiceTree.j0 k bt628.2.2 t638 t639 (!t638) bt628.1 bt628.2.1)))))) = some r := h; clear h
 by_cases c2 : (l0.length : Int) > 1048576
 ·
  rw [if_pos c2] at H; have c2b0 : decide (1048576 < (l0.length : Int)) = true := decide_eq_true c2; have c2b1 : decide (1048576 < l0.length) = true := decide_eq_true (by omega); clear c2; obtain rfl := Option.some.inj H
  go_enter Try.func5, Try.ntmps5
  go_wp2
  go_ret
  exact ⟨rE, bU0 HB.out⟩
 ·
  rw [if_neg c2] at H; have c2b0 : decide (1048576 < (l0.length : Int)) = false := decide_eq_false c2; have c2b1 : decide (1048576 < l0.length) = false := decide_eq_false (by omega); clear c2; replace H := Option.bind_eq_some_iff.mp H; obtain ⟨⟨t628, t631, t634⟩, A30, H⟩ := H; replace H : ((impl_ChoiceTree.f k t628 t631 t634).bind fun t638 => ((spec_ChoiceTree.f k t628 t631 t634).bind fun t639 => (if (t638 != t639) = true then (laws_FnChoiceTree.j0 k t634 t638 t639 true t628 t631) else (laws_FnChoiceTree.j0 k t634 t638 t639 (!t638) t628 t631)))) = some r := H; have A3 := Az A30; clear A30; replace H := Option.bind_eq_some_iff.mp H; obtain ⟨t638, A40, H⟩ := H; replace H : ((spec_ChoiceTree.f k t628 t631 t634).bind fun t639 => (if (t638 != t639) = true then (laws_FnChoiceTree.j0 k t634 t638 t639 true t628 t631) else (laws_FnChoiceTree.j0 k t634 t638 t639 (!t638) t628 t631))) = some r := H; have A4 := Az A40; clear A40; replace H := Option.bind_eq_some_iff.mp H; obtain ⟨t639, A50, H⟩ := H; replace H : (if (t638 != t639) = true then (laws_FnChoiceTree.j0 k t634 t638 t639 true t628 t631) else (laws_FnChoiceTree.j0 k t634 t638 t639 (!t638) t628 t631)) = some r := H; have A5 := Az A50; clear A50; have HC6 := Az H; clear H
  go_enter Try.func5, Try.ntmps5
  go_upto_region 6 with (first | ((with_reducible refine gate_callee (f := 27) rfl ?_); refine goesL_ (some 20) rfl rfl Try.func27 (by kernel_rfl) rfl #[.slice A0 l0.length c0] rfl (by (try simp only [List.map_toArray, List.map_cons, List.map_nil]); first | done | rfl | (simp only [List.length_drop, List.length_take]; rfl)) ?_; (with_reducible refine (spec_DrawChoiceTree.calls k _ _ l0 t628 t631 t634 _ ?side1 ?side2 A3.out).mono ?_); (case side1 => exact cU (HR0.out)); (case side2 => exact HC0.out); rintro e w7 ⟨v629, v632, v635, rfl, ho0, ho1, ho2, hb⟩; refine ⟨_, rfl, ?_⟩; have n0 := Az (Kd.Q_lower ho0 (below_size (bU0 HB.out))); have n1 := Az (Kd.R_lower ho1 (below_size (bU0 HB.out))); have n2 := Az (Kd.R_lower ho2 (below_size (bU0 HB.out))); have n3 := Az (below_step (bU0 HB.out) hb); clear HB; have HO630 := n0; have HO633 := n1; have HO636 := n2; have HB := n3; clear n0 n1 n2 n3; (try clear hb); (try clear hb2); (try clear hk); (try clear hi); (try clear ho0); (try clear ho1); (try clear ho2)) | ((with_reducible refine gate_dst (N := 3) rfl ?_); (try (refine gate_guard (by rfl) ?_; dsimp only)); refine box_event ?hg (N := 3) ?hd (cs := #[.slice none 0 0, .slice none 0 0]) (t := 25) ?hr ?_; (case hd => rfl); (case hg => rfl); (case hr => first | (go_simp; done) | (go_simp; rfl)); intro gb637 hg w8 hbox hb; have n0 := Az (Kd.Q_below (qU HO630.out) hb); have n1 := Az (Kd.R_below (rU HO633.out) hb); have n2 := Az (Kd.R_below (rU HO636.out) hb); have n3 := Az (below_step (bU0 HB.out) hb); have n4 := Az (hbox); have n5 := Az ((by rw [hg]; exact (below_size (bU0 HB.out)) : w.heap.size ≤ gb637)); have n6 := n5; clear HO630 HO633 HO636 HB; have HO630 := n0; have HO633 := n1; have HO636 := n2; have HB := n3; have BK637 := n4; have GW637 := n5; have GE637 := n6; clear n0 n1 n2 n3 n4 n5 n6 hb hbox hg; obtain ⟨Ao9, co9, eo9, _⟩ := Kd.Q_slice HO630.out; subst eo9; have hcz10_0 : w8.cell? ⟨gb637, 0, none⟩ = some (.slice none 0 0) := (blk_cell BK637.out 0).trans rfl; have hcz10_1 : w8.cell? ⟨gb637, 1, none⟩ = some (.slice none 0 0) := (blk_cell BK637.out 1).trans rfl; have hfz10_0 := blk_frozen BK637.out 0; have hfz10_1 := blk_frozen BK637.out 1; obtain ⟨Ao11, co11, eo11⟩ := Kd.R_slice HO633.out; subst eo11; obtain ⟨Ao12, co12, eo12⟩ := Kd.R_slice HO636.out; subst eo12) | ((with_reducible refine gate_callee (f := 28) rfl ?_); refine goesL_ (some 25) rfl rfl Try.func28 (by kernel_rfl) rfl #[.agg #[.slice Ao9 t628.length co9, .slice Ao11 t631.length co11], .slice Ao12 t634.length co12] rfl (by (try simp only [List.map_toArray, List.map_cons, List.map_nil]); first | done | rfl | (simp only [List.length_drop, List.length_take]; rfl)) ?_; (with_reducible refine (impl_ChoiceTree.calls k _ _ t628 _ _ t631 _ _ t634 t638 _ ?side1 ?side2 ?side3 ?side4 ?side5 ?side6 A4.out).mono ?_); (case side1 => refine (Kd.Q_reads' (e := 3) (base := w.heap.size) (ok := fun k_ => (some k_ ≠ (.slice Ao11 t631.length co11 : Value).ownBlock ∧ some k_ ≠ (.slice Ao12 t634.length co12 : Value).ownBlock)) (n := t628.length) (c := co9) ?_).2.2; exact (by (with_reducible repeat (first | apply Kd.Q_alloc | apply Kd.Q_drewN | apply Kd.Q_drew)); exact (Kd.Q_mono (Kd.Q_far (p := ⟨gb637, 1, none⟩) (Kd.Q_far (p := ⟨gb637, 0, none⟩) (Kd.Q_types HO630.out BK637.out (by decide)) (fun _ hk => hk.2) (.slice Ao9 t628.length co9)) (fun _ hk => hk.2) (.slice Ao11 t631.length co11)) (fun _ h_ => h_.1)))); (case side2 => exact (Kd.Q_reads' HO630.out).2.1); (case side3 => refine (Kd.R_reads' (e := 3) (base := w.heap.size) (ok := fun k_ => (some k_ ≠ (.slice Ao9 t628.length co9 : Value).ownBlock ∧ some k_ ≠ (.slice Ao12 t634.length co12 : Value).ownBlock)) (n := t631.length) (c := co11) ?_).2.2; exact (by (with_reducible repeat (first | apply Kd.R_alloc | apply Kd.R_drewN | apply Kd.R_drew)); exact (Kd.R_mono (Kd.R_far (p := ⟨gb637, 1, none⟩) (Kd.R_far (p := ⟨gb637, 0, none⟩) (Kd.R_types HO633.out BK637.out (by decide)) (fun _ hk => hk.2) (.slice Ao9 t628.length co9)) (fun _ hk => hk.2) (.slice Ao11 t631.length co11)) (fun _ h_ => h_.1)))); (case side4 => exact (Kd.R_reads' HO633.out).2.1); (case side5 => refine (Kd.R_reads' (e := 3) (base := w.heap.size) (ok := fun k_ => (some k_ ≠ (.slice Ao9 t628.length co9 : Value).ownBlock ∧ some k_ ≠ (.slice Ao11 t631.length co11 : Value).ownBlock)) (n := t634.length) (c := co12) ?_).2.2; exact (by (with_reducible repeat (first | apply Kd.R_alloc | apply Kd.R_drewN | apply Kd.R_drew)); exact (Kd.R_mono (Kd.R_far (p := ⟨gb637, 1, none⟩) (Kd.R_far (p := ⟨gb637, 0, none⟩) (Kd.R_types HO636.out BK637.out (by decide)) (fun _ hk => hk.2) (.slice Ao9 t628.length co9)) (fun _ hk => hk.2) (.slice Ao11 t631.length co11)) (fun _ h_ => h_.1)))); (case side6 => exact (Kd.R_reads' HO636.out).2.1); rintro e w13 ⟨rfl, hb⟩; refine ⟨_, rfl, ?_⟩; have n0 := Az (Kd.Q_below (by (with_reducible repeat (first | apply Kd.Q_alloc | apply Kd.Q_drewN | apply Kd.Q_drew)); exact (Kd.Q_mono (Kd.Q_far (p := ⟨gb637, 1, none⟩) (Kd.Q_far (p := ⟨gb637, 0, none⟩) (Kd.Q_types HO630.out BK637.out (by decide)) (fun _ hk => hk.2) (.slice Ao9 t628.length co9)) (fun _ hk => hk.2) (.slice Ao11 t631.length co11)) (fun _ h_ => h_.1))) hb); have n1 := Az (Kd.R_below (by (with_reducible repeat (first | apply Kd.R_alloc | apply Kd.R_drewN | apply Kd.R_drew)); exact (Kd.R_mono (Kd.R_far (p := ⟨gb637, 1, none⟩) (Kd.R_far (p := ⟨gb637, 0, none⟩) (Kd.R_types HO633.out BK637.out (by decide)) (fun _ hk => hk.2) (.slice Ao9 t628.length co9)) (fun _ hk => hk.2) (.slice Ao11 t631.length co11)) (fun _ h_ => h_.1))) hb); have n2 := Az (Kd.R_below (by (with_reducible repeat (first | apply Kd.R_alloc | apply Kd.R_drewN | apply Kd.R_drew)); exact (Kd.R_mono (Kd.R_far (p := ⟨gb637, 1, none⟩) (Kd.R_far (p := ⟨gb637, 0, none⟩) (Kd.R_types HO636.out BK637.out (by decide)) (fun _ hk => hk.2) (.slice Ao9 t628.length co9)) (fun _ hk => hk.2) (.slice Ao11 t631.length co11)) (fun _ h_ => h_.1))) hb); have n3 := Az (blk_below (g := gb637) (o := .cells #[.slice Ao9 t628.length co9, .slice Ao11 t631.length co11] 25 (0, 0)) (by (with_reducible repeat (first | refine blk_drewN ?_ _ | refine blk_drew ?_ | refine blk_alloc ?_ _)); refine blk_put (cs := #[.slice Ao9 t628.length co9, .slice none 0 0]) ?_ 1 _ rfl; (with_reducible repeat (first | refine blk_drewN ?_ _ | refine blk_drew ?_ | refine blk_alloc ?_ _)); refine blk_put (cs := #[.slice none 0 0, .slice none 0 0]) ?_ 0 _ rfl; (with_reducible repeat (first | refine blk_drewN ?_ _ | refine blk_drew ?_ | refine blk_alloc ?_ _)); exact BK637.out) hb); have n4 := Az (below_step (bU1 HB.out GE637.out) hb); clear HO630 HO633 HO636 BK637 HB; have HO630 := n0; have HO633 := n1; have HO636 := n2; have BK637 := n3; have HB := n4; clear n0 n1 n2 n3 n4; (try clear hb); (try clear hb2); (try clear hk); (try clear hi); have hcz14_0 : w13.cell? ⟨gb637, 0, none⟩ = some (.slice Ao9 t628.length co9) := (blk_cell BK637.out 0).trans rfl; have hcz14_1 : w13.cell? ⟨gb637, 1, none⟩ = some (.slice Ao11 t631.length co11) := (blk_cell BK637.out 1).trans rfl; have hfz14_0 := blk_frozen BK637.out 0; have hfz14_1 := blk_frozen BK637.out 1) | ((with_reducible refine gate_callee (f := 29) rfl ?_); refine goesL_ (some 28) rfl rfl Try.func29 (by kernel_rfl) rfl #[.agg #[.slice Ao9 t628.length co9, .slice Ao11 t631.length co11], .slice Ao12 t634.length co12] rfl (by (try simp only [List.map_toArray, List.map_cons, List.map_nil]); first | done | rfl | (simp only [List.length_drop, List.length_take]; rfl)) ?_; (with_reducible refine (spec_ChoiceTree.calls k _ _ t628 _ _ t631 _ _ t634 t639 _ ?side1 ?side2 ?side3 ?side4 ?side5 ?side6 A5.out).mono ?_); (case side1 => exact cU ((Kd.Q_reads' HO630.out).2.2)); (case side2 => exact (Kd.Q_reads' HO630.out).2.1); (case side3 => exact cU ((Kd.R_reads' HO633.out).2.2)); (case side4 => exact (Kd.R_reads' HO633.out).2.1); (case side5 => exact cU ((Kd.R_reads' HO636.out).2.2)); (case side6 => exact (Kd.R_reads' HO636.out).2.1); rintro e w15 ⟨rfl, hb⟩; refine ⟨_, rfl, ?_⟩; have n0 := Az (Kd.Q_below (qU HO630.out) hb); have n1 := Az (Kd.R_below (rU HO633.out) hb); have n2 := Az (Kd.R_below (rU HO636.out) hb); have n3 := Az (blk_below (g := gb637) (o := .cells #[.slice Ao9 t628.length co9, .slice Ao11 t631.length co11] 25 (0, 0)) (kU BK637.out) hb); have n4 := Az (below_step (bU1 HB.out GE637.out) hb); clear HO630 HO633 HO636 BK637 HB; have HO630 := n0; have HO633 := n1; have HO636 := n2; have BK637 := n3; have HB := n4; clear n0 n1 n2 n3 n4; (try clear hb); (try clear hb2); (try clear hk); (try clear hi)))
  (try simp only [Act.put, List.setIfInBounds_toArray, List.set_cons_zero, List.set_cons_succ])
  go_cut [35] (fun v35 wc => ∃ (kq : Nat) (x35_5 : Bool), v35 = .bool x35_5 ∧ Aside0 (laws_FnChoiceTree.j0 kq t634 t638 t639 x35_5 t628 t631 = some r) ∧ Aside0 (kq ≤ k) ∧ Aside0 (Kd.R (Kd.int .i64) 3 wc w.heap.size (fun k_ => some k_ ≠ ((.slice Ao9 t628.length co9) : Value).ownBlock ∧ some k_ ≠ ((.slice Ao11 t631.length co11) : Value).ownBlock) (.slice Ao12 t634.length co12) t634) ∧ Aside0 (Kd.Q (Kd.int .i64) 3 wc w.heap.size (fun k_ => some k_ ≠ ((.slice Ao12 t634.length co12) : Value).ownBlock ∧ some k_ ≠ ((.slice Ao11 t631.length co11) : Value).ownBlock) (.slice Ao9 t628.length co9) t628) ∧ Aside0 (Kd.R (Kd.int .i64) 3 wc w.heap.size (fun k_ => some k_ ≠ ((.slice Ao12 t634.length co12) : Value).ownBlock ∧ some k_ ≠ ((.slice Ao9 t628.length co9) : Value).ownBlock) (.slice Ao11 t631.length co11) t631) ∧ Aside0 (wc.heap[gb637]? = some (.cells #[(.slice Ao9 t628.length co9), (.slice Ao11 t631.length co11)] 25 (0, 0))) ∧ Aside0 (Below w.heap.size w wc))
  case first =>
   have H := HC6.out; clear HC6
   by_cases c16 : (t638 != t639) = true
   ·
    rw [if_pos c16] at H; have c16b0 : (t638 != t639) = true := c16; (try (have c16b1 : decide (t638 = t639) = false := by simpa using c16)); (try (have c16b2 : (t638 == t639) = false := by simpa using c16)); (try (have c16b3 : ¬ (t638 = t639) := by simpa using c16)); clear c16; (first | rw [c16b0] | (simp only [i64_w, i32_w]; rw [c16b0]) | skip); have H' := Az H; clear H
    go_wp2
    go_meet
    case rel => exact ⟨_, (true), rS, H', ⟨by first | omega | exact Nat.le_refl _⟩, ⟨rU HO636.out⟩, ⟨by (with_reducible repeat (first | apply Kd.Q_alloc | apply Kd.Q_drewN | apply Kd.Q_drew)); exact Kd.Q_mono HO630.out (fun _ hk => ⟨hk.2, hk.1⟩)⟩, ⟨by (with_reducible repeat (first | apply Kd.R_alloc | apply Kd.R_drewN | apply Kd.R_drew)); exact Kd.R_mono HO633.out (fun _ hk => ⟨hk.2, hk.1⟩)⟩, ⟨kU BK637.out⟩, ⟨bU1 HB.out GE637.out⟩⟩
   ·
    rw [if_neg c16] at H
    have c16b0 : (t638 != t639) = false := by simpa using c16
    (try (have c16b1 : decide (t638 = t639) = true := by simpa using c16)); (try (have c16b2 : (t638 == t639) = true := by simpa using c16)); clear c16; (first | rw [c16b0] | (simp only [i64_w, i32_w]; rw [c16b0]) | skip); have H' := Az H; clear H
    go_wp2
    go_meet
    case rel => exact ⟨_, (!t638), rS, H', ⟨by first | omega | exact Nat.le_refl _⟩, ⟨rU HO636.out⟩, ⟨by (with_reducible repeat (first | apply Kd.Q_alloc | apply Kd.Q_drewN | apply Kd.Q_drew)); exact Kd.Q_mono HO630.out (fun _ hk => ⟨hk.2, hk.1⟩)⟩, ⟨by (with_reducible repeat (first | apply Kd.R_alloc | apply Kd.R_drewN | apply Kd.R_drew)); exact Kd.R_mono HO633.out (fun _ hk => ⟨hk.2, hk.1⟩)⟩, ⟨kU BK637.out⟩, ⟨bU1 HB.out GE637.out⟩⟩
  case rest =>
   clear HC6; (try clear c1); (try clear c2); (try clear c2b0); (try clear c2b1); (try clear p2); (try clear c5); (try clear c16); (try clear c16b0); (try clear c16b1); (try clear c16b2); (try clear hcz10_0); (try clear hcz10_1); (try clear hcz14_0); (try clear hcz14_1); (try clear hfz10_0); (try clear hfz10_1); (try clear hfz14_0); (try clear hfz14_1); obtain ⟨kq, x35_5, rfl, HA, HJ5, HO_4, HO_Z0, HO_Z1, BK637, HB⟩ := hcut
   cases kq with
   | zero => exact absurd HA.out (by simp [laws_FnChoiceTree.j0])
   | succ kj5 =>
    have H := HA.out; clear HA; simp only [laws_FnChoiceTree.j0] at H
    by_cases c17 : x35_5 = true
    ·
     subst c17
     have H1 : (some (t638 == t639)) = some r := by rw [if_pos rfl] at H; exact H
     clear H; have H := H1; clear H1; obtain rfl := Option.some.inj H
     go_wp2
     go_ret
     exact ⟨rE, bU1 HB.out GE637.out⟩
    ·
     replace c17 := Bool.eq_false_iff.mpr c17; subst c17
     have H1 : ((impl_MapCounts.f kj5 t628 t631).bind fun bt640 => ((impl_ChoiceCounts.f kj5 t628 t631 t634).bind fun bt644 => (laws_FnChoiceTree.l0 kj5 t634 bt640.1 bt640.2 bt644.1 bt644.2 0 t628 t631))) = some r := by rw [if_neg (show ¬ (false = true) by decide)] at H; exact H
     clear H; have H := H1; clear H1; replace H := Option.bind_eq_some_iff.mp H; obtain ⟨⟨t640, t643⟩, A180, H⟩ := H; replace H : ((impl_ChoiceCounts.f kj5 t628 t631 t634).bind fun bt644 => (laws_FnChoiceTree.l0 kj5 t634 t640 t643 bt644.1 bt644.2 0 t628 t631)) = some r := H; have A18 := Az A180; clear A180; replace H := Option.bind_eq_some_iff.mp H; obtain ⟨⟨t644, t647⟩, A190, H⟩ := H; replace H : (laws_FnChoiceTree.l0 kj5 t634 t640 t643 t644 t647 0 t628 t631) = some r := H; have A19 := Az A190; clear A190; have H' := Az H; clear H; have hcz20_0 : wc.cell? ⟨gb637, 0, none⟩ = some (.slice Ao9 t628.length co9) := (blk_cell BK637.out 0).trans rfl; have hcz20_1 : wc.cell? ⟨gb637, 1, none⟩ = some (.slice Ao11 t631.length co11) := (blk_cell BK637.out 1).trans rfl; have hfz20_0 := blk_frozen BK637.out 0; have hfz20_1 := blk_frozen BK637.out 1
     go_wp2_with (first | ((with_reducible refine gate_callee (f := 19) rfl ?_); refine goesL_ (some 41) rfl rfl Try.func19 (by kernel_rfl) rfl #[.agg #[.slice Ao9 t628.length co9, .slice Ao11 t631.length co11]] rfl (by (try simp only [List.map_toArray, List.map_cons, List.map_nil]); first | done | rfl | (simp only [List.length_drop, List.length_take]; rfl)) ?_; (with_reducible refine (impl_MapCounts.calls kj5 _ _ t628 _ _ t631 t640 t643 _ ?side1 ?side2 ?side3 ?side4 A18.out).mono ?_); (case side1 => exact cU ((Kd.Q_reads' HO_Z0.out).2.2)); (case side2 => exact (Kd.Q_reads' HO_Z0.out).2.1); (case side3 => exact cU ((Kd.R_reads' HO_Z1.out).2.2)); (case side4 => exact (Kd.R_reads' HO_Z1.out).2.1); rintro e w21 ⟨v641, rfl, ho0, hb⟩; refine ⟨_, rfl, ?_⟩; have n0 := Az (Kd.R_elder' (rU HO_4.out) (Kd.R_base ho0) hb); have n1 := Az (Kd.Q_elder' (qU HO_Z0.out) (Kd.R_base ho0) hb); have n2 := Az (Kd.R_elder' (rU HO_Z1.out) (Kd.R_base ho0) hb); have n3 := Az (Kd.R_lower (Kd.R_new' (Kd.R_new' (Kd.R_new' ho0 (Kd.R_lt (rU HO_4.out))) (Kd.Q_lt (qU HO_Z0.out))) (Kd.R_lt (rU HO_Z1.out))) (below_size (bU1 HB.out GE637.out))); have n4 := Az (blk_below (g := gb637) (o := .cells #[.slice Ao9 t628.length co9, .slice Ao11 t631.length co11] 25 (0, 0)) (kU BK637.out) hb); have n5 := Az (below_step (bU1 HB.out GE637.out) hb); clear HO_4 HO_Z0 HO_Z1 BK637 HB; have HO_4 := n0; have HO_Z0 := n1; have HO_Z1 := n2; have HO642 := n3; have BK637 := n4; have HB := n5; clear n0 n1 n2 n3 n4 n5; (try clear hb); (try clear hb2); (try clear hk); (try clear hi); (try clear ho0); have hcz22_0 : w21.cell? ⟨gb637, 0, none⟩ = some (.slice Ao9 t628.length co9) := (blk_cell BK637.out 0).trans rfl; have hcz22_1 : w21.cell? ⟨gb637, 1, none⟩ = some (.slice Ao11 t631.length co11) := (blk_cell BK637.out 1).trans rfl; have hfz22_0 := blk_frozen BK637.out 0; have hfz22_1 := blk_frozen BK637.out 1) | ((with_reducible refine gate_callee (f := 20) rfl ?_); refine goesL_ (some 47) rfl rfl Try.func20 (by kernel_rfl) rfl #[.agg #[.slice Ao9 t628.length co9, .slice Ao11 t631.length co11], .slice Ao12 t634.length co12] rfl (by (try simp only [List.map_toArray, List.map_cons, List.map_nil]); first | done | rfl | (simp only [List.length_drop, List.length_take]; rfl)) ?_; (with_reducible refine (impl_ChoiceCounts.calls kj5 _ _ t628 _ _ t631 _ _ t634 t644 t647 _ ?side1 ?side2 ?side3 ?side4 ?side5 ?side6 A19.out).mono ?_); (case side1 => exact cU ((Kd.Q_reads' HO_Z0.out).2.2)); (case side2 => exact (Kd.Q_reads' HO_Z0.out).2.1); (case side3 => exact cU ((Kd.R_reads' HO_Z1.out).2.2)); (case side4 => exact (Kd.R_reads' HO_Z1.out).2.1); (case side5 => exact cU ((Kd.R_reads' HO_4.out).2.2)); (case side6 => exact (Kd.R_reads' HO_4.out).2.1); rintro e w23 ⟨v645, rfl, ho0, hb⟩; refine ⟨_, rfl, ?_⟩; have n0 := Az (Kd.R_elder' (rU HO_4.out) (Kd.R_base ho0) hb); have n1 := Az (Kd.Q_elder' (qU HO_Z0.out) (Kd.R_base ho0) hb); have n2 := Az (Kd.R_elder' (rU HO_Z1.out) (Kd.R_base ho0) hb); have n3 := Az (Kd.R_elder' (rU HO642.out) (Kd.R_base ho0) hb); have n4 := Az (Kd.R_lower (Kd.R_new' (Kd.R_new' (Kd.R_new' (Kd.R_new' ho0 (Kd.R_lt (rU HO_4.out))) (Kd.Q_lt (qU HO_Z0.out))) (Kd.R_lt (rU HO_Z1.out))) (Kd.R_lt (rU HO642.out))) (below_size (bU1 HB.out GE637.out))); have n5 := Az (blk_below (g := gb637) (o := .cells #[.slice Ao9 t628.length co9, .slice Ao11 t631.length co11] 25 (0, 0)) (kU BK637.out) hb); have n6 := Az (below_step (bU1 HB.out GE637.out) hb); clear HO_4 HO_Z0 HO_Z1 HO642 BK637 HB; have HO_4 := n0; have HO_Z0 := n1; have HO_Z1 := n2; have HO642 := n3; have HO646 := n4; have BK637 := n5; have HB := n6; clear n0 n1 n2 n3 n4 n5 n6; (try clear hb); (try clear hb2); (try clear hk); (try clear hi); (try clear ho0)))
     go_loopg [11] kj5 (fun kq v11 w' => ∃ (x11_2 : Int), v11 = .int .i64 x11_2 ∧ Aside0 (laws_FnChoiceTree.l0 kq t634 t640 t643 t644 t647 x11_2 t628 t631 = some r) ∧ Aside0 (kq ≤ kj5) ∧ Aside0 (Kd.R (Kd.int .i64) 3 w' w.heap.size (fun k_ => some k_ ≠ (v641 : Value).ownBlock ∧ some k_ ≠ (v645 : Value).ownBlock ∧ some k_ ≠ ((.slice Ao9 t628.length co9) : Value).ownBlock ∧ some k_ ≠ ((.slice Ao11 t631.length co11) : Value).ownBlock) (.slice Ao12 t634.length co12) t634) ∧ Aside0 (Kd.R (Kd.int .i64) 3 w' w.heap.size (fun k_ => some k_ ≠ ((.slice Ao12 t634.length co12) : Value).ownBlock ∧ some k_ ≠ (v645 : Value).ownBlock ∧ some k_ ≠ ((.slice Ao9 t628.length co9) : Value).ownBlock ∧ some k_ ≠ ((.slice Ao11 t631.length co11) : Value).ownBlock) v641 t640) ∧ Aside0 (Kd.R (Kd.int .i64) 3 w' w.heap.size (fun k_ => some k_ ≠ ((.slice Ao12 t634.length co12) : Value).ownBlock ∧ some k_ ≠ (v641 : Value).ownBlock ∧ some k_ ≠ ((.slice Ao9 t628.length co9) : Value).ownBlock ∧ some k_ ≠ ((.slice Ao11 t631.length co11) : Value).ownBlock) v645 t644) ∧ Aside0 (Kd.Q (Kd.int .i64) 3 w' w.heap.size (fun k_ => some k_ ≠ ((.slice Ao12 t634.length co12) : Value).ownBlock ∧ some k_ ≠ (v641 : Value).ownBlock ∧ some k_ ≠ (v645 : Value).ownBlock ∧ some k_ ≠ ((.slice Ao11 t631.length co11) : Value).ownBlock) (.slice Ao9 t628.length co9) t628) ∧ Aside0 (Kd.R (Kd.int .i64) 3 w' w.heap.size (fun k_ => some k_ ≠ ((.slice Ao12 t634.length co12) : Value).ownBlock ∧ some k_ ≠ (v641 : Value).ownBlock ∧ some k_ ≠ (v645 : Value).ownBlock ∧ some k_ ≠ ((.slice Ao9 t628.length co9) : Value).ownBlock) (.slice Ao11 t631.length co11) t631) ∧ Aside0 (w'.heap[gb637]? = some (.cells #[(.slice Ao9 t628.length co9), (.slice Ao11 t631.length co11)] 25 (0, 0))) ∧ Aside0 (Below w.heap.size w w'))
     case atStart => exact ⟨(0), rS, H', ⟨Nat.le_refl _⟩, ⟨by (with_reducible repeat (first | apply Kd.R_alloc | apply Kd.R_drewN | apply Kd.R_drew)); exact Kd.R_mono HO_4.out (fun _ hk => ⟨hk.1.2, ⟨hk.2, ⟨hk.1.1.1, hk.1.1.2⟩⟩⟩)⟩, ⟨by (with_reducible repeat (first | apply Kd.R_alloc | apply Kd.R_drewN | apply Kd.R_drew)); exact Kd.R_mono HO642.out (fun _ hk => ⟨hk.1.1.1.2, ⟨hk.2, ⟨hk.1.1.2, hk.1.2⟩⟩⟩)⟩, ⟨by (with_reducible repeat (first | apply Kd.R_alloc | apply Kd.R_drewN | apply Kd.R_drew)); exact Kd.R_mono HO646.out (fun _ hk => ⟨hk.1.1.1.2, ⟨hk.2, ⟨hk.1.1.2, hk.1.2⟩⟩⟩)⟩, ⟨by (with_reducible repeat (first | apply Kd.Q_alloc | apply Kd.Q_drewN | apply Kd.Q_drew)); exact Kd.Q_mono HO_Z0.out (fun _ hk => ⟨hk.1.1.1, ⟨hk.1.2, ⟨hk.2, hk.1.1.2⟩⟩⟩)⟩, ⟨by (with_reducible repeat (first | apply Kd.R_alloc | apply Kd.R_drewN | apply Kd.R_drew)); exact Kd.R_mono HO_Z1.out (fun _ hk => ⟨hk.1.1.1, ⟨hk.1.2, ⟨hk.2, hk.1.1.2⟩⟩⟩)⟩, ⟨kU BK637.out⟩, ⟨bU1 HB.out GE637.out⟩⟩
     case round =>
      clear H'; (try clear c1); (try clear c2); (try clear c2b0); (try clear c2b1); (try clear p2); (try clear c5); (try clear c16); (try clear c16b0); (try clear c16b1); (try clear c16b2); (try clear c17); (try clear c19); (try clear c20); (try clear hcz10_0); (try clear hcz10_1); (try clear hcz14_0); (try clear hcz14_1); (try clear hcz20_0); (try clear hcz20_1); (try clear hcz22_0); (try clear hcz22_1); (try clear hfz10_0); (try clear hfz10_1); (try clear hfz14_0); (try clear hfz14_1); (try clear hfz20_0); (try clear hfz20_1); (try clear hfz22_0); (try clear hfz22_1); (try clear p2); obtain ⟨x11_2, rfl, HA, HK2, HO_4, HO_7, HO_9, HO_Z0, HO_Z1, BK637, HB⟩ := hrel
      cases gk with
      | zero => exact absurd HA.out (by simp [laws_FnChoiceTree.l0])
      | succ k2 =>
       have H := HA.out; clear HA; simp only [laws_FnChoiceTree.l0] at H
       by_cases c24 : x11_2 < (t634.length : Int)
       ·
        rw [if_pos c24] at H; have c24b0 : decide (x11_2 < (t634.length : Int)) = true := decide_eq_true c24; clear c24; obtain ⟨y648, hy648⟩ : ∃ y_ : List Int, y_ = (([] : List Int)) := ⟨_, rfl⟩; replace H : (if 0 ≤ x11_2 then (if x11_2 ≤ (t634.length : Int) then ((some (t634.take (x11_2 : Int).toNat : List Int)).bind fun y651 => (if y648.length + y651.length < 17592186044416 then ((some (y648 ++ y651 : List Int)).bind fun y655 => (if 0 ≤ (wrap64 (x11_2 + 1)) then (if (wrap64 (x11_2 + 1)) ≤ (t634.length : Int) then ((some (t634.drop ((wrap64 (x11_2 + 1)) : Int).toNat : List Int)).bind fun y658 => (if y655.length + y658.length < 17592186044416 then ((impl_ChoiceCounts.f k2 t628 t631 (y655 ++ y658)).bind fun bt665 => (if bt665.2 = true then (if 0 < (bt665.1.length : Int) then (if (rd bt665.1 0) = 2 then (laws_FnChoiceTree.l0 k2 t634 t640 t643 t644 t647 (wrap64 (x11_2 + 1)) t628 t631) else (some false)) else (none)) else (some false))) else (none))) else (none)) else (none))) else (none))) else (none)) else (none)) = some r := hR hy648 H; have Ny648 := Az hy648; clear hy648
        by_cases c25 : 0 ≤ x11_2
        ·
         rw [if_pos c25] at H; have c25b0 := eq_true c25; have c25b1 : decide (0 ≤ x11_2) = true := decide_eq_true c25; clear c25
         by_cases c26 : x11_2 ≤ (t634.length : Int)
         ·
          rw [if_pos c26] at H; have c26b0 := eq_true c26; have c26b1 : decide (x11_2 ≤ (t634.length : Int)) = true := decide_eq_true c26; clear c26; obtain ⟨y651, hy651⟩ : ∃ y_ : List Int, y_ = (t634.take (x11_2 : Int).toNat) := ⟨_, rfl⟩; replace H : (if y648.length + y651.length < 17592186044416 then ((some (y648 ++ y651 : List Int)).bind fun y655 => (if 0 ≤ (wrap64 (x11_2 + 1)) then (if (wrap64 (x11_2 + 1)) ≤ (t634.length : Int) then ((some (t634.drop ((wrap64 (x11_2 + 1)) : Int).toNat : List Int)).bind fun y658 => (if y655.length + y658.length < 17592186044416 then ((impl_ChoiceCounts.f k2 t628 t631 (y655 ++ y658)).bind fun bt665 => (if bt665.2 = true then (if 0 < (bt665.1.length : Int) then (if (rd bt665.1 0) = 2 then (laws_FnChoiceTree.l0 k2 t634 t640 t643 t644 t647 (wrap64 (x11_2 + 1)) t628 t631) else (some false)) else (none)) else (some false))) else (none))) else (none)) else (none))) else (none)) = some r := hR hy651 H; have Ny651 := Az hy651; clear hy651
          by_cases c27 : y648.length + y651.length < 17592186044416
          ·
           rw [if_pos c27] at H; have LMc27 := Az c27; clear c27; obtain ⟨y655, hy655⟩ : ∃ y_ : List Int, y_ = (y648 ++ y651) := ⟨_, rfl⟩; replace H : (if 0 ≤ (wrap64 (x11_2 + 1)) then (if (wrap64 (x11_2 + 1)) ≤ (t634.length : Int) then ((some (t634.drop ((wrap64 (x11_2 + 1)) : Int).toNat : List Int)).bind fun y658 => (if y655.length + y658.length < 17592186044416 then ((impl_ChoiceCounts.f k2 t628 t631 (y655 ++ y658)).bind fun bt665 => (if bt665.2 = true then (if 0 < (bt665.1.length : Int) then (if (rd bt665.1 0) = 2 then (laws_FnChoiceTree.l0 k2 t634 t640 t643 t644 t647 (wrap64 (x11_2 + 1)) t628 t631) else (some false)) else (none)) else (some false))) else (none))) else (none)) else (none)) = some r := hR hy655 H; have Ny655 := Az hy655; clear hy655; obtain ⟨ji28, hji28⟩ : ∃ j_ : Int, (wrap64 (x11_2 + 1)) = j_ := ⟨_, rfl⟩
           replace H : (if 0 ≤ (ji28) then (if (ji28) ≤ (t634.length : Int) then ((some (t634.drop ((ji28) : Int).toNat : List Int)).bind fun y658 => (if y655.length + y658.length < 17592186044416 then ((impl_ChoiceCounts.f k2 t628 t631 (y655 ++ y658)).bind fun bt665 => (if bt665.2 = true then (if 0 < (bt665.1.length : Int) then (if (rd bt665.1 0) = 2 then (laws_FnChoiceTree.l0 k2 t634 t640 t643 t644 t647 ji28 t628 t631) else (some false)) else (none)) else (some false))) else (none))) else (none)) else (none)) = some r := by first | (rw [hji28] at H; exact H) | (simp only [hji28] at H ⊢; exact H)
           have hji28w : (IntKind.i64.wrap (x11_2 + 1)) = ji28 := (i64_w _).trans hji28
           by_cases c29 : 0 ≤ (ji28)
           ·
            rw [if_pos c29] at H; have c29b0 := eq_true c29; have c29b1 : decide (0 ≤ (ji28)) = true := decide_eq_true c29; clear c29
            by_cases c30 : (ji28) ≤ (t634.length : Int)
            ·
             rw [if_pos c30] at H; have c30b0 := eq_true c30; have c30b1 : decide ((ji28) ≤ (t634.length : Int)) = true := decide_eq_true c30; clear c30; obtain ⟨y658, hy658⟩ : ∃ y_ : List Int, y_ = (t634.drop ((ji28) : Int).toNat) := ⟨_, rfl⟩; replace H : (if y655.length + y658.length < 17592186044416 then ((impl_ChoiceCounts.f k2 t628 t631 (y655 ++ y658)).bind fun bt665 => (if bt665.2 = true then (if 0 < (bt665.1.length : Int) then (if (rd bt665.1 0) = 2 then (laws_FnChoiceTree.l0 k2 t634 t640 t643 t644 t647 ji28 t628 t631) else (some false)) else (none)) else (some false))) else (none)) = some r := hR hy658 H; have Ny658 := Az hy658; clear hy658
             by_cases c31 : y655.length + y658.length < 17592186044416
             ·
              rw [if_pos c31] at H; have LMc31 := Az c31; clear c31; obtain ⟨y662, hy662⟩ : ∃ y_ : List Int, y_ = (y655 ++ y658) := ⟨_, rfl⟩; replace H : ((impl_ChoiceCounts.f k2 t628 t631 y662).bind fun bt665 => (if bt665.2 = true then (if 0 < (bt665.1.length : Int) then (if (rd bt665.1 0) = 2 then (laws_FnChoiceTree.l0 k2 t634 t640 t643 t644 t647 ji28 t628 t631) else (some false)) else (none)) else (some false))) = some r := hR hy662 H; have Ny662 := Az hy662; clear hy662; replace H := Option.bind_eq_some_iff.mp H; obtain ⟨⟨t665, t668⟩, A320, H⟩ := H; replace H : (if t668 = true then (if 0 < (t665.length : Int) then (if (rd t665 0) = 2 then (laws_FnChoiceTree.l0 k2 t634 t640 t643 t644 t647 ji28 t628 t631) else (some false)) else (none)) else (some false)) = some r := H; have A32 := Az A320; clear A320
              by_cases c33 : t668 = true
              ·
               subst c33
               have H1 : (if 0 < (t665.length : Int) then (if (rd t665 0) = 2 then (laws_FnChoiceTree.l0 k2 t634 t640 t643 t644 t647 ji28 t628 t631) else (some false)) else (none)) = some r := by rw [if_pos rfl] at H; exact H
               clear H; have H := H1; clear H1
               by_cases c34 : 0 < (t665.length : Int)
               ·
                rw [if_pos c34] at H; have c34b0 : decide (0 < (t665.length : Int)) = true := decide_eq_true c34; have c34b1 : decide (0 < t665.length) = true := decide_eq_true (by omega); clear c34
                by_cases c35 : (rd t665 0) = 2
                ·
                 rw [if_pos c35] at H; have c35b0 : ((rd t665 0) == 2) = true := beq_iff_eq.mpr c35; have c35b1 : ((rd t665 0) != 2) = false := bne_eq_false_iff_eq.mpr c35; clear c35; have H' := Az H; clear H
                 try go_wp2
                 have n0 := Az (Kd.R_drew HO_4.out); have n1 := Az (Kd.R_drew HO_7.out); have n2 := Az (Kd.R_drew HO_9.out); have n3 := Az (Kd.Q_drew HO_Z0.out); have n4 := Az (Kd.R_drew HO_Z1.out); have n5 := Az (blk_drew BK637.out); have n6 := Az (below_drew1 HB.out); clear HO_4 HO_7 HO_9 HO_Z0 HO_Z1 BK637 HB; have HO_4 := n0; have HO_7 := n1; have HO_9 := n2; have HO_Z0 := n3; have HO_Z1 := n4; have BK637 := n5; have HB := n6; clear n0 n1 n2 n3 n4 n5 n6; have q37 : (x11_2 : Int) ≤ ((t634.length : Int) : Int) := oA; obtain ⟨i037, hi037, _, hsz37, _⟩ := info_parts info3; have hroom37 : t634.length ≤ co12 := (Kd.R_reads' HO_4.out).2.1; have hC37 : Kd.C (Kd.int .i64) _ Ao12 t634.length t634 := (Kd.R_reads' HO_4.out).2.2; have hcut37 := cut_to (P := Try.prog) 23 3 .i64 Try.underlying23 hi037 Ao12 t634.length co12 x11_2 (oA) q37 hroom37; have hr37 := Kd.C_take (m := (x11_2 : Int).toNat) hC37 (by omega); have hy37 : y651.length = (x11_2 : Int).toNat := (by rw [Ny651.out, List.length_take]; omega); rw [← Ny651.out] at hr37; rw [← hy37] at hcut37; have HR654 := Az hr37; have HC654 := Az (show y651.length ≤ co12 from by omega); clear hr37 hC37 hroom37 hi037 hsz37; have KY37 := Az hy37; clear hy37; have KL37 := Az (show (x11_2 : Int).toNat ≤ t634.length from by omega); replace q37 := eq_true q37; have q38 : ((ji28) : Int) ≤ ((t634.length : Int) : Int) := oA; obtain ⟨i038, hi038, _, hsz38, _⟩ := info_parts info3; have hroom38 : t634.length ≤ co12 := (Kd.R_reads' HO_4.out).2.1; have hC38 : Kd.C (Kd.int .i64) _ Ao12 t634.length t634 := (Kd.R_reads' HO_4.out).2.2; have q038 : (0 : Int) ≤ ((ji28) : Int) := oA; have hcut38 := cut_from (P := Try.prog) 23 3 .i64 Try.underlying23 hi038 1 hsz38 Ao12 t634.length co12 (ji28) q038 q38; have hr38 := Kd.C_drop (m := ((ji28) : Int).toNat) (c := co12) hC38 (by omega) hroom38; obtain ⟨A38, hA38⟩ : ∃ A1, A1 = (if co12 = ((ji28) : Int).toNat then Ao12 else (Ao12 : Option Addr).map (·.add (((ji28) : Int).toNat * 1))) := ⟨_, rfl⟩; obtain ⟨c38, hc38⟩ : ∃ c1, c1 = co12 - ((ji28) : Int).toNat := ⟨_, rfl⟩; have hy38 : y658.length = t634.length - ((ji28) : Int).toNat := (by rw [Ny658.out, List.length_drop] <;> omega); rw [show (t634).drop ((ji28) : Int).toNat = y658 from Ny658.out.symm] at hr38; replace hr38 : Kd.C (Kd.int .i64) _ A38 y658.length y658 := (by rw [hA38]; exact hr38); rw [← hy38, ← hA38, ← hc38] at hcut38; have HR661 := Az hr38; have HC661 := Az (show y658.length ≤ c38 from by rw [hy38, hc38]; exact Nat.sub_le_sub_right hroom38 _); clear hr38 hC38 hroom38 hi038 hsz38 hc38; have KY38 := Az hy38; have KA38 := Az hA38; clear hy38 hA38; have KL38 := Az (show ((ji28) : Int).toNat ≤ t634.length from by omega); replace q38 := eq_true q38
                 refine start_ (n := 11) (S := fun w' => True) (ds := []) #[false, false, false, false, false, false, false, false, false, false, false] (by kernel_rfl) rfl rfl trivial (fun hHeld => ?_); refine with_tabW laws_FnChoiceTree.tab13 laws_FnChoiceTree.bits13 (fun HT_ HW_ => ?_)
                 generalize wr.drew = w36 at HO_4 HO_7 HO_9 HO_Z0 HO_Z1 BK637 HB HR654 HR661 hHeld ⊢
                 refine pure_ (i := 1) (N := some 57) (v := ?_) (a' := ?_) #[false, true, false, false, false, false, false, false, false, false, false] rfl rfl (any_of HT_.out (by kernel_rfl)) (fun _ _ _ h => h) (Or.inl ⟨by rfl, ?_⟩) ?_ ?_
                 rotate_left
                 ·
                  intro w'
                  go_simp
                  with_reducible rfl
                 rotate_left
                 ·
                  simp only [Act.put, List.setIfInBounds_toArray, List.set_cons_zero, List.set_cons_succ, i64_w, i32_w]
                  rfl
                 refine pure_ (i := 2) (N := some 58) (v := ?_) (a' := ?_) #[false, true, true, false, false, false, false, false, false, false, false] rfl rfl (any_of HT_.out (by kernel_rfl)) (fun _ _ _ h => h) (Or.inl ⟨by rfl, ?_⟩) ?_ ?_
                 rotate_left
                 ·
                  intro w'
                  go_simp
                  with_reducible rfl
                 rotate_left
                 ·
                  simp only [Act.put, List.setIfInBounds_toArray, List.set_cons_zero, List.set_cons_succ, i64_w, i32_w]
                  rfl
                 refine pure_ (i := 3) (N := some 59) (v := ?_) (a' := ?_) #[false, true, true, true, false, false, false, false, false, false, false] rfl rfl (any_of HT_.out (by kernel_rfl)) (fun _ _ _ h => h) (Or.inl ⟨by rfl, ?_⟩) ?_ ?_
                 rotate_left
                 ·
                  intro w'
                  go_simp
                  with_reducible rfl
                 rotate_left
                 ·
                  simp only [Act.put, List.setIfInBounds_toArray, List.set_cons_zero, List.set_cons_succ, i64_w, i32_w]
                  rfl
                 refine pure_ (i := 5) (N := some 61) (v := ?_) (a' := ?_) #[false, true, true, true, false, true, false, false, false, false, false] rfl rfl (any_of HT_.out (by kernel_rfl)) (fun _ _ _ h => h) (Or.inl ⟨by rfl, ?_⟩) ?_ ?_
                 rotate_left
                 ·
                  intro w'
                  go_simp
                  with_reducible rfl
                 rotate_left
                 ·
                  simp only [Act.put, List.setIfInBounds_toArray, List.set_cons_zero, List.set_cons_succ, i64_w, i32_w]
                  rfl
                 refine pure_ (i := 6) (N := some 62) (v := ?_) (a' := ?_) #[false, true, true, true, false, true, true, false, false, false, false] rfl rfl (any_of HT_.out (by kernel_rfl)) (fun _ _ _ h => h) (Or.inl ⟨by rfl, ?_⟩) ?_ ?_
                 rotate_left
                 ·
                  intro w'
                  go_simp
                  with_reducible rfl
                 rotate_left
                 ·
                  simp only [Act.put, List.setIfInBounds_toArray, List.set_cons_zero, List.set_cons_succ, i64_w, i32_w]
                  rfl
                 refine pure_ (i := 7) (N := some 63) (v := ?_) (a' := ?_) #[false, true, true, true, false, true, true, true, false, false, false] rfl rfl (any_of HT_.out (by kernel_rfl)) (fun _ _ _ h => h) (Or.inl ⟨by rfl, ?_⟩) ?_ ?_
                 rotate_left
                 ·
                  intro w'
                  go_simp
                  with_reducible rfl
                 rotate_left
                 ·
                  simp only [Act.put, List.setIfInBounds_toArray, List.set_cons_zero, List.set_cons_succ, i64_w, i32_w]
                  rfl
                 refine pure_ (i := 8) (N := some 64) (v := ?_) (a' := ?_) #[false, true, true, true, false, true, true, true, true, false, false] rfl rfl (any_of HT_.out (by kernel_rfl)) (fun _ _ _ h => h) (Or.inl ⟨by rfl, ?_⟩) ?_ ?_
                 rotate_left
                 ·
                  intro w'
                  go_simp
                  with_reducible rfl
                 rotate_left
                 ·
                  simp only [Act.put, List.setIfInBounds_toArray, List.set_cons_zero, List.set_cons_succ, i64_w, i32_w]
                  rfl
                 refine one_ (i := 0) (N := some 56) #[true, true, true, true, false, true, true, true, true, false, false] rfl rfl (one_of HT_.out (by kernel_rfl)) (by decide) (fun K hK => ?_)
                 refine Kd.R_lit_step (Kd.int .i64) _ 3 ?hg (N := 56) ?hd (xs := ([] : List Int)) (inner := []) (ok := fun _ => True) (okp := fun _ => True) ?hr ?hp (fun _ hk => hk) trivial (Below.refl _ _) (Nat.le_refl _) (by simp) ?_; (case hd => rfl); (case hg => rfl); (case hr => first | (go_simp; done) | (go_simp; rfl)); (case hp => exact (Reps.none _ _))
                 intro v649 w39 ho40 hb hg_ hnew_
                 clear hg_ hnew_; (first | rw [← Ny648.out] at ho40 | (simp only [Int.reduceToNat] at ho40; rw [← Ny648.out] at ho40)); have n0 := Az (Kd.R_elder' (rU HO_4.out) (Kd.R_base ho40) hb); have n1 := Az (Kd.R_elder' (rU HO_7.out) (Kd.R_base ho40) hb); have n2 := Az (Kd.R_elder' (rU HO_9.out) (Kd.R_base ho40) hb); have n3 := Az (Kd.Q_elder' (qU HO_Z0.out) (Kd.R_base ho40) hb); have n4 := Az (Kd.R_elder' (rU HO_Z1.out) (Kd.R_base ho40) hb); have n5 := Az (Kd.R_lower (Kd.R_new' (Kd.R_new' (Kd.R_new' (Kd.R_new' (Kd.R_new' ho40 (Kd.R_lt (rU HO_4.out))) (Kd.R_lt (rU HO_7.out))) (Kd.R_lt (rU HO_9.out))) (Kd.Q_lt (qU HO_Z0.out))) (Kd.R_lt (rU HO_Z1.out))) (below_size (bU1 HB.out GE637.out))); have n6 := Az (blk_below (g := gb637) (o := .cells #[.slice Ao9 t628.length co9, .slice Ao11 t631.length co11] 25 (0, 0)) (kU BK637.out) hb); have n7 := Az (Kd.C_below (by repeat (first | (with_reducible exact HR654.out) | (with_reducible refine Kd.C_alloc ?_ _) | (with_reducible refine Kd.C_drewN ?_ _) | (with_reducible refine Kd.C_drew ?_) | exact HR654.out)) hb); have n8 := Az (Kd.C_below (by repeat (first | (with_reducible exact HR661.out) | (with_reducible refine Kd.C_alloc ?_ _) | (with_reducible refine Kd.C_drewN ?_ _) | (with_reducible refine Kd.C_drew ?_) | exact HR661.out)) hb); have n9 := Az (below_step (bU1 HB.out GE637.out) hb); clear HO_4 HO_7 HO_9 HO_Z0 HO_Z1 BK637 HR654 HR661 HB; have HO_4 := n0; have HO_7 := n1; have HO_9 := n2; have HO_Z0 := n3; have HO_Z1 := n4; have HO650 := n5; have BK637 := n6; have HR654 := n7; have HR661 := n8; have HB := n9; clear n0 n1 n2 n3 n4 n5 n6 n7 n8 n9 hb ho40
                 refine hK.out _ _ trivial (fun hHeld => ?_)
                 clear hK K
                 refine norm_ (a' := ?_) ?_ ?_
                 rotate_left
                 ·
                  show Act.put _ (some 56) _ = _
                  simp only [Act.put, List.setIfInBounds_toArray, List.set_cons_zero, List.set_cons_succ, i64_w, i32_w]
                  rfl
                 refine one_ (i := 4) (N := some 60) #[true, true, true, true, true, true, true, true, true, false, false] rfl rfl (one_of HT_.out (by kernel_rfl)) (by decide) (fun K hK => ?_)
                 refine Kd.R_append_rows_step (Kd.int .i64) (w0 := w) w.heap.size (by rfl) (.tmp 56) (.tmp 59) 23 3 (.int .i64 0) 8 rfl Try.underlying23 info3 rfl (by decide) (by omega) v649 y648 y651 _ _ _ (fun k_ => some k_ ≠ (.slice Ao12 t634.length co12 : Value).ownBlock ∧ some k_ ≠ (v641 : Value).ownBlock ∧ some k_ ≠ (v645 : Value).ownBlock ∧ some k_ ≠ (.slice Ao9 t628.length co9 : Value).ownBlock ∧ some k_ ≠ (.slice Ao11 t631.length co11 : Value).ownBlock) (fun _ => False) rfl rfl ?aO ?aR (fun _ _ h => h) (fun _ h => h.elim) ?aF ?aB ?aS ?aL ?_
                 (case aR => exact cU (by repeat (first | (with_reducible exact HR654.out) | (with_reducible refine Kd.C_alloc ?_ _) | (with_reducible refine Kd.C_drewN ?_ _) | (with_reducible refine Kd.C_drew ?_) | exact HR654.out)))
                 (case aB => exact (bU1 HB.out GE637.out))
                 (case aF => exact (fun k_ hk => ⟨Kd.fresh' (Kd.R_lt (rU HO_4.out)) k_ hk, Kd.fresh' (Kd.R_lt (rU HO_7.out)) k_ hk, Kd.fresh' (Kd.R_lt (rU HO_9.out)) k_ hk, Kd.fresh' (Kd.Q_lt (qU HO_Z0.out)) k_ hk, Kd.fresh' (Kd.R_lt (rU HO_Z1.out)) k_ hk⟩))
                 (case aO => exact (by (with_reducible repeat (first | apply Kd.R_alloc | apply Kd.R_drewN | apply Kd.R_drew)); exact Kd.R_mono HO650.out (fun _ hk => ⟨hk.1.1.1.1.2, ⟨hk.1.1.1.2, ⟨hk.1.1.2, ⟨hk.1.2, hk.2⟩⟩⟩⟩)))
                 (case aS => exact (below_size (bU1 HB.out GE637.out)))
                 (case aL => have := LMc27.out; omega)
                 intro v656 w41 ho hb hg hat
                 rw [← Ny655.out] at ho; have n0 := Az (Kd.R_after (ok := (fun k_ => some k_ ≠ (v641 : Value).ownBlock ∧ some k_ ≠ (v645 : Value).ownBlock ∧ some k_ ≠ (.slice Ao9 t628.length co9 : Value).ownBlock ∧ some k_ ≠ (.slice Ao11 t631.length co11 : Value).ownBlock)) (rU HO_4.out) hg hat); have n1 := Az (Kd.R_after (ok := (fun k_ => some k_ ≠ (.slice Ao12 t634.length co12 : Value).ownBlock ∧ some k_ ≠ (v645 : Value).ownBlock ∧ some k_ ≠ (.slice Ao9 t628.length co9 : Value).ownBlock ∧ some k_ ≠ (.slice Ao11 t631.length co11 : Value).ownBlock)) (rU HO_7.out) hg hat); have n2 := Az (Kd.R_after (ok := (fun k_ => some k_ ≠ (.slice Ao12 t634.length co12 : Value).ownBlock ∧ some k_ ≠ (v641 : Value).ownBlock ∧ some k_ ≠ (.slice Ao9 t628.length co9 : Value).ownBlock ∧ some k_ ≠ (.slice Ao11 t631.length co11 : Value).ownBlock)) (rU HO_9.out) hg hat); have n3 := Az (Kd.Q_after (ok := (fun k_ => some k_ ≠ (.slice Ao12 t634.length co12 : Value).ownBlock ∧ some k_ ≠ (v641 : Value).ownBlock ∧ some k_ ≠ (v645 : Value).ownBlock ∧ some k_ ≠ (.slice Ao11 t631.length co11 : Value).ownBlock)) (qU HO_Z0.out) hg hat); have n4 := Az (Kd.R_after (ok := (fun k_ => some k_ ≠ (.slice Ao12 t634.length co12 : Value).ownBlock ∧ some k_ ≠ (v641 : Value).ownBlock ∧ some k_ ≠ (v645 : Value).ownBlock ∧ some k_ ≠ (.slice Ao9 t628.length co9 : Value).ownBlock)) (rU HO_Z1.out) hg hat); have n5 := Az (blk_grown (g := gb637) (o := .cells #[.slice Ao9 t628.length co9, .slice Ao11 t631.length co11] 25 (0, 0)) (kU BK637.out) hg (Kd.R_ne HO650.out BK637.out (by decide))); have n6 := Az (hb); have n7 := Az ((show Kd.C (Kd.int .i64) w41 Ao12 y651.length y651 from by rw [Ny651.out]; exact Kd.C_take (m := (x11_2 : Int).toNat) ((Kd.R_reads' (Kd.R_after (ok := (fun k_ => some k_ ≠ (v641 : Value).ownBlock ∧ some k_ ≠ (v645 : Value).ownBlock ∧ some k_ ≠ (.slice Ao9 t628.length co9 : Value).ownBlock ∧ some k_ ≠ (.slice Ao11 t631.length co11 : Value).ownBlock)) (rU HO_4.out) hg hat)).2.2) KL37.out)); have n8 := Az ((show Kd.C (Kd.int .i64) w41 A38 y658.length y658 from by rw [Ny658.out, KA38.out]; exact Kd.C_drop (m := ((ji28) : Int).toNat) (c := co12) ((Kd.R_reads' (Kd.R_after (ok := (fun k_ => some k_ ≠ (v641 : Value).ownBlock ∧ some k_ ≠ (v645 : Value).ownBlock ∧ some k_ ≠ (.slice Ao9 t628.length co9 : Value).ownBlock ∧ some k_ ≠ (.slice Ao11 t631.length co11 : Value).ownBlock)) (rU HO_4.out) hg hat)).2.2) KL38.out ((Kd.R_reads' (Kd.R_after (ok := (fun k_ => some k_ ≠ (v641 : Value).ownBlock ∧ some k_ ≠ (v645 : Value).ownBlock ∧ some k_ ≠ (.slice Ao9 t628.length co9 : Value).ownBlock ∧ some k_ ≠ (.slice Ao11 t631.length co11 : Value).ownBlock)) (rU HO_4.out) hg hat)).2.1))); have n9 := Az (ho); clear HO_4 HO_7 HO_9 HO_Z0 HO_Z1 BK637 HB HR654 HR661 HO650; have HO_4 := n0; have HO_7 := n1; have HO_9 := n2; have HO_Z0 := n3; have HO_Z1 := n4; have BK637 := n5; have HB := n6; have HR654 := n7; have HR661 := n8; have HO657 := n9; clear n0 n1 n2 n3 n4 n5 n6 n7 n8 n9 ho hb hg hat
                 refine hK.out _ _ trivial (fun hHeld => ?_)
                 clear hK K
                 refine norm_ (a' := ?_) ?_ ?_
                 rotate_left
                 ·
                  show Act.put _ (some 60) _ = _
                  simp only [Act.put, List.setIfInBounds_toArray, List.set_cons_zero, List.set_cons_succ, i64_w, i32_w]
                  rfl
                 refine one_ (i := 9) (N := some 65) #[true, true, true, true, true, true, true, true, true, true, false] rfl rfl (one_of HT_.out (by kernel_rfl)) (by decide) (fun K hK => ?_)
                 refine Kd.R_append_rows_step (Kd.int .i64) (w0 := w) w.heap.size (by rfl) (.tmp 60) (.tmp 64) 23 3 (.int .i64 0) 8 rfl Try.underlying23 info3 rfl (by decide) (by omega) v656 y655 y658 _ _ _ (fun k_ => some k_ ≠ (.slice Ao12 t634.length co12 : Value).ownBlock ∧ some k_ ≠ (v641 : Value).ownBlock ∧ some k_ ≠ (v645 : Value).ownBlock ∧ some k_ ≠ (.slice Ao9 t628.length co9 : Value).ownBlock ∧ some k_ ≠ (.slice Ao11 t631.length co11 : Value).ownBlock) (fun _ => False) rfl rfl ?aO ?aR (fun _ _ h => h) (fun _ h => h.elim) ?aF ?aB ?aS ?aL ?_
                 (case aR => exact cU (by repeat (first | (with_reducible exact HR661.out) | (with_reducible refine Kd.C_alloc ?_ _) | (with_reducible refine Kd.C_drewN ?_ _) | (with_reducible refine Kd.C_drew ?_) | exact HR661.out)))
                 (case aB => exact (bU1 HB.out GE637.out))
                 (case aF => exact (fun k_ hk => ⟨Kd.fresh' (Kd.R_lt (rU HO_4.out)) k_ hk, Kd.fresh' (Kd.R_lt (rU HO_7.out)) k_ hk, Kd.fresh' (Kd.R_lt (rU HO_9.out)) k_ hk, Kd.fresh' (Kd.Q_lt (qU HO_Z0.out)) k_ hk, Kd.fresh' (Kd.R_lt (rU HO_Z1.out)) k_ hk⟩))
                 (case aO => exact (rU HO657.out))
                 (case aS => exact (below_size (bU1 HB.out GE637.out)))
                 (case aL => have := LMc31.out; omega)
                 intro v663 w42 ho hb hg hat
                 rw [← Ny662.out] at ho; have n0 := Az (Kd.R_after (ok := (fun k_ => some k_ ≠ (v641 : Value).ownBlock ∧ some k_ ≠ (v645 : Value).ownBlock ∧ some k_ ≠ (.slice Ao9 t628.length co9 : Value).ownBlock ∧ some k_ ≠ (.slice Ao11 t631.length co11 : Value).ownBlock)) (rU HO_4.out) hg hat); have n1 := Az (Kd.R_after (ok := (fun k_ => some k_ ≠ (.slice Ao12 t634.length co12 : Value).ownBlock ∧ some k_ ≠ (v645 : Value).ownBlock ∧ some k_ ≠ (.slice Ao9 t628.length co9 : Value).ownBlock ∧ some k_ ≠ (.slice Ao11 t631.length co11 : Value).ownBlock)) (rU HO_7.out) hg hat); have n2 := Az (Kd.R_after (ok := (fun k_ => some k_ ≠ (.slice Ao12 t634.length co12 : Value).ownBlock ∧ some k_ ≠ (v641 : Value).ownBlock ∧ some k_ ≠ (.slice Ao9 t628.length co9 : Value).ownBlock ∧ some k_ ≠ (.slice Ao11 t631.length co11 : Value).ownBlock)) (rU HO_9.out) hg hat); have n3 := Az (Kd.Q_after (ok := (fun k_ => some k_ ≠ (.slice Ao12 t634.length co12 : Value).ownBlock ∧ some k_ ≠ (v641 : Value).ownBlock ∧ some k_ ≠ (v645 : Value).ownBlock ∧ some k_ ≠ (.slice Ao11 t631.length co11 : Value).ownBlock)) (qU HO_Z0.out) hg hat); have n4 := Az (Kd.R_after (ok := (fun k_ => some k_ ≠ (.slice Ao12 t634.length co12 : Value).ownBlock ∧ some k_ ≠ (v641 : Value).ownBlock ∧ some k_ ≠ (v645 : Value).ownBlock ∧ some k_ ≠ (.slice Ao9 t628.length co9 : Value).ownBlock)) (rU HO_Z1.out) hg hat); have n5 := Az (blk_grown (g := gb637) (o := .cells #[.slice Ao9 t628.length co9, .slice Ao11 t631.length co11] 25 (0, 0)) (kU BK637.out) hg (Kd.R_ne HO657.out BK637.out (by decide))); have n6 := Az (hb); have n7 := Az ((show Kd.C (Kd.int .i64) w42 Ao12 y651.length y651 from by rw [Ny651.out]; exact Kd.C_take (m := (x11_2 : Int).toNat) ((Kd.R_reads' (Kd.R_after (ok := (fun k_ => some k_ ≠ (v641 : Value).ownBlock ∧ some k_ ≠ (v645 : Value).ownBlock ∧ some k_ ≠ (.slice Ao9 t628.length co9 : Value).ownBlock ∧ some k_ ≠ (.slice Ao11 t631.length co11 : Value).ownBlock)) (rU HO_4.out) hg hat)).2.2) KL37.out)); have n8 := Az ((show Kd.C (Kd.int .i64) w42 A38 y658.length y658 from by rw [Ny658.out, KA38.out]; exact Kd.C_drop (m := ((ji28) : Int).toNat) (c := co12) ((Kd.R_reads' (Kd.R_after (ok := (fun k_ => some k_ ≠ (v641 : Value).ownBlock ∧ some k_ ≠ (v645 : Value).ownBlock ∧ some k_ ≠ (.slice Ao9 t628.length co9 : Value).ownBlock ∧ some k_ ≠ (.slice Ao11 t631.length co11 : Value).ownBlock)) (rU HO_4.out) hg hat)).2.2) KL38.out ((Kd.R_reads' (Kd.R_after (ok := (fun k_ => some k_ ≠ (v641 : Value).ownBlock ∧ some k_ ≠ (v645 : Value).ownBlock ∧ some k_ ≠ (.slice Ao9 t628.length co9 : Value).ownBlock ∧ some k_ ≠ (.slice Ao11 t631.length co11 : Value).ownBlock)) (rU HO_4.out) hg hat)).2.1))); have n9 := Az (ho); clear HO_4 HO_7 HO_9 HO_Z0 HO_Z1 BK637 HB HR654 HR661 HO657; have HO_4 := n0; have HO_7 := n1; have HO_9 := n2; have HO_Z0 := n3; have HO_Z1 := n4; have BK637 := n5; have HB := n6; have HR654 := n7; have HR661 := n8; have HO664 := n9; clear n0 n1 n2 n3 n4 n5 n6 n7 n8 n9 ho hb hg hat
                 refine hK.out _ _ trivial (fun hHeld => ?_)
                 clear hK K
                 refine norm_ (a' := ?_) ?_ ?_
                 rotate_left
                 ·
                  show Act.put _ (some 65) _ = _
                  simp only [Act.put, List.setIfInBounds_toArray, List.set_cons_zero, List.set_cons_succ, i64_w, i32_w]
                  rfl
                 refine pure_ (i := 10) (N := some 12) (v := ?_) (a' := ?_) #[true, true, true, true, true, true, true, true, true, true, true] rfl rfl (any_of HT_.out (by kernel_rfl)) (fun _ _ _ h => h) (Or.inl ⟨by rfl, ?_⟩) ?_ ?_
                 rotate_left
                 ·
                  intro w'
                  go_simp
                  with_reducible rfl
                 rotate_left
                 ·
                  simp only [Act.put, List.setIfInBounds_toArray, List.set_cons_zero, List.set_cons_succ, i64_w, i32_w]
                  rfl
                 refine done_ (done_of HT_.out (by kernel_rfl)) ?_
                 have hcz43_0 : w42.cell? ⟨gb637, 0, none⟩ = some (.slice Ao9 t628.length co9) := (blk_cell BK637.out 0).trans rfl; have hcz43_1 : w42.cell? ⟨gb637, 1, none⟩ = some (.slice Ao11 t631.length co11) := (blk_cell BK637.out 1).trans rfl; have hfz43_0 := blk_frozen BK637.out 0; have hfz43_1 := blk_frozen BK637.out 1; obtain ⟨Ao44, co44, eo44⟩ := Kd.R_slice HO664.out; subst eo44
                 try go_wp2_with (first | ((with_reducible refine gate_callee (f := 20) rfl ?_); refine goesL_ (some 69) rfl rfl Try.func20 (by kernel_rfl) rfl #[.agg #[.slice Ao9 t628.length co9, .slice Ao11 t631.length co11], .slice Ao44 y662.length co44] rfl (by (try simp only [List.map_toArray, List.map_cons, List.map_nil]); first | done | rfl | (simp only [List.length_drop, List.length_take]; rfl)) ?_; (with_reducible refine (impl_ChoiceCounts.calls k2 _ _ t628 _ _ t631 _ _ y662 t665 true _ ?side1 ?side2 ?side3 ?side4 ?side5 ?side6 A32.out).mono ?_); (case side1 => exact cU ((Kd.Q_reads' HO_Z0.out).2.2)); (case side2 => exact (Kd.Q_reads' HO_Z0.out).2.1); (case side3 => exact cU ((Kd.R_reads' HO_Z1.out).2.2)); (case side4 => exact (Kd.R_reads' HO_Z1.out).2.1); (case side5 => exact cU ((Kd.R_reads' HO664.out).2.2)); (case side6 => exact (Kd.R_reads' HO664.out).2.1); rintro e w45 ⟨v666, rfl, ho0, hb⟩; refine ⟨_, rfl, ?_⟩; have n0 := Az (Kd.R_elder' (rU HO_4.out) (Kd.R_base ho0) hb); have n1 := Az (Kd.R_elder' (rU HO_7.out) (Kd.R_base ho0) hb); have n2 := Az (Kd.R_elder' (rU HO_9.out) (Kd.R_base ho0) hb); have n3 := Az (Kd.Q_elder' (qU HO_Z0.out) (Kd.R_base ho0) hb); have n4 := Az (Kd.R_elder' (rU HO_Z1.out) (Kd.R_base ho0) hb); have n5 := Az (Kd.R_elder' (rU HO664.out) (Kd.R_base ho0) hb); have n6 := Az (Kd.R_lower (Kd.R_new' (Kd.R_new' (Kd.R_new' (Kd.R_new' (Kd.R_new' (Kd.R_new' ho0 (Kd.R_lt (rU HO_4.out))) (Kd.R_lt (rU HO_7.out))) (Kd.R_lt (rU HO_9.out))) (Kd.Q_lt (qU HO_Z0.out))) (Kd.R_lt (rU HO_Z1.out))) (Kd.R_lt (rU HO664.out))) (below_size (bU1 HB.out GE637.out))); have n7 := Az (blk_below (g := gb637) (o := .cells #[.slice Ao9 t628.length co9, .slice Ao11 t631.length co11] 25 (0, 0)) (kU BK637.out) hb); have n8 := Az (Kd.C_below (by repeat (first | (with_reducible exact HR654.out) | (with_reducible refine Kd.C_alloc ?_ _) | (with_reducible refine Kd.C_drewN ?_ _) | (with_reducible refine Kd.C_drew ?_) | exact HR654.out)) hb); have n9 := Az (Kd.C_below (by repeat (first | (with_reducible exact HR661.out) | (with_reducible refine Kd.C_alloc ?_ _) | (with_reducible refine Kd.C_drewN ?_ _) | (with_reducible refine Kd.C_drew ?_) | exact HR661.out)) hb); have n10 := Az (below_step (bU1 HB.out GE637.out) hb); clear HO_4 HO_7 HO_9 HO_Z0 HO_Z1 HO664 BK637 HR654 HR661 HB; have HO_4 := n0; have HO_7 := n1; have HO_9 := n2; have HO_Z0 := n3; have HO_Z1 := n4; have HO664 := n5; have HO667 := n6; have BK637 := n7; have HR654 := n8; have HR661 := n9; have HB := n10; clear n0 n1 n2 n3 n4 n5 n6 n7 n8 n9 n10; (try clear hb); (try clear hb2); (try clear hk); (try clear hi); (try clear ho0); obtain ⟨Ao46, co46, eo46⟩ := Kd.R_slice HO667.out; subst eo46; have p669 : 0 ≤ (0 : Int) := (by omega); have q669 : 0 < (t665.length : Int) := oA; obtain ⟨ad669, e669, hx669_0⟩ := Kd.at_int (Kd.R_reads' HO667.out).2.2 0 p669 q669; cases e669; have qi669 : (0 < t665.length) = True := eq_true (by omega); (try rw [show ((0 : Int)).toNat = 0 from rfl] at hx669_0); (try rw [Addr.add_zero'] at hx669_0); replace p669 := eq_true p669; replace q669 := eq_true q669))
                 (first | go_roundg k2 | (refine Handed.intro k2 ?measure ?_; rotate_left; go_step; (try simp only [add_plain]); (repeat apply Exists.intro); refine ⟨?rel, rfl⟩))
                 case measure => have := HJ5.out; have := HK2.out; omega
                 case rel => exact ⟨(ji28), (by first | rfl | (simp; done) | (simp only [← hji28] <;> (first | rfl | simp)) | (simp [*]; done)), H', ⟨by have := HJ5.out; have := HK2.out; omega⟩, ⟨by (with_reducible repeat (first | apply Kd.R_alloc | apply Kd.R_drewN | apply Kd.R_drew)); exact Kd.R_mono HO_4.out (fun _ hk => ⟨hk.1.1.1, ⟨hk.1.1.2.1, ⟨hk.1.1.2.2.1, hk.1.1.2.2.2⟩⟩⟩)⟩, ⟨by (with_reducible repeat (first | apply Kd.R_alloc | apply Kd.R_drewN | apply Kd.R_drew)); exact Kd.R_mono HO_7.out (fun _ hk => ⟨hk.1.1.1, ⟨hk.1.1.2.1, ⟨hk.1.1.2.2.1, hk.1.1.2.2.2⟩⟩⟩)⟩, ⟨by (with_reducible repeat (first | apply Kd.R_alloc | apply Kd.R_drewN | apply Kd.R_drew)); exact Kd.R_mono HO_9.out (fun _ hk => ⟨hk.1.1.1, ⟨hk.1.1.2.1, ⟨hk.1.1.2.2.1, hk.1.1.2.2.2⟩⟩⟩)⟩, ⟨by (with_reducible repeat (first | apply Kd.Q_alloc | apply Kd.Q_drewN | apply Kd.Q_drew)); exact Kd.Q_mono HO_Z0.out (fun _ hk => ⟨hk.1.1.1, ⟨hk.1.1.2.1, ⟨hk.1.1.2.2.1, hk.1.1.2.2.2⟩⟩⟩)⟩, ⟨by (with_reducible repeat (first | apply Kd.R_alloc | apply Kd.R_drewN | apply Kd.R_drew)); exact Kd.R_mono HO_Z1.out (fun _ hk => ⟨hk.1.1.1, ⟨hk.1.1.2.1, ⟨hk.1.1.2.2.1, hk.1.1.2.2.2⟩⟩⟩)⟩, ⟨kU BK637.out⟩, ⟨bU1 HB.out GE637.out⟩⟩
                ·
                 rw [if_neg c35] at H; have c35b0 : ((rd t665 0) == 2) = false := beq_eq_false_iff_ne.mpr c35; have c35b1 : ((rd t665 0) != 2) = true := bne_iff_ne.mpr c35; obtain rfl := Option.some.inj H
                 try go_wp2
                 have n0 := Az (Kd.R_drew HO_4.out); have n1 := Az (Kd.R_drew HO_7.out); have n2 := Az (Kd.R_drew HO_9.out); have n3 := Az (Kd.Q_drew HO_Z0.out); have n4 := Az (Kd.R_drew HO_Z1.out); have n5 := Az (blk_drew BK637.out); have n6 := Az (below_drew1 HB.out); clear HO_4 HO_7 HO_9 HO_Z0 HO_Z1 BK637 HB; have HO_4 := n0; have HO_7 := n1; have HO_9 := n2; have HO_Z0 := n3; have HO_Z1 := n4; have BK637 := n5; have HB := n6; clear n0 n1 n2 n3 n4 n5 n6; have q48 : (x11_2 : Int) ≤ ((t634.length : Int) : Int) := oA; obtain ⟨i048, hi048, _, hsz48, _⟩ := info_parts info3; have hroom48 : t634.length ≤ co12 := (Kd.R_reads' HO_4.out).2.1; have hC48 : Kd.C (Kd.int .i64) _ Ao12 t634.length t634 := (Kd.R_reads' HO_4.out).2.2; have hcut48 := cut_to (P := Try.prog) 23 3 .i64 Try.underlying23 hi048 Ao12 t634.length co12 x11_2 (oA) q48 hroom48; have hr48 := Kd.C_take (m := (x11_2 : Int).toNat) hC48 (by omega); have hy48 : y651.length = (x11_2 : Int).toNat := (by rw [Ny651.out, List.length_take]; omega); rw [← Ny651.out] at hr48; rw [← hy48] at hcut48; have HR654 := Az hr48; have HC654 := Az (show y651.length ≤ co12 from by omega); clear hr48 hC48 hroom48 hi048 hsz48; have KY48 := Az hy48; clear hy48; have KL48 := Az (show (x11_2 : Int).toNat ≤ t634.length from by omega); replace q48 := eq_true q48; have q49 : ((ji28) : Int) ≤ ((t634.length : Int) : Int) := oA; obtain ⟨i049, hi049, _, hsz49, _⟩ := info_parts info3; have hroom49 : t634.length ≤ co12 := (Kd.R_reads' HO_4.out).2.1; have hC49 : Kd.C (Kd.int .i64) _ Ao12 t634.length t634 := (Kd.R_reads' HO_4.out).2.2; have q049 : (0 : Int) ≤ ((ji28) : Int) := oA; have hcut49 := cut_from (P := Try.prog) 23 3 .i64 Try.underlying23 hi049 1 hsz49 Ao12 t634.length co12 (ji28) q049 q49; have hr49 := Kd.C_drop (m := ((ji28) : Int).toNat) (c := co12) hC49 (by omega) hroom49; obtain ⟨A49, hA49⟩ : ∃ A1, A1 = (if co12 = ((ji28) : Int).toNat then Ao12 else (Ao12 : Option Addr).map (·.add (((ji28) : Int).toNat * 1))) := ⟨_, rfl⟩; obtain ⟨c49, hc49⟩ : ∃ c1, c1 = co12 - ((ji28) : Int).toNat := ⟨_, rfl⟩; have hy49 : y658.length = t634.length - ((ji28) : Int).toNat := (by rw [Ny658.out, List.length_drop] <;> omega); rw [show (t634).drop ((ji28) : Int).toNat = y658 from Ny658.out.symm] at hr49; replace hr49 : Kd.C (Kd.int .i64) _ A49 y658.length y658 := (by rw [hA49]; exact hr49); rw [← hy49, ← hA49, ← hc49] at hcut49; have HR661 := Az hr49; have HC661 := Az (show y658.length ≤ c49 from by rw [hy49, hc49]; exact Nat.sub_le_sub_right hroom49 _); clear hr49 hC49 hroom49 hi049 hsz49 hc49; have KY49 := Az hy49; have KA49 := Az hA49; clear hy49 hA49; have KL49 := Az (show ((ji28) : Int).toNat ≤ t634.length from by omega); replace q49 := eq_true q49
                 refine start_ (n := 11) (S := fun w' => True) (ds := []) #[false, false, false, false, false, false, false, false, false, false, false] (by kernel_rfl) rfl rfl trivial (fun hHeld => ?_); refine with_tabW laws_FnChoiceTree.tab13 laws_FnChoiceTree.bits13 (fun HT_ HW_ => ?_)
                 generalize wr.drew = w47 at HO_4 HO_7 HO_9 HO_Z0 HO_Z1 BK637 HB HR654 HR661 hHeld ⊢
                 refine pure_ (i := 1) (N := some 57) (v := ?_) (a' := ?_) #[false, true, false, false, false, false, false, false, false, false, false] rfl rfl (any_of HT_.out (by kernel_rfl)) (fun _ _ _ h => h) (Or.inl ⟨by rfl, ?_⟩) ?_ ?_
                 rotate_left
                 ·
                  intro w'
                  go_simp
                  with_reducible rfl
                 rotate_left
                 ·
                  simp only [Act.put, List.setIfInBounds_toArray, List.set_cons_zero, List.set_cons_succ, i64_w, i32_w]
                  rfl
                 refine pure_ (i := 2) (N := some 58) (v := ?_) (a' := ?_) #[false, true, true, false, false, false, false, false, false, false, false] rfl rfl (any_of HT_.out (by kernel_rfl)) (fun _ _ _ h => h) (Or.inl ⟨by rfl, ?_⟩) ?_ ?_
                 rotate_left
                 ·
                  intro w'
                  go_simp
                  with_reducible rfl
                 rotate_left
                 ·
                  simp only [Act.put, List.setIfInBounds_toArray, List.set_cons_zero, List.set_cons_succ, i64_w, i32_w]
                  rfl
                 refine pure_ (i := 3) (N := some 59) (v := ?_) (a' := ?_) #[false, true, true, true, false, false, false, false, false, false, false] rfl rfl (any_of HT_.out (by kernel_rfl)) (fun _ _ _ h => h) (Or.inl ⟨by rfl, ?_⟩) ?_ ?_
                 rotate_left
                 ·
                  intro w'
                  go_simp
                  with_reducible rfl
                 rotate_left
                 ·
                  simp only [Act.put, List.setIfInBounds_toArray, List.set_cons_zero, List.set_cons_succ, i64_w, i32_w]
                  rfl
                 refine pure_ (i := 5) (N := some 61) (v := ?_) (a' := ?_) #[false, true, true, true, false, true, false, false, false, false, false] rfl rfl (any_of HT_.out (by kernel_rfl)) (fun _ _ _ h => h) (Or.inl ⟨by rfl, ?_⟩) ?_ ?_
                 rotate_left
                 ·
                  intro w'
                  go_simp
                  with_reducible rfl
                 rotate_left
                 ·
                  simp only [Act.put, List.setIfInBounds_toArray, List.set_cons_zero, List.set_cons_succ, i64_w, i32_w]
                  rfl
                 refine pure_ (i := 6) (N := some 62) (v := ?_) (a' := ?_) #[false, true, true, true, false, true, true, false, false, false, false] rfl rfl (any_of HT_.out (by kernel_rfl)) (fun _ _ _ h => h) (Or.inl ⟨by rfl, ?_⟩) ?_ ?_
                 rotate_left
                 ·
                  intro w'
                  go_simp
                  with_reducible rfl
                 rotate_left
                 ·
                  simp only [Act.put, List.setIfInBounds_toArray, List.set_cons_zero, List.set_cons_succ, i64_w, i32_w]
                  rfl
                 refine pure_ (i := 7) (N := some 63) (v := ?_) (a' := ?_) #[false, true, true, true, false, true, true, true, false, false, false] rfl rfl (any_of HT_.out (by kernel_rfl)) (fun _ _ _ h => h) (Or.inl ⟨by rfl, ?_⟩) ?_ ?_
                 rotate_left
                 ·
                  intro w'
                  go_simp
                  with_reducible rfl
                 rotate_left
                 ·
                  simp only [Act.put, List.setIfInBounds_toArray, List.set_cons_zero, List.set_cons_succ, i64_w, i32_w]
                  rfl
                 refine pure_ (i := 8) (N := some 64) (v := ?_) (a' := ?_) #[false, true, true, true, false, true, true, true, true, false, false] rfl rfl (any_of HT_.out (by kernel_rfl)) (fun _ _ _ h => h) (Or.inl ⟨by rfl, ?_⟩) ?_ ?_
                 rotate_left
                 ·
                  intro w'
                  go_simp
                  with_reducible rfl
                 rotate_left
                 ·
                  simp only [Act.put, List.setIfInBounds_toArray, List.set_cons_zero, List.set_cons_succ, i64_w, i32_w]
                  rfl
                 refine one_ (i := 0) (N := some 56) #[true, true, true, true, false, true, true, true, true, false, false] rfl rfl (one_of HT_.out (by kernel_rfl)) (by decide) (fun K hK => ?_)
                 refine Kd.R_lit_step (Kd.int .i64) _ 3 ?hg (N := 56) ?hd (xs := ([] : List Int)) (inner := []) (ok := fun _ => True) (okp := fun _ => True) ?hr ?hp (fun _ hk => hk) trivial (Below.refl _ _) (Nat.le_refl _) (by simp) ?_; (case hd => rfl); (case hg => rfl); (case hr => first | (go_simp; done) | (go_simp; rfl)); (case hp => exact (Reps.none _ _))
                 intro v649 w50 ho51 hb hg_ hnew_
                 clear hg_ hnew_; (first | rw [← Ny648.out] at ho51 | (simp only [Int.reduceToNat] at ho51; rw [← Ny648.out] at ho51)); have n0 := Az (Kd.R_elder' (rU HO_4.out) (Kd.R_base ho51) hb); have n1 := Az (Kd.R_elder' (rU HO_7.out) (Kd.R_base ho51) hb); have n2 := Az (Kd.R_elder' (rU HO_9.out) (Kd.R_base ho51) hb); have n3 := Az (Kd.Q_elder' (qU HO_Z0.out) (Kd.R_base ho51) hb); have n4 := Az (Kd.R_elder' (rU HO_Z1.out) (Kd.R_base ho51) hb); have n5 := Az (Kd.R_lower (Kd.R_new' (Kd.R_new' (Kd.R_new' (Kd.R_new' (Kd.R_new' ho51 (Kd.R_lt (rU HO_4.out))) (Kd.R_lt (rU HO_7.out))) (Kd.R_lt (rU HO_9.out))) (Kd.Q_lt (qU HO_Z0.out))) (Kd.R_lt (rU HO_Z1.out))) (below_size (bU1 HB.out GE637.out))); have n6 := Az (blk_below (g := gb637) (o := .cells #[.slice Ao9 t628.length co9, .slice Ao11 t631.length co11] 25 (0, 0)) (kU BK637.out) hb); have n7 := Az (Kd.C_below (by repeat (first | (with_reducible exact HR654.out) | (with_reducible refine Kd.C_alloc ?_ _) | (with_reducible refine Kd.C_drewN ?_ _) | (with_reducible refine Kd.C_drew ?_) | exact HR654.out)) hb); have n8 := Az (Kd.C_below (by repeat (first | (with_reducible exact HR661.out) | (with_reducible refine Kd.C_alloc ?_ _) | (with_reducible refine Kd.C_drewN ?_ _) | (with_reducible refine Kd.C_drew ?_) | exact HR661.out)) hb); have n9 := Az (below_step (bU1 HB.out GE637.out) hb); clear HO_4 HO_7 HO_9 HO_Z0 HO_Z1 BK637 HR654 HR661 HB; have HO_4 := n0; have HO_7 := n1; have HO_9 := n2; have HO_Z0 := n3; have HO_Z1 := n4; have HO650 := n5; have BK637 := n6; have HR654 := n7; have HR661 := n8; have HB := n9; clear n0 n1 n2 n3 n4 n5 n6 n7 n8 n9 hb ho51
                 refine hK.out _ _ trivial (fun hHeld => ?_)
                 clear hK K
                 refine norm_ (a' := ?_) ?_ ?_
                 rotate_left
                 ·
                  show Act.put _ (some 56) _ = _
                  simp only [Act.put, List.setIfInBounds_toArray, List.set_cons_zero, List.set_cons_succ, i64_w, i32_w]
                  rfl
                 refine one_ (i := 4) (N := some 60) #[true, true, true, true, true, true, true, true, true, false, false] rfl rfl (one_of HT_.out (by kernel_rfl)) (by decide) (fun K hK => ?_)
                 refine Kd.R_append_rows_step (Kd.int .i64) (w0 := w) w.heap.size (by rfl) (.tmp 56) (.tmp 59) 23 3 (.int .i64 0) 8 rfl Try.underlying23 info3 rfl (by decide) (by omega) v649 y648 y651 _ _ _ (fun k_ => some k_ ≠ (.slice Ao12 t634.length co12 : Value).ownBlock ∧ some k_ ≠ (v641 : Value).ownBlock ∧ some k_ ≠ (v645 : Value).ownBlock ∧ some k_ ≠ (.slice Ao9 t628.length co9 : Value).ownBlock ∧ some k_ ≠ (.slice Ao11 t631.length co11 : Value).ownBlock) (fun _ => False) rfl rfl ?aO ?aR (fun _ _ h => h) (fun _ h => h.elim) ?aF ?aB ?aS ?aL ?_
                 (case aR => exact cU (by repeat (first | (with_reducible exact HR654.out) | (with_reducible refine Kd.C_alloc ?_ _) | (with_reducible refine Kd.C_drewN ?_ _) | (with_reducible refine Kd.C_drew ?_) | exact HR654.out)))
                 (case aB => exact (bU1 HB.out GE637.out))
                 (case aF => exact (fun k_ hk => ⟨Kd.fresh' (Kd.R_lt (rU HO_4.out)) k_ hk, Kd.fresh' (Kd.R_lt (rU HO_7.out)) k_ hk, Kd.fresh' (Kd.R_lt (rU HO_9.out)) k_ hk, Kd.fresh' (Kd.Q_lt (qU HO_Z0.out)) k_ hk, Kd.fresh' (Kd.R_lt (rU HO_Z1.out)) k_ hk⟩))
                 (case aO => exact (by (with_reducible repeat (first | apply Kd.R_alloc | apply Kd.R_drewN | apply Kd.R_drew)); exact Kd.R_mono HO650.out (fun _ hk => ⟨hk.1.1.1.1.2, ⟨hk.1.1.1.2, ⟨hk.1.1.2, ⟨hk.1.2, hk.2⟩⟩⟩⟩)))
                 (case aS => exact (below_size (bU1 HB.out GE637.out)))
                 (case aL => have := LMc27.out; omega)
                 intro v656 w52 ho hb hg hat
                 rw [← Ny655.out] at ho; have n0 := Az (Kd.R_after (ok := (fun k_ => some k_ ≠ (v641 : Value).ownBlock ∧ some k_ ≠ (v645 : Value).ownBlock ∧ some k_ ≠ (.slice Ao9 t628.length co9 : Value).ownBlock ∧ some k_ ≠ (.slice Ao11 t631.length co11 : Value).ownBlock)) (rU HO_4.out) hg hat); have n1 := Az (Kd.R_after (ok := (fun k_ => some k_ ≠ (.slice Ao12 t634.length co12 : Value).ownBlock ∧ some k_ ≠ (v645 : Value).ownBlock ∧ some k_ ≠ (.slice Ao9 t628.length co9 : Value).ownBlock ∧ some k_ ≠ (.slice Ao11 t631.length co11 : Value).ownBlock)) (rU HO_7.out) hg hat); have n2 := Az (Kd.R_after (ok := (fun k_ => some k_ ≠ (.slice Ao12 t634.length co12 : Value).ownBlock ∧ some k_ ≠ (v641 : Value).ownBlock ∧ some k_ ≠ (.slice Ao9 t628.length co9 : Value).ownBlock ∧ some k_ ≠ (.slice Ao11 t631.length co11 : Value).ownBlock)) (rU HO_9.out) hg hat); have n3 := Az (Kd.Q_after (ok := (fun k_ => some k_ ≠ (.slice Ao12 t634.length co12 : Value).ownBlock ∧ some k_ ≠ (v641 : Value).ownBlock ∧ some k_ ≠ (v645 : Value).ownBlock ∧ some k_ ≠ (.slice Ao11 t631.length co11 : Value).ownBlock)) (qU HO_Z0.out) hg hat); have n4 := Az (Kd.R_after (ok := (fun k_ => some k_ ≠ (.slice Ao12 t634.length co12 : Value).ownBlock ∧ some k_ ≠ (v641 : Value).ownBlock ∧ some k_ ≠ (v645 : Value).ownBlock ∧ some k_ ≠ (.slice Ao9 t628.length co9 : Value).ownBlock)) (rU HO_Z1.out) hg hat); have n5 := Az (blk_grown (g := gb637) (o := .cells #[.slice Ao9 t628.length co9, .slice Ao11 t631.length co11] 25 (0, 0)) (kU BK637.out) hg (Kd.R_ne HO650.out BK637.out (by decide))); have n6 := Az (hb); have n7 := Az ((show Kd.C (Kd.int .i64) w52 Ao12 y651.length y651 from by rw [Ny651.out]; exact Kd.C_take (m := (x11_2 : Int).toNat) ((Kd.R_reads' (Kd.R_after (ok := (fun k_ => some k_ ≠ (v641 : Value).ownBlock ∧ some k_ ≠ (v645 : Value).ownBlock ∧ some k_ ≠ (.slice Ao9 t628.length co9 : Value).ownBlock ∧ some k_ ≠ (.slice Ao11 t631.length co11 : Value).ownBlock)) (rU HO_4.out) hg hat)).2.2) KL48.out)); have n8 := Az ((show Kd.C (Kd.int .i64) w52 A49 y658.length y658 from by rw [Ny658.out, KA49.out]; exact Kd.C_drop (m := ((ji28) : Int).toNat) (c := co12) ((Kd.R_reads' (Kd.R_after (ok := (fun k_ => some k_ ≠ (v641 : Value).ownBlock ∧ some k_ ≠ (v645 : Value).ownBlock ∧ some k_ ≠ (.slice Ao9 t628.length co9 : Value).ownBlock ∧ some k_ ≠ (.slice Ao11 t631.length co11 : Value).ownBlock)) (rU HO_4.out) hg hat)).2.2) KL49.out ((Kd.R_reads' (Kd.R_after (ok := (fun k_ => some k_ ≠ (v641 : Value).ownBlock ∧ some k_ ≠ (v645 : Value).ownBlock ∧ some k_ ≠ (.slice Ao9 t628.length co9 : Value).ownBlock ∧ some k_ ≠ (.slice Ao11 t631.length co11 : Value).ownBlock)) (rU HO_4.out) hg hat)).2.1))); have n9 := Az (ho); clear HO_4 HO_7 HO_9 HO_Z0 HO_Z1 BK637 HB HR654 HR661 HO650; have HO_4 := n0; have HO_7 := n1; have HO_9 := n2; have HO_Z0 := n3; have HO_Z1 := n4; have BK637 := n5; have HB := n6; have HR654 := n7; have HR661 := n8; have HO657 := n9; clear n0 n1 n2 n3 n4 n5 n6 n7 n8 n9 ho hb hg hat
                 refine hK.out _ _ trivial (fun hHeld => ?_)
                 clear hK K
                 refine norm_ (a' := ?_) ?_ ?_
                 rotate_left
                 ·
                  show Act.put _ (some 60) _ = _
                  simp only [Act.put, List.setIfInBounds_toArray, List.set_cons_zero, List.set_cons_succ, i64_w, i32_w]
                  rfl
                 refine one_ (i := 9) (N := some 65) #[true, true, true, true, true, true, true, true, true, true, false] rfl rfl (one_of HT_.out (by kernel_rfl)) (by decide) (fun K hK => ?_)
                 refine Kd.R_append_rows_step (Kd.int .i64) (w0 := w) w.heap.size (by rfl) (.tmp 60) (.tmp 64) 23 3 (.int .i64 0) 8 rfl Try.underlying23 info3 rfl (by decide) (by omega) v656 y655 y658 _ _ _ (fun k_ => some k_ ≠ (.slice Ao12 t634.length co12 : Value).ownBlock ∧ some k_ ≠ (v641 : Value).ownBlock ∧ some k_ ≠ (v645 : Value).ownBlock ∧ some k_ ≠ (.slice Ao9 t628.length co9 : Value).ownBlock ∧ some k_ ≠ (.slice Ao11 t631.length co11 : Value).ownBlock) (fun _ => False) rfl rfl ?aO ?aR (fun _ _ h => h) (fun _ h => h.elim) ?aF ?aB ?aS ?aL ?_
                 (case aR => exact cU (by repeat (first | (with_reducible exact HR661.out) | (with_reducible refine Kd.C_alloc ?_ _) | (with_reducible refine Kd.C_drewN ?_ _) | (with_reducible refine Kd.C_drew ?_) | exact HR661.out)))
                 (case aB => exact (bU1 HB.out GE637.out))
                 (case aF => exact (fun k_ hk => ⟨Kd.fresh' (Kd.R_lt (rU HO_4.out)) k_ hk, Kd.fresh' (Kd.R_lt (rU HO_7.out)) k_ hk, Kd.fresh' (Kd.R_lt (rU HO_9.out)) k_ hk, Kd.fresh' (Kd.Q_lt (qU HO_Z0.out)) k_ hk, Kd.fresh' (Kd.R_lt (rU HO_Z1.out)) k_ hk⟩))
                 (case aO => exact (rU HO657.out))
                 (case aS => exact (below_size (bU1 HB.out GE637.out)))
                 (case aL => have := LMc31.out; omega)
                 intro v663 w53 ho hb hg hat
                 rw [← Ny662.out] at ho; have n0 := Az (Kd.R_after (ok := (fun k_ => some k_ ≠ (v641 : Value).ownBlock ∧ some k_ ≠ (v645 : Value).ownBlock ∧ some k_ ≠ (.slice Ao9 t628.length co9 : Value).ownBlock ∧ some k_ ≠ (.slice Ao11 t631.length co11 : Value).ownBlock)) (rU HO_4.out) hg hat); have n1 := Az (Kd.R_after (ok := (fun k_ => some k_ ≠ (.slice Ao12 t634.length co12 : Value).ownBlock ∧ some k_ ≠ (v645 : Value).ownBlock ∧ some k_ ≠ (.slice Ao9 t628.length co9 : Value).ownBlock ∧ some k_ ≠ (.slice Ao11 t631.length co11 : Value).ownBlock)) (rU HO_7.out) hg hat); have n2 := Az (Kd.R_after (ok := (fun k_ => some k_ ≠ (.slice Ao12 t634.length co12 : Value).ownBlock ∧ some k_ ≠ (v641 : Value).ownBlock ∧ some k_ ≠ (.slice Ao9 t628.length co9 : Value).ownBlock ∧ some k_ ≠ (.slice Ao11 t631.length co11 : Value).ownBlock)) (rU HO_9.out) hg hat); have n3 := Az (Kd.Q_after (ok := (fun k_ => some k_ ≠ (.slice Ao12 t634.length co12 : Value).ownBlock ∧ some k_ ≠ (v641 : Value).ownBlock ∧ some k_ ≠ (v645 : Value).ownBlock ∧ some k_ ≠ (.slice Ao11 t631.length co11 : Value).ownBlock)) (qU HO_Z0.out) hg hat); have n4 := Az (Kd.R_after (ok := (fun k_ => some k_ ≠ (.slice Ao12 t634.length co12 : Value).ownBlock ∧ some k_ ≠ (v641 : Value).ownBlock ∧ some k_ ≠ (v645 : Value).ownBlock ∧ some k_ ≠ (.slice Ao9 t628.length co9 : Value).ownBlock)) (rU HO_Z1.out) hg hat); have n5 := Az (blk_grown (g := gb637) (o := .cells #[.slice Ao9 t628.length co9, .slice Ao11 t631.length co11] 25 (0, 0)) (kU BK637.out) hg (Kd.R_ne HO657.out BK637.out (by decide))); have n6 := Az (hb); have n7 := Az ((show Kd.C (Kd.int .i64) w53 Ao12 y651.length y651 from by rw [Ny651.out]; exact Kd.C_take (m := (x11_2 : Int).toNat) ((Kd.R_reads' (Kd.R_after (ok := (fun k_ => some k_ ≠ (v641 : Value).ownBlock ∧ some k_ ≠ (v645 : Value).ownBlock ∧ some k_ ≠ (.slice Ao9 t628.length co9 : Value).ownBlock ∧ some k_ ≠ (.slice Ao11 t631.length co11 : Value).ownBlock)) (rU HO_4.out) hg hat)).2.2) KL48.out)); have n8 := Az ((show Kd.C (Kd.int .i64) w53 A49 y658.length y658 from by rw [Ny658.out, KA49.out]; exact Kd.C_drop (m := ((ji28) : Int).toNat) (c := co12) ((Kd.R_reads' (Kd.R_after (ok := (fun k_ => some k_ ≠ (v641 : Value).ownBlock ∧ some k_ ≠ (v645 : Value).ownBlock ∧ some k_ ≠ (.slice Ao9 t628.length co9 : Value).ownBlock ∧ some k_ ≠ (.slice Ao11 t631.length co11 : Value).ownBlock)) (rU HO_4.out) hg hat)).2.2) KL49.out ((Kd.R_reads' (Kd.R_after (ok := (fun k_ => some k_ ≠ (v641 : Value).ownBlock ∧ some k_ ≠ (v645 : Value).ownBlock ∧ some k_ ≠ (.slice Ao9 t628.length co9 : Value).ownBlock ∧ some k_ ≠ (.slice Ao11 t631.length co11 : Value).ownBlock)) (rU HO_4.out) hg hat)).2.1))); have n9 := Az (ho); clear HO_4 HO_7 HO_9 HO_Z0 HO_Z1 BK637 HB HR654 HR661 HO657; have HO_4 := n0; have HO_7 := n1; have HO_9 := n2; have HO_Z0 := n3; have HO_Z1 := n4; have BK637 := n5; have HB := n6; have HR654 := n7; have HR661 := n8; have HO664 := n9; clear n0 n1 n2 n3 n4 n5 n6 n7 n8 n9 ho hb hg hat
                 refine hK.out _ _ trivial (fun hHeld => ?_)
                 clear hK K
                 refine norm_ (a' := ?_) ?_ ?_
                 rotate_left
                 ·
                  show Act.put _ (some 65) _ = _
                  simp only [Act.put, List.setIfInBounds_toArray, List.set_cons_zero, List.set_cons_succ, i64_w, i32_w]
                  rfl
                 refine pure_ (i := 10) (N := some 12) (v := ?_) (a' := ?_) #[true, true, true, true, true, true, true, true, true, true, true] rfl rfl (any_of HT_.out (by kernel_rfl)) (fun _ _ _ h => h) (Or.inl ⟨by rfl, ?_⟩) ?_ ?_
                 rotate_left
                 ·
                  intro w'
                  go_simp
                  with_reducible rfl
                 rotate_left
                 ·
                  simp only [Act.put, List.setIfInBounds_toArray, List.set_cons_zero, List.set_cons_succ, i64_w, i32_w]
                  rfl
                 refine done_ (done_of HT_.out (by kernel_rfl)) ?_
                 have hcz54_0 : w53.cell? ⟨gb637, 0, none⟩ = some (.slice Ao9 t628.length co9) := (blk_cell BK637.out 0).trans rfl; have hcz54_1 : w53.cell? ⟨gb637, 1, none⟩ = some (.slice Ao11 t631.length co11) := (blk_cell BK637.out 1).trans rfl; have hfz54_0 := blk_frozen BK637.out 0; have hfz54_1 := blk_frozen BK637.out 1; obtain ⟨Ao55, co55, eo55⟩ := Kd.R_slice HO664.out; subst eo55
                 try go_wp2_with (first | ((with_reducible refine gate_callee (f := 20) rfl ?_); refine goesL_ (some 69) rfl rfl Try.func20 (by kernel_rfl) rfl #[.agg #[.slice Ao9 t628.length co9, .slice Ao11 t631.length co11], .slice Ao55 y662.length co55] rfl (by (try simp only [List.map_toArray, List.map_cons, List.map_nil]); first | done | rfl | (simp only [List.length_drop, List.length_take]; rfl)) ?_; (with_reducible refine (impl_ChoiceCounts.calls k2 _ _ t628 _ _ t631 _ _ y662 t665 true _ ?side1 ?side2 ?side3 ?side4 ?side5 ?side6 A32.out).mono ?_); (case side1 => exact cU ((Kd.Q_reads' HO_Z0.out).2.2)); (case side2 => exact (Kd.Q_reads' HO_Z0.out).2.1); (case side3 => exact cU ((Kd.R_reads' HO_Z1.out).2.2)); (case side4 => exact (Kd.R_reads' HO_Z1.out).2.1); (case side5 => exact cU ((Kd.R_reads' HO664.out).2.2)); (case side6 => exact (Kd.R_reads' HO664.out).2.1); rintro e w56 ⟨v666, rfl, ho0, hb⟩; refine ⟨_, rfl, ?_⟩; have n0 := Az (Kd.R_elder' (rU HO_4.out) (Kd.R_base ho0) hb); have n1 := Az (Kd.R_elder' (rU HO_7.out) (Kd.R_base ho0) hb); have n2 := Az (Kd.R_elder' (rU HO_9.out) (Kd.R_base ho0) hb); have n3 := Az (Kd.Q_elder' (qU HO_Z0.out) (Kd.R_base ho0) hb); have n4 := Az (Kd.R_elder' (rU HO_Z1.out) (Kd.R_base ho0) hb); have n5 := Az (Kd.R_elder' (rU HO664.out) (Kd.R_base ho0) hb); have n6 := Az (Kd.R_lower (Kd.R_new' (Kd.R_new' (Kd.R_new' (Kd.R_new' (Kd.R_new' (Kd.R_new' ho0 (Kd.R_lt (rU HO_4.out))) (Kd.R_lt (rU HO_7.out))) (Kd.R_lt (rU HO_9.out))) (Kd.Q_lt (qU HO_Z0.out))) (Kd.R_lt (rU HO_Z1.out))) (Kd.R_lt (rU HO664.out))) (below_size (bU1 HB.out GE637.out))); have n7 := Az (blk_below (g := gb637) (o := .cells #[.slice Ao9 t628.length co9, .slice Ao11 t631.length co11] 25 (0, 0)) (kU BK637.out) hb); have n8 := Az (Kd.C_below (by repeat (first | (with_reducible exact HR654.out) | (with_reducible refine Kd.C_alloc ?_ _) | (with_reducible refine Kd.C_drewN ?_ _) | (with_reducible refine Kd.C_drew ?_) | exact HR654.out)) hb); have n9 := Az (Kd.C_below (by repeat (first | (with_reducible exact HR661.out) | (with_reducible refine Kd.C_alloc ?_ _) | (with_reducible refine Kd.C_drewN ?_ _) | (with_reducible refine Kd.C_drew ?_) | exact HR661.out)) hb); have n10 := Az (below_step (bU1 HB.out GE637.out) hb); clear HO_4 HO_7 HO_9 HO_Z0 HO_Z1 HO664 BK637 HR654 HR661 HB; have HO_4 := n0; have HO_7 := n1; have HO_9 := n2; have HO_Z0 := n3; have HO_Z1 := n4; have HO664 := n5; have HO667 := n6; have BK637 := n7; have HR654 := n8; have HR661 := n9; have HB := n10; clear n0 n1 n2 n3 n4 n5 n6 n7 n8 n9 n10; (try clear hb); (try clear hb2); (try clear hk); (try clear hi); (try clear ho0); obtain ⟨Ao57, co57, eo57⟩ := Kd.R_slice HO667.out; subst eo57; have p669 : 0 ≤ (0 : Int) := (by omega); have q669 : 0 < (t665.length : Int) := oA; obtain ⟨ad669, e669, hx669_0⟩ := Kd.at_int (Kd.R_reads' HO667.out).2.2 0 p669 q669; cases e669; have qi669 : (0 < t665.length) = True := eq_true (by omega); (try rw [show ((0 : Int)).toNat = 0 from rfl] at hx669_0); (try rw [Addr.add_zero'] at hx669_0); replace p669 := eq_true p669; replace q669 := eq_true q669))
                 go_ret
                 exact ⟨by first | rfl | (simp [errW_none, errW_some] <;> rfl) | (simp only [← hji28]; first | rfl | (simp [errW_none, errW_some] <;> rfl)) | (simp [*, errW_none, errW_some] <;> rfl), bU1 HB.out GE637.out⟩
               ·
                rw [if_neg c34] at H
                exact absurd H (by simp)
              ·
               replace c33 := Bool.eq_false_iff.mpr c33; subst c33
               have H1 : (some false) = some r := by rw [if_neg (show ¬ (false = true) by decide)] at H; exact H
               clear H; have H := H1; clear H1; obtain rfl := Option.some.inj H
               try go_wp2
               have n0 := Az (Kd.R_drew HO_4.out); have n1 := Az (Kd.R_drew HO_7.out); have n2 := Az (Kd.R_drew HO_9.out); have n3 := Az (Kd.Q_drew HO_Z0.out); have n4 := Az (Kd.R_drew HO_Z1.out); have n5 := Az (blk_drew BK637.out); have n6 := Az (below_drew1 HB.out); clear HO_4 HO_7 HO_9 HO_Z0 HO_Z1 BK637 HB; have HO_4 := n0; have HO_7 := n1; have HO_9 := n2; have HO_Z0 := n3; have HO_Z1 := n4; have BK637 := n5; have HB := n6; clear n0 n1 n2 n3 n4 n5 n6; have q59 : (x11_2 : Int) ≤ ((t634.length : Int) : Int) := oA; obtain ⟨i059, hi059, _, hsz59, _⟩ := info_parts info3; have hroom59 : t634.length ≤ co12 := (Kd.R_reads' HO_4.out).2.1; have hC59 : Kd.C (Kd.int .i64) _ Ao12 t634.length t634 := (Kd.R_reads' HO_4.out).2.2; have hcut59 := cut_to (P := Try.prog) 23 3 .i64 Try.underlying23 hi059 Ao12 t634.length co12 x11_2 (oA) q59 hroom59; have hr59 := Kd.C_take (m := (x11_2 : Int).toNat) hC59 (by omega); have hy59 : y651.length = (x11_2 : Int).toNat := (by rw [Ny651.out, List.length_take]; omega); rw [← Ny651.out] at hr59; rw [← hy59] at hcut59; have HR654 := Az hr59; have HC654 := Az (show y651.length ≤ co12 from by omega); clear hr59 hC59 hroom59 hi059 hsz59; have KY59 := Az hy59; clear hy59; have KL59 := Az (show (x11_2 : Int).toNat ≤ t634.length from by omega); replace q59 := eq_true q59; have q60 : ((ji28) : Int) ≤ ((t634.length : Int) : Int) := oA; obtain ⟨i060, hi060, _, hsz60, _⟩ := info_parts info3; have hroom60 : t634.length ≤ co12 := (Kd.R_reads' HO_4.out).2.1; have hC60 : Kd.C (Kd.int .i64) _ Ao12 t634.length t634 := (Kd.R_reads' HO_4.out).2.2; have q060 : (0 : Int) ≤ ((ji28) : Int) := oA; have hcut60 := cut_from (P := Try.prog) 23 3 .i64 Try.underlying23 hi060 1 hsz60 Ao12 t634.length co12 (ji28) q060 q60; have hr60 := Kd.C_drop (m := ((ji28) : Int).toNat) (c := co12) hC60 (by omega) hroom60; obtain ⟨A60, hA60⟩ : ∃ A1, A1 = (if co12 = ((ji28) : Int).toNat then Ao12 else (Ao12 : Option Addr).map (·.add (((ji28) : Int).toNat * 1))) := ⟨_, rfl⟩; obtain ⟨c60, hc60⟩ : ∃ c1, c1 = co12 - ((ji28) : Int).toNat := ⟨_, rfl⟩; have hy60 : y658.length = t634.length - ((ji28) : Int).toNat := (by rw [Ny658.out, List.length_drop] <;> omega); rw [show (t634).drop ((ji28) : Int).toNat = y658 from Ny658.out.symm] at hr60; replace hr60 : Kd.C (Kd.int .i64) _ A60 y658.length y658 := (by rw [hA60]; exact hr60); rw [← hy60, ← hA60, ← hc60] at hcut60; have HR661 := Az hr60; have HC661 := Az (show y658.length ≤ c60 from by rw [hy60, hc60]; exact Nat.sub_le_sub_right hroom60 _); clear hr60 hC60 hroom60 hi060 hsz60 hc60; have KY60 := Az hy60; have KA60 := Az hA60; clear hy60 hA60; have KL60 := Az (show ((ji28) : Int).toNat ≤ t634.length from by omega); replace q60 := eq_true q60
               refine start_ (n := 11) (S := fun w' => True) (ds := []) #[false, false, false, false, false, false, false, false, false, false, false] (by kernel_rfl) rfl rfl trivial (fun hHeld => ?_); refine with_tabW laws_FnChoiceTree.tab13 laws_FnChoiceTree.bits13 (fun HT_ HW_ => ?_)
               generalize wr.drew = w58 at HO_4 HO_7 HO_9 HO_Z0 HO_Z1 BK637 HB HR654 HR661 hHeld ⊢
               refine pure_ (i := 1) (N := some 57) (v := ?_) (a' := ?_) #[false, true, false, false, false, false, false, false, false, false, false] rfl rfl (any_of HT_.out (by kernel_rfl)) (fun _ _ _ h => h) (Or.inl ⟨by rfl, ?_⟩) ?_ ?_
               rotate_left
               ·
                intro w'
                go_simp
                with_reducible rfl
               rotate_left
               ·
                simp only [Act.put, List.setIfInBounds_toArray, List.set_cons_zero, List.set_cons_succ, i64_w, i32_w]
                rfl
               refine pure_ (i := 2) (N := some 58) (v := ?_) (a' := ?_) #[false, true, true, false, false, false, false, false, false, false, false] rfl rfl (any_of HT_.out (by kernel_rfl)) (fun _ _ _ h => h) (Or.inl ⟨by rfl, ?_⟩) ?_ ?_
               rotate_left
               ·
                intro w'
                go_simp
                with_reducible rfl
               rotate_left
               ·
                simp only [Act.put, List.setIfInBounds_toArray, List.set_cons_zero, List.set_cons_succ, i64_w, i32_w]
                rfl
               refine pure_ (i := 3) (N := some 59) (v := ?_) (a' := ?_) #[false, true, true, true, false, false, false, false, false, false, false] rfl rfl (any_of HT_.out (by kernel_rfl)) (fun _ _ _ h => h) (Or.inl ⟨by rfl, ?_⟩) ?_ ?_
               rotate_left
               ·
                intro w'
                go_simp
                with_reducible rfl
               rotate_left
               ·
                simp only [Act.put, List.setIfInBounds_toArray, List.set_cons_zero, List.set_cons_succ, i64_w, i32_w]
                rfl
               refine pure_ (i := 5) (N := some 61) (v := ?_) (a' := ?_) #[false, true, true, true, false, true, false, false, false, false, false] rfl rfl (any_of HT_.out (by kernel_rfl)) (fun _ _ _ h => h) (Or.inl ⟨by rfl, ?_⟩) ?_ ?_
               rotate_left
               ·
                intro w'
                go_simp
                with_reducible rfl
               rotate_left
               ·
                simp only [Act.put, List.setIfInBounds_toArray, List.set_cons_zero, List.set_cons_succ, i64_w, i32_w]
                rfl
               refine pure_ (i := 6) (N := some 62) (v := ?_) (a' := ?_) #[false, true, true, true, false, true, true, false, false, false, false] rfl rfl (any_of HT_.out (by kernel_rfl)) (fun _ _ _ h => h) (Or.inl ⟨by rfl, ?_⟩) ?_ ?_
               rotate_left
               ·
                intro w'
                go_simp
                with_reducible rfl
               rotate_left
               ·
                simp only [Act.put, List.setIfInBounds_toArray, List.set_cons_zero, List.set_cons_succ, i64_w, i32_w]
                rfl
               refine pure_ (i := 7) (N := some 63) (v := ?_) (a' := ?_) #[false, true, true, true, false, true, true, true, false, false, false] rfl rfl (any_of HT_.out (by kernel_rfl)) (fun _ _ _ h => h) (Or.inl ⟨by rfl, ?_⟩) ?_ ?_
               rotate_left
               ·
                intro w'
                go_simp
                with_reducible rfl
               rotate_left
               ·
                simp only [Act.put, List.setIfInBounds_toArray, List.set_cons_zero, List.set_cons_succ, i64_w, i32_w]
                rfl
               refine pure_ (i := 8) (N := some 64) (v := ?_) (a' := ?_) #[false, true, true, true, false, true, true, true, true, false, false] rfl rfl (any_of HT_.out (by kernel_rfl)) (fun _ _ _ h => h) (Or.inl ⟨by rfl, ?_⟩) ?_ ?_
               rotate_left
               ·
                intro w'
                go_simp
                with_reducible rfl
               rotate_left
               ·
                simp only [Act.put, List.setIfInBounds_toArray, List.set_cons_zero, List.set_cons_succ, i64_w, i32_w]
                rfl
               refine one_ (i := 0) (N := some 56) #[true, true, true, true, false, true, true, true, true, false, false] rfl rfl (one_of HT_.out (by kernel_rfl)) (by decide) (fun K hK => ?_)
               refine Kd.R_lit_step (Kd.int .i64) _ 3 ?hg (N := 56) ?hd (xs := ([] : List Int)) (inner := []) (ok := fun _ => True) (okp := fun _ => True) ?hr ?hp (fun _ hk => hk) trivial (Below.refl _ _) (Nat.le_refl _) (by simp) ?_; (case hd => rfl); (case hg => rfl); (case hr => first | (go_simp; done) | (go_simp; rfl)); (case hp => exact (Reps.none _ _))
               intro v649 w61 ho62 hb hg_ hnew_
               clear hg_ hnew_; (first | rw [← Ny648.out] at ho62 | (simp only [Int.reduceToNat] at ho62; rw [← Ny648.out] at ho62)); have n0 := Az (Kd.R_elder' (rU HO_4.out) (Kd.R_base ho62) hb); have n1 := Az (Kd.R_elder' (rU HO_7.out) (Kd.R_base ho62) hb); have n2 := Az (Kd.R_elder' (rU HO_9.out) (Kd.R_base ho62) hb); have n3 := Az (Kd.Q_elder' (qU HO_Z0.out) (Kd.R_base ho62) hb); have n4 := Az (Kd.R_elder' (rU HO_Z1.out) (Kd.R_base ho62) hb); have n5 := Az (Kd.R_lower (Kd.R_new' (Kd.R_new' (Kd.R_new' (Kd.R_new' (Kd.R_new' ho62 (Kd.R_lt (rU HO_4.out))) (Kd.R_lt (rU HO_7.out))) (Kd.R_lt (rU HO_9.out))) (Kd.Q_lt (qU HO_Z0.out))) (Kd.R_lt (rU HO_Z1.out))) (below_size (bU1 HB.out GE637.out))); have n6 := Az (blk_below (g := gb637) (o := .cells #[.slice Ao9 t628.length co9, .slice Ao11 t631.length co11] 25 (0, 0)) (kU BK637.out) hb); have n7 := Az (Kd.C_below (by repeat (first | (with_reducible exact HR654.out) | (with_reducible refine Kd.C_alloc ?_ _) | (with_reducible refine Kd.C_drewN ?_ _) | (with_reducible refine Kd.C_drew ?_) | exact HR654.out)) hb); have n8 := Az (Kd.C_below (by repeat (first | (with_reducible exact HR661.out) | (with_reducible refine Kd.C_alloc ?_ _) | (with_reducible refine Kd.C_drewN ?_ _) | (with_reducible refine Kd.C_drew ?_) | exact HR661.out)) hb); have n9 := Az (below_step (bU1 HB.out GE637.out) hb); clear HO_4 HO_7 HO_9 HO_Z0 HO_Z1 BK637 HR654 HR661 HB; have HO_4 := n0; have HO_7 := n1; have HO_9 := n2; have HO_Z0 := n3; have HO_Z1 := n4; have HO650 := n5; have BK637 := n6; have HR654 := n7; have HR661 := n8; have HB := n9; clear n0 n1 n2 n3 n4 n5 n6 n7 n8 n9 hb ho62
               refine hK.out _ _ trivial (fun hHeld => ?_)
               clear hK K
               refine norm_ (a' := ?_) ?_ ?_
               rotate_left
               ·
                show Act.put _ (some 56) _ = _
                simp only [Act.put, List.setIfInBounds_toArray, List.set_cons_zero, List.set_cons_succ, i64_w, i32_w]
                rfl
               refine one_ (i := 4) (N := some 60) #[true, true, true, true, true, true, true, true, true, false, false] rfl rfl (one_of HT_.out (by kernel_rfl)) (by decide) (fun K hK => ?_)
               refine Kd.R_append_rows_step (Kd.int .i64) (w0 := w) w.heap.size (by rfl) (.tmp 56) (.tmp 59) 23 3 (.int .i64 0) 8 rfl Try.underlying23 info3 rfl (by decide) (by omega) v649 y648 y651 _ _ _ (fun k_ => some k_ ≠ (.slice Ao12 t634.length co12 : Value).ownBlock ∧ some k_ ≠ (v641 : Value).ownBlock ∧ some k_ ≠ (v645 : Value).ownBlock ∧ some k_ ≠ (.slice Ao9 t628.length co9 : Value).ownBlock ∧ some k_ ≠ (.slice Ao11 t631.length co11 : Value).ownBlock) (fun _ => False) rfl rfl ?aO ?aR (fun _ _ h => h) (fun _ h => h.elim) ?aF ?aB ?aS ?aL ?_
               (case aR => exact cU (by repeat (first | (with_reducible exact HR654.out) | (with_reducible refine Kd.C_alloc ?_ _) | (with_reducible refine Kd.C_drewN ?_ _) | (with_reducible refine Kd.C_drew ?_) | exact HR654.out)))
               (case aB => exact (bU1 HB.out GE637.out))
               (case aF => exact (fun k_ hk => ⟨Kd.fresh' (Kd.R_lt (rU HO_4.out)) k_ hk, Kd.fresh' (Kd.R_lt (rU HO_7.out)) k_ hk, Kd.fresh' (Kd.R_lt (rU HO_9.out)) k_ hk, Kd.fresh' (Kd.Q_lt (qU HO_Z0.out)) k_ hk, Kd.fresh' (Kd.R_lt (rU HO_Z1.out)) k_ hk⟩))
               (case aO => exact (by (with_reducible repeat (first | apply Kd.R_alloc | apply Kd.R_drewN | apply Kd.R_drew)); exact Kd.R_mono HO650.out (fun _ hk => ⟨hk.1.1.1.1.2, ⟨hk.1.1.1.2, ⟨hk.1.1.2, ⟨hk.1.2, hk.2⟩⟩⟩⟩)))
               (case aS => exact (below_size (bU1 HB.out GE637.out)))
               (case aL => have := LMc27.out; omega)
               intro v656 w63 ho hb hg hat
               rw [← Ny655.out] at ho; have n0 := Az (Kd.R_after (ok := (fun k_ => some k_ ≠ (v641 : Value).ownBlock ∧ some k_ ≠ (v645 : Value).ownBlock ∧ some k_ ≠ (.slice Ao9 t628.length co9 : Value).ownBlock ∧ some k_ ≠ (.slice Ao11 t631.length co11 : Value).ownBlock)) (rU HO_4.out) hg hat); have n1 := Az (Kd.R_after (ok := (fun k_ => some k_ ≠ (.slice Ao12 t634.length co12 : Value).ownBlock ∧ some k_ ≠ (v645 : Value).ownBlock ∧ some k_ ≠ (.slice Ao9 t628.length co9 : Value).ownBlock ∧ some k_ ≠ (.slice Ao11 t631.length co11 : Value).ownBlock)) (rU HO_7.out) hg hat); have n2 := Az (Kd.R_after (ok := (fun k_ => some k_ ≠ (.slice Ao12 t634.length co12 : Value).ownBlock ∧ some k_ ≠ (v641 : Value).ownBlock ∧ some k_ ≠ (.slice Ao9 t628.length co9 : Value).ownBlock ∧ some k_ ≠ (.slice Ao11 t631.length co11 : Value).ownBlock)) (rU HO_9.out) hg hat); have n3 := Az (Kd.Q_after (ok := (fun k_ => some k_ ≠ (.slice Ao12 t634.length co12 : Value).ownBlock ∧ some k_ ≠ (v641 : Value).ownBlock ∧ some k_ ≠ (v645 : Value).ownBlock ∧ some k_ ≠ (.slice Ao11 t631.length co11 : Value).ownBlock)) (qU HO_Z0.out) hg hat); have n4 := Az (Kd.R_after (ok := (fun k_ => some k_ ≠ (.slice Ao12 t634.length co12 : Value).ownBlock ∧ some k_ ≠ (v641 : Value).ownBlock ∧ some k_ ≠ (v645 : Value).ownBlock ∧ some k_ ≠ (.slice Ao9 t628.length co9 : Value).ownBlock)) (rU HO_Z1.out) hg hat); have n5 := Az (blk_grown (g := gb637) (o := .cells #[.slice Ao9 t628.length co9, .slice Ao11 t631.length co11] 25 (0, 0)) (kU BK637.out) hg (Kd.R_ne HO650.out BK637.out (by decide))); have n6 := Az (hb); have n7 := Az ((show Kd.C (Kd.int .i64) w63 Ao12 y651.length y651 from by rw [Ny651.out]; exact Kd.C_take (m := (x11_2 : Int).toNat) ((Kd.R_reads' (Kd.R_after (ok := (fun k_ => some k_ ≠ (v641 : Value).ownBlock ∧ some k_ ≠ (v645 : Value).ownBlock ∧ some k_ ≠ (.slice Ao9 t628.length co9 : Value).ownBlock ∧ some k_ ≠ (.slice Ao11 t631.length co11 : Value).ownBlock)) (rU HO_4.out) hg hat)).2.2) KL59.out)); have n8 := Az ((show Kd.C (Kd.int .i64) w63 A60 y658.length y658 from by rw [Ny658.out, KA60.out]; exact Kd.C_drop (m := ((ji28) : Int).toNat) (c := co12) ((Kd.R_reads' (Kd.R_after (ok := (fun k_ => some k_ ≠ (v641 : Value).ownBlock ∧ some k_ ≠ (v645 : Value).ownBlock ∧ some k_ ≠ (.slice Ao9 t628.length co9 : Value).ownBlock ∧ some k_ ≠ (.slice Ao11 t631.length co11 : Value).ownBlock)) (rU HO_4.out) hg hat)).2.2) KL60.out ((Kd.R_reads' (Kd.R_after (ok := (fun k_ => some k_ ≠ (v641 : Value).ownBlock ∧ some k_ ≠ (v645 : Value).ownBlock ∧ some k_ ≠ (.slice Ao9 t628.length co9 : Value).ownBlock ∧ some k_ ≠ (.slice Ao11 t631.length co11 : Value).ownBlock)) (rU HO_4.out) hg hat)).2.1))); have n9 := Az (ho); clear HO_4 HO_7 HO_9 HO_Z0 HO_Z1 BK637 HB HR654 HR661 HO650; have HO_4 := n0; have HO_7 := n1; have HO_9 := n2; have HO_Z0 := n3; have HO_Z1 := n4; have BK637 := n5; have HB := n6; have HR654 := n7; have HR661 := n8; have HO657 := n9; clear n0 n1 n2 n3 n4 n5 n6 n7 n8 n9 ho hb hg hat
               refine hK.out _ _ trivial (fun hHeld => ?_)
               clear hK K
               refine norm_ (a' := ?_) ?_ ?_
               rotate_left
               ·
                show Act.put _ (some 60) _ = _
                simp only [Act.put, List.setIfInBounds_toArray, List.set_cons_zero, List.set_cons_succ, i64_w, i32_w]
                rfl
               refine one_ (i := 9) (N := some 65) #[true, true, true, true, true, true, true, true, true, true, false] rfl rfl (one_of HT_.out (by kernel_rfl)) (by decide) (fun K hK => ?_)
               refine Kd.R_append_rows_step (Kd.int .i64) (w0 := w) w.heap.size (by rfl) (.tmp 60) (.tmp 64) 23 3 (.int .i64 0) 8 rfl Try.underlying23 info3 rfl (by decide) (by omega) v656 y655 y658 _ _ _ (fun k_ => some k_ ≠ (.slice Ao12 t634.length co12 : Value).ownBlock ∧ some k_ ≠ (v641 : Value).ownBlock ∧ some k_ ≠ (v645 : Value).ownBlock ∧ some k_ ≠ (.slice Ao9 t628.length co9 : Value).ownBlock ∧ some k_ ≠ (.slice Ao11 t631.length co11 : Value).ownBlock) (fun _ => False) rfl rfl ?aO ?aR (fun _ _ h => h) (fun _ h => h.elim) ?aF ?aB ?aS ?aL ?_
               (case aR => exact cU (by repeat (first | (with_reducible exact HR661.out) | (with_reducible refine Kd.C_alloc ?_ _) | (with_reducible refine Kd.C_drewN ?_ _) | (with_reducible refine Kd.C_drew ?_) | exact HR661.out)))
               (case aB => exact (bU1 HB.out GE637.out))
               (case aF => exact (fun k_ hk => ⟨Kd.fresh' (Kd.R_lt (rU HO_4.out)) k_ hk, Kd.fresh' (Kd.R_lt (rU HO_7.out)) k_ hk, Kd.fresh' (Kd.R_lt (rU HO_9.out)) k_ hk, Kd.fresh' (Kd.Q_lt (qU HO_Z0.out)) k_ hk, Kd.fresh' (Kd.R_lt (rU HO_Z1.out)) k_ hk⟩))
               (case aO => exact (rU HO657.out))
               (case aS => exact (below_size (bU1 HB.out GE637.out)))
               (case aL => have := LMc31.out; omega)
               intro v663 w64 ho hb hg hat
               rw [← Ny662.out] at ho; have n0 := Az (Kd.R_after (ok := (fun k_ => some k_ ≠ (v641 : Value).ownBlock ∧ some k_ ≠ (v645 : Value).ownBlock ∧ some k_ ≠ (.slice Ao9 t628.length co9 : Value).ownBlock ∧ some k_ ≠ (.slice Ao11 t631.length co11 : Value).ownBlock)) (rU HO_4.out) hg hat); have n1 := Az (Kd.R_after (ok := (fun k_ => some k_ ≠ (.slice Ao12 t634.length co12 : Value).ownBlock ∧ some k_ ≠ (v645 : Value).ownBlock ∧ some k_ ≠ (.slice Ao9 t628.length co9 : Value).ownBlock ∧ some k_ ≠ (.slice Ao11 t631.length co11 : Value).ownBlock)) (rU HO_7.out) hg hat); have n2 := Az (Kd.R_after (ok := (fun k_ => some k_ ≠ (.slice Ao12 t634.length co12 : Value).ownBlock ∧ some k_ ≠ (v641 : Value).ownBlock ∧ some k_ ≠ (.slice Ao9 t628.length co9 : Value).ownBlock ∧ some k_ ≠ (.slice Ao11 t631.length co11 : Value).ownBlock)) (rU HO_9.out) hg hat); have n3 := Az (Kd.Q_after (ok := (fun k_ => some k_ ≠ (.slice Ao12 t634.length co12 : Value).ownBlock ∧ some k_ ≠ (v641 : Value).ownBlock ∧ some k_ ≠ (v645 : Value).ownBlock ∧ some k_ ≠ (.slice Ao11 t631.length co11 : Value).ownBlock)) (qU HO_Z0.out) hg hat); have n4 := Az (Kd.R_after (ok := (fun k_ => some k_ ≠ (.slice Ao12 t634.length co12 : Value).ownBlock ∧ some k_ ≠ (v641 : Value).ownBlock ∧ some k_ ≠ (v645 : Value).ownBlock ∧ some k_ ≠ (.slice Ao9 t628.length co9 : Value).ownBlock)) (rU HO_Z1.out) hg hat); have n5 := Az (blk_grown (g := gb637) (o := .cells #[.slice Ao9 t628.length co9, .slice Ao11 t631.length co11] 25 (0, 0)) (kU BK637.out) hg (Kd.R_ne HO657.out BK637.out (by decide))); have n6 := Az (hb); have n7 := Az ((show Kd.C (Kd.int .i64) w64 Ao12 y651.length y651 from by rw [Ny651.out]; exact Kd.C_take (m := (x11_2 : Int).toNat) ((Kd.R_reads' (Kd.R_after (ok := (fun k_ => some k_ ≠ (v641 : Value).ownBlock ∧ some k_ ≠ (v645 : Value).ownBlock ∧ some k_ ≠ (.slice Ao9 t628.length co9 : Value).ownBlock ∧ some k_ ≠ (.slice Ao11 t631.length co11 : Value).ownBlock)) (rU HO_4.out) hg hat)).2.2) KL59.out)); have n8 := Az ((show Kd.C (Kd.int .i64) w64 A60 y658.length y658 from by rw [Ny658.out, KA60.out]; exact Kd.C_drop (m := ((ji28) : Int).toNat) (c := co12) ((Kd.R_reads' (Kd.R_after (ok := (fun k_ => some k_ ≠ (v641 : Value).ownBlock ∧ some k_ ≠ (v645 : Value).ownBlock ∧ some k_ ≠ (.slice Ao9 t628.length co9 : Value).ownBlock ∧ some k_ ≠ (.slice Ao11 t631.length co11 : Value).ownBlock)) (rU HO_4.out) hg hat)).2.2) KL60.out ((Kd.R_reads' (Kd.R_after (ok := (fun k_ => some k_ ≠ (v641 : Value).ownBlock ∧ some k_ ≠ (v645 : Value).ownBlock ∧ some k_ ≠ (.slice Ao9 t628.length co9 : Value).ownBlock ∧ some k_ ≠ (.slice Ao11 t631.length co11 : Value).ownBlock)) (rU HO_4.out) hg hat)).2.1))); have n9 := Az (ho); clear HO_4 HO_7 HO_9 HO_Z0 HO_Z1 BK637 HB HR654 HR661 HO657; have HO_4 := n0; have HO_7 := n1; have HO_9 := n2; have HO_Z0 := n3; have HO_Z1 := n4; have BK637 := n5; have HB := n6; have HR654 := n7; have HR661 := n8; have HO664 := n9; clear n0 n1 n2 n3 n4 n5 n6 n7 n8 n9 ho hb hg hat
               refine hK.out _ _ trivial (fun hHeld => ?_)
               clear hK K
               refine norm_ (a' := ?_) ?_ ?_
               rotate_left
               ·
                show Act.put _ (some 65) _ = _
                simp only [Act.put, List.setIfInBounds_toArray, List.set_cons_zero, List.set_cons_succ, i64_w, i32_w]
                rfl
               refine pure_ (i := 10) (N := some 12) (v := ?_) (a' := ?_) #[true, true, true, true, true, true, true, true, true, true, true] rfl rfl (any_of HT_.out (by kernel_rfl)) (fun _ _ _ h => h) (Or.inl ⟨by rfl, ?_⟩) ?_ ?_
               rotate_left
               ·
                intro w'
                go_simp
                with_reducible rfl
               rotate_left
               ·
                simp only [Act.put, List.setIfInBounds_toArray, List.set_cons_zero, List.set_cons_succ, i64_w, i32_w]
                rfl
               refine done_ (done_of HT_.out (by kernel_rfl)) ?_
               have hcz65_0 : w64.cell? ⟨gb637, 0, none⟩ = some (.slice Ao9 t628.length co9) := (blk_cell BK637.out 0).trans rfl; have hcz65_1 : w64.cell? ⟨gb637, 1, none⟩ = some (.slice Ao11 t631.length co11) := (blk_cell BK637.out 1).trans rfl; have hfz65_0 := blk_frozen BK637.out 0; have hfz65_1 := blk_frozen BK637.out 1; obtain ⟨Ao66, co66, eo66⟩ := Kd.R_slice HO664.out; subst eo66
               try go_wp2_with (first | ((with_reducible refine gate_callee (f := 20) rfl ?_); refine goesL_ (some 69) rfl rfl Try.func20 (by kernel_rfl) rfl #[.agg #[.slice Ao9 t628.length co9, .slice Ao11 t631.length co11], .slice Ao66 y662.length co66] rfl (by (try simp only [List.map_toArray, List.map_cons, List.map_nil]); first | done | rfl | (simp only [List.length_drop, List.length_take]; rfl)) ?_; (with_reducible refine (impl_ChoiceCounts.calls k2 _ _ t628 _ _ t631 _ _ y662 t665 false _ ?side1 ?side2 ?side3 ?side4 ?side5 ?side6 A32.out).mono ?_); (case side1 => exact cU ((Kd.Q_reads' HO_Z0.out).2.2)); (case side2 => exact (Kd.Q_reads' HO_Z0.out).2.1); (case side3 => exact cU ((Kd.R_reads' HO_Z1.out).2.2)); (case side4 => exact (Kd.R_reads' HO_Z1.out).2.1); (case side5 => exact cU ((Kd.R_reads' HO664.out).2.2)); (case side6 => exact (Kd.R_reads' HO664.out).2.1); rintro e w67 ⟨v666, rfl, ho0, hb⟩; refine ⟨_, rfl, ?_⟩; have n0 := Az (Kd.R_elder' (rU HO_4.out) (Kd.R_base ho0) hb); have n1 := Az (Kd.R_elder' (rU HO_7.out) (Kd.R_base ho0) hb); have n2 := Az (Kd.R_elder' (rU HO_9.out) (Kd.R_base ho0) hb); have n3 := Az (Kd.Q_elder' (qU HO_Z0.out) (Kd.R_base ho0) hb); have n4 := Az (Kd.R_elder' (rU HO_Z1.out) (Kd.R_base ho0) hb); have n5 := Az (Kd.R_elder' (rU HO664.out) (Kd.R_base ho0) hb); have n6 := Az (Kd.R_lower (Kd.R_new' (Kd.R_new' (Kd.R_new' (Kd.R_new' (Kd.R_new' (Kd.R_new' ho0 (Kd.R_lt (rU HO_4.out))) (Kd.R_lt (rU HO_7.out))) (Kd.R_lt (rU HO_9.out))) (Kd.Q_lt (qU HO_Z0.out))) (Kd.R_lt (rU HO_Z1.out))) (Kd.R_lt (rU HO664.out))) (below_size (bU1 HB.out GE637.out))); have n7 := Az (blk_below (g := gb637) (o := .cells #[.slice Ao9 t628.length co9, .slice Ao11 t631.length co11] 25 (0, 0)) (kU BK637.out) hb); have n8 := Az (Kd.C_below (by repeat (first | (with_reducible exact HR654.out) | (with_reducible refine Kd.C_alloc ?_ _) | (with_reducible refine Kd.C_drewN ?_ _) | (with_reducible refine Kd.C_drew ?_) | exact HR654.out)) hb); have n9 := Az (Kd.C_below (by repeat (first | (with_reducible exact HR661.out) | (with_reducible refine Kd.C_alloc ?_ _) | (with_reducible refine Kd.C_drewN ?_ _) | (with_reducible refine Kd.C_drew ?_) | exact HR661.out)) hb); have n10 := Az (below_step (bU1 HB.out GE637.out) hb); clear HO_4 HO_7 HO_9 HO_Z0 HO_Z1 HO664 BK637 HR654 HR661 HB; have HO_4 := n0; have HO_7 := n1; have HO_9 := n2; have HO_Z0 := n3; have HO_Z1 := n4; have HO664 := n5; have HO667 := n6; have BK637 := n7; have HR654 := n8; have HR661 := n9; have HB := n10; clear n0 n1 n2 n3 n4 n5 n6 n7 n8 n9 n10; (try clear hb); (try clear hb2); (try clear hk); (try clear hi); (try clear ho0)))
               go_ret
               exact ⟨by first | rfl | (simp [errW_none, errW_some] <;> rfl) | (simp only [← hji28]; first | rfl | (simp [errW_none, errW_some] <;> rfl)) | (simp [*, errW_none, errW_some] <;> rfl), bU1 HB.out GE637.out⟩
             ·
              rw [if_neg c31] at H
              exact absurd H (by simp)
            ·
             rw [if_neg c30] at H
             exact absurd H (by simp)
           ·
            rw [if_neg c29] at H
            exact absurd H (by simp)
          ·
           rw [if_neg c27] at H
           exact absurd H (by simp)
         ·
          rw [if_neg c26] at H
          exact absurd H (by simp)
        ·
         rw [if_neg c25] at H
         exact absurd H (by simp)
       ·
        rw [if_neg c24] at H; have c24b0 : decide (x11_2 < (t634.length : Int)) = false := decide_eq_false c24; clear c24
        by_cases c68 : t643 = true
        ·
         subst c68
         have H1 : (if t647 = true then (if 0 < (t640.length : Int) then (if (t634.length : Int) = (wrap64 ((rd t640 0) - 1)) then (if 4 < (t644.length : Int) then (if (rd t644 4) = 0 then ((impl_ChoiceQuasi.f k2 t628 t631 t634).bind fun t672 => (some t672)) else (some false)) else (none)) else (some false)) else (none)) else (some false)) = some r := by rw [if_pos rfl] at H; exact H
         clear H; have H := H1; clear H1
         by_cases c69 : t647 = true
         ·
          subst c69
          have H1 : (if 0 < (t640.length : Int) then (if (t634.length : Int) = (wrap64 ((rd t640 0) - 1)) then (if 4 < (t644.length : Int) then (if (rd t644 4) = 0 then ((impl_ChoiceQuasi.f k2 t628 t631 t634).bind fun t672 => (some t672)) else (some false)) else (none)) else (some false)) else (none)) = some r := by rw [if_pos rfl] at H; exact H
          clear H; have H := H1; clear H1
          by_cases c70 : 0 < (t640.length : Int)
          ·
           rw [if_pos c70] at H; have c70b0 : decide (0 < (t640.length : Int)) = true := decide_eq_true c70; have c70b1 : decide (0 < t640.length) = true := decide_eq_true (by omega); clear c70
           by_cases c71 : (t634.length : Int) = (wrap64 ((rd t640 0) - 1))
           ·
            rw [if_pos c71] at H; have c71b0 : ((t634.length : Int) == (wrap64 ((rd t640 0) - 1))) = true := beq_iff_eq.mpr c71; have c71b1 : ((t634.length : Int) != (wrap64 ((rd t640 0) - 1))) = false := bne_eq_false_iff_eq.mpr c71; clear c71
            by_cases c72 : 4 < (t644.length : Int)
            ·
             rw [if_pos c72] at H; have c72b0 : decide (4 < (t644.length : Int)) = true := decide_eq_true c72; have c72b1 : decide (4 < t644.length) = true := decide_eq_true (by omega); clear c72
             by_cases c73 : (rd t644 4) = 0
             ·
              rw [if_pos c73] at H; have c73b0 : ((rd t644 4) == 0) = true := beq_iff_eq.mpr c73; have c73b1 : ((rd t644 4) != 0) = false := bne_eq_false_iff_eq.mpr c73; clear c73; replace H := Option.bind_eq_some_iff.mp H; obtain ⟨t672, A740, H⟩ := H; replace H : (some t672) = some r := H; have A74 := Az A740; clear A740; obtain rfl := Option.some.inj H; obtain ⟨Ao75, co75, eo75⟩ := Kd.R_slice HO_7.out; subst eo75; have p670 : 0 ≤ (0 : Int) := (by omega); have q670 : 0 < (t640.length : Int) := oA; obtain ⟨ad670, e670, hx670_0⟩ := Kd.at_int (Kd.R_reads' HO_7.out).2.2 0 p670 q670
              cases e670
              have qi670 : (0 < t640.length) = True := eq_true (by omega); (try rw [show ((0 : Int)).toNat = 0 from rfl] at hx670_0); (try rw [Addr.add_zero'] at hx670_0); replace p670 := eq_true p670; replace q670 := eq_true q670; obtain ⟨Ao76, co76, eo76⟩ := Kd.R_slice HO_9.out; subst eo76; have p671 : 0 ≤ (4 : Int) := (by omega); have q671 : 4 < (t644.length : Int) := oA; obtain ⟨ad671, e671, hx671_0⟩ := Kd.at_int (Kd.R_reads' HO_9.out).2.2 4 p671 q671
              cases e671
              (try simp only [show (4 : Int).toNat = 4 from rfl, Nat.reduceMul, Nat.reduceEqDiff, Go.Addr.add, ↓reduceIte] at hx671_0); have qi671 : (4 < t644.length) = True := eq_true (by omega); (try rw [show ((4 : Int)).toNat = 4 from rfl] at hx671_0); replace p671 := eq_true p671; replace q671 := eq_true q671; have hcz77_0 : wr.cell? ⟨gb637, 0, none⟩ = some (.slice Ao9 t628.length co9) := (blk_cell BK637.out 0).trans rfl; have hcz77_1 : wr.cell? ⟨gb637, 1, none⟩ = some (.slice Ao11 t631.length co11) := (blk_cell BK637.out 1).trans rfl; have hfz77_0 := blk_frozen BK637.out 0; have hfz77_1 := blk_frozen BK637.out 1
              go_wp2_with (first | (go_at_call 30; (with_reducible refine (impl_ChoiceQuasi.calls k2 _ _ t628 _ _ t631 _ _ t634 t672 _ ?side1 ?side2 ?side3 ?side4 ?side5 ?side6 A74.out).mono ?_); (case side1 => exact cU ((Kd.Q_reads' HO_Z0.out).2.2)); (case side2 => exact (Kd.Q_reads' HO_Z0.out).2.1); (case side3 => exact cU ((Kd.R_reads' HO_Z1.out).2.2)); (case side4 => exact (Kd.R_reads' HO_Z1.out).2.1); (case side5 => exact cU ((Kd.R_reads' HO_4.out).2.2)); (case side6 => exact (Kd.R_reads' HO_4.out).2.1); rintro e w78 ⟨rfl, hb⟩; have n0 := Az (Kd.R_below (rU HO_4.out) hb); have n1 := Az (Kd.R_below (rU HO_7.out) hb); have n2 := Az (Kd.R_below (rU HO_9.out) hb); have n3 := Az (Kd.Q_below (qU HO_Z0.out) hb); have n4 := Az (Kd.R_below (rU HO_Z1.out) hb); have n5 := Az (blk_below (g := gb637) (o := .cells #[.slice Ao9 t628.length co9, .slice Ao11 t631.length co11] 25 (0, 0)) (kU BK637.out) hb); have n6 := Az (below_step (bU1 HB.out GE637.out) hb); clear HO_4 HO_7 HO_9 HO_Z0 HO_Z1 BK637 HB; have HO_4 := n0; have HO_7 := n1; have HO_9 := n2; have HO_Z0 := n3; have HO_Z1 := n4; have BK637 := n5; have HB := n6; clear n0 n1 n2 n3 n4 n5 n6; (try clear hb); (try clear hb2); (try clear hk); (try clear hi)))
              go_ret
              exact ⟨rE, bU1 HB.out GE637.out⟩
             ·
              rw [if_neg c73] at H; have c73b0 : ((rd t644 4) == 0) = false := beq_eq_false_iff_ne.mpr c73; have c73b1 : ((rd t644 4) != 0) = true := bne_iff_ne.mpr c73; obtain rfl := Option.some.inj H; obtain ⟨Ao79, co79, eo79⟩ := Kd.R_slice HO_7.out; subst eo79; have p670 : 0 ≤ (0 : Int) := (by omega); have q670 : 0 < (t640.length : Int) := oA; obtain ⟨ad670, e670, hx670_0⟩ := Kd.at_int (Kd.R_reads' HO_7.out).2.2 0 p670 q670
              cases e670
              have qi670 : (0 < t640.length) = True := eq_true (by omega); (try rw [show ((0 : Int)).toNat = 0 from rfl] at hx670_0); (try rw [Addr.add_zero'] at hx670_0); replace p670 := eq_true p670; replace q670 := eq_true q670; obtain ⟨Ao80, co80, eo80⟩ := Kd.R_slice HO_9.out; subst eo80; have p671 : 0 ≤ (4 : Int) := (by omega); have q671 : 4 < (t644.length : Int) := oA; obtain ⟨ad671, e671, hx671_0⟩ := Kd.at_int (Kd.R_reads' HO_9.out).2.2 4 p671 q671
              cases e671
              (try simp only [show (4 : Int).toNat = 4 from rfl, Nat.reduceMul, Nat.reduceEqDiff, Go.Addr.add, ↓reduceIte] at hx671_0); have qi671 : (4 < t644.length) = True := eq_true (by omega); (try rw [show ((4 : Int)).toNat = 4 from rfl] at hx671_0); replace p671 := eq_true p671; replace q671 := eq_true q671
              go_wp2
              go_ret
              exact ⟨rE, bU1 HB.out GE637.out⟩
            ·
             rw [if_neg c72] at H
             exact absurd H (by simp)
           ·
            rw [if_neg c71] at H; have c71b0 : ((t634.length : Int) == (wrap64 ((rd t640 0) - 1))) = false := beq_eq_false_iff_ne.mpr c71; have c71b1 : ((t634.length : Int) != (wrap64 ((rd t640 0) - 1))) = true := bne_iff_ne.mpr c71; obtain rfl := Option.some.inj H; obtain ⟨Ao81, co81, eo81⟩ := Kd.R_slice HO_7.out; subst eo81; have p670 : 0 ≤ (0 : Int) := (by omega); have q670 : 0 < (t640.length : Int) := oA; obtain ⟨ad670, e670, hx670_0⟩ := Kd.at_int (Kd.R_reads' HO_7.out).2.2 0 p670 q670
            cases e670
            have qi670 : (0 < t640.length) = True := eq_true (by omega); (try rw [show ((0 : Int)).toNat = 0 from rfl] at hx670_0); (try rw [Addr.add_zero'] at hx670_0); replace p670 := eq_true p670; replace q670 := eq_true q670
            go_wp2
            go_ret
            exact ⟨rE, bU1 HB.out GE637.out⟩
          ·
           rw [if_neg c70] at H
           exact absurd H (by simp)
         ·
          replace c69 := Bool.eq_false_iff.mpr c69; subst c69
          have H1 : (some false) = some r := by rw [if_neg (show ¬ (false = true) by decide)] at H; exact H
          clear H; have H := H1; clear H1; obtain rfl := Option.some.inj H
          go_wp2
          go_ret
          exact ⟨rE, bU1 HB.out GE637.out⟩
        ·
         replace c68 := Bool.eq_false_iff.mpr c68; subst c68
         have H1 : (some false) = some r := by rw [if_neg (show ¬ (false = true) by decide)] at H; exact H
         clear H; have H := H1; clear H1; obtain rfl := Option.some.inj H
         go_wp2
         go_ret
         exact ⟨rE, bU1 HB.out GE637.out⟩
def laws_FnChoiceTree.Pure : Prop := ∀ (l0 : List Int), l0.length ≤ maxLen → l0.length * 1 ≤ 140737488351232 → (∀ x ∈ l0, (Lit.int .u8 x).wf = true) → ∃ k, laws_FnChoiceTree.f k l0 = some true
theorem laws_FnChoiceTree.walk (P : laws_FnChoiceTree.Pure) (a0 : Option Addr) (len0 cap0 : Nat) (z0 : List Int) (w : World) (w0 : (a0 = none ∧ len0 = 0 ∧ cap0 = 0 ∧ z0 = []) ∨ ∃ x, a0 = some x ∧ len0 ≤ cap0 ∧ cap0 ≤ maxLen ∧ z0.length = cap0 ∧ (∀ i, i < z0.length → w.cell? (x.add i) = some (.int .u8 (z0.getD i 0))) ∧ ∀ n ∈ z0, (Lit.int .u8 n).wf = true) (y0 : len0 * 1 ≤ 140737488351232) :
  Calls Try.prog 5 #[.slice a0 len0 cap0] w fun e w' => e = .returned (.bool true) ∧ Below w.heap.size w w' := by
 obtain ⟨l0, rfl, hr0, hm0, hw0, hc0⟩ := ReadsInt.ofRowC w0; obtain ⟨k, h⟩ := P l0 hm0 y0 hw0
 refine (laws_FnChoiceTree.calls k _ _ l0 true w (Kd.C_of_reads (d := (0 : Int)) (h1 := fun _ => rfl) hr0) hc0 h).mono ?_
 rintro e w' ⟨rfl, hd⟩
 exact ⟨rfl, hd⟩
end Go.Proofs.Ytjgknblneokhlaa.PA

set_option linter.unusedVariables false
set_option linter.unusedSimpArgs false
namespace Go.Proofs.Ytjgknblneokhlaa.PA
open Go.RowKit Go.Proofs.YtjgknblneokhlaaW.PrintWords Go.Proofs.YtjgknblneokhlaaW.PrintLast Go.Proofs.YtjgknblneokhlaaW.PrintMore
theorem Ev.s {α : Type} {g : Nat → Option α} {r : α} (h : Ev (fun k => g (k + 1)) r) : Ev g r := Ev.step (fun _ => rfl) h
theorem Ev.const {α : Type} {o : Option α} {r : α} (h : o = some r) : Ev (fun _ => o) r := ⟨0, fun _ _ => h⟩
theorem Ev.uniq {α : Type} {g : Nat → Option α} {r r' : α} (h : Ev g r) (h' : Ev g r') : r = r' := by
  obtain ⟨K, h⟩ := h
  obtain ⟨K', h'⟩ := h'
  have h1 := h (max K K') (by omega)
  rw [h' (max K K') (by omega)] at h1
  exact (Option.some.inj h1).symm
theorem w64 {x : Int} (h1 : -9223372036854775808 ≤ x) (h2 : x < 9223372036854775808) : wrap64 x = x := by unfold wrap64; omega
theorem w64r {x : Int} (h : -9223372036854775808 ≤ x ∧ x < 9223372036854775808) : wrap64 x = x := w64 h.1 h.2
theorem w64n {i : Nat} (h : i < 4611686018427387904) : wrap64 ((i : Int) + 1) = ((i + 1 : Nat) : Int) := by rw [w64 (by omega) (by omega)]; omega
theorem xor_nonneg (a b : Int) (ha : 0 ≤ a) (hb : 0 ≤ b) (ha' : a < 9223372036854775808) (hb' : b < 9223372036854775808) : 0 ≤ Go.bits .xor .i64 a b := by
  obtain ⟨n, rfl⟩ := Int.eq_ofNat_of_zero_le ha
  obtain ⟨m, rfl⟩ := Int.eq_ofNat_of_zero_le hb
  have hn : n % 2 ^ 64 = n := Nat.mod_eq_of_lt (by omega)
  have hm : m % 2 ^ 64 = m := Nat.mod_eq_of_lt (by omega)
  have hx : n ^^^ m < 2 ^ 63 := Nat.xor_lt_two_pow (by omega) (by omega)
  have e : Go.bits .xor .i64 (n : Int) (m : Int) = IntKind.i64.wrap ((n ^^^ m : Nat) : Int) := by
    simp only [Go.bits, BitVec.ofInt_natCast]
    show IntKind.i64.wrap (((BitVec.ofNat 64 n ^^^ BitVec.ofNat 64 m).toNat : Nat) : Int) = _
    rw [BitVec.toNat_xor, BitVec.toNat_ofNat, BitVec.toNat_ofNat, hn, hm]
  rw [e, IntKind.wrap_i64]
  omega
def bytesOk (l : List Int) : Prop := l.length ≤ 2000 ∧ ∀ x ∈ l, 0 ≤ x ∧ x ≤ 255
theorem rd_byte (l : List Int) (h : bytesOk l) (i : Int) : 0 ≤ rd l i ∧ rd l i ≤ 255 := by
  unfold rd
  by_cases hi : i.toNat < l.length
  · rw [List.getD_eq_getElem?_getD, List.getElem?_eq_getElem hi]
    exact h.2 _ (List.getElem_mem hi)
  · rw [List.getD_eq_getElem?_getD, List.getElem?_eq_none (by omega)]
    decide
theorem pick_ev (l : List Int) (h : bytesOk l) (p : Int) (hp : 0 ≤ p) (hp' : p ≤ 1000000) (n : Int) (hn : 1 ≤ n) (hn' : n ≤ 1000000) : ∃ v, Ev (fun k => spec_l6Rd_pick.f k l p n) (v, p + 1) ∧ 0 ≤ v ∧ v < n := by
  have w0 : wrap64 (p + 1) = p + 1 := w64 (by omega) (by omega)
  have w1 : wrap64 (p + 1 - 1) = p := by rw [w64 (by omega) (by omega)]; omega
  have hl := h.1
  unfold spec_l6Rd_pick.f
  simp only [show ¬ n < 1 by omega, if_false, w0]
  by_cases hz : l.length = 0
  · refine ⟨0, Ev.s ?_, by omega, by omega⟩
    have : (((l.length : Int)) == 0) = true := by simp [hz]
    simp only [this, spec_l6Rd_pick.j0, if_true]
    exact Ev.const rfl
  · have hb : (((l.length : Int)) == 0) = false := by rw [beq_eq_false_iff_ne]; omega
    have hn0 : ¬ n = 0 := by omega
    by_cases hlt : p < (l.length : Int)
    · have hr := rd_byte l h p
      have wr : wrap64 (rd l p) = rd l p := w64 (by omega) (by omega)
      refine ⟨Int.tmod (rd l p) n, Ev.s ?_, Int.tmod_nonneg _ (by omega), Int.tmod_lt_of_pos _ (by omega)⟩
      simp only [hb, spec_l6Rd_pick.j0, w1, hlt, hp, hn0, wr, Bool.false_eq_true, if_true, if_false]
      exact Ev.const rfl
    · have hl0 : ¬ (l.length : Int) = 0 := by omega
      have wk : wrap64 (p * 7) = p * 7 := w64 (by omega) (by omega)
      have wk3 : wrap64 (p * 7 + 3) = p * 7 + 3 := w64 (by omega) (by omega)
      have t1 := Int.tmod_nonneg (a := p) (l.length : Int) hp
      have t2 := Int.tmod_lt_of_pos p (b := (l.length : Int)) (by omega)
      have t3 := Int.tmod_nonneg (a := p * 7 + 3) (l.length : Int) (by omega)
      have t4 := Int.tmod_lt_of_pos (p * 7 + 3) (b := (l.length : Int)) (by omega)
      have r1 := rd_byte l h (Int.tmod p (l.length : Int))
      have r2 := rd_byte l h (Int.tmod (p * 7 + 3) (l.length : Int))
      have d1 : 0 ≤ Int.tdiv p (l.length : Int) := Int.tdiv_nonneg hp (by omega)
      have d2 : Int.tdiv p (l.length : Int) ≤ p := Int.tdiv_le_self _ hp
      obtain ⟨X, hX, hX0, hX1⟩ : ∃ X, (wrap64 ((wrap64 ((wrap64 ((wrap64 ((wrap64 (rd l (Int.tmod p (l.length : Int)))) * 131)) + (wrap64 ((wrap64 (rd l (Int.tmod (p * 7 + 3) (l.length : Int)))) * 1117)))) + (wrap64 (p * 29)))) + (wrap64 ((wrap64 (Int.tdiv p (l.length : Int))) * 53)))) = X ∧ 0 ≤ X ∧ X < 4611686018427387904 := by
        refine ⟨_, rfl, ?_, ?_⟩
        all_goals
          generalize rd l (Int.tmod p (l.length : Int)) = a at *
          generalize rd l (Int.tmod (p * 7 + 3) (l.length : Int)) = b at *
          generalize Int.tdiv p (l.length : Int) = c at *
          rw [w64 (x := a) (by omega) (by omega), w64 (x := b) (by omega) (by omega), w64 (x := a * 131) (by omega) (by omega), w64 (x := b * 1117) (by omega) (by omega), w64 (x := a * 131 + b * 1117) (by omega) (by omega), w64 (x := p * 29) (by omega) (by omega), w64 (x := a * 131 + b * 1117 + p * 29) (by omega) (by omega), w64 (x := c) (by omega) (by omega), w64 (x := c * 53) (by omega) (by omega), w64 (x := a * 131 + b * 1117 + p * 29 + c * 53) (by omega) (by omega)]
          omega
      have hd : 0 ≤ wrap64 (Int.tdiv X 64) ∧ wrap64 (Int.tdiv X 64) < 9223372036854775808 := by
        have := Int.tdiv_nonneg hX0 (show (0 : Int) ≤ 64 by decide)
        have := Int.tdiv_le_self 64 hX0
        rw [w64 (by omega) (by omega)]
        omega
      have hx := xor_nonneg X (wrap64 (Int.tdiv X 64)) hX0 hd.1 (by omega) hd.2
      refine ⟨Int.tmod (Go.bits .xor .i64 X (wrap64 (Int.tdiv X 64))) n, Ev.s ?_, Int.tmod_nonneg _ hx, Int.tmod_lt_of_pos _ (by omega)⟩
      simp only [hb, spec_l6Rd_pick.j0, w1, hlt, hl0, wk, wk3, t1, t2, t3, t4, hn0, hX, Bool.false_eq_true, if_true, if_false]
      exact Ev.const rfl
theorem open_ev (l : List Int) (hb : ∀ x ∈ l, (Lit.int .u8 x).wf = true) : ∃ l', spec_l6Open.f l = some (l', 0) ∧ bytesOk l' := by
  have hb' : ∀ x ∈ l, 0 ≤ x ∧ x ≤ 255 := by
    intro x hx
    have := hb x hx
    simp only [Lit.wf, IntKind.min, IntKind.max, IntKind.signed, IntKind.bits, Bool.and_eq_true, decide_eq_true_eq, Bool.false_eq_true, if_false] at this
    omega
  unfold spec_l6Open.f
  by_cases h : (l.length : Int) > 2000
  · refine ⟨l.take 2000, ?_, ?_, fun x hx => hb' x (List.mem_of_mem_take hx)⟩
    · rw [if_pos h, if_pos (by omega)]
    · rw [List.length_take]; omega
  · exact ⟨l, by rw [if_neg h], by omega, hb'⟩
theorem rd_lt (l : List Int) (i : Nat) (h : i < l.length) : rd l (i : Int) = l[i] := by
  unfold rd
  rw [Int.toNat_natCast, List.getD_eq_getElem?_getD, List.getElem?_eq_getElem h]
  rfl
def okAt (l : List Int) (i : Nat) : Prop := 0 ≤ rd l i ∧ rd l i < l.length ∧ ∀ k : Nat, k < i → rd l k ≠ rd l i
def isPerm (l : List Int) : Prop := 1 ≤ l.length ∧ l.length ≤ 12 ∧ ∀ i : Nat, i < l.length → okAt l i
theorem l6In_eq (a b c : Int) : spec_l6In.f a b c = some (decide (b ≤ a ∧ a ≤ c)) := by
  unfold spec_l6In.f
  by_cases h1 : a ≥ b
  · by_cases h2 : a ≤ c <;> simp [h1, h2]
  · simp [h1]
theorem specPerm_in (l : List Int) (hl : l.length ≤ 1048576) (i : Nat) (hi : i < l.length) : ∀ (d k : Nat), i - k = d → k ≤ i →
    ((∀ q : Nat, k ≤ q → q < i → rd l q ≠ rd l i) → ∀ r, Ev (fun z => spec_PermValid.l0 z l ((i + 1 : Nat) : Int)) r → Ev (fun z => spec_PermValid.l1 z l i k) r) ∧
    (¬ (∀ q : Nat, k ≤ q → q < i → rd l q ≠ rd l i) → Ev (fun z => spec_PermValid.l1 z l i k) false)
  | 0, k, hd, hk => by
    refine ⟨fun _ r h => Ev.s ?_, fun h => absurd (fun q h1 h2 => by omega) h⟩
    simp only [spec_PermValid.l1, show ¬ (k : Int) < (i : Int) by omega, if_false]
    rw [w64 (x := (i : Int) + 1) (by omega) (by omega), show ((i : Int) + 1) = ((i + 1 : Nat) : Int) by omega]
    exact h
  | d + 1, k, hd, hk => by
    have ih := specPerm_in l hl i hi d (k + 1) (by omega) (by omega)
    have hw : wrap64 ((k : Int) + 1) = ((k + 1 : Nat) : Int) := by rw [w64 (by omega) (by omega)]; omega
    by_cases e : rd l k = rd l i
    · refine ⟨fun h => absurd e (h k (Nat.le_refl _) (by omega)), fun h => Ev.s ?_⟩
      simp only [spec_PermValid.l1, show (k : Int) < (i : Int) by omega, show (0 : Int) ≤ k by omega, show (k : Int) < (l.length : Int) by omega, show (0 : Int) ≤ i by omega, show (i : Int) < (l.length : Int) by omega, e, if_true]
      exact Ev.const rfl
    · refine ⟨fun h r hr => Ev.s ?_, fun h => Ev.s ?_⟩
      · simp only [spec_PermValid.l1, show (k : Int) < (i : Int) by omega, show (0 : Int) ≤ k by omega, show (k : Int) < (l.length : Int) by omega, show (0 : Int) ≤ i by omega, show (i : Int) < (l.length : Int) by omega, e, if_true, if_false, hw]
        exact ih.1 (fun q h1 h2 => h q (by omega) h2) r hr
      · simp only [spec_PermValid.l1, show (k : Int) < (i : Int) by omega, show (0 : Int) ≤ k by omega, show (k : Int) < (l.length : Int) by omega, show (0 : Int) ≤ i by omega, show (i : Int) < (l.length : Int) by omega, e, if_true, if_false, hw]
        refine ih.2 fun h' => h fun q h1 h2 => ?_
        by_cases eq : q = k
        · rw [eq]; exact e
        · exact h' q (by omega) h2
theorem specPerm_run (l : List Int) (hl : l.length ≤ 1048576) : ∀ (d i : Nat), l.length - i = d → i ≤ l.length →
    ((∀ q : Nat, i ≤ q → q < l.length → okAt l q) → Ev (fun z => spec_PermValid.l0 z l i) (decide (1 ≤ (l.length : Int) ∧ (l.length : Int) ≤ 12))) ∧
    (¬ (∀ q : Nat, i ≤ q → q < l.length → okAt l q) → Ev (fun z => spec_PermValid.l0 z l i) false)
  | 0, i, hd, hi => by
    refine ⟨fun _ => Ev.s ?_, fun h => absurd (fun q h1 h2 => by omega) h⟩
    simp only [spec_PermValid.l0, show ¬ (i : Int) < (l.length : Int) by omega, if_false, l6In_eq, Option.bind_some]
    exact Ev.const rfl
  | d + 1, i, hd, hi => by
    have hlt : i < l.length := by omega
    have ih := specPerm_run l hl d (i + 1) (by omega) (by omega)
    have hin := specPerm_in l hl i hlt i 0 (by omega) (by omega)
    have hwl : wrap64 ((l.length : Int) - 1) = (l.length : Int) - 1 := w64 (by omega) (by omega)
    by_cases hr : 0 ≤ rd l i ∧ rd l i ≤ (l.length : Int) - 1
    · by_cases hn : ∀ q : Nat, 0 ≤ q → q < i → rd l q ≠ rd l i
      · refine ⟨fun h => Ev.s ?_, fun h => Ev.s ?_⟩
        · simp only [spec_PermValid.l0, show (i : Int) < (l.length : Int) by omega, show (0 : Int) ≤ i by omega, if_true, l6In_eq, Option.bind_some, hwl, hr, decide_true, and_self]
          exact hin.1 hn _ (ih.1 fun q h1 h2 => h q (by omega) h2)
        · simp only [spec_PermValid.l0, show (i : Int) < (l.length : Int) by omega, show (0 : Int) ≤ i by omega, if_true, l6In_eq, Option.bind_some, hwl, hr, decide_true, and_self]
          refine hin.1 hn _ (ih.2 fun h' => h fun q h1 h2 => ?_)
          by_cases e : q = i
          · rw [e]; exact ⟨hr.1, by omega, fun k hk => hn k (by omega) hk⟩
          · exact h' q (by omega) h2
      · refine ⟨fun h => absurd (fun q _ h2 => (h i (Nat.le_refl _) hlt).2.2 q h2) hn, fun h => Ev.s ?_⟩
        simp only [spec_PermValid.l0, show (i : Int) < (l.length : Int) by omega, show (0 : Int) ≤ i by omega, if_true, l6In_eq, Option.bind_some, hwl, hr, decide_true, and_self]
        exact hin.2 hn
    · refine ⟨fun h => absurd ⟨(h i (Nat.le_refl _) hlt).1, by have := (h i (Nat.le_refl _) hlt).2.1; omega⟩ hr, fun h => Ev.s ?_⟩
      simp only [spec_PermValid.l0, show (i : Int) < (l.length : Int) by omega, show (0 : Int) ≤ i by omega, if_true, l6In_eq, Option.bind_some, hwl, hr, decide_false, Bool.false_eq_true, if_false]
      exact Ev.const rfl
theorem implPerm_run (l : List Int) (hl : l.length ≤ 12) : ∀ (d i : Nat) (s : List Bool), l.length - i = d → i ≤ l.length → s.length = 12 → (∀ v : Nat, v < 12 → (s.getD v false = true ↔ ∃ k : Nat, k < i ∧ rd l k = v)) →
    ((∀ q : Nat, i ≤ q → q < l.length → okAt l q) → Ev (fun z => impl_PermValid.l0 z l s i) true) ∧
    (¬ (∀ q : Nat, i ≤ q → q < l.length → okAt l q) → Ev (fun z => impl_PermValid.l0 z l s i) false)
  | 0, i, s, hd, hi, hs, hv => by
    refine ⟨fun _ => Ev.s ?_, fun h => absurd (fun q h1 h2 => by omega) h⟩
    simp only [impl_PermValid.l0, show ¬ (i : Int) < (l.length : Int) by omega, if_false]
    exact Ev.const rfl
  | d + 1, i, s, hd, hi, hs, hv => by
    have hlt : i < l.length := by omega
    have hd1 : l.length - (i + 1) = d := by omega
    have hw : wrap64 ((i : Int) + 1) = ((i + 1 : Nat) : Int) := by rw [w64 (by omega) (by omega)]; omega
    by_cases h0 : rd l i < 0
    · refine ⟨fun h => absurd (h i (Nat.le_refl _) hlt).1 (by omega), fun h => Ev.s ?_⟩
      simp only [impl_PermValid.l0, show (i : Int) < (l.length : Int) by omega, show (0 : Int) ≤ i by omega, h0, if_true]
      exact Ev.const rfl
    · by_cases h1 : rd l i ≥ (l.length : Int)
      · refine ⟨fun h => absurd (h i (Nat.le_refl _) hlt).2.1 (by omega), fun h => Ev.s ?_⟩
        simp only [impl_PermValid.l0, show (i : Int) < (l.length : Int) by omega, show (0 : Int) ≤ i by omega, h0, h1, if_true, if_false]
        exact Ev.const rfl
      · have hvi := hv (rd l i).toNat (by omega)
        have hcast : (((rd l i).toNat : Nat) : Int) = rd l i := by omega
        rw [hcast] at hvi
        by_cases h2 : s.getD (rd l i).toNat false = true
        · obtain ⟨k, hk, hke⟩ := hvi.1 h2
          refine ⟨fun h => absurd hke ((h i (Nat.le_refl _) hlt).2.2 k hk), fun h => Ev.s ?_⟩
          simp only [impl_PermValid.l0, show (i : Int) < (l.length : Int) by omega, show (0 : Int) ≤ i by omega, h0, h1, h2, if_true, if_false]
          exact Ev.const rfl
        · have hnew : ∀ k : Nat, k < i → rd l k ≠ rd l i := fun k hk e => h2 (hvi.2 ⟨k, hk, e⟩)
          have ih := implPerm_run l hl d (i + 1) (s.set (rd l i).toNat true) hd1 hlt (by simpa using hs) (fun v hv12 => by
            by_cases ev : v = (rd l i).toNat
            · subst ev
              rw [List.getD_eq_getElem?_getD, List.getElem?_set_self (by omega)]
              simp only [Option.getD_some, true_iff]
              exact ⟨i, Nat.lt_succ_self i, hcast.symm⟩
            · rw [List.getD_eq_getElem?_getD, List.getElem?_set_ne (Ne.symm ev), ← List.getD_eq_getElem?_getD, hv v hv12]
              constructor
              · rintro ⟨k, hk, hke⟩; exact ⟨k, by omega, hke⟩
              · rintro ⟨k, hk, hke⟩
                by_cases e : k = i
                · subst e; omega
                · exact ⟨k, by omega, hke⟩)
          refine ⟨fun h => Ev.s ?_, fun h => Ev.s ?_⟩
          · simp only [impl_PermValid.l0, show (i : Int) < (l.length : Int) by omega, show (0 : Int) ≤ i by omega, h0, h1, h2, if_true, if_false, hw]
            exact ih.1 fun q g1 g2 => h q (by omega) g2
          · simp only [impl_PermValid.l0, show (i : Int) < (l.length : Int) by omega, show (0 : Int) ≤ i by omega, h0, h1, h2, if_true, if_false, hw]
            refine ih.2 fun h' => h fun q g1 g2 => ?_
            by_cases e : q = i
            · rw [e]; exact ⟨by omega, by omega, hnew⟩
            · exact h' q (by omega) g2
theorem permValid_both (l : List Int) (hl : l.length ≤ 1048576) : ∃ b : Bool, Ev (fun k => spec_PermValid.f k l) b ∧ Ev (fun k => impl_PermValid.f k l) b ∧ (b = true ↔ isPerm l) := by
  unfold spec_PermValid.f impl_PermValid.f
  have hs := specPerm_run l hl l.length 0 (by omega) (by omega)
  by_cases hall : ∀ q : Nat, 0 ≤ q → q < l.length → okAt l q
  · refine ⟨decide (1 ≤ (l.length : Int) ∧ (l.length : Int) ≤ 12), hs.1 hall, ?_, ?_⟩
    · by_cases h1 : (l.length : Int) < 1
      · simp only [h1, if_true]
        exact Ev.const (by congr 1; symm; rw [decide_eq_false_iff_not]; omega)
      · by_cases h2 : (l.length : Int) > 12
        · simp only [h1, h2, if_true, if_false]
          exact Ev.const (by congr 1; symm; rw [decide_eq_false_iff_not]; omega)
        · simp only [h1, h2, if_false]
          rw [decide_eq_true (by omega)]
          refine (implPerm_run l (by omega) l.length 0 _ (by omega) (by omega) (by simp) fun v hv => ?_).1 hall
          constructor
          · intro h
            rw [List.getD_eq_getElem?_getD, List.getElem?_replicate, if_pos hv] at h
            cases h
          · rintro ⟨k, hk, _⟩; omega
    · rw [decide_eq_true_eq]
      exact ⟨fun h => ⟨by omega, by omega, fun i hi => hall i (by omega) hi⟩, fun h => ⟨by have := h.1; omega, by have := h.2.1; omega⟩⟩
  · refine ⟨false, hs.2 hall, ?_, ?_⟩
    · by_cases h1 : (l.length : Int) < 1
      · simp only [h1, if_true]; exact Ev.const rfl
      · by_cases h2 : (l.length : Int) > 12
        · simp only [h1, h2, if_true, if_false]; exact Ev.const rfl
        · simp only [h1, h2, if_false]
          refine (implPerm_run l (by omega) l.length 0 _ (by omega) (by omega) (by simp) fun v hv => ?_).2 hall
          constructor
          · intro h
            rw [List.getD_eq_getElem?_getD, List.getElem?_replicate, if_pos hv] at h
            cases h
          · rintro ⟨k, hk, _⟩; omega
    · exact ⟨fun h => (by cases h), fun h => absurd (fun q _ hq => h.2.2 q hq) hall⟩
def stl (n : Nat) : List Int := (List.range n).map fun (i : Nat) => (i : Int)
theorem stl_length (n : Nat) : (stl n).length = n := by simp [stl]
theorem stl_rd (n i : Nat) (h : i < n) : rd (stl n) i = i := by
  rw [rd_lt _ _ (by rw [stl_length]; exact h)]
  simp [stl]
theorem stl_succ (n : Nat) : stl (n + 1) = stl n ++ [(n : Int)] := by simp [stl, List.range_succ]
theorem rd_set_self (l : List Int) (i : Nat) (v : Int) (h : i < l.length) : rd (l.set i v) i = v := by
  rw [rd_lt _ _ (by simpa using h)]; simp
theorem rd_set_ne (l : List Int) (i j : Nat) (v : Int) (h : i ≠ j) : rd (l.set i v) j = rd l j := by
  unfold rd
  rw [Int.toNat_natCast, List.getD_eq_getElem?_getD, List.getD_eq_getElem?_getD, List.getElem?_set_ne h]
theorem rd_app_lt (l m : List Int) (i : Nat) (h : i < l.length) : rd (l ++ m) i = rd l i := by
  unfold rd
  rw [Int.toNat_natCast, List.getD_eq_getElem?_getD, List.getD_eq_getElem?_getD, List.getElem?_append_left h]
theorem list_ext (a b : List Int) (h : a.length = b.length) (hr : ∀ i : Nat, i < a.length → rd a i = rd b i) : a = b := by
  refine List.ext_getElem h fun i h1 h2 => ?_
  have := hr i h1
  rwa [rd_lt a i h1, rd_lt b i h2] at this
theorem same_run (n : Nat) (hn : n ≤ 1048576) : ∀ (d i : Nat), n - i = d → i ≤ n → Ev (fun k => spec_l1Same.l0 k n (stl i) i) (stl n)
  | 0, i, hd, hi => by
    refine Ev.s ?_
    simp only [spec_l1Same.l0, show ¬ (i : Int) < (n : Int) by omega, if_false]
    have : i = n := by omega
    subst this
    exact Ev.const rfl
  | d + 1, i, hd, hi => by
    refine Ev.s ?_
    simp only [spec_l1Same.l0, show (i : Int) < (n : Int) by omega, if_true, stl_length, show i < 17592186044416 by omega]
    rw [w64 (x := (i : Int) + 1) (by omega) (by omega), show ((i : Int) + 1) = ((i + 1 : Nat) : Int) by omega, ← stl_succ]
    exact same_run n hn d (i + 1) (by omega) (by omega)
theorem same_ev (n : Nat) (hn : n ≤ 1048576) : Ev (fun k => spec_l1Same.f k n) (stl n) := by
  unfold spec_l1Same.f
  exact same_run n hn n 0 (by omega) (by omega)
theorem still_run (n : Nat) (hn : n ≤ 1048576) : ∀ (d i : Nat) (l : List Int), n - i = d → i ≤ n → l.length = n → l.take i = (stl n).take i → Ev (fun k => impl_still.l0 k l n i) (stl n)
  | 0, i, l, hd, hi, hl, ht => by
    refine Ev.s ?_
    simp only [impl_still.l0, show ¬ (i : Int) < (n : Int) by omega, if_false]
    have : i = n := by omega
    subst this
    have e : (stl i).take i = stl i := by rw [List.take_of_length_le]; rw [stl_length]; exact Nat.le_refl _
    rw [e, List.take_of_length_le (by omega)] at ht
    exact Ev.const (by rw [ht])
  | d + 1, i, l, hd, hi, hl, ht => by
    have hlt : i < l.length := by omega
    refine Ev.s ?_
    simp only [impl_still.l0, show (i : Int) < (n : Int) by omega, show (0 : Int) ≤ i by omega, show (i : Int) < (l.length : Int) by omega, if_true]
    rw [w64 (x := (i : Int) + 1) (by omega) (by omega), show ((i : Int) + 1) = ((i + 1 : Nat) : Int) by omega, Int.toNat_natCast]
    refine still_run n hn d (i + 1) _ (by omega) (by omega) (by simpa using hl) ?_
    have h2 : i < (stl n).length := by rw [stl_length]; omega
    rw [List.take_succ_eq_append_getElem (by simpa using hlt), List.take_succ_eq_append_getElem h2, List.take_set_of_le (Nat.le_refl _), ht]
    simp [stl]
theorem still_ev (n : Nat) (hn : n ≤ 1048576) : Ev (fun k => impl_still.f k n) (stl n) := by
  unfold impl_still.f
  have h1 : n ≤ 35184372088832 := by omega
  have h2 : (0 : Int) ≤ (n : Int) := by omega
  simp only [Int.toNat_natCast, h1, h2, if_true, Option.bind_some, List.length_replicate]
  exact still_run n hn n 0 _ (by omega) (by omega) (by simp) (by simp)
def inR (n : Nat) (p : List Int) : Prop := p.length = n ∧ ∀ i : Nat, i < n → 0 ≤ rd p i ∧ rd p i < n
def closedL (ps : List (List Int)) (n : Nat) (S : Nat → Prop) : Prop := ∀ p ∈ ps, ∀ k, k < n → (S k ↔ S (rd p k).toNat)
def Reach (ps : List (List Int)) (n : Nat) (i j : Nat) : Prop := ∀ S, closedL ps n S → (S i ↔ S j)
theorem Reach.refl (ps : List (List Int)) (n i : Nat) : Reach ps n i i := fun S _ => Iff.rfl
theorem Reach.symm {ps : List (List Int)} {n i j : Nat} (h : Reach ps n i j) : Reach ps n j i := fun S c => (h S c).symm
theorem Reach.trans {ps : List (List Int)} {n i j k : Nat} (h : Reach ps n i j) (h' : Reach ps n j k) : Reach ps n i k := fun S c => (h S c).trans (h' S c)
theorem Reach.step {ps : List (List Int)} {n : Nat} {p : List Int} (hp : p ∈ ps) {k : Nat} (hk : k < n) : Reach ps n k (rd p k).toNat := fun S c => c p hp k hk
def orbI (ps : List (List Int)) (n : Nat) (o : List Int) : Prop := o.length = n ∧ ∀ i : Nat, i < n → 0 ≤ rd o i ∧ rd o i ≤ i ∧ Reach ps n (rd o i).toNat i
def orbOk (ps : List (List Int)) (n : Nat) (o : List Int) : Prop := orbI ps n o ∧ ∀ p ∈ ps, ∀ i : Nat, i < n → rd o (rd p i) = rd o i
theorem stl_orbI (ps : List (List Int)) (n : Nat) : orbI ps n (stl n) := by
  refine ⟨stl_length n, fun i hi => ?_⟩
  rw [stl_rd n i hi]
  exact ⟨by omega, by omega, by rw [Int.toNat_natCast]; exact Reach.refl _ _ _⟩
theorem orbOk_const {ps : List (List Int)} {n : Nat} {o : List Int} (h : orbOk ps n o) (hp : ∀ p ∈ ps, inR n p) {i j : Nat} (hr : Reach ps n i j) : rd o i = rd o j := by
  have := hr (fun k => rd o k = rd o i) (fun p hp' k hk => by
    have h1 := h.2 p hp' k hk
    have h2 := (hp p hp').2 k hk
    have e : (((rd p k).toNat : Nat) : Int) = rd p k := by omega
    show (rd o k = rd o i) ↔ (rd o (((rd p k).toNat : Nat) : Int) = rd o i)
    rw [e, h1])
  exact (this.1 rfl).symm
theorem orbOk_le {ps : List (List Int)} {n : Nat} {o o' : List Int} (h : orbOk ps n o) (h' : orbI ps n o') (hp : ∀ p ∈ ps, inR n p) {i : Nat} (hi : i < n) : rd o i ≤ rd o' i := by
  obtain ⟨g0, g1, g2⟩ := h'.2 i hi
  have e := orbOk_const h hp g2
  have hlt : (rd o' i).toNat < n := by omega
  have := (h.1.2 _ hlt).2.1
  have e2 : (((rd o' i).toNat : Nat) : Int) = rd o' i := by omega
  omega
theorem mn_le (a b : Int) : mn a b ≤ a ∧ mn a b ≤ b ∧ (mn a b = a ∨ mn a b = b) := by unfold mn; split <;> omega
theorem orbI_put {ps : List (List Int)} {n : Nat} {o : List Int} (h : orbI ps n o) {i : Nat} (hi : i < n) {v : Int} (h0 : 0 ≤ v) (h1 : v ≤ i) (hr : Reach ps n v.toNat i) : orbI ps n (o.set i v) := by
  refine ⟨by simpa using h.1, fun j hj => ?_⟩
  by_cases e : i = j
  · subst e
    rw [rd_set_self _ _ _ (by rw [h.1]; exact hi)]
    exact ⟨h0, h1, hr⟩
  · rw [rd_set_ne _ _ _ _ e]
    exact h.2 j hj
def tot : List Int → Int
  | [] => 0
  | x :: xs => x + tot xs
theorem tot_set : ∀ (l : List Int) (i : Nat) (v : Int), i < l.length → tot (l.set i v) + rd l i = tot l + v
  | [], i, v, h => by simp at h
  | x :: xs, 0, v, h => by simp [tot, rd]; omega
  | x :: xs, i + 1, v, h => by
    have ih := tot_set xs i v (by simpa using h)
    have e : rd (x :: xs) ((i + 1 : Nat) : Int) = rd xs i := by unfold rd; rw [Int.toNat_natCast, Int.toNat_natCast]; rfl
    rw [e]
    simp only [List.set_cons_succ, tot]
    omega
theorem tot_nonneg : ∀ (l : List Int), (∀ i : Nat, i < l.length → 0 ≤ rd l i) → 0 ≤ tot l
  | [], _ => by simp [tot]
  | x :: xs, h => by
    have h0 := h 0 (by simp)
    have e0 : rd (x :: xs) ((0 : Nat) : Int) = x := rfl
    rw [e0] at h0
    have := tot_nonneg xs fun i hi => by
      have := h (i + 1) (by simpa using hi)
      have e : rd (x :: xs) ((i + 1 : Nat) : Int) = rd xs i := by unfold rd; rw [Int.toNat_natCast, Int.toNat_natCast]; rfl
      rwa [e] at this
    simp only [tot]
    omega
theorem rdL_nth (ps : List (List Int)) (q : Nat) (h : q < ps.length) : rd_L2 ps (q : Int) = ps[q] := by
  have e : (q : Int).toNat = q := Int.toNat_natCast q
  unfold rd_L2
  rw [e, List.getD_eq_getElem?_getD, List.getElem?_eq_getElem h]
  rfl
theorem implOrb_in (ps : List (List Int)) (n : Nat) (hn : n ≤ 12) (q : Nat) (hq : q < ps.length) (hL : ps.length ≤ 1048576) (P : List Int) (hP : P ∈ ps) (pl : P.length = n) (pr : ∀ i : Nat, i < n → 0 ≤ rd P i ∧ rd P i < n) : ∀ (d i : Nat) (o : List Int) (g : Bool), n - i = d → i ≤ n → orbI ps n o →
    ∃ (o' : List Int) (g' : Bool), orbI ps n o' ∧ (∀ r, Ev (fun k => impl_orbits.l1 k ps o' g' ps ps.length ((q + 1 : Nat) : Int)) r → Ev (fun k => impl_orbits.l2 k ps o g ps ps.length q P n i) r) ∧ tot o' ≤ tot o ∧
      (g' = true → g = true ∨ tot o' < tot o) ∧ (g' = false → g = false ∧ o' = o ∧ ∀ j : Nat, i ≤ j → j < n → rd o (rd P j) = rd o j)
  | 0, i, o, g, hd, hi, ho => by
    refine ⟨o, g, ho, fun r h => Ev.s ?_, by omega, fun h => .inl h, fun h => ⟨h, rfl, fun j h1 h2 => by omega⟩⟩
    simp only [impl_orbits.l2, show ¬ (i : Int) < (n : Int) by omega, if_false]
    rw [w64 (x := (q : Int) + 1) (by omega) (by omega), show ((q : Int) + 1) = ((q + 1 : Nat) : Int) by omega]
    exact h
  | d + 1, i, o, g, hd, hi, ho => by
    have hlt : i < n := by omega
    have hd1 : n - (i + 1) = d := by omega
    have hw : wrap64 ((i : Int) + 1) = ((i + 1 : Nat) : Int) := by rw [w64 (by omega) (by omega)]; omega
    have hr := pr i hlt
    have hst := Reach.step hP hlt
    have hlen := ho.1
    obtain ⟨t, ht⟩ : ∃ t : Nat, rd P i = t := ⟨(rd P i).toNat, by omega⟩
    rw [ht, Int.toNat_natCast] at hst
    have htn : t < n := by omega
    obtain ⟨i0, i1, i2⟩ := ho.2 i hlt
    obtain ⟨t0, t1, t2⟩ := ho.2 t htn
    obtain ⟨hm1, hm2, hm3⟩ := mn_le (rd o i) (rd o t)
    have g1 : (i : Int) < (n : Int) := by omega
    have g2 : (0 : Int) ≤ (i : Int) := by omega
    have g3 : (0 : Int) ≤ (t : Int) := by omega
    have g4 : (t : Int) < (n : Int) := by omega
    obtain ⟨v, hv⟩ : ∃ v, mn (rd o i) (rd o t) = v := ⟨_, rfl⟩
    rw [hv] at hm1 hm2 hm3
    by_cases hc : rd o i = v ∧ rd o t = v
    · obtain ⟨c1, c2⟩ := hc
      obtain ⟨o', g', a1, a2, a3, a4, a5⟩ := implOrb_in ps n hn q hq hL P hP pl pr d (i + 1) o g hd1 hlt ho
      refine ⟨o', g', a1, fun r h => Ev.s ?_, a3, a4, fun h => ?_⟩
      · simp only [impl_orbits.l2, g1, g2, g3, g4, pl, hlen, ht, hv, if_true, hw]
        simp only [c1, c2, if_true]
        exact a2 r h
      · obtain ⟨b1, b2, b3⟩ := a5 h
        refine ⟨b1, b2, fun j h1 h2 => ?_⟩
        by_cases e : j = i
        · rw [e, ht]; omega
        · exact b3 j (by omega) h2
    · have hv0 : 0 ≤ v := by omega
      have hrv : Reach ps n v.toNat i := by
        rcases hm3 with e | e
        · rw [e]; exact i2
        · rw [e]; exact t2.trans hst.symm
      have ho1 := orbI_put ho hlt hv0 (by omega) hrv
      have ho2 := orbI_put ho1 htn hv0 (by omega) (hrv.trans hst)
      have hd2 : tot ((o.set i v).set t v) < tot o := by
        have z1 := tot_set o i v (by omega)
        have z2 := tot_set (o.set i v) t v (by rw [List.length_set]; omega)
        by_cases e : i = t
        · subst e
          rw [rd_set_self _ _ _ (by omega)] at z2
          omega
        · rw [rd_set_ne _ _ _ _ e] at z2
          omega
      obtain ⟨o', g', a1, a2, a3, a4, a5⟩ := implOrb_in ps n hn q hq hL P hP pl pr d (i + 1) ((o.set i v).set t v) true hd1 hlt ho2
      refine ⟨o', g', a1, fun r h => Ev.s ?_, by omega, fun h => .inr (by omega), fun h => ?_⟩
      · have hgo := a2 r h
        by_cases c1 : rd o i = v
        · have c2 : ¬ rd o t = v := fun e => hc ⟨c1, e⟩
          simp only [impl_orbits.l2, g1, g2, g3, g4, pl, hlen, ht, hv, if_true, hw, Int.toNat_natCast]
          simp only [c1, c2, if_true, if_false]
          exact hgo
        · simp only [impl_orbits.l2, g1, g2, g3, g4, pl, hlen, ht, hv, if_true, hw, Int.toNat_natCast]
          simp only [c1, if_false]
          exact hgo
      · have := (a5 h).1
        cases this
theorem implOrb_pass (ps : List (List Int)) (n : Nat) (hn : n ≤ 12) (hL : ps.length ≤ 1048576) (hp : ∀ p ∈ ps, inR n p) : ∀ (d q : Nat) (o : List Int) (g : Bool), ps.length - q = d → q ≤ ps.length → orbI ps n o →
    ∃ (o' : List Int) (g' : Bool), orbI ps n o' ∧ (∀ r, Ev (fun k => impl_orbits.l0 k ps o' g') r → Ev (fun k => impl_orbits.l1 k ps o g ps ps.length q) r) ∧ tot o' ≤ tot o ∧
      (g' = true → g = true ∨ tot o' < tot o) ∧ (g' = false → g = false ∧ o' = o ∧ ∀ z : Nat, q ≤ z → z < ps.length → ∀ j : Nat, j < n → rd o (rd (rd_L2 ps z) j) = rd o j)
  | 0, q, o, g, hd, hi, ho => by
    refine ⟨o, g, ho, fun r h => Ev.s ?_, by omega, fun h => .inl h, fun h => ⟨h, rfl, fun j h1 h2 => by omega⟩⟩
    simp only [impl_orbits.l1, show ¬ (q : Int) < (ps.length : Int) by omega, if_false]
    exact h
  | d + 1, q, o, g, hd, hi, ho => by
    have hlt : q < ps.length := by omega
    have hd1 : ps.length - (q + 1) = d := by omega
    have hP : rd_L2 ps q ∈ ps := by rw [rdL_nth ps q hlt]; exact List.getElem_mem hlt
    obtain ⟨pl, pr⟩ := hp _ hP
    obtain ⟨o1, b1, c1, c2, c3, c4, c5⟩ := implOrb_in ps n hn q hlt hL _ hP pl pr n 0 o g (by omega) (by omega) ho
    obtain ⟨o2, b2, e1, e2, e3, e4, e5⟩ := implOrb_pass ps n hn hL hp d (q + 1) o1 b1 hd1 hlt c1
    refine ⟨o2, b2, e1, fun r h => Ev.s ?_, by omega, fun h => ?_, fun h => ?_⟩
    · simp only [impl_orbits.l1, show (q : Int) < (ps.length : Int) by omega, show (0 : Int) ≤ (q : Int) by omega, if_true, pl]
      exact c2 r (e2 r h)
    · rcases e4 h with z | z
      · rcases c4 z with y | y
        · exact .inl y
        · exact .inr (by omega)
      · exact .inr (by omega)
    · obtain ⟨f1, f2, f3⟩ := e5 h
      obtain ⟨g1, g2, g3⟩ := c5 f1
      refine ⟨g1, f2.trans g2, fun z hz hz' j hj => ?_⟩
      by_cases e : z = q
      · rw [e]; exact g3 j (by omega) hj
      · have := f3 z (by omega) hz' j hj
        rwa [g2] at this
theorem implOrb_loop (ps : List (List Int)) (n : Nat) (hn : n ≤ 12) (hL : ps.length ≤ 1048576) (hp : ∀ p ∈ ps, inR n p) : ∀ (m : Nat) (o : List Int), tot o ≤ m → orbI ps n o → ∃ o', orbOk ps n o' ∧ Ev (fun k => impl_orbits.l0 k ps o true) o' := by
  intro m
  induction m using Nat.strongRecOn with
  | _ m ih =>
    intro o hm ho
    obtain ⟨o1, g1, c1, c2, c3, c4, c5⟩ := implOrb_pass ps n hn hL hp ps.length 0 o false (by omega) (by omega) ho
    cases g1 with
    | false =>
      obtain ⟨_, e2, e3⟩ := c5 rfl
      refine ⟨o, ⟨ho, fun p hp' i hi => ?_⟩, Ev.s ?_⟩
      · obtain ⟨z, hz, rfl⟩ := List.mem_iff_getElem.1 hp'
        have := e3 z (by omega) hz i hi
        rwa [rdL_nth ps z hz] at this
      · simp only [impl_orbits.l0, if_true]
        refine c2 o (Ev.s ?_)
        simp only [impl_orbits.l0, Bool.false_eq_true, if_false]
        exact Ev.const (by rw [e2])
    | true =>
      have hlt : tot o1 < tot o := by
        rcases c4 rfl with z | z
        · cases z
        · exact z
      have h0 := tot_nonneg o1 fun i hi => (c1.2 i (by rw [← c1.1]; exact hi)).1
      obtain ⟨o', h1, h2⟩ := ih (tot o1).toNat (by omega) o1 (by omega) c1
      refine ⟨o', h1, Ev.s ?_⟩
      simp only [impl_orbits.l0, if_true]
      exact c2 o' h2
theorem implOrb_ev (ps : List (List Int)) (n : Nat) (hn : n ≤ 12) (h0 : 0 < ps.length) (hL : ps.length ≤ 1048576) (hp : ∀ p ∈ ps, inR n p) : ∃ o, orbOk ps n o ∧ Ev (fun k => impl_orbits.f k ps) o := by
  obtain ⟨o, h1, h2⟩ := implOrb_loop ps n hn hL hp (tot (stl n)).toNat (stl n) (by have := tot_nonneg (stl n) (fun i hi => by rw [stl_rd n i (by rwa [stl_length] at hi)]; omega); omega) (stl_orbI ps n)
  refine ⟨o, h1, ?_⟩
  unfold impl_orbits.f
  have hz : (rd_L2 ps 0).length = n := by
    have := rdL_nth ps 0 h0
    rw [show ((0 : Nat) : Int) = 0 from rfl] at this
    rw [this]
    exact (hp _ (List.getElem_mem h0)).1
  simp only [show (0 : Int) < (ps.length : Int) by omega, if_true, hz]
  exact Ev.bind (still_ev n (by omega)) h2
def lag (o g : List Int) : Nat → Nat
  | 0 => 0
  | i + 1 => (if rd o i = rd g i then 0 else 1) + lag o g i
theorem lag_le (o g : List Int) : ∀ i, lag o g i ≤ i
  | 0 => Nat.le_refl _
  | i + 1 => by have := lag_le o g i; simp only [lag]; split <;> omega
theorem lag_zero (o g : List Int) : ∀ n, lag o g n = 0 → ∀ i, i < n → rd o i = rd g i
  | 0, _, i, h => by omega
  | n + 1, hz, i, h => by
    simp only [lag] at hz
    by_cases e : i = n
    · subst e
      by_cases c : rd o i = rd g i
      · exact c
      · rw [if_neg c] at hz; omega
    · exact lag_zero o g n (by omega) i (by omega)
theorem lag_mono (o o' g : List Int) (h : ∀ i : Nat, rd o i = rd g i → rd o' i = rd g i) : ∀ n, lag o' g n ≤ lag o g n
  | 0 => Nat.le_refl _
  | n + 1 => by
    have ih := lag_mono o o' g h n
    simp only [lag]
    by_cases c : rd o n = rd g n
    · rw [if_pos c, if_pos (h n c)]; omega
    · rw [if_neg c]; split <;> omega
theorem lag_lt (o o' g : List Int) (h : ∀ i : Nat, rd o i = rd g i → rd o' i = rd g i) (z : Nat) (hz : rd o z ≠ rd g z) (hz' : rd o' z = rd g z) : ∀ n, z < n → lag o' g n < lag o g n
  | 0, hn => by omega
  | n + 1, hn => by
    simp only [lag]
    by_cases e : z = n
    · subst e
      have := lag_mono o o' g h z
      rw [if_neg hz, if_pos hz']; omega
    · have ih := lag_lt o o' g h z hz hz' n (by omega)
      by_cases c : rd o n = rd g n
      · rw [if_pos c, if_pos (h n c)]; omega
      · rw [if_neg c]; split <;> omega
theorem mn_eq (a b : Int) : mn a b = if a ≤ b then a else b := by unfold mn; split <;> split <;> omega
theorem specOrb_sweep (t f : List Int) (n : Nat) (hn : n ≤ 12) (ht : inR n t) (hf : inR n f) (g : List Int) (hg : orbOk [t, f] n g) (round : Int) : ∀ (d i : Nat) (o : List Int), n - i = d → i ≤ n → orbI [t, f] n o →
    ∃ o', orbI [t, f] n o' ∧ (∀ r, Ev (fun k => spec_l1Orbits.l0 k t f o' (wrap64 (round + 1))) r → Ev (fun k => spec_l1Orbits.l1 k t f o round i) r) ∧ (∀ z : Nat, z < n → rd o z = rd g z → rd o' z = rd g z) ∧
      (∀ j : Nat, i ≤ j → j < n → (rd o j = rd g j ∨ rd o (rd t j) = rd g (rd t j) ∨ rd o (rd f j) = rd g (rd f j)) → rd o' j = rd g j ∧ rd o' (rd t j) = rd g (rd t j) ∧ rd o' (rd f j) = rd g (rd f j))
  | 0, i, o, hd, hi, ho => by
    refine ⟨o, ho, fun r h => Ev.s ?_, fun z _ h => h, fun j h1 h2 => by omega⟩
    simp only [spec_l1Orbits.l1, ht.1, show ¬ (i : Int) < (n : Int) by omega, if_false]
    exact h
  | d + 1, i, o, hd, hi, ho => by
    have hlt : i < n := by omega
    have hd1 : n - (i + 1) = d := by omega
    have hw : wrap64 ((i : Int) + 1) = ((i + 1 : Nat) : Int) := by rw [w64 (by omega) (by omega)]; omega
    have hps : ∀ p ∈ [t, f], inR n p := by intro p hp; simp at hp; rcases hp with rfl | rfl <;> assumption
    have hra := ht.2 i hlt
    have hrb := hf.2 i hlt
    have sta := Reach.step (ps := [t, f]) (p := t) (by simp) hlt
    have stb := Reach.step (ps := [t, f]) (p := f) (by simp) hlt
    have ca := hg.2 t (by simp) i hlt
    have cb := hg.2 f (by simp) i hlt
    obtain ⟨a, hta⟩ : ∃ a : Nat, rd t i = a := ⟨(rd t i).toNat, by omega⟩
    obtain ⟨b, hfb⟩ : ∃ b : Nat, rd f i = b := ⟨(rd f i).toNat, by omega⟩
    rw [hta, Int.toNat_natCast] at sta
    rw [hfb, Int.toNat_natCast] at stb
    rw [hta] at ca
    rw [hfb] at cb
    have han : a < n := by omega
    have hbn : b < n := by omega
    have hlen := ho.1
    obtain ⟨i0, i1, i2⟩ := ho.2 i hlt
    obtain ⟨a0, a1, a2⟩ := ho.2 a han
    obtain ⟨b0, b1, b2⟩ := ho.2 b hbn
    have li := orbOk_le hg ho hps hlt
    have la := orbOk_le hg ho hps han
    have lb := orbOk_le hg ho hps hbn
    obtain ⟨v, hv⟩ : ∃ v, mn (rd o i) (mn (rd o a) (rd o b)) = v := ⟨_, rfl⟩
    have hvm : v ≤ rd o i ∧ v ≤ rd o a ∧ v ≤ rd o b ∧ (v = rd o i ∨ v = rd o a ∨ v = rd o b) := by
      rw [← hv, mn_eq, mn_eq]
      split <;> split at * <;> omega
    have hv0 : 0 ≤ v := by omega
    have hrv : Reach [t, f] n v.toNat i := by
      rcases hvm.2.2.2 with e | e | e
      · rw [e]; exact i2
      · rw [e]; exact a2.trans sta.symm
      · rw [e]; exact b2.trans stb.symm
    have ho1 := orbI_put ho hlt hv0 (by omega) hrv
    have ho2 := orbI_put ho1 han hv0 (by omega) (hrv.trans sta)
    have ho3 := orbI_put ho2 hbn hv0 (by omega) (hrv.trans stb)
    obtain ⟨o3, ho3e⟩ : ∃ o3, ((o.set i v).set a v).set b v = o3 := ⟨_, rfl⟩
    rw [ho3e] at ho3
    have rdo3 : ∀ z : Nat, rd o3 z = if z = i ∨ z = a ∨ z = b then v else rd o z := by
      intro z
      rw [← ho3e]
      by_cases z3 : b = z
      · subst z3; rw [rd_set_self _ _ _ (by simp; omega)]; simp
      · rw [rd_set_ne _ _ _ _ z3]
        by_cases z2 : a = z
        · subst z2; rw [rd_set_self _ _ _ (by simp; omega)]; simp
        · rw [rd_set_ne _ _ _ _ z2]
          by_cases z1 : i = z
          · subst z1; rw [rd_set_self _ _ _ (by omega)]; simp
          · rw [rd_set_ne _ _ _ _ z1, if_neg (by omega)]
    have keep3 : ∀ z : Nat, z < n → rd o z = rd g z → rd o3 z = rd g z := by
      intro z hz e
      have l3 := orbOk_le hg ho3 hps hz
      rw [rdo3 z] at l3 ⊢
      by_cases c : z = i ∨ z = a ∨ z = b
      · rw [if_pos c] at l3 ⊢
        have : v ≤ rd o z := by rcases c with rfl | rfl | rfl <;> omega
        omega
      · rw [if_neg c]; exact e
    obtain ⟨o', c1, c2, c3, c4⟩ := specOrb_sweep t f n hn ht hf g hg round d (i + 1) o3 hd1 hlt ho3
    refine ⟨o', c1, fun r h => Ev.s ?_, fun z hz e => c3 z hz (keep3 z hz e), fun j h1 h2 hj => ?_⟩
    · have hgo := c2 r h
      have g1 : (i : Int) < (n : Int) := by omega
      have g2 : (0 : Int) ≤ (i : Int) := by omega
      have g3 : (0 : Int) ≤ (a : Int) := by omega
      have g4 : (a : Int) < (n : Int) := by omega
      have g5 : (0 : Int) ≤ (b : Int) := by omega
      have g6 : (b : Int) < (n : Int) := by omega
      simp only [spec_l1Orbits.l1, ht.1, hf.1, hlen, g1, g2, g3, g4, g5, g6, hta, hfb, hv, if_true, hw, Int.toNat_natCast, ho3e]
      exact hgo
    · by_cases e : j = i
      · subst e
        have l3 := orbOk_le hg ho3 hps hlt
        have e3 : rd o3 j = v := by rw [rdo3 j, if_pos (.inl rfl)]
        have ea3 : rd o3 a = v := by rw [rdo3 a, if_pos (.inr (.inl rfl))]
        have eb3 : rd o3 b = v := by rw [rdo3 b, if_pos (.inr (.inr rfl))]
        rw [hta, hfb] at hj ⊢
        have hvg : v = rd g j := by
          rcases hj with z | z | z <;> omega
        exact ⟨c3 j hlt (by omega), c3 a han (by omega), c3 b hbn (by omega)⟩
      · refine c4 j (by omega) h2 ?_
        have hta' := ht.2 j h2
        have hfb' := hf.2 j h2
        obtain ⟨a', ha'⟩ : ∃ a' : Nat, rd t j = a' := ⟨(rd t j).toNat, by omega⟩
        obtain ⟨b', hb'⟩ : ∃ b' : Nat, rd f j = b' := ⟨(rd f j).toNat, by omega⟩
        rw [ha', hb'] at hj ⊢
        rcases hj with z | z | z
        · exact .inl (keep3 j h2 z)
        · exact .inr (.inl (keep3 a' (by omega) z))
        · exact .inr (.inr (keep3 b' (by omega) z))
theorem specOrb_loop (t f : List Int) (n : Nat) (hn : n ≤ 12) (ht : inR n t) (hf : inR n f) (g : List Int) (hg : orbOk [t, f] n g) : ∀ (d i : Nat) (o : List Int), n - i = d → i ≤ n → orbI [t, f] n o → lag o g n ≤ d → Ev (fun k => spec_l1Orbits.l0 k t f o i) g
  | 0, i, o, hd, hi, ho, hl => by
    refine Ev.s ?_
    simp only [spec_l1Orbits.l0, ht.1, show ¬ (i : Int) < (n : Int) by omega, if_false]
    have : o = g := list_ext o g (ho.1.trans hg.1.1.symm) fun z hz => lag_zero o g n (by omega) z (by rw [← ho.1]; exact hz)
    exact Ev.const (by rw [this])
  | d + 1, i, o, hd, hi, ho, hl => by
    have hlt : i < n := by omega
    have hd1 : n - (i + 1) = d := by omega
    have hw : wrap64 ((i : Int) + 1) = ((i + 1 : Nat) : Int) := by rw [w64 (by omega) (by omega)]; omega
    have hps : ∀ p ∈ [t, f], inR n p := by intro p hp; simp at hp; rcases hp with rfl | rfl <;> assumption
    obtain ⟨o', c1, c2, c3, c4⟩ := specOrb_sweep t f n hn ht hf g hg i n 0 o (by omega) (by omega) ho
    refine Ev.s ?_
    simp only [spec_l1Orbits.l0, ht.1, show (i : Int) < (n : Int) by omega, if_true]
    refine c2 g ?_
    rw [hw]
    refine specOrb_loop t f n hn ht hf g hg d (i + 1) o' hd1 hlt c1 ?_
    have hout : ∀ z : Nat, ¬ z < n → rd o z = rd o' z := by
      intro z hz
      unfold rd
      rw [Int.toNat_natCast, List.getD_eq_getElem?_getD, List.getD_eq_getElem?_getD, List.getElem?_eq_none (by rw [ho.1]; omega), List.getElem?_eq_none (by rw [c1.1]; omega)]
    have keep : ∀ z : Nat, rd o z = rd g z → rd o' z = rd g z := fun z e => by
      by_cases hz : z < n
      · exact c3 z hz e
      · rw [← hout z hz]; exact e
    by_cases hz : lag o g n = 0
    · have := lag_mono o o' g keep n
      omega
    · -- some point has not its label: some step leads from one that has it to one that has it not
      have hex : ∃ z : Nat, z < n ∧ rd o z ≠ rd g z ∧ rd o' z = rd g z := by
        refine Classical.byContradiction fun hno => ?_
        have hsame : ∀ z : Nat, z < n → (rd o z = rd g z ↔ rd o' z = rd g z) := fun z hz => ⟨keep z, fun e => Classical.byContradiction fun hne => hno ⟨z, hz, hne, e⟩⟩
        have hcl : closedL [t, f] n (fun z => rd o z = rd g z) := by
          intro p hp k hk
          have hr := (hps p hp).2 k hk
          obtain ⟨a, ha⟩ : ∃ a : Nat, rd p k = a := ⟨(rd p k).toNat, by omega⟩
          have han : a < n := by omega
          rw [ha, Int.toNat_natCast]
          show rd o k = rd g k ↔ rd o a = rd g a
          have h4 := c4 k (by omega) hk
          simp at hp
          rcases hp with rfl | rfl
          · rw [ha] at h4
            exact ⟨fun e => (hsame a han).2 (h4 (.inl e)).2.1, fun e => (hsame k hk).2 (h4 (.inr (.inl e))).1⟩
          · rw [ha] at h4
            exact ⟨fun e => (hsame a han).2 (h4 (.inl e)).2.2, fun e => (hsame k hk).2 (h4 (.inr (.inr e))).1⟩
        have hall : ∀ z : Nat, z < n → rd o z = rd g z := by
          intro z hz
          obtain ⟨g0, g1, g2⟩ := hg.1.2 z hz
          have hm : (rd g z).toNat < n := by omega
          have e1 : ((rd g z).toNat : Int) = rd g z := by omega
          have hgm : rd g ((rd g z).toNat : Nat) = rd g z := orbOk_const hg hps g2
          have hom : rd o ((rd g z).toNat : Nat) = rd g ((rd g z).toNat : Nat) := by
            have h1 := orbOk_le hg ho hps hm
            have h2 := (ho.2 _ hm).2.1
            omega
          exact (g2 _ hcl).1 hom
        have : lag o g n = 0 := by
          have hz0 : ∀ m, m ≤ n → lag o g m = 0 := by
            intro m
            induction m with
            | zero => intro _; rfl
            | succ m ih => intro hm; simp only [lag]; rw [if_pos (hall m (by omega)), ih (by omega)]
          exact hz0 n (Nat.le_refl _)
        exact hz this
      obtain ⟨z, z1, z2, z3⟩ := hex
      have := lag_lt o o' g keep z z2 z3 n z1
      omega
theorem orb_both (t f : List Int) (n : Nat) (hn : n ≤ 12) (h1 : 1 ≤ n) (ht : inR n t) (hf : inR n f) : ∃ o, orbOk [t, f] n o ∧ Ev (fun k => spec_l1Orbits.f k t f) o ∧ Ev (fun k => impl_orbits.f k [t, f]) o := by
  have hps : ∀ p ∈ [t, f], inR n p := by intro p hp; simp at hp; rcases hp with rfl | rfl <;> assumption
  obtain ⟨o, ho, he⟩ := implOrb_ev [t, f] n hn (by simp) (by simp) hps
  refine ⟨o, ho, ?_, he⟩
  unfold spec_l1Orbits.f
  rw [ht.1]
  refine Ev.bind (same_ev n (by omega)) ?_
  refine specOrb_loop t f n hn ht hf o ho n 0 (stl n) (by omega) (by omega) (stl_orbI _ n) ?_
  exact lag_le _ _ n
theorem isPerm_inR (l : List Int) (h : isPerm l) : inR l.length l := ⟨rfl, fun i hi => ⟨(h.2.2 i hi).1, (h.2.2 i hi).2.1⟩⟩
end Go.Proofs.Ytjgknblneokhlaa.PA
