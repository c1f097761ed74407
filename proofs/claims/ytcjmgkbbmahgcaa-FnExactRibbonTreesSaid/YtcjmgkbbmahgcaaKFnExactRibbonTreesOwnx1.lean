/- For every map, RibbonTrees of the program answers what RibbonTrees of the reference answers, and leaves the map as it was. There are no conditions. -/
import Derived.Test.YtcjmgkbbmahgcaaKFnRibCx4
import Derived.Deep.OwnRows
import Derived.Laws.Rows
import Derived.Test.YtcjmgkbbmahgcaaRows
namespace Go.Proofs.Ytcjmgkbbmahgcaa.PU
open Go.RowKit Go.Proofs.YtcjmgkbbmahgcaaW.PrintWords Go.Proofs.YtcjmgkbbmahgcaaW.PrintLast Go.Proofs.YtcjmgkbbmahgcaaW.PrintMore
attribute [local go_sem] max2_int min2_int max_two min_two max_three min_three max_four min_four   -- for this text's walks alone
set_option linter.unusedVariables false
set_option linter.unusedSimpArgs false
def spec_ChoiceTree.f (k : Nat) (l0_0 : List Int) (l0_1 : List Int) (l1 : List Int) : Option (Bool) := (spec_ChoiceCounts.f k l0_0 l0_1 l1).bind fun bt408 => (if bt408.2 = true then (if 0 < (bt408.1.length : Int) then (if (rd bt408.1 0) = 1 then (if 3 < (bt408.1.length : Int) then (some ((rd bt408.1 3) == 0)) else (none)) else (some false)) else (none)) else (some false))
set_option maxHeartbeats 8000000 in
set_option maxRecDepth 100000 in
theorem spec_ChoiceTree.calls (k : Nat) (A0_0 : Option Addr) (c0_0 : Nat) (l0_0 : List Int) (A0_1 : Option Addr) (c0_1 : Nat) (l0_1 : List Int) (A1 : Option Addr) (c1 : Nat) (l1 : List Int) (r : Bool) (w : World) (hr0_0 : Kd.C (Kd.int .i64) w A0_0 l0_0.length l0_0) (hc0_0 : l0_0.length ≤ c0_0) (hr0_1 : Kd.C (Kd.int .i64) w A0_1 l0_1.length l0_1) (hc0_1 : l0_1.length ≤ c0_1) (hr1 : Kd.C (Kd.int .i64) w A1 l1.length l1) (hc1 : l1.length ≤ c1) (h : spec_ChoiceTree.f k l0_0 l0_1 l1 = some r) :
  Calls Try.prog 34 #[.agg #[.slice A0_0 l0_0.length c0_0, .slice A0_1 l0_1.length c0_1], .slice A1 l1.length c1] w fun e w' => e = .returned (.bool r) ∧ Below w.heap.size w w' := by
 have hu27 := Try.underlying27; have HR0_0 := Az hr0_0; have HC0_0 := Az hc0_0; clear hr0_0 hc0_0; have HR0_1 := Az hr0_1; have HC0_1 := Az hc0_1; clear hr0_1 hc0_1; have HR1 := Az hr1; have HC1 := Az hc1; clear hr1 hc1; have HB := Az (Below.refl w.heap.size w); have H : ((spec_ChoiceCounts.f k l0_0 l0_1 l1).bind fun bt408 => (if bt408.2 = true then (if 0 < (bt408.1.length : Int) then (if (rd bt408.1 0) = 1 then (if 3 < (bt408.1.length : Int) then (some ((rd bt408.1 3) == 0)) else (none)) else (some false)) else (none)) else (some false))) = some r := h; clear h; replace H := Option.bind_eq_some_iff.mp H; obtain ⟨⟨t408, t411⟩, A30, H⟩ := H; replace H : (if t411 = true then (if 0 < (t408.length : Int) then (if (rd t408 0) = 1 then (if 3 < (t408.length : Int) then (some ((rd t408 3) == 0)) else (none)) else (some false)) else (none)) else (some false)) = some r := H; have A3 := Az A30; clear A30
 by_cases c4 : t411 = true
 ·
  subst c4
  have H1 : (if 0 < (t408.length : Int) then (if (rd t408 0) = 1 then (if 3 < (t408.length : Int) then (some ((rd t408 3) == 0)) else (none)) else (some false)) else (none)) = some r := by rw [if_pos rfl] at H; exact H
  clear H; have H := H1; clear H1
  by_cases c5 : 0 < (t408.length : Int)
  ·
   rw [if_pos c5] at H; have c5b0 := decide_eq_true c5; have c5b1 : decide (0 < t408.length) = true := decide_eq_true (by omega); clear c5
   by_cases c6 : (rd t408 0) = 1
   ·
    rw [if_pos c6] at H; have c6b0 := beq_iff_eq.mpr c6; have c6b1 := bne_eq_false_iff_eq.mpr c6; clear c6
    by_cases c7 : 3 < (t408.length : Int)
    ·
     rw [if_pos c7] at H; have c7b0 := decide_eq_true c7; have c7b1 : decide (3 < t408.length) = true := decide_eq_true (by omega); clear c7; obtain rfl := Option.some.inj H
     go_enter Try.func34, Try.ntmps34
     go_wp2_with (first | ((with_reducible refine gate_dst (N := 2) rfl ?_); refine box_event ?hg (N := 2) ?hd (cs := #[.slice A0_0 l0_0.length c0_0, .slice A0_1 l0_1.length c0_1]) (t := 27) ?hr ?_; (case hd => rfl); (case hg => rfl); (case hr => first | (go_simp; done) | (go_simp; rfl)); intro gb407 hg w8 hbox hb; have n0 := Az (below_step (bU0 HB.out) hb); have n1 := Az (hbox); have n2 := Az ((by rw [hg]; exact (below_size (bU0 HB.out)) : w.heap.size ≤ gb407)); have n3 := n2; clear HB; have HB := n0; have BK407 := n1; have GW407 := n2; have GE407 := n3; clear n0 n1 n2 n3 hb hbox hg; have hcz9_0 : w8.cell? ⟨gb407, 0, none⟩ = some (.slice A0_0 l0_0.length c0_0) := (blk_cell BK407.out 0).trans rfl; have hcz9_1 : w8.cell? ⟨gb407, 1, none⟩ = some (.slice A0_1 l0_1.length c0_1) := (blk_cell BK407.out 1).trans rfl; have hfz9_0 := blk_frozen BK407.out 0; have hfz9_1 := blk_frozen BK407.out 1) | ((with_reducible refine gate_callee (f := 32) rfl ?_); refine goesL_ (some 10) rfl rfl Try.func32 (by kernel_rfl) rfl #[.agg #[.slice A0_0 l0_0.length c0_0, .slice A0_1 l0_1.length c0_1], .slice A1 l1.length c1] rfl (by (try simp only [List.map_toArray, List.map_cons, List.map_nil]); first | done | rfl | (simp only [List.length_drop, List.length_take]; rfl)) ?_; (with_reducible refine (spec_ChoiceCounts.calls k _ _ l0_0 _ _ l0_1 _ _ l1 t408 true _ ?side1 ?side2 ?side3 ?side4 ?side5 ?side6 A3.out).mono ?_); (case side1 => exact cU (Kd.C_below HR0_0.out HB.out)); (case side2 => exact HC0_0.out); (case side3 => exact cU (Kd.C_below HR0_1.out HB.out)); (case side4 => exact HC0_1.out); (case side5 => exact cU (Kd.C_below HR1.out HB.out)); (case side6 => exact HC1.out); rintro e w10 ⟨v409, rfl, ho0, hb⟩; refine ⟨_, rfl, ?_⟩; have n0 := Az (Kd.R_lower ho0 (below_size (bU1 HB.out GE407.out))); have n1 := Az (blk_below (g := gb407) (o := .cells #[.slice A0_0 l0_0.length c0_0, .slice A0_1 l0_1.length c0_1] 27 (0, 0)) (kU BK407.out) hb); have n2 := Az (below_step (bU1 HB.out GE407.out) hb); clear BK407 HB; have HO410 := n0; have BK407 := n1; have HB := n2; clear n0 n1 n2; (try clear hb); (try clear hb2); (try clear hk); (try clear hi); (try clear ho0); obtain ⟨Ao11, co11, eo11⟩ := Kd.R_slice HO410.out; subst eo11; have p412 : 0 ≤ (0 : Int) := (by omega); have q412 : 0 < (t408.length : Int) := oA; obtain ⟨ad412, e412, hx412_0⟩ := Kd.at_int (Kd.R_reads' HO410.out).2.2 0 p412 q412; cases e412; have qi412 : (0 < t408.length) = True := eq_true (by omega); (try rw [show ((0 : Int)).toNat = 0 from rfl] at hx412_0); (try rw [Addr.add_zero'] at hx412_0); replace p412 := eq_true p412; replace q412 := eq_true q412; have p413 : 0 ≤ (3 : Int) := (by omega); have q413 : 3 < (t408.length : Int) := oA; obtain ⟨ad413, e413, hx413_0⟩ := Kd.at_int (Kd.R_reads' HO410.out).2.2 3 p413 q413; obtain rfl : ad412 = ad413 := (by injection e413); (try simp only [show (3 : Int).toNat = 3 from rfl, Nat.reduceMul, Nat.reduceEqDiff, Go.Addr.add, ↓reduceIte] at hx413_0); have qi413 : (3 < t408.length) = True := eq_true (by omega); (try rw [show ((3 : Int)).toNat = 3 from rfl] at hx413_0); replace p413 := eq_true p413; replace q413 := eq_true q413))
     go_ret
     exact ⟨rE, bU1 HB.out GE407.out⟩
    ·
     rw [if_neg c7] at H
     exact absurd H (by simp)
   ·
    rw [if_neg c6] at H; have c6b0 := beq_eq_false_iff_ne.mpr c6; have c6b1 := bne_iff_ne.mpr c6; obtain rfl := Option.some.inj H
    go_enter Try.func34, Try.ntmps34
    go_wp2_with (first | ((with_reducible refine gate_dst (N := 2) rfl ?_); refine box_event ?hg (N := 2) ?hd (cs := #[.slice A0_0 l0_0.length c0_0, .slice A0_1 l0_1.length c0_1]) (t := 27) ?hr ?_; (case hd => rfl); (case hg => rfl); (case hr => first | (go_simp; done) | (go_simp; rfl)); intro gb407 hg w12 hbox hb; have n0 := Az (below_step (bU0 HB.out) hb); have n1 := Az (hbox); have n2 := Az ((by rw [hg]; exact (below_size (bU0 HB.out)) : w.heap.size ≤ gb407)); have n3 := n2; clear HB; have HB := n0; have BK407 := n1; have GW407 := n2; have GE407 := n3; clear n0 n1 n2 n3 hb hbox hg; have hcz13_0 : w12.cell? ⟨gb407, 0, none⟩ = some (.slice A0_0 l0_0.length c0_0) := (blk_cell BK407.out 0).trans rfl; have hcz13_1 : w12.cell? ⟨gb407, 1, none⟩ = some (.slice A0_1 l0_1.length c0_1) := (blk_cell BK407.out 1).trans rfl; have hfz13_0 := blk_frozen BK407.out 0; have hfz13_1 := blk_frozen BK407.out 1) | ((with_reducible refine gate_callee (f := 32) rfl ?_); refine goesL_ (some 10) rfl rfl Try.func32 (by kernel_rfl) rfl #[.agg #[.slice A0_0 l0_0.length c0_0, .slice A0_1 l0_1.length c0_1], .slice A1 l1.length c1] rfl (by (try simp only [List.map_toArray, List.map_cons, List.map_nil]); first | done | rfl | (simp only [List.length_drop, List.length_take]; rfl)) ?_; (with_reducible refine (spec_ChoiceCounts.calls k _ _ l0_0 _ _ l0_1 _ _ l1 t408 true _ ?side1 ?side2 ?side3 ?side4 ?side5 ?side6 A3.out).mono ?_); (case side1 => exact cU (Kd.C_below HR0_0.out HB.out)); (case side2 => exact HC0_0.out); (case side3 => exact cU (Kd.C_below HR0_1.out HB.out)); (case side4 => exact HC0_1.out); (case side5 => exact cU (Kd.C_below HR1.out HB.out)); (case side6 => exact HC1.out); rintro e w14 ⟨v409, rfl, ho0, hb⟩; refine ⟨_, rfl, ?_⟩; have n0 := Az (Kd.R_lower ho0 (below_size (bU1 HB.out GE407.out))); have n1 := Az (blk_below (g := gb407) (o := .cells #[.slice A0_0 l0_0.length c0_0, .slice A0_1 l0_1.length c0_1] 27 (0, 0)) (kU BK407.out) hb); have n2 := Az (below_step (bU1 HB.out GE407.out) hb); clear BK407 HB; have HO410 := n0; have BK407 := n1; have HB := n2; clear n0 n1 n2; (try clear hb); (try clear hb2); (try clear hk); (try clear hi); (try clear ho0); obtain ⟨Ao15, co15, eo15⟩ := Kd.R_slice HO410.out; subst eo15; have p412 : 0 ≤ (0 : Int) := (by omega); have q412 : 0 < (t408.length : Int) := oA; obtain ⟨ad412, e412, hx412_0⟩ := Kd.at_int (Kd.R_reads' HO410.out).2.2 0 p412 q412; cases e412; have qi412 : (0 < t408.length) = True := eq_true (by omega); (try rw [show ((0 : Int)).toNat = 0 from rfl] at hx412_0); (try rw [Addr.add_zero'] at hx412_0); replace p412 := eq_true p412; replace q412 := eq_true q412))
    go_ret
    exact ⟨rE, bU1 HB.out GE407.out⟩
  ·
   rw [if_neg c5] at H
   exact absurd H (by simp)
 ·
  replace c4 := Bool.eq_false_iff.mpr c4; subst c4
  have H1 : (some false) = some r := by rw [if_neg (show ¬ (false = true) by decide)] at H; exact H
  clear H; have H := H1; clear H1; obtain rfl := Option.some.inj H
  go_enter Try.func34, Try.ntmps34
  go_wp2_with (first | ((with_reducible refine gate_dst (N := 2) rfl ?_); refine box_event ?hg (N := 2) ?hd (cs := #[.slice A0_0 l0_0.length c0_0, .slice A0_1 l0_1.length c0_1]) (t := 27) ?hr ?_; (case hd => rfl); (case hg => rfl); (case hr => first | (go_simp; done) | (go_simp; rfl)); intro gb407 hg w16 hbox hb; have n0 := Az (below_step (bU0 HB.out) hb); have n1 := Az (hbox); have n2 := Az ((by rw [hg]; exact (below_size (bU0 HB.out)) : w.heap.size ≤ gb407)); have n3 := n2; clear HB; have HB := n0; have BK407 := n1; have GW407 := n2; have GE407 := n3; clear n0 n1 n2 n3 hb hbox hg; have hcz17_0 : w16.cell? ⟨gb407, 0, none⟩ = some (.slice A0_0 l0_0.length c0_0) := (blk_cell BK407.out 0).trans rfl; have hcz17_1 : w16.cell? ⟨gb407, 1, none⟩ = some (.slice A0_1 l0_1.length c0_1) := (blk_cell BK407.out 1).trans rfl; have hfz17_0 := blk_frozen BK407.out 0; have hfz17_1 := blk_frozen BK407.out 1) | ((with_reducible refine gate_callee (f := 32) rfl ?_); refine goesL_ (some 10) rfl rfl Try.func32 (by kernel_rfl) rfl #[.agg #[.slice A0_0 l0_0.length c0_0, .slice A0_1 l0_1.length c0_1], .slice A1 l1.length c1] rfl (by (try simp only [List.map_toArray, List.map_cons, List.map_nil]); first | done | rfl | (simp only [List.length_drop, List.length_take]; rfl)) ?_; (with_reducible refine (spec_ChoiceCounts.calls k _ _ l0_0 _ _ l0_1 _ _ l1 t408 false _ ?side1 ?side2 ?side3 ?side4 ?side5 ?side6 A3.out).mono ?_); (case side1 => exact cU (Kd.C_below HR0_0.out HB.out)); (case side2 => exact HC0_0.out); (case side3 => exact cU (Kd.C_below HR0_1.out HB.out)); (case side4 => exact HC0_1.out); (case side5 => exact cU (Kd.C_below HR1.out HB.out)); (case side6 => exact HC1.out); rintro e w18 ⟨v409, rfl, ho0, hb⟩; refine ⟨_, rfl, ?_⟩; have n0 := Az (Kd.R_lower ho0 (below_size (bU1 HB.out GE407.out))); have n1 := Az (blk_below (g := gb407) (o := .cells #[.slice A0_0 l0_0.length c0_0, .slice A0_1 l0_1.length c0_1] 27 (0, 0)) (kU BK407.out) hb); have n2 := Az (below_step (bU1 HB.out GE407.out) hb); clear BK407 HB; have HO410 := n0; have BK407 := n1; have HB := n2; clear n0 n1 n2; (try clear hb); (try clear hb2); (try clear hk); (try clear hi); (try clear ho0)))
  go_ret
  exact ⟨rE, bU1 HB.out GE407.out⟩
end Go.Proofs.Ytcjmgkbbmahgcaa.PU

set_option linter.unusedVariables false
set_option linter.unusedSimpArgs false
namespace Go.Proofs.Ytcjmgkbbmahgcaa.PU
open Go.RowKit Go.Proofs.YtcjmgkbbmahgcaaW.PrintWords Go.Proofs.YtcjmgkbbmahgcaaW.PrintLast Go.Proofs.YtcjmgkbbmahgcaaW.PrintMore
theorem choiceTree_both (t f c : List Int) (ht : t.length ≤ 1048576) (hf : f.length ≤ 1048576) (hc : c.length ≤ 1048576) : ∃ r : Bool, Ev (fun k => spec_ChoiceTree.f k t f c) r ∧ Ev (fun k => impl_ChoiceTree.f k t f c) r := by
  obtain ⟨P, S, V, b, b1, b2, b3⟩ := counts_both t f c ht hf hc
  unfold spec_ChoiceTree.f impl_ChoiceTree.f
  cases b with
  | true =>
    obtain ⟨h2, h3⟩ := b3 rfl
    have e0 : rd (fiveN P S V c.length) 0 = P := rfl
    by_cases hP : (P : Int) = 1
    · refine ⟨rd (fiveN P S V c.length) 3 == 0, ?_, ?_⟩
      · refine Ev.bind (specCounts_ev b1 h2) ?_
        simp only [if_true, five_len, e0, hP, show (0 : Int) < ((5 : Nat) : Int) by omega, show (3 : Int) < ((5 : Nat) : Int) by omega]
        exact Ev.const rfl
      · refine Ev.bind b2 ?_
        simp only [if_true]
        refine Ev.bind h3 ?_
        simp only [if_true, five_len, e0, hP, show (0 : Int) < ((5 : Nat) : Int) by omega, show (3 : Int) < ((5 : Nat) : Int) by omega]
        exact Ev.const rfl
    · refine ⟨false, ?_, ?_⟩
      · refine Ev.bind (specCounts_ev b1 h2) ?_
        simp only [if_true, five_len, e0, hP, if_false, show (0 : Int) < ((5 : Nat) : Int) by omega]
        exact Ev.const rfl
      · refine Ev.bind b2 ?_
        simp only [if_true]
        refine Ev.bind h3 ?_
        simp only [if_true, five_len, e0, hP, if_false, show (0 : Int) < ((5 : Nat) : Int) by omega]
        exact Ev.const rfl
  | false =>
    refine ⟨false, ?_, ?_⟩
    · refine Ev.bind (specCounts_no b1) ?_
      simp only [Bool.false_eq_true, if_false]
      exact Ev.const rfl
    · refine Ev.bind b2 ?_
      simp only [Bool.false_eq_true, if_false]
      exact Ev.const rfl
end Go.Proofs.Ytcjmgkbbmahgcaa.PU

namespace Go.Proofs.Ytcjmgkbbmahgcaa.PU
open Go.RowKit Go.Proofs.YtcjmgkbbmahgcaaW.PrintWords Go.Proofs.YtcjmgkbbmahgcaaW.PrintLast Go.Proofs.YtcjmgkbbmahgcaaW.PrintMore
attribute [local go_sem] max2_int min2_int max_two min_two max_three min_three max_four min_four   -- for this text's walks alone
set_option linter.unusedVariables false
set_option linter.unusedSimpArgs false
def spec_RibbonTrees.l0 : Nat → Int → List (List Int) → Int → List Int → List Int → Option (Int)
 | 0, _, _, _, _, _ => none
 | k + 1, x3, x4, x5, xZ0, xZ1 => if x5 < (x4.length : Int) then (if 0 ≤ x5 then ((spec_ChoiceTree.f k xZ0 xZ1 (rd_L1 x4 x5)).bind fun t514 => (if t514 = true then (spec_RibbonTrees.l0 k (wrap64 (x3 + 1)) x4 (wrap64 (x5 + 1)) xZ0 xZ1) else (spec_RibbonTrees.l0 k x3 x4 (wrap64 (x5 + 1)) xZ0 xZ1))) else (none)) else (some x3)
def spec_RibbonTrees.f (k : Nat) (l0_0 : List Int) (l0_1 : List Int) : Option (Int) := (spec_MapValid.f k l0_0 l0_1).bind fun t509 => (if t509 = true then ((spec_l7All.f k (wrap64 ((l0_1.length : Int) / 2))).bind fun t510 => (spec_RibbonTrees.l0 k 0 t510 0 l0_0 l0_1)) else (some (-1)))
set_option maxHeartbeats 8000000 in
set_option maxRecDepth 100000 in
theorem spec_RibbonTrees.calls (k : Nat) (A0_0 : Option Addr) (c0_0 : Nat) (l0_0 : List Int) (A0_1 : Option Addr) (c0_1 : Nat) (l0_1 : List Int) (r : Int) (w : World) (hr0_0 : Kd.C (Kd.int .i64) w A0_0 l0_0.length l0_0) (hc0_0 : l0_0.length ≤ c0_0) (hr0_1 : Kd.C (Kd.int .i64) w A0_1 l0_1.length l0_1) (hc0_1 : l0_1.length ≤ c0_1) (h : spec_RibbonTrees.f k l0_0 l0_1 = some r) :
  Calls Try.prog 44 #[.agg #[.slice A0_0 l0_0.length c0_0, .slice A0_1 l0_1.length c0_1]] w fun e w' => e = .returned (.int .i64 r) ∧ Below w.heap.size w w' := by
 have hu27 := Try.underlying27; have HR0_0 := Az hr0_0; have HC0_0 := Az hc0_0; clear hr0_0 hc0_0; have HR0_1 := Az hr0_1; have HC0_1 := Az hc0_1; clear hr0_1 hc0_1; have HB := Az (Below.refl w.heap.size w); have H : ((spec_MapValid.f k l0_0 l0_1).bind fun t509 => (if t509 = true then ((spec_l7All.f k (wrap64 ((l0_1.length : Int) / 2))).bind fun t510 => (spec_RibbonTrees.l0 k 0 t510 0 l0_0 l0_1)) else (some (-1)))) = some r := h; clear h; replace H := Option.bind_eq_some_iff.mp H; obtain ⟨t509, A20, H⟩ := H; replace H : (if t509 = true then ((spec_l7All.f k (wrap64 ((l0_1.length : Int) / 2))).bind fun t510 => (spec_RibbonTrees.l0 k 0 t510 0 l0_0 l0_1)) else (some (-1))) = some r := H; have A2 := Az A20; clear A20
 by_cases c3 : t509 = true
 ·
  subst c3
  have H1 : ((spec_l7All.f k (wrap64 ((l0_1.length : Int) / 2))).bind fun t510 => (spec_RibbonTrees.l0 k 0 t510 0 l0_0 l0_1)) = some r := by rw [if_pos rfl] at H; exact H
  clear H; have H := H1; clear H1; replace H := Option.bind_eq_some_iff.mp H; obtain ⟨t510, A40, H⟩ := H; replace H : (spec_RibbonTrees.l0 k 0 t510 0 l0_0 l0_1) = some r := H; have A4 := Az A40; clear A40; have H' := Az H; clear H
  go_enter Try.func44, Try.ntmps44
  go_wp2_with (first | ((with_reducible refine gate_dst (N := 1) rfl ?_); refine box_event ?hg (N := 1) ?hd (cs := #[.slice A0_0 l0_0.length c0_0, .slice A0_1 l0_1.length c0_1]) (t := 27) ?hr ?_; (case hd => rfl); (case hg => rfl); (case hr => first | (go_simp; done) | (go_simp; rfl)); intro gb508 hg w5 hbox hb; have n0_ := Az (below_step (bU0 HB.out) hb); have n1_ := Az (hbox); have n2_ := Az ((by rw [hg]; exact (below_size (bU0 HB.out)) : w.heap.size ≤ gb508)); have n3_ := n2_; clear HB; have HB := n0_; have BK508 := n1_; have GW508 := n2_; have GE508 := n3_; clear n0_ n1_ n2_ n3_ hb hbox hg; have hcz6_0 : w5.cell? ⟨gb508, 0, none⟩ = some (.slice A0_0 l0_0.length c0_0) := (blk_cell BK508.out 0).trans rfl; have hcz6_1 : w5.cell? ⟨gb508, 1, none⟩ = some (.slice A0_1 l0_1.length c0_1) := (blk_cell BK508.out 1).trans rfl; have hfz6_0 := blk_frozen BK508.out 0; have hfz6_1 := blk_frozen BK508.out 1) | ((with_reducible refine gate_callee (f := 50) rfl ?_); refine goesL_ (some 7) rfl rfl Try.func50 (by kernel_rfl) rfl #[.agg #[.slice A0_0 l0_0.length c0_0, .slice A0_1 l0_1.length c0_1]] rfl (by (try simp only [List.map_toArray, List.map_cons, List.map_nil]); first | done | rfl | (simp only [List.length_drop, List.length_take]; rfl)) ?_; (with_reducible refine (spec_MapValid.calls k _ _ l0_0 _ _ l0_1 true _ ?side1 ?side2 ?side3 ?side4 A2.out).mono ?_); (case side1 => exact cU (Kd.C_below HR0_0.out HB.out)); (case side2 => exact HC0_0.out); (case side3 => exact cU (Kd.C_below HR0_1.out HB.out)); (case side4 => exact HC0_1.out); rintro e w7 ⟨rfl, hb⟩; refine ⟨_, rfl, ?_⟩; have n0_ := Az (blk_below (g := gb508) (o := .cells #[.slice A0_0 l0_0.length c0_0, .slice A0_1 l0_1.length c0_1] 27 (0, 0)) (kU BK508.out) hb); have n1_ := Az (below_step (bU1 HB.out GE508.out) hb); clear BK508 HB; have BK508 := n0_; have HB := n1_; clear n0_ n1_; (try clear hb); (try clear hb2); (try clear hk); (try clear hi); have hcz8_0 : w7.cell? ⟨gb508, 0, none⟩ = some (.slice A0_0 l0_0.length c0_0) := (blk_cell BK508.out 0).trans rfl; have hcz8_1 : w7.cell? ⟨gb508, 1, none⟩ = some (.slice A0_1 l0_1.length c0_1) := (blk_cell BK508.out 1).trans rfl; have hfz8_0 := blk_frozen BK508.out 0; have hfz8_1 := blk_frozen BK508.out 1) | ((with_reducible refine gate_callee (f := 67) rfl ?_); refine goesL_ (some 13) rfl rfl Try.func67 (by kernel_rfl) rfl #[.int .i64 (wrap64 ((l0_1.length : Int) / 2))] rfl (by (try simp only [List.map_toArray, List.map_cons, List.map_nil]); first | done | rfl | (simp only [List.length_drop, List.length_take]; rfl)) ?_; (with_reducible refine (spec_l7All.calls k (wrap64 ((l0_1.length : Int) / 2)) t510 _ A4.out).mono ?_); rintro e w9 ⟨v511, rfl, ho0, hb⟩; refine ⟨_, rfl, ?_⟩; have n0_ := Az (Kd.N_lower (Kd.N_mono (ok' := fun k_ => k_ ≠ gb508) ho0 (fun k_ hk_ => (Kd.freshB (g := gb508) (o := .cells #[.slice A0_0 l0_0.length c0_0, .slice A0_1 l0_1.length c0_1] 27 (0, 0)) (kU BK508.out) k_ hk_))) (below_size (bU1 HB.out GE508.out))); have n1_ := Az (blk_below (g := gb508) (o := .cells #[.slice A0_0 l0_0.length c0_0, .slice A0_1 l0_1.length c0_1] 27 (0, 0)) (kU BK508.out) hb); have n2_ := Az (below_step (bU1 HB.out GE508.out) hb); clear BK508 HB; have HO512 := n0_; have BK508 := n1_; have HB := n2_; clear n0_ n1_ n2_; (try clear hb); (try clear hb2); (try clear hk); (try clear hi); (try clear ho0)))
  go_loopg [3, 5] k (fun kq v3 v5 w' => ∃ (x3_1 : Int) (x5_1 : Int), v3 = .int .i64 x3_1 ∧ v5 = .int .i64 x5_1 ∧ Aside0 (spec_RibbonTrees.l0 kq x3_1 t510 x5_1 l0_0 l0_1 = some r) ∧ Aside0 (kq ≤ k) ∧ Aside0 (Kd.N (Kd.slice 3 (Kd.int .i64)) 22 w' w.heap.size (fun k_ => k_ ≠ gb508) v511 t510) ∧ Aside0 (w'.heap[gb508]? = some (.cells #[(.slice A0_0 l0_0.length c0_0), (.slice A0_1 l0_1.length c0_1)] 27 (0, 0))) ∧ Aside0 (Below w.heap.size w w'))
  case atStart => exact ⟨(0), (0), rS, rS, H', ⟨Nat.le_refl _⟩, ⟨nU HO512.out⟩, ⟨kU BK508.out⟩, ⟨bU1 HB.out GE508.out⟩⟩
  case round =>
   clear H'; (try clear p2); (try clear c3); (try clear c4); (try clear c5); (try clear c6); (try clear p6); (try clear hcz6_0); (try clear hcz6_1); (try clear hcz8_0); (try clear hcz8_1); (try clear hfz6_0); (try clear hfz6_1); (try clear hfz8_0); (try clear hfz8_1); obtain ⟨x3_1, x5_1, rfl, rfl, HA, HK1, HO_4, BK508, HB⟩ := hrel
   cases gk with
   | zero => exact absurd HA.out (by simp [spec_RibbonTrees.l0])
   | succ k1 =>
    have H := HA.out; clear HA; simp only [spec_RibbonTrees.l0] at H
    by_cases c10 : x5_1 < (t510.length : Int)
    ·
     rw [if_pos c10] at H; have c10b0 := decide_eq_true c10; clear c10
     by_cases c11 : 0 ≤ x5_1
     ·
      rw [if_pos c11] at H; have c11b0 := decide_eq_true c11; clear c11; replace H := Option.bind_eq_some_iff.mp H; obtain ⟨t514, A120, H⟩ := H; replace H : (if t514 = true then (spec_RibbonTrees.l0 k1 (wrap64 (x3_1 + 1)) t510 (wrap64 (x5_1 + 1)) l0_0 l0_1) else (spec_RibbonTrees.l0 k1 x3_1 t510 (wrap64 (x5_1 + 1)) l0_0 l0_1)) = some r := H; have A12 := Az A120; clear A120
      by_cases c13 : t514 = true
      ·
       subst c13
       have H1 : (spec_RibbonTrees.l0 k1 (wrap64 (x3_1 + 1)) t510 (wrap64 (x5_1 + 1)) l0_0 l0_1) = some r := by rw [if_pos rfl] at H; exact H
       clear H; have H := H1; clear H1; have H' := Az H; clear H; obtain ⟨Ao14, co14, eo14⟩ := Kd.N_slice HO_4.out; subst eo14
       try go_wp2
       have n0_ := Az (Kd.N_drew HO_4.out); have n1_ := Az (blk_drew BK508.out); have n2_ := Az (below_drew1 HB.out); clear HO_4 BK508 HB; have HO_4 := n0_; have BK508 := n1_; have HB := n2_; clear n0_ n1_ n2_; have p513 : 0 ≤ (x5_1 : Int) := oA; have q513 : x5_1 < (t510.length : Int) := oA; obtain ⟨ad513, A513_0, c513_0, e513, hx513_0, hl513_0, hi513_0⟩ := at_L1 (Kd.N_reads' HO_4.out).2.2 x5_1 p513 q513
       cases e513
       obtain ⟨ce513, hce513, hMe513, hcc513⟩ := Kd.N_get HO_4.out [] x5_1 p513 (by first | exact q513 | exact oA | (have e_ := (Kd.N_reads' HO_4.out).1; omega)); obtain ⟨ua513_0, uc513_0, rfl, ul513_0, ge513_0⟩ := Kd.FK_slice_open hMe513; have hv513_0 := hcc513 0 _ rfl; rw [Nat.add_zero, show ((Kd.slice 3 (Kd.int .i64))).sz = 1 from rfl, Nat.mul_one] at hv513_0; replace hv513_0 := Option.some.inj (hv513_0.symm.trans hx513_0); injection hv513_0 with hva_ hvn_ hvc_; rw [hva_] at ge513_0; rw [hvc_] at ul513_0; have HL513_0 := Az (show Kd.V (Kd.int .i64) 3 _ w.heap.size _ _ (rd_L1 t510 x5_1) from Kd.V_mk ul513_0 ge513_0); clear hva_ hvn_ hvc_ ge513_0 ul513_0 hcc513 hce513; have HR513_0 := Az hi513_0; have HC513_0 := Az hl513_0; clear hi513_0 hl513_0; replace p513 := eq_true p513; replace q513 := eq_true q513
       refine start_ (n := 6) (S := fun w' => w'.cell? ⟨gb508, 0, none⟩ = some (.slice A0_0 l0_0.length c0_0) ∧ w'.cell? ⟨gb508, 1, none⟩ = some (.slice A0_1 l0_1.length c0_1) ∧ w'.cell? (ad513.add (x5_1).toNat) = some (.slice A513_0 (rd_L1 t510 x5_1).length c513_0)) (ds := []) #[false, false, false, false, false, false] (by kernel_rfl) rfl rfl ⟨(blk_cell BK508.out 0).trans rfl, (blk_cell BK508.out 1).trans rfl, hx513_0⟩ (fun hHeld => ?_)
       generalize wr.drew = w15 at HO_4 BK508 HB HL513_0 HR513_0 hx513_0 hHeld ⊢
       refine pure_ (i := 1) (N := some 21) (v := ?_) (a' := ?_) #[false, true, false, false, false, false] rfl rfl (by kernel_rfl) (fun _ _ _ h => h) (Or.inl ⟨by rfl, ?_⟩) ?_ ?_
       rotate_left
       ·
        intro w'
        go_simp
        with_reducible rfl
       rotate_left
       ·
        simp only [Act.put, List.setIfInBounds_toArray, List.set_cons_zero, List.set_cons_succ, i64_w, i32_w]
        rfl
       refine pure_ (i := 2) (N := some 22) (v := ?_) (a' := ?_) #[false, true, true, false, false, false] rfl rfl (by kernel_rfl) (fun _ _ _ h => h) (Or.inl ⟨by rfl, ?_⟩) ?_ ?_
       rotate_left
       ·
        intro w'
        go_simp
        with_reducible rfl
       rotate_left
       ·
        simp only [Act.put, List.setIfInBounds_toArray, List.set_cons_zero, List.set_cons_succ, i64_w, i32_w]
        rfl
       refine pure_ (i := 3) (N := some 23) (v := ?_) (a' := ?_) #[false, true, true, true, false, false] rfl rfl (by kernel_rfl) (fun _ _ _ h => h) (Or.inl ⟨by rfl, ?_⟩) ?_ ?_
       rotate_left
       ·
        intro w'
        go_simp
        with_reducible rfl
       rotate_left
       ·
        simp only [Act.put, List.setIfInBounds_toArray, List.set_cons_zero, List.set_cons_succ, i64_w, i32_w]
        rfl
       refine take_ (i := 0) (N := some 20) (v := ?_) (a' := ?_) #[true, true, true, true, false, false] rfl rfl (by kernel_rfl) (fun _ _ _ h => h) (Or.inl ⟨by rfl, ?_⟩) hHeld ?_ ?_
       rotate_left
       ·
        rintro w' ⟨s0, s1, s2⟩
        go_simp
        with_reducible rfl
       rotate_left
       ·
        simp only [Act.put, List.setIfInBounds_toArray, List.set_cons_zero, List.set_cons_succ, i64_w, i32_w]
        rfl
       refine take_ (i := 4) (N := some 24) (v := ?_) (a' := ?_) #[true, true, true, true, true, false] rfl rfl (by kernel_rfl) (fun _ _ _ h => h) (Or.inl ⟨by rfl, ?_⟩) hHeld ?_ ?_
       rotate_left
       ·
        rintro w' ⟨s0, s1, s2⟩
        go_simp
        with_reducible rfl
       rotate_left
       ·
        simp only [Act.put, List.setIfInBounds_toArray, List.set_cons_zero, List.set_cons_succ, i64_w, i32_w]
        rfl
       refine one_ (i := 5) (N := some 25) #[true, true, true, true, true, true] rfl rfl (by kernel_rfl) (by decide) (fun K hK => ?_)
       refine goes_ Try.func34 (by kernel_rfl) rfl #[.agg #[.slice A0_0 l0_0.length c0_0, .slice A0_1 l0_1.length c0_1], .slice A513_0 (rd_L1 t510 x5_1).length c513_0] (by rfl) rfl rfl (by (try simp only [List.map_toArray, List.map_cons, List.map_nil]); first | done | rfl | (simp only [List.length_drop, List.length_take]; rfl)) ?_
       with_reducible refine (spec_ChoiceTree.calls k1 _ _ l0_0 _ _ l0_1 _ _ (rd_L1 t510 x5_1) true _ ?side1 ?side2 ?side3 ?side4 ?side5 ?side6 A12.out).mono ?_
       (case side1 => exact cU (Kd.C_below HR0_0.out HB.out))
       (case side2 => exact HC0_0.out)
       (case side3 => exact cU (Kd.C_below HR0_1.out HB.out))
       (case side4 => exact HC0_1.out)
       (case side5 => exact cU (by repeat (first | (with_reducible exact HR513_0.out) | (with_reducible refine Kd.C_alloc ?_ _) | (with_reducible refine Kd.C_drewN ?_ _) | (with_reducible refine Kd.C_drew ?_) | exact HR513_0.out)))
       (case side6 => exact HC513_0.out)
       rintro e w16 ⟨rfl, hb⟩
       have HS2_ := (hb.cell (World.block_lt_of_cell? _ _ (hHeld.2.2))).trans (hHeld.2.2)
       refine ⟨_, rfl, ?_⟩
       have n0_ := Az (Kd.N_below (nU HO_4.out) hb); have n1_ := Az (Kd.V_below (vU HL513_0.out) hb); have n2_ := Az (blk_below (g := gb508) (o := .cells #[.slice A0_0 l0_0.length c0_0, .slice A0_1 l0_1.length c0_1] 27 (0, 0)) (kU BK508.out) hb); have n3_ := Az (Kd.C_below (by repeat (first | (with_reducible exact HR513_0.out) | (with_reducible refine Kd.C_alloc ?_ _) | (with_reducible refine Kd.C_drewN ?_ _) | (with_reducible refine Kd.C_drew ?_) | exact HR513_0.out)) hb); have n4_ := Az (below_step (bU1 HB.out GE508.out) hb); clear HO_4 HL513_0 BK508 HR513_0 HB; have HO_4 := n0_; have HL513_0 := n1_; have BK508 := n2_; have HR513_0 := n3_; have HB := n4_; clear n0_ n1_ n2_ n3_ n4_; (try clear hb); (try clear hb2); (try clear hk); (try clear hi)
       refine hK.out _ _ ⟨(blk_cell BK508.out 0).trans rfl, (blk_cell BK508.out 1).trans rfl, HS2_⟩ (fun hHeld => ?_)
       clear hK K
       refine norm_ (a' := ?_) ?_ ?_
       rotate_left
       ·
        show Act.put _ (some 25) _ = _
        simp only [Act.put, List.setIfInBounds_toArray, List.set_cons_zero, List.set_cons_succ, i64_w, i32_w]
        rfl
       refine done_ (by kernel_rfl) ?_
       try go_wp2
       (first | go_roundg k1 | (refine Handed.intro k1 ?measure ?_; rotate_left; go_step; (try simp only [add_plain]); (repeat apply Exists.intro); refine ⟨?rel, rfl⟩))
       case measure => have := HK1.out; omega
       case rel => exact ⟨(wrap64 (x3_1 + 1)), (wrap64 (x5_1 + 1)), rS, rS, H', ⟨by have := HK1.out; omega⟩, ⟨nU HO_4.out⟩, ⟨kU BK508.out⟩, ⟨bU1 HB.out GE508.out⟩⟩
      ·
       replace c13 := Bool.eq_false_iff.mpr c13; subst c13
       have H1 : (spec_RibbonTrees.l0 k1 x3_1 t510 (wrap64 (x5_1 + 1)) l0_0 l0_1) = some r := by rw [if_neg (show ¬ (false = true) by decide)] at H; exact H
       clear H; have H := H1; clear H1; have H' := Az H; clear H; obtain ⟨Ao17, co17, eo17⟩ := Kd.N_slice HO_4.out; subst eo17
       try go_wp2
       have n0_ := Az (Kd.N_drew HO_4.out); have n1_ := Az (blk_drew BK508.out); have n2_ := Az (below_drew1 HB.out); clear HO_4 BK508 HB; have HO_4 := n0_; have BK508 := n1_; have HB := n2_; clear n0_ n1_ n2_; have p513 : 0 ≤ (x5_1 : Int) := oA; have q513 : x5_1 < (t510.length : Int) := oA; obtain ⟨ad513, A513_0, c513_0, e513, hx513_0, hl513_0, hi513_0⟩ := at_L1 (Kd.N_reads' HO_4.out).2.2 x5_1 p513 q513
       cases e513
       obtain ⟨ce513, hce513, hMe513, hcc513⟩ := Kd.N_get HO_4.out [] x5_1 p513 (by first | exact q513 | exact oA | (have e_ := (Kd.N_reads' HO_4.out).1; omega)); obtain ⟨ua513_0, uc513_0, rfl, ul513_0, ge513_0⟩ := Kd.FK_slice_open hMe513; have hv513_0 := hcc513 0 _ rfl; rw [Nat.add_zero, show ((Kd.slice 3 (Kd.int .i64))).sz = 1 from rfl, Nat.mul_one] at hv513_0; replace hv513_0 := Option.some.inj (hv513_0.symm.trans hx513_0); injection hv513_0 with hva_ hvn_ hvc_; rw [hva_] at ge513_0; rw [hvc_] at ul513_0; have HL513_0 := Az (show Kd.V (Kd.int .i64) 3 _ w.heap.size _ _ (rd_L1 t510 x5_1) from Kd.V_mk ul513_0 ge513_0); clear hva_ hvn_ hvc_ ge513_0 ul513_0 hcc513 hce513; have HR513_0 := Az hi513_0; have HC513_0 := Az hl513_0; clear hi513_0 hl513_0; replace p513 := eq_true p513; replace q513 := eq_true q513
       refine start_ (n := 6) (S := fun w' => w'.cell? ⟨gb508, 0, none⟩ = some (.slice A0_0 l0_0.length c0_0) ∧ w'.cell? ⟨gb508, 1, none⟩ = some (.slice A0_1 l0_1.length c0_1) ∧ w'.cell? (ad513.add (x5_1).toNat) = some (.slice A513_0 (rd_L1 t510 x5_1).length c513_0)) (ds := []) #[false, false, false, false, false, false] (by kernel_rfl) rfl rfl ⟨(blk_cell BK508.out 0).trans rfl, (blk_cell BK508.out 1).trans rfl, hx513_0⟩ (fun hHeld => ?_)
       generalize wr.drew = w18 at HO_4 BK508 HB HL513_0 HR513_0 hx513_0 hHeld ⊢
       refine pure_ (i := 1) (N := some 21) (v := ?_) (a' := ?_) #[false, true, false, false, false, false] rfl rfl (by kernel_rfl) (fun _ _ _ h => h) (Or.inl ⟨by rfl, ?_⟩) ?_ ?_
       rotate_left
       ·
        intro w'
        go_simp
        with_reducible rfl
       rotate_left
       ·
        simp only [Act.put, List.setIfInBounds_toArray, List.set_cons_zero, List.set_cons_succ, i64_w, i32_w]
        rfl
       refine pure_ (i := 2) (N := some 22) (v := ?_) (a' := ?_) #[false, true, true, false, false, false] rfl rfl (by kernel_rfl) (fun _ _ _ h => h) (Or.inl ⟨by rfl, ?_⟩) ?_ ?_
       rotate_left
       ·
        intro w'
        go_simp
        with_reducible rfl
       rotate_left
       ·
        simp only [Act.put, List.setIfInBounds_toArray, List.set_cons_zero, List.set_cons_succ, i64_w, i32_w]
        rfl
       refine pure_ (i := 3) (N := some 23) (v := ?_) (a' := ?_) #[false, true, true, true, false, false] rfl rfl (by kernel_rfl) (fun _ _ _ h => h) (Or.inl ⟨by rfl, ?_⟩) ?_ ?_
       rotate_left
       ·
        intro w'
        go_simp
        with_reducible rfl
       rotate_left
       ·
        simp only [Act.put, List.setIfInBounds_toArray, List.set_cons_zero, List.set_cons_succ, i64_w, i32_w]
        rfl
       refine take_ (i := 0) (N := some 20) (v := ?_) (a' := ?_) #[true, true, true, true, false, false] rfl rfl (by kernel_rfl) (fun _ _ _ h => h) (Or.inl ⟨by rfl, ?_⟩) hHeld ?_ ?_
       rotate_left
       ·
        rintro w' ⟨s0, s1, s2⟩
        go_simp
        with_reducible rfl
       rotate_left
       ·
        simp only [Act.put, List.setIfInBounds_toArray, List.set_cons_zero, List.set_cons_succ, i64_w, i32_w]
        rfl
       refine take_ (i := 4) (N := some 24) (v := ?_) (a' := ?_) #[true, true, true, true, true, false] rfl rfl (by kernel_rfl) (fun _ _ _ h => h) (Or.inl ⟨by rfl, ?_⟩) hHeld ?_ ?_
       rotate_left
       ·
        rintro w' ⟨s0, s1, s2⟩
        go_simp
        with_reducible rfl
       rotate_left
       ·
        simp only [Act.put, List.setIfInBounds_toArray, List.set_cons_zero, List.set_cons_succ, i64_w, i32_w]
        rfl
       refine one_ (i := 5) (N := some 25) #[true, true, true, true, true, true] rfl rfl (by kernel_rfl) (by decide) (fun K hK => ?_)
       refine goes_ Try.func34 (by kernel_rfl) rfl #[.agg #[.slice A0_0 l0_0.length c0_0, .slice A0_1 l0_1.length c0_1], .slice A513_0 (rd_L1 t510 x5_1).length c513_0] (by rfl) rfl rfl (by (try simp only [List.map_toArray, List.map_cons, List.map_nil]); first | done | rfl | (simp only [List.length_drop, List.length_take]; rfl)) ?_
       with_reducible refine (spec_ChoiceTree.calls k1 _ _ l0_0 _ _ l0_1 _ _ (rd_L1 t510 x5_1) false _ ?side1 ?side2 ?side3 ?side4 ?side5 ?side6 A12.out).mono ?_
       (case side1 => exact cU (Kd.C_below HR0_0.out HB.out))
       (case side2 => exact HC0_0.out)
       (case side3 => exact cU (Kd.C_below HR0_1.out HB.out))
       (case side4 => exact HC0_1.out)
       (case side5 => exact cU (by repeat (first | (with_reducible exact HR513_0.out) | (with_reducible refine Kd.C_alloc ?_ _) | (with_reducible refine Kd.C_drewN ?_ _) | (with_reducible refine Kd.C_drew ?_) | exact HR513_0.out)))
       (case side6 => exact HC513_0.out)
       rintro e w19 ⟨rfl, hb⟩
       have HS2_ := (hb.cell (World.block_lt_of_cell? _ _ (hHeld.2.2))).trans (hHeld.2.2)
       refine ⟨_, rfl, ?_⟩
       have n0_ := Az (Kd.N_below (nU HO_4.out) hb); have n1_ := Az (Kd.V_below (vU HL513_0.out) hb); have n2_ := Az (blk_below (g := gb508) (o := .cells #[.slice A0_0 l0_0.length c0_0, .slice A0_1 l0_1.length c0_1] 27 (0, 0)) (kU BK508.out) hb); have n3_ := Az (Kd.C_below (by repeat (first | (with_reducible exact HR513_0.out) | (with_reducible refine Kd.C_alloc ?_ _) | (with_reducible refine Kd.C_drewN ?_ _) | (with_reducible refine Kd.C_drew ?_) | exact HR513_0.out)) hb); have n4_ := Az (below_step (bU1 HB.out GE508.out) hb); clear HO_4 HL513_0 BK508 HR513_0 HB; have HO_4 := n0_; have HL513_0 := n1_; have BK508 := n2_; have HR513_0 := n3_; have HB := n4_; clear n0_ n1_ n2_ n3_ n4_; (try clear hb); (try clear hb2); (try clear hk); (try clear hi)
       refine hK.out _ _ ⟨(blk_cell BK508.out 0).trans rfl, (blk_cell BK508.out 1).trans rfl, HS2_⟩ (fun hHeld => ?_)
       clear hK K
       refine norm_ (a' := ?_) ?_ ?_
       rotate_left
       ·
        show Act.put _ (some 25) _ = _
        simp only [Act.put, List.setIfInBounds_toArray, List.set_cons_zero, List.set_cons_succ, i64_w, i32_w]
        rfl
       refine done_ (by kernel_rfl) ?_
       try go_wp2
       (first | go_roundg k1 | (refine Handed.intro k1 ?measure ?_; rotate_left; go_step; (try simp only [add_plain]); (repeat apply Exists.intro); refine ⟨?rel, rfl⟩))
       case measure => have := HK1.out; omega
       case rel => exact ⟨(x3_1), (wrap64 (x5_1 + 1)), rS, rS, H', ⟨by have := HK1.out; omega⟩, ⟨nU HO_4.out⟩, ⟨kU BK508.out⟩, ⟨bU1 HB.out GE508.out⟩⟩
     ·
      rw [if_neg c11] at H
      exact absurd H (by simp)
    ·
     rw [if_neg c10] at H; have c10b0 := decide_eq_false c10; clear c10; obtain rfl := Option.some.inj H; obtain ⟨Ao20, co20, eo20⟩ := Kd.N_slice HO_4.out; subst eo20
     go_wp2
     go_ret
     exact ⟨rE, bU1 HB.out GE508.out⟩
 ·
  replace c3 := Bool.eq_false_iff.mpr c3; subst c3
  have H1 : (some (-1)) = some r := by rw [if_neg (show ¬ (false = true) by decide)] at H; exact H
  clear H; have H := H1; clear H1; obtain rfl := Option.some.inj H
  go_enter Try.func44, Try.ntmps44
  go_wp2_with (first | ((with_reducible refine gate_dst (N := 1) rfl ?_); refine box_event ?hg (N := 1) ?hd (cs := #[.slice A0_0 l0_0.length c0_0, .slice A0_1 l0_1.length c0_1]) (t := 27) ?hr ?_; (case hd => rfl); (case hg => rfl); (case hr => first | (go_simp; done) | (go_simp; rfl)); intro gb508 hg w21 hbox hb; have n0_ := Az (below_step (bU0 HB.out) hb); have n1_ := Az (hbox); have n2_ := Az ((by rw [hg]; exact (below_size (bU0 HB.out)) : w.heap.size ≤ gb508)); have n3_ := n2_; clear HB; have HB := n0_; have BK508 := n1_; have GW508 := n2_; have GE508 := n3_; clear n0_ n1_ n2_ n3_ hb hbox hg; have hcz22_0 : w21.cell? ⟨gb508, 0, none⟩ = some (.slice A0_0 l0_0.length c0_0) := (blk_cell BK508.out 0).trans rfl; have hcz22_1 : w21.cell? ⟨gb508, 1, none⟩ = some (.slice A0_1 l0_1.length c0_1) := (blk_cell BK508.out 1).trans rfl; have hfz22_0 := blk_frozen BK508.out 0; have hfz22_1 := blk_frozen BK508.out 1) | ((with_reducible refine gate_callee (f := 50) rfl ?_); refine goesL_ (some 7) rfl rfl Try.func50 (by kernel_rfl) rfl #[.agg #[.slice A0_0 l0_0.length c0_0, .slice A0_1 l0_1.length c0_1]] rfl (by (try simp only [List.map_toArray, List.map_cons, List.map_nil]); first | done | rfl | (simp only [List.length_drop, List.length_take]; rfl)) ?_; (with_reducible refine (spec_MapValid.calls k _ _ l0_0 _ _ l0_1 false _ ?side1 ?side2 ?side3 ?side4 A2.out).mono ?_); (case side1 => exact cU (Kd.C_below HR0_0.out HB.out)); (case side2 => exact HC0_0.out); (case side3 => exact cU (Kd.C_below HR0_1.out HB.out)); (case side4 => exact HC0_1.out); rintro e w23 ⟨rfl, hb⟩; refine ⟨_, rfl, ?_⟩; have n0_ := Az (blk_below (g := gb508) (o := .cells #[.slice A0_0 l0_0.length c0_0, .slice A0_1 l0_1.length c0_1] 27 (0, 0)) (kU BK508.out) hb); have n1_ := Az (below_step (bU1 HB.out GE508.out) hb); clear BK508 HB; have BK508 := n0_; have HB := n1_; clear n0_ n1_; (try clear hb); (try clear hb2); (try clear hk); (try clear hi)))
  go_ret
  exact ⟨rE, bU1 HB.out GE508.out⟩
def tch.l0 : Nat → List Int → List Int → Int → Int → Int → Option Int
 | 0, _, _, _, _, _ => none
 | k + 1, t, f, x, s, lim => if s < lim then ((tch.l1 k [] s 0 ((f.length : Int) / 2)).bind fun c => (impl_ChoiceTree.f k t f c).bind fun b => tch.l0 k t f (if b = true then wrap64 (x + 1) else x) (wrap64 (s + 1)) lim) else some x
def impl_RibbonTrees.f (k : Nat) (t f : List Int) : Option Int := (impl_MapValid.f k t f).bind fun v => if v = true then (if f.length ≤ 12 then tch.l0 k t f 0 0 (wrap64 (2 ^ (f.length / 2))) else none) else some (-1)
set_option maxHeartbeats 4000000 in
set_option maxRecDepth 100000 in
theorem tch.calls (k : Nat) (A0 : Option Addr) (c0 : Nat) (l0 : List Int) (A1 : Option Addr) (c1 : Nat) (l1 : List Int) (gm gn : Nat) (x r : Int) (w0 w : World)
  (hB : Below w0.heap.size w0 w) (hgm : w0.heap.size ≤ gm) (hgn : w0.heap.size ≤ gn)
  (hbm : w.heap[gm]? = some (.cells #[.slice A0 l0.length c0, .slice A1 l1.length c1] 27 (0, 0))) (hbn : w.heap[gn]? = some (.cells #[.int .i64 x] 3 (0, 0)))
  (hr0 : Kd.C (Kd.int .i64) w0 A0 l0.length l0) (hc0 : l0.length ≤ c0) (hr1 : Kd.C (Kd.int .i64) w0 A1 l1.length l1) (hc1 : l1.length ≤ c1) (hE : l1.length ≤ 12) (h : tch.l0 k l0 l1 x 0 (wrap64 (2 ^ (l1.length / 2))) = some r) :
  Calls Try.prog 69 #[.agg #[.slice A0 l0.length c0, .slice A1 l1.length c1], .func (.func 76) #[] #[.pointer (some ⟨gm, 0, none⟩), .pointer (some ⟨gn, 0, none⟩)]] w fun e w' =>
   e = .returned (.tuple #[]) ∧ Below w0.heap.size w0 w' ∧ w'.heap[gm]? = some (.cells #[.slice A0 l0.length c0, .slice A1 l1.length c1] 27 (0, 0)) ∧ w'.heap[gn]? = some (.cells #[.int .i64 r] 3 (0, 0)) := by
 have hu25 := Try.underlying27; have HB := Az hB; have BM := Az hbm; have BN := Az hbn; have HR0 := Az hr0; have HR1 := Az hr1; clear hB hbm hbn hr0 hr1
 go_enter Try.func69, Try.ntmps69
 go_wp2_with (first | ((with_reducible refine gate_dst (N := 2) rfl ?_); refine box_event ?hg (N := 2) ?hd (cs := #[.slice A0 l0.length c0, .slice A1 l1.length c1]) (t := 27) ?hr ?_; (case hd => rfl); (case hg => rfl); (case hr => first | (go_simp; done) | (go_simp; rfl)); intro gb hg w5 hbox hb; have n1 := Az (below_step HB.out hb); have n2 := Az (blk_below BM.out hb); have n3 := Az (blk_below BN.out hb); have BK := Az hbox; have GE := Az ((by rw [hg]; exact below_size HB.out) : w0.heap.size ≤ gb); clear HB BM BN hb hbox hg; have HB := n1; have BM := n2; have BN := n3; clear n1 n2 n3; have hcz0 : w5.cell? ⟨gb, 0, none⟩ = some (.slice A0 l0.length c0) := (blk_cell BK.out 0).trans rfl; have hcz1 : w5.cell? ⟨gb, 1, none⟩ = some (.slice A1 l1.length c1) := (blk_cell BK.out 1).trans rfl))
 have H' := Az h; clear h hcz0 hcz1
 generalize hlim : wrap64 (2 ^ (l1.length / 2)) = lim at H' ⊢
 have HLIM := Az hlim; clear hlim
 go_loopg [12] k (fun kq v12 w' => ∃ (s x' : Int), v12 = .int .i64 s ∧ Aside0 (tch.l0 kq l0 l1 x' s lim = some r) ∧ Aside0 (kq ≤ k) ∧ Aside0 (w'.heap[gb]? = some (.cells #[.slice A0 l0.length c0, .slice A1 l1.length c1] 27 (0, 0))) ∧ Aside0 (w'.heap[gm]? = some (.cells #[.slice A0 l0.length c0, .slice A1 l1.length c1] 27 (0, 0))) ∧ Aside0 (w'.heap[gn]? = some (.cells #[.int .i64 x'] 3 (0, 0))) ∧ Aside0 (Below w0.heap.size w0 w'))
 case atStart => exact ⟨0, x, rfl, H', ⟨Nat.le_refl _⟩, BK, BM, BN, HB⟩
 case round =>
  clear H' BK BM BN HB; obtain ⟨s, x', rfl, HA, HK1, BK, BM, BN, HB⟩ := hrel
  cases gk with
  | zero => exact absurd HA.out (by simp [tch.l0])
  | succ k1 =>
   have H := HA.out; clear HA; simp only [tch.l0] at H
   by_cases c2 : s < lim
   ·
    rw [if_pos c2] at H; have c2b : decide (s < lim) = true := decide_eq_true c2; clear c2; obtain ⟨cs, A1_, H⟩ := Option.bind_eq_some_iff.mp H; obtain ⟨b, A2_, H⟩ := Option.bind_eq_some_iff.mp H; have HA1 := Az A1_; have HA2 := Az A2_; have H' := Az H; clear A1_ A2_ H; have hcz0 : wr.cell? ⟨gb, 0, none⟩ = some (.slice A0 l0.length c0) := (blk_cell BK.out 0).trans rfl; have hcz1 : wr.cell? ⟨gb, 1, none⟩ = some (.slice A1 l1.length c1) := (blk_cell BK.out 1).trans rfl
    go_wp2_with (first | ((with_reducible refine gate_dst (N := 15) rfl ?_); (try (refine gate_guard (by rfl) ?_; dsimp only)); refine Kd.R_lit (Kd.int .i64) _ 3 ?hg (N := 15) ?hd (xs := ([] : List Int)) (inner := []) (ok := fun _ => True) (okp := fun _ => True) ?hr ?hp (fun _ hk => hk) trivial (Below.refl _ _) (Nat.le_refl _) (by simp) ?_; (case hd => rfl); (case hg => rfl); (case hr => first | (go_simp; done) | (go_simp; rfl)); (case hp => exact (Reps.none _ _)); intro v15 w6 ho6 hb hg_ hnew_; clear hg_ hnew_; have n1 := Az (Kd.R_lower (Kd.R_mono (ok' := fun k_ => k_ ≠ gn) (Kd.R_bound ho6) (fun k hk e => absurd (blk_lt BN.out) (by rw [← e]; exact Nat.not_lt.mpr hk.2.1))) (below_size HB.out)); have n2 := Az (blk_below BK.out hb); have n3 := Az (blk_below BM.out hb); have n4 := Az (blk_below BN.out hb); have n5 := Az (below_step HB.out hb); clear BK BM BN HB hb ho6 hcz0 hcz1; have HO := n1; have BK := n2; have BM := n3; have BN := n4; have HB := n5; clear n1 n2 n3 n4 n5; have hcz0 : w6.cell? ⟨gb, 0, none⟩ = some (.slice A0 l0.length c0) := (blk_cell BK.out 0).trans rfl; have hcz1 : w6.cell? ⟨gb, 1, none⟩ = some (.slice A1 l1.length c1) := (blk_cell BK.out 1).trans rfl))
    go_loopg [5, 20] k1 (fun kq v5 v20 w' => ∃ (c : List Int) (e : Int), v20 = .int .i64 e ∧ Aside0 (tch.l1 kq c s e ((l1.length : Int) / 2) = some cs) ∧ Aside0 (kq ≤ k1) ∧ Aside0 (Kd.R (Kd.int .i64) 3 w' w0.heap.size (fun k_ => k_ ≠ gn) v5 c) ∧ Aside0 (w'.heap[gb]? = some (.cells #[.slice A0 l0.length c0, .slice A1 l1.length c1] 27 (0, 0))) ∧ Aside0 (w'.heap[gm]? = some (.cells #[.slice A0 l0.length c0, .slice A1 l1.length c1] 27 (0, 0))) ∧ Aside0 (w'.heap[gn]? = some (.cells #[.int .i64 x'] 3 (0, 0))) ∧ Aside0 (Below w0.heap.size w0 w'))
    case atStart => exact ⟨[], 0, rfl, HA1, ⟨Nat.le_refl _⟩, HO, BK, BM, BN, HB⟩
    case round =>
     clear HA1 HO BK BM BN HB hcz0 hcz1; obtain ⟨c, e, rfl, HA, HK2, HO, BK, BM, BN, HB⟩ := hrel
     cases gk with
     | zero => exact absurd HA.out (by simp [tch.l1])
     | succ k2 =>
      have H := HA.out; clear HA; simp only [tch.l1] at H
      by_cases c3 : e < (l1.length : Int) / 2
      ·
       rw [if_pos c3] at H; have c3b : decide (e < (l1.length : Int) / 2) = true := decide_eq_true c3
       by_cases c4 : 0 ≤ e
       ·
        rw [if_pos c4] at H; have c4b : decide (e < 0) = false := decide_eq_false (by omega); clear c3
        by_cases c5 : Go.bits .and .i64 (s / 2 ^ min e.toNat 64) 1 = 1
        ·
         rw [if_pos c5] at H; have c5b : (Go.bits .and .i64 (s / 2 ^ min e.toNat 64) 1 == 1) = true := beq_iff_eq.mpr c5; clear c5
         by_cases c6 : c.length < 17592186044416
         ·
          rw [if_pos c6] at H; have LM := Az c6; have HH := Az H; clear H c6
          go_wp2_with (first | ((with_reducible refine gate_builtin (b := .append) (xs := #[.tmp 28, .tmp 30]) rfl ?_); at_builtin; refine Kd.R_append (Kd.int .i64) (w0 := w0) w0.heap.size rfl (.tmp 28) (.tmp 30) 22 3 (.int .i64 0) 8 rfl Try.underlying22 info3 rfl (by decide) (by omega) u5 c e [.int .i64 e] (fun k_ => k_ ≠ gn) (fun _ => False) rfl rfl ?aP (fun _ hk => hk.elim) ?aF ?aO ?aB ?aS ?aL ?_; (case aP => exact rfl); (case aB => exact (bU0 HB.out)); (case aF => exact (fun k_ hk e_ => absurd (blk_lt BN.out) (by rw [← e_]; exact Nat.not_lt.mpr hk))); (case aO => exact (rU HO.out)); (case aS => exact (below_size (bU0 HB.out))); (case aL => have := LM.out; omega); intro v31 w9 ho hb hg hat; have n1 := Az (blk_grown (g := gb) (kU BK.out) hg (Kd.R_ne HO.out BK.out (by decide))); have n2 := Az (blk_grown (g := gm) (kU BM.out) hg (Kd.R_ne HO.out BM.out (by decide))); have n3 := Az (blk_grown (g := gn) (kU BN.out) hg (fun e_ => HO.out.1 gn e_.symm rfl)); have n4 := Az hb; have n5 := Az ho; clear BK BM BN HB HO hb ho hg hat; have BK := n1; have BM := n2; have BN := n3; have HB := n4; have HO := n5; clear n1 n2 n3 n4 n5))
          (first | go_roundg k2 | (refine Handed.intro k2 ?measure ?_; rotate_left; go_step; (try simp only [add_plain]); (repeat apply Exists.intro); refine ⟨?rel, rfl⟩))
          case measure => have := HK2.out; omega
          case rel => exact ⟨_, wrap64 (e + 1), rfl, HH, ⟨by have := HK2.out; omega⟩, HO, BK, BM, BN, HB⟩
         ·
          rw [if_neg c6] at H
          cases H
        ·
         rw [if_neg c5] at H; have c5b : (Go.bits .and .i64 (s / 2 ^ min e.toNat 64) 1 == 1) = false := beq_eq_false_iff_ne.mpr c5; clear c5; have HH := Az H; clear H
         go_wp2
         (first | go_roundg k2 | (refine Handed.intro k2 ?measure ?_; rotate_left; go_step; (try simp only [add_plain]); (repeat apply Exists.intro); refine ⟨?rel, rfl⟩))
         case measure => have := HK2.out; omega
         case rel => exact ⟨_, wrap64 (e + 1), rfl, HH, ⟨by have := HK2.out; omega⟩, HO, BK, BM, BN, HB⟩
       ·
        rw [if_neg c4] at H
        cases H
      ·
       rw [if_neg c3] at H; have c3b : decide (e < (l1.length : Int) / 2) = false := decide_eq_false c3; clear c3; obtain rfl := Option.some.inj H; clear H; obtain ⟨Ao, co, eo⟩ := Kd.R_slice HO.out; subst eo; have nkn : gb ≠ gn := blk_ne BK.out BN.out (by decide); have nmn : gm ≠ gn := blk_ne BM.out BN.out (by decide)
       cases b with
       | true =>
        have HH := Az (by have := H'.out; rw [if_pos rfl] at this; exact this : tch.l0 k1 l0 l1 (wrap64 (x' + 1)) (wrap64 (s + 1)) lim = some r); clear H'
        go_wp2_with (first | (go_at_call 76; refine (ttell.yes k1 A0 c0 l0 A1 c1 l1 Ao co c gm gn x' _ BM.out BN.out (Kd.C_below HR0.out HB.out) hc0 (Kd.C_below HR1.out HB.out) hc1 (Kd.R_reads' HO.out).2.2 (Kd.R_reads' HO.out).2.1 HA2.out).mono ?_; rintro e_ w8 ⟨rfl, w7, hb, rfl⟩; have n1 := Az (blk_far (blk_below BK.out hb) (p := ⟨gn, 0, none⟩) nkn (.int .i64 (wrap64 (x' + 1)))); have n2 := Az (blk_far (blk_below BM.out hb) (p := ⟨gn, 0, none⟩) nmn (.int .i64 (wrap64 (x' + 1)))); have n3 := Az (blk_put (blk_below BN.out hb) 0 (.int .i64 (wrap64 (x' + 1))) rfl); have n4 := Az (below_set (g := gn) (j := 0) (v := .int .i64 (wrap64 (x' + 1))) (below_step HB.out hb) hgn); clear BK BM BN HB HO hb; have BK := n1; have BM := n2; have BN := n3; have HB := n4; clear n1 n2 n3 n4))
        (first | go_roundg k1 | (refine Handed.intro k1 ?measure ?_; rotate_left; go_step; (try simp only [add_plain]); (repeat apply Exists.intro); refine ⟨?rel, rfl⟩))
        case measure => have := HK1.out; omega
        case rel => exact ⟨wrap64 (s + 1), wrap64 (x' + 1), rfl, HH, ⟨by have := HK1.out; omega⟩, BK, BM, BN, HB⟩
       | false =>
        have HH := Az (by have := H'.out; rw [if_neg (by decide)] at this; exact this : tch.l0 k1 l0 l1 x' (wrap64 (s + 1)) lim = some r); clear H'
        go_wp2_with (first | (go_at_call 76; refine (ttell.no k1 A0 c0 l0 A1 c1 l1 Ao co c gm gn x' _ BM.out BN.out (Kd.C_below HR0.out HB.out) hc0 (Kd.C_below HR1.out HB.out) hc1 (Kd.R_reads' HO.out).2.2 (Kd.R_reads' HO.out).2.1 HA2.out).mono ?_; rintro e_ w8 ⟨rfl, hb⟩; have n1 := Az (blk_below BK.out hb); have n2 := Az (blk_below BM.out hb); have n3 := Az (blk_below BN.out hb); have n4 := Az (below_step HB.out hb); clear BK BM BN HB HO hb; have BK := n1; have BM := n2; have BN := n3; have HB := n4; clear n1 n2 n3 n4))
        (first | go_roundg k1 | (refine Handed.intro k1 ?measure ?_; rotate_left; go_step; (try simp only [add_plain]); (repeat apply Exists.intro); refine ⟨?rel, rfl⟩))
        case measure => have := HK1.out; omega
        case rel => exact ⟨wrap64 (s + 1), x', rfl, HH, ⟨by have := HK1.out; omega⟩, BK, BM, BN, HB⟩
   ·
    rw [if_neg c2] at H; have c2b : decide (s < lim) = false := decide_eq_false c2; clear c2; obtain rfl := Option.some.inj H
    go_wp2
    refine bodyPost_end (results_none rfl _ _ _) rfl ?_
    exact ⟨rfl, HB.out, BM.out, BN.out⟩
set_option maxHeartbeats 4000000 in
set_option maxRecDepth 100000 in
theorem impl_RibbonTrees.calls (k : Nat) (A0_0 : Option Addr) (c0_0 : Nat) (l0_0 : List Int) (A0_1 : Option Addr) (c0_1 : Nat) (l0_1 : List Int) (r : Int) (w : World) (hr0_0 : Kd.C (Kd.int .i64) w A0_0 l0_0.length l0_0) (hc0_0 : l0_0.length ≤ c0_0) (hr0_1 : Kd.C (Kd.int .i64) w A0_1 l0_1.length l0_1) (hc0_1 : l0_1.length ≤ c0_1) (h : impl_RibbonTrees.f k l0_0 l0_1 = some r) :
  Calls Try.prog 45 #[.agg #[.slice A0_0 l0_0.length c0_0, .slice A0_1 l0_1.length c0_1]] w fun e w' => e = .returned (.int .i64 r) ∧ Below w.heap.size w w' := by
 have hu25 := Try.underlying27; have HR0 := Az hr0_0; have HR1 := Az hr0_1; have HB := Az (Below.refl w.heap.size w); clear hr0_0 hr0_1; obtain ⟨v, h1, h⟩ := Option.bind_eq_some_iff.mp h; have H1 := Az h1; clear h1
 cases v with
 | false =>
  rw [if_neg (by decide)] at h; obtain rfl := Option.some.inj h; clear h
  go_enter Try.func45, Try.ntmps45
  go_wp2_with (first | ((with_reducible refine gate_dst (N := 1) rfl ?_); refine box_event ?hg (N := 1) ?hd (cs := #[.slice A0_0 l0_0.length c0_0, .slice A0_1 l0_1.length c0_1]) (t := 27) ?hr ?_; (case hd => rfl); (case hg => rfl); (case hr => first | (go_simp; done) | (go_simp; rfl)); intro gm hg w5 hbox hb; have n1 := Az (below_step HB.out hb); have BM := Az hbox; have GM := Az ((by rw [hg]; exact below_size HB.out) : w.heap.size ≤ gm); clear HB hb hbox hg; have HB := n1; clear n1; have hcz0 : w5.cell? ⟨gm, 0, none⟩ = some (.slice A0_0 l0_0.length c0_0) := (blk_cell BM.out 0).trans rfl; have hcz1 : w5.cell? ⟨gm, 1, none⟩ = some (.slice A0_1 l0_1.length c0_1) := (blk_cell BM.out 1).trans rfl) | (go_at_call 51; refine (impl_MapValid.calls k (fun k_ => k_ < w.heap.size) A0_0 c0_0 l0_0 (fun k_ => k_ < w.heap.size) A0_1 c0_1 l0_1 false _ (Kd.V_mk hc0_0 (Kd.F_below (Kd.C_F (Kd.heap_int .i64) HR0.out) HB.out)) (Kd.V_mk hc0_1 (Kd.F_below (Kd.C_F (Kd.heap_int .i64) HR1.out) HB.out)) H1.out).mono ?_; rintro e_ w6 ⟨rfl, hb⟩; have n1 := Az (below_step HB.out hb); have n2 := Az (blk_below BM.out hb); clear HB BM hb hcz0 hcz1; have HB := n1; have BM := n2; clear n1 n2; have hcz0 : w6.cell? ⟨gm, 0, none⟩ = some (.slice A0_0 l0_0.length c0_0) := (blk_cell BM.out 0).trans rfl; have hcz1 : w6.cell? ⟨gm, 1, none⟩ = some (.slice A0_1 l0_1.length c0_1) := (blk_cell BM.out 1).trans rfl))
  go_ret
  exact ⟨rfl, HB.out⟩
 | true =>
  rw [if_pos rfl] at h
  by_cases hE : l0_1.length ≤ 12
  ·
   rw [if_pos hE] at h; have HH := Az h; clear h
   go_enter Try.func45, Try.ntmps45
   go_wp2_with (first | ((with_reducible refine gate_dst (N := 1) rfl ?_); refine box_event ?hg (N := 1) ?hd (cs := #[.slice A0_0 l0_0.length c0_0, .slice A0_1 l0_1.length c0_1]) (t := 27) ?hr ?_; (case hd => rfl); (case hg => rfl); (case hr => first | (go_simp; done) | (go_simp; rfl)); intro gm hg w5 hbox hb; have n1 := Az (below_step HB.out hb); have BM := Az hbox; have GM := Az ((by rw [hg]; exact below_size HB.out) : w.heap.size ≤ gm); clear HB hb hbox hg; have HB := n1; clear n1; have hcz0 : w5.cell? ⟨gm, 0, none⟩ = some (.slice A0_0 l0_0.length c0_0) := (blk_cell BM.out 0).trans rfl; have hcz1 : w5.cell? ⟨gm, 1, none⟩ = some (.slice A0_1 l0_1.length c0_1) := (blk_cell BM.out 1).trans rfl) | (go_at_call 51; refine (impl_MapValid.calls k (fun k_ => k_ < w.heap.size) A0_0 c0_0 l0_0 (fun k_ => k_ < w.heap.size) A0_1 c0_1 l0_1 true _ (Kd.V_mk hc0_0 (Kd.F_below (Kd.C_F (Kd.heap_int .i64) HR0.out) HB.out)) (Kd.V_mk hc0_1 (Kd.F_below (Kd.C_F (Kd.heap_int .i64) HR1.out) HB.out)) H1.out).mono ?_; rintro e_ w6 ⟨rfl, hb⟩; have n1 := Az (below_step HB.out hb); have n2 := Az (blk_below BM.out hb); clear HB BM hb hcz0 hcz1; have HB := n1; have BM := n2; clear n1 n2; have hcz0 : w6.cell? ⟨gm, 0, none⟩ = some (.slice A0_0 l0_0.length c0_0) := (blk_cell BM.out 0).trans rfl; have hcz1 : w6.cell? ⟨gm, 1, none⟩ = some (.slice A0_1 l0_1.length c0_1) := (blk_cell BM.out 1).trans rfl; have hcy0 : (w6.alloc (.cells #[.int .i64 0] 3)).cell? ⟨gm, 0, none⟩ = some (.slice A0_0 l0_0.length c0_0) := (blk_cell (blk_alloc BM.out _) 0).trans rfl; have hcy1 : (w6.alloc (.cells #[.int .i64 0] 3)).cell? ⟨gm, 1, none⟩ = some (.slice A0_1 l0_1.length c0_1) := (blk_cell (blk_alloc BM.out _) 1).trans rfl) | (go_at_call 69; refine (tch.calls k A0_0 c0_0 l0_0 A0_1 c0_1 l0_1 gm w6.heap.size 0 r w _ (by repeat (first | exact HB.out | apply below_alloc)) GM.out (below_size HB.out) (blk_alloc BM.out _) (blk_new w6 _) HR0.out hc0_0 HR1.out hc0_1 hE HH.out).mono ?_; rintro e_ w8 ⟨rfl, hb, hm, hn⟩; have HB2 := Az hb; have hcn : w8.cell? ⟨w6.heap.size, 0, none⟩ = some (.int .i64 r) := (blk_cell hn 0).trans rfl; clear hb hm hn))
   go_ret
   exact ⟨rfl, HB2.out⟩
  ·
   rw [if_neg hE] at h
   cases h
def laws_FnExactRibbonTrees.f (k : Nat) (l0_0 : List Int) (l0_1 : List Int) : Option (Bool) := (laws_szMap.f l0_0 l0_1 1048576).bind fun t516 => (if t516 < 0 then (some true) else ((laws_toMap.f k l0_0 l0_1).bind fun bt517 => ((spec_RibbonTrees.f k bt517.1 bt517.2).bind fun t523 => ((laws_toMap.f k l0_0 l0_1).bind fun bt524 => ((impl_RibbonTrees.f k bt524.1 bt524.2).bind fun t531 => (if t531 = t523 then ((laws_toMap.f k l0_0 l0_1).bind fun bt532 => ((laws_eqMap.f k bt524.1 bt524.2 bt532.1 bt532.2).bind fun t538 => (if t538 = true then (some true) else (some false)))) else (some false)))))))
set_option maxHeartbeats 8000000 in
set_option maxRecDepth 100000 in
theorem laws_FnExactRibbonTrees.calls (k : Nat) (A0_0 : Option Addr) (c0_0 : Nat) (l0_0 : List Int) (A0_1 : Option Addr) (c0_1 : Nat) (l0_1 : List Int) (r : Bool) (w : World) (hr0_0 : Kd.C (Kd.int .i64) w A0_0 l0_0.length l0_0) (hc0_0 : l0_0.length ≤ c0_0) (hr0_1 : Kd.C (Kd.int .i64) w A0_1 l0_1.length l0_1) (hc0_1 : l0_1.length ≤ c0_1) (h : laws_FnExactRibbonTrees.f k l0_0 l0_1 = some r) :
  Calls Try.prog 13 #[.agg #[.slice A0_0 l0_0.length c0_0, .slice A0_1 l0_1.length c0_1]] w fun e w' => e = .returned (.bool r) ∧ Below w.heap.size w w' := by
 have hu24 := Try.underlying24; have hu27 := Try.underlying27; have HR0_0 := Az hr0_0; have HC0_0 := Az hc0_0; clear hr0_0 hc0_0; have HR0_1 := Az hr0_1; have HC0_1 := Az hc0_1; clear hr0_1 hc0_1; have HB := Az (Below.refl w.heap.size w); have H : ((laws_szMap.f l0_0 l0_1 1048576).bind fun t516 => (if t516 < 0 then (some true) else ((laws_toMap.f k l0_0 l0_1).bind fun bt517 => ((spec_RibbonTrees.f k bt517.1 bt517.2).bind fun t523 => ((laws_toMap.f k l0_0 l0_1).bind fun bt524 => ((impl_RibbonTrees.f k bt524.1 bt524.2).bind fun t531 => (if t531 = t523 then ((laws_toMap.f k l0_0 l0_1).bind fun bt532 => ((laws_eqMap.f k bt524.1 bt524.2 bt532.1 bt532.2).bind fun t538 => (if t538 = true then (some true) else (some false)))) else (some false)))))))) = some r := h; clear h; replace H := Option.bind_eq_some_iff.mp H; obtain ⟨t516, A20, H⟩ := H; replace H : (if t516 < 0 then (some true) else ((laws_toMap.f k l0_0 l0_1).bind fun bt517 => ((spec_RibbonTrees.f k bt517.1 bt517.2).bind fun t523 => ((laws_toMap.f k l0_0 l0_1).bind fun bt524 => ((impl_RibbonTrees.f k bt524.1 bt524.2).bind fun t531 => (if t531 = t523 then ((laws_toMap.f k l0_0 l0_1).bind fun bt532 => ((laws_eqMap.f k bt524.1 bt524.2 bt532.1 bt532.2).bind fun t538 => (if t538 = true then (some true) else (some false)))) else (some false))))))) = some r := H; have A2 := Az A20; clear A20
 by_cases c3 : t516 < 0
 ·
  rw [if_pos c3] at H; have c3b0 := decide_eq_true c3; clear c3; obtain rfl := Option.some.inj H
  go_enter Try.func13, Try.ntmps13
  go_wp2_with (first | ((with_reducible refine gate_dst (N := 1) rfl ?_); refine box_event ?hg (N := 1) ?hd (cs := #[.slice A0_0 l0_0.length c0_0, .slice A0_1 l0_1.length c0_1]) (t := 24) ?hr ?_; (case hd => rfl); (case hg => rfl); (case hr => first | (go_simp; done) | (go_simp; rfl)); intro gb515 hg w4 hbox hb; have n0 := Az (below_step (bU0 HB.out) hb); have n1 := Az (hbox); have n2 := Az ((by rw [hg]; exact (below_size (bU0 HB.out)) : w.heap.size ≤ gb515)); have n3 := n2; clear HB; have HB := n0; have BK515 := n1; have GW515 := n2; have GE515 := n3; clear n0 n1 n2 n3 hb hbox hg; have hcz5_0 : w4.cell? ⟨gb515, 0, none⟩ = some (.slice A0_0 l0_0.length c0_0) := (blk_cell BK515.out 0).trans rfl; have hcz5_1 : w4.cell? ⟨gb515, 1, none⟩ = some (.slice A0_1 l0_1.length c0_1) := (blk_cell BK515.out 1).trans rfl; have hfz5_0 := blk_frozen BK515.out 0; have hfz5_1 := blk_frozen BK515.out 1) | ((with_reducible refine gate_callee (f := 15) rfl ?_); refine goesL_ (some 9) rfl rfl Try.func15 (by kernel_rfl) rfl #[.agg #[.slice A0_0 l0_0.length c0_0, .slice A0_1 l0_1.length c0_1], .int .i64 1048576] rfl (by (try simp only [List.map_toArray, List.map_cons, List.map_nil]); first | done | rfl | (simp only [List.length_drop, List.length_take]; rfl)) ?_; (with_reducible refine (laws_szMap.calls _ _ l0_0 _ _ l0_1 1048576 t516 _ ?side1 ?side2 ?side3 ?side4 A2.out).mono ?_); (case side1 => exact cU (Kd.C_below HR0_0.out HB.out)); (case side2 => exact HC0_0.out); (case side3 => exact cU (Kd.C_below HR0_1.out HB.out)); (case side4 => exact HC0_1.out); rintro e w6 ⟨rfl, hb⟩; refine ⟨_, rfl, ?_⟩; have n0 := Az (blk_below (g := gb515) (o := .cells #[.slice A0_0 l0_0.length c0_0, .slice A0_1 l0_1.length c0_1] 24 (0, 0)) (kU BK515.out) hb); have n1 := Az (below_step (bU1 HB.out GE515.out) hb); clear BK515 HB; have BK515 := n0; have HB := n1; clear n0 n1; (try clear hb); (try clear hb2); (try clear hk); (try clear hi)))
  go_ret
  exact ⟨rE, bU1 HB.out GE515.out⟩
 ·
  rw [if_neg c3] at H; have c3b0 := decide_eq_false c3; clear c3; replace H := Option.bind_eq_some_iff.mp H; obtain ⟨⟨t517, t520⟩, A70, H⟩ := H; replace H : ((spec_RibbonTrees.f k t517 t520).bind fun t523 => ((laws_toMap.f k l0_0 l0_1).bind fun bt524 => ((impl_RibbonTrees.f k bt524.1 bt524.2).bind fun t531 => (if t531 = t523 then ((laws_toMap.f k l0_0 l0_1).bind fun bt532 => ((laws_eqMap.f k bt524.1 bt524.2 bt532.1 bt532.2).bind fun t538 => (if t538 = true then (some true) else (some false)))) else (some false))))) = some r := H; have A7 := Az A70; clear A70; replace H := Option.bind_eq_some_iff.mp H; obtain ⟨t523, A80, H⟩ := H; replace H : ((laws_toMap.f k l0_0 l0_1).bind fun bt524 => ((impl_RibbonTrees.f k bt524.1 bt524.2).bind fun t531 => (if t531 = t523 then ((laws_toMap.f k l0_0 l0_1).bind fun bt532 => ((laws_eqMap.f k bt524.1 bt524.2 bt532.1 bt532.2).bind fun t538 => (if t538 = true then (some true) else (some false)))) else (some false)))) = some r := H; have A8 := Az A80; clear A80; replace H := Option.bind_eq_some_iff.mp H; obtain ⟨⟨t524, t527⟩, A90, H⟩ := H; replace H : ((impl_RibbonTrees.f k t524 t527).bind fun t531 => (if t531 = t523 then ((laws_toMap.f k l0_0 l0_1).bind fun bt532 => ((laws_eqMap.f k t524 t527 bt532.1 bt532.2).bind fun t538 => (if t538 = true then (some true) else (some false)))) else (some false))) = some r := H; have A9 := Az A90; clear A90; replace H := Option.bind_eq_some_iff.mp H; obtain ⟨t531, A100, H⟩ := H; replace H : (if t531 = t523 then ((laws_toMap.f k l0_0 l0_1).bind fun bt532 => ((laws_eqMap.f k t524 t527 bt532.1 bt532.2).bind fun t538 => (if t538 = true then (some true) else (some false)))) else (some false)) = some r := H; have A10 := Az A100; clear A100
  by_cases c11 : t531 = t523
  ·
   rw [if_pos c11] at H; have c11b0 := beq_iff_eq.mpr c11; have c11b1 := bne_eq_false_iff_eq.mpr c11; clear c11; replace H := Option.bind_eq_some_iff.mp H; obtain ⟨⟨t532, t535⟩, A120, H⟩ := H; replace H : ((laws_eqMap.f k t524 t527 t532 t535).bind fun t538 => (if t538 = true then (some true) else (some false))) = some r := H; have A12 := Az A120; clear A120; replace H := Option.bind_eq_some_iff.mp H; obtain ⟨t538, A130, H⟩ := H; replace H : (if t538 = true then (some true) else (some false)) = some r := H; have A13 := Az A130; clear A130
   by_cases c14 : t538 = true
   ·
    subst c14
    have H1 : (some true) = some r := by rw [if_pos rfl] at H; exact H
    clear H; have H := H1; clear H1; obtain rfl := Option.some.inj H
    go_enter Try.func13, Try.ntmps13
    try go_wp2_with (first | ((with_reducible refine gate_dst (N := 1) rfl ?_); refine box_event ?hg (N := 1) ?hd (cs := #[.slice A0_0 l0_0.length c0_0, .slice A0_1 l0_1.length c0_1]) (t := 24) ?hr ?_; (case hd => rfl); (case hg => rfl); (case hr => first | (go_simp; done) | (go_simp; rfl)); intro gb515 hg w15 hbox hb; have n0 := Az (below_step (bU0 HB.out) hb); have n1 := Az (hbox); have n2 := Az ((by rw [hg]; exact (below_size (bU0 HB.out)) : w.heap.size ≤ gb515)); have n3 := n2; clear HB; have HB := n0; have BK515 := n1; have GW515 := n2; have GE515 := n3; clear n0 n1 n2 n3 hb hbox hg; have hcz16_0 : w15.cell? ⟨gb515, 0, none⟩ = some (.slice A0_0 l0_0.length c0_0) := (blk_cell BK515.out 0).trans rfl; have hcz16_1 : w15.cell? ⟨gb515, 1, none⟩ = some (.slice A0_1 l0_1.length c0_1) := (blk_cell BK515.out 1).trans rfl; have hfz16_0 := blk_frozen BK515.out 0; have hfz16_1 := blk_frozen BK515.out 1) | ((with_reducible refine gate_callee (f := 15) rfl ?_); refine goesL_ (some 9) rfl rfl Try.func15 (by kernel_rfl) rfl #[.agg #[.slice A0_0 l0_0.length c0_0, .slice A0_1 l0_1.length c0_1], .int .i64 1048576] rfl (by (try simp only [List.map_toArray, List.map_cons, List.map_nil]); first | done | rfl | (simp only [List.length_drop, List.length_take]; rfl)) ?_; (with_reducible refine (laws_szMap.calls _ _ l0_0 _ _ l0_1 1048576 t516 _ ?side1 ?side2 ?side3 ?side4 A2.out).mono ?_); (case side1 => exact cU (Kd.C_below HR0_0.out HB.out)); (case side2 => exact HC0_0.out); (case side3 => exact cU (Kd.C_below HR0_1.out HB.out)); (case side4 => exact HC0_1.out); rintro e w17 ⟨rfl, hb⟩; refine ⟨_, rfl, ?_⟩; have n0 := Az (blk_below (g := gb515) (o := .cells #[.slice A0_0 l0_0.length c0_0, .slice A0_1 l0_1.length c0_1] 24 (0, 0)) (kU BK515.out) hb); have n1 := Az (below_step (bU1 HB.out GE515.out) hb); clear BK515 HB; have BK515 := n0; have HB := n1; clear n0 n1; (try clear hb); (try clear hb2); (try clear hk); (try clear hi); have hcz18_0 : w17.cell? ⟨gb515, 0, none⟩ = some (.slice A0_0 l0_0.length c0_0) := (blk_cell BK515.out 0).trans rfl; have hcz18_1 : w17.cell? ⟨gb515, 1, none⟩ = some (.slice A0_1 l0_1.length c0_1) := (blk_cell BK515.out 1).trans rfl; have hfz18_0 := blk_frozen BK515.out 0; have hfz18_1 := blk_frozen BK515.out 1) | ((with_reducible refine gate_callee (f := 17) rfl ?_); refine goesL_ (some 13) rfl rfl Try.func17 (by kernel_rfl) rfl #[.agg #[.slice A0_0 l0_0.length c0_0, .slice A0_1 l0_1.length c0_1]] rfl (by (try simp only [List.map_toArray, List.map_cons, List.map_nil]); first | done | rfl | (simp only [List.length_drop, List.length_take]; rfl)) ?_; (with_reducible refine (laws_toMap.calls k _ _ l0_0 _ _ l0_1 t517 t520 _ ?side1 ?side2 ?side3 ?side4 A7.out).mono ?_); (case side1 => exact cU (Kd.C_below HR0_0.out HB.out)); (case side2 => exact HC0_0.out); (case side3 => exact cU (Kd.C_below HR0_1.out HB.out)); (case side4 => exact HC0_1.out); rintro e w19 ⟨v518, v521, rfl, ho0, ho1, hb⟩; refine ⟨_, rfl, ?_⟩; have n0 := Az (Kd.R_lower ho0 (below_size (bU1 HB.out GE515.out))); have n1 := Az (Kd.R_lower ho1 (below_size (bU1 HB.out GE515.out))); have n2 := Az (blk_below (g := gb515) (o := .cells #[.slice A0_0 l0_0.length c0_0, .slice A0_1 l0_1.length c0_1] 24 (0, 0)) (kU BK515.out) hb); have n3 := Az (below_step (bU1 HB.out GE515.out) hb); clear BK515 HB; have HO519 := n0; have HO522 := n1; have BK515 := n2; have HB := n3; clear n0 n1 n2 n3; (try clear hb); (try clear hb2); (try clear hk); (try clear hi); (try clear ho0); (try clear ho1); obtain ⟨Ao20, co20, eo20⟩ := Kd.R_slice HO519.out; subst eo20; obtain ⟨Ao21, co21, eo21⟩ := Kd.R_slice HO522.out; subst eo21) | ((with_reducible refine gate_callee (f := 44) rfl ?_); refine goesL_ (some 14) rfl rfl Try.func44 (by kernel_rfl) rfl #[.agg #[.slice Ao20 t517.length co20, .slice Ao21 t520.length co21]] rfl (by (try simp only [List.map_toArray, List.map_cons, List.map_nil]); first | done | rfl | (simp only [List.length_drop, List.length_take]; rfl)) ?_; (with_reducible refine (spec_RibbonTrees.calls k _ _ t517 _ _ t520 t523 _ ?side1 ?side2 ?side3 ?side4 A8.out).mono ?_); (case side1 => exact cU ((Kd.R_reads' HO519.out).2.2)); (case side2 => exact (Kd.R_reads' HO519.out).2.1); (case side3 => exact cU ((Kd.R_reads' HO522.out).2.2)); (case side4 => exact (Kd.R_reads' HO522.out).2.1); rintro e w22 ⟨rfl, hb⟩; refine ⟨_, rfl, ?_⟩; have n0 := Az (Kd.R_below (rU HO519.out) hb); have n1 := Az (Kd.R_below (rU HO522.out) hb); have n2 := Az (blk_below (g := gb515) (o := .cells #[.slice A0_0 l0_0.length c0_0, .slice A0_1 l0_1.length c0_1] 24 (0, 0)) (kU BK515.out) hb); have n3 := Az (below_step (bU1 HB.out GE515.out) hb); clear HO519 HO522 BK515 HB; have HO519 := n0; have HO522 := n1; have BK515 := n2; have HB := n3; clear n0 n1 n2 n3; (try clear hb); (try clear hb2); (try clear hk); (try clear hi); have hcz23_0 : w22.cell? ⟨gb515, 0, none⟩ = some (.slice A0_0 l0_0.length c0_0) := (blk_cell BK515.out 0).trans rfl; have hcz23_1 : w22.cell? ⟨gb515, 1, none⟩ = some (.slice A0_1 l0_1.length c0_1) := (blk_cell BK515.out 1).trans rfl; have hfz23_0 := blk_frozen BK515.out 0; have hfz23_1 := blk_frozen BK515.out 1) | ((with_reducible refine gate_callee (f := 17) rfl ?_); refine goesL_ (some 16) rfl rfl Try.func17 (by kernel_rfl) rfl #[.agg #[.slice A0_0 l0_0.length c0_0, .slice A0_1 l0_1.length c0_1]] rfl (by (try simp only [List.map_toArray, List.map_cons, List.map_nil]); first | done | rfl | (simp only [List.length_drop, List.length_take]; rfl)) ?_; (with_reducible refine (laws_toMap.calls k _ _ l0_0 _ _ l0_1 t524 t527 _ ?side1 ?side2 ?side3 ?side4 A9.out).mono ?_); (case side1 => exact cU (Kd.C_below HR0_0.out HB.out)); (case side2 => exact HC0_0.out); (case side3 => exact cU (Kd.C_below HR0_1.out HB.out)); (case side4 => exact HC0_1.out); rintro e w24 ⟨v525, v528, rfl, ho0, ho1, hb⟩; refine ⟨_, rfl, ?_⟩; have n0 := Az (Kd.R_mono (Kd.R_told (Kd.R_told (Kd.R_old (rU HO519.out) hb) (Kd.R_base ho0)) (Kd.R_base ho1)) (fun _ h_ => h_.1)); have n1 := Az (Kd.R_mono (Kd.R_told (Kd.R_told (Kd.R_old (rU HO522.out) hb) (Kd.R_base ho0)) (Kd.R_base ho1)) (fun _ h_ => h_.1)); have n2 := Az (Kd.R_lower (Kd.R_new' (Kd.R_new' ho0 (Kd.R_lt (rU HO519.out))) (Kd.R_lt (rU HO522.out))) (below_size (bU1 HB.out GE515.out))); have n3 := Az (Kd.R_lower (Kd.R_new' (Kd.R_new' ho1 (Kd.R_lt (rU HO519.out))) (Kd.R_lt (rU HO522.out))) (below_size (bU1 HB.out GE515.out))); have n4 := Az (blk_below (g := gb515) (o := .cells #[.slice A0_0 l0_0.length c0_0, .slice A0_1 l0_1.length c0_1] 24 (0, 0)) (kU BK515.out) hb); have n5 := Az (below_step (bU1 HB.out GE515.out) hb); clear HO519 HO522 BK515 HB; have HO519 := n0; have HO522 := n1; have HO526 := n2; have HO529 := n3; have BK515 := n4; have HB := n5; clear n0 n1 n2 n3 n4 n5; (try clear hb); (try clear hb2); (try clear hk); (try clear hi); (try clear ho0); (try clear ho1)) | ((with_reducible refine gate_dst (N := 5) rfl ?_); refine box_event ?hg (N := 5) ?hd (cs := #[.slice none 0 0, .slice none 0 0]) (t := 27) ?hr ?_; (case hd => rfl); (case hg => rfl); (case hr => first | (go_simp; done) | (go_simp; rfl)); intro gb530 hg w25 hbox hb; have n0 := Az (Kd.R_below (rU HO519.out) hb); have n1 := Az (Kd.R_below (rU HO522.out) hb); have n2 := Az (Kd.R_below (rU HO526.out) hb); have n3 := Az (Kd.R_below (rU HO529.out) hb); have n4 := Az (blk_below (g := gb515) (o := .cells #[.slice A0_0 l0_0.length c0_0, .slice A0_1 l0_1.length c0_1] 24 (0, 0)) (kU BK515.out) hb); have n5 := Az (below_step (bU1 HB.out GE515.out) hb); have n6 := Az (hbox); have n7 := Az ((by rw [hg]; exact (below_size (bU1 HB.out GE515.out)) : w.heap.size ≤ gb530)); have n8 := n7; have n9 := Az ((by rw [hg]; exact Nat.ne_of_lt (blk_lt (g := gb515) (o := .cells #[.slice A0_0 l0_0.length c0_0, .slice A0_1 l0_1.length c0_1] 24 (0, 0)) (kU BK515.out)) : gb515 ≠ gb530)); have n10 := Az ((by rw [hg]; exact Nat.ne_of_gt (blk_lt (g := gb515) (o := .cells #[.slice A0_0 l0_0.length c0_0, .slice A0_1 l0_1.length c0_1] 24 (0, 0)) (kU BK515.out)) : gb530 ≠ gb515)); clear HO519 HO522 HO526 HO529 BK515 HB; have HO519 := n0; have HO522 := n1; have HO526 := n2; have HO529 := n3; have BK515 := n4; have HB := n5; have BK530 := n6; have GW530 := n7; have GE530 := n8; have NB515_530 := n9; have NB530_515 := n10; clear n0 n1 n2 n3 n4 n5 n6 n7 n8 n9 n10 hb hbox hg; obtain ⟨Ao26, co26, eo26⟩ := Kd.R_slice HO526.out; subst eo26; have hnb27 := NB530_515.out; have hnc27 := NB515_530.out; have hcz28_0 : w25.cell? ⟨gb530, 0, none⟩ = some (.slice none 0 0) := (blk_cell BK530.out 0).trans rfl; have hcz28_1 : w25.cell? ⟨gb530, 1, none⟩ = some (.slice none 0 0) := (blk_cell BK530.out 1).trans rfl; have hfz28_0 := blk_frozen BK530.out 0; have hfz28_1 := blk_frozen BK530.out 1; obtain ⟨Ao29, co29, eo29⟩ := Kd.R_slice HO529.out; subst eo29) | ((with_reducible refine gate_callee (f := 45) rfl ?_); refine goesL_ (some 18) rfl rfl Try.func45 (by kernel_rfl) rfl #[.agg #[.slice Ao26 t524.length co26, .slice Ao29 t527.length co29]] rfl (by (try simp only [List.map_toArray, List.map_cons, List.map_nil]); first | done | rfl | (simp only [List.length_drop, List.length_take]; rfl)) ?_; (with_reducible refine (impl_RibbonTrees.calls k _ _ t524 _ _ t527 t531 _ ?side1 ?side2 ?side3 ?side4 A10.out).mono ?_); (case side1 => refine (Kd.R_reads' (e := 3) (base := w.heap.size) (ok := fun k_ => ((some k_ ≠ (.slice Ao29 t527.length co29 : Value).ownBlock ∧ some k_ ≠ (.slice Ao20 t517.length co20 : Value).ownBlock) ∧ some k_ ≠ (.slice Ao21 t520.length co21 : Value).ownBlock)) (n := t524.length) (c := co26) ?_).2.2; exact (by (with_reducible repeat (first | apply Kd.R_alloc | apply Kd.R_drewN | apply Kd.R_drew)); exact (Kd.R_mono (Kd.R_far (p := ⟨gb530, 1, none⟩) (Kd.R_far (p := ⟨gb530, 0, none⟩) (Kd.R_types HO526.out BK530.out (by decide)) (fun _ hk => hk.2) (.slice Ao26 t524.length co26)) (fun _ hk => hk.2) (.slice Ao29 t527.length co29)) (fun _ h_ => h_.1)))); (case side2 => exact (Kd.R_reads' HO526.out).2.1); (case side3 => refine (Kd.R_reads' (e := 3) (base := w.heap.size) (ok := fun k_ => ((some k_ ≠ (.slice Ao26 t524.length co26 : Value).ownBlock ∧ some k_ ≠ (.slice Ao20 t517.length co20 : Value).ownBlock) ∧ some k_ ≠ (.slice Ao21 t520.length co21 : Value).ownBlock)) (n := t527.length) (c := co29) ?_).2.2; exact (by (with_reducible repeat (first | apply Kd.R_alloc | apply Kd.R_drewN | apply Kd.R_drew)); exact (Kd.R_mono (Kd.R_far (p := ⟨gb530, 1, none⟩) (Kd.R_far (p := ⟨gb530, 0, none⟩) (Kd.R_types HO529.out BK530.out (by decide)) (fun _ hk => hk.2) (.slice Ao26 t524.length co26)) (fun _ hk => hk.2) (.slice Ao29 t527.length co29)) (fun _ h_ => h_.1)))); (case side4 => exact (Kd.R_reads' HO529.out).2.1); rintro e w30 ⟨rfl, hb⟩; refine ⟨_, rfl, ?_⟩; have n0 := Az (Kd.R_below (by (with_reducible repeat (first | apply Kd.R_alloc | apply Kd.R_drewN | apply Kd.R_drew)); exact (Kd.R_mono (Kd.R_far (p := ⟨gb530, 1, none⟩) (Kd.R_far (p := ⟨gb530, 0, none⟩) (Kd.R_types HO519.out BK530.out (by decide)) (fun _ hk => hk.2) (.slice Ao26 t524.length co26)) (fun _ hk => hk.2) (.slice Ao29 t527.length co29)) (fun _ h_ => h_.1))) hb); have n1 := Az (Kd.R_below (by (with_reducible repeat (first | apply Kd.R_alloc | apply Kd.R_drewN | apply Kd.R_drew)); exact (Kd.R_mono (Kd.R_far (p := ⟨gb530, 1, none⟩) (Kd.R_far (p := ⟨gb530, 0, none⟩) (Kd.R_types HO522.out BK530.out (by decide)) (fun _ hk => hk.2) (.slice Ao26 t524.length co26)) (fun _ hk => hk.2) (.slice Ao29 t527.length co29)) (fun _ h_ => h_.1))) hb); have n2 := Az (Kd.R_below (by (with_reducible repeat (first | apply Kd.R_alloc | apply Kd.R_drewN | apply Kd.R_drew)); exact (Kd.R_mono (Kd.R_far (p := ⟨gb530, 1, none⟩) (Kd.R_far (p := ⟨gb530, 0, none⟩) (Kd.R_types HO526.out BK530.out (by decide)) (fun _ hk => hk.2) (.slice Ao26 t524.length co26)) (fun _ hk => hk.2) (.slice Ao29 t527.length co29)) (fun _ h_ => h_.1))) hb); have n3 := Az (Kd.R_below (by (with_reducible repeat (first | apply Kd.R_alloc | apply Kd.R_drewN | apply Kd.R_drew)); exact (Kd.R_mono (Kd.R_far (p := ⟨gb530, 1, none⟩) (Kd.R_far (p := ⟨gb530, 0, none⟩) (Kd.R_types HO529.out BK530.out (by decide)) (fun _ hk => hk.2) (.slice Ao26 t524.length co26)) (fun _ hk => hk.2) (.slice Ao29 t527.length co29)) (fun _ h_ => h_.1))) hb); have n4 := Az (blk_below (g := gb515) (o := .cells #[.slice A0_0 l0_0.length c0_0, .slice A0_1 l0_1.length c0_1] 24 (0, 0)) (by (with_reducible repeat (first | refine blk_drewN ?_ _ | refine blk_drew ?_ | refine blk_alloc ?_ _)); refine blk_far ?_ NB515_530.out _; (with_reducible repeat (first | refine blk_drewN ?_ _ | refine blk_drew ?_ | refine blk_alloc ?_ _)); refine blk_far ?_ NB515_530.out _; (with_reducible repeat (first | refine blk_drewN ?_ _ | refine blk_drew ?_ | refine blk_alloc ?_ _)); exact BK515.out) hb); have n5 := Az (blk_below (g := gb530) (o := .cells #[.slice Ao26 t524.length co26, .slice Ao29 t527.length co29] 27 (0, 0)) (by (with_reducible repeat (first | refine blk_drewN ?_ _ | refine blk_drew ?_ | refine blk_alloc ?_ _)); refine blk_put (cs := #[.slice Ao26 t524.length co26, .slice none 0 0]) ?_ 1 _ rfl; (with_reducible repeat (first | refine blk_drewN ?_ _ | refine blk_drew ?_ | refine blk_alloc ?_ _)); refine blk_put (cs := #[.slice none 0 0, .slice none 0 0]) ?_ 0 _ rfl; (with_reducible repeat (first | refine blk_drewN ?_ _ | refine blk_drew ?_ | refine blk_alloc ?_ _)); exact BK530.out) hb); have n6 := Az (below_step (bU2 HB.out GE515.out GE530.out) hb); clear HO519 HO522 HO526 HO529 BK515 BK530 HB; have HO519 := n0; have HO522 := n1; have HO526 := n2; have HO529 := n3; have BK515 := n4; have BK530 := n5; have HB := n6; clear n0 n1 n2 n3 n4 n5 n6; (try clear hb); (try clear hb2); (try clear hk); (try clear hi)))
    have n0 := Az (Kd.R_drew HO519.out); have n1 := Az (Kd.R_drew HO522.out); have n2 := Az (Kd.R_drew HO526.out); have n3 := Az (Kd.R_drew HO529.out); have n4 := Az (blk_drew BK515.out); have n5 := Az (blk_drew BK530.out); have n6 := Az (below_drew1 HB.out); clear HO519 HO522 HO526 HO529 BK515 BK530 HB; have HO519 := n0; have HO522 := n1; have HO526 := n2; have HO529 := n3; have BK515 := n4; have BK530 := n5; have HB := n6; clear n0 n1 n2 n3 n4 n5 n6
    refine start_ (n := 5) (S := fun w' => w'.cell? ⟨gb530, 0, none⟩ = some (.slice Ao26 t524.length co26) ∧ w'.cell? ⟨gb530, 1, none⟩ = some (.slice Ao29 t527.length co29) ∧ w'.cell? ⟨gb515, 0, none⟩ = some (.slice A0_0 l0_0.length c0_0) ∧ w'.cell? ⟨gb515, 1, none⟩ = some (.slice A0_1 l0_1.length c0_1)) (ds := []) #[false, false, false, false, false] (by kernel_rfl) rfl rfl ⟨(blk_cell BK530.out 0).trans rfl, (blk_cell BK530.out 1).trans rfl, (blk_cell BK515.out 0).trans rfl, (blk_cell BK515.out 1).trans rfl⟩ (fun hHeld => ?_)
    generalize w30.drew = w31 at HO519 HO522 HO526 HO529 BK515 BK530 HB hHeld ⊢
    refine take_ (i := 0) (N := some 22) (v := ?_) (a' := ?_) #[true, false, false, false, false] rfl rfl (by kernel_rfl) (fun _ _ _ h => h) (Or.inl ⟨by rfl, ?_⟩) hHeld ?_ ?_
    rotate_left
    ·
     rintro w' ⟨s0, s1, s2, s3⟩
     go_simp
     with_reducible rfl
    rotate_left
    ·
     simp only [Act.put, List.setIfInBounds_toArray, List.set_cons_zero, List.set_cons_succ, i64_w, i32_w]
     rfl
    refine take_ (i := 1) (N := some 23) (v := ?_) (a' := ?_) #[true, true, false, false, false] rfl rfl (by kernel_rfl) (fun _ _ _ h => h) (Or.inl ⟨by rfl, ?_⟩) hHeld ?_ ?_
    rotate_left
    ·
     rintro w' ⟨s0, s1, s2, s3⟩
     go_simp
     with_reducible rfl
    rotate_left
    ·
     simp only [Act.put, List.setIfInBounds_toArray, List.set_cons_zero, List.set_cons_succ, i64_w, i32_w]
     rfl
    refine one_ (i := 2) (N := some 24) #[true, true, true, false, false] rfl rfl (by kernel_rfl) (by decide) (fun K hK => ?_)
    refine goes_ Try.func17 (by kernel_rfl) rfl #[.agg #[.slice A0_0 l0_0.length c0_0, .slice A0_1 l0_1.length c0_1]] (by rfl) rfl rfl (by (try simp only [List.map_toArray, List.map_cons, List.map_nil]); first | done | rfl | (simp only [List.length_drop, List.length_take]; rfl)) ?_
    with_reducible refine (laws_toMap.calls k _ _ l0_0 _ _ l0_1 t532 t535 _ ?side1 ?side2 ?side3 ?side4 A12.out).mono ?_
    (case side1 => exact cU (Kd.C_below HR0_0.out HB.out))
    (case side2 => exact HC0_0.out)
    (case side3 => exact cU (Kd.C_below HR0_1.out HB.out))
    (case side4 => exact HC0_1.out)
    rintro e w32 ⟨v533, v536, rfl, ho0, ho1, hb⟩
    refine ⟨_, rfl, ?_⟩
    have n0 := Az (Kd.R_mono (Kd.R_told (Kd.R_told (Kd.R_old (rU HO519.out) hb) (Kd.R_base ho0)) (Kd.R_base ho1)) (fun _ h_ => h_.1)); have n1 := Az (Kd.R_mono (Kd.R_told (Kd.R_told (Kd.R_old (rU HO522.out) hb) (Kd.R_base ho0)) (Kd.R_base ho1)) (fun _ h_ => h_.1)); have n2 := Az (Kd.R_mono (Kd.R_told (Kd.R_told (Kd.R_old (rU HO526.out) hb) (Kd.R_base ho0)) (Kd.R_base ho1)) (fun _ h_ => h_.1)); have n3 := Az (Kd.R_mono (Kd.R_told (Kd.R_told (Kd.R_old (rU HO529.out) hb) (Kd.R_base ho0)) (Kd.R_base ho1)) (fun _ h_ => h_.1)); have n4 := Az (Kd.R_lower (Kd.R_new' (Kd.R_new' (Kd.R_new' (Kd.R_new' ho0 (Kd.R_lt (rU HO519.out))) (Kd.R_lt (rU HO522.out))) (Kd.R_lt (rU HO526.out))) (Kd.R_lt (rU HO529.out))) (below_size (bU2 HB.out GE515.out GE530.out))); have n5 := Az (Kd.R_lower (Kd.R_new' (Kd.R_new' (Kd.R_new' (Kd.R_new' ho1 (Kd.R_lt (rU HO519.out))) (Kd.R_lt (rU HO522.out))) (Kd.R_lt (rU HO526.out))) (Kd.R_lt (rU HO529.out))) (below_size (bU2 HB.out GE515.out GE530.out))); have n6 := Az (blk_below (g := gb515) (o := .cells #[.slice A0_0 l0_0.length c0_0, .slice A0_1 l0_1.length c0_1] 24 (0, 0)) (kU BK515.out) hb); have n7 := Az (blk_below (g := gb530) (o := .cells #[.slice Ao26 t524.length co26, .slice Ao29 t527.length co29] 27 (0, 0)) (kU BK530.out) hb); have n8 := Az (below_step (bU2 HB.out GE515.out GE530.out) hb); clear HO519 HO522 HO526 HO529 BK515 BK530 HB; have HO519 := n0; have HO522 := n1; have HO526 := n2; have HO529 := n3; have HO534 := n4; have HO537 := n5; have BK515 := n6; have BK530 := n7; have HB := n8; clear n0 n1 n2 n3 n4 n5 n6 n7 n8; (try clear hb); (try clear hb2); (try clear hk); (try clear hi); (try clear ho0); (try clear ho1); obtain ⟨Ao33, co33, eo33⟩ := Kd.R_slice HO534.out; (first | subst eo33 | (injection eo33 with f1_ f2_ f3_; have f4_ := f1_.symm; have f5_ := f3_.symm; clear f1_ f2_ f3_; subst f4_; subst f5_)); obtain ⟨Ao34, co34, eo34⟩ := Kd.R_slice HO537.out; (first | subst eo34 | (injection eo34 with f1_ f2_ f3_; have f4_ := f1_.symm; have f5_ := f3_.symm; clear f1_ f2_ f3_; subst f4_; subst f5_))
    refine hK.out _ _ ⟨(blk_cell BK530.out 0).trans rfl, (blk_cell BK530.out 1).trans rfl, (blk_cell BK515.out 0).trans rfl, (blk_cell BK515.out 1).trans rfl⟩ (fun hHeld => ?_)
    clear hK K
    refine norm_ (a' := ?_) ?_ ?_
    rotate_left
    ·
     show Act.put _ (some 24) _ = _
     simp only [Act.put, List.setIfInBounds_toArray, List.set_cons_zero, List.set_cons_succ, i64_w, i32_w]
     rfl
    refine one_ (i := 3) (N := some 25) #[true, true, true, true, false] rfl rfl (by kernel_rfl) (by decide) (fun K hK => ?_)
    refine goes_ Try.func20 (by kernel_rfl) rfl #[.agg #[.slice Ao26 t524.length co26, .slice Ao29 t527.length co29], .agg #[.slice Ao33 t532.length co33, .slice Ao34 t535.length co34]] (by rfl) rfl rfl (by (try simp only [List.map_toArray, List.map_cons, List.map_nil]); first | done | rfl | (simp only [List.length_drop, List.length_take]; rfl)) ?_
    with_reducible refine (laws_eqMap.calls k _ _ t524 _ _ t527 _ _ t532 _ _ t535 true _ ?side1 ?side2 ?side3 ?side4 ?side5 ?side6 ?side7 ?side8 A13.out).mono ?_
    (case side1 => exact cU ((Kd.R_reads' HO526.out).2.2))
    (case side2 => exact (Kd.R_reads' HO526.out).2.1)
    (case side3 => exact cU ((Kd.R_reads' HO529.out).2.2))
    (case side4 => exact (Kd.R_reads' HO529.out).2.1)
    (case side5 => exact cU ((Kd.R_reads' HO534.out).2.2))
    (case side6 => exact (Kd.R_reads' HO534.out).2.1)
    (case side7 => exact cU ((Kd.R_reads' HO537.out).2.2))
    (case side8 => exact (Kd.R_reads' HO537.out).2.1)
    rintro e w35 ⟨rfl, hb⟩
    refine ⟨_, rfl, ?_⟩
    have n0 := Az (Kd.R_below (rU HO519.out) hb); have n1 := Az (Kd.R_below (rU HO522.out) hb); have n2 := Az (Kd.R_below (rU HO526.out) hb); have n3 := Az (Kd.R_below (rU HO529.out) hb); have n4 := Az (Kd.R_below (rU HO534.out) hb); have n5 := Az (Kd.R_below (rU HO537.out) hb); have n6 := Az (blk_below (g := gb515) (o := .cells #[.slice A0_0 l0_0.length c0_0, .slice A0_1 l0_1.length c0_1] 24 (0, 0)) (kU BK515.out) hb); have n7 := Az (blk_below (g := gb530) (o := .cells #[.slice Ao26 t524.length co26, .slice Ao29 t527.length co29] 27 (0, 0)) (kU BK530.out) hb); have n8 := Az (below_step (bU2 HB.out GE515.out GE530.out) hb); clear HO519 HO522 HO526 HO529 HO534 HO537 BK515 BK530 HB; have HO519 := n0; have HO522 := n1; have HO526 := n2; have HO529 := n3; have HO534 := n4; have HO537 := n5; have BK515 := n6; have BK530 := n7; have HB := n8; clear n0 n1 n2 n3 n4 n5 n6 n7 n8; (try clear hb); (try clear hb2); (try clear hk); (try clear hi)
    refine hK.out _ _ ⟨(blk_cell BK530.out 0).trans rfl, (blk_cell BK530.out 1).trans rfl, (blk_cell BK515.out 0).trans rfl, (blk_cell BK515.out 1).trans rfl⟩ (fun hHeld => ?_)
    clear hK K
    refine norm_ (a' := ?_) ?_ ?_
    rotate_left
    ·
     show Act.put _ (some 25) _ = _
     simp only [Act.put, List.setIfInBounds_toArray, List.set_cons_zero, List.set_cons_succ, i64_w, i32_w]
     rfl
    refine pure_ (i := 4) (N := some 26) (v := ?_) (a' := ?_) #[true, true, true, true, true] rfl rfl (by kernel_rfl) (fun _ _ _ h => h) (Or.inl ⟨by rfl, ?_⟩) ?_ ?_
    rotate_left
    ·
     intro w'
     go_simp
     with_reducible rfl
    rotate_left
    ·
     simp only [Act.put, List.setIfInBounds_toArray, List.set_cons_zero, List.set_cons_succ, i64_w, i32_w]
     rfl
    refine done_ (by kernel_rfl) ?_
    try go_wp2
    go_ret
    exact ⟨rE, bU2 HB.out GE515.out GE530.out⟩
   ·
    replace c14 := Bool.eq_false_iff.mpr c14; subst c14
    have H1 : (some false) = some r := by rw [if_neg (show ¬ (false = true) by decide)] at H; exact H
    clear H; have H := H1; clear H1; obtain rfl := Option.some.inj H
    go_enter Try.func13, Try.ntmps13
    try go_wp2_with (first | ((with_reducible refine gate_dst (N := 1) rfl ?_); refine box_event ?hg (N := 1) ?hd (cs := #[.slice A0_0 l0_0.length c0_0, .slice A0_1 l0_1.length c0_1]) (t := 24) ?hr ?_; (case hd => rfl); (case hg => rfl); (case hr => first | (go_simp; done) | (go_simp; rfl)); intro gb515 hg w36 hbox hb; have n0 := Az (below_step (bU0 HB.out) hb); have n1 := Az (hbox); have n2 := Az ((by rw [hg]; exact (below_size (bU0 HB.out)) : w.heap.size ≤ gb515)); have n3 := n2; clear HB; have HB := n0; have BK515 := n1; have GW515 := n2; have GE515 := n3; clear n0 n1 n2 n3 hb hbox hg; have hcz37_0 : w36.cell? ⟨gb515, 0, none⟩ = some (.slice A0_0 l0_0.length c0_0) := (blk_cell BK515.out 0).trans rfl; have hcz37_1 : w36.cell? ⟨gb515, 1, none⟩ = some (.slice A0_1 l0_1.length c0_1) := (blk_cell BK515.out 1).trans rfl; have hfz37_0 := blk_frozen BK515.out 0; have hfz37_1 := blk_frozen BK515.out 1) | ((with_reducible refine gate_callee (f := 15) rfl ?_); refine goesL_ (some 9) rfl rfl Try.func15 (by kernel_rfl) rfl #[.agg #[.slice A0_0 l0_0.length c0_0, .slice A0_1 l0_1.length c0_1], .int .i64 1048576] rfl (by (try simp only [List.map_toArray, List.map_cons, List.map_nil]); first | done | rfl | (simp only [List.length_drop, List.length_take]; rfl)) ?_; (with_reducible refine (laws_szMap.calls _ _ l0_0 _ _ l0_1 1048576 t516 _ ?side1 ?side2 ?side3 ?side4 A2.out).mono ?_); (case side1 => exact cU (Kd.C_below HR0_0.out HB.out)); (case side2 => exact HC0_0.out); (case side3 => exact cU (Kd.C_below HR0_1.out HB.out)); (case side4 => exact HC0_1.out); rintro e w38 ⟨rfl, hb⟩; refine ⟨_, rfl, ?_⟩; have n0 := Az (blk_below (g := gb515) (o := .cells #[.slice A0_0 l0_0.length c0_0, .slice A0_1 l0_1.length c0_1] 24 (0, 0)) (kU BK515.out) hb); have n1 := Az (below_step (bU1 HB.out GE515.out) hb); clear BK515 HB; have BK515 := n0; have HB := n1; clear n0 n1; (try clear hb); (try clear hb2); (try clear hk); (try clear hi); have hcz39_0 : w38.cell? ⟨gb515, 0, none⟩ = some (.slice A0_0 l0_0.length c0_0) := (blk_cell BK515.out 0).trans rfl; have hcz39_1 : w38.cell? ⟨gb515, 1, none⟩ = some (.slice A0_1 l0_1.length c0_1) := (blk_cell BK515.out 1).trans rfl; have hfz39_0 := blk_frozen BK515.out 0; have hfz39_1 := blk_frozen BK515.out 1) | ((with_reducible refine gate_callee (f := 17) rfl ?_); refine goesL_ (some 13) rfl rfl Try.func17 (by kernel_rfl) rfl #[.agg #[.slice A0_0 l0_0.length c0_0, .slice A0_1 l0_1.length c0_1]] rfl (by (try simp only [List.map_toArray, List.map_cons, List.map_nil]); first | done | rfl | (simp only [List.length_drop, List.length_take]; rfl)) ?_; (with_reducible refine (laws_toMap.calls k _ _ l0_0 _ _ l0_1 t517 t520 _ ?side1 ?side2 ?side3 ?side4 A7.out).mono ?_); (case side1 => exact cU (Kd.C_below HR0_0.out HB.out)); (case side2 => exact HC0_0.out); (case side3 => exact cU (Kd.C_below HR0_1.out HB.out)); (case side4 => exact HC0_1.out); rintro e w40 ⟨v518, v521, rfl, ho0, ho1, hb⟩; refine ⟨_, rfl, ?_⟩; have n0 := Az (Kd.R_lower ho0 (below_size (bU1 HB.out GE515.out))); have n1 := Az (Kd.R_lower ho1 (below_size (bU1 HB.out GE515.out))); have n2 := Az (blk_below (g := gb515) (o := .cells #[.slice A0_0 l0_0.length c0_0, .slice A0_1 l0_1.length c0_1] 24 (0, 0)) (kU BK515.out) hb); have n3 := Az (below_step (bU1 HB.out GE515.out) hb); clear BK515 HB; have HO519 := n0; have HO522 := n1; have BK515 := n2; have HB := n3; clear n0 n1 n2 n3; (try clear hb); (try clear hb2); (try clear hk); (try clear hi); (try clear ho0); (try clear ho1); obtain ⟨Ao41, co41, eo41⟩ := Kd.R_slice HO519.out; subst eo41; obtain ⟨Ao42, co42, eo42⟩ := Kd.R_slice HO522.out; subst eo42) | ((with_reducible refine gate_callee (f := 44) rfl ?_); refine goesL_ (some 14) rfl rfl Try.func44 (by kernel_rfl) rfl #[.agg #[.slice Ao41 t517.length co41, .slice Ao42 t520.length co42]] rfl (by (try simp only [List.map_toArray, List.map_cons, List.map_nil]); first | done | rfl | (simp only [List.length_drop, List.length_take]; rfl)) ?_; (with_reducible refine (spec_RibbonTrees.calls k _ _ t517 _ _ t520 t523 _ ?side1 ?side2 ?side3 ?side4 A8.out).mono ?_); (case side1 => exact cU ((Kd.R_reads' HO519.out).2.2)); (case side2 => exact (Kd.R_reads' HO519.out).2.1); (case side3 => exact cU ((Kd.R_reads' HO522.out).2.2)); (case side4 => exact (Kd.R_reads' HO522.out).2.1); rintro e w43 ⟨rfl, hb⟩; refine ⟨_, rfl, ?_⟩; have n0 := Az (Kd.R_below (rU HO519.out) hb); have n1 := Az (Kd.R_below (rU HO522.out) hb); have n2 := Az (blk_below (g := gb515) (o := .cells #[.slice A0_0 l0_0.length c0_0, .slice A0_1 l0_1.length c0_1] 24 (0, 0)) (kU BK515.out) hb); have n3 := Az (below_step (bU1 HB.out GE515.out) hb); clear HO519 HO522 BK515 HB; have HO519 := n0; have HO522 := n1; have BK515 := n2; have HB := n3; clear n0 n1 n2 n3; (try clear hb); (try clear hb2); (try clear hk); (try clear hi); have hcz44_0 : w43.cell? ⟨gb515, 0, none⟩ = some (.slice A0_0 l0_0.length c0_0) := (blk_cell BK515.out 0).trans rfl; have hcz44_1 : w43.cell? ⟨gb515, 1, none⟩ = some (.slice A0_1 l0_1.length c0_1) := (blk_cell BK515.out 1).trans rfl; have hfz44_0 := blk_frozen BK515.out 0; have hfz44_1 := blk_frozen BK515.out 1) | ((with_reducible refine gate_callee (f := 17) rfl ?_); refine goesL_ (some 16) rfl rfl Try.func17 (by kernel_rfl) rfl #[.agg #[.slice A0_0 l0_0.length c0_0, .slice A0_1 l0_1.length c0_1]] rfl (by (try simp only [List.map_toArray, List.map_cons, List.map_nil]); first | done | rfl | (simp only [List.length_drop, List.length_take]; rfl)) ?_; (with_reducible refine (laws_toMap.calls k _ _ l0_0 _ _ l0_1 t524 t527 _ ?side1 ?side2 ?side3 ?side4 A9.out).mono ?_); (case side1 => exact cU (Kd.C_below HR0_0.out HB.out)); (case side2 => exact HC0_0.out); (case side3 => exact cU (Kd.C_below HR0_1.out HB.out)); (case side4 => exact HC0_1.out); rintro e w45 ⟨v525, v528, rfl, ho0, ho1, hb⟩; refine ⟨_, rfl, ?_⟩; have n0 := Az (Kd.R_mono (Kd.R_told (Kd.R_told (Kd.R_old (rU HO519.out) hb) (Kd.R_base ho0)) (Kd.R_base ho1)) (fun _ h_ => h_.1)); have n1 := Az (Kd.R_mono (Kd.R_told (Kd.R_told (Kd.R_old (rU HO522.out) hb) (Kd.R_base ho0)) (Kd.R_base ho1)) (fun _ h_ => h_.1)); have n2 := Az (Kd.R_lower (Kd.R_new' (Kd.R_new' ho0 (Kd.R_lt (rU HO519.out))) (Kd.R_lt (rU HO522.out))) (below_size (bU1 HB.out GE515.out))); have n3 := Az (Kd.R_lower (Kd.R_new' (Kd.R_new' ho1 (Kd.R_lt (rU HO519.out))) (Kd.R_lt (rU HO522.out))) (below_size (bU1 HB.out GE515.out))); have n4 := Az (blk_below (g := gb515) (o := .cells #[.slice A0_0 l0_0.length c0_0, .slice A0_1 l0_1.length c0_1] 24 (0, 0)) (kU BK515.out) hb); have n5 := Az (below_step (bU1 HB.out GE515.out) hb); clear HO519 HO522 BK515 HB; have HO519 := n0; have HO522 := n1; have HO526 := n2; have HO529 := n3; have BK515 := n4; have HB := n5; clear n0 n1 n2 n3 n4 n5; (try clear hb); (try clear hb2); (try clear hk); (try clear hi); (try clear ho0); (try clear ho1)) | ((with_reducible refine gate_dst (N := 5) rfl ?_); refine box_event ?hg (N := 5) ?hd (cs := #[.slice none 0 0, .slice none 0 0]) (t := 27) ?hr ?_; (case hd => rfl); (case hg => rfl); (case hr => first | (go_simp; done) | (go_simp; rfl)); intro gb530 hg w46 hbox hb; have n0 := Az (Kd.R_below (rU HO519.out) hb); have n1 := Az (Kd.R_below (rU HO522.out) hb); have n2 := Az (Kd.R_below (rU HO526.out) hb); have n3 := Az (Kd.R_below (rU HO529.out) hb); have n4 := Az (blk_below (g := gb515) (o := .cells #[.slice A0_0 l0_0.length c0_0, .slice A0_1 l0_1.length c0_1] 24 (0, 0)) (kU BK515.out) hb); have n5 := Az (below_step (bU1 HB.out GE515.out) hb); have n6 := Az (hbox); have n7 := Az ((by rw [hg]; exact (below_size (bU1 HB.out GE515.out)) : w.heap.size ≤ gb530)); have n8 := n7; have n9 := Az ((by rw [hg]; exact Nat.ne_of_lt (blk_lt (g := gb515) (o := .cells #[.slice A0_0 l0_0.length c0_0, .slice A0_1 l0_1.length c0_1] 24 (0, 0)) (kU BK515.out)) : gb515 ≠ gb530)); have n10 := Az ((by rw [hg]; exact Nat.ne_of_gt (blk_lt (g := gb515) (o := .cells #[.slice A0_0 l0_0.length c0_0, .slice A0_1 l0_1.length c0_1] 24 (0, 0)) (kU BK515.out)) : gb530 ≠ gb515)); clear HO519 HO522 HO526 HO529 BK515 HB; have HO519 := n0; have HO522 := n1; have HO526 := n2; have HO529 := n3; have BK515 := n4; have HB := n5; have BK530 := n6; have GW530 := n7; have GE530 := n8; have NB515_530 := n9; have NB530_515 := n10; clear n0 n1 n2 n3 n4 n5 n6 n7 n8 n9 n10 hb hbox hg; obtain ⟨Ao47, co47, eo47⟩ := Kd.R_slice HO526.out; subst eo47; have hnb48 := NB530_515.out; have hnc48 := NB515_530.out; have hcz49_0 : w46.cell? ⟨gb530, 0, none⟩ = some (.slice none 0 0) := (blk_cell BK530.out 0).trans rfl; have hcz49_1 : w46.cell? ⟨gb530, 1, none⟩ = some (.slice none 0 0) := (blk_cell BK530.out 1).trans rfl; have hfz49_0 := blk_frozen BK530.out 0; have hfz49_1 := blk_frozen BK530.out 1; obtain ⟨Ao50, co50, eo50⟩ := Kd.R_slice HO529.out; subst eo50) | ((with_reducible refine gate_callee (f := 45) rfl ?_); refine goesL_ (some 18) rfl rfl Try.func45 (by kernel_rfl) rfl #[.agg #[.slice Ao47 t524.length co47, .slice Ao50 t527.length co50]] rfl (by (try simp only [List.map_toArray, List.map_cons, List.map_nil]); first | done | rfl | (simp only [List.length_drop, List.length_take]; rfl)) ?_; (with_reducible refine (impl_RibbonTrees.calls k _ _ t524 _ _ t527 t531 _ ?side1 ?side2 ?side3 ?side4 A10.out).mono ?_); (case side1 => refine (Kd.R_reads' (e := 3) (base := w.heap.size) (ok := fun k_ => ((some k_ ≠ (.slice Ao50 t527.length co50 : Value).ownBlock ∧ some k_ ≠ (.slice Ao41 t517.length co41 : Value).ownBlock) ∧ some k_ ≠ (.slice Ao42 t520.length co42 : Value).ownBlock)) (n := t524.length) (c := co47) ?_).2.2; exact (by (with_reducible repeat (first | apply Kd.R_alloc | apply Kd.R_drewN | apply Kd.R_drew)); exact (Kd.R_mono (Kd.R_far (p := ⟨gb530, 1, none⟩) (Kd.R_far (p := ⟨gb530, 0, none⟩) (Kd.R_types HO526.out BK530.out (by decide)) (fun _ hk => hk.2) (.slice Ao47 t524.length co47)) (fun _ hk => hk.2) (.slice Ao50 t527.length co50)) (fun _ h_ => h_.1)))); (case side2 => exact (Kd.R_reads' HO526.out).2.1); (case side3 => refine (Kd.R_reads' (e := 3) (base := w.heap.size) (ok := fun k_ => ((some k_ ≠ (.slice Ao47 t524.length co47 : Value).ownBlock ∧ some k_ ≠ (.slice Ao41 t517.length co41 : Value).ownBlock) ∧ some k_ ≠ (.slice Ao42 t520.length co42 : Value).ownBlock)) (n := t527.length) (c := co50) ?_).2.2; exact (by (with_reducible repeat (first | apply Kd.R_alloc | apply Kd.R_drewN | apply Kd.R_drew)); exact (Kd.R_mono (Kd.R_far (p := ⟨gb530, 1, none⟩) (Kd.R_far (p := ⟨gb530, 0, none⟩) (Kd.R_types HO529.out BK530.out (by decide)) (fun _ hk => hk.2) (.slice Ao47 t524.length co47)) (fun _ hk => hk.2) (.slice Ao50 t527.length co50)) (fun _ h_ => h_.1)))); (case side4 => exact (Kd.R_reads' HO529.out).2.1); rintro e w51 ⟨rfl, hb⟩; refine ⟨_, rfl, ?_⟩; have n0 := Az (Kd.R_below (by (with_reducible repeat (first | apply Kd.R_alloc | apply Kd.R_drewN | apply Kd.R_drew)); exact (Kd.R_mono (Kd.R_far (p := ⟨gb530, 1, none⟩) (Kd.R_far (p := ⟨gb530, 0, none⟩) (Kd.R_types HO519.out BK530.out (by decide)) (fun _ hk => hk.2) (.slice Ao47 t524.length co47)) (fun _ hk => hk.2) (.slice Ao50 t527.length co50)) (fun _ h_ => h_.1))) hb); have n1 := Az (Kd.R_below (by (with_reducible repeat (first | apply Kd.R_alloc | apply Kd.R_drewN | apply Kd.R_drew)); exact (Kd.R_mono (Kd.R_far (p := ⟨gb530, 1, none⟩) (Kd.R_far (p := ⟨gb530, 0, none⟩) (Kd.R_types HO522.out BK530.out (by decide)) (fun _ hk => hk.2) (.slice Ao47 t524.length co47)) (fun _ hk => hk.2) (.slice Ao50 t527.length co50)) (fun _ h_ => h_.1))) hb); have n2 := Az (Kd.R_below (by (with_reducible repeat (first | apply Kd.R_alloc | apply Kd.R_drewN | apply Kd.R_drew)); exact (Kd.R_mono (Kd.R_far (p := ⟨gb530, 1, none⟩) (Kd.R_far (p := ⟨gb530, 0, none⟩) (Kd.R_types HO526.out BK530.out (by decide)) (fun _ hk => hk.2) (.slice Ao47 t524.length co47)) (fun _ hk => hk.2) (.slice Ao50 t527.length co50)) (fun _ h_ => h_.1))) hb); have n3 := Az (Kd.R_below (by (with_reducible repeat (first | apply Kd.R_alloc | apply Kd.R_drewN | apply Kd.R_drew)); exact (Kd.R_mono (Kd.R_far (p := ⟨gb530, 1, none⟩) (Kd.R_far (p := ⟨gb530, 0, none⟩) (Kd.R_types HO529.out BK530.out (by decide)) (fun _ hk => hk.2) (.slice Ao47 t524.length co47)) (fun _ hk => hk.2) (.slice Ao50 t527.length co50)) (fun _ h_ => h_.1))) hb); have n4 := Az (blk_below (g := gb515) (o := .cells #[.slice A0_0 l0_0.length c0_0, .slice A0_1 l0_1.length c0_1] 24 (0, 0)) (by (with_reducible repeat (first | refine blk_drewN ?_ _ | refine blk_drew ?_ | refine blk_alloc ?_ _)); refine blk_far ?_ NB515_530.out _; (with_reducible repeat (first | refine blk_drewN ?_ _ | refine blk_drew ?_ | refine blk_alloc ?_ _)); refine blk_far ?_ NB515_530.out _; (with_reducible repeat (first | refine blk_drewN ?_ _ | refine blk_drew ?_ | refine blk_alloc ?_ _)); exact BK515.out) hb); have n5 := Az (blk_below (g := gb530) (o := .cells #[.slice Ao47 t524.length co47, .slice Ao50 t527.length co50] 27 (0, 0)) (by (with_reducible repeat (first | refine blk_drewN ?_ _ | refine blk_drew ?_ | refine blk_alloc ?_ _)); refine blk_put (cs := #[.slice Ao47 t524.length co47, .slice none 0 0]) ?_ 1 _ rfl; (with_reducible repeat (first | refine blk_drewN ?_ _ | refine blk_drew ?_ | refine blk_alloc ?_ _)); refine blk_put (cs := #[.slice none 0 0, .slice none 0 0]) ?_ 0 _ rfl; (with_reducible repeat (first | refine blk_drewN ?_ _ | refine blk_drew ?_ | refine blk_alloc ?_ _)); exact BK530.out) hb); have n6 := Az (below_step (bU2 HB.out GE515.out GE530.out) hb); clear HO519 HO522 HO526 HO529 BK515 BK530 HB; have HO519 := n0; have HO522 := n1; have HO526 := n2; have HO529 := n3; have BK515 := n4; have BK530 := n5; have HB := n6; clear n0 n1 n2 n3 n4 n5 n6; (try clear hb); (try clear hb2); (try clear hk); (try clear hi)))
    have n0 := Az (Kd.R_drew HO519.out); have n1 := Az (Kd.R_drew HO522.out); have n2 := Az (Kd.R_drew HO526.out); have n3 := Az (Kd.R_drew HO529.out); have n4 := Az (blk_drew BK515.out); have n5 := Az (blk_drew BK530.out); have n6 := Az (below_drew1 HB.out); clear HO519 HO522 HO526 HO529 BK515 BK530 HB; have HO519 := n0; have HO522 := n1; have HO526 := n2; have HO529 := n3; have BK515 := n4; have BK530 := n5; have HB := n6; clear n0 n1 n2 n3 n4 n5 n6
    refine start_ (n := 5) (S := fun w' => w'.cell? ⟨gb530, 0, none⟩ = some (.slice Ao47 t524.length co47) ∧ w'.cell? ⟨gb530, 1, none⟩ = some (.slice Ao50 t527.length co50) ∧ w'.cell? ⟨gb515, 0, none⟩ = some (.slice A0_0 l0_0.length c0_0) ∧ w'.cell? ⟨gb515, 1, none⟩ = some (.slice A0_1 l0_1.length c0_1)) (ds := []) #[false, false, false, false, false] (by kernel_rfl) rfl rfl ⟨(blk_cell BK530.out 0).trans rfl, (blk_cell BK530.out 1).trans rfl, (blk_cell BK515.out 0).trans rfl, (blk_cell BK515.out 1).trans rfl⟩ (fun hHeld => ?_)
    generalize w51.drew = w52 at HO519 HO522 HO526 HO529 BK515 BK530 HB hHeld ⊢
    refine take_ (i := 0) (N := some 22) (v := ?_) (a' := ?_) #[true, false, false, false, false] rfl rfl (by kernel_rfl) (fun _ _ _ h => h) (Or.inl ⟨by rfl, ?_⟩) hHeld ?_ ?_
    rotate_left
    ·
     rintro w' ⟨s0, s1, s2, s3⟩
     go_simp
     with_reducible rfl
    rotate_left
    ·
     simp only [Act.put, List.setIfInBounds_toArray, List.set_cons_zero, List.set_cons_succ, i64_w, i32_w]
     rfl
    refine take_ (i := 1) (N := some 23) (v := ?_) (a' := ?_) #[true, true, false, false, false] rfl rfl (by kernel_rfl) (fun _ _ _ h => h) (Or.inl ⟨by rfl, ?_⟩) hHeld ?_ ?_
    rotate_left
    ·
     rintro w' ⟨s0, s1, s2, s3⟩
     go_simp
     with_reducible rfl
    rotate_left
    ·
     simp only [Act.put, List.setIfInBounds_toArray, List.set_cons_zero, List.set_cons_succ, i64_w, i32_w]
     rfl
    refine one_ (i := 2) (N := some 24) #[true, true, true, false, false] rfl rfl (by kernel_rfl) (by decide) (fun K hK => ?_)
    refine goes_ Try.func17 (by kernel_rfl) rfl #[.agg #[.slice A0_0 l0_0.length c0_0, .slice A0_1 l0_1.length c0_1]] (by rfl) rfl rfl (by (try simp only [List.map_toArray, List.map_cons, List.map_nil]); first | done | rfl | (simp only [List.length_drop, List.length_take]; rfl)) ?_
    with_reducible refine (laws_toMap.calls k _ _ l0_0 _ _ l0_1 t532 t535 _ ?side1 ?side2 ?side3 ?side4 A12.out).mono ?_
    (case side1 => exact cU (Kd.C_below HR0_0.out HB.out))
    (case side2 => exact HC0_0.out)
    (case side3 => exact cU (Kd.C_below HR0_1.out HB.out))
    (case side4 => exact HC0_1.out)
    rintro e w53 ⟨v533, v536, rfl, ho0, ho1, hb⟩
    refine ⟨_, rfl, ?_⟩
    have n0 := Az (Kd.R_mono (Kd.R_told (Kd.R_told (Kd.R_old (rU HO519.out) hb) (Kd.R_base ho0)) (Kd.R_base ho1)) (fun _ h_ => h_.1)); have n1 := Az (Kd.R_mono (Kd.R_told (Kd.R_told (Kd.R_old (rU HO522.out) hb) (Kd.R_base ho0)) (Kd.R_base ho1)) (fun _ h_ => h_.1)); have n2 := Az (Kd.R_mono (Kd.R_told (Kd.R_told (Kd.R_old (rU HO526.out) hb) (Kd.R_base ho0)) (Kd.R_base ho1)) (fun _ h_ => h_.1)); have n3 := Az (Kd.R_mono (Kd.R_told (Kd.R_told (Kd.R_old (rU HO529.out) hb) (Kd.R_base ho0)) (Kd.R_base ho1)) (fun _ h_ => h_.1)); have n4 := Az (Kd.R_lower (Kd.R_new' (Kd.R_new' (Kd.R_new' (Kd.R_new' ho0 (Kd.R_lt (rU HO519.out))) (Kd.R_lt (rU HO522.out))) (Kd.R_lt (rU HO526.out))) (Kd.R_lt (rU HO529.out))) (below_size (bU2 HB.out GE515.out GE530.out))); have n5 := Az (Kd.R_lower (Kd.R_new' (Kd.R_new' (Kd.R_new' (Kd.R_new' ho1 (Kd.R_lt (rU HO519.out))) (Kd.R_lt (rU HO522.out))) (Kd.R_lt (rU HO526.out))) (Kd.R_lt (rU HO529.out))) (below_size (bU2 HB.out GE515.out GE530.out))); have n6 := Az (blk_below (g := gb515) (o := .cells #[.slice A0_0 l0_0.length c0_0, .slice A0_1 l0_1.length c0_1] 24 (0, 0)) (kU BK515.out) hb); have n7 := Az (blk_below (g := gb530) (o := .cells #[.slice Ao47 t524.length co47, .slice Ao50 t527.length co50] 27 (0, 0)) (kU BK530.out) hb); have n8 := Az (below_step (bU2 HB.out GE515.out GE530.out) hb); clear HO519 HO522 HO526 HO529 BK515 BK530 HB; have HO519 := n0; have HO522 := n1; have HO526 := n2; have HO529 := n3; have HO534 := n4; have HO537 := n5; have BK515 := n6; have BK530 := n7; have HB := n8; clear n0 n1 n2 n3 n4 n5 n6 n7 n8; (try clear hb); (try clear hb2); (try clear hk); (try clear hi); (try clear ho0); (try clear ho1); obtain ⟨Ao54, co54, eo54⟩ := Kd.R_slice HO534.out; (first | subst eo54 | (injection eo54 with f1_ f2_ f3_; have f4_ := f1_.symm; have f5_ := f3_.symm; clear f1_ f2_ f3_; subst f4_; subst f5_)); obtain ⟨Ao55, co55, eo55⟩ := Kd.R_slice HO537.out; (first | subst eo55 | (injection eo55 with f1_ f2_ f3_; have f4_ := f1_.symm; have f5_ := f3_.symm; clear f1_ f2_ f3_; subst f4_; subst f5_))
    refine hK.out _ _ ⟨(blk_cell BK530.out 0).trans rfl, (blk_cell BK530.out 1).trans rfl, (blk_cell BK515.out 0).trans rfl, (blk_cell BK515.out 1).trans rfl⟩ (fun hHeld => ?_)
    clear hK K
    refine norm_ (a' := ?_) ?_ ?_
    rotate_left
    ·
     show Act.put _ (some 24) _ = _
     simp only [Act.put, List.setIfInBounds_toArray, List.set_cons_zero, List.set_cons_succ, i64_w, i32_w]
     rfl
    refine one_ (i := 3) (N := some 25) #[true, true, true, true, false] rfl rfl (by kernel_rfl) (by decide) (fun K hK => ?_)
    refine goes_ Try.func20 (by kernel_rfl) rfl #[.agg #[.slice Ao47 t524.length co47, .slice Ao50 t527.length co50], .agg #[.slice Ao54 t532.length co54, .slice Ao55 t535.length co55]] (by rfl) rfl rfl (by (try simp only [List.map_toArray, List.map_cons, List.map_nil]); first | done | rfl | (simp only [List.length_drop, List.length_take]; rfl)) ?_
    with_reducible refine (laws_eqMap.calls k _ _ t524 _ _ t527 _ _ t532 _ _ t535 false _ ?side1 ?side2 ?side3 ?side4 ?side5 ?side6 ?side7 ?side8 A13.out).mono ?_
    (case side1 => exact cU ((Kd.R_reads' HO526.out).2.2))
    (case side2 => exact (Kd.R_reads' HO526.out).2.1)
    (case side3 => exact cU ((Kd.R_reads' HO529.out).2.2))
    (case side4 => exact (Kd.R_reads' HO529.out).2.1)
    (case side5 => exact cU ((Kd.R_reads' HO534.out).2.2))
    (case side6 => exact (Kd.R_reads' HO534.out).2.1)
    (case side7 => exact cU ((Kd.R_reads' HO537.out).2.2))
    (case side8 => exact (Kd.R_reads' HO537.out).2.1)
    rintro e w56 ⟨rfl, hb⟩
    refine ⟨_, rfl, ?_⟩
    have n0 := Az (Kd.R_below (rU HO519.out) hb); have n1 := Az (Kd.R_below (rU HO522.out) hb); have n2 := Az (Kd.R_below (rU HO526.out) hb); have n3 := Az (Kd.R_below (rU HO529.out) hb); have n4 := Az (Kd.R_below (rU HO534.out) hb); have n5 := Az (Kd.R_below (rU HO537.out) hb); have n6 := Az (blk_below (g := gb515) (o := .cells #[.slice A0_0 l0_0.length c0_0, .slice A0_1 l0_1.length c0_1] 24 (0, 0)) (kU BK515.out) hb); have n7 := Az (blk_below (g := gb530) (o := .cells #[.slice Ao47 t524.length co47, .slice Ao50 t527.length co50] 27 (0, 0)) (kU BK530.out) hb); have n8 := Az (below_step (bU2 HB.out GE515.out GE530.out) hb); clear HO519 HO522 HO526 HO529 HO534 HO537 BK515 BK530 HB; have HO519 := n0; have HO522 := n1; have HO526 := n2; have HO529 := n3; have HO534 := n4; have HO537 := n5; have BK515 := n6; have BK530 := n7; have HB := n8; clear n0 n1 n2 n3 n4 n5 n6 n7 n8; (try clear hb); (try clear hb2); (try clear hk); (try clear hi)
    refine hK.out _ _ ⟨(blk_cell BK530.out 0).trans rfl, (blk_cell BK530.out 1).trans rfl, (blk_cell BK515.out 0).trans rfl, (blk_cell BK515.out 1).trans rfl⟩ (fun hHeld => ?_)
    clear hK K
    refine norm_ (a' := ?_) ?_ ?_
    rotate_left
    ·
     show Act.put _ (some 25) _ = _
     simp only [Act.put, List.setIfInBounds_toArray, List.set_cons_zero, List.set_cons_succ, i64_w, i32_w]
     rfl
    refine pure_ (i := 4) (N := some 26) (v := ?_) (a' := ?_) #[true, true, true, true, true] rfl rfl (by kernel_rfl) (fun _ _ _ h => h) (Or.inl ⟨by rfl, ?_⟩) ?_ ?_
    rotate_left
    ·
     intro w'
     go_simp
     with_reducible rfl
    rotate_left
    ·
     simp only [Act.put, List.setIfInBounds_toArray, List.set_cons_zero, List.set_cons_succ, i64_w, i32_w]
     rfl
    refine done_ (by kernel_rfl) ?_
    try go_wp2
    go_ret
    exact ⟨rE, bU2 HB.out GE515.out GE530.out⟩
  ·
   rw [if_neg c11] at H; have c11b0 := beq_eq_false_iff_ne.mpr c11; have c11b1 := bne_iff_ne.mpr c11; obtain rfl := Option.some.inj H
   go_enter Try.func13, Try.ntmps13
   go_wp2_with (first | ((with_reducible refine gate_dst (N := 1) rfl ?_); refine box_event ?hg (N := 1) ?hd (cs := #[.slice A0_0 l0_0.length c0_0, .slice A0_1 l0_1.length c0_1]) (t := 24) ?hr ?_; (case hd => rfl); (case hg => rfl); (case hr => first | (go_simp; done) | (go_simp; rfl)); intro gb515 hg w57 hbox hb; have n0 := Az (below_step (bU0 HB.out) hb); have n1 := Az (hbox); have n2 := Az ((by rw [hg]; exact (below_size (bU0 HB.out)) : w.heap.size ≤ gb515)); have n3 := n2; clear HB; have HB := n0; have BK515 := n1; have GW515 := n2; have GE515 := n3; clear n0 n1 n2 n3 hb hbox hg; have hcz58_0 : w57.cell? ⟨gb515, 0, none⟩ = some (.slice A0_0 l0_0.length c0_0) := (blk_cell BK515.out 0).trans rfl; have hcz58_1 : w57.cell? ⟨gb515, 1, none⟩ = some (.slice A0_1 l0_1.length c0_1) := (blk_cell BK515.out 1).trans rfl; have hfz58_0 := blk_frozen BK515.out 0; have hfz58_1 := blk_frozen BK515.out 1) | ((with_reducible refine gate_callee (f := 15) rfl ?_); refine goesL_ (some 9) rfl rfl Try.func15 (by kernel_rfl) rfl #[.agg #[.slice A0_0 l0_0.length c0_0, .slice A0_1 l0_1.length c0_1], .int .i64 1048576] rfl (by (try simp only [List.map_toArray, List.map_cons, List.map_nil]); first | done | rfl | (simp only [List.length_drop, List.length_take]; rfl)) ?_; (with_reducible refine (laws_szMap.calls _ _ l0_0 _ _ l0_1 1048576 t516 _ ?side1 ?side2 ?side3 ?side4 A2.out).mono ?_); (case side1 => exact cU (Kd.C_below HR0_0.out HB.out)); (case side2 => exact HC0_0.out); (case side3 => exact cU (Kd.C_below HR0_1.out HB.out)); (case side4 => exact HC0_1.out); rintro e w59 ⟨rfl, hb⟩; refine ⟨_, rfl, ?_⟩; have n0 := Az (blk_below (g := gb515) (o := .cells #[.slice A0_0 l0_0.length c0_0, .slice A0_1 l0_1.length c0_1] 24 (0, 0)) (kU BK515.out) hb); have n1 := Az (below_step (bU1 HB.out GE515.out) hb); clear BK515 HB; have BK515 := n0; have HB := n1; clear n0 n1; (try clear hb); (try clear hb2); (try clear hk); (try clear hi); have hcz60_0 : w59.cell? ⟨gb515, 0, none⟩ = some (.slice A0_0 l0_0.length c0_0) := (blk_cell BK515.out 0).trans rfl; have hcz60_1 : w59.cell? ⟨gb515, 1, none⟩ = some (.slice A0_1 l0_1.length c0_1) := (blk_cell BK515.out 1).trans rfl; have hfz60_0 := blk_frozen BK515.out 0; have hfz60_1 := blk_frozen BK515.out 1) | ((with_reducible refine gate_callee (f := 17) rfl ?_); refine goesL_ (some 13) rfl rfl Try.func17 (by kernel_rfl) rfl #[.agg #[.slice A0_0 l0_0.length c0_0, .slice A0_1 l0_1.length c0_1]] rfl (by (try simp only [List.map_toArray, List.map_cons, List.map_nil]); first | done | rfl | (simp only [List.length_drop, List.length_take]; rfl)) ?_; (with_reducible refine (laws_toMap.calls k _ _ l0_0 _ _ l0_1 t517 t520 _ ?side1 ?side2 ?side3 ?side4 A7.out).mono ?_); (case side1 => exact cU (Kd.C_below HR0_0.out HB.out)); (case side2 => exact HC0_0.out); (case side3 => exact cU (Kd.C_below HR0_1.out HB.out)); (case side4 => exact HC0_1.out); rintro e w61 ⟨v518, v521, rfl, ho0, ho1, hb⟩; refine ⟨_, rfl, ?_⟩; have n0 := Az (Kd.R_lower ho0 (below_size (bU1 HB.out GE515.out))); have n1 := Az (Kd.R_lower ho1 (below_size (bU1 HB.out GE515.out))); have n2 := Az (blk_below (g := gb515) (o := .cells #[.slice A0_0 l0_0.length c0_0, .slice A0_1 l0_1.length c0_1] 24 (0, 0)) (kU BK515.out) hb); have n3 := Az (below_step (bU1 HB.out GE515.out) hb); clear BK515 HB; have HO519 := n0; have HO522 := n1; have BK515 := n2; have HB := n3; clear n0 n1 n2 n3; (try clear hb); (try clear hb2); (try clear hk); (try clear hi); (try clear ho0); (try clear ho1); obtain ⟨Ao62, co62, eo62⟩ := Kd.R_slice HO519.out; subst eo62; obtain ⟨Ao63, co63, eo63⟩ := Kd.R_slice HO522.out; subst eo63) | ((with_reducible refine gate_callee (f := 44) rfl ?_); refine goesL_ (some 14) rfl rfl Try.func44 (by kernel_rfl) rfl #[.agg #[.slice Ao62 t517.length co62, .slice Ao63 t520.length co63]] rfl (by (try simp only [List.map_toArray, List.map_cons, List.map_nil]); first | done | rfl | (simp only [List.length_drop, List.length_take]; rfl)) ?_; (with_reducible refine (spec_RibbonTrees.calls k _ _ t517 _ _ t520 t523 _ ?side1 ?side2 ?side3 ?side4 A8.out).mono ?_); (case side1 => exact cU ((Kd.R_reads' HO519.out).2.2)); (case side2 => exact (Kd.R_reads' HO519.out).2.1); (case side3 => exact cU ((Kd.R_reads' HO522.out).2.2)); (case side4 => exact (Kd.R_reads' HO522.out).2.1); rintro e w64 ⟨rfl, hb⟩; refine ⟨_, rfl, ?_⟩; have n0 := Az (Kd.R_below (rU HO519.out) hb); have n1 := Az (Kd.R_below (rU HO522.out) hb); have n2 := Az (blk_below (g := gb515) (o := .cells #[.slice A0_0 l0_0.length c0_0, .slice A0_1 l0_1.length c0_1] 24 (0, 0)) (kU BK515.out) hb); have n3 := Az (below_step (bU1 HB.out GE515.out) hb); clear HO519 HO522 BK515 HB; have HO519 := n0; have HO522 := n1; have BK515 := n2; have HB := n3; clear n0 n1 n2 n3; (try clear hb); (try clear hb2); (try clear hk); (try clear hi); have hcz65_0 : w64.cell? ⟨gb515, 0, none⟩ = some (.slice A0_0 l0_0.length c0_0) := (blk_cell BK515.out 0).trans rfl; have hcz65_1 : w64.cell? ⟨gb515, 1, none⟩ = some (.slice A0_1 l0_1.length c0_1) := (blk_cell BK515.out 1).trans rfl; have hfz65_0 := blk_frozen BK515.out 0; have hfz65_1 := blk_frozen BK515.out 1) | ((with_reducible refine gate_callee (f := 17) rfl ?_); refine goesL_ (some 16) rfl rfl Try.func17 (by kernel_rfl) rfl #[.agg #[.slice A0_0 l0_0.length c0_0, .slice A0_1 l0_1.length c0_1]] rfl (by (try simp only [List.map_toArray, List.map_cons, List.map_nil]); first | done | rfl | (simp only [List.length_drop, List.length_take]; rfl)) ?_; (with_reducible refine (laws_toMap.calls k _ _ l0_0 _ _ l0_1 t524 t527 _ ?side1 ?side2 ?side3 ?side4 A9.out).mono ?_); (case side1 => exact cU (Kd.C_below HR0_0.out HB.out)); (case side2 => exact HC0_0.out); (case side3 => exact cU (Kd.C_below HR0_1.out HB.out)); (case side4 => exact HC0_1.out); rintro e w66 ⟨v525, v528, rfl, ho0, ho1, hb⟩; refine ⟨_, rfl, ?_⟩; have n0 := Az (Kd.R_mono (Kd.R_told (Kd.R_told (Kd.R_old (rU HO519.out) hb) (Kd.R_base ho0)) (Kd.R_base ho1)) (fun _ h_ => h_.1)); have n1 := Az (Kd.R_mono (Kd.R_told (Kd.R_told (Kd.R_old (rU HO522.out) hb) (Kd.R_base ho0)) (Kd.R_base ho1)) (fun _ h_ => h_.1)); have n2 := Az (Kd.R_lower (Kd.R_new' (Kd.R_new' ho0 (Kd.R_lt (rU HO519.out))) (Kd.R_lt (rU HO522.out))) (below_size (bU1 HB.out GE515.out))); have n3 := Az (Kd.R_lower (Kd.R_new' (Kd.R_new' ho1 (Kd.R_lt (rU HO519.out))) (Kd.R_lt (rU HO522.out))) (below_size (bU1 HB.out GE515.out))); have n4 := Az (blk_below (g := gb515) (o := .cells #[.slice A0_0 l0_0.length c0_0, .slice A0_1 l0_1.length c0_1] 24 (0, 0)) (kU BK515.out) hb); have n5 := Az (below_step (bU1 HB.out GE515.out) hb); clear HO519 HO522 BK515 HB; have HO519 := n0; have HO522 := n1; have HO526 := n2; have HO529 := n3; have BK515 := n4; have HB := n5; clear n0 n1 n2 n3 n4 n5; (try clear hb); (try clear hb2); (try clear hk); (try clear hi); (try clear ho0); (try clear ho1)) | ((with_reducible refine gate_dst (N := 5) rfl ?_); refine box_event ?hg (N := 5) ?hd (cs := #[.slice none 0 0, .slice none 0 0]) (t := 27) ?hr ?_; (case hd => rfl); (case hg => rfl); (case hr => first | (go_simp; done) | (go_simp; rfl)); intro gb530 hg w67 hbox hb; have n0 := Az (Kd.R_below (rU HO519.out) hb); have n1 := Az (Kd.R_below (rU HO522.out) hb); have n2 := Az (Kd.R_below (rU HO526.out) hb); have n3 := Az (Kd.R_below (rU HO529.out) hb); have n4 := Az (blk_below (g := gb515) (o := .cells #[.slice A0_0 l0_0.length c0_0, .slice A0_1 l0_1.length c0_1] 24 (0, 0)) (kU BK515.out) hb); have n5 := Az (below_step (bU1 HB.out GE515.out) hb); have n6 := Az (hbox); have n7 := Az ((by rw [hg]; exact (below_size (bU1 HB.out GE515.out)) : w.heap.size ≤ gb530)); have n8 := n7; have n9 := Az ((by rw [hg]; exact Nat.ne_of_lt (blk_lt (g := gb515) (o := .cells #[.slice A0_0 l0_0.length c0_0, .slice A0_1 l0_1.length c0_1] 24 (0, 0)) (kU BK515.out)) : gb515 ≠ gb530)); have n10 := Az ((by rw [hg]; exact Nat.ne_of_gt (blk_lt (g := gb515) (o := .cells #[.slice A0_0 l0_0.length c0_0, .slice A0_1 l0_1.length c0_1] 24 (0, 0)) (kU BK515.out)) : gb530 ≠ gb515)); clear HO519 HO522 HO526 HO529 BK515 HB; have HO519 := n0; have HO522 := n1; have HO526 := n2; have HO529 := n3; have BK515 := n4; have HB := n5; have BK530 := n6; have GW530 := n7; have GE530 := n8; have NB515_530 := n9; have NB530_515 := n10; clear n0 n1 n2 n3 n4 n5 n6 n7 n8 n9 n10 hb hbox hg; obtain ⟨Ao68, co68, eo68⟩ := Kd.R_slice HO526.out; subst eo68; have hnb69 := NB530_515.out; have hnc69 := NB515_530.out; have hcz70_0 : w67.cell? ⟨gb530, 0, none⟩ = some (.slice none 0 0) := (blk_cell BK530.out 0).trans rfl; have hcz70_1 : w67.cell? ⟨gb530, 1, none⟩ = some (.slice none 0 0) := (blk_cell BK530.out 1).trans rfl; have hfz70_0 := blk_frozen BK530.out 0; have hfz70_1 := blk_frozen BK530.out 1; obtain ⟨Ao71, co71, eo71⟩ := Kd.R_slice HO529.out; subst eo71) | ((with_reducible refine gate_callee (f := 45) rfl ?_); refine goesL_ (some 18) rfl rfl Try.func45 (by kernel_rfl) rfl #[.agg #[.slice Ao68 t524.length co68, .slice Ao71 t527.length co71]] rfl (by (try simp only [List.map_toArray, List.map_cons, List.map_nil]); first | done | rfl | (simp only [List.length_drop, List.length_take]; rfl)) ?_; (with_reducible refine (impl_RibbonTrees.calls k _ _ t524 _ _ t527 t531 _ ?side1 ?side2 ?side3 ?side4 A10.out).mono ?_); (case side1 => refine (Kd.R_reads' (e := 3) (base := w.heap.size) (ok := fun k_ => ((some k_ ≠ (.slice Ao71 t527.length co71 : Value).ownBlock ∧ some k_ ≠ (.slice Ao62 t517.length co62 : Value).ownBlock) ∧ some k_ ≠ (.slice Ao63 t520.length co63 : Value).ownBlock)) (n := t524.length) (c := co68) ?_).2.2; exact (by (with_reducible repeat (first | apply Kd.R_alloc | apply Kd.R_drewN | apply Kd.R_drew)); exact (Kd.R_mono (Kd.R_far (p := ⟨gb530, 1, none⟩) (Kd.R_far (p := ⟨gb530, 0, none⟩) (Kd.R_types HO526.out BK530.out (by decide)) (fun _ hk => hk.2) (.slice Ao68 t524.length co68)) (fun _ hk => hk.2) (.slice Ao71 t527.length co71)) (fun _ h_ => h_.1)))); (case side2 => exact (Kd.R_reads' HO526.out).2.1); (case side3 => refine (Kd.R_reads' (e := 3) (base := w.heap.size) (ok := fun k_ => ((some k_ ≠ (.slice Ao68 t524.length co68 : Value).ownBlock ∧ some k_ ≠ (.slice Ao62 t517.length co62 : Value).ownBlock) ∧ some k_ ≠ (.slice Ao63 t520.length co63 : Value).ownBlock)) (n := t527.length) (c := co71) ?_).2.2; exact (by (with_reducible repeat (first | apply Kd.R_alloc | apply Kd.R_drewN | apply Kd.R_drew)); exact (Kd.R_mono (Kd.R_far (p := ⟨gb530, 1, none⟩) (Kd.R_far (p := ⟨gb530, 0, none⟩) (Kd.R_types HO529.out BK530.out (by decide)) (fun _ hk => hk.2) (.slice Ao68 t524.length co68)) (fun _ hk => hk.2) (.slice Ao71 t527.length co71)) (fun _ h_ => h_.1)))); (case side4 => exact (Kd.R_reads' HO529.out).2.1); rintro e w72 ⟨rfl, hb⟩; refine ⟨_, rfl, ?_⟩; have n0 := Az (Kd.R_below (by (with_reducible repeat (first | apply Kd.R_alloc | apply Kd.R_drewN | apply Kd.R_drew)); exact (Kd.R_mono (Kd.R_far (p := ⟨gb530, 1, none⟩) (Kd.R_far (p := ⟨gb530, 0, none⟩) (Kd.R_types HO519.out BK530.out (by decide)) (fun _ hk => hk.2) (.slice Ao68 t524.length co68)) (fun _ hk => hk.2) (.slice Ao71 t527.length co71)) (fun _ h_ => h_.1))) hb); have n1 := Az (Kd.R_below (by (with_reducible repeat (first | apply Kd.R_alloc | apply Kd.R_drewN | apply Kd.R_drew)); exact (Kd.R_mono (Kd.R_far (p := ⟨gb530, 1, none⟩) (Kd.R_far (p := ⟨gb530, 0, none⟩) (Kd.R_types HO522.out BK530.out (by decide)) (fun _ hk => hk.2) (.slice Ao68 t524.length co68)) (fun _ hk => hk.2) (.slice Ao71 t527.length co71)) (fun _ h_ => h_.1))) hb); have n2 := Az (Kd.R_below (by (with_reducible repeat (first | apply Kd.R_alloc | apply Kd.R_drewN | apply Kd.R_drew)); exact (Kd.R_mono (Kd.R_far (p := ⟨gb530, 1, none⟩) (Kd.R_far (p := ⟨gb530, 0, none⟩) (Kd.R_types HO526.out BK530.out (by decide)) (fun _ hk => hk.2) (.slice Ao68 t524.length co68)) (fun _ hk => hk.2) (.slice Ao71 t527.length co71)) (fun _ h_ => h_.1))) hb); have n3 := Az (Kd.R_below (by (with_reducible repeat (first | apply Kd.R_alloc | apply Kd.R_drewN | apply Kd.R_drew)); exact (Kd.R_mono (Kd.R_far (p := ⟨gb530, 1, none⟩) (Kd.R_far (p := ⟨gb530, 0, none⟩) (Kd.R_types HO529.out BK530.out (by decide)) (fun _ hk => hk.2) (.slice Ao68 t524.length co68)) (fun _ hk => hk.2) (.slice Ao71 t527.length co71)) (fun _ h_ => h_.1))) hb); have n4 := Az (blk_below (g := gb515) (o := .cells #[.slice A0_0 l0_0.length c0_0, .slice A0_1 l0_1.length c0_1] 24 (0, 0)) (by (with_reducible repeat (first | refine blk_drewN ?_ _ | refine blk_drew ?_ | refine blk_alloc ?_ _)); refine blk_far ?_ NB515_530.out _; (with_reducible repeat (first | refine blk_drewN ?_ _ | refine blk_drew ?_ | refine blk_alloc ?_ _)); refine blk_far ?_ NB515_530.out _; (with_reducible repeat (first | refine blk_drewN ?_ _ | refine blk_drew ?_ | refine blk_alloc ?_ _)); exact BK515.out) hb); have n5 := Az (blk_below (g := gb530) (o := .cells #[.slice Ao68 t524.length co68, .slice Ao71 t527.length co71] 27 (0, 0)) (by (with_reducible repeat (first | refine blk_drewN ?_ _ | refine blk_drew ?_ | refine blk_alloc ?_ _)); refine blk_put (cs := #[.slice Ao68 t524.length co68, .slice none 0 0]) ?_ 1 _ rfl; (with_reducible repeat (first | refine blk_drewN ?_ _ | refine blk_drew ?_ | refine blk_alloc ?_ _)); refine blk_put (cs := #[.slice none 0 0, .slice none 0 0]) ?_ 0 _ rfl; (with_reducible repeat (first | refine blk_drewN ?_ _ | refine blk_drew ?_ | refine blk_alloc ?_ _)); exact BK530.out) hb); have n6 := Az (below_step (bU2 HB.out GE515.out GE530.out) hb); clear HO519 HO522 HO526 HO529 BK515 BK530 HB; have HO519 := n0; have HO522 := n1; have HO526 := n2; have HO529 := n3; have BK515 := n4; have BK530 := n5; have HB := n6; clear n0 n1 n2 n3 n4 n5 n6; (try clear hb); (try clear hb2); (try clear hk); (try clear hi)))
   go_ret
   exact ⟨rE, bU2 HB.out GE515.out GE530.out⟩
def laws_FnExactRibbonTrees.Pure : Prop := ∀ (l0_0 : List Int) (l0_1 : List Int), l0_0.length ≤ maxLen → (∀ x ∈ l0_0, (Lit.int .i64 x).wf = true) → l0_1.length ≤ maxLen → (∀ x ∈ l0_1, (Lit.int .i64 x).wf = true) → ∃ k, laws_FnExactRibbonTrees.f k l0_0 l0_1 = some true
end Go.Proofs.Ytcjmgkbbmahgcaa.PU

set_option linter.unusedVariables false
set_option linter.unusedSimpArgs false
namespace Go.Proofs.Ytcjmgkbbmahgcaa.PU
open Go.RowKit Go.Proofs.YtcjmgkbbmahgcaaW.PrintWords Go.Proofs.YtcjmgkbbmahgcaaW.PrintLast Go.Proofs.YtcjmgkbbmahgcaaW.PrintMore
def tallE : Nat → List (List Int)
  | 0 => [[]]
  | n + 1 => tallE n ++ (tallE n).map (fun c => c ++ [(n : Int)])
theorem tchk_list : (List.range 7).all (fun (E : Nat) => decide (spec_l7All.f 300 (E : Int) = some (tallE E)) && decide ((tallE E).length = 2 ^ E)) = true := by decide +kernel
theorem tchk_bits : (List.range 7).all (fun (E : Nat) => (List.range (2 ^ E)).all fun (s : Nat) => decide (tch.l1 30 [] (s : Int) 0 (E : Int) = some ((tallE E).getD s [])) && decide (((tallE E).getD s []).length ≤ 20)) = true := by decide +kernel
theorem tchk (E : Nat) (h : E ≤ 6) : spec_l7All.f 300 (E : Int) = some (tallE E) ∧ (tallE E).length = 2 ^ E ∧ ∀ s : Nat, s < 2 ^ E → tch.l1 30 [] (s : Int) 0 (E : Int) = some ((tallE E).getD s []) ∧ ((tallE E).getD s []).length ≤ 20 := by
  have h1 := List.all_eq_true.1 tchk_list E (List.mem_range.2 (by omega))
  have h2 := List.all_eq_true.1 tchk_bits E (List.mem_range.2 (by omega))
  simp only [Bool.and_eq_true, decide_eq_true_eq] at h1
  refine ⟨h1.1, h1.2, fun s hs => ?_⟩
  have h3 := List.all_eq_true.1 h2 s (List.mem_range.2 hs)
  simp only [Bool.and_eq_true, decide_eq_true_eq] at h3
  exact h3
theorem tpow (E : Nat) (h : E ≤ 6) : wrap64 ((2 : Int) ^ E) = ((2 ^ E : Nat) : Int) ∧ 2 ^ E ≤ 64 := by
  have : E = 0 ∨ E = 1 ∨ E = 2 ∨ E = 3 ∨ E = 4 ∨ E = 5 ∨ E = 6 := by omega
  rcases this with rfl | rfl | rfl | rfl | rfl | rfl | rfl <;> exact ⟨by decide +kernel, by decide⟩
theorem trun (t f : List Int) (ht : t.length ≤ 1048576) (hf : f.length ≤ 1048576) (E : Nat) (hfE : (f.length : Int) / 2 = (E : Int)) (L : List (List Int)) (N : Nat) (hN : N ≤ 64) (hl : L.length = N) (hc : ∀ s : Nat, s < N → tch.l1 30 [] (s : Int) 0 (E : Int) = some (L.getD s []) ∧ (L.getD s []).length ≤ 20) : ∀ (d s : Nat), N - s = d → s ≤ N → ∀ x : Int, ∃ r : Int, Ev (fun k => tch.l0 k t f x s (N : Int)) r ∧ Ev (fun k => spec_RibbonTrees.l0 k x (L) s t f) r
  | 0, s, hd, hs, x => by
    have hsN : s = N := by omega
    rw [hsN]
    refine ⟨x, Ev.s ?_, Ev.s ?_⟩
    · simp only [tch.l0, show ¬ (N : Int) < (N : Int) by omega, if_false]
      exact Ev.const rfl
    · simp only [spec_RibbonTrees.l0, hl, show ¬ (N : Int) < (N : Int) by omega, if_false]
      exact Ev.const rfl
  | d + 1, s, hd, hs, x => by
    obtain ⟨h1, h2⟩ := hc s (by omega)
    obtain ⟨b, b1, b2⟩ := choiceTree_both t f (L.getD s []) ht hf (by omega)
    have hrd : rd_L1 (L) (s : Int) = L.getD s [] := by unfold rd_L1; rw [Int.toNat_natCast]
    have hlt : (s : Int) < (N : Int) := by omega
    have e1 : Ev (fun k => tch.l1 k [] (s : Int) 0 (E : Int)) (L.getD s []) := Ev.of (fun k => tch.mono_l1 k _ _ _ _) h1
    have h0s : (0 : Int) ≤ (s : Int) := by omega
    have hd' : N - (s + 1) = d := by omega
    have hs' : s + 1 ≤ N := by omega
    have hw : wrap64 ((s : Int) + 1) = ((s + 1 : Nat) : Int) := w64n (by omega)
    cases b with
    | true =>
      obtain ⟨r, r1, r2⟩ := trun t f ht hf E hfE L N hN hl hc d (s + 1) hd' hs' (wrap64 (x + 1))
      refine ⟨r, Ev.s ?_, Ev.s ?_⟩
      · simp only [tch.l0, hlt, hfE, if_true]
        refine Ev.bind e1 ?_
        refine Ev.bind b2 ?_
        simp only [hw, if_true]
        exact r1
      · simp only [spec_RibbonTrees.l0, hl, hlt, hrd, h0s, if_true]
        refine Ev.bind b1 ?_
        simp only [hw, if_true]
        exact r2
    | false =>
      obtain ⟨r, r1, r2⟩ := trun t f ht hf E hfE L N hN hl hc d (s + 1) hd' hs' x
      refine ⟨r, Ev.s ?_, Ev.s ?_⟩
      · simp only [tch.l0, hlt, hfE, if_true]
        refine Ev.bind e1 ?_
        refine Ev.bind b2 ?_
        simp only [hw, Bool.false_eq_true, if_false]
        exact r1
      · simp only [spec_RibbonTrees.l0, hl, hlt, hrd, h0s, if_true]
        refine Ev.bind b1 ?_
        simp only [hw, Bool.false_eq_true, if_false]
        exact r2
theorem ribbonTrees_both (t f : List Int) (ht : t.length ≤ 1048576) (hf : f.length ≤ 1048576) : ∃ r : Int, Ev (fun k => spec_RibbonTrees.f k t f) r ∧ Ev (fun k => impl_RibbonTrees.f k t f) r := by
  obtain ⟨b, b1, b2, b3⟩ := mapValid_both t f ht hf
  cases b with
  | false =>
    refine ⟨-1, ?_, ?_⟩
    · unfold spec_RibbonTrees.f
      refine Ev.bind b1 ?_
      simp only [Bool.false_eq_true, if_false]
      exact Ev.const rfl
    · unfold impl_RibbonTrees.f
      refine Ev.bind b2 ?_
      simp only [Bool.false_eq_true, if_false]
      exact Ev.const rfl
  | true =>
    have hm := b3.1 rfl
    obtain ⟨hn, h1, ht', hti, hf', hfl, _, _⟩ := ribOk_of t f [] hm (fun i hi => by simp at hi) (by simp)
    have hfl12 : f.length ≤ 12 := by have := hf'.1; omega
    obtain ⟨E, hE⟩ : ∃ E : Nat, E = f.length / 2 := ⟨_, rfl⟩
    have hE6 : E ≤ 6 := by omega
    have hfE : (f.length : Int) / 2 = (E : Int) := by omega
    have hwE : wrap64 (E : Int) = (E : Int) := w64 (by omega) (by omega)
    obtain ⟨hp, hp2⟩ := tpow E hE6
    obtain ⟨hall, hl, hc⟩ := tchk E hE6
    obtain ⟨r, r1, r2⟩ := trun t f ht hf E hfE (tallE E) (2 ^ E) hp2 hl hc (2 ^ E) 0 (Nat.sub_zero _) (Nat.zero_le _) 0
    refine ⟨r, ?_, ?_⟩
    · unfold spec_RibbonTrees.f
      refine Ev.bind b1 ?_
      simp only [if_true, hfE, hwE]
      refine Ev.bind (Ev.of (fun k => spec_l7All.mono _ k) hall) ?_
      exact r2
    · unfold impl_RibbonTrees.f
      refine Ev.bind b2 ?_
      simp only [if_true, hfl12, ← hE, hp]
      exact r1
end Go.Proofs.Ytcjmgkbbmahgcaa.PU

set_option linter.unusedVariables false
set_option linter.unusedSimpArgs false
namespace Go.Proofs.Ytcjmgkbbmahgcaa.Pure
open Go.RowKit Go.Proofs.Ytcjmgkbbmahgcaa.PU Go.Proofs.YtcjmgkbbmahgcaaW.PrintWords Go.Proofs.YtcjmgkbbmahgcaaW.PrintLast Go.Proofs.YtcjmgkbbmahgcaaW.PrintMore
theorem FnExactRibbonTrees : laws_FnExactRibbonTrees.Pure := by
  intro t f ht _ hf _
  obtain ⟨s, hs, h0 | ⟨ht', hf', h0⟩⟩ := szMap_cases t f ht hf
  · refine ⟨0, ?_⟩
    unfold laws_FnExactRibbonTrees.f
    rw [hs, Option.bind_some, if_pos h0]
  · obtain ⟨r, e1, e2⟩ := ribbonTrees_both t f ht' hf'
    refine Ev.rounds (r := true) ?_
    unfold laws_FnExactRibbonTrees.f
    simp only [hs, Option.bind_some, h0, if_false]
    refine Ev.bind (toMap_ev t f ht' hf') ?_
    refine Ev.bind e1 ?_
    refine Ev.bind (toMap_ev t f ht' hf') ?_
    refine Ev.bind e2 ?_
    simp only [if_true]
    refine Ev.bind (toMap_ev t f ht' hf') ?_
    refine Ev.bind (eqMap_same t f ht' hf') ?_
    simp only [if_true]
    exact Ev.const rfl
end Go.Proofs.Ytcjmgkbbmahgcaa.Pure

namespace Go.Proofs.Ytcjmgkbbmahgcaa.fnExactRibbonTrees
open Go.ChangeShapes Go.WideShapes Go.ChangeAt Go.RowKit Go.Joins Go.Proofs.YtcjmgkbbmahgcaaW.PrintWords Go.Proofs.YtcjmgkbbmahgcaaW.PrintLast
open Go.ChangeMaps (open_string shut_string)
set_option linter.unusedVariables false
theorem own : ownKnob Try.prog.godebug = none := by kernel_rfl
theorem laidOut : laidOutB Try.prog = true := by kernel_rfl
def IsRow (k : IntKind) (w : World) (a : Option Addr) (len cap : Nat) (zs : List Int) : Prop :=
  (a = none ∧ len = 0 ∧ cap = 0 ∧ zs = []) ∨
  ∃ x, a = some x ∧ len ≤ cap ∧ cap ≤ maxLen ∧ zs.length = cap ∧ (∀ i, i < zs.length → w.cell? (x.add i) = some (.int k (zs.getD i 0))) ∧ ∀ n ∈ zs, (Lit.int k n).wf = true
theorem cells24 : Try.prog.cellsOf 24 = 2 := by kernel_rfl
set_option maxRecDepth 100000 in
theorem lifted (os : Os) (started : os.Started) (H : Type) (enc : TypeId × Value → H) :
    ReturnsInHanded {} Try.checked os 13 .any (Rows.fnExactRibbonTreesSpec.pre6 enc Try.prog Try.f13 Rows.fnExactRibbonTreesRow.domain false) (Rows.fnExactRibbonTreesSpec.post enc Try.prog Try.f13 false true false false) := by
  refine returnsInHanded_of_change_sized (C := Try.checked) own started (by kernel_rfl) Try.func13
    (ChangeSpec.witness6 (enc := enc) (C := Try.checked) false ⟨#[], #[.agg #[.slice none 0 0, .slice none 0 0]], []⟩ 8 (by kernel_rfl) (by kernel_rfl) (by kernel_rfl) (by kernel_rfl)) ?_
  intro W base args ds gs before hval0 hW hcnd hsz0 _
  have hval : ∀ (j : Nat) t v, Try.f13.params[j]? = some t → args[j]? = some v → Value.okWide Try.prog W .any base t v := hval0
  have hW' := hW
  obtain ⟨p, q, hA0, hV, rfl, hfz, hnd⟩ := hW
  have hA : DataW.TrodAll enc Try.prog W 0 (fun _ => true) true Try.f13.params.toList args.toList ds p := hA0
  rw [Try.params13] at hA hval
  obtain ⟨v0, vs0, d0, ds0, p0, q0, hargs, rfl, rfl, h0, r0⟩ := trodAll_cons hA
  obtain ⟨rfl, rfl, rfl⟩ := trodAll_nil r0
  obtain rfl : args = #[v0] := by cases args; simp_all
  obtain ⟨rfl, rfl⟩ := trodVars_none hV
  have k0 := h0
  have lt0 : ∀ x ∈ p0, x.block < W.heap.size := by obtain ⟨m, hm⟩ := k0; exact DataW.trod_lt m _ _ _ hm
  obtain ⟨c0_0, c0_1, y0_0, y0_1, m0, e0, _, _, hy0_0, hy0_1⟩ := open_agg2 Try.underlying24 (by kernel_rfl) cells24 (hval 0 24 v0 rfl rfl) h0
  subst e0
  obtain ⟨a0_0, len0_0, cap0_0, z0_0, ec0_0, w0_0⟩ : ∃ a len cap zs, c0_0 = .slice a len cap ∧ IsRow .i64 W a len cap zs := by
    rcases open_ints Try.underlying22 Try.underlying3 (by kernel_rfl) hy0_0 with ⟨hcs, _⟩ | ⟨x, l, c, zs, hcs, _, hl, hm, hz, _, hcell, hwz⟩
    · simp at hcs; exact ⟨none, 0, 0, [], hcs, .inl ⟨rfl, rfl, rfl, rfl⟩⟩
    · simp at hcs; exact ⟨_, _, _, zs, hcs, .inr ⟨_, rfl, hl, hm, by simpa using hz, hcell, hwz⟩⟩
  subst ec0_0
  obtain ⟨l0_0, el0_0, hr0_0, hm0_0, hw0_0, hc0_0⟩ := ReadsInt.ofRowC w0_0
  subst el0_0
  obtain ⟨a0_1, len0_1, cap0_1, z0_1, ec0_1, w0_1⟩ : ∃ a len cap zs, c0_1 = .slice a len cap ∧ IsRow .i64 W a len cap zs := by
    rcases open_ints Try.underlying22 Try.underlying3 (by kernel_rfl) hy0_1 with ⟨hcs, _⟩ | ⟨x, l, c, zs, hcs, _, hl, hm, hz, _, hcell, hwz⟩
    · simp at hcs; exact ⟨none, 0, 0, [], hcs, .inl ⟨rfl, rfl, rfl, rfl⟩⟩
    · simp at hcs; exact ⟨_, _, _, zs, hcs, .inr ⟨_, rfl, hl, hm, by simpa using hz, hcell, hwz⟩⟩
  subst ec0_1
  obtain ⟨l0_1, el0_1, hr0_1, hm0_1, hw0_1, hc0_1⟩ := ReadsInt.ofRowC w0_1
  subst el0_1
  clear hA0 hval0 hsz0
  obtain ⟨k, h⟩ := Pure.FnExactRibbonTrees l0_0 l0_1 hm0_0 hw0_0 hm0_1 hw0_1
  refine (PU.laws_FnExactRibbonTrees.calls k _ _ l0_0 _ _ l0_1 true W (Kd.C_of_reads (d := (0 : Int)) (h1 := fun _ => rfl) hr0_0) hc0_0 (Kd.C_of_reads (d := (0 : Int)) (h1 := fun _ => rfl) hr0_1) hc0_1 h).mono fun e W' ⟨he, bel0⟩ => ?_
  have bel : Below W.heap.size W W' := bel0
  subst he
  exact ⟨_, rfl, _, _, _, [], _, [], hW', trodAll_mk1 (shut_bool Try.underlying4 _), (trodAll_cons_mk (Below.trod laidOut (by kernel_rfl) (of_decide_eq_true (by kernel_rfl)) k0 bel lt0) trodAll_mk0), rfl, bel.frame _, fun h => by cases h⟩
theorem over : Rows.fnExactRibbonTreesRow.holds Try.pinned (OpenSpec.ofChange Rows.fnExactRibbonTreesSpec) :=
  OpenClaim.holds_of_wide 13 Try.f13 rfl rfl rfl rfl rfl rfl rfl ⟨rfl, rfl, rfl, rfl, rfl⟩ rfl rfl rfl rfl rfl (by kernel_rfl) Try.func13 (by kernel_rfl)
    (of_decide_eq_true (by kernel_rfl)) (by unfold Func.isWrapper; first | (rw [if_pos (by decide +kernel)]; kernel_rfl) | (rw [if_neg (by decide +kernel)]; exact ⟨rfl, rfl⟩))
    (fun os started H enc _ => lifted os started H enc)
theorem proved : Rows.FnExactRibbonTreesSaid := over
#print axioms proved
end Go.Proofs.Ytcjmgkbbmahgcaa.fnExactRibbonTrees
namespace Go.Proofs.Ytcjmgkbbmahgcaa
theorem fnExactRibbonTrees_holds : Rows.FnExactRibbonTreesSaid := fnExactRibbonTrees.proved
end Go.Proofs.Ytcjmgkbbmahgcaa
