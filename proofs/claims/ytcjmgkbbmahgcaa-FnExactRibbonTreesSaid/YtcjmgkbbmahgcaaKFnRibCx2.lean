/- For every map, RibbonQuasis of the program answers what RibbonQuasis of the reference answers, and leaves the map as it was. There are no conditions. -/
import Derived.Test.YtcjmgkbbmahgcaaKFnRibCx1
namespace Go.Proofs.Ytcjmgkbbmahgcaa.PU
open Go.RowKit Go.Proofs.YtcjmgkbbmahgcaaW.PrintWords Go.Proofs.YtcjmgkbbmahgcaaW.PrintLast Go.Proofs.YtcjmgkbbmahgcaaW.PrintMore
attribute [local go_sem] max2_int min2_int max_two min_two max_three min_three max_four min_four   -- for this text's walks alone
set_option linter.unusedVariables false
set_option linter.unusedSimpArgs false
mutual
def spec_l7Sides.l0 : Nat → List Int → List Int → List Int → Int → List (List Int) → Int → List Int → List Int → Option (Int)
 | 0, _, _, _, _, _, _, _, _ => none
 | k + 1, x1, x5, x6, x7, x8, x9, xZ0, xZ1 => if x9 < (x8.length : Int) then (spec_l7Sides.l1 k x1 x5 x6 x7 x8 x9 0 0 xZ0 xZ1) else (spec_l7Sides.l2 k x1 x5 x6 x7 0 xZ0 xZ1)
def spec_l7Sides.l1 : Nat → List Int → List Int → List Int → Int → List (List Int) → Int → Int → Int → List Int → List Int → Option (Int)
 | 0, _, _, _, _, _, _, _, _, _, _ => none
 | k + 1, x1, x5, x6, x7, x8, x9, x10, x11, xZ0, xZ1 => if 0 ≤ x9 then (if x9 < (x8.length : Int) then (if x11 < ((rd_L1 x8 x9).length : Int) then (if 0 ≤ x11 then (if 0 ≤ (rd (rd_L1 x8 x9) x11) then (if (rd (rd_L1 x8 x9) x11) < (x5.length : Int) then ((spec_l7Has.f k x1 (rd x5 (rd (rd_L1 x8 x9) x11))).bind fun t221 => (if t221 = true then (spec_l7Sides.l1 k x1 x5 x6 x7 x8 x9 (wrap64 (x10 + 1)) (wrap64 (x11 + 1)) xZ0 xZ1) else (spec_l7Sides.l1 k x1 x5 x6 x7 x8 x9 x10 (wrap64 (x11 + 1)) xZ0 xZ1))) else (none)) else (none)) else (none)) else (if x10 = 0 then (spec_l7Sides.l0 k x1 x5 x6 (wrap64 (x7 + 1)) x8 (wrap64 (x9 + 1)) xZ0 xZ1) else (spec_l7Sides.l0 k x1 x5 x6 x7 x8 (wrap64 (x9 + 1)) xZ0 xZ1))) else (none)) else (none)
def spec_l7Sides.l2 : Nat → List Int → List Int → List Int → Int → Int → List Int → List Int → Option (Int)
 | 0, _, _, _, _, _, _, _ => none
 | k + 1, x1, x5, x6, x7, x12, xZ0, xZ1 => if x12 < (x6.length : Int) then (if 0 ≤ x12 then (if x12 < (x5.length : Int) then ((spec_l7Has.f k x1 (rd x5 x12)).bind fun t226 => (if t226 = true then (if x12 < (xZ1.length : Int) then (if 0 ≤ (rd xZ1 x12) then (if (rd xZ1 x12) < (xZ0.length : Int) then (spec_l7Sides.l3 k x1 x5 x6 x7 x12 (rd xZ0 (rd xZ1 x12)) xZ0 xZ1) else (none)) else (none)) else (none)) else (spec_l7Sides.l2 k x1 x5 x6 x7 (wrap64 (x12 + 1)) xZ0 xZ1))) else (none)) else (none)) else ((spec_l1Cycles.f k x6).bind fun t222 => (some (wrap64 ((wrap64 ((t222.length : Int) - (wrap64 ((x6.length : Int) - (wrap64 (2 * (x1.length : Int))))))) + x7))))
def spec_l7Sides.l3 : Nat → List Int → List Int → List Int → Int → Int → Int → List Int → List Int → Option (Int)
 | 0, _, _, _, _, _, _, _, _ => none
 | k + 1, x1, x5, x6, x7, x12, x13, xZ0, xZ1 => if 0 ≤ x13 then (if x13 < (x5.length : Int) then ((spec_l7Has.f k x1 (rd x5 x13)).bind fun t230 => (if t230 = true then (if 0 ≤ x12 then (if x12 < (x6.length : Int) then (spec_l7Sides.l2 k x1 x5 (x6.set (x12 : Int).toNat x13) x7 (wrap64 (x12 + 1)) xZ0 xZ1) else (none)) else (none)) else (if x13 < (xZ0.length : Int) then (spec_l7Sides.l3 k x1 x5 x6 x7 x12 (rd xZ0 x13) xZ0 xZ1) else (none)))) else (none)) else (none)
end
def spec_l7Sides.f (k : Nat) (l0_0 : List Int) (l0_1 : List Int) (l1 : List Int) : Option (Int) := (spec_l7Edges.f k l0_0 l0_1).bind fun t208 => ((spec_l1Same.f k (l0_1.length : Int)).bind fun t211 => ((spec_l1Cycles.f k l0_0).bind fun t214 => (spec_l7Sides.l0 k l1 t208 t211 0 t214 0 l0_0 l0_1)))
set_option maxHeartbeats 8000000 in
set_option maxRecDepth 100000 in
theorem spec_l7Sides.calls (k : Nat) (A0_0 : Option Addr) (c0_0 : Nat) (l0_0 : List Int) (A0_1 : Option Addr) (c0_1 : Nat) (l0_1 : List Int) (A1 : Option Addr) (c1 : Nat) (l1 : List Int) (r : Int) (w : World) (hr0_0 : Kd.C (Kd.int .i64) w A0_0 l0_0.length l0_0) (hc0_0 : l0_0.length ≤ c0_0) (hr0_1 : Kd.C (Kd.int .i64) w A0_1 l0_1.length l0_1) (hc0_1 : l0_1.length ≤ c0_1) (hr1 : Kd.C (Kd.int .i64) w A1 l1.length l1) (hc1 : l1.length ≤ c1) (h : spec_l7Sides.f k l0_0 l0_1 l1 = some r) :
  Calls Try.prog 89 #[.agg #[.slice A0_0 l0_0.length c0_0, .slice A0_1 l0_1.length c0_1], .slice A1 l1.length c1] w fun e w' => e = .returned (.int .i64 r) ∧ Below w.heap.size w w' := by
 have hu27 := Try.underlying27; have HR0_0 := Az hr0_0; have HC0_0 := Az hc0_0; clear hr0_0 hc0_0; have HR0_1 := Az hr0_1; have HC0_1 := Az hc0_1; clear hr0_1 hc0_1; have HR1 := Az hr1; have HC1 := Az hc1; clear hr1 hc1; have HB := Az (Below.refl w.heap.size w); have H : ((spec_l7Edges.f k l0_0 l0_1).bind fun t208 => ((spec_l1Same.f k (l0_1.length : Int)).bind fun t211 => ((spec_l1Cycles.f k l0_0).bind fun t214 => (spec_l7Sides.l0 k l1 t208 t211 0 t214 0 l0_0 l0_1)))) = some r := h; clear h; replace H := Option.bind_eq_some_iff.mp H; obtain ⟨t208, A30, H⟩ := H; replace H : ((spec_l1Same.f k (l0_1.length : Int)).bind fun t211 => ((spec_l1Cycles.f k l0_0).bind fun t214 => (spec_l7Sides.l0 k l1 t208 t211 0 t214 0 l0_0 l0_1))) = some r := H; have A3 := Az A30; clear A30; replace H := Option.bind_eq_some_iff.mp H; obtain ⟨t211, A40, H⟩ := H; replace H : ((spec_l1Cycles.f k l0_0).bind fun t214 => (spec_l7Sides.l0 k l1 t208 t211 0 t214 0 l0_0 l0_1)) = some r := H; have A4 := Az A40; clear A40; replace H := Option.bind_eq_some_iff.mp H; obtain ⟨t214, A50, H⟩ := H; replace H : (spec_l7Sides.l0 k l1 t208 t211 0 t214 0 l0_0 l0_1) = some r := H; have A5 := Az A50; clear A50; have H' := Az H; clear H
 go_enter Try.func89, Try.ntmps89
 go_wp2_with (first | ((with_reducible refine gate_dst (N := 2) rfl ?_); refine box_event ?hg (N := 2) ?hd (cs := #[.slice A0_0 l0_0.length c0_0, .slice A0_1 l0_1.length c0_1]) (t := 27) ?hr ?_; (case hd => rfl); (case hg => rfl); (case hr => first | (go_simp; done) | (go_simp; rfl)); intro gb207 hg w6 hbox hb; have n0 := Az (below_step (bU0 HB.out) hb); have n1 := Az (hbox); have n2 := Az ((by rw [hg]; exact (below_size (bU0 HB.out)) : w.heap.size ≤ gb207)); have n3 := n2; clear HB; have HB := n0; have BK207 := n1; have GW207 := n2; have GE207 := n3; clear n0 n1 n2 n3 hb hbox hg; have hcz7_0 : w6.cell? ⟨gb207, 0, none⟩ = some (.slice A0_0 l0_0.length c0_0) := (blk_cell BK207.out 0).trans rfl; have hcz7_1 : w6.cell? ⟨gb207, 1, none⟩ = some (.slice A0_1 l0_1.length c0_1) := (blk_cell BK207.out 1).trans rfl; have hfz7_0 := blk_frozen BK207.out 0; have hfz7_1 := blk_frozen BK207.out 1) | (go_at_call 93; (with_reducible refine (spec_l7Edges.calls k _ _ l0_0 _ _ l0_1 t208 _ ?side1 ?side2 ?side3 ?side4 A3.out).mono ?_); (case side1 => exact cU (Kd.C_below HR0_0.out HB.out)); (case side2 => exact HC0_0.out); (case side3 => exact cU (Kd.C_below HR0_1.out HB.out)); (case side4 => exact HC0_1.out); rintro e w8 ⟨v209, rfl, ho0, hb⟩; have n0 := Az (Kd.R_lower ho0 (below_size (bU1 HB.out GE207.out))); have n1 := Az (blk_below (g := gb207) (o := .cells #[.slice A0_0 l0_0.length c0_0, .slice A0_1 l0_1.length c0_1] 27 (0, 0)) (kU BK207.out) hb); have n2 := Az (below_step (bU1 HB.out GE207.out) hb); clear BK207 HB; have HO210 := n0; have BK207 := n1; have HB := n2; clear n0 n1 n2; (try clear hb); (try clear hb2); (try clear hk); (try clear hi); (try clear ho0); have hcz9_0 : w8.cell? ⟨gb207, 0, none⟩ = some (.slice A0_0 l0_0.length c0_0) := (blk_cell BK207.out 0).trans rfl; have hcz9_1 : w8.cell? ⟨gb207, 1, none⟩ = some (.slice A0_1 l0_1.length c0_1) := (blk_cell BK207.out 1).trans rfl; have hfz9_0 := blk_frozen BK207.out 0; have hfz9_1 := blk_frozen BK207.out 1) | (go_at_call 94; (with_reducible refine (spec_l1Same.calls k (l0_1.length : Int) t211 _ A4.out).mono ?_); rintro e w10 ⟨v212, rfl, ho0, hb⟩; have n0 := Az (Kd.R_elder' (rU HO210.out) (Kd.R_base ho0) hb); have n1 := Az (Kd.R_lower (Kd.R_new' ho0 (Kd.R_lt (rU HO210.out))) (below_size (bU1 HB.out GE207.out))); have n2 := Az (blk_below (g := gb207) (o := .cells #[.slice A0_0 l0_0.length c0_0, .slice A0_1 l0_1.length c0_1] 27 (0, 0)) (kU BK207.out) hb); have n3 := Az (below_step (bU1 HB.out GE207.out) hb); clear HO210 BK207 HB; have HO210 := n0; have HO213 := n1; have BK207 := n2; have HB := n3; clear n0 n1 n2 n3; (try clear hb); (try clear hb2); (try clear hk); (try clear hi); (try clear ho0); have hcz11_0 : w10.cell? ⟨gb207, 0, none⟩ = some (.slice A0_0 l0_0.length c0_0) := (blk_cell BK207.out 0).trans rfl; have hcz11_1 : w10.cell? ⟨gb207, 1, none⟩ = some (.slice A0_1 l0_1.length c0_1) := (blk_cell BK207.out 1).trans rfl; have hfz11_0 := blk_frozen BK207.out 0; have hfz11_1 := blk_frozen BK207.out 1) | (go_at_call 60; (with_reducible refine (spec_l1Cycles.calls k _ _ l0_0 t214 _ ?side1 ?side2 A5.out).mono ?_); (case side1 => exact cU (Kd.C_below HR0_0.out HB.out)); (case side2 => exact HC0_0.out); rintro e w12 ⟨v215, rfl, ho0, hb⟩; have n0 := Az (Kd.R_below (rU HO210.out) hb); have n1 := Az (Kd.R_below (rU HO213.out) hb); have n2 := Az (Kd.S_lower (Kd.S_new' (Kd.S_new' ho0 (Kd.R_lt (rU HO210.out))) (Kd.R_lt (rU HO213.out))) (below_size (bU1 HB.out GE207.out))); have n3 := Az (blk_below (g := gb207) (o := .cells #[.slice A0_0 l0_0.length c0_0, .slice A0_1 l0_1.length c0_1] 27 (0, 0)) (kU BK207.out) hb); have n4 := Az (below_step (bU1 HB.out GE207.out) hb); clear HO210 HO213 BK207 HB; have HO210 := n0; have HO213 := n1; have HO216 := n2; have BK207 := n3; have HB := n4; clear n0 n1 n2 n3 n4; (try clear hb); (try clear hb2); (try clear hk); (try clear hi); (try clear ho0)))
 repeat (go_quiet (fail); try go_wp2_with (fail))
 go_loopg [7, 9] k (fun kq v7 v9 w' => ∃ (x7_1 : Int) (x9_1 : Int), v7 = .int .i64 x7_1 ∧ v9 = .int .i64 x9_1 ∧ Aside0 (spec_l7Sides.l0 kq l1 t208 t211 x7_1 t214 x9_1 l0_0 l0_1 = some r) ∧ Aside0 (kq ≤ k) ∧ Aside0 (Kd.R (Kd.int .i64) 3 w' w.heap.size (fun k_ => some k_ ≠ (v212 : Value).ownBlock) v209 t208) ∧ Aside0 (Kd.R (Kd.int .i64) 3 w' w.heap.size (fun k_ => some k_ ≠ (v209 : Value).ownBlock) v212 t211) ∧ Aside0 (Kd.S (Kd.slice 3 (Kd.int .i64)) 22 w' w.heap.size (fun k_ => some k_ ≠ (v209 : Value).ownBlock ∧ some k_ ≠ (v212 : Value).ownBlock) v215 t214) ∧ Aside0 (w'.heap[gb207]? = some (.cells #[(.slice A0_0 l0_0.length c0_0), (.slice A0_1 l0_1.length c0_1)] 27 (0, 0))) ∧ Aside0 (Below w.heap.size w w'))
 case atStart => exact ⟨(0), (0), rS, rS, H', ⟨Nat.le_refl _⟩, ⟨by (with_reducible repeat (first | apply Kd.R_alloc | apply Kd.R_drewN | apply Kd.R_drew)); exact Kd.R_mono HO210.out (fun _ hk => hk.2)⟩, ⟨by (with_reducible repeat (first | apply Kd.R_alloc | apply Kd.R_drewN | apply Kd.R_drew)); exact Kd.R_mono HO213.out (fun _ hk => hk.2)⟩, ⟨by (with_reducible repeat (first | apply Kd.S_alloc | apply Kd.S_drewN | apply Kd.S_drew)); exact Kd.S_mono HO216.out (fun _ hk => ⟨hk.1.2, hk.2⟩)⟩, ⟨kU BK207.out⟩, ⟨bU1 HB.out GE207.out⟩⟩
 case round =>
  clear H'; (try clear c1); (try clear p2); (try clear c8); (try clear hcz11_0); (try clear hcz11_1); (try clear hcz7_0); (try clear hcz7_1); (try clear hcz9_0); (try clear hcz9_1); (try clear hfz11_0); (try clear hfz11_1); (try clear hfz7_0); (try clear hfz7_1); (try clear hfz9_0); (try clear hfz9_1); obtain ⟨x7_1, x9_1, rfl, rfl, HA, HK1, HO_5, HO_6, HO_8, BK207, HB⟩ := hrel
  cases gk with
  | zero => exact absurd HA.out (by simp [spec_l7Sides.l0])
  | succ k1 =>
   have H := HA.out; clear HA; simp only [spec_l7Sides.l0] at H
   by_cases c13 : x9_1 < (t214.length : Int)
   ·
    rw [if_pos c13] at H; have c13b0 := decide_eq_true c13; clear c13; have H' := Az H; clear H; obtain ⟨Ao14, co14, eo14⟩ := Kd.S_slice HO_8.out; subst eo14
    go_wp2
    repeat (go_quiet (fail); try go_wp2)
    go_loopg [10, 11] k1 (fun kq v10 v11 w' => ∃ (x10_2 : Int) (x11_2 : Int), v10 = .int .i64 x10_2 ∧ v11 = .int .i64 x11_2 ∧ Aside0 (spec_l7Sides.l1 kq l1 t208 t211 x7_1 t214 x9_1 x10_2 x11_2 l0_0 l0_1 = some r) ∧ Aside0 (kq ≤ k1) ∧ Aside0 (Kd.R (Kd.int .i64) 3 w' w.heap.size (fun k_ => some k_ ≠ (v212 : Value).ownBlock) v209 t208) ∧ Aside0 (Kd.R (Kd.int .i64) 3 w' w.heap.size (fun k_ => some k_ ≠ (v209 : Value).ownBlock) v212 t211) ∧ Aside0 (Kd.S (Kd.slice 3 (Kd.int .i64)) 22 w' w.heap.size (fun k_ => some k_ ≠ (v209 : Value).ownBlock ∧ some k_ ≠ (v212 : Value).ownBlock) (.slice Ao14 t214.length co14) t214) ∧ Aside0 (w'.heap[gb207]? = some (.cells #[(.slice A0_0 l0_0.length c0_0), (.slice A0_1 l0_1.length c0_1)] 27 (0, 0))) ∧ Aside0 (Below w.heap.size w w'))
    case atStart => exact ⟨(0), (0), rS, rS, H', ⟨Nat.le_refl _⟩, ⟨rU HO_5.out⟩, ⟨rU HO_6.out⟩, ⟨sU HO_8.out⟩, ⟨kU BK207.out⟩, ⟨bU1 HB.out GE207.out⟩⟩
    case round =>
     clear H'; (try clear c1); (try clear p2); (try clear c8); (try clear c13); (try clear c13b0); (try clear hcz11_0); (try clear hcz11_1); (try clear hcz7_0); (try clear hcz7_1); (try clear hcz9_0); (try clear hcz9_1); (try clear hfz11_0); (try clear hfz11_1); (try clear hfz7_0); (try clear hfz7_1); (try clear hfz9_0); (try clear hfz9_1); (try clear p2); obtain ⟨x10_2, x11_2, rfl, rfl, HA, HK2, HO_5, HO_6, HO_8, BK207, HB⟩ := hrel
     cases gk with
     | zero => exact absurd HA.out (by simp [spec_l7Sides.l1])
     | succ k2 =>
      have H := HA.out; clear HA; simp only [spec_l7Sides.l1] at H
      by_cases c15 : 0 ≤ x9_1
      ·
       rw [if_pos c15] at H; have c15b0 := decide_eq_true c15; clear c15
       by_cases c16 : x9_1 < (t214.length : Int)
       ·
        rw [if_pos c16] at H; have c16b0 := decide_eq_true c16; clear c16
        by_cases c17 : x11_2 < ((rd_L1 t214 x9_1).length : Int)
        ·
         rw [if_pos c17] at H; have c17b0 := decide_eq_true c17; clear c17
         by_cases c18 : 0 ≤ x11_2
         ·
          rw [if_pos c18] at H; have c18b0 := decide_eq_true c18; clear c18
          by_cases c19 : 0 ≤ (rd (rd_L1 t214 x9_1) x11_2)
          ·
           rw [if_pos c19] at H; have c19b0 := decide_eq_true c19; clear c19
           by_cases c20 : (rd (rd_L1 t214 x9_1) x11_2) < (t208.length : Int)
           ·
            rw [if_pos c20] at H; have c20b0 := decide_eq_true c20; clear c20; replace H := Option.bind_eq_some_iff.mp H; obtain ⟨t221, A210, H⟩ := H; replace H : (if t221 = true then (spec_l7Sides.l1 k2 l1 t208 t211 x7_1 t214 x9_1 (wrap64 (x10_2 + 1)) (wrap64 (x11_2 + 1)) l0_0 l0_1) else (spec_l7Sides.l1 k2 l1 t208 t211 x7_1 t214 x9_1 x10_2 (wrap64 (x11_2 + 1)) l0_0 l0_1)) = some r := H; have A21 := Az A210; clear A210
            by_cases c22 : t221 = true
            ·
             subst c22
             have H1 : (spec_l7Sides.l1 k2 l1 t208 t211 x7_1 t214 x9_1 (wrap64 (x10_2 + 1)) (wrap64 (x11_2 + 1)) l0_0 l0_1) = some r := by rw [if_pos rfl] at H; exact H
             clear H; have H := H1; clear H1; have H' := Az H; clear H; have p217 : 0 ≤ (x9_1 : Int) := oA; have q217 : x9_1 < (t214.length : Int) := oA; obtain ⟨ad217, A217_0, c217_0, e217, hx217_0, hl217_0, hi217_0⟩ := at_L1 (Kd.S_reads' HO_8.out).2.2 x9_1 p217 q217
             cases e217
             obtain ⟨ce217, hce217, hMe217, hcc217⟩ := Kd.S_get HO_8.out [] x9_1 p217 (by first | exact q217 | exact oA | (have e_ := (Kd.S_reads' HO_8.out).1; omega)); obtain ⟨ve217_0, rfl, ge217_0⟩ := hMe217; have hv217_0 := hcc217 0 _ rfl; rw [Nat.add_zero, show ((Kd.slice 3 (Kd.int .i64))).sz = 1 from rfl, Nat.mul_one] at hv217_0; replace hv217_0 := Option.some.inj (hv217_0.symm.trans hx217_0); rw [hv217_0] at ge217_0; have HL217_0 := Az (show Kd.R (Kd.int .i64) 3 _ _ _ _ (rd_L1 t214 x9_1) from ge217_0); clear hv217_0 ge217_0 hcc217 hce217; have HR217_0 := Az hi217_0; have HC217_0 := Az hl217_0; clear hi217_0 hl217_0; replace p217 := eq_true p217; replace q217 := eq_true q217; have p218 : 0 ≤ (x9_1 : Int) := oA; have q218 : x9_1 < (t214.length : Int) := oA; obtain ⟨ad218, A218_0, c218_0, e218, hx218_0, hl218_0, hi218_0⟩ := at_L1 (Kd.S_reads' HO_8.out).2.2 x9_1 p218 q218; obtain rfl : ad217 = ad218 := (by injection e218); obtain ⟨ce218, hce218, hMe218, hcc218⟩ := Kd.S_get HO_8.out [] x9_1 p218 (by first | exact q218 | exact oA | (have e_ := (Kd.S_reads' HO_8.out).1; omega)); obtain ⟨ve218_0, rfl, ge218_0⟩ := hMe218; have hv218_0 := hcc218 0 _ rfl; rw [Nat.add_zero, show ((Kd.slice 3 (Kd.int .i64))).sz = 1 from rfl, Nat.mul_one] at hv218_0; replace hv218_0 := Option.some.inj (hv218_0.symm.trans hx218_0); rw [hv218_0] at ge218_0; have HL218_0 := Az (show Kd.R (Kd.int .i64) 3 _ _ _ _ (rd_L1 t214 x9_1) from ge218_0); clear hv218_0 ge218_0 hcc218 hce218; have HR218_0 := Az hi218_0; have HC218_0 := Az hl218_0; clear hi218_0 hl218_0; replace p218 := eq_true p218; replace q218 := eq_true q218; have ea_ := Option.some.inj (hx217_0.symm.trans hx218_0); injection ea_ with ea_ en_ ec_; subst ea_; subst ec_; clear en_; have p219 : 0 ≤ (x11_2 : Int) := oA; have q219 : x11_2 < ((rd_L1 t214 x9_1).length : Int) := oA; obtain ⟨ad219, e219, hx219_0⟩ := Kd.at_int (by repeat (first | (with_reducible exact HR218_0.out) | (with_reducible refine Kd.C_alloc ?_ _) | (with_reducible refine Kd.C_drewN ?_ _) | (with_reducible refine Kd.C_drew ?_) | exact HR218_0.out)) x11_2 p219 q219
             cases e219
             replace p219 := eq_true p219; replace q219 := eq_true q219; obtain ⟨Ao23, co23, eo23⟩ := Kd.R_slice HO_5.out; subst eo23; have p220 : 0 ≤ ((rd (rd_L1 t214 x9_1) x11_2) : Int) := oA; have q220 : (rd (rd_L1 t214 x9_1) x11_2) < (t208.length : Int) := oA; obtain ⟨ad220, e220, hx220_0⟩ := Kd.at_int (Kd.R_reads' HO_5.out).2.2 (rd (rd_L1 t214 x9_1) x11_2) p220 q220
             cases e220
             replace p220 := eq_true p220; replace q220 := eq_true q220
             go_wp2_with (first | (go_at_call 52; (with_reducible refine (spec_l7Has.calls k2 _ _ l1 (rd t208 (rd (rd_L1 t214 x9_1) x11_2)) true _ ?side1 ?side2 A21.out).mono ?_); (case side1 => exact cU (Kd.C_below HR1.out HB.out)); (case side2 => exact HC1.out); rintro e w' ⟨rfl, ⟨nd, rfl⟩⟩; (try first | exact ⟨rfl, _, World.drewN_drewN _ _ _⟩ | exact ⟨rfl, _, Eq.trans (World.drewN_drewN _ _ _) (congrArg (World.drewN _) (Nat.add_assoc _ _ _))⟩)))
             repeat (go_quiet (fail); try go_wp2_with (fail))
             (first | go_roundg k2 | (refine Handed.intro k2 ?measure ?_; rotate_left; go_step; (try simp only [add_plain]); (repeat apply Exists.intro); refine ⟨?rel, rfl⟩))
             case measure => have := HK1.out; have := HK2.out; omega
             case rel => exact ⟨(wrap64 (x10_2 + 1)), (wrap64 (x11_2 + 1)), rS, rS, H', ⟨by have := HK1.out; have := HK2.out; omega⟩, ⟨rU HO_5.out⟩, ⟨rU HO_6.out⟩, ⟨sU HO_8.out⟩, ⟨kU BK207.out⟩, ⟨bU1 HB.out GE207.out⟩⟩
            ·
             replace c22 := Bool.eq_false_iff.mpr c22; subst c22
             have H1 : (spec_l7Sides.l1 k2 l1 t208 t211 x7_1 t214 x9_1 x10_2 (wrap64 (x11_2 + 1)) l0_0 l0_1) = some r := by rw [if_neg (show ¬ (false = true) by decide)] at H; exact H
             clear H; have H := H1; clear H1; have H' := Az H; clear H; have p217 : 0 ≤ (x9_1 : Int) := oA; have q217 : x9_1 < (t214.length : Int) := oA; obtain ⟨ad217, A217_0, c217_0, e217, hx217_0, hl217_0, hi217_0⟩ := at_L1 (Kd.S_reads' HO_8.out).2.2 x9_1 p217 q217
             cases e217
             obtain ⟨ce217, hce217, hMe217, hcc217⟩ := Kd.S_get HO_8.out [] x9_1 p217 (by first | exact q217 | exact oA | (have e_ := (Kd.S_reads' HO_8.out).1; omega)); obtain ⟨ve217_0, rfl, ge217_0⟩ := hMe217; have hv217_0 := hcc217 0 _ rfl; rw [Nat.add_zero, show ((Kd.slice 3 (Kd.int .i64))).sz = 1 from rfl, Nat.mul_one] at hv217_0; replace hv217_0 := Option.some.inj (hv217_0.symm.trans hx217_0); rw [hv217_0] at ge217_0; have HL217_0 := Az (show Kd.R (Kd.int .i64) 3 _ _ _ _ (rd_L1 t214 x9_1) from ge217_0); clear hv217_0 ge217_0 hcc217 hce217; have HR217_0 := Az hi217_0; have HC217_0 := Az hl217_0; clear hi217_0 hl217_0; replace p217 := eq_true p217; replace q217 := eq_true q217; have p218 : 0 ≤ (x9_1 : Int) := oA; have q218 : x9_1 < (t214.length : Int) := oA; obtain ⟨ad218, A218_0, c218_0, e218, hx218_0, hl218_0, hi218_0⟩ := at_L1 (Kd.S_reads' HO_8.out).2.2 x9_1 p218 q218; obtain rfl : ad217 = ad218 := (by injection e218); obtain ⟨ce218, hce218, hMe218, hcc218⟩ := Kd.S_get HO_8.out [] x9_1 p218 (by first | exact q218 | exact oA | (have e_ := (Kd.S_reads' HO_8.out).1; omega)); obtain ⟨ve218_0, rfl, ge218_0⟩ := hMe218; have hv218_0 := hcc218 0 _ rfl; rw [Nat.add_zero, show ((Kd.slice 3 (Kd.int .i64))).sz = 1 from rfl, Nat.mul_one] at hv218_0; replace hv218_0 := Option.some.inj (hv218_0.symm.trans hx218_0); rw [hv218_0] at ge218_0; have HL218_0 := Az (show Kd.R (Kd.int .i64) 3 _ _ _ _ (rd_L1 t214 x9_1) from ge218_0); clear hv218_0 ge218_0 hcc218 hce218; have HR218_0 := Az hi218_0; have HC218_0 := Az hl218_0; clear hi218_0 hl218_0; replace p218 := eq_true p218; replace q218 := eq_true q218; have ea_ := Option.some.inj (hx217_0.symm.trans hx218_0); injection ea_ with ea_ en_ ec_; subst ea_; subst ec_; clear en_; have p219 : 0 ≤ (x11_2 : Int) := oA; have q219 : x11_2 < ((rd_L1 t214 x9_1).length : Int) := oA; obtain ⟨ad219, e219, hx219_0⟩ := Kd.at_int (by repeat (first | (with_reducible exact HR218_0.out) | (with_reducible refine Kd.C_alloc ?_ _) | (with_reducible refine Kd.C_drewN ?_ _) | (with_reducible refine Kd.C_drew ?_) | exact HR218_0.out)) x11_2 p219 q219
             cases e219
             replace p219 := eq_true p219; replace q219 := eq_true q219; obtain ⟨Ao24, co24, eo24⟩ := Kd.R_slice HO_5.out; subst eo24; have p220 : 0 ≤ ((rd (rd_L1 t214 x9_1) x11_2) : Int) := oA; have q220 : (rd (rd_L1 t214 x9_1) x11_2) < (t208.length : Int) := oA; obtain ⟨ad220, e220, hx220_0⟩ := Kd.at_int (Kd.R_reads' HO_5.out).2.2 (rd (rd_L1 t214 x9_1) x11_2) p220 q220
             cases e220
             replace p220 := eq_true p220; replace q220 := eq_true q220
             go_wp2_with (first | (go_at_call 52; (with_reducible refine (spec_l7Has.calls k2 _ _ l1 (rd t208 (rd (rd_L1 t214 x9_1) x11_2)) false _ ?side1 ?side2 A21.out).mono ?_); (case side1 => exact cU (Kd.C_below HR1.out HB.out)); (case side2 => exact HC1.out); rintro e w' ⟨rfl, ⟨nd, rfl⟩⟩; (try first | exact ⟨rfl, _, World.drewN_drewN _ _ _⟩ | exact ⟨rfl, _, Eq.trans (World.drewN_drewN _ _ _) (congrArg (World.drewN _) (Nat.add_assoc _ _ _))⟩)))
             repeat (go_quiet (fail); try go_wp2_with (fail))
             (first | go_roundg k2 | (refine Handed.intro k2 ?measure ?_; rotate_left; go_step; (try simp only [add_plain]); (repeat apply Exists.intro); refine ⟨?rel, rfl⟩))
             case measure => have := HK1.out; have := HK2.out; omega
             case rel => exact ⟨(x10_2), (wrap64 (x11_2 + 1)), rS, rS, H', ⟨by have := HK1.out; have := HK2.out; omega⟩, ⟨rU HO_5.out⟩, ⟨rU HO_6.out⟩, ⟨sU HO_8.out⟩, ⟨kU BK207.out⟩, ⟨bU1 HB.out GE207.out⟩⟩
           ·
            rw [if_neg c20] at H
            exact absurd H (by simp)
          ·
           rw [if_neg c19] at H
           exact absurd H (by simp)
         ·
          rw [if_neg c18] at H
          exact absurd H (by simp)
        ·
         rw [if_neg c17] at H; have c17b0 := decide_eq_false c17; clear c17
         by_cases c25 : x10_2 = 0
         ·
          rw [if_pos c25] at H; have c25b0 := beq_iff_eq.mpr c25; have c25b1 := bne_eq_false_iff_eq.mpr c25; clear c25; have H' := Az H; clear H; have p217 : 0 ≤ (x9_1 : Int) := oA; have q217 : x9_1 < (t214.length : Int) := oA; obtain ⟨ad217, A217_0, c217_0, e217, hx217_0, hl217_0, hi217_0⟩ := at_L1 (Kd.S_reads' HO_8.out).2.2 x9_1 p217 q217
          cases e217
          obtain ⟨ce217, hce217, hMe217, hcc217⟩ := Kd.S_get HO_8.out [] x9_1 p217 (by first | exact q217 | exact oA | (have e_ := (Kd.S_reads' HO_8.out).1; omega)); obtain ⟨ve217_0, rfl, ge217_0⟩ := hMe217; have hv217_0 := hcc217 0 _ rfl; rw [Nat.add_zero, show ((Kd.slice 3 (Kd.int .i64))).sz = 1 from rfl, Nat.mul_one] at hv217_0; replace hv217_0 := Option.some.inj (hv217_0.symm.trans hx217_0); rw [hv217_0] at ge217_0; have HL217_0 := Az (show Kd.R (Kd.int .i64) 3 _ _ _ _ (rd_L1 t214 x9_1) from ge217_0); clear hv217_0 ge217_0 hcc217 hce217; have HR217_0 := Az hi217_0; have HC217_0 := Az hl217_0; clear hi217_0 hl217_0; replace p217 := eq_true p217; replace q217 := eq_true q217
          go_wp2
          repeat (go_quiet (fail); try go_wp2)
          (first | go_roundg k2 | (refine Handed.intro k2 ?measure ?_; rotate_left; go_step; (try simp only [add_plain]); (repeat apply Exists.intro); refine ⟨?rel, rfl⟩))
          case measure => have := HK1.out; have := HK2.out; omega
          case rel => exact ⟨(wrap64 (x7_1 + 1)), (wrap64 (x9_1 + 1)), rS, rS, H', ⟨by have := HK1.out; have := HK2.out; omega⟩, ⟨rU HO_5.out⟩, ⟨rU HO_6.out⟩, ⟨sU HO_8.out⟩, ⟨kU BK207.out⟩, ⟨bU1 HB.out GE207.out⟩⟩
         ·
          rw [if_neg c25] at H; have c25b0 := beq_eq_false_iff_ne.mpr c25; have c25b1 := bne_iff_ne.mpr c25; have H' := Az H; clear H; have p217 : 0 ≤ (x9_1 : Int) := oA; have q217 : x9_1 < (t214.length : Int) := oA; obtain ⟨ad217, A217_0, c217_0, e217, hx217_0, hl217_0, hi217_0⟩ := at_L1 (Kd.S_reads' HO_8.out).2.2 x9_1 p217 q217
          cases e217
          obtain ⟨ce217, hce217, hMe217, hcc217⟩ := Kd.S_get HO_8.out [] x9_1 p217 (by first | exact q217 | exact oA | (have e_ := (Kd.S_reads' HO_8.out).1; omega)); obtain ⟨ve217_0, rfl, ge217_0⟩ := hMe217; have hv217_0 := hcc217 0 _ rfl; rw [Nat.add_zero, show ((Kd.slice 3 (Kd.int .i64))).sz = 1 from rfl, Nat.mul_one] at hv217_0; replace hv217_0 := Option.some.inj (hv217_0.symm.trans hx217_0); rw [hv217_0] at ge217_0; have HL217_0 := Az (show Kd.R (Kd.int .i64) 3 _ _ _ _ (rd_L1 t214 x9_1) from ge217_0); clear hv217_0 ge217_0 hcc217 hce217; have HR217_0 := Az hi217_0; have HC217_0 := Az hl217_0; clear hi217_0 hl217_0; replace p217 := eq_true p217; replace q217 := eq_true q217
          go_wp2
          repeat (go_quiet (fail); try go_wp2)
          (first | go_roundg k2 | (refine Handed.intro k2 ?measure ?_; rotate_left; go_step; (try simp only [add_plain]); (repeat apply Exists.intro); refine ⟨?rel, rfl⟩))
          case measure => have := HK1.out; have := HK2.out; omega
          case rel => exact ⟨(x7_1), (wrap64 (x9_1 + 1)), rS, rS, H', ⟨by have := HK1.out; have := HK2.out; omega⟩, ⟨rU HO_5.out⟩, ⟨rU HO_6.out⟩, ⟨sU HO_8.out⟩, ⟨kU BK207.out⟩, ⟨bU1 HB.out GE207.out⟩⟩
       ·
        rw [if_neg c16] at H
        exact absurd H (by simp)
      ·
       rw [if_neg c15] at H
       exact absurd H (by simp)
   ·
    rw [if_neg c13] at H; have c13b0 := decide_eq_false c13; clear c13; have H' := Az H; clear H; obtain ⟨Ao26, co26, eo26⟩ := Kd.S_slice HO_8.out; subst eo26
    go_wp2
    repeat (go_quiet (fail); try go_wp2)
    go_loopg [12] k1 (fun kq v12 w' => ∃ (x6_2 : List Int) (x12_2 : Int), v12 = .int .i64 x12_2 ∧ Aside0 (spec_l7Sides.l2 kq l1 t208 x6_2 x7_1 x12_2 l0_0 l0_1 = some r) ∧ Aside0 (kq ≤ k1) ∧ Aside0 (Kd.R (Kd.int .i64) 3 w' w.heap.size (fun k_ => some k_ ≠ (v212 : Value).ownBlock) v209 t208) ∧ Aside0 (Kd.R (Kd.int .i64) 3 w' w.heap.size (fun k_ => some k_ ≠ (v209 : Value).ownBlock) v212 x6_2) ∧ Aside0 (w'.heap[gb207]? = some (.cells #[(.slice A0_0 l0_0.length c0_0), (.slice A0_1 l0_1.length c0_1)] 27 (0, 0))) ∧ Aside0 (Below w.heap.size w w'))
    case atStart => exact ⟨(t211), (0), rS, H', ⟨Nat.le_refl _⟩, ⟨rU HO_5.out⟩, ⟨rU HO_6.out⟩, ⟨kU BK207.out⟩, ⟨bU1 HB.out GE207.out⟩⟩
    case round =>
     clear H'; (try clear c1); (try clear c2); (try clear p2); (try clear q2); (try clear hx2); (try clear p6); (try clear c8); (try clear c13); (try clear c13b0); (try clear c15); (try clear c15b0); (try clear c16); (try clear c16b0); (try clear c17); (try clear c17b0); (try clear c18); (try clear c18b0); (try clear c19); (try clear c19b0); (try clear c20); (try clear c20b0); (try clear c21); (try clear p21); (try clear q21); (try clear hx21); (try clear c22); (try clear p22); (try clear q22); (try clear hx22); (try clear c25); (try clear c25b0); (try clear c25b1); (try clear hcz11_0); (try clear hcz11_1); (try clear hcz7_0); (try clear hcz7_1); (try clear hcz9_0); (try clear hcz9_1); (try clear hfz11_0); (try clear hfz11_1); (try clear hfz7_0); (try clear hfz7_1); (try clear hfz9_0); (try clear hfz9_1); (try clear hx217_0); (try clear hx218_0); (try clear hx219_0); (try clear hx220_0); (try clear p2); (try clear p217); (try clear p218); (try clear p219); (try clear p220); (try clear q217); (try clear q218); (try clear q219); (try clear q220); obtain ⟨x6_2, x12_2, rfl, HA, HK2, HO_5, HO_6, BK207, HB⟩ := hrel
     cases gk with
     | zero => exact absurd HA.out (by simp [spec_l7Sides.l2])
     | succ k2 =>
      have H := HA.out; clear HA; simp only [spec_l7Sides.l2] at H
      by_cases c27 : x12_2 < (x6_2.length : Int)
      ·
       rw [if_pos c27] at H; have c27b0 := decide_eq_true c27; clear c27
       by_cases c28 : 0 ≤ x12_2
       ·
        rw [if_pos c28] at H; have c28b0 := decide_eq_true c28; clear c28
        by_cases c29 : x12_2 < (t208.length : Int)
        ·
         rw [if_pos c29] at H; have c29b0 := decide_eq_true c29; clear c29; replace H := Option.bind_eq_some_iff.mp H; obtain ⟨t226, A300, H⟩ := H; replace H : (if t226 = true then (if x12_2 < (l0_1.length : Int) then (if 0 ≤ (rd l0_1 x12_2) then (if (rd l0_1 x12_2) < (l0_0.length : Int) then (spec_l7Sides.l3 k2 l1 t208 x6_2 x7_1 x12_2 (rd l0_0 (rd l0_1 x12_2)) l0_0 l0_1) else (none)) else (none)) else (none)) else (spec_l7Sides.l2 k2 l1 t208 x6_2 x7_1 (wrap64 (x12_2 + 1)) l0_0 l0_1)) = some r := H; have A30 := Az A300; clear A300
         by_cases c31 : t226 = true
         ·
          subst c31
          have H1 : (if x12_2 < (l0_1.length : Int) then (if 0 ≤ (rd l0_1 x12_2) then (if (rd l0_1 x12_2) < (l0_0.length : Int) then (spec_l7Sides.l3 k2 l1 t208 x6_2 x7_1 x12_2 (rd l0_0 (rd l0_1 x12_2)) l0_0 l0_1) else (none)) else (none)) else (none)) = some r := by rw [if_pos rfl] at H; exact H
          clear H; have H := H1; clear H1
          by_cases c32 : x12_2 < (l0_1.length : Int)
          ·
           rw [if_pos c32] at H; have c32b0 := decide_eq_true c32; clear c32
           by_cases c33 : 0 ≤ (rd l0_1 x12_2)
           ·
            rw [if_pos c33] at H; have c33b0 := decide_eq_true c33; clear c33
            by_cases c34 : (rd l0_1 x12_2) < (l0_0.length : Int)
            ·
             rw [if_pos c34] at H; have c34b0 := decide_eq_true c34; clear c34; have H' := Az H; clear H; obtain ⟨Ao35, co35, eo35⟩ := Kd.R_slice HO_6.out; subst eo35; obtain ⟨Ao36, co36, eo36⟩ := Kd.R_slice HO_5.out; subst eo36; have p225 : 0 ≤ (x12_2 : Int) := oA; have q225 : x12_2 < (t208.length : Int) := oA; obtain ⟨ad225, e225, hx225_0⟩ := Kd.at_int (Kd.R_reads' HO_5.out).2.2 x12_2 p225 q225
             cases e225
             replace p225 := eq_true p225; replace q225 := eq_true q225
             go_wp2_with (first | (go_at_call 52; (with_reducible refine (spec_l7Has.calls k2 _ _ l1 (rd t208 x12_2) true _ ?side1 ?side2 A30.out).mono ?_); (case side1 => exact cU (Kd.C_below HR1.out HB.out)); (case side2 => exact HC1.out); rintro e w' ⟨rfl, ⟨nd, rfl⟩⟩; (try first | exact ⟨rfl, _, World.drewN_drewN _ _ _⟩ | exact ⟨rfl, _, Eq.trans (World.drewN_drewN _ _ _) (congrArg (World.drewN _) (Nat.add_assoc _ _ _))⟩); have hcz37_0 : wr.cell? ⟨gb207, 0, none⟩ = some (.slice A0_0 l0_0.length c0_0) := (blk_cell BK207.out 0).trans rfl; have hcz37_1 : wr.cell? ⟨gb207, 1, none⟩ = some (.slice A0_1 l0_1.length c0_1) := (blk_cell BK207.out 1).trans rfl; have hfz37_0 := blk_frozen BK207.out 0; have hfz37_1 := blk_frozen BK207.out 1; have p227 : 0 ≤ (x12_2 : Int) := oA; have q227 : x12_2 < (l0_1.length : Int) := oA; obtain ⟨ad227, e227, hx227_0⟩ := Kd.at_int HR0_1.out x12_2 p227 q227; cases e227; replace hx227_0 := (HB.out.cell (World.block_lt_of_cell? w _ hx227_0)).trans hx227_0; replace p227 := eq_true p227; replace q227 := eq_true q227; have p228 : 0 ≤ ((rd l0_1 x12_2) : Int) := oA; have q228 : (rd l0_1 x12_2) < (l0_0.length : Int) := oA; obtain ⟨ad228, e228, hx228_0⟩ := Kd.at_int HR0_0.out (rd l0_1 x12_2) p228 q228; cases e228; replace hx228_0 := (HB.out.cell (World.block_lt_of_cell? w _ hx228_0)).trans hx228_0; replace p228 := eq_true p228; replace q228 := eq_true q228))
             repeat (go_quiet (fail); try go_wp2_with (fail))
             go_loopg [13] k2 (fun kq v13 w' => ∃ (x13_3 : Int), v13 = .int .i64 x13_3 ∧ Aside0 (spec_l7Sides.l3 kq l1 t208 x6_2 x7_1 x12_2 x13_3 l0_0 l0_1 = some r) ∧ Aside0 (kq ≤ k2) ∧ Aside0 (Kd.R (Kd.int .i64) 3 w' w.heap.size (fun k_ => some k_ ≠ ((.slice Ao35 x6_2.length co35) : Value).ownBlock) (.slice (some ad225) t208.length co36) t208) ∧ Aside0 (Kd.R (Kd.int .i64) 3 w' w.heap.size (fun k_ => some k_ ≠ ((.slice (some ad225) t208.length co36) : Value).ownBlock) (.slice Ao35 x6_2.length co35) x6_2) ∧ Aside0 (w'.heap[gb207]? = some (.cells #[(.slice (some ad228) l0_0.length c0_0), (.slice (some ad227) l0_1.length c0_1)] 27 (0, 0))) ∧ Aside0 (Below w.heap.size w w'))
             case atStart => exact ⟨(rd l0_0 (rd l0_1 x12_2)), rS, H', ⟨Nat.le_refl _⟩, ⟨rU HO_5.out⟩, ⟨rU HO_6.out⟩, ⟨kU BK207.out⟩, ⟨bU1 HB.out GE207.out⟩⟩
             case round =>
              clear H'; (try clear c1); (try clear c2); (try clear p2); (try clear q2); (try clear hx2); (try clear c3); (try clear p6); (try clear c8); (try clear c13); (try clear c13b0); (try clear c15); (try clear c15b0); (try clear c16); (try clear c16b0); (try clear c17); (try clear c17b0); (try clear c18); (try clear c18b0); (try clear c19); (try clear c19b0); (try clear c20); (try clear c20b0); (try clear c21); (try clear p21); (try clear q21); (try clear hx21); (try clear c22); (try clear p22); (try clear q22); (try clear hx22); (try clear c25); (try clear c25b0); (try clear c25b1); (try clear c27); (try clear c27b0); (try clear c28); (try clear c28b0); (try clear c29); (try clear c29b0); (try clear c31); (try clear c32); (try clear c32b0); (try clear c33); (try clear c33b0); (try clear c34); (try clear c34b0); (try clear hcz11_0); (try clear hcz11_1); (try clear hcz37_0); (try clear hcz37_1); (try clear hcz7_0); (try clear hcz7_1); (try clear hcz9_0); (try clear hcz9_1); (try clear hfz11_0); (try clear hfz11_1); (try clear hfz37_0); (try clear hfz37_1); (try clear hfz7_0); (try clear hfz7_1); (try clear hfz9_0); (try clear hfz9_1); (try clear hx217_0); (try clear hx218_0); (try clear hx219_0); (try clear hx220_0); (try clear hx225_0); (try clear hx227_0); (try clear hx228_0); (try clear p2); (try clear p21); (try clear p217); (try clear p218); (try clear p219); (try clear p22); (try clear p220); (try clear p225); (try clear p227); (try clear p228); (try clear p6); (try clear q2); (try clear q21); (try clear q217); (try clear q218); (try clear q219); (try clear q22); (try clear q220); (try clear q225); (try clear q227); (try clear q228); obtain ⟨x13_3, rfl, HA, HK3, HO_5, HO_6, BK207, HB⟩ := hrel
              cases gk with
              | zero => exact absurd HA.out (by simp [spec_l7Sides.l3])
              | succ k3 =>
               have H := HA.out; clear HA; simp only [spec_l7Sides.l3] at H
               by_cases c38 : 0 ≤ x13_3
               ·
                rw [if_pos c38] at H; have c38b0 := decide_eq_true c38; clear c38
                by_cases c39 : x13_3 < (t208.length : Int)
                ·
                 rw [if_pos c39] at H; have c39b0 := decide_eq_true c39; clear c39; replace H := Option.bind_eq_some_iff.mp H; obtain ⟨t230, A400, H⟩ := H; replace H : (if t230 = true then (if 0 ≤ x12_2 then (if x12_2 < (x6_2.length : Int) then (spec_l7Sides.l2 k3 l1 t208 (x6_2.set (x12_2 : Int).toNat x13_3) x7_1 (wrap64 (x12_2 + 1)) l0_0 l0_1) else (none)) else (none)) else (if x13_3 < (l0_0.length : Int) then (spec_l7Sides.l3 k3 l1 t208 x6_2 x7_1 x12_2 (rd l0_0 x13_3) l0_0 l0_1) else (none))) = some r := H; have A40 := Az A400; clear A400
                 by_cases c41 : t230 = true
                 ·
                  subst c41
                  have H1 : (if 0 ≤ x12_2 then (if x12_2 < (x6_2.length : Int) then (spec_l7Sides.l2 k3 l1 t208 (x6_2.set (x12_2 : Int).toNat x13_3) x7_1 (wrap64 (x12_2 + 1)) l0_0 l0_1) else (none)) else (none)) = some r := by rw [if_pos rfl] at H; exact H
                  clear H; have H := H1; clear H1
                  by_cases c42 : 0 ≤ x12_2
                  ·
                   rw [if_pos c42] at H; have c42b0 := decide_eq_true c42; clear c42
                   by_cases c43 : x12_2 < (x6_2.length : Int)
                   ·
                    rw [if_pos c43] at H; have c43b0 := decide_eq_true c43; clear c43; obtain ⟨y231, hy231⟩ : ∃ y_ : List Int, y_ = (x6_2.set (x12_2 : Int).toNat x13_3) := ⟨_, rfl⟩; replace H : (spec_l7Sides.l2 k3 l1 t208 y231 x7_1 (wrap64 (x12_2 + 1)) l0_0 l0_1) = some r := hR hy231 H; have Ny231 := Az hy231; clear hy231; have H' := Az H; clear H; have p229 : 0 ≤ (x13_3 : Int) := oA; have q229 : x13_3 < (t208.length : Int) := oA; obtain ⟨ad229, e229, hx229_0⟩ := Kd.at_int (Kd.R_reads' HO_5.out).2.2 x13_3 p229 q229; obtain rfl : ad225 = ad229 := (by injection e229); replace p229 := eq_true p229; replace q229 := eq_true q229
                    go_wp2_with (first | (go_at_call 52; (with_reducible refine (spec_l7Has.calls k3 _ _ l1 (rd t208 x13_3) true _ ?side1 ?side2 A40.out).mono ?_); (case side1 => exact cU (Kd.C_below HR1.out HB.out)); (case side2 => exact HC1.out); rintro e w' ⟨rfl, ⟨nd, rfl⟩⟩; (try first | exact ⟨rfl, _, World.drewN_drewN _ _ _⟩ | exact ⟨rfl, _, Eq.trans (World.drewN_drewN _ _ _) (congrArg (World.drewN _) (Nat.add_assoc _ _ _))⟩); have p44 : 0 ≤ (x12_2 : Int) := oA; have q44 : (x12_2 : Int) < ((x6_2.length : Int) : Int) := oA; obtain ⟨go44, co44, eo44, gb44, gl44, cl44, HG44⟩ := Kd.R_form HO_6.out (by omega); (first | cases eo44 | (injection eo44 with ea_ en_ ec_; (first | subst ea_ | (injection ea_ with ea_; subst ea_)); subst ec_; clear en_)); have GB44 := Az gb44; have GG44 := Az HG44; clear gb44 gl44 HG44; obtain ⟨hx44_0, hf44_0⟩ := Kd.R_celln 0 HO_6.out (x12_2 : Int) p44 q44; replace p44 := eq_true p44; replace q44 := eq_true q44; obtain ⟨hy45_, hz45_⟩ := Kd.R_celln 0 HO_6.out (x12_2 : Int) (oA) (oA); have HP45 := Kd.R_putg HO_6.out (x12_2 : Int) x13_3) | ((with_reducible refine gate_store (t := 3) (p := 92) rfl ?_); (try (rw [drewN_self wr]; generalize hq_ : World.drewN wr _ = wr; have n0 := Az (Kd.R_at hq_ HO_5.out); have n1 := Az (Kd.R_at hq_ HO_6.out); have n2 := Az (blk_at hq_ BK207.out); have n3 := Az (below_at hq_ HB.out); clear hq_ HO_5 HO_6 BK207 HB; have HO_5 := n0; have HO_6 := n1; have BK207 := n2; have HB := n3; clear n0 n1 n2 n3; (try (obtain ⟨hy45_, hz45_⟩ := Kd.R_celln 0 HO_6.out (x12_2 : Int) (oA) (oA))); (try (have HP45 := Kd.R_putg HO_6.out (x12_2 : Int) x13_3)))); refine store_event (t := 3) (p := 92) (v := ?vo_w46) (w1 := (wr.setCell ⟨go44, (x12_2 : Int).toNat, none⟩ (.int .i64 x13_3))) ?hg ?ho ?hn ?hr ?_; (case ho => rfl); (case hg => rfl); (case hn => rfl); (case hr => first | (go_simp; done) | (go_simp; rfl)); intro w46 hw; have hg : wr.grownBy w46 (some go44) := (by rw [hw]; exact HP45.2); have hp_ : Kd.R (Kd.int .i64) 3 w46 w.heap.size (fun k_ => some k_ ≠ (.slice (some ad225) t208.length co36 : Value).ownBlock) (.slice (some ⟨go44, 0, none⟩) x6_2.length co35) y231 := (by rw [hw, Ny231.out]; exact HP45.1); clear HP45; have n0 := Az (Kd.R_after (v := (.slice (some ⟨go44, 0, none⟩) x6_2.length co35)) (v1 := (.slice (some ⟨go44, 0, none⟩) x6_2.length co35)) (ok := (fun _ => True)) (by (with_reducible repeat (first | apply Kd.R_alloc | apply Kd.R_drewN | apply Kd.R_drew)); exact Kd.R_mono HO_5.out (fun _ hk => ⟨trivial, hk⟩)) hg (.inl rfl)); have n1 := Az (hp_); have n2 := Az (blk_grown (g := gb207) (o := .cells #[.slice (some ad228) l0_0.length c0_0, .slice (some ad227) l0_1.length c0_1] 27 (0, 0)) (kU BK207.out) hg (Kd.R_ne HO_6.out BK207.out (by decide))); have n3 := Az ((by rw [hw]; exact below_set (HB.out) GB44.out : Below w.heap.size w w46)); clear HO_5 HO_6 BK207 HB; have HO_5 := n0; have HO_6 := n1; have BK207 := n2; have HB := n3; clear n0 n1 n2 n3; clear hg hw hp_))
                    repeat (go_quiet (fail); try go_wp2_with (fail))
                    (first | go_roundg k3 | (refine Handed.intro k3 ?measure ?_; rotate_left; go_step; (try simp only [add_plain]); (repeat apply Exists.intro); refine ⟨?rel, rfl⟩))
                    case measure => have := HK1.out; have := HK2.out; have := HK3.out; omega
                    case rel => exact ⟨(y231), (wrap64 (x12_2 + 1)), rS, H', ⟨by have := HK1.out; have := HK2.out; have := HK3.out; omega⟩, ⟨by (with_reducible repeat (first | apply Kd.R_alloc | apply Kd.R_drewN | apply Kd.R_drew)); exact Kd.R_mono HO_5.out (fun _ hk => hk.2)⟩, ⟨rU HO_6.out⟩, ⟨kU BK207.out⟩, ⟨bU1 HB.out GE207.out⟩⟩
                   ·
                    rw [if_neg c43] at H
                    exact absurd H (by simp)
                  ·
                   rw [if_neg c42] at H
                   exact absurd H (by simp)
                 ·
                  replace c41 := Bool.eq_false_iff.mpr c41; subst c41
                  have H1 : (if x13_3 < (l0_0.length : Int) then (spec_l7Sides.l3 k3 l1 t208 x6_2 x7_1 x12_2 (rd l0_0 x13_3) l0_0 l0_1) else (none)) = some r := by rw [if_neg (show ¬ (false = true) by decide)] at H; exact H
                  clear H; have H := H1; clear H1
                  by_cases c47 : x13_3 < (l0_0.length : Int)
                  ·
                   rw [if_pos c47] at H; have c47b0 := decide_eq_true c47; clear c47; have H' := Az H; clear H; have p229 : 0 ≤ (x13_3 : Int) := oA; have q229 : x13_3 < (t208.length : Int) := oA; obtain ⟨ad229, e229, hx229_0⟩ := Kd.at_int (Kd.R_reads' HO_5.out).2.2 x13_3 p229 q229; obtain rfl : ad225 = ad229 := (by injection e229); replace p229 := eq_true p229; replace q229 := eq_true q229
                   go_wp2_with (first | (go_at_call 52; (with_reducible refine (spec_l7Has.calls k3 _ _ l1 (rd t208 x13_3) false _ ?side1 ?side2 A40.out).mono ?_); (case side1 => exact cU (Kd.C_below HR1.out HB.out)); (case side2 => exact HC1.out); rintro e w' ⟨rfl, ⟨nd, rfl⟩⟩; (try first | exact ⟨rfl, _, World.drewN_drewN _ _ _⟩ | exact ⟨rfl, _, Eq.trans (World.drewN_drewN _ _ _) (congrArg (World.drewN _) (Nat.add_assoc _ _ _))⟩); have hcz48_0 : wr.cell? ⟨gb207, 0, none⟩ = some (.slice (some ad228) l0_0.length c0_0) := (blk_cell BK207.out 0).trans rfl; have hcz48_1 : wr.cell? ⟨gb207, 1, none⟩ = some (.slice (some ad227) l0_1.length c0_1) := (blk_cell BK207.out 1).trans rfl; have hfz48_0 := blk_frozen BK207.out 0; have hfz48_1 := blk_frozen BK207.out 1; have p232 : 0 ≤ (x13_3 : Int) := oA; have q232 : x13_3 < (l0_0.length : Int) := oA; obtain ⟨ad232, e232, hx232_0⟩ := Kd.at_int HR0_0.out x13_3 p232 q232; obtain rfl : ad228 = ad232 := (by injection e232); replace hx232_0 := (HB.out.cell (World.block_lt_of_cell? w _ hx232_0)).trans hx232_0; replace p232 := eq_true p232; replace q232 := eq_true q232))
                   repeat (go_quiet (fail); try go_wp2_with (fail))
                   (first | go_roundg k3 | (refine Handed.intro k3 ?measure ?_; rotate_left; go_step; (try simp only [add_plain]); (repeat apply Exists.intro); refine ⟨?rel, rfl⟩))
                   case measure => have := HK1.out; have := HK2.out; have := HK3.out; omega
                   case rel => exact ⟨(rd l0_0 x13_3), rS, H', ⟨by have := HK1.out; have := HK2.out; have := HK3.out; omega⟩, ⟨rU HO_5.out⟩, ⟨rU HO_6.out⟩, ⟨kU BK207.out⟩, ⟨bU1 HB.out GE207.out⟩⟩
                  ·
                   rw [if_neg c47] at H
                   exact absurd H (by simp)
                ·
                 rw [if_neg c39] at H
                 exact absurd H (by simp)
               ·
                rw [if_neg c38] at H
                exact absurd H (by simp)
            ·
             rw [if_neg c34] at H
             exact absurd H (by simp)
           ·
            rw [if_neg c33] at H
            exact absurd H (by simp)
          ·
           rw [if_neg c32] at H
           exact absurd H (by simp)
         ·
          replace c31 := Bool.eq_false_iff.mpr c31; subst c31
          have H1 : (spec_l7Sides.l2 k2 l1 t208 x6_2 x7_1 (wrap64 (x12_2 + 1)) l0_0 l0_1) = some r := by rw [if_neg (show ¬ (false = true) by decide)] at H; exact H
          clear H; have H := H1; clear H1; have H' := Az H; clear H; obtain ⟨Ao49, co49, eo49⟩ := Kd.R_slice HO_6.out; subst eo49; obtain ⟨Ao50, co50, eo50⟩ := Kd.R_slice HO_5.out; subst eo50; have p225 : 0 ≤ (x12_2 : Int) := oA; have q225 : x12_2 < (t208.length : Int) := oA; obtain ⟨ad225, e225, hx225_0⟩ := Kd.at_int (Kd.R_reads' HO_5.out).2.2 x12_2 p225 q225
          cases e225
          replace p225 := eq_true p225; replace q225 := eq_true q225
          go_wp2_with (first | (go_at_call 52; (with_reducible refine (spec_l7Has.calls k2 _ _ l1 (rd t208 x12_2) false _ ?side1 ?side2 A30.out).mono ?_); (case side1 => exact cU (Kd.C_below HR1.out HB.out)); (case side2 => exact HC1.out); rintro e w' ⟨rfl, ⟨nd, rfl⟩⟩; (try first | exact ⟨rfl, _, World.drewN_drewN _ _ _⟩ | exact ⟨rfl, _, Eq.trans (World.drewN_drewN _ _ _) (congrArg (World.drewN _) (Nat.add_assoc _ _ _))⟩)))
          repeat (go_quiet (fail); try go_wp2_with (fail))
          (first | go_roundg k2 | (refine Handed.intro k2 ?measure ?_; rotate_left; go_step; (try simp only [add_plain]); (repeat apply Exists.intro); refine ⟨?rel, rfl⟩))
          case measure => have := HK1.out; have := HK2.out; omega
          case rel => exact ⟨(x6_2), (wrap64 (x12_2 + 1)), rS, H', ⟨by have := HK1.out; have := HK2.out; omega⟩, ⟨rU HO_5.out⟩, ⟨rU HO_6.out⟩, ⟨kU BK207.out⟩, ⟨bU1 HB.out GE207.out⟩⟩
        ·
         rw [if_neg c29] at H
         exact absurd H (by simp)
       ·
        rw [if_neg c28] at H
        exact absurd H (by simp)
      ·
       rw [if_neg c27] at H; have c27b0 := decide_eq_false c27; clear c27; replace H := Option.bind_eq_some_iff.mp H; obtain ⟨t222, A510, H⟩ := H; replace H : (some (wrap64 ((wrap64 ((t222.length : Int) - (wrap64 ((x6_2.length : Int) - (wrap64 (2 * (l1.length : Int))))))) + x7_1))) = some r := H; have A51 := Az A510; clear A510; obtain rfl := Option.some.inj H; obtain ⟨Ao52, co52, eo52⟩ := Kd.R_slice HO_6.out; subst eo52
       go_wp2_with (first | (go_at_call 60; (with_reducible refine (spec_l1Cycles.calls k2 _ _ x6_2 t222 _ ?side1 ?side2 A51.out).mono ?_); (case side1 => exact cU ((Kd.R_reads' HO_6.out).2.2)); (case side2 => exact (Kd.R_reads' HO_6.out).2.1); rintro e w53 ⟨v223, rfl, ho0, hb⟩; have n0 := Az (Kd.R_below (rU HO_5.out) hb); have n1 := Az (Kd.R_below (rU HO_6.out) hb); have n2 := Az (Kd.S_lower (Kd.S_new' (Kd.S_new' ho0 (Kd.R_lt (rU HO_5.out))) (Kd.R_lt (rU HO_6.out))) (below_size (bU1 HB.out GE207.out))); have n3 := Az (blk_below (g := gb207) (o := .cells #[.slice A0_0 l0_0.length c0_0, .slice A0_1 l0_1.length c0_1] 27 (0, 0)) (kU BK207.out) hb); have n4 := Az (below_step (bU1 HB.out GE207.out) hb); clear HO_5 HO_6 BK207 HB; have HO_5 := n0; have HO_6 := n1; have HO224 := n2; have BK207 := n3; have HB := n4; clear n0 n1 n2 n3 n4; (try clear hb); (try clear hb2); (try clear hk); (try clear hi); (try clear ho0); obtain ⟨Ao54, co54, eo54⟩ := Kd.S_slice HO224.out; subst eo54))
       repeat (go_quiet (fail); try go_wp2_with (fail))
       go_ret
       exact ⟨rE, bU1 HB.out GE207.out⟩
def spec_l7Counts.f (k : Nat) (l0_0 : List Int) (l0_1 : List Int) (l1 : List Int) : Option (List Int) := (spec_l7Parts.f k l0_0 l0_1 l1).bind fun t234 => ((spec_l7Sides.f k l0_0 l0_1 l1).bind fun t235 => ((spec_l1Cycles.f k l0_0).bind fun t236 => (some (([t234, t235, wrap64 ((t236.length : Int) - t234), wrap64 ((l1.length : Int) - (wrap64 ((t236.length : Int) - t234))), wrap64 (Int.tdiv (wrap64 ((wrap64 ((wrap64 ((wrap64 (2 * t234)) - (t236.length : Int))) + (l1.length : Int))) - t235)) 2)] : List Int)))))
set_option maxHeartbeats 8000000 in
set_option maxRecDepth 100000 in
theorem spec_l7Counts.calls (k : Nat) (A0_0 : Option Addr) (c0_0 : Nat) (l0_0 : List Int) (A0_1 : Option Addr) (c0_1 : Nat) (l0_1 : List Int) (A1 : Option Addr) (c1 : Nat) (l1 : List Int) (r : List Int) (w : World) (hr0_0 : Kd.C (Kd.int .i64) w A0_0 l0_0.length l0_0) (hc0_0 : l0_0.length ≤ c0_0) (hr0_1 : Kd.C (Kd.int .i64) w A0_1 l0_1.length l0_1) (hc0_1 : l0_1.length ≤ c0_1) (hr1 : Kd.C (Kd.int .i64) w A1 l1.length l1) (hc1 : l1.length ≤ c1) (h : spec_l7Counts.f k l0_0 l0_1 l1 = some r) :
  Calls Try.prog 65 #[.agg #[.slice A0_0 l0_0.length c0_0, .slice A0_1 l0_1.length c0_1], .slice A1 l1.length c1] w fun e w' => ∃ v0_ : Value, e = .returned (v0_) ∧ Kd.R (Kd.int .i64) 3 w' w.heap.size (fun _ => True) v0_ r ∧ Below w.heap.size w w' := by
 have hu27 := Try.underlying27; have HR0_0 := Az hr0_0; have HC0_0 := Az hc0_0; clear hr0_0 hc0_0; have HR0_1 := Az hr0_1; have HC0_1 := Az hc0_1; clear hr0_1 hc0_1; have HR1 := Az hr1; have HC1 := Az hc1; clear hr1 hc1; have HB := Az (Below.refl w.heap.size w); have H : ((spec_l7Parts.f k l0_0 l0_1 l1).bind fun t234 => ((spec_l7Sides.f k l0_0 l0_1 l1).bind fun t235 => ((spec_l1Cycles.f k l0_0).bind fun t236 => (some (([t234, t235, wrap64 ((t236.length : Int) - t234), wrap64 ((l1.length : Int) - (wrap64 ((t236.length : Int) - t234))), wrap64 (Int.tdiv (wrap64 ((wrap64 ((wrap64 ((wrap64 (2 * t234)) - (t236.length : Int))) + (l1.length : Int))) - t235)) 2)] : List Int)))))) = some r := h; clear h; replace H := Option.bind_eq_some_iff.mp H; obtain ⟨t234, A30, H⟩ := H; replace H : ((spec_l7Sides.f k l0_0 l0_1 l1).bind fun t235 => ((spec_l1Cycles.f k l0_0).bind fun t236 => (some (([t234, t235, wrap64 ((t236.length : Int) - t234), wrap64 ((l1.length : Int) - (wrap64 ((t236.length : Int) - t234))), wrap64 (Int.tdiv (wrap64 ((wrap64 ((wrap64 ((wrap64 (2 * t234)) - (t236.length : Int))) + (l1.length : Int))) - t235)) 2)] : List Int))))) = some r := H; have A3 := Az A30; clear A30; replace H := Option.bind_eq_some_iff.mp H; obtain ⟨t235, A40, H⟩ := H; replace H : ((spec_l1Cycles.f k l0_0).bind fun t236 => (some (([t234, t235, wrap64 ((t236.length : Int) - t234), wrap64 ((l1.length : Int) - (wrap64 ((t236.length : Int) - t234))), wrap64 (Int.tdiv (wrap64 ((wrap64 ((wrap64 ((wrap64 (2 * t234)) - (t236.length : Int))) + (l1.length : Int))) - t235)) 2)] : List Int)))) = some r := H; have A4 := Az A40; clear A40; replace H := Option.bind_eq_some_iff.mp H; obtain ⟨t236, A50, H⟩ := H; replace H : (some (([t234, t235, wrap64 ((t236.length : Int) - t234), wrap64 ((l1.length : Int) - (wrap64 ((t236.length : Int) - t234))), wrap64 (Int.tdiv (wrap64 ((wrap64 ((wrap64 ((wrap64 (2 * t234)) - (t236.length : Int))) + (l1.length : Int))) - t235)) 2)] : List Int))) = some r := H; have A5 := Az A50; clear A50; obtain ⟨y239, hy239⟩ : ∃ y_ : List Int, y_ = (([t234, t235, wrap64 ((t236.length : Int) - t234), wrap64 ((l1.length : Int) - (wrap64 ((t236.length : Int) - t234))), wrap64 (Int.tdiv (wrap64 ((wrap64 ((wrap64 ((wrap64 (2 * t234)) - (t236.length : Int))) + (l1.length : Int))) - t235)) 2)] : List Int)) := ⟨_, rfl⟩; replace H : (some y239) = some r := hR hy239 H; have Ny239 := Az hy239; clear hy239; obtain rfl := Option.some.inj H
 go_enter Try.func65, Try.ntmps65
 go_wp2_with (first | ((with_reducible refine gate_dst (N := 2) rfl ?_); refine box_event ?hg (N := 2) ?hd (cs := #[.slice A0_0 l0_0.length c0_0, .slice A0_1 l0_1.length c0_1]) (t := 27) ?hr ?_; (case hd => rfl); (case hg => rfl); (case hr => first | (go_simp; done) | (go_simp; rfl)); intro gb233 hg w6 hbox hb; have n0 := Az (below_step (bU0 HB.out) hb); have n1 := Az (hbox); have n2 := Az ((by rw [hg]; exact (below_size (bU0 HB.out)) : w.heap.size ≤ gb233)); have n3 := n2; clear HB; have HB := n0; have BK233 := n1; have GW233 := n2; have GE233 := n3; clear n0 n1 n2 n3 hb hbox hg; have hcz7_0 : w6.cell? ⟨gb233, 0, none⟩ = some (.slice A0_0 l0_0.length c0_0) := (blk_cell BK233.out 0).trans rfl; have hcz7_1 : w6.cell? ⟨gb233, 1, none⟩ = some (.slice A0_1 l0_1.length c0_1) := (blk_cell BK233.out 1).trans rfl; have hfz7_0 := blk_frozen BK233.out 0; have hfz7_1 := blk_frozen BK233.out 1) | ((with_reducible refine gate_callee (f := 73) rfl ?_); refine goesL_ (some 11) rfl rfl Try.func73 (by kernel_rfl) rfl #[.agg #[.slice A0_0 l0_0.length c0_0, .slice A0_1 l0_1.length c0_1], .slice A1 l1.length c1] rfl (by (try simp only [List.map_toArray, List.map_cons, List.map_nil]); first | done | rfl | (simp only [List.length_drop, List.length_take]; rfl)) ?_; (with_reducible refine (spec_l7Parts.calls k _ _ l0_0 _ _ l0_1 _ _ l1 t234 _ ?side1 ?side2 ?side3 ?side4 ?side5 ?side6 A3.out).mono ?_); (case side1 => exact cU (Kd.C_below HR0_0.out HB.out)); (case side2 => exact HC0_0.out); (case side3 => exact cU (Kd.C_below HR0_1.out HB.out)); (case side4 => exact HC0_1.out); (case side5 => exact cU (Kd.C_below HR1.out HB.out)); (case side6 => exact HC1.out); rintro e w8 ⟨rfl, hb⟩; refine ⟨_, rfl, ?_⟩; have n0 := Az (blk_below (g := gb233) (o := .cells #[.slice A0_0 l0_0.length c0_0, .slice A0_1 l0_1.length c0_1] 27 (0, 0)) (kU BK233.out) hb); have n1 := Az (below_step (bU1 HB.out GE233.out) hb); clear BK233 HB; have BK233 := n0; have HB := n1; clear n0 n1; (try clear hb); (try clear hb2); (try clear hk); (try clear hi); have hcz9_0 : w8.cell? ⟨gb233, 0, none⟩ = some (.slice A0_0 l0_0.length c0_0) := (blk_cell BK233.out 0).trans rfl; have hcz9_1 : w8.cell? ⟨gb233, 1, none⟩ = some (.slice A0_1 l0_1.length c0_1) := (blk_cell BK233.out 1).trans rfl; have hfz9_0 := blk_frozen BK233.out 0; have hfz9_1 := blk_frozen BK233.out 1) | ((with_reducible refine gate_callee (f := 89) rfl ?_); refine goesL_ (some 14) rfl rfl Try.func89 (by kernel_rfl) rfl #[.agg #[.slice A0_0 l0_0.length c0_0, .slice A0_1 l0_1.length c0_1], .slice A1 l1.length c1] rfl (by (try simp only [List.map_toArray, List.map_cons, List.map_nil]); first | done | rfl | (simp only [List.length_drop, List.length_take]; rfl)) ?_; (with_reducible refine (spec_l7Sides.calls k _ _ l0_0 _ _ l0_1 _ _ l1 t235 _ ?side1 ?side2 ?side3 ?side4 ?side5 ?side6 A4.out).mono ?_); (case side1 => exact cU (Kd.C_below HR0_0.out HB.out)); (case side2 => exact HC0_0.out); (case side3 => exact cU (Kd.C_below HR0_1.out HB.out)); (case side4 => exact HC0_1.out); (case side5 => exact cU (Kd.C_below HR1.out HB.out)); (case side6 => exact HC1.out); rintro e w10 ⟨rfl, hb⟩; refine ⟨_, rfl, ?_⟩; have n0 := Az (blk_below (g := gb233) (o := .cells #[.slice A0_0 l0_0.length c0_0, .slice A0_1 l0_1.length c0_1] 27 (0, 0)) (kU BK233.out) hb); have n1 := Az (below_step (bU1 HB.out GE233.out) hb); clear BK233 HB; have BK233 := n0; have HB := n1; clear n0 n1; (try clear hb); (try clear hb2); (try clear hk); (try clear hi); have hcz11_0 : w10.cell? ⟨gb233, 0, none⟩ = some (.slice A0_0 l0_0.length c0_0) := (blk_cell BK233.out 0).trans rfl; have hcz11_1 : w10.cell? ⟨gb233, 1, none⟩ = some (.slice A0_1 l0_1.length c0_1) := (blk_cell BK233.out 1).trans rfl; have hfz11_0 := blk_frozen BK233.out 0; have hfz11_1 := blk_frozen BK233.out 1) | ((with_reducible refine gate_callee (f := 60) rfl ?_); refine goesL_ (some 17) rfl rfl Try.func60 (by kernel_rfl) rfl #[.slice A0_0 l0_0.length c0_0] rfl (by (try simp only [List.map_toArray, List.map_cons, List.map_nil]); first | done | rfl | (simp only [List.length_drop, List.length_take]; rfl)) ?_; (with_reducible refine (spec_l1Cycles.calls k _ _ l0_0 t236 _ ?side1 ?side2 A5.out).mono ?_); (case side1 => exact cU (Kd.C_below HR0_0.out HB.out)); (case side2 => exact HC0_0.out); rintro e w12 ⟨v237, rfl, ho0, hb⟩; refine ⟨_, rfl, ?_⟩; have n0 := Az (Kd.S_lower ho0 (below_size (bU1 HB.out GE233.out))); have n1 := Az (blk_below (g := gb233) (o := .cells #[.slice A0_0 l0_0.length c0_0, .slice A0_1 l0_1.length c0_1] 27 (0, 0)) (kU BK233.out) hb); have n2 := Az (below_step (bU1 HB.out GE233.out) hb); clear BK233 HB; have HO238 := n0; have BK233 := n1; have HB := n2; clear n0 n1 n2; (try clear hb); (try clear hb2); (try clear hk); (try clear hi); (try clear ho0); obtain ⟨Ao13, co13, eo13⟩ := Kd.S_slice HO238.out; subst eo13) | ((with_reducible refine gate_dst (N := 39) rfl ?_); refine Kd.R_lit (Kd.int .i64) _ 3 ?hg (N := 39) ?hd (xs := ([t234, t235, wrap64 ((t236.length : Int) - t234), wrap64 ((l1.length : Int) - (wrap64 ((t236.length : Int) - t234))), wrap64 (Int.tdiv (wrap64 ((wrap64 ((wrap64 ((wrap64 (2 * t234)) - (t236.length : Int))) + (l1.length : Int))) - t235)) 2)] : List Int)) (inner := [.int .i64 t234, .int .i64 t235, .int .i64 (wrap64 ((t236.length : Int) - t234)), .int .i64 (wrap64 ((l1.length : Int) - (wrap64 ((t236.length : Int) - t234)))), .int .i64 (wrap64 (Int.tdiv (wrap64 ((wrap64 ((wrap64 ((wrap64 (2 * t234)) - (t236.length : Int))) + (l1.length : Int))) - t235)) 2))]) (ok := fun _ => True) (okp := fun _ => True) ?hr ?hp (fun _ hk => hk) trivial (Below.refl _ _) (Nat.le_refl _) (by simp) ?_; (case hd => rfl); (case hg => rfl); (case hr => first | (go_simp; done) | (go_simp; rfl)); (case hp => exact (Reps.one (show Kd.M (Kd.int .i64) _ _ _ t234 [.int .i64 t234] from rfl) (Reps.one (show Kd.M (Kd.int .i64) _ _ _ t235 [.int .i64 t235] from rfl) (Reps.one (show Kd.M (Kd.int .i64) _ _ _ (wrap64 ((t236.length : Int) - t234)) [.int .i64 (wrap64 ((t236.length : Int) - t234))] from rfl) (Reps.one (show Kd.M (Kd.int .i64) _ _ _ (wrap64 ((l1.length : Int) - (wrap64 ((t236.length : Int) - t234)))) [.int .i64 (wrap64 ((l1.length : Int) - (wrap64 ((t236.length : Int) - t234))))] from rfl) (Reps.one (show Kd.M (Kd.int .i64) _ _ _ (wrap64 (Int.tdiv (wrap64 ((wrap64 ((wrap64 ((wrap64 (2 * t234)) - (t236.length : Int))) + (l1.length : Int))) - t235)) 2)) [.int .i64 (wrap64 (Int.tdiv (wrap64 ((wrap64 ((wrap64 ((wrap64 (2 * t234)) - (t236.length : Int))) + (l1.length : Int))) - t235)) 2))] from rfl) (Reps.none _ _))))))); intro v240 w14 ho15 hb hg_ hnew_; clear hg_ hnew_; (first | rw [← Ny239.out] at ho15 | (simp only [Int.reduceToNat] at ho15; rw [← Ny239.out] at ho15)); have n0 := Az (Kd.S_elder' (sU HO238.out) (Kd.R_base ho15) hb); have n1 := Az (Kd.R_lower ho15 (below_size (bU1 HB.out GE233.out))); have n2 := Az (blk_below (g := gb233) (o := .cells #[.slice A0_0 l0_0.length c0_0, .slice A0_1 l0_1.length c0_1] 27 (0, 0)) (kU BK233.out) hb); have n3 := Az (below_step (bU1 HB.out GE233.out) hb); clear HO238 BK233 HB; have HO238 := n0; have HO241 := n1; have BK233 := n2; have HB := n3; clear n0 n1 n2 n3; clear hb ho15))
 go_ret
 exact ⟨_, rE, rU HO241.out, bU1 HB.out GE233.out⟩
def spec_ChoiceCounts.f (k : Nat) (l0_0 : List Int) (l0_1 : List Int) (l1 : List Int) : Option (List Int × Bool) := (spec_ChoiceValid.f k l0_0 l0_1 l1).bind fun t243 => (if t243 = true then ((spec_l7Counts.f k l0_0 l0_1 l1).bind fun t244 => (some (t244, true))) else (some ((([] : List Int)), false)))
set_option maxHeartbeats 8000000 in
set_option maxRecDepth 100000 in
theorem spec_ChoiceCounts.calls (k : Nat) (A0_0 : Option Addr) (c0_0 : Nat) (l0_0 : List Int) (A0_1 : Option Addr) (c0_1 : Nat) (l0_1 : List Int) (A1 : Option Addr) (c1 : Nat) (l1 : List Int) (r1 : List Int) (r2 : Bool) (w : World) (hr0_0 : Kd.C (Kd.int .i64) w A0_0 l0_0.length l0_0) (hc0_0 : l0_0.length ≤ c0_0) (hr0_1 : Kd.C (Kd.int .i64) w A0_1 l0_1.length l0_1) (hc0_1 : l0_1.length ≤ c0_1) (hr1 : Kd.C (Kd.int .i64) w A1 l1.length l1) (hc1 : l1.length ≤ c1) (h : spec_ChoiceCounts.f k l0_0 l0_1 l1 = some (r1, r2)) :
  Calls Try.prog 32 #[.agg #[.slice A0_0 l0_0.length c0_0, .slice A0_1 l0_1.length c0_1], .slice A1 l1.length c1] w fun e w' => ∃ v0_ : Value, e = .returned (.tuple #[v0_, .bool r2]) ∧ Kd.R (Kd.int .i64) 3 w' w.heap.size (fun _ => True) v0_ r1 ∧ Below w.heap.size w w' := by
 have hu27 := Try.underlying27; have HR0_0 := Az hr0_0; have HC0_0 := Az hc0_0; clear hr0_0 hc0_0; have HR0_1 := Az hr0_1; have HC0_1 := Az hc0_1; clear hr0_1 hc0_1; have HR1 := Az hr1; have HC1 := Az hc1; clear hr1 hc1; have HB := Az (Below.refl w.heap.size w); have H : ((spec_ChoiceValid.f k l0_0 l0_1 l1).bind fun t243 => (if t243 = true then ((spec_l7Counts.f k l0_0 l0_1 l1).bind fun t244 => (some (t244, true))) else (some ((([] : List Int)), false)))) = some (r1, r2) := h; clear h; replace H := Option.bind_eq_some_iff.mp H; obtain ⟨t243, A30, H⟩ := H; replace H : (if t243 = true then ((spec_l7Counts.f k l0_0 l0_1 l1).bind fun t244 => (some (t244, true))) else (some ((([] : List Int)), false))) = some (r1, r2) := H; have A3 := Az A30; clear A30
 by_cases c4 : t243 = true
 ·
  subst c4
  have H1 : ((spec_l7Counts.f k l0_0 l0_1 l1).bind fun t244 => (some (t244, true))) = some (r1, r2) := by rw [if_pos rfl] at H; exact H
  clear H; have H := H1; clear H1; replace H := Option.bind_eq_some_iff.mp H; obtain ⟨t244, A50, H⟩ := H; replace H : (some (t244, true)) = some (r1, r2) := H; have A5 := Az A50; clear A50; simp only [Option.some.injEq, Prod.mk.injEq] at H; obtain ⟨rfl, rfl⟩ := H
  go_enter Try.func32, Try.ntmps32
  go_wp2_with (first | ((with_reducible refine gate_dst (N := 2) rfl ?_); refine box_event ?hg (N := 2) ?hd (cs := #[.slice A0_0 l0_0.length c0_0, .slice A0_1 l0_1.length c0_1]) (t := 27) ?hr ?_; (case hd => rfl); (case hg => rfl); (case hr => first | (go_simp; done) | (go_simp; rfl)); intro gb242 hg w6 hbox hb; have n0 := Az (below_step (bU0 HB.out) hb); have n1 := Az (hbox); have n2 := Az ((by rw [hg]; exact (below_size (bU0 HB.out)) : w.heap.size ≤ gb242)); have n3 := n2; clear HB; have HB := n0; have BK242 := n1; have GW242 := n2; have GE242 := n3; clear n0 n1 n2 n3 hb hbox hg; have hcz7_0 : w6.cell? ⟨gb242, 0, none⟩ = some (.slice A0_0 l0_0.length c0_0) := (blk_cell BK242.out 0).trans rfl; have hcz7_1 : w6.cell? ⟨gb242, 1, none⟩ = some (.slice A0_1 l0_1.length c0_1) := (blk_cell BK242.out 1).trans rfl; have hfz7_0 := blk_frozen BK242.out 0; have hfz7_1 := blk_frozen BK242.out 1) | ((with_reducible refine gate_callee (f := 16) rfl ?_); refine goesL_ (some 8) rfl rfl Try.func16 (by kernel_rfl) rfl #[.agg #[.slice A0_0 l0_0.length c0_0, .slice A0_1 l0_1.length c0_1], .slice A1 l1.length c1] rfl (by (try simp only [List.map_toArray, List.map_cons, List.map_nil]); first | done | rfl | (simp only [List.length_drop, List.length_take]; rfl)) ?_; (with_reducible refine (spec_ChoiceValid.calls k _ _ l0_0 _ _ l0_1 _ _ l1 true _ ?side1 ?side2 ?side3 ?side4 ?side5 ?side6 A3.out).mono ?_); (case side1 => exact cU (Kd.C_below HR0_0.out HB.out)); (case side2 => exact HC0_0.out); (case side3 => exact cU (Kd.C_below HR0_1.out HB.out)); (case side4 => exact HC0_1.out); (case side5 => exact cU (Kd.C_below HR1.out HB.out)); (case side6 => exact HC1.out); rintro e w8 ⟨rfl, hb⟩; refine ⟨_, rfl, ?_⟩; have n0 := Az (blk_below (g := gb242) (o := .cells #[.slice A0_0 l0_0.length c0_0, .slice A0_1 l0_1.length c0_1] 27 (0, 0)) (kU BK242.out) hb); have n1 := Az (below_step (bU1 HB.out GE242.out) hb); clear BK242 HB; have BK242 := n0; have HB := n1; clear n0 n1; (try clear hb); (try clear hb2); (try clear hk); (try clear hi); have hcz9_0 : w8.cell? ⟨gb242, 0, none⟩ = some (.slice A0_0 l0_0.length c0_0) := (blk_cell BK242.out 0).trans rfl; have hcz9_1 : w8.cell? ⟨gb242, 1, none⟩ = some (.slice A0_1 l0_1.length c0_1) := (blk_cell BK242.out 1).trans rfl; have hfz9_0 := blk_frozen BK242.out 0; have hfz9_1 := blk_frozen BK242.out 1) | ((with_reducible refine gate_callee (f := 65) rfl ?_); refine goesL_ (some 13) rfl rfl Try.func65 (by kernel_rfl) rfl #[.agg #[.slice A0_0 l0_0.length c0_0, .slice A0_1 l0_1.length c0_1], .slice A1 l1.length c1] rfl (by (try simp only [List.map_toArray, List.map_cons, List.map_nil]); first | done | rfl | (simp only [List.length_drop, List.length_take]; rfl)) ?_; (with_reducible refine (spec_l7Counts.calls k _ _ l0_0 _ _ l0_1 _ _ l1 t244 _ ?side1 ?side2 ?side3 ?side4 ?side5 ?side6 A5.out).mono ?_); (case side1 => exact cU (Kd.C_below HR0_0.out HB.out)); (case side2 => exact HC0_0.out); (case side3 => exact cU (Kd.C_below HR0_1.out HB.out)); (case side4 => exact HC0_1.out); (case side5 => exact cU (Kd.C_below HR1.out HB.out)); (case side6 => exact HC1.out); rintro e w10 ⟨v245, rfl, ho0, hb⟩; refine ⟨_, rfl, ?_⟩; have n0 := Az (Kd.R_lower ho0 (below_size (bU1 HB.out GE242.out))); have n1 := Az (blk_below (g := gb242) (o := .cells #[.slice A0_0 l0_0.length c0_0, .slice A0_1 l0_1.length c0_1] 27 (0, 0)) (kU BK242.out) hb); have n2 := Az (below_step (bU1 HB.out GE242.out) hb); clear BK242 HB; have HO246 := n0; have BK242 := n1; have HB := n2; clear n0 n1 n2; (try clear hb); (try clear hb2); (try clear hk); (try clear hi); (try clear ho0)))
  go_ret2
  exact ⟨_, rE, rU HO246.out, bU1 HB.out GE242.out⟩
 ·
  replace c4 := Bool.eq_false_iff.mpr c4; subst c4
  have H1 : (some ((([] : List Int)), false)) = some (r1, r2) := by rw [if_neg (show ¬ (false = true) by decide)] at H; exact H
  clear H; have H := H1; clear H1; obtain ⟨y247, hy247⟩ : ∃ y_ : List Int, y_ = (([] : List Int)) := ⟨_, rfl⟩; replace H : (some (y247, false)) = some (r1, r2) := hR hy247 H; have Ny247 := Az hy247; clear hy247; simp only [Option.some.injEq, Prod.mk.injEq] at H; obtain ⟨rfl, rfl⟩ := H
  go_enter Try.func32, Try.ntmps32
  go_wp2_with (first | ((with_reducible refine gate_dst (N := 2) rfl ?_); refine box_event ?hg (N := 2) ?hd (cs := #[.slice A0_0 l0_0.length c0_0, .slice A0_1 l0_1.length c0_1]) (t := 27) ?hr ?_; (case hd => rfl); (case hg => rfl); (case hr => first | (go_simp; done) | (go_simp; rfl)); intro gb242 hg w11 hbox hb; have n0 := Az (below_step (bU0 HB.out) hb); have n1 := Az (hbox); have n2 := Az ((by rw [hg]; exact (below_size (bU0 HB.out)) : w.heap.size ≤ gb242)); have n3 := n2; clear HB; have HB := n0; have BK242 := n1; have GW242 := n2; have GE242 := n3; clear n0 n1 n2 n3 hb hbox hg; have hcz12_0 : w11.cell? ⟨gb242, 0, none⟩ = some (.slice A0_0 l0_0.length c0_0) := (blk_cell BK242.out 0).trans rfl; have hcz12_1 : w11.cell? ⟨gb242, 1, none⟩ = some (.slice A0_1 l0_1.length c0_1) := (blk_cell BK242.out 1).trans rfl; have hfz12_0 := blk_frozen BK242.out 0; have hfz12_1 := blk_frozen BK242.out 1) | ((with_reducible refine gate_callee (f := 16) rfl ?_); refine goesL_ (some 8) rfl rfl Try.func16 (by kernel_rfl) rfl #[.agg #[.slice A0_0 l0_0.length c0_0, .slice A0_1 l0_1.length c0_1], .slice A1 l1.length c1] rfl (by (try simp only [List.map_toArray, List.map_cons, List.map_nil]); first | done | rfl | (simp only [List.length_drop, List.length_take]; rfl)) ?_; (with_reducible refine (spec_ChoiceValid.calls k _ _ l0_0 _ _ l0_1 _ _ l1 false _ ?side1 ?side2 ?side3 ?side4 ?side5 ?side6 A3.out).mono ?_); (case side1 => exact cU (Kd.C_below HR0_0.out HB.out)); (case side2 => exact HC0_0.out); (case side3 => exact cU (Kd.C_below HR0_1.out HB.out)); (case side4 => exact HC0_1.out); (case side5 => exact cU (Kd.C_below HR1.out HB.out)); (case side6 => exact HC1.out); rintro e w13 ⟨rfl, hb⟩; refine ⟨_, rfl, ?_⟩; have n0 := Az (blk_below (g := gb242) (o := .cells #[.slice A0_0 l0_0.length c0_0, .slice A0_1 l0_1.length c0_1] 27 (0, 0)) (kU BK242.out) hb); have n1 := Az (below_step (bU1 HB.out GE242.out) hb); clear BK242 HB; have BK242 := n0; have HB := n1; clear n0 n1; (try clear hb); (try clear hb2); (try clear hk); (try clear hi)) | ((with_reducible refine gate_dst (N := 10) rfl ?_); refine Kd.R_lit (Kd.int .i64) _ 3 ?hg (N := 10) ?hd (xs := ([] : List Int)) (inner := []) (ok := fun _ => True) (okp := fun _ => True) ?hr ?hp (fun _ hk => hk) trivial (Below.refl _ _) (Nat.le_refl _) (by simp) ?_; (case hd => rfl); (case hg => rfl); (case hr => first | (go_simp; done) | (go_simp; rfl)); (case hp => exact (Reps.none _ _)); intro v248 w14 ho15 hb hg_ hnew_; clear hg_ hnew_; (first | rw [← Ny247.out] at ho15 | (simp only [Int.reduceToNat] at ho15; rw [← Ny247.out] at ho15)); have n0 := Az (Kd.R_lower ho15 (below_size (bU1 HB.out GE242.out))); have n1 := Az (blk_below (g := gb242) (o := .cells #[.slice A0_0 l0_0.length c0_0, .slice A0_1 l0_1.length c0_1] 27 (0, 0)) (kU BK242.out) hb); have n2 := Az (below_step (bU1 HB.out GE242.out) hb); clear BK242 HB; have HO249 := n0; have BK242 := n1; have HB := n2; clear n0 n1 n2; clear hb ho15))
  go_ret2
  exact ⟨_, rE, rU HO249.out, bU1 HB.out GE242.out⟩
def impl_PermValid.l0 : Nat → List Int → List Bool → Int → Option Bool
 | 0, _, _, _ => none
 | k + 1, l, s, i => if i < (l.length : Int) then (if 0 ≤ i then (if rd l i < 0 then (some false) else (if rd l i ≥ (l.length : Int) then (some false) else (if s.getD (rd l i).toNat false = true then (some false) else (impl_PermValid.l0 k l (s.set (rd l i).toNat true) (wrap64 (i + 1)))))) else none) else (some true)
def impl_PermValid.f (k : Nat) (l0 : List Int) : Option Bool := if (l0.length : Int) < 1 then (some false) else (if (l0.length : Int) > 12 then (some false) else (impl_PermValid.l0 k l0 (List.replicate 12 false) 0))
set_option maxHeartbeats 8000000 in
set_option maxRecDepth 100000 in
theorem impl_PermValid.calls (k : Nat) (A0 : Option Addr) (c0 : Nat) (l0 : List Int) (r : Bool) (w : World) (hr0 : Kd.C (Kd.int .i64) w A0 l0.length l0) (hc0 : l0.length ≤ c0) (h : impl_PermValid.f k l0 = some r) :
  Calls Try.prog 84 #[.slice A0 l0.length c0] w fun e w' => e = .returned (.bool r) ∧ Below w.heap.size w w' := by
 have HR0 := Az hr0; have HC0 := Az hc0; clear hr0 hc0; have HB := Az (Below.refl w.heap.size w); have H : (if (l0.length : Int) < 1 then (some false) else (if (l0.length : Int) > 12 then (some false) else (impl_PermValid.l0 k l0 (List.replicate 12 false) 0))) = some r := h; clear h
 by_cases c3 : (l0.length : Int) < 1
 ·
  rw [if_pos c3] at H; have c3b0 := decide_eq_true c3; clear c3; obtain rfl := Option.some.inj H
  go_enter Try.func84, Try.ntmps84
  go_wp2
  go_ret
  exact ⟨rfl, below_alloc HB.out _⟩
 ·
  rw [if_neg c3] at H; have c3b0 := decide_eq_false c3; clear c3
  by_cases c4 : (l0.length : Int) > 12
  ·
   rw [if_pos c4] at H; have c4b0 := decide_eq_true c4; clear c4; obtain rfl := Option.some.inj H
   go_enter Try.func84, Try.ntmps84
   go_wp2
   go_ret
   exact ⟨rfl, below_alloc HB.out _⟩
  ·
   rw [if_neg c4] at H; have c4b0 := decide_eq_false c4
   have c4p : (l0.length : Int) ≤ 12 := by omega
   clear c4; have H' := Az H; clear H
   go_enter Try.func84, Try.ntmps84
   go_wp2
   go_loopg [17] k (fun kq v17 w' => ∃ (s : List Bool) (i : Int), v17 = .int .i64 i ∧ Aside0 (impl_PermValid.l0 kq l0 s i = some r) ∧ Aside0 (kq ≤ k) ∧ Aside0 (s.length = 12) ∧ Aside0 (w'.heap[w.heap.size]? = some (.cells (s.map Value.bool).toArray 70 (0, 0))) ∧ Aside0 (Below w.heap.size w w'))
   case atStart => exact ⟨List.replicate 12 false, 0, rfl, H', ⟨Nat.le_refl _⟩, ⟨rfl⟩, ⟨by simpa using heap_alloc_new w _⟩, ⟨below_alloc HB.out _⟩⟩
   case round =>
    clear H'; obtain ⟨s, i, rfl, HA, HK1, HL, BK, HB⟩ := hrel
    cases gk with
    | zero => exact absurd HA.out (by simp [impl_PermValid.l0])
    | succ k1 =>
     have H := HA.out; clear HA; simp only [impl_PermValid.l0] at H
     by_cases c5 : i < (l0.length : Int)
     ·
      rw [if_pos c5] at H; have c5b0 := decide_eq_true c5
      by_cases c6 : 0 ≤ i
      ·
       rw [if_pos c6] at H; have c6b0 := decide_eq_true c6; obtain ⟨ad, e, hx⟩ := Kd.at_int HR0.out i c6 c5
       cases e
       replace hx := (HB.out.cell (World.block_lt_of_cell? w _ hx)).trans hx; replace c6 := eq_true c6; replace c5 := eq_true c5
       by_cases c7 : rd l0 i < 0
       ·
        rw [if_pos c7] at H; have c7b0 := decide_eq_true c7; clear c7; obtain rfl := Option.some.inj H
        go_wp2
        go_ret
        exact ⟨rfl, HB.out⟩
       ·
        rw [if_neg c7] at H; have c7b0 := decide_eq_false c7
        have c7p : 0 ≤ rd l0 i := by omega
        clear c7
        by_cases c8 : rd l0 i ≥ (l0.length : Int)
        ·
         rw [if_pos c8] at H; have c8b0 := decide_eq_true c8; clear c8; obtain rfl := Option.some.inj H
         go_wp2
         go_ret
         exact ⟨rfl, HB.out⟩
        ·
         rw [if_neg c8] at H; have c8b0 := decide_eq_false c8
         have c8p : rd l0 i < 12 := by omega
         clear c8; have hcs : wr.cell? ⟨w.heap.size, (rd l0 i).toNat, none⟩ = some (.bool (s.getD (rd l0 i).toNat false)) := (blk_cell BK.out _).trans (by have hl := HL.out; simp [List.getD_eq_getElem?_getD]; rw [List.getElem?_eq_getElem (by omega)]; rfl); have hfs := blk_frozen BK.out (rd l0 i).toNat
         generalize hb : s.getD (rd l0 i).toNat false = b at H hcs
         cases b with
         | true =>
          rw [if_pos rfl] at H; obtain rfl := Option.some.inj H; clear hb
          go_wp2
          go_ret
          exact ⟨rfl, HB.out⟩
         | false =>
          rw [if_neg (by decide)] at H; have H' := Az H; clear H hb
          go_wp2
          (first | go_roundg k1 | (refine Handed.intro k1 ?measure ?_; rotate_left; go_step; (try simp only [add_plain]); (repeat apply Exists.intro); refine ⟨?rel, rfl⟩))
          case measure => have := HK1.out; omega
          case rel => exact ⟨s.set (rd l0 i).toNat true, wrap64 (i + 1), rS, H', ⟨by have := HK1.out; omega⟩, ⟨by rw [List.length_set]; exact HL.out⟩, ⟨by simpa using blk_set BK.out (rd l0 i).toNat (.bool true)⟩, ⟨below_set HB.out (Nat.le_refl _)⟩⟩
      ·
       rw [if_neg c6] at H
       exact absurd H (by simp)
     ·
      rw [if_neg c5] at H; have c5b0 := decide_eq_false c5; clear c5; obtain rfl := Option.some.inj H
      go_wp2
      go_ret
      exact ⟨rfl, HB.out⟩
def slices_Max_int_int.l0 : Nat → List Int → Int → Int → Option (Int)
 | 0, _, _, _ => none
 | k + 1, x0, x3, x4 => if x4 < (x0.length : Int) then (if 0 ≤ x4 then (slices_Max_int_int.l0 k x0 (mx x3 (rd x0 x4)) (wrap64 (x4 + 1))) else (none)) else (some x3)
def slices_Max_int_int.f (k : Nat) (l0 : List Int) : Option (Int) := if (l0.length : Int) < 1 then (none) else (if 0 < (l0.length : Int) then (slices_Max_int_int.l0 k l0 (rd l0 0) 1) else (none))
set_option maxHeartbeats 8000000 in
set_option maxRecDepth 100000 in
theorem slices_Max_int_int.calls (k : Nat) (A0 : Option Addr) (c0 : Nat) (l0 : List Int) (r : Int) (w : World) (hr0 : Kd.C (Kd.int .i64) w A0 l0.length l0) (hc0 : l0.length ≤ c0) (h : slices_Max_int_int.f k l0 = some r) :
  Calls Try.prog 85 #[.slice A0 l0.length c0] w fun e w' => e = .returned (.int .i64 r) ∧ Below w.heap.size w w' := by
 have HR0 := Az hr0; have HC0 := Az hc0; clear hr0 hc0; have HB := Az (Below.refl w.heap.size w); have H : (if (l0.length : Int) < 1 then (none) else (if 0 < (l0.length : Int) then (slices_Max_int_int.l0 k l0 (rd l0 0) 1) else (none))) = some r := h; clear h
 by_cases c2 : (l0.length : Int) < 1
 ·
  rw [if_pos c2] at H
  exact absurd H (by simp)
 ·
  rw [if_neg c2] at H; have c2b0 := decide_eq_false c2; have c2b1 : decide (l0.length < 1) = false := decide_eq_false (by omega); clear c2
  by_cases c3 : 0 < (l0.length : Int)
  ·
   rw [if_pos c3] at H; have c3b0 := decide_eq_true c3; have c3b1 : decide (0 < l0.length) = true := decide_eq_true (by omega); clear c3; have H' := Az H; clear H; have p257 : 0 ≤ (0 : Int) := (by omega); have q257 : 0 < (l0.length : Int) := oA; obtain ⟨ad257, e257, hx257_0⟩ := Kd.at_int HR0.out 0 p257 q257
   cases e257
   have qi257 : (0 < l0.length) = True := eq_true (by omega); (try rw [show ((0 : Int)).toNat = 0 from rfl] at hx257_0); (try rw [Addr.add_zero'] at hx257_0); replace p257 := eq_true p257; replace q257 := eq_true q257
   go_enter Try.func85, Try.ntmps85
   go_wp2
   go_loopg [3, 4] k (fun kq v3 v4 w' => ∃ (x3_1 : Int) (x4_1 : Int), v3 = .int .i64 x3_1 ∧ v4 = .int .i64 x4_1 ∧ Aside0 (slices_Max_int_int.l0 kq l0 x3_1 x4_1 = some r) ∧ Aside0 (kq ≤ k) ∧ Aside0 (Below w.heap.size w w'))
   case atStart => exact ⟨(rd l0 0), (1), rS, rS, H', ⟨Nat.le_refl _⟩, ⟨bU0 HB.out⟩⟩
   case round =>
    clear H'; (try clear c2); (try clear c2b0); (try clear c2b1); (try clear p2); (try clear q2); (try clear hx2); (try clear qi2); (try clear c3); (try clear c3b0); (try clear c3b1); (try clear hx257_0); (try clear p257); (try clear q257); obtain ⟨x3_1, x4_1, rfl, rfl, HA, HK1, HB⟩ := hrel
    cases gk with
    | zero => exact absurd HA.out (by simp [slices_Max_int_int.l0])
    | succ k1 =>
     have H := HA.out; clear HA; simp only [slices_Max_int_int.l0] at H
     by_cases c4 : x4_1 < (l0.length : Int)
     ·
      rw [if_pos c4] at H; have c4b0 := decide_eq_true c4; clear c4
      by_cases c5 : 0 ≤ x4_1
      ·
       rw [if_pos c5] at H; have c5b0 := decide_eq_true c5; clear c5; obtain ⟨ji6, hji6⟩ : ∃ j_ : Int, (mx x3_1 (rd l0 x4_1)) = j_ := ⟨_, rfl⟩
       replace H : (slices_Max_int_int.l0 k1 l0 ji6 (wrap64 (x4_1 + 1))) = some r := by first | (rw [hji6] at H; exact H) | (simp only [hji6] at H ⊢; exact H)
       have hji6_ : (if x3_1 < (rd l0 x4_1) then (rd l0 x4_1) else x3_1) = ji6 := hji6; have H' := Az H; clear H; have p258 : 0 ≤ (x4_1 : Int) := oA; have q258 : x4_1 < (l0.length : Int) := oA; obtain ⟨ad258, e258, hx258_0⟩ := Kd.at_int HR0.out x4_1 p258 q258; obtain rfl : ad257 = ad258 := (by injection e258); (try replace hx258_0 := (HB.out.cell (World.block_lt_of_cell? w _ hx258_0)).trans hx258_0); replace p258 := eq_true p258; replace q258 := eq_true q258
       go_wp2
       (first | go_roundg k1 | (refine Handed.intro k1 ?measure ?_; rotate_left; go_step; (try simp only [add_plain]); (repeat apply Exists.intro); refine ⟨?rel, rfl⟩))
       case measure => have := HK1.out; omega
       case rel => exact ⟨(ji6), (wrap64 (x4_1 + 1)), (by first | rfl | (simp; done) | (simp only [← hji6] <;> (first | rfl | simp)) | (simp [*]; done)), rS, H', ⟨by have := HK1.out; omega⟩, ⟨bU0 HB.out⟩⟩
      ·
       rw [if_neg c5] at H
       exact absurd H (by simp)
     ·
      rw [if_neg c4] at H; have c4b0 := decide_eq_false c4; clear c4; obtain rfl := Option.some.inj H
      go_wp2
      go_ret
      exact ⟨rE, bU0 HB.out⟩
  ·
   rw [if_neg c3] at H
   exact absurd H (by simp)
def impl_still.l0 : Nat → List Int → Int → Int → Option (List Int)
 | 0, _, _, _ => none
 | k + 1, x3, x8, x9 => if x9 < x8 then (if 0 ≤ x9 then (if x9 < (x3.length : Int) then (impl_still.l0 k (x3.set (x9 : Int).toNat x9) x8 (wrap64 (x9 + 1))) else (none)) else (none)) else (some x3)
def impl_still.f (k : Nat) (a0 : Int) : Option (List Int) := if 0 ≤ a0 then (if (a0 : Int).toNat ≤ 35184372088832 then ((some (List.replicate (a0 : Int).toNat 0 : List Int)).bind fun y259 => (impl_still.l0 k y259 (y259.length : Int) 0)) else (none)) else (none)
set_option maxHeartbeats 8000000 in
set_option maxRecDepth 100000 in
theorem impl_still.calls (k : Nat) (a0 : Int) (r : List Int) (w : World) (h : impl_still.f k a0 = some r) :
  Calls Try.prog 90 #[.int .i64 a0] w fun e w' => ∃ v0_ : Value, e = .returned (v0_) ∧ Kd.R (Kd.int .i64) 3 w' w.heap.size (fun _ => True) v0_ r ∧ Below w.heap.size w w' := by
 have HB := Az (Below.refl w.heap.size w); have H : (if 0 ≤ a0 then (if (a0 : Int).toNat ≤ 35184372088832 then ((some (List.replicate (a0 : Int).toNat 0 : List Int)).bind fun y259 => (impl_still.l0 k y259 (y259.length : Int) 0)) else (none)) else (none)) = some r := h; clear h
 by_cases c2 : 0 ≤ a0
 ·
  rw [if_pos c2] at H; have c2b0 := eq_true c2; have c2b1 := decide_eq_true c2; clear c2
  by_cases c3 : (a0 : Int).toNat ≤ 35184372088832
  ·
   rw [if_pos c3] at H; have c3b0 := eq_true c3; have c3b1 := decide_eq_true c3; clear c3; obtain ⟨y259, hy259⟩ : ∃ y_ : List Int, y_ = (List.replicate (a0 : Int).toNat 0) := ⟨_, rfl⟩; replace H : (impl_still.l0 k y259 (y259.length : Int) 0) = some r := hR hy259 H; have Ny259 := Az hy259; clear hy259; have H' := Az H; clear H
   go_enter Try.func90, Try.ntmps90
   go_wp2_with (first | ((with_reducible refine gate_dst (N := 6) rfl ?_); refine Kd.R_make (Kd.int .i64) _ 3 rfl (N := 6) rfl 22 _ _ rfl a0 rfl rfl Try.underlying22 (.int .i64 0) 8 info3 rfl (by decide) (by omega) 0 (ok := fun _ => True) (okp := fun _ => True) rfl (fun _ hk => hk) trivial (oA) (Nat.le_trans (Nat.mul_le_mul_right _ (oA : a0.toNat ≤ 35184372088832)) (by omega)) (Below.refl _ _) (Nat.le_refl _) ?_; intro v260 w4 ho5 hb hg_ hnew_; clear hg_ hnew_; (first | rw [← Ny259.out] at ho5 | (simp only [Int.reduceToNat] at ho5; rw [← Ny259.out] at ho5)); have n0 := Az (Kd.R_lower ho5 (below_size (bU0 HB.out))); have n1 := Az (below_step (bU0 HB.out) hb); clear HB; have HO261 := n0; have HB := n1; clear n0 n1 hb ho5; obtain ⟨Ao6, co6, eo6⟩ := Kd.R_slice HO261.out; subst eo6))
   go_loopg [9] k (fun kq v9 w' => ∃ (x3_1 : List Int) (x9_1 : Int), v9 = .int .i64 x9_1 ∧ Aside0 (impl_still.l0 kq x3_1 (y259.length : Int) x9_1 = some r) ∧ Aside0 (kq ≤ k) ∧ Aside0 (Kd.R (Kd.int .i64) 3 w' w.heap.size (fun _ => True) (.slice Ao6 y259.length co6) x3_1) ∧ Aside0 (Below w.heap.size w w'))
   case atStart => exact ⟨(y259), (0), rS, H', ⟨Nat.le_refl _⟩, ⟨rU HO261.out⟩, ⟨bU0 HB.out⟩⟩
   case round =>
    clear H'; (try clear c2); (try clear c2b0); (try clear c2b1); (try clear p2); (try clear c3); (try clear c3b0); (try clear c3b1); obtain ⟨x3_1, x9_1, rfl, HA, HK1, HO_3, HB⟩ := hrel; have hl3_1 := (Kd.R_reads' HO_3.out).1; rw [hl3_1] at HO_3; (try simp only [hl3_1])
    cases gk with
    | zero => exact absurd HA.out (by simp [impl_still.l0])
    | succ k1 =>
     have H := HA.out; clear HA; simp only [impl_still.l0] at H
     by_cases c7 : x9_1 < (y259.length : Int)
     ·
      rw [if_pos c7] at H; have c7b0 := decide_eq_true c7; (try (have c7b0hl3_1 := c7b0; rw [hl3_1] at c7b0hl3_1)); clear c7
      by_cases c8 : 0 ≤ x9_1
      ·
       rw [if_pos c8] at H; have c8b0 := decide_eq_true c8; clear c8
       by_cases c9 : x9_1 < (x3_1.length : Int)
       ·
        rw [if_pos c9] at H; have c9b0 := decide_eq_true c9; (try (have c9b0hl3_1 := c9b0; rw [hl3_1] at c9b0hl3_1)); clear c9; obtain ⟨y262, hy262⟩ : ∃ y_ : List Int, y_ = (x3_1.set (x9_1 : Int).toNat x9_1) := ⟨_, rfl⟩; replace H : (impl_still.l0 k1 y262 (y259.length : Int) (wrap64 (x9_1 + 1))) = some r := hR hy262 H; have Ny262 := Az hy262; clear hy262; have H' := Az H; clear H; have p10 : 0 ≤ (x9_1 : Int) := oA; have q10 : (x9_1 : Int) < ((x3_1.length : Int) : Int) := oA; obtain ⟨go10, co10, eo10, gb10, gl10, cl10, HG10⟩ := Kd.R_form HO_3.out (by omega); (first | cases eo10 | (injection eo10 with ea_ en_ ec_; (first | subst ea_ | (injection ea_ with ea_; subst ea_)); subst ec_; clear en_)); have GB10 := Az gb10; have GG10 := Az HG10; clear gb10 gl10 HG10; obtain ⟨hx10_0, hf10_0⟩ := Kd.R_celln 0 HO_3.out (x9_1 : Int) p10 q10; replace p10 := eq_true p10; replace q10 := eq_true q10; obtain ⟨hy11_, hz11_⟩ := Kd.R_celln 0 HO_3.out (x9_1 : Int) (oA) (oA); have HP11 := Kd.R_putg HO_3.out (x9_1 : Int) x9_1
        go_wp2_with (first | ((with_reducible refine gate_store (t := 3) (p := 15) rfl ?_); refine store_event (t := 3) (p := 15) (v := ?vo_w12) (w1 := (wr.setCell ⟨go10, (x9_1 : Int).toNat, none⟩ (.int .i64 x9_1))) ?hg ?ho ?hn ?hr ?_; (case ho => rfl); (case hg => rfl); (case hn => rfl); (case hr => first | (go_simp; done) | (go_simp; rfl)); intro w12 hw; have hg : wr.grownBy w12 (some go10) := (by rw [hw]; exact HP11.2); have hp_ : Kd.R (Kd.int .i64) 3 w12 w.heap.size (fun _ => True) (.slice (some ⟨go10, 0, none⟩) x3_1.length co6) y262 := (by rw [hw, Ny262.out]; exact HP11.1); clear HP11; have n0 := Az (hp_); have n1 := Az ((by rw [hw]; exact below_set (HB.out) GB10.out : Below w.heap.size w w12)); clear HO_3 HB; have HO_3 := n0; have HB := n1; clear n0 n1; clear hg hw hp_))
        (try simp only [← hl3_1]); (first | go_roundg k1 | (refine Handed.intro k1 ?measure ?_; rotate_left; go_step; (try simp only [add_plain]); (repeat apply Exists.intro); refine ⟨?rel, rfl⟩))
        case measure => have := HK1.out; omega
        case rel => exact ⟨(y262), (wrap64 (x9_1 + 1)), rS, H', ⟨by have := HK1.out; omega⟩, ⟨by (try simp only [hl3_1]); (with_reducible repeat (first | apply Kd.R_alloc | apply Kd.R_drewN | apply Kd.R_drew)); exact HO_3.out⟩, ⟨bU0 HB.out⟩⟩
       ·
        rw [if_neg c9] at H
        exact absurd H (by simp)
      ·
       rw [if_neg c8] at H
       exact absurd H (by simp)
     ·
      rw [if_neg c7] at H; have c7b0 := decide_eq_false c7; (try (have c7b0hl3_1 := c7b0; rw [hl3_1] at c7b0hl3_1)); clear c7; obtain rfl := Option.some.inj H
      go_wp2
      go_ret
      exact ⟨_, rE, rU HO_3.out, bU0 HB.out⟩
  ·
   rw [if_neg c3] at H
   exact absurd H (by simp)
 ·
  rw [if_neg c2] at H
  exact absurd H (by simp)
mutual
def impl_orbits.l0 : Nat → List (List Int) → List Int → Bool → Option (List Int)
 | 0, _, _, _ => none
 | k + 1, x0, x3, x4 => if x4 = true then (impl_orbits.l1 k x0 x3 false x0 (x0.length : Int) 0) else (some x3)
def impl_orbits.l1 : Nat → List (List Int) → List Int → Bool → List (List Int) → Int → Int → Option (List Int)
 | 0, _, _, _, _, _, _ => none
 | k + 1, x0, x3, x4, x16, x17, x18 => if x18 < x17 then (if 0 ≤ x18 then (if x18 < (x16.length : Int) then (impl_orbits.l2 k x0 x3 x4 x16 x17 x18 (rd_L1 x16 x18) ((rd_L1 x16 x18).length : Int) 0) else (none)) else (none)) else (impl_orbits.l0 k x0 x3 x4)
def impl_orbits.l2 : Nat → List (List Int) → List Int → Bool → List (List Int) → Int → Int → List Int → Int → Int → Option (List Int)
 | 0, _, _, _, _, _, _, _, _, _ => none
 | k + 1, x0, x3, x4, x16, x17, x18, x22, x23, x24 => if x24 < x23 then (if 0 ≤ x24 then (if x24 < (x22.length : Int) then (if x24 < (x3.length : Int) then (if 0 ≤ (rd x22 x24) then (if (rd x22 x24) < (x3.length : Int) then (if (rd x3 x24) = (mn (rd x3 x24) (rd x3 (rd x22 x24))) then (if (rd x3 (rd x22 x24)) = (mn (rd x3 x24) (rd x3 (rd x22 x24))) then (impl_orbits.l2 k x0 x3 x4 x16 x17 x18 x22 x23 (wrap64 (x24 + 1))) else (impl_orbits.l2 k x0 ((x3.set (x24 : Int).toNat (mn (rd x3 x24) (rd x3 (rd x22 x24)))).set ((rd x22 x24) : Int).toNat (mn (rd x3 x24) (rd x3 (rd x22 x24)))) true x16 x17 x18 x22 x23 (wrap64 (x24 + 1)))) else (impl_orbits.l2 k x0 ((x3.set (x24 : Int).toNat (mn (rd x3 x24) (rd x3 (rd x22 x24)))).set ((rd x22 x24) : Int).toNat (mn (rd x3 x24) (rd x3 (rd x22 x24)))) true x16 x17 x18 x22 x23 (wrap64 (x24 + 1)))) else (none)) else (none)) else (none)) else (none)) else (none)) else (impl_orbits.l1 k x0 x3 x4 x16 x17 (wrap64 (x18 + 1)))
end
def impl_orbits.f (k : Nat) (l0 : List (List Int)) : Option (List Int) := if 0 < (l0.length : Int) then ((impl_still.f k ((rd_L1 l0 0).length : Int)).bind fun t264 => (impl_orbits.l0 k l0 t264 true)) else (none)
set_option maxHeartbeats 8000000 in
set_option maxRecDepth 100000 in
theorem impl_orbits.calls (k : Nat) (A0 : Option Addr) (c0 : Nat) (l0 : List (List Int)) (r : List Int) (w : World) (hr0 : Kd.C (Kd.slice 3 (Kd.int .i64)) w A0 l0.length l0) (hc0 : l0.length ≤ c0) (h : impl_orbits.f k l0 = some r) :
  Calls Try.prog 86 #[.slice A0 l0.length c0] w fun e w' => ∃ v0_ : Value, e = .returned (v0_) ∧ Kd.R (Kd.int .i64) 3 w' w.heap.size (fun _ => True) v0_ r ∧ Below w.heap.size w w' := by
 have HR0 := Az hr0; have HC0 := Az hc0; clear hr0 hc0; have HB := Az (Below.refl w.heap.size w); have H : (if 0 < (l0.length : Int) then ((impl_still.f k ((rd_L1 l0 0).length : Int)).bind fun t264 => (impl_orbits.l0 k l0 t264 true)) else (none)) = some r := h; clear h
 by_cases c2 : 0 < (l0.length : Int)
 ·
  rw [if_pos c2] at H; have c2b0 := decide_eq_true c2; have c2b1 : decide (0 < l0.length) = true := decide_eq_true (by omega); clear c2; replace H := Option.bind_eq_some_iff.mp H; obtain ⟨t264, A30, H⟩ := H; replace H : (impl_orbits.l0 k l0 t264 true) = some r := H; have A3 := Az A30; clear A30; have H' := Az H; clear H; have p263 : 0 ≤ (0 : Int) := (by omega); have q263 : 0 < (l0.length : Int) := oA; obtain ⟨ad263, A263_0, c263_0, e263, hx263_0, hl263_0, hi263_0⟩ := at_L1 HR0.out 0 p263 q263
  cases e263
  have qi263 : (0 < l0.length) = True := eq_true (by omega); (try rw [show ((0 : Int)).toNat = 0 from rfl] at hx263_0); (try rw [Addr.add_zero'] at hx263_0); have HR263_0 := Az hi263_0; have HC263_0 := Az hl263_0; clear hi263_0 hl263_0; replace p263 := eq_true p263; replace q263 := eq_true q263
  go_enter Try.func86, Try.ntmps86
  go_wp2_with (first | (go_at_call 90; (with_reducible refine (impl_still.calls k ((rd_L1 l0 0).length : Int) t264 _ A3.out).mono ?_); rintro e w4 ⟨v265, rfl, ho0, hb⟩; have n0 := Az (Kd.R_lower ho0 (below_size (bU0 HB.out))); have n1 := Az (below_step (bU0 HB.out) hb); clear HB; have HO266 := n0; have HB := n1; clear n0 n1; (try clear hb); (try clear hb2); (try clear hk); (try clear hi); (try clear ho0)))
  repeat (go_quiet (fail); try go_wp2_with (fail))
  go_loopg [4] k (fun kq v4 w' => ∃ (x3_1 : List Int) (x4_1 : Bool), v4 = .bool x4_1 ∧ Aside0 (impl_orbits.l0 kq l0 x3_1 x4_1 = some r) ∧ Aside0 (kq ≤ k) ∧ Aside0 (Kd.R (Kd.int .i64) 3 w' w.heap.size (fun _ => True) v265 x3_1) ∧ Aside0 (Below w.heap.size w w'))
  case atStart => exact ⟨(t264), (true), rS, H', ⟨Nat.le_refl _⟩, ⟨rU HO266.out⟩, ⟨bU0 HB.out⟩⟩
  case round =>
   clear H'; (try clear c2); (try clear c2b0); (try clear c2b1); (try clear p2); (try clear q2); (try clear hx2); (try clear qi2); (try clear hx263_0); (try clear p263); (try clear q263); obtain ⟨x3_1, x4_1, rfl, HA, HK1, HO_3, HB⟩ := hrel
   cases gk with
   | zero => exact absurd HA.out (by simp [impl_orbits.l0])
   | succ k1 =>
    have H := HA.out; clear HA; simp only [impl_orbits.l0] at H
    by_cases c5 : x4_1 = true
    ·
     subst c5
     have H1 : (impl_orbits.l1 k1 l0 x3_1 false l0 (l0.length : Int) 0) = some r := by rw [if_pos rfl] at H; exact H
     clear H; have H := H1; clear H1; have H' := Az H; clear H
     go_wp2
     repeat (go_quiet (fail); try go_wp2)
     go_loopg [4, 18] k1 (fun kq v4 v18 w' => ∃ (x3_2 : List Int) (x4_2 : Bool) (x18_2 : Int), v4 = .bool x4_2 ∧ v18 = .int .i64 x18_2 ∧ Aside0 (impl_orbits.l1 kq l0 x3_2 x4_2 l0 (l0.length : Int) x18_2 = some r) ∧ Aside0 (kq ≤ k1) ∧ Aside0 (Kd.R (Kd.int .i64) 3 w' w.heap.size (fun _ => True) v265 x3_2) ∧ Aside0 (Below w.heap.size w w'))
     case atStart => exact ⟨(x3_1), (false), (0), rS, rS, H', ⟨Nat.le_refl _⟩, ⟨rU HO_3.out⟩, ⟨bU0 HB.out⟩⟩
     case round =>
      clear H'; (try clear c2); (try clear c2b0); (try clear c2b1); (try clear p2); (try clear q2); (try clear hx2); (try clear qi2); (try clear c5); (try clear hx263_0); (try clear p2); (try clear p263); (try clear q2); (try clear q263); obtain ⟨x3_2, x4_2, x18_2, rfl, rfl, HA, HK2, HO_3, HB⟩ := hrel
      cases gk with
      | zero => exact absurd HA.out (by simp [impl_orbits.l1])
      | succ k2 =>
       have H := HA.out; clear HA; simp only [impl_orbits.l1] at H
       by_cases c6 : x18_2 < (l0.length : Int)
       ·
        rw [if_pos c6] at H; have c6b0 := decide_eq_true c6; clear c6
        by_cases c7 : 0 ≤ x18_2
        ·
         rw [if_pos c7] at H; have c7b0 := decide_eq_true c7; clear c7
         by_cases c8 : x18_2 < (l0.length : Int)
         ·
          rw [if_pos c8] at H; have c8b0 := decide_eq_true c8; clear c8; have H' := Az H; clear H; have p267 : 0 ≤ (x18_2 : Int) := oA; have q267 : x18_2 < (l0.length : Int) := oA; obtain ⟨ad267, A267_0, c267_0, e267, hx267_0, hl267_0, hi267_0⟩ := at_L1 HR0.out x18_2 p267 q267; obtain rfl : ad263 = ad267 := (by injection e267); (try replace hx267_0 := (HB.out.cell (World.block_lt_of_cell? w _ hx267_0)).trans hx267_0); have HR267_0 := Az hi267_0; have HC267_0 := Az hl267_0; clear hi267_0 hl267_0; replace p267 := eq_true p267; replace q267 := eq_true q267
          go_wp2
          repeat (go_quiet (fail); try go_wp2)
          go_loopg [4, 24] k2 (fun kq v4 v24 w' => ∃ (x3_3 : List Int) (x4_3 : Bool) (x24_3 : Int), v4 = .bool x4_3 ∧ v24 = .int .i64 x24_3 ∧ Aside0 (impl_orbits.l2 kq l0 x3_3 x4_3 l0 (l0.length : Int) x18_2 (rd_L1 l0 x18_2) ((rd_L1 l0 x18_2).length : Int) x24_3 = some r) ∧ Aside0 (kq ≤ k2) ∧ Aside0 (Kd.R (Kd.int .i64) 3 w' w.heap.size (fun _ => True) v265 x3_3) ∧ Aside0 (Below w.heap.size w w'))
          case atStart => exact ⟨(x3_2), (x4_2), (0), rS, rS, H', ⟨Nat.le_refl _⟩, ⟨rU HO_3.out⟩, ⟨bU0 HB.out⟩⟩
          case round =>
           clear H'; (try clear c2); (try clear c2b0); (try clear c2b1); (try clear p2); (try clear q2); (try clear hx2); (try clear qi2); (try clear c5); (try clear c6); (try clear c6b0); (try clear c7); (try clear c7b0); (try clear c8); (try clear c8b0); (try clear hx263_0); (try clear hx267_0); (try clear p2); (try clear p263); (try clear p267); (try clear q2); (try clear q263); (try clear q267); obtain ⟨x3_3, x4_3, x24_3, rfl, rfl, HA, HK3, HO_3, HB⟩ := hrel
           cases gk with
           | zero => exact absurd HA.out (by simp [impl_orbits.l2])
           | succ k3 =>
            have H := HA.out; clear HA; simp only [impl_orbits.l2] at H
            by_cases c9 : x24_3 < ((rd_L1 l0 x18_2).length : Int)
            ·
             rw [if_pos c9] at H; have c9b0 := decide_eq_true c9; clear c9
             by_cases c10 : 0 ≤ x24_3
             ·
              rw [if_pos c10] at H; have c10b0 := decide_eq_true c10; clear c10
              by_cases c11 : x24_3 < ((rd_L1 l0 x18_2).length : Int)
              ·
               rw [if_pos c11] at H; have c11b0 := decide_eq_true c11; clear c11
               by_cases c12 : x24_3 < (x3_3.length : Int)
               ·
                rw [if_pos c12] at H; have c12b0 := decide_eq_true c12; clear c12
                by_cases c13 : 0 ≤ (rd (rd_L1 l0 x18_2) x24_3)
                ·
                 rw [if_pos c13] at H; have c13b0 := decide_eq_true c13; clear c13
                 by_cases c14 : (rd (rd_L1 l0 x18_2) x24_3) < (x3_3.length : Int)
                 ·
                  rw [if_pos c14] at H; have c14b0 := decide_eq_true c14; clear c14; obtain ⟨ji15, hji15⟩ : ∃ j_ : Int, (mn (rd x3_3 x24_3) (rd x3_3 (rd (rd_L1 l0 x18_2) x24_3))) = j_ := ⟨_, rfl⟩
                  replace H : (if (rd x3_3 x24_3) = (ji15) then (if (rd x3_3 (rd (rd_L1 l0 x18_2) x24_3)) = (ji15) then (impl_orbits.l2 k3 l0 x3_3 x4_3 l0 (l0.length : Int) x18_2 (rd_L1 l0 x18_2) ((rd_L1 l0 x18_2).length : Int) (wrap64 (x24_3 + 1))) else (impl_orbits.l2 k3 l0 ((x3_3.set (x24_3 : Int).toNat (ji15)).set ((rd (rd_L1 l0 x18_2) x24_3) : Int).toNat (ji15)) true l0 (l0.length : Int) x18_2 (rd_L1 l0 x18_2) ((rd_L1 l0 x18_2).length : Int) (wrap64 (x24_3 + 1)))) else (impl_orbits.l2 k3 l0 ((x3_3.set (x24_3 : Int).toNat (ji15)).set ((rd (rd_L1 l0 x18_2) x24_3) : Int).toNat (ji15)) true l0 (l0.length : Int) x18_2 (rd_L1 l0 x18_2) ((rd_L1 l0 x18_2).length : Int) (wrap64 (x24_3 + 1)))) = some r := by first | (rw [hji15] at H; exact H) | (simp only [hji15] at H ⊢; exact H)
                  have hji15_ : (if (rd x3_3 (rd (rd_L1 l0 x18_2) x24_3)) < (rd x3_3 x24_3) then (rd x3_3 (rd (rd_L1 l0 x18_2) x24_3)) else (rd x3_3 x24_3)) = ji15 := hji15
                  by_cases c16 : (rd x3_3 x24_3) = (ji15)
                  ·
                   rw [if_pos c16] at H; have c16b0 := beq_iff_eq.mpr c16; have c16b1 := bne_eq_false_iff_eq.mpr c16; clear c16
                   by_cases c17 : (rd x3_3 (rd (rd_L1 l0 x18_2) x24_3)) = (ji15)
                   ·
                    rw [if_pos c17] at H; have c17b0 := beq_iff_eq.mpr c17; have c17b1 := bne_eq_false_iff_eq.mpr c17; clear c17; have H' := Az H; clear H; have p268 : 0 ≤ (x24_3 : Int) := oA; have q268 : x24_3 < ((rd_L1 l0 x18_2).length : Int) := oA; obtain ⟨ad268, e268, hx268_0⟩ := Kd.at_int HR267_0.out x24_3 p268 q268
                    cases e268
                    (try replace hx268_0 := (HB.out.cell (World.block_lt_of_cell? w _ hx268_0)).trans hx268_0); replace p268 := eq_true p268; replace q268 := eq_true q268; obtain ⟨Ao18, co18, eo18⟩ := Kd.R_slice HO_3.out; subst eo18; have p269 : 0 ≤ (x24_3 : Int) := oA; have q269 : x24_3 < (x3_3.length : Int) := oA; obtain ⟨ad269, e269, hx269_0⟩ := Kd.at_int (Kd.R_reads' HO_3.out).2.2 x24_3 p269 q269
                    cases e269
                    replace p269 := eq_true p269; replace q269 := eq_true q269; have p270 : 0 ≤ ((rd (rd_L1 l0 x18_2) x24_3) : Int) := oA; have q270 : (rd (rd_L1 l0 x18_2) x24_3) < (x3_3.length : Int) := oA; obtain ⟨ad270, e270, hx270_0⟩ := Kd.at_int (Kd.R_reads' HO_3.out).2.2 (rd (rd_L1 l0 x18_2) x24_3) p270 q270; obtain rfl : ad269 = ad270 := (by injection e270); replace p270 := eq_true p270; replace q270 := eq_true q270; have p271 : 0 ≤ (x24_3 : Int) := oA; have q271 : x24_3 < (x3_3.length : Int) := oA; obtain ⟨ad271, e271, hx271_0⟩ := Kd.at_int (Kd.R_reads' HO_3.out).2.2 x24_3 p271 q271; obtain rfl : ad269 = ad271 := (by injection e271); replace p271 := eq_true p271; replace q271 := eq_true q271; have p272 : 0 ≤ ((rd (rd_L1 l0 x18_2) x24_3) : Int) := oA; have q272 : (rd (rd_L1 l0 x18_2) x24_3) < (x3_3.length : Int) := oA; obtain ⟨ad272, e272, hx272_0⟩ := Kd.at_int (Kd.R_reads' HO_3.out).2.2 (rd (rd_L1 l0 x18_2) x24_3) p272 q272; obtain rfl : ad269 = ad272 := (by injection e272); replace p272 := eq_true p272; replace q272 := eq_true q272
                    go_wp2
                    repeat (go_quiet (fail); try go_wp2)
                    (first | go_roundg k3 | (refine Handed.intro k3 ?measure ?_; rotate_left; go_step; (try simp only [add_plain]); (repeat apply Exists.intro); refine ⟨?rel, rfl⟩))
                    case measure => have := HK1.out; have := HK2.out; have := HK3.out; omega
                    case rel => exact ⟨(x3_3), (x4_3), (wrap64 (x24_3 + 1)), rS, rS, H', ⟨by have := HK1.out; have := HK2.out; have := HK3.out; omega⟩, ⟨rU HO_3.out⟩, ⟨bU0 HB.out⟩⟩
                   ·
                    rw [if_neg c17] at H; have c17b0 := beq_eq_false_iff_ne.mpr c17; have c17b1 := bne_iff_ne.mpr c17; clear c17; obtain ⟨y273, hy273⟩ : ∃ y_ : List Int, y_ = (x3_3.set (x24_3 : Int).toNat (ji15)) := ⟨_, rfl⟩; replace H : (impl_orbits.l2 k3 l0 (y273.set ((rd (rd_L1 l0 x18_2) x24_3) : Int).toNat (ji15)) true l0 (l0.length : Int) x18_2 (rd_L1 l0 x18_2) ((rd_L1 l0 x18_2).length : Int) (wrap64 (x24_3 + 1))) = some r := hR hy273 H; have Ny273 := Az hy273; clear hy273; obtain ⟨y274, hy274⟩ : ∃ y_ : List Int, y_ = (y273.set ((rd (rd_L1 l0 x18_2) x24_3) : Int).toNat (ji15)) := ⟨_, rfl⟩; replace H : (impl_orbits.l2 k3 l0 y274 true l0 (l0.length : Int) x18_2 (rd_L1 l0 x18_2) ((rd_L1 l0 x18_2).length : Int) (wrap64 (x24_3 + 1))) = some r := hR hy274 H; have Ny274 := Az hy274; clear hy274; have H' := Az H; clear H; have p268 : 0 ≤ (x24_3 : Int) := oA; have q268 : x24_3 < ((rd_L1 l0 x18_2).length : Int) := oA; obtain ⟨ad268, e268, hx268_0⟩ := Kd.at_int HR267_0.out x24_3 p268 q268
                    cases e268
                    (try replace hx268_0 := (HB.out.cell (World.block_lt_of_cell? w _ hx268_0)).trans hx268_0); replace p268 := eq_true p268; replace q268 := eq_true q268; obtain ⟨Ao21, co21, eo21⟩ := Kd.R_slice HO_3.out; subst eo21; have p269 : 0 ≤ (x24_3 : Int) := oA; have q269 : x24_3 < (x3_3.length : Int) := oA; obtain ⟨ad269, e269, hx269_0⟩ := Kd.at_int (Kd.R_reads' HO_3.out).2.2 x24_3 p269 q269
                    cases e269
                    replace p269 := eq_true p269; replace q269 := eq_true q269; have p270 : 0 ≤ ((rd (rd_L1 l0 x18_2) x24_3) : Int) := oA; have q270 : (rd (rd_L1 l0 x18_2) x24_3) < (x3_3.length : Int) := oA; obtain ⟨ad270, e270, hx270_0⟩ := Kd.at_int (Kd.R_reads' HO_3.out).2.2 (rd (rd_L1 l0 x18_2) x24_3) p270 q270; obtain rfl : ad269 = ad270 := (by injection e270); replace p270 := eq_true p270; replace q270 := eq_true q270; have p271 : 0 ≤ (x24_3 : Int) := oA; have q271 : x24_3 < (x3_3.length : Int) := oA; obtain ⟨ad271, e271, hx271_0⟩ := Kd.at_int (Kd.R_reads' HO_3.out).2.2 x24_3 p271 q271; obtain rfl : ad269 = ad271 := (by injection e271); replace p271 := eq_true p271; replace q271 := eq_true q271; have p272 : 0 ≤ ((rd (rd_L1 l0 x18_2) x24_3) : Int) := oA; have q272 : (rd (rd_L1 l0 x18_2) x24_3) < (x3_3.length : Int) := oA; obtain ⟨ad272, e272, hx272_0⟩ := Kd.at_int (Kd.R_reads' HO_3.out).2.2 (rd (rd_L1 l0 x18_2) x24_3) p272 q272; obtain rfl : ad269 = ad272 := (by injection e272); replace p272 := eq_true p272; replace q272 := eq_true q272; have p19 : 0 ≤ (x24_3 : Int) := oA; have q19 : (x24_3 : Int) < ((x3_3.length : Int) : Int) := oA; obtain ⟨go19, co19, eo19, gb19, gl19, cl19, HG19⟩ := Kd.R_form HO_3.out (by omega); (first | cases eo19 | (injection eo19 with ea_ en_ ec_; (first | subst ea_ | (injection ea_ with ea_; subst ea_)); subst ec_; clear en_)); have GB19 := Az gb19; have GG19 := Az HG19; clear gb19 gl19 HG19; (first | simp only [add_plain] at hx269_0 | skip); (first | simp only [add_plain] at hx270_0 | skip); (first | simp only [add_plain] at hx271_0 | skip); (first | simp only [add_plain] at hx272_0 | skip); obtain ⟨hx19_0, hf19_0⟩ := Kd.R_celln 0 HO_3.out (x24_3 : Int) p19 q19; replace p19 := eq_true p19; replace q19 := eq_true q19; obtain ⟨hy22_, hz22_⟩ := Kd.R_celln 0 HO_3.out (x24_3 : Int) (oA) (oA); have HP22 := Kd.R_putg HO_3.out (x24_3 : Int) ji15
                    go_wp2_with (fail)
                    repeat (go_quiet (fail); try go_wp2_with (first | ((with_reducible refine gate_store (t := 3) (p := 58) rfl ?_); (try (rw [drewN_self wr]; generalize hq_ : World.drewN wr _ = wr; have n0 := Az (Kd.R_at hq_ HO_3.out); have n1 := Az (below_at hq_ HB.out); clear hq_ HO_3 HB; have HO_3 := n0; have HB := n1; clear n0 n1; (try (obtain ⟨hy22_, hz22_⟩ := Kd.R_celln 0 HO_3.out (x24_3 : Int) (oA) (oA))); (try (have HP22 := Kd.R_putg HO_3.out (x24_3 : Int) ji15)))); refine store_event (t := 3) (p := 58) (v := ?vo_w23) (w1 := (wr.setCell ⟨go19, (x24_3 : Int).toNat, none⟩ (.int .i64 ji15))) ?hg ?ho ?hn ?hr ?_; (case ho => rfl); (case hg => rfl); (case hn => rfl); (case hr => first | (go_simp; done) | (go_simp; rfl)); intro w23 hw; have hg : wr.grownBy w23 (some go19) := (by rw [hw]; exact HP22.2); have hp_ : Kd.R (Kd.int .i64) 3 w23 w.heap.size (fun _ => True) (.slice (some ⟨go19, 0, none⟩) x3_3.length co21) y273 := (by rw [hw, Ny273.out]; exact HP22.1); clear HP22; have n0 := Az (hp_); have n1 := Az ((by rw [hw]; exact below_set (HB.out) GB19.out : Below w.heap.size w w23)); clear HO_3 HB; have HO_3 := n0; have HB := n1; clear n0 n1 hg hw hp_; have p20 : 0 ≤ ((rd (rd_L1 l0 x18_2) x24_3) : Int) := oA; have q20 : ((rd (rd_L1 l0 x18_2) x24_3) : Int) < ((x3_3.length : Int) : Int) := oA; obtain ⟨hx20_0, hf20_0⟩ := Kd.R_celln 0 HO_3.out ((rd (rd_L1 l0 x18_2) x24_3) : Int) p20 q20; replace p20 := eq_true p20; replace q20 := eq_true q20; obtain ⟨hy24_, hz24_⟩ := Kd.R_celln 0 HO_3.out ((rd (rd_L1 l0 x18_2) x24_3) : Int) (oA) (oA); have HP24 := Kd.R_putg HO_3.out ((rd (rd_L1 l0 x18_2) x24_3) : Int) ji15) | ((with_reducible refine gate_store (t := 3) (p := 59) rfl ?_); (try (rw [drewN_self w23]; generalize hq_ : World.drewN w23 _ = w23; have n0 := Az (Kd.R_at hq_ HO_3.out); have n1 := Az (below_at hq_ HB.out); clear hq_ HO_3 HB; have HO_3 := n0; have HB := n1; clear n0 n1; (try (obtain ⟨hy24_, hz24_⟩ := Kd.R_celln 0 HO_3.out ((rd (rd_L1 l0 x18_2) x24_3) : Int) (oA) (oA))); (try (have HP24 := Kd.R_putg HO_3.out ((rd (rd_L1 l0 x18_2) x24_3) : Int) ji15)))); refine store_event (t := 3) (p := 59) (v := ?vo_w25) (w1 := (w23.setCell ⟨go19, ((rd (rd_L1 l0 x18_2) x24_3) : Int).toNat, none⟩ (.int .i64 ji15))) ?hg ?ho ?hn ?hr ?_; (case ho => rfl); (case hg => rfl); (case hn => rfl); (case hr => first | (go_simp; done) | (go_simp; rfl)); intro w25 hw; have hg : w23.grownBy w25 (some go19) := (by rw [hw]; exact HP24.2); have hp_ : Kd.R (Kd.int .i64) 3 w25 w.heap.size (fun _ => True) (.slice (some ⟨go19, 0, none⟩) x3_3.length co21) y274 := (by rw [hw, Ny274.out]; exact HP24.1); clear HP24; have n0 := Az (hp_); have n1 := Az ((by rw [hw]; exact below_set (HB.out) GB19.out : Below w.heap.size w w25)); clear HO_3 HB; have HO_3 := n0; have HB := n1; clear n0 n1; clear hg hw hp_)))
                    (first | go_roundg k3 | (refine Handed.intro k3 ?measure ?_; rotate_left; go_step; (try simp only [add_plain]); (repeat apply Exists.intro); refine ⟨?rel, rfl⟩))
                    case measure => have := HK1.out; have := HK2.out; have := HK3.out; omega
                    case rel => exact ⟨(y274), (true), (wrap64 (x24_3 + 1)), rS, rS, H', ⟨by have := HK1.out; have := HK2.out; have := HK3.out; omega⟩, ⟨rU HO_3.out⟩, ⟨bU0 HB.out⟩⟩
                  ·
                   rw [if_neg c16] at H; have c16b0 := beq_eq_false_iff_ne.mpr c16; have c16b1 := bne_iff_ne.mpr c16; clear c16; obtain ⟨y275, hy275⟩ : ∃ y_ : List Int, y_ = (x3_3.set (x24_3 : Int).toNat (ji15)) := ⟨_, rfl⟩; replace H : (impl_orbits.l2 k3 l0 (y275.set ((rd (rd_L1 l0 x18_2) x24_3) : Int).toNat (ji15)) true l0 (l0.length : Int) x18_2 (rd_L1 l0 x18_2) ((rd_L1 l0 x18_2).length : Int) (wrap64 (x24_3 + 1))) = some r := hR hy275 H; have Ny275 := Az hy275; clear hy275; obtain ⟨y276, hy276⟩ : ∃ y_ : List Int, y_ = (y275.set ((rd (rd_L1 l0 x18_2) x24_3) : Int).toNat (ji15)) := ⟨_, rfl⟩; replace H : (impl_orbits.l2 k3 l0 y276 true l0 (l0.length : Int) x18_2 (rd_L1 l0 x18_2) ((rd_L1 l0 x18_2).length : Int) (wrap64 (x24_3 + 1))) = some r := hR hy276 H; have Ny276 := Az hy276; clear hy276; have H' := Az H; clear H; have p268 : 0 ≤ (x24_3 : Int) := oA; have q268 : x24_3 < ((rd_L1 l0 x18_2).length : Int) := oA; obtain ⟨ad268, e268, hx268_0⟩ := Kd.at_int HR267_0.out x24_3 p268 q268
                   cases e268
                   (try replace hx268_0 := (HB.out.cell (World.block_lt_of_cell? w _ hx268_0)).trans hx268_0); replace p268 := eq_true p268; replace q268 := eq_true q268; obtain ⟨Ao28, co28, eo28⟩ := Kd.R_slice HO_3.out; subst eo28; have p269 : 0 ≤ (x24_3 : Int) := oA; have q269 : x24_3 < (x3_3.length : Int) := oA; obtain ⟨ad269, e269, hx269_0⟩ := Kd.at_int (Kd.R_reads' HO_3.out).2.2 x24_3 p269 q269
                   cases e269
                   replace p269 := eq_true p269; replace q269 := eq_true q269; have p270 : 0 ≤ ((rd (rd_L1 l0 x18_2) x24_3) : Int) := oA; have q270 : (rd (rd_L1 l0 x18_2) x24_3) < (x3_3.length : Int) := oA; obtain ⟨ad270, e270, hx270_0⟩ := Kd.at_int (Kd.R_reads' HO_3.out).2.2 (rd (rd_L1 l0 x18_2) x24_3) p270 q270; obtain rfl : ad269 = ad270 := (by injection e270); replace p270 := eq_true p270; replace q270 := eq_true q270; have p271 : 0 ≤ (x24_3 : Int) := oA; have q271 : x24_3 < (x3_3.length : Int) := oA; obtain ⟨ad271, e271, hx271_0⟩ := Kd.at_int (Kd.R_reads' HO_3.out).2.2 x24_3 p271 q271; obtain rfl : ad269 = ad271 := (by injection e271); replace p271 := eq_true p271; replace q271 := eq_true q271; have p26 : 0 ≤ (x24_3 : Int) := oA; have q26 : (x24_3 : Int) < ((x3_3.length : Int) : Int) := oA; obtain ⟨go26, co26, eo26, gb26, gl26, cl26, HG26⟩ := Kd.R_form HO_3.out (by omega); (first | cases eo26 | (injection eo26 with ea_ en_ ec_; (first | subst ea_ | (injection ea_ with ea_; subst ea_)); subst ec_; clear en_)); have GB26 := Az gb26; have GG26 := Az HG26; clear gb26 gl26 HG26; (first | simp only [add_plain] at hx269_0 | skip); (first | simp only [add_plain] at hx270_0 | skip); (first | simp only [add_plain] at hx271_0 | skip); obtain ⟨hx26_0, hf26_0⟩ := Kd.R_celln 0 HO_3.out (x24_3 : Int) p26 q26; replace p26 := eq_true p26; replace q26 := eq_true q26; obtain ⟨hy29_, hz29_⟩ := Kd.R_celln 0 HO_3.out (x24_3 : Int) (oA) (oA); have HP29 := Kd.R_putg HO_3.out (x24_3 : Int) ji15
                   go_wp2_with (fail)
                   repeat (go_quiet (fail); try go_wp2_with (first | ((with_reducible refine gate_store (t := 3) (p := 58) rfl ?_); (try (rw [drewN_self wr]; generalize hq_ : World.drewN wr _ = wr; have n0 := Az (Kd.R_at hq_ HO_3.out); have n1 := Az (below_at hq_ HB.out); clear hq_ HO_3 HB; have HO_3 := n0; have HB := n1; clear n0 n1; (try (obtain ⟨hy29_, hz29_⟩ := Kd.R_celln 0 HO_3.out (x24_3 : Int) (oA) (oA))); (try (have HP29 := Kd.R_putg HO_3.out (x24_3 : Int) ji15)))); refine store_event (t := 3) (p := 58) (v := ?vo_w30) (w1 := (wr.setCell ⟨go26, (x24_3 : Int).toNat, none⟩ (.int .i64 ji15))) ?hg ?ho ?hn ?hr ?_; (case ho => rfl); (case hg => rfl); (case hn => rfl); (case hr => first | (go_simp; done) | (go_simp; rfl)); intro w30 hw; have hg : wr.grownBy w30 (some go26) := (by rw [hw]; exact HP29.2); have hp_ : Kd.R (Kd.int .i64) 3 w30 w.heap.size (fun _ => True) (.slice (some ⟨go26, 0, none⟩) x3_3.length co28) y275 := (by rw [hw, Ny275.out]; exact HP29.1); clear HP29; have n0 := Az (hp_); have n1 := Az ((by rw [hw]; exact below_set (HB.out) GB26.out : Below w.heap.size w w30)); clear HO_3 HB; have HO_3 := n0; have HB := n1; clear n0 n1 hg hw hp_; have p27 : 0 ≤ ((rd (rd_L1 l0 x18_2) x24_3) : Int) := oA; have q27 : ((rd (rd_L1 l0 x18_2) x24_3) : Int) < ((x3_3.length : Int) : Int) := oA; obtain ⟨hx27_0, hf27_0⟩ := Kd.R_celln 0 HO_3.out ((rd (rd_L1 l0 x18_2) x24_3) : Int) p27 q27; replace p27 := eq_true p27; replace q27 := eq_true q27; obtain ⟨hy31_, hz31_⟩ := Kd.R_celln 0 HO_3.out ((rd (rd_L1 l0 x18_2) x24_3) : Int) (oA) (oA); have HP31 := Kd.R_putg HO_3.out ((rd (rd_L1 l0 x18_2) x24_3) : Int) ji15) | ((with_reducible refine gate_store (t := 3) (p := 59) rfl ?_); (try (rw [drewN_self w30]; generalize hq_ : World.drewN w30 _ = w30; have n0 := Az (Kd.R_at hq_ HO_3.out); have n1 := Az (below_at hq_ HB.out); clear hq_ HO_3 HB; have HO_3 := n0; have HB := n1; clear n0 n1; (try (obtain ⟨hy31_, hz31_⟩ := Kd.R_celln 0 HO_3.out ((rd (rd_L1 l0 x18_2) x24_3) : Int) (oA) (oA))); (try (have HP31 := Kd.R_putg HO_3.out ((rd (rd_L1 l0 x18_2) x24_3) : Int) ji15)))); refine store_event (t := 3) (p := 59) (v := ?vo_w32) (w1 := (w30.setCell ⟨go26, ((rd (rd_L1 l0 x18_2) x24_3) : Int).toNat, none⟩ (.int .i64 ji15))) ?hg ?ho ?hn ?hr ?_; (case ho => rfl); (case hg => rfl); (case hn => rfl); (case hr => first | (go_simp; done) | (go_simp; rfl)); intro w32 hw; have hg : w30.grownBy w32 (some go26) := (by rw [hw]; exact HP31.2); have hp_ : Kd.R (Kd.int .i64) 3 w32 w.heap.size (fun _ => True) (.slice (some ⟨go26, 0, none⟩) x3_3.length co28) y276 := (by rw [hw, Ny276.out]; exact HP31.1); clear HP31; have n0 := Az (hp_); have n1 := Az ((by rw [hw]; exact below_set (HB.out) GB26.out : Below w.heap.size w w32)); clear HO_3 HB; have HO_3 := n0; have HB := n1; clear n0 n1; clear hg hw hp_)))
                   (first | go_roundg k3 | (refine Handed.intro k3 ?measure ?_; rotate_left; go_step; (try simp only [add_plain]); (repeat apply Exists.intro); refine ⟨?rel, rfl⟩))
                   case measure => have := HK1.out; have := HK2.out; have := HK3.out; omega
                   case rel => exact ⟨(y276), (true), (wrap64 (x24_3 + 1)), rS, rS, H', ⟨by have := HK1.out; have := HK2.out; have := HK3.out; omega⟩, ⟨rU HO_3.out⟩, ⟨bU0 HB.out⟩⟩
                 ·
                  rw [if_neg c14] at H
                  exact absurd H (by simp)
                ·
                 rw [if_neg c13] at H
                 exact absurd H (by simp)
               ·
                rw [if_neg c12] at H
                exact absurd H (by simp)
              ·
               rw [if_neg c11] at H
               exact absurd H (by simp)
             ·
              rw [if_neg c10] at H
              exact absurd H (by simp)
            ·
             rw [if_neg c9] at H; have c9b0 := decide_eq_false c9; clear c9; have H' := Az H; clear H
             go_wp2
             repeat (go_quiet (fail); try go_wp2)
             (first | go_roundg k3 | (refine Handed.intro k3 ?measure ?_; rotate_left; go_step; (try simp only [add_plain]); (repeat apply Exists.intro); refine ⟨?rel, rfl⟩))
             case measure => have := HK1.out; have := HK2.out; have := HK3.out; omega
             case rel => exact ⟨(x3_3), (x4_3), (wrap64 (x18_2 + 1)), rS, rS, H', ⟨by have := HK1.out; have := HK2.out; have := HK3.out; omega⟩, ⟨rU HO_3.out⟩, ⟨bU0 HB.out⟩⟩
         ·
          rw [if_neg c8] at H
          exact absurd H (by simp)
        ·
         rw [if_neg c7] at H
         exact absurd H (by simp)
       ·
        rw [if_neg c6] at H; have c6b0 := decide_eq_false c6; clear c6; have H' := Az H; clear H
        go_wp2
        repeat (go_quiet (fail); try go_wp2)
        (first | go_roundg k2 | (refine Handed.intro k2 ?measure ?_; rotate_left; go_step; (try simp only [add_plain]); (repeat apply Exists.intro); refine ⟨?rel, rfl⟩))
        case measure => have := HK1.out; have := HK2.out; omega
        case rel => exact ⟨(x3_2), (x4_2), rS, H', ⟨by have := HK1.out; have := HK2.out; omega⟩, ⟨rU HO_3.out⟩, ⟨bU0 HB.out⟩⟩
    ·
     replace c5 := Bool.eq_false_iff.mpr c5; subst c5
     have H1 : (some x3_1) = some r := by rw [if_neg (show ¬ (false = true) by decide)] at H; exact H
     clear H; have H := H1; clear H1; obtain rfl := Option.some.inj H
     go_wp2
     repeat (go_quiet (fail); try go_wp2)
     go_ret
     exact ⟨_, rE, rU HO_3.out, bU0 HB.out⟩
 ·
  rw [if_neg c2] at H
  exact absurd H (by simp)
mutual
def impl_MapValid.j0 : Nat → Bool → List Int → List Int → Option (Bool)
 | 0, _, _, _ => none
 | k + 1, x23, xZ0, xZ1 => if x23 = true then (some false) else (impl_MapValid.l0 k xZ1 (xZ1.length : Int) 0 xZ0 xZ1)
def impl_MapValid.l0 : Nat → List Int → Int → Int → List Int → List Int → Option (Bool)
 | 0, _, _, _, _, _ => none
 | k + 1, x25, x26, x27, xZ0, xZ1 => if x27 < x26 then (if 0 ≤ x27 then (if x27 < (x25.length : Int) then (if (rd x25 x27) = x27 then (some false) else (if 0 ≤ (rd x25 x27) then (if (rd x25 x27) < (xZ1.length : Int) then (if (rd xZ1 (rd x25 x27)) = x27 then (impl_MapValid.l0 k x25 x26 (wrap64 (x27 + 1)) xZ0 xZ1) else (some false)) else (none)) else (none))) else (none)) else (none)) else ((impl_orbits.f k (([xZ0, xZ1] : List (List Int)))).bind fun t285 => ((slices_Max_int_int.f k t285).bind fun t288 => (some (t288 == 0))))
end
def impl_MapValid.f (k : Nat) (l0_0 : List Int) (l0_1 : List Int) : Option (Bool) := (impl_PermValid.f k l0_0).bind fun t278 => (if t278 = true then ((impl_PermValid.f k l0_1).bind fun t279 => (if t279 = true then (impl_MapValid.j0 k ((l0_0.length : Int) != (l0_1.length : Int)) l0_0 l0_1) else (impl_MapValid.j0 k true l0_0 l0_1))) else (impl_MapValid.j0 k true l0_0 l0_1))
set_option maxHeartbeats 8000000 in
set_option maxRecDepth 100000 in
theorem impl_MapValid.calls (k : Nat) (P0_0_ : Nat → Prop) (A0_0 : Option Addr) (c0_0 : Nat) (l0_0 : List Int) (P0_1_ : Nat → Prop) (A0_1 : Option Addr) (c0_1 : Nat) (l0_1 : List Int) (r : Bool) (w : World) (hs0_0 : Kd.V (Kd.int .i64) 3 w w.heap.size (fun k_ => P0_0_ k_) (.slice A0_0 l0_0.length c0_0) l0_0) (hs0_1 : Kd.V (Kd.int .i64) 3 w w.heap.size (fun k_ => P0_1_ k_) (.slice A0_1 l0_1.length c0_1) l0_1) (h : impl_MapValid.f k l0_0 l0_1 = some r) :
  Calls Try.prog 51 #[.agg #[.slice A0_0 l0_0.length c0_0, .slice A0_1 l0_1.length c0_1]] w fun e w' => e = .returned (.bool r) ∧ Below w.heap.size w w' := by
 have hu27 := Try.underlying27; have HO0_0 := Az (show Kd.V (Kd.int .i64) 3 w w.heap.size (fun k_ => ((P0_0_ k_ ∨ P0_1_ k_) ∨ w.heap.size ≤ k_)) (.slice A0_0 l0_0.length c0_0) l0_0 from Kd.V_mono hs0_0 (fun k_ hk => .inl (.inl hk))); have HO0_1 := Az (show Kd.V (Kd.int .i64) 3 w w.heap.size (fun k_ => ((P0_0_ k_ ∨ P0_1_ k_) ∨ w.heap.size ≤ k_)) (.slice A0_1 l0_1.length c0_1) l0_1 from Kd.V_mono hs0_1 (fun k_ hk => .inl (.inr hk))); have HB := Az (Below.refl w.heap.size w); have H : ((impl_PermValid.f k l0_0).bind fun t278 => (if t278 = true then ((impl_PermValid.f k l0_1).bind fun t279 => (if t279 = true then (impl_MapValid.j0 k ((l0_0.length : Int) != (l0_1.length : Int)) l0_0 l0_1) else (impl_MapValid.j0 k true l0_0 l0_1))) else (impl_MapValid.j0 k true l0_0 l0_1))) = some r := h; clear h; have HC2 := Az H; clear H
 go_enter Try.func51, Try.ntmps51
 go_upto_region 1 with (first | ((with_reducible refine gate_dst (N := 1) rfl ?_); (try (refine gate_guard (by rfl) ?_; dsimp only)); refine box_event ?hg (N := 1) ?hd (cs := #[.slice A0_0 l0_0.length c0_0, .slice A0_1 l0_1.length c0_1]) (t := 27) ?hr ?_; (case hd => rfl); (case hg => rfl); (case hr => first | (go_simp; done) | (go_simp; rfl)); intro gb277 hg w3 hbox hb; have n0 := Az (Kd.V_below (Kd.V_elderB (vU HO0_0.out) gb277 (Nat.le_of_eq hg.symm)) hb); have n1 := Az (Kd.V_below (Kd.V_elderB (vU HO0_1.out) gb277 (Nat.le_of_eq hg.symm)) hb); have n2 := Az (below_step (bU0 HB.out) hb); have n3 := Az (hbox); have n4 := Az ((by rw [hg]; exact (below_size (bU0 HB.out)) : w.heap.size ≤ gb277)); have n5 := n4; clear HO0_0 HO0_1 HB; have HO0_0 := n0; have HO0_1 := n1; have HB := n2; have BK277 := n3; have GW277 := n4; have GE277 := n5; clear n0 n1 n2 n3 n4 n5; clear hb hbox hg))
 (try simp only [Act.put, List.setIfInBounds_toArray, List.set_cons_zero, List.set_cons_succ])
 go_cut [23] (fun v23 wc => ∃ (kq : Nat) (x23_1 : Bool), v23 = .bool x23_1 ∧ Aside0 (impl_MapValid.j0 kq x23_1 l0_0 l0_1 = some r) ∧ Aside0 (kq ≤ k) ∧ Aside0 (Kd.V (Kd.int .i64) 3 wc w.heap.size (fun k_ => ((P0_0_ k_ ∨ P0_1_ k_) ∨ w.heap.size ≤ k_) ∧ k_ ≠ gb277) (.slice A0_0 l0_0.length c0_0) l0_0) ∧ Aside0 (Kd.V (Kd.int .i64) 3 wc w.heap.size (fun k_ => ((P0_0_ k_ ∨ P0_1_ k_) ∨ w.heap.size ≤ k_) ∧ k_ ≠ gb277) (.slice A0_1 l0_1.length c0_1) l0_1) ∧ Aside0 (wc.heap[gb277]? = some (.cells #[(.slice A0_0 l0_0.length c0_0), (.slice A0_1 l0_1.length c0_1)] 27 (0, 0))) ∧ Aside0 (Below w.heap.size w wc))
 case first =>
  have H := HC2.out; clear HC2; replace H := Option.bind_eq_some_iff.mp H; obtain ⟨t278, A40, H⟩ := H; replace H : (if t278 = true then ((impl_PermValid.f k l0_1).bind fun t279 => (if t279 = true then (impl_MapValid.j0 k ((l0_0.length : Int) != (l0_1.length : Int)) l0_0 l0_1) else (impl_MapValid.j0 k true l0_0 l0_1))) else (impl_MapValid.j0 k true l0_0 l0_1)) = some r := H; have A4 := Az A40; clear A40
  by_cases c5 : t278 = true
  ·
   subst c5
   have H1 : ((impl_PermValid.f k l0_1).bind fun t279 => (if t279 = true then (impl_MapValid.j0 k ((l0_0.length : Int) != (l0_1.length : Int)) l0_0 l0_1) else (impl_MapValid.j0 k true l0_0 l0_1))) = some r := by rw [if_pos rfl] at H; exact H
   clear H; have H := H1; clear H1; replace H := Option.bind_eq_some_iff.mp H; obtain ⟨t279, A60, H⟩ := H; replace H : (if t279 = true then (impl_MapValid.j0 k ((l0_0.length : Int) != (l0_1.length : Int)) l0_0 l0_1) else (impl_MapValid.j0 k true l0_0 l0_1)) = some r := H; have A6 := Az A60; clear A60
   by_cases c7 : t279 = true
   ·
    subst c7
    have H1 : (impl_MapValid.j0 k ((l0_0.length : Int) != (l0_1.length : Int)) l0_0 l0_1) = some r := by rw [if_pos rfl] at H; exact H
    clear H; have H := H1; clear H1; have H' := Az H; clear H; have hcz8_0 : w3.cell? ⟨gb277, 0, none⟩ = some (.slice A0_0 l0_0.length c0_0) := (blk_cell BK277.out 0).trans rfl; have hcz8_1 : w3.cell? ⟨gb277, 1, none⟩ = some (.slice A0_1 l0_1.length c0_1) := (blk_cell BK277.out 1).trans rfl; have hfz8_0 := blk_frozen BK277.out 0; have hfz8_1 := blk_frozen BK277.out 1
    go_wp2_with (first | ((with_reducible refine gate_callee (f := 84) rfl ?_); refine goesL_ (some 7) rfl rfl Try.func84 (by kernel_rfl) rfl #[.slice A0_0 l0_0.length c0_0] rfl (by (try simp only [List.map_toArray, List.map_cons, List.map_nil]); first | done | rfl | (simp only [List.length_drop, List.length_take]; rfl)) ?_; (with_reducible refine (impl_PermValid.calls k _ _ l0_0 true _ ?side1 ?side2 A4.out).mono ?_); (case side1 => exact cU ((Kd.V_reads' HO0_0.out).2.2)); (case side2 => exact (Kd.V_reads' HO0_0.out).2.1); rintro e w9 ⟨rfl, hb⟩; refine ⟨_, rfl, ?_⟩; have n0 := Az (Kd.V_below (vU HO0_0.out) hb); have n1 := Az (Kd.V_below (vU HO0_1.out) hb); have n2 := Az (blk_below (g := gb277) (o := .cells #[.slice A0_0 l0_0.length c0_0, .slice A0_1 l0_1.length c0_1] 27 (0, 0)) (kU BK277.out) hb); have n3 := Az (below_step (bU1 HB.out GE277.out) hb); clear HO0_0 HO0_1 BK277 HB; have HO0_0 := n0; have HO0_1 := n1; have BK277 := n2; have HB := n3; clear n0 n1 n2 n3; (try clear hb); (try clear hb2); (try clear hk); (try clear hi); have hcz10_0 : w9.cell? ⟨gb277, 0, none⟩ = some (.slice A0_0 l0_0.length c0_0) := (blk_cell BK277.out 0).trans rfl; have hcz10_1 : w9.cell? ⟨gb277, 1, none⟩ = some (.slice A0_1 l0_1.length c0_1) := (blk_cell BK277.out 1).trans rfl; have hfz10_0 := blk_frozen BK277.out 0; have hfz10_1 := blk_frozen BK277.out 1) | (go_at_call 84; (with_reducible refine (impl_PermValid.calls k _ _ l0_1 true _ ?side1 ?side2 A6.out).mono ?_); (case side1 => exact cU ((Kd.V_reads' HO0_1.out).2.2)); (case side2 => exact (Kd.V_reads' HO0_1.out).2.1); rintro e w11 ⟨rfl, hb⟩; have n0 := Az (Kd.V_below (vU HO0_0.out) hb); have n1 := Az (Kd.V_below (vU HO0_1.out) hb); have n2 := Az (blk_below (g := gb277) (o := .cells #[.slice A0_0 l0_0.length c0_0, .slice A0_1 l0_1.length c0_1] 27 (0, 0)) (kU BK277.out) hb); have n3 := Az (below_step (bU1 HB.out GE277.out) hb); clear HO0_0 HO0_1 BK277 HB; have HO0_0 := n0; have HO0_1 := n1; have BK277 := n2; have HB := n3; clear n0 n1 n2 n3; (try clear hb); (try clear hb2); (try clear hk); (try clear hi); have hcz12_0 : w11.cell? ⟨gb277, 0, none⟩ = some (.slice A0_0 l0_0.length c0_0) := (blk_cell BK277.out 0).trans rfl; have hcz12_1 : w11.cell? ⟨gb277, 1, none⟩ = some (.slice A0_1 l0_1.length c0_1) := (blk_cell BK277.out 1).trans rfl; have hfz12_0 := blk_frozen BK277.out 0; have hfz12_1 := blk_frozen BK277.out 1))
    go_meet
    case rel => exact ⟨_, (((l0_0.length : Int) != (l0_1.length : Int))), rS, H', ⟨by first | omega | exact Nat.le_refl _⟩, ⟨vU HO0_0.out⟩, ⟨vU HO0_1.out⟩, ⟨kU BK277.out⟩, ⟨bU1 HB.out GE277.out⟩⟩
   ·
    replace c7 := Bool.eq_false_iff.mpr c7; subst c7
    have H1 : (impl_MapValid.j0 k true l0_0 l0_1) = some r := by rw [if_neg (show ¬ (false = true) by decide)] at H; exact H
    clear H; have H := H1; clear H1; have H' := Az H; clear H; have hcz13_0 : w3.cell? ⟨gb277, 0, none⟩ = some (.slice A0_0 l0_0.length c0_0) := (blk_cell BK277.out 0).trans rfl; have hcz13_1 : w3.cell? ⟨gb277, 1, none⟩ = some (.slice A0_1 l0_1.length c0_1) := (blk_cell BK277.out 1).trans rfl; have hfz13_0 := blk_frozen BK277.out 0; have hfz13_1 := blk_frozen BK277.out 1
    go_wp2_with (first | ((with_reducible refine gate_callee (f := 84) rfl ?_); refine goesL_ (some 7) rfl rfl Try.func84 (by kernel_rfl) rfl #[.slice A0_0 l0_0.length c0_0] rfl (by (try simp only [List.map_toArray, List.map_cons, List.map_nil]); first | done | rfl | (simp only [List.length_drop, List.length_take]; rfl)) ?_; (with_reducible refine (impl_PermValid.calls k _ _ l0_0 true _ ?side1 ?side2 A4.out).mono ?_); (case side1 => exact cU ((Kd.V_reads' HO0_0.out).2.2)); (case side2 => exact (Kd.V_reads' HO0_0.out).2.1); rintro e w14 ⟨rfl, hb⟩; refine ⟨_, rfl, ?_⟩; have n0 := Az (Kd.V_below (vU HO0_0.out) hb); have n1 := Az (Kd.V_below (vU HO0_1.out) hb); have n2 := Az (blk_below (g := gb277) (o := .cells #[.slice A0_0 l0_0.length c0_0, .slice A0_1 l0_1.length c0_1] 27 (0, 0)) (kU BK277.out) hb); have n3 := Az (below_step (bU1 HB.out GE277.out) hb); clear HO0_0 HO0_1 BK277 HB; have HO0_0 := n0; have HO0_1 := n1; have BK277 := n2; have HB := n3; clear n0 n1 n2 n3; (try clear hb); (try clear hb2); (try clear hk); (try clear hi); have hcz15_0 : w14.cell? ⟨gb277, 0, none⟩ = some (.slice A0_0 l0_0.length c0_0) := (blk_cell BK277.out 0).trans rfl; have hcz15_1 : w14.cell? ⟨gb277, 1, none⟩ = some (.slice A0_1 l0_1.length c0_1) := (blk_cell BK277.out 1).trans rfl; have hfz15_0 := blk_frozen BK277.out 0; have hfz15_1 := blk_frozen BK277.out 1) | (go_at_call 84; (with_reducible refine (impl_PermValid.calls k _ _ l0_1 false _ ?side1 ?side2 A6.out).mono ?_); (case side1 => exact cU ((Kd.V_reads' HO0_1.out).2.2)); (case side2 => exact (Kd.V_reads' HO0_1.out).2.1); rintro e w16 ⟨rfl, hb⟩; have n0 := Az (Kd.V_below (vU HO0_0.out) hb); have n1 := Az (Kd.V_below (vU HO0_1.out) hb); have n2 := Az (blk_below (g := gb277) (o := .cells #[.slice A0_0 l0_0.length c0_0, .slice A0_1 l0_1.length c0_1] 27 (0, 0)) (kU BK277.out) hb); have n3 := Az (below_step (bU1 HB.out GE277.out) hb); clear HO0_0 HO0_1 BK277 HB; have HO0_0 := n0; have HO0_1 := n1; have BK277 := n2; have HB := n3; clear n0 n1 n2 n3; (try clear hb); (try clear hb2); (try clear hk); (try clear hi)))
    go_meet
    case rel => exact ⟨_, (true), rS, H', ⟨by first | omega | exact Nat.le_refl _⟩, ⟨vU HO0_0.out⟩, ⟨vU HO0_1.out⟩, ⟨kU BK277.out⟩, ⟨bU1 HB.out GE277.out⟩⟩
  ·
   replace c5 := Bool.eq_false_iff.mpr c5; subst c5
   have H1 : (impl_MapValid.j0 k true l0_0 l0_1) = some r := by rw [if_neg (show ¬ (false = true) by decide)] at H; exact H
   clear H; have H := H1; clear H1; have H' := Az H; clear H; have hcz17_0 : w3.cell? ⟨gb277, 0, none⟩ = some (.slice A0_0 l0_0.length c0_0) := (blk_cell BK277.out 0).trans rfl; have hcz17_1 : w3.cell? ⟨gb277, 1, none⟩ = some (.slice A0_1 l0_1.length c0_1) := (blk_cell BK277.out 1).trans rfl; have hfz17_0 := blk_frozen BK277.out 0; have hfz17_1 := blk_frozen BK277.out 1
   go_wp2_with (first | ((with_reducible refine gate_callee (f := 84) rfl ?_); refine goesL_ (some 7) rfl rfl Try.func84 (by kernel_rfl) rfl #[.slice A0_0 l0_0.length c0_0] rfl (by (try simp only [List.map_toArray, List.map_cons, List.map_nil]); first | done | rfl | (simp only [List.length_drop, List.length_take]; rfl)) ?_; (with_reducible refine (impl_PermValid.calls k _ _ l0_0 false _ ?side1 ?side2 A4.out).mono ?_); (case side1 => exact cU ((Kd.V_reads' HO0_0.out).2.2)); (case side2 => exact (Kd.V_reads' HO0_0.out).2.1); rintro e w18 ⟨rfl, hb⟩; refine ⟨_, rfl, ?_⟩; have n0 := Az (Kd.V_below (vU HO0_0.out) hb); have n1 := Az (Kd.V_below (vU HO0_1.out) hb); have n2 := Az (blk_below (g := gb277) (o := .cells #[.slice A0_0 l0_0.length c0_0, .slice A0_1 l0_1.length c0_1] 27 (0, 0)) (kU BK277.out) hb); have n3 := Az (below_step (bU1 HB.out GE277.out) hb); clear HO0_0 HO0_1 BK277 HB; have HO0_0 := n0; have HO0_1 := n1; have BK277 := n2; have HB := n3; clear n0 n1 n2 n3; (try clear hb); (try clear hb2); (try clear hk); (try clear hi)))
   go_meet
   case rel => exact ⟨_, (true), rS, H', ⟨by first | omega | exact Nat.le_refl _⟩, ⟨vU HO0_0.out⟩, ⟨vU HO0_1.out⟩, ⟨kU BK277.out⟩, ⟨bU1 HB.out GE277.out⟩⟩
 case rest =>
  clear HC2; (try clear p2); (try clear c5); (try clear c7); (try clear c8); (try clear hcz10_0); (try clear hcz10_1); (try clear hcz12_0); (try clear hcz12_1); (try clear hcz13_0); (try clear hcz13_1); (try clear hcz15_0); (try clear hcz15_1); (try clear hcz17_0); (try clear hcz17_1); (try clear hcz8_0); (try clear hcz8_1); (try clear hfz10_0); (try clear hfz10_1); (try clear hfz12_0); (try clear hfz12_1); (try clear hfz13_0); (try clear hfz13_1); (try clear hfz15_0); (try clear hfz15_1); (try clear hfz17_0); (try clear hfz17_1); (try clear hfz8_0); (try clear hfz8_1); obtain ⟨kq, x23_1, rfl, HA, HJ1, HO_Z0, HO_Z1, BK277, HB⟩ := hcut
  cases kq with
  | zero => exact absurd HA.out (by simp [impl_MapValid.j0])
  | succ kj1 =>
   have H := HA.out; clear HA; simp only [impl_MapValid.j0] at H
   by_cases c19 : x23_1 = true
   ·
    subst c19
    have H1 : (some false) = some r := by rw [if_pos rfl] at H; exact H
    clear H; have H := H1; clear H1; obtain rfl := Option.some.inj H
    go_wp2
    go_ret
    exact ⟨rE, bU1 HB.out GE277.out⟩
   ·
    replace c19 := Bool.eq_false_iff.mpr c19; subst c19
    have H1 : (impl_MapValid.l0 kj1 l0_1 (l0_1.length : Int) 0 l0_0 l0_1) = some r := by rw [if_neg (show ¬ (false = true) by decide)] at H; exact H
    clear H; have H := H1; clear H1; have H' := Az H; clear H; have hcz20_0 : wc.cell? ⟨gb277, 0, none⟩ = some (.slice A0_0 l0_0.length c0_0) := (blk_cell BK277.out 0).trans rfl; have hcz20_1 : wc.cell? ⟨gb277, 1, none⟩ = some (.slice A0_1 l0_1.length c0_1) := (blk_cell BK277.out 1).trans rfl; have hfz20_0 := blk_frozen BK277.out 0; have hfz20_1 := blk_frozen BK277.out 1
    go_wp2
    go_loopg [27] kj1 (fun kq v27 w' => ∃ (x27_2 : Int), v27 = .int .i64 x27_2 ∧ Aside0 (impl_MapValid.l0 kq l0_1 (l0_1.length : Int) x27_2 l0_0 l0_1 = some r) ∧ Aside0 (kq ≤ kj1) ∧ Aside0 (Kd.V (Kd.int .i64) 3 w' w.heap.size (fun k_ => ((P0_0_ k_ ∨ P0_1_ k_) ∨ w.heap.size ≤ k_) ∧ k_ ≠ gb277) (.slice A0_1 l0_1.length c0_1) l0_1) ∧ Aside0 (Kd.V (Kd.int .i64) 3 w' w.heap.size (fun k_ => ((P0_0_ k_ ∨ P0_1_ k_) ∨ w.heap.size ≤ k_) ∧ k_ ≠ gb277) (.slice A0_0 l0_0.length c0_0) l0_0) ∧ Aside0 (Kd.V (Kd.int .i64) 3 w' w.heap.size (fun k_ => ((P0_0_ k_ ∨ P0_1_ k_) ∨ w.heap.size ≤ k_) ∧ k_ ≠ gb277) (.slice A0_1 l0_1.length c0_1) l0_1) ∧ Aside0 (w'.heap[gb277]? = some (.cells #[(.slice A0_0 l0_0.length c0_0), (.slice A0_1 l0_1.length c0_1)] 27 (0, 0))) ∧ Aside0 (Below w.heap.size w w'))
    case atStart => exact ⟨(0), rS, H', ⟨Nat.le_refl _⟩, ⟨vU HO_Z1.out⟩, ⟨vU HO_Z0.out⟩, ⟨vU HO_Z1.out⟩, ⟨kU BK277.out⟩, ⟨bU1 HB.out GE277.out⟩⟩
    case round =>
     clear H'; (try clear c1); (try clear p2); (try clear c5); (try clear c7); (try clear c8); (try clear c19); (try clear hcz10_0); (try clear hcz10_1); (try clear hcz12_0); (try clear hcz12_1); (try clear hcz13_0); (try clear hcz13_1); (try clear hcz15_0); (try clear hcz15_1); (try clear hcz17_0); (try clear hcz17_1); (try clear hcz20_0); (try clear hcz20_1); (try clear hcz8_0); (try clear hcz8_1); (try clear hfz10_0); (try clear hfz10_1); (try clear hfz12_0); (try clear hfz12_1); (try clear hfz13_0); (try clear hfz13_1); (try clear hfz15_0); (try clear hfz15_1); (try clear hfz17_0); (try clear hfz17_1); (try clear hfz20_0); (try clear hfz20_1); (try clear hfz8_0); (try clear hfz8_1); (try clear p2); obtain ⟨x27_2, rfl, HA, HK2, HO_25, HO_Z0, HO_Z1, BK277, HB⟩ := hrel
     cases gk with
     | zero => exact absurd HA.out (by simp [impl_MapValid.l0])
     | succ k2 =>
      have H := HA.out; clear HA; simp only [impl_MapValid.l0] at H
      by_cases c21 : x27_2 < (l0_1.length : Int)
      ·
       rw [if_pos c21] at H; have c21b0 := decide_eq_true c21; clear c21
       by_cases c22 : 0 ≤ x27_2
       ·
        rw [if_pos c22] at H; have c22b0 := decide_eq_true c22; clear c22
        by_cases c23 : x27_2 < (l0_1.length : Int)
        ·
         rw [if_pos c23] at H; have c23b0 := decide_eq_true c23; clear c23
         by_cases c24 : (rd l0_1 x27_2) = x27_2
         ·
          rw [if_pos c24] at H; have c24b0 := beq_iff_eq.mpr c24; have c24b1 := bne_eq_false_iff_eq.mpr c24; clear c24; obtain rfl := Option.some.inj H; have p280 : 0 ≤ (x27_2 : Int) := oA; have q280 : x27_2 < (l0_1.length : Int) := oA; obtain ⟨ad280, e280, hx280_0⟩ := Kd.at_int (Kd.V_reads' HO_25.out).2.2 x27_2 p280 q280
          cases e280
          replace p280 := eq_true p280; replace q280 := eq_true q280
          go_wp2
          go_ret
          exact ⟨rE, bU1 HB.out GE277.out⟩
         ·
          rw [if_neg c24] at H; have c24b0 := beq_eq_false_iff_ne.mpr c24; have c24b1 := bne_iff_ne.mpr c24
          by_cases c25 : 0 ≤ (rd l0_1 x27_2)
          ·
           rw [if_pos c25] at H; have c25b0 := decide_eq_true c25; clear c25
           by_cases c26 : (rd l0_1 x27_2) < (l0_1.length : Int)
           ·
            rw [if_pos c26] at H; have c26b0 := decide_eq_true c26; clear c26
            by_cases c27 : (rd l0_1 (rd l0_1 x27_2)) = x27_2
            ·
             rw [if_pos c27] at H; have c27b0 := beq_iff_eq.mpr c27; have c27b1 := bne_eq_false_iff_eq.mpr c27; clear c27; have H' := Az H; clear H; have p280 : 0 ≤ (x27_2 : Int) := oA; have q280 : x27_2 < (l0_1.length : Int) := oA; obtain ⟨ad280, e280, hx280_0⟩ := Kd.at_int (Kd.V_reads' HO_25.out).2.2 x27_2 p280 q280
             cases e280
             replace p280 := eq_true p280; replace q280 := eq_true q280; have hcz28_0 : wr.cell? ⟨gb277, 0, none⟩ = some (.slice A0_0 l0_0.length c0_0) := (blk_cell BK277.out 0).trans rfl; have hcz28_1 : wr.cell? ⟨gb277, 1, none⟩ = some (.slice (some ad280) l0_1.length c0_1) := (blk_cell BK277.out 1).trans rfl; have hfz28_0 := blk_frozen BK277.out 0; have hfz28_1 := blk_frozen BK277.out 1; have p281 : 0 ≤ ((rd l0_1 x27_2) : Int) := oA; have q281 : (rd l0_1 x27_2) < (l0_1.length : Int) := oA; obtain ⟨ad281, e281, hx281_0⟩ := Kd.at_int (Kd.V_reads' HO_Z1.out).2.2 (rd l0_1 x27_2) p281 q281; obtain rfl : ad280 = ad281 := (by injection e281); replace p281 := eq_true p281; replace q281 := eq_true q281
             go_wp2
             (first | go_roundg k2 | (refine Handed.intro k2 ?measure ?_; rotate_left; go_step; (try simp only [add_plain]); (repeat apply Exists.intro); refine ⟨?rel, rfl⟩))
             case measure => have := HJ1.out; have := HK2.out; omega
             case rel => exact ⟨(wrap64 (x27_2 + 1)), rS, H', ⟨by have := HJ1.out; have := HK2.out; omega⟩, ⟨vU HO_25.out⟩, ⟨vU HO_Z0.out⟩, ⟨vU HO_Z1.out⟩, ⟨kU BK277.out⟩, ⟨bU1 HB.out GE277.out⟩⟩
            ·
             rw [if_neg c27] at H; have c27b0 := beq_eq_false_iff_ne.mpr c27; have c27b1 := bne_iff_ne.mpr c27; obtain rfl := Option.some.inj H; have p280 : 0 ≤ (x27_2 : Int) := oA; have q280 : x27_2 < (l0_1.length : Int) := oA; obtain ⟨ad280, e280, hx280_0⟩ := Kd.at_int (Kd.V_reads' HO_25.out).2.2 x27_2 p280 q280
             cases e280
             replace p280 := eq_true p280; replace q280 := eq_true q280; have hcz29_0 : wr.cell? ⟨gb277, 0, none⟩ = some (.slice A0_0 l0_0.length c0_0) := (blk_cell BK277.out 0).trans rfl; have hcz29_1 : wr.cell? ⟨gb277, 1, none⟩ = some (.slice (some ad280) l0_1.length c0_1) := (blk_cell BK277.out 1).trans rfl; have hfz29_0 := blk_frozen BK277.out 0; have hfz29_1 := blk_frozen BK277.out 1; have p281 : 0 ≤ ((rd l0_1 x27_2) : Int) := oA; have q281 : (rd l0_1 x27_2) < (l0_1.length : Int) := oA; obtain ⟨ad281, e281, hx281_0⟩ := Kd.at_int (Kd.V_reads' HO_Z1.out).2.2 (rd l0_1 x27_2) p281 q281; obtain rfl : ad280 = ad281 := (by injection e281); replace p281 := eq_true p281; replace q281 := eq_true q281
             go_wp2
             go_ret
             exact ⟨rE, bU1 HB.out GE277.out⟩
           ·
            rw [if_neg c26] at H
            exact absurd H (by simp)
          ·
           rw [if_neg c25] at H
           exact absurd H (by simp)
        ·
         rw [if_neg c23] at H
         exact absurd H (by simp)
       ·
        rw [if_neg c22] at H
        exact absurd H (by simp)
      ·
       rw [if_neg c21] at H; have c21b0 := decide_eq_false c21; clear c21; obtain ⟨y282, hy282⟩ : ∃ y_ : List (List Int), y_ = (([l0_0, l0_1] : List (List Int))) := ⟨_, rfl⟩; replace H : ((impl_orbits.f k2 y282).bind fun t285 => ((slices_Max_int_int.f k2 t285).bind fun t288 => (some (t288 == 0)))) = some r := hR hy282 H; have Ny282 := Az hy282; clear hy282; replace H := Option.bind_eq_some_iff.mp H; obtain ⟨t285, A300, H⟩ := H; replace H : ((slices_Max_int_int.f k2 t285).bind fun t288 => (some (t288 == 0))) = some r := H; have A30 := Az A300; clear A300; replace H := Option.bind_eq_some_iff.mp H; obtain ⟨t288, A310, H⟩ := H; replace H : (some (t288 == 0)) = some r := H; have A31 := Az A310; clear A310; obtain rfl := Option.some.inj H; have hcz32_0 : wr.cell? ⟨gb277, 0, none⟩ = some (.slice A0_0 l0_0.length c0_0) := (blk_cell BK277.out 0).trans rfl; have hcz32_1 : wr.cell? ⟨gb277, 1, none⟩ = some (.slice A0_1 l0_1.length c0_1) := (blk_cell BK277.out 1).trans rfl; have hfz32_0 := blk_frozen BK277.out 0; have hfz32_1 := blk_frozen BK277.out 1
       go_wp2_with (first | ((with_reducible refine gate_dst (N := 49) rfl ?_); (try (refine gate_guard (by rfl) ?_; dsimp only)); refine Kd.N_lit (Kd.slice 3 (Kd.int .i64)) _ 22 ?hg (N' := 49) ?hd (xs := ([l0_0, l0_1] : List (List Int))) (inner := [.slice A0_0 l0_0.length c0_0, .slice A0_1 l0_1.length c0_1]) (ok := (fun k_ => ((P0_0_ k_ ∨ P0_1_ k_) ∨ w.heap.size ≤ k_) ∧ k_ ≠ gb277)) (okp := (fun k_ => ((P0_0_ k_ ∨ P0_1_ k_) ∨ w.heap.size ≤ k_) ∧ k_ ≠ gb277)) ?hr ?hp (fun _ hk => hk) ((show ∀ k_, wr.heap.size ≤ k_ → (fun k_ => ((P0_0_ k_ ∨ P0_1_ k_) ∨ w.heap.size ≤ k_) ∧ k_ ≠ gb277) k_ from fun k_ hk => ⟨(.inr (Nat.le_trans (below_size (bU1 HB.out GE277.out)) hk)), Kd.freshB (g := gb277) (o := .cells #[.slice A0_0 l0_0.length c0_0, .slice A0_1 l0_1.length c0_1] 27 (0, 0)) (kU BK277.out) k_ hk⟩) _ (Nat.le_refl _)) (Below.refl _ _) (Nat.le_refl _) (by simp) ?_; (case hd => rfl); (case hg => rfl); (case hr => first | (go_simp; done) | (go_simp; rfl)); (case hp => exact (Reps.one (show Kd.FK (Kd.slice 3 (Kd.int .i64)) _ _ l0_0 [.slice A0_0 l0_0.length c0_0] from (Kd.FK_slice_mk (Kd.V_reads' (Kd.V_mono (ok' := (fun k_ => ((P0_0_ k_ ∨ P0_1_ k_) ∨ w.heap.size ≤ k_) ∧ k_ ≠ gb277)) (HO_Z0.out) (fun k_ hk => ⟨hk.1, hk.2⟩))).2.1 (Kd.V_F (Kd.V_mono (ok' := (fun k_ => ((P0_0_ k_ ∨ P0_1_ k_) ∨ w.heap.size ≤ k_) ∧ k_ ≠ gb277)) (HO_Z0.out) (fun k_ hk => ⟨hk.1, hk.2⟩))))) (Reps.one (show Kd.FK (Kd.slice 3 (Kd.int .i64)) _ _ l0_1 [.slice A0_1 l0_1.length c0_1] from (Kd.FK_slice_mk (Kd.V_reads' (Kd.V_mono (ok' := (fun k_ => ((P0_0_ k_ ∨ P0_1_ k_) ∨ w.heap.size ≤ k_) ∧ k_ ≠ gb277)) (HO_Z1.out) (fun k_ hk => ⟨hk.1, hk.2⟩))).2.1 (Kd.V_F (Kd.V_mono (ok' := (fun k_ => ((P0_0_ k_ ∨ P0_1_ k_) ∨ w.heap.size ≤ k_) ∧ k_ ≠ gb277)) (HO_Z1.out) (fun k_ hk => ⟨hk.1, hk.2⟩))))) (Reps.none _ _)))); intro v283 w33 ho34 hb hg_ hnew_; clear hg_ hnew_; (first | rw [← Ny282.out] at ho34 | (simp only [Int.reduceToNat] at ho34; rw [← Ny282.out] at ho34)); have n0 := Az (Kd.V_elder' (vU HO_25.out) (by first | exact Kd.N_base ho34 | exact Kd.S_base ho34 | exact Kd.R_base ho34) hb); have n1 := Az (Kd.V_elder' (vU HO_Z0.out) (by first | exact Kd.N_base ho34 | exact Kd.S_base ho34 | exact Kd.R_base ho34) hb); have n2 := Az (Kd.V_elder' (vU HO_Z1.out) (by first | exact Kd.N_base ho34 | exact Kd.S_base ho34 | exact Kd.R_base ho34) hb); have n3 := Az (Kd.N_lower ho34 (below_size (bU1 HB.out GE277.out))); have n4 := Az (blk_below (g := gb277) (o := .cells #[.slice A0_0 l0_0.length c0_0, .slice A0_1 l0_1.length c0_1] 27 (0, 0)) (kU BK277.out) hb); have n5 := Az (below_step (bU1 HB.out GE277.out) hb); clear HO_25 HO_Z0 HO_Z1 BK277 HB; have HO_25 := n0; have HO_Z0 := n1; have HO_Z1 := n2; have HO284 := n3; have BK277 := n4; have HB := n5; clear n0 n1 n2 n3 n4 n5 hb ho34; obtain ⟨Ao35, co35, eo35⟩ := Kd.N_slice HO284.out; subst eo35) | ((with_reducible refine gate_callee (f := 86) rfl ?_); refine goesL_ (some 50) rfl rfl Try.func86 (by kernel_rfl) rfl #[.slice Ao35 y282.length co35] rfl (by (try simp only [List.map_toArray, List.map_cons, List.map_nil]); first | done | rfl | (simp only [List.length_drop, List.length_take]; rfl)) ?_; (with_reducible refine (impl_orbits.calls k2 _ _ y282 t285 _ ?side1 ?side2 A30.out).mono ?_); (case side1 => exact cU ((Kd.N_reads' HO284.out).2.2)); (case side2 => exact (Kd.N_reads' HO284.out).2.1); rintro e w36 ⟨v286, rfl, ho0, hb⟩; refine ⟨_, rfl, ?_⟩; have n0 := Az (Kd.V_elder' (vU HO_25.out) (Kd.R_base ho0) hb); have n1 := Az (Kd.V_elder' (vU HO_Z0.out) (Kd.R_base ho0) hb); have n2 := Az (Kd.V_elder' (vU HO_Z1.out) (Kd.R_base ho0) hb); have n3 := Az (Kd.N_elder' (nU HO284.out) (Kd.R_base ho0) hb); have n4 := Az (Kd.R_lower (Kd.R_newM (M := fun k_ => (w.heap.size ≤ k_)) ho0 (below_size (bU1 HB.out GE277.out)) (fun k_ h_ => h_)) (below_size (bU1 HB.out GE277.out))); have n5 := Az (blk_below (g := gb277) (o := .cells #[.slice A0_0 l0_0.length c0_0, .slice A0_1 l0_1.length c0_1] 27 (0, 0)) (kU BK277.out) hb); have n6 := Az (below_step (bU1 HB.out GE277.out) hb); clear HO_25 HO_Z0 HO_Z1 HO284 BK277 HB; have HO_25 := n0; have HO_Z0 := n1; have HO_Z1 := n2; have HO284 := n3; have HO287 := n4; have BK277 := n5; have HB := n6; clear n0 n1 n2 n3 n4 n5 n6; (try clear hb); (try clear hb2); (try clear hk); (try clear hi); (try clear ho0); obtain ⟨Ao37, co37, eo37⟩ := Kd.R_slice HO287.out; subst eo37) | ((with_reducible refine gate_callee (f := 85) rfl ?_); refine goesL_ (some 51) rfl rfl Try.func85 (by kernel_rfl) rfl #[.slice Ao37 t285.length co37] rfl (by (try simp only [List.map_toArray, List.map_cons, List.map_nil]); first | done | rfl | (simp only [List.length_drop, List.length_take]; rfl)) ?_; (with_reducible refine (slices_Max_int_int.calls k2 _ _ t285 t288 _ ?side1 ?side2 A31.out).mono ?_); (case side1 => exact cU ((Kd.R_reads' HO287.out).2.2)); (case side2 => exact (Kd.R_reads' HO287.out).2.1); rintro e w38 ⟨rfl, hb⟩; refine ⟨_, rfl, ?_⟩; have n0 := Az (Kd.V_below (vU HO_25.out) hb); have n1 := Az (Kd.V_below (vU HO_Z0.out) hb); have n2 := Az (Kd.V_below (vU HO_Z1.out) hb); have n3 := Az (Kd.N_below (nU HO284.out) hb); have n4 := Az (Kd.R_below (rU HO287.out) hb); have n5 := Az (blk_below (g := gb277) (o := .cells #[.slice A0_0 l0_0.length c0_0, .slice A0_1 l0_1.length c0_1] 27 (0, 0)) (kU BK277.out) hb); have n6 := Az (below_step (bU1 HB.out GE277.out) hb); clear HO_25 HO_Z0 HO_Z1 HO284 HO287 BK277 HB; have HO_25 := n0; have HO_Z0 := n1; have HO_Z1 := n2; have HO284 := n3; have HO287 := n4; have BK277 := n5; have HB := n6; clear n0 n1 n2 n3 n4 n5 n6; (try clear hb); (try clear hb2); (try clear hk); (try clear hi)))
       go_ret
       exact ⟨rE, bU1 HB.out GE277.out⟩
def impl_ChoiceValid.l0 : Nat → List Int → List Int → Int → Int → List Int → List Int → Option (Bool)
 | 0, _, _, _, _, _, _ => none
 | k + 1, x1, x10, x11, x12, xZ0, xZ1 => if x12 < x11 then (if 0 ≤ x12 then (if x12 < (x10.length : Int) then (if (rd x10 x12) < 0 then (some false) else (if (rd x10 x12) ≥ (wrap64 ((xZ1.length : Int) / 2)) then (some false) else (if x12 > 0 then (if 0 ≤ (wrap64 (x12 - 1)) then (if (wrap64 (x12 - 1)) < (x1.length : Int) then (if (rd x10 x12) ≤ (rd x1 (wrap64 (x12 - 1))) then (some false) else (impl_ChoiceValid.l0 k x1 x10 x11 (wrap64 (x12 + 1)) xZ0 xZ1)) else (none)) else (none)) else (impl_ChoiceValid.l0 k x1 x10 x11 (wrap64 (x12 + 1)) xZ0 xZ1)))) else (none)) else (none)) else (some true)
def impl_ChoiceValid.f (k : Nat) (l0_0 : List Int) (l0_1 : List Int) (l1 : List Int) : Option (Bool) := (impl_MapValid.f k l0_0 l0_1).bind fun t290 => (if t290 = true then (impl_ChoiceValid.l0 k l1 l1 (l1.length : Int) 0 l0_0 l0_1) else (some false))
set_option maxHeartbeats 8000000 in
set_option maxRecDepth 100000 in
theorem impl_ChoiceValid.calls (k : Nat) (A0_0 : Option Addr) (c0_0 : Nat) (l0_0 : List Int) (A0_1 : Option Addr) (c0_1 : Nat) (l0_1 : List Int) (A1 : Option Addr) (c1 : Nat) (l1 : List Int) (r : Bool) (w : World) (hr0_0 : Kd.C (Kd.int .i64) w A0_0 l0_0.length l0_0) (hc0_0 : l0_0.length ≤ c0_0) (hr0_1 : Kd.C (Kd.int .i64) w A0_1 l0_1.length l0_1) (hc0_1 : l0_1.length ≤ c0_1) (hr1 : Kd.C (Kd.int .i64) w A1 l1.length l1) (hc1 : l1.length ≤ c1) (h : impl_ChoiceValid.f k l0_0 l0_1 l1 = some r) :
  Calls Try.prog 19 #[.agg #[.slice A0_0 l0_0.length c0_0, .slice A0_1 l0_1.length c0_1], .slice A1 l1.length c1] w fun e w' => e = .returned (.bool r) ∧ Below w.heap.size w w' := by
 have hu27 := Try.underlying27; have HR0_0 := Az hr0_0; have HC0_0 := Az hc0_0; clear hr0_0 hc0_0; have HR0_1 := Az hr0_1; have HC0_1 := Az hc0_1; clear hr0_1 hc0_1; have HR1 := Az hr1; have HC1 := Az hc1; clear hr1 hc1; have HB := Az (Below.refl w.heap.size w); have H : ((impl_MapValid.f k l0_0 l0_1).bind fun t290 => (if t290 = true then (impl_ChoiceValid.l0 k l1 l1 (l1.length : Int) 0 l0_0 l0_1) else (some false))) = some r := h; clear h; replace H := Option.bind_eq_some_iff.mp H; obtain ⟨t290, A30, H⟩ := H; replace H : (if t290 = true then (impl_ChoiceValid.l0 k l1 l1 (l1.length : Int) 0 l0_0 l0_1) else (some false)) = some r := H; have A3 := Az A30; clear A30
 by_cases c4 : t290 = true
 ·
  subst c4
  have H1 : (impl_ChoiceValid.l0 k l1 l1 (l1.length : Int) 0 l0_0 l0_1) = some r := by rw [if_pos rfl] at H; exact H
  clear H; have H := H1; clear H1; have H' := Az H; clear H
  go_enter Try.func19, Try.ntmps19
  go_wp2_with (first | ((with_reducible refine gate_dst (N := 2) rfl ?_); (try (refine gate_guard (by rfl) ?_; dsimp only)); refine box_event ?hg (N := 2) ?hd (cs := #[.slice A0_0 l0_0.length c0_0, .slice A0_1 l0_1.length c0_1]) (t := 27) ?hr ?_; (case hd => rfl); (case hg => rfl); (case hr => first | (go_simp; done) | (go_simp; rfl)); intro gb289 hg w5 hbox hb; have n0 := Az (below_step (bU0 HB.out) hb); have n1 := Az (hbox); have n2 := Az ((by rw [hg]; exact (below_size (bU0 HB.out)) : w.heap.size ≤ gb289)); have n3 := n2; clear HB; have HB := n0; have BK289 := n1; have GW289 := n2; have GE289 := n3; clear n0 n1 n2 n3 hb hbox hg; have hcz6_0 : w5.cell? ⟨gb289, 0, none⟩ = some (.slice A0_0 l0_0.length c0_0) := (blk_cell BK289.out 0).trans rfl; have hcz6_1 : w5.cell? ⟨gb289, 1, none⟩ = some (.slice A0_1 l0_1.length c0_1) := (blk_cell BK289.out 1).trans rfl; have hfz6_0 := blk_frozen BK289.out 0; have hfz6_1 := blk_frozen BK289.out 1) | ((with_reducible refine gate_callee (f := 51) rfl ?_); refine goesL_ (some 8) rfl rfl Try.func51 (by kernel_rfl) rfl #[.agg #[.slice A0_0 l0_0.length c0_0, .slice A0_1 l0_1.length c0_1]] rfl (by (try simp only [List.map_toArray, List.map_cons, List.map_nil]); first | done | rfl | (simp only [List.length_drop, List.length_take]; rfl)) ?_; (with_reducible refine (impl_MapValid.calls k (fun k_ => k_ < w.heap.size) _ _ l0_0 (fun k_ => k_ < w.heap.size) _ _ l0_1 true _ ?side1 ?side2 A3.out).mono ?_); (case side1 => exact Kd.V_mk HC0_0.out (Kd.F_below (Kd.C_F (Kd.heap_int .i64) HR0_0.out) (bU1 HB.out GE289.out))); (case side2 => exact Kd.V_mk HC0_1.out (Kd.F_below (Kd.C_F (Kd.heap_int .i64) HR0_1.out) (bU1 HB.out GE289.out))); rintro e w7 ⟨rfl, hb⟩; refine ⟨_, rfl, ?_⟩; have n0 := Az (blk_below (g := gb289) (o := .cells #[.slice A0_0 l0_0.length c0_0, .slice A0_1 l0_1.length c0_1] 27 (0, 0)) (kU BK289.out) hb); have n1 := Az (below_step (bU1 HB.out GE289.out) hb); clear BK289 HB; have BK289 := n0; have HB := n1; clear n0 n1; (try clear hb); (try clear hb2); (try clear hk); (try clear hi)))
  go_loopg [12] k (fun kq v12 w' => ∃ (x12_1 : Int), v12 = .int .i64 x12_1 ∧ Aside0 (impl_ChoiceValid.l0 kq l1 l1 (l1.length : Int) x12_1 l0_0 l0_1 = some r) ∧ Aside0 (kq ≤ k) ∧ Aside0 (w'.heap[gb289]? = some (.cells #[(.slice A0_0 l0_0.length c0_0), (.slice A0_1 l0_1.length c0_1)] 27 (0, 0))) ∧ Aside0 (Below w.heap.size w w'))
  case atStart => exact ⟨(0), rS, H', ⟨Nat.le_refl _⟩, ⟨kU BK289.out⟩, ⟨bU1 HB.out GE289.out⟩⟩
  case round =>
   clear H'; (try clear c1); (try clear p2); (try clear c4); (try clear c5); (try clear hcz6_0); (try clear hcz6_1); (try clear hfz6_0); (try clear hfz6_1); obtain ⟨x12_1, rfl, HA, HK1, BK289, HB⟩ := hrel
   cases gk with
   | zero => exact absurd HA.out (by simp [impl_ChoiceValid.l0])
   | succ k1 =>
    have H := HA.out; clear HA; simp only [impl_ChoiceValid.l0] at H
    by_cases c8 : x12_1 < (l1.length : Int)
    ·
     rw [if_pos c8] at H; have c8b0 := decide_eq_true c8; clear c8
     by_cases c9 : 0 ≤ x12_1
     ·
      rw [if_pos c9] at H; have c9b0 := decide_eq_true c9; clear c9
      by_cases c10 : x12_1 < (l1.length : Int)
      ·
       rw [if_pos c10] at H; have c10b0 := decide_eq_true c10; clear c10
       by_cases c11 : (rd l1 x12_1) < 0
       ·
        rw [if_pos c11] at H; have c11b0 := decide_eq_true c11; clear c11; obtain rfl := Option.some.inj H; have p291 : 0 ≤ (x12_1 : Int) := oA; have q291 : x12_1 < (l1.length : Int) := oA; obtain ⟨ad291, e291, hx291_0⟩ := Kd.at_int HR1.out x12_1 p291 q291
        cases e291
        (try replace hx291_0 := (HB.out.cell (World.block_lt_of_cell? w _ hx291_0)).trans hx291_0); replace p291 := eq_true p291; replace q291 := eq_true q291
        go_wp2
        go_ret
        exact ⟨rE, bU1 HB.out GE289.out⟩
       ·
        rw [if_neg c11] at H; have c11b0 := decide_eq_false c11; clear c11
        by_cases c12 : (rd l1 x12_1) ≥ (wrap64 ((l0_1.length : Int) / 2))
        ·
         rw [if_pos c12] at H; have c12b0 := decide_eq_true c12; clear c12; obtain rfl := Option.some.inj H; have p291 : 0 ≤ (x12_1 : Int) := oA; have q291 : x12_1 < (l1.length : Int) := oA; obtain ⟨ad291, e291, hx291_0⟩ := Kd.at_int HR1.out x12_1 p291 q291
         cases e291
         (try replace hx291_0 := (HB.out.cell (World.block_lt_of_cell? w _ hx291_0)).trans hx291_0); replace p291 := eq_true p291; replace q291 := eq_true q291; have hcz13_0 : wr.cell? ⟨gb289, 0, none⟩ = some (.slice A0_0 l0_0.length c0_0) := (blk_cell BK289.out 0).trans rfl; have hcz13_1 : wr.cell? ⟨gb289, 1, none⟩ = some (.slice A0_1 l0_1.length c0_1) := (blk_cell BK289.out 1).trans rfl; have hfz13_0 := blk_frozen BK289.out 0; have hfz13_1 := blk_frozen BK289.out 1
         go_wp2
         go_ret
         exact ⟨rE, bU1 HB.out GE289.out⟩
        ·
         rw [if_neg c12] at H; have c12b0 := decide_eq_false c12; clear c12
         by_cases c14 : x12_1 > 0
         ·
          rw [if_pos c14] at H; have c14b0 := decide_eq_true c14; clear c14; obtain ⟨ji15, hji15⟩ : ∃ j_ : Int, (wrap64 (x12_1 - 1)) = j_ := ⟨_, rfl⟩
          replace H : (if 0 ≤ (ji15) then (if (ji15) < (l1.length : Int) then (if (rd l1 x12_1) ≤ (rd l1 (ji15)) then (some false) else (impl_ChoiceValid.l0 k1 l1 l1 (l1.length : Int) (wrap64 (x12_1 + 1)) l0_0 l0_1)) else (none)) else (none)) = some r := by first | (rw [hji15] at H; exact H) | (simp only [hji15] at H ⊢; exact H)
          have hji15w : (IntKind.i64.wrap (x12_1 - 1)) = ji15 := (i64_w _).trans hji15
          by_cases c16 : 0 ≤ (ji15)
          ·
           rw [if_pos c16] at H; have c16b0 := decide_eq_true c16; clear c16
           by_cases c17 : (ji15) < (l1.length : Int)
           ·
            rw [if_pos c17] at H; have c17b0 := decide_eq_true c17; clear c17
            by_cases c18 : (rd l1 x12_1) ≤ (rd l1 (ji15))
            ·
             rw [if_pos c18] at H; have c18b0 := decide_eq_true c18; clear c18; obtain rfl := Option.some.inj H; have p291 : 0 ≤ (x12_1 : Int) := oA; have q291 : x12_1 < (l1.length : Int) := oA; obtain ⟨ad291, e291, hx291_0⟩ := Kd.at_int HR1.out x12_1 p291 q291
             cases e291
             (try replace hx291_0 := (HB.out.cell (World.block_lt_of_cell? w _ hx291_0)).trans hx291_0); replace p291 := eq_true p291; replace q291 := eq_true q291; have hcz19_0 : wr.cell? ⟨gb289, 0, none⟩ = some (.slice A0_0 l0_0.length c0_0) := (blk_cell BK289.out 0).trans rfl; have hcz19_1 : wr.cell? ⟨gb289, 1, none⟩ = some (.slice A0_1 l0_1.length c0_1) := (blk_cell BK289.out 1).trans rfl; have hfz19_0 := blk_frozen BK289.out 0; have hfz19_1 := blk_frozen BK289.out 1; have p292 : 0 ≤ ((ji15) : Int) := oA; have q292 : (ji15) < (l1.length : Int) := oA; obtain ⟨ad292, e292, hx292_0⟩ := Kd.at_int HR1.out (ji15) p292 q292; obtain rfl : ad291 = ad292 := (by injection e292); (try replace hx292_0 := (HB.out.cell (World.block_lt_of_cell? w _ hx292_0)).trans hx292_0); replace p292 := eq_true p292; replace q292 := eq_true q292
             go_wp2
             go_ret
             exact ⟨by first | rfl | (simp [errW_none, errW_some] <;> rfl) | (simp only [← hji15]; first | rfl | (simp [errW_none, errW_some] <;> rfl)) | (simp [*, errW_none, errW_some] <;> rfl), bU1 HB.out GE289.out⟩
            ·
             rw [if_neg c18] at H; have c18b0 := decide_eq_false c18; clear c18; have H' := Az H; clear H; have p291 : 0 ≤ (x12_1 : Int) := oA; have q291 : x12_1 < (l1.length : Int) := oA; obtain ⟨ad291, e291, hx291_0⟩ := Kd.at_int HR1.out x12_1 p291 q291
             cases e291
             (try replace hx291_0 := (HB.out.cell (World.block_lt_of_cell? w _ hx291_0)).trans hx291_0); replace p291 := eq_true p291; replace q291 := eq_true q291; have hcz20_0 : wr.cell? ⟨gb289, 0, none⟩ = some (.slice A0_0 l0_0.length c0_0) := (blk_cell BK289.out 0).trans rfl; have hcz20_1 : wr.cell? ⟨gb289, 1, none⟩ = some (.slice A0_1 l0_1.length c0_1) := (blk_cell BK289.out 1).trans rfl; have hfz20_0 := blk_frozen BK289.out 0; have hfz20_1 := blk_frozen BK289.out 1; have p292 : 0 ≤ ((ji15) : Int) := oA; have q292 : (ji15) < (l1.length : Int) := oA; obtain ⟨ad292, e292, hx292_0⟩ := Kd.at_int HR1.out (ji15) p292 q292; obtain rfl : ad291 = ad292 := (by injection e292); (try replace hx292_0 := (HB.out.cell (World.block_lt_of_cell? w _ hx292_0)).trans hx292_0); replace p292 := eq_true p292; replace q292 := eq_true q292
             go_wp2
             (first | go_roundg k1 | (refine Handed.intro k1 ?measure ?_; rotate_left; go_step; (try simp only [add_plain]); (repeat apply Exists.intro); refine ⟨?rel, rfl⟩))
             case measure => have := HK1.out; omega
             case rel => exact ⟨(wrap64 (x12_1 + 1)), rS, H', ⟨by have := HK1.out; omega⟩, ⟨kU BK289.out⟩, ⟨bU1 HB.out GE289.out⟩⟩
           ·
            rw [if_neg c17] at H
            exact absurd H (by simp)
          ·
           rw [if_neg c16] at H
           exact absurd H (by simp)
         ·
          rw [if_neg c14] at H; have c14b0 := decide_eq_false c14; clear c14; have H' := Az H; clear H; have p291 : 0 ≤ (x12_1 : Int) := oA; have q291 : x12_1 < (l1.length : Int) := oA; obtain ⟨ad291, e291, hx291_0⟩ := Kd.at_int HR1.out x12_1 p291 q291
          cases e291
          (try replace hx291_0 := (HB.out.cell (World.block_lt_of_cell? w _ hx291_0)).trans hx291_0); replace p291 := eq_true p291; replace q291 := eq_true q291; have hcz21_0 : wr.cell? ⟨gb289, 0, none⟩ = some (.slice A0_0 l0_0.length c0_0) := (blk_cell BK289.out 0).trans rfl; have hcz21_1 : wr.cell? ⟨gb289, 1, none⟩ = some (.slice A0_1 l0_1.length c0_1) := (blk_cell BK289.out 1).trans rfl; have hfz21_0 := blk_frozen BK289.out 0; have hfz21_1 := blk_frozen BK289.out 1
          go_wp2
          (first | go_roundg k1 | (refine Handed.intro k1 ?measure ?_; rotate_left; go_step; (try simp only [add_plain]); (repeat apply Exists.intro); refine ⟨?rel, rfl⟩))
          case measure => have := HK1.out; omega
          case rel => exact ⟨(wrap64 (x12_1 + 1)), rS, H', ⟨by have := HK1.out; omega⟩, ⟨kU BK289.out⟩, ⟨bU1 HB.out GE289.out⟩⟩
      ·
       rw [if_neg c10] at H
       exact absurd H (by simp)
     ·
      rw [if_neg c9] at H
      exact absurd H (by simp)
    ·
     rw [if_neg c8] at H; have c8b0 := decide_eq_false c8; clear c8; obtain rfl := Option.some.inj H
     go_wp2
     go_ret
     exact ⟨rE, bU1 HB.out GE289.out⟩
 ·
  replace c4 := Bool.eq_false_iff.mpr c4; subst c4
  have H1 : (some false) = some r := by rw [if_neg (show ¬ (false = true) by decide)] at H; exact H
  clear H; have H := H1; clear H1; obtain rfl := Option.some.inj H
  go_enter Try.func19, Try.ntmps19
  go_wp2_with (first | ((with_reducible refine gate_dst (N := 2) rfl ?_); (try (refine gate_guard (by rfl) ?_; dsimp only)); refine box_event ?hg (N := 2) ?hd (cs := #[.slice A0_0 l0_0.length c0_0, .slice A0_1 l0_1.length c0_1]) (t := 27) ?hr ?_; (case hd => rfl); (case hg => rfl); (case hr => first | (go_simp; done) | (go_simp; rfl)); intro gb289 hg w22 hbox hb; have n0 := Az (below_step (bU0 HB.out) hb); have n1 := Az (hbox); have n2 := Az ((by rw [hg]; exact (below_size (bU0 HB.out)) : w.heap.size ≤ gb289)); have n3 := n2; clear HB; have HB := n0; have BK289 := n1; have GW289 := n2; have GE289 := n3; clear n0 n1 n2 n3 hb hbox hg; have hcz23_0 : w22.cell? ⟨gb289, 0, none⟩ = some (.slice A0_0 l0_0.length c0_0) := (blk_cell BK289.out 0).trans rfl; have hcz23_1 : w22.cell? ⟨gb289, 1, none⟩ = some (.slice A0_1 l0_1.length c0_1) := (blk_cell BK289.out 1).trans rfl; have hfz23_0 := blk_frozen BK289.out 0; have hfz23_1 := blk_frozen BK289.out 1) | ((with_reducible refine gate_callee (f := 51) rfl ?_); refine goesL_ (some 8) rfl rfl Try.func51 (by kernel_rfl) rfl #[.agg #[.slice A0_0 l0_0.length c0_0, .slice A0_1 l0_1.length c0_1]] rfl (by (try simp only [List.map_toArray, List.map_cons, List.map_nil]); first | done | rfl | (simp only [List.length_drop, List.length_take]; rfl)) ?_; (with_reducible refine (impl_MapValid.calls k (fun k_ => k_ < w.heap.size) _ _ l0_0 (fun k_ => k_ < w.heap.size) _ _ l0_1 false _ ?side1 ?side2 A3.out).mono ?_); (case side1 => exact Kd.V_mk HC0_0.out (Kd.F_below (Kd.C_F (Kd.heap_int .i64) HR0_0.out) (bU1 HB.out GE289.out))); (case side2 => exact Kd.V_mk HC0_1.out (Kd.F_below (Kd.C_F (Kd.heap_int .i64) HR0_1.out) (bU1 HB.out GE289.out))); rintro e w24 ⟨rfl, hb⟩; refine ⟨_, rfl, ?_⟩; have n0 := Az (blk_below (g := gb289) (o := .cells #[.slice A0_0 l0_0.length c0_0, .slice A0_1 l0_1.length c0_1] 27 (0, 0)) (kU BK289.out) hb); have n1 := Az (below_step (bU1 HB.out GE289.out) hb); clear BK289 HB; have BK289 := n0; have HB := n1; clear n0 n1; (try clear hb); (try clear hb2); (try clear hk); (try clear hi)))
  go_ret
  exact ⟨rE, bU1 HB.out GE289.out⟩
mutual
def impl_cyclesOf.l0 : Nat → List Int → List (List Int) → List Bool → Int → Int → Option ((List (List Int)))
 | 0, _, _, _, _, _ => none
 | k + 1, x0, x3, x4, x13, x14 => if x14 < x13 then (impl_cyclesOf.l1 k x0 x3 x4 (([] : List Int)) x14 x13 x14) else (some x3)
def impl_cyclesOf.l1 : Nat → List Int → List (List Int) → List Bool → List Int → Int → Int → Int → Option ((List (List Int)))
 | 0, _, _, _, _, _, _, _ => none
 | k + 1, x0, x3, x4, x6, x7, x13, x14 => if 0 ≤ x7 then (if x7 < (x4.length : Int) then (if rdOf false x4 x7 = true then (if (x6.length : Int) > 0 then (if x3.length < 5864062014805 then (impl_cyclesOf.l0 k x0 (x3 ++ [x6]) x4 x13 (wrap64 (x14 + 1))) else (none)) else (impl_cyclesOf.l0 k x0 x3 x4 x13 (wrap64 (x14 + 1)))) else (if x6.length < 17592186044416 then (if x7 < (x0.length : Int) then (impl_cyclesOf.l1 k x0 x3 (x4.set (x7 : Int).toNat true) (x6 ++ [x7]) (rd x0 x7) x13 x14) else (none)) else (none))) else (none)) else (none)
end
def impl_cyclesOf.f (k : Nat) (l0 : List Int) : Option ((List (List Int))) := if 0 ≤ (l0.length : Int) then (if ((l0.length : Int) : Int).toNat ≤ 281474976710656 then (impl_cyclesOf.l0 k l0 (([] : List (List Int))) (List.replicate ((l0.length : Int) : Int).toNat false) (l0.length : Int) 0) else (none)) else (none)
set_option maxHeartbeats 8000000 in
set_option maxRecDepth 100000 in
theorem impl_cyclesOf.calls (k : Nat) (A0 : Option Addr) (c0 : Nat) (l0 : List Int) (r : List (List Int)) (w : World) (hr0 : Kd.C (Kd.int .i64) w A0 l0.length l0) (hc0 : l0.length ≤ c0) (h : impl_cyclesOf.f k l0 = some r) :
  Calls Try.prog 62 #[.slice A0 l0.length c0] w fun e w' => ∃ v0_ : Value, e = .returned (v0_) ∧ Kd.S (Kd.slice 3 (Kd.int .i64)) 22 w' w.heap.size (fun _ => True) v0_ r ∧ Below w.heap.size w w' := by
 have HR0 := Az hr0; have HC0 := Az hc0; clear hr0 hc0; have HB := Az (Below.refl w.heap.size w); have H : (if 0 ≤ (l0.length : Int) then (if ((l0.length : Int) : Int).toNat ≤ 281474976710656 then (impl_cyclesOf.l0 k l0 (([] : List (List Int))) (List.replicate ((l0.length : Int) : Int).toNat false) (l0.length : Int) 0) else (none)) else (none)) = some r := h; clear h; obtain ⟨y293, hy293⟩ : ∃ y_ : List (List Int), y_ = (([] : List (List Int))) := ⟨_, rfl⟩; replace H : (if 0 ≤ (l0.length : Int) then (if ((l0.length : Int) : Int).toNat ≤ 281474976710656 then (impl_cyclesOf.l0 k l0 y293 (List.replicate ((l0.length : Int) : Int).toNat false) (l0.length : Int) 0) else (none)) else (none)) = some r := hR hy293 H; have Ny293 := Az hy293; clear hy293
 by_cases c2 : 0 ≤ (l0.length : Int)
 ·
  rw [if_pos c2] at H; have c2b0 := eq_true c2; have c2b1 := decide_eq_true c2; clear c2
  by_cases c3 : ((l0.length : Int) : Int).toNat ≤ 281474976710656
  ·
   rw [if_pos c3] at H; have c3b0 := eq_true c3; have c3b1 := decide_eq_true c3; clear c3; obtain ⟨y296, hy296⟩ : ∃ y_ : List Bool, y_ = (List.replicate ((l0.length : Int) : Int).toNat false) := ⟨_, rfl⟩; replace H : (impl_cyclesOf.l0 k l0 y293 y296 (l0.length : Int) 0) = some r := hR hy296 H; have Ny296 := Az hy296; clear hy296; have H' := Az H; clear H
   go_enter Try.func62, Try.ntmps62
   go_wp2_with (first | ((with_reducible refine gate_dst (N := 8) rfl ?_); refine Kd.S_lit (Kd.slice 3 (Kd.int .i64)) _ 22 ?hg (N := 8) ?hd (xs := ([] : List (List Int))) (inner := []) (ok := fun _ => True) (okp := fun _ => True) ?hr ?hp (fun _ hk => hk) trivial (Below.refl _ _) (Nat.le_refl _) (by simp) ?_; (case hd => rfl); (case hg => rfl); (case hr => first | (go_simp; done) | (go_simp; rfl)); (case hp => exact (Reps.none _ _)); intro v294 w4 ho5 hb hg_ hnew_; clear hg_ hnew_; (first | rw [← Ny293.out] at ho5 | (simp only [Int.reduceToNat] at ho5; rw [← Ny293.out] at ho5)); have n0 := Az (Kd.S_lower ho5 (below_size (bU0 HB.out))); have n1 := Az (below_step (bU0 HB.out) hb); clear HB; have HO295 := n0; have HB := n1; clear n0 n1; clear hb ho5) | ((with_reducible refine gate_dst (N := 11) rfl ?_); refine Kd.R_make Kd.bool _ 4 rfl (N := 11) rfl 67 _ _ rfl (l0.length : Int) rfl rfl Try.underlying67 (.bool false) 1 info4 rfl (by decide) (by omega) false (ok := fun _ => True) (okp := fun _ => True) rfl (fun _ hk => hk) trivial (oA) (Nat.le_trans (Nat.mul_le_mul_right _ (oA : (l0.length : Int).toNat ≤ 281474976710656)) (by omega)) (Below.refl _ _) (Nat.le_refl _) ?_; intro v297 w6 ho7 hb hg_ hnew_; clear hg_ hnew_; (first | rw [← Ny296.out] at ho7 | (simp only [Int.reduceToNat] at ho7; rw [← Ny296.out] at ho7)); have n0 := Az (Kd.S_below (sU HO295.out) hb); have n1 := Az (Kd.R_lower ho7 (below_size (bU0 HB.out))); have n2 := Az (below_step (bU0 HB.out) hb); clear HO295 HB; have HO295 := n0; have HO298 := n1; have HB := n2; clear n0 n1 n2; clear hb ho7))
   go_loopg [3, 14] k (fun kq v3 v14 w' => ∃ (x3_1 : List (List Int)) (x4_1 : List Bool) (x14_1 : Int), v14 = .int .i64 x14_1 ∧ Aside0 (impl_cyclesOf.l0 kq l0 x3_1 x4_1 (l0.length : Int) x14_1 = some r) ∧ Aside0 (kq ≤ k) ∧ Aside0 (Kd.S (Kd.slice 3 (Kd.int .i64)) 22 w' w.heap.size (fun _ => True) v3 x3_1) ∧ Aside0 (Kd.R Kd.bool 4 w' w.heap.size (fun _ => True) v297 x4_1) ∧ Aside0 (Below w.heap.size w w'))
   case atStart => exact ⟨(y293), (y296), (0), rS, H', ⟨Nat.le_refl _⟩, ⟨sU HO295.out⟩, ⟨rU HO298.out⟩, ⟨bU0 HB.out⟩⟩
   case round =>
    clear H'; (try clear c2); (try clear c2b0); (try clear c2b1); (try clear p2); (try clear c3); (try clear c3b0); (try clear c3b1); (try clear c6); obtain ⟨x3_1, x4_1, x14_1, rfl, HA, HK1, HO_3, HO_4, HB⟩ := hrel
    cases gk with
    | zero => exact absurd HA.out (by simp [impl_cyclesOf.l0])
    | succ k1 =>
     have H := HA.out; clear HA; simp only [impl_cyclesOf.l0] at H
     by_cases c8 : x14_1 < (l0.length : Int)
     ·
      rw [if_pos c8] at H; have c8b0 := decide_eq_true c8; clear c8; obtain ⟨y299, hy299⟩ : ∃ y_ : List Int, y_ = (([] : List Int)) := ⟨_, rfl⟩; replace H : (impl_cyclesOf.l1 k1 l0 x3_1 x4_1 y299 x14_1 (l0.length : Int) x14_1) = some r := hR hy299 H; have Ny299 := Az hy299; clear hy299; have H' := Az H; clear H
      go_wp2_with (first | ((with_reducible refine gate_dst (N := 17) rfl ?_); refine Kd.R_lit (Kd.int .i64) _ 3 ?hg (N := 17) ?hd (xs := ([] : List Int)) (inner := []) (ok := fun _ => True) (okp := fun _ => True) ?hr ?hp (fun _ hk => hk) trivial (Below.refl _ _) (Nat.le_refl _) (by simp) ?_; (case hd => rfl); (case hg => rfl); (case hr => first | (go_simp; done) | (go_simp; rfl)); (case hp => exact (Reps.none _ _)); intro v300 w9 ho10 hb hg_ hnew_; clear hg_ hnew_; (first | rw [← Ny299.out] at ho10 | (simp only [Int.reduceToNat] at ho10; rw [← Ny299.out] at ho10)); have n0 := Az (Kd.S_elder' (sU HO_3.out) (Kd.R_base ho10) hb); have n1 := Az (Kd.R_below (rU HO_4.out) hb); have n2 := Az (Kd.R_lower ho10 (below_size (bU0 HB.out))); have n3 := Az (below_step (bU0 HB.out) hb); clear HO_3 HO_4 HB; have HO_3 := n0; have HO_4 := n1; have HO301 := n2; have HB := n3; clear n0 n1 n2 n3; clear hb ho10))
      go_loopg [6, 7] k1 (fun kq v6 v7 w' => ∃ (x4_2 : List Bool) (x6_2 : List Int) (x7_2 : Int), v7 = .int .i64 x7_2 ∧ Aside0 (impl_cyclesOf.l1 kq l0 x3_1 x4_2 x6_2 x7_2 (l0.length : Int) x14_1 = some r) ∧ Aside0 (kq ≤ k1) ∧ Aside0 (Kd.S (Kd.slice 3 (Kd.int .i64)) 22 w' w.heap.size (fun k_ => some k_ ≠ (v6 : Value).ownBlock) u3 x3_1) ∧ Aside0 (Kd.R Kd.bool 4 w' w.heap.size (fun _ => True) v297 x4_2) ∧ Aside0 (Kd.R (Kd.int .i64) 3 w' w.heap.size (fun _ => True) v6 x6_2) ∧ Aside0 (Below w.heap.size w w'))
      case atStart => exact ⟨(x4_1), (y299), (x14_1), rS, H', ⟨Nat.le_refl _⟩, ⟨by (with_reducible repeat (first | apply Kd.S_alloc | apply Kd.S_drewN | apply Kd.S_drew)); exact Kd.S_mono HO_3.out (fun _ hk => hk.2)⟩, ⟨rU HO_4.out⟩, ⟨rU HO301.out⟩, ⟨bU0 HB.out⟩⟩
      case round =>
       clear H'; (try clear c2); (try clear c2b0); (try clear c2b1); (try clear p2); (try clear c3); (try clear c3b0); (try clear c3b1); (try clear c6); (try clear c8); (try clear c8b0); (try clear p2); obtain ⟨x4_2, x6_2, x7_2, rfl, HA, HK2, HO_3, HO_4, HO_6, HB⟩ := hrel
       cases gk with
       | zero => exact absurd HA.out (by simp [impl_cyclesOf.l1])
       | succ k2 =>
        have H := HA.out; clear HA; simp only [impl_cyclesOf.l1] at H
        by_cases c11 : 0 ≤ x7_2
        ·
         rw [if_pos c11] at H; have c11b0 := decide_eq_true c11; clear c11
         by_cases c12 : x7_2 < (x4_2.length : Int)
         ·
          rw [if_pos c12] at H; have c12b0 := decide_eq_true c12; clear c12; obtain ⟨bq13, hbq13⟩ : ∃ b_ : Bool, b_ = (rdOf false x4_2 x7_2) := ⟨_, rfl⟩
          replace H : (if bq13 = true then (if (x6_2.length : Int) > 0 then (if x3_1.length < 5864062014805 then (impl_cyclesOf.l0 k2 l0 (x3_1 ++ [x6_2]) x4_2 (l0.length : Int) (wrap64 (x14_1 + 1))) else (none)) else (impl_cyclesOf.l0 k2 l0 x3_1 x4_2 (l0.length : Int) (wrap64 (x14_1 + 1)))) else (if x6_2.length < 17592186044416 then (if x7_2 < (l0.length : Int) then (impl_cyclesOf.l1 k2 l0 x3_1 (x4_2.set (x7_2 : Int).toNat true) (x6_2 ++ [x7_2]) (rd l0 x7_2) (l0.length : Int) x14_1) else (none)) else (none))) = some r := by rw [← hbq13] at H; exact H
          have Nbq13 := Az hbq13; clear hbq13
          by_cases c14 : bq13 = true
          ·
           subst c14
           have H1 : (if (x6_2.length : Int) > 0 then (if x3_1.length < 5864062014805 then (impl_cyclesOf.l0 k2 l0 (x3_1 ++ [x6_2]) x4_2 (l0.length : Int) (wrap64 (x14_1 + 1))) else (none)) else (impl_cyclesOf.l0 k2 l0 x3_1 x4_2 (l0.length : Int) (wrap64 (x14_1 + 1)))) = some r := by rw [if_pos rfl] at H; exact H
           clear H; have H := H1; clear H1
           by_cases c15 : (x6_2.length : Int) > 0
           ·
            rw [if_pos c15] at H; have c15b0 := decide_eq_true c15; have c15b1 : decide (0 < x6_2.length) = true := decide_eq_true (by omega); clear c15
            by_cases c16 : x3_1.length < 5864062014805
            ·
             rw [if_pos c16] at H; have LMc16 := Az c16; clear c16; obtain ⟨y303, hy303⟩ : ∃ y_ : List (List Int), y_ = (x3_1 ++ [x6_2]) := ⟨_, rfl⟩; replace H : (impl_cyclesOf.l0 k2 l0 y303 x4_2 (l0.length : Int) (wrap64 (x14_1 + 1))) = some r := hR hy303 H; have Ny303 := Az hy303; clear hy303; have H' := Az H; clear H; obtain ⟨Ao17, co17, eo17⟩ := Kd.R_slice HO_4.out; subst eo17; have p302 : 0 ≤ (x7_2 : Int) := oA; have q302 : x7_2 < (x4_2.length : Int) := oA; obtain ⟨ad302, e302, hx302_0⟩ := Kd.at_bool (Kd.R_reads' HO_4.out).2.2 x7_2 p302 q302; (try rw [← Nbq13.out] at hx302_0)
             cases e302
             replace p302 := eq_true p302; replace q302 := eq_true q302; obtain ⟨Ao18, co18, eo18⟩ := Kd.R_slice HO_6.out; subst eo18
             go_wp2_with (first | ((with_reducible refine gate_builtin (b := .append) (xs := #[.tmp 38, .tmp 40]) rfl ?_); at_builtin; refine Kd.S_append (Kd.slice 3 (Kd.int .i64)) (w0 := w) w.heap.size rfl (.tmp 38) (.tmp 40) 51 22 (.slice none 0 0) 24 rfl Try.underlying51 info22 rfl (by decide) (by omega) u3 x3_1 x6_2 [.slice Ao18 x6_2.length co18] (fun _ => True) (fun k_ => some k_ = (.slice Ao18 x6_2.length co18 : Value).ownBlock) rfl rfl ?aP (fun k_ hk_ => ((Kd.R_mono (ok' := fun k_ => ((fun _ => True)) k_ ∧ some k_ ≠ (u3 : Value).ownBlock) (Kd.R_apart' (HO_6.out) (Kd.S_typed HO_3.out) (by decide)) (fun k_ hk => ⟨trivial, hk.2⟩))).1 k_ hk_.symm) ?aF ?aO ?aB ?aS ?aL ?_; (case aP => exact Kd.M_row (Kd.R_mono (Kd.R_tight rfl (Kd.R_mono (ok' := fun k_ => ((fun _ => True)) k_ ∧ some k_ ≠ (u3 : Value).ownBlock) (Kd.R_apart' (HO_6.out) (Kd.S_typed HO_3.out) (by decide)) (fun k_ hk => ⟨trivial, hk.2⟩))) (fun _ h_ => h_))); (case aB => exact (bU0 HB.out)); (case aF => exact (fun _ _ => trivial)); (case aO => exact (by (with_reducible repeat (first | apply Kd.S_alloc | apply Kd.S_drewN | apply Kd.S_drew)); exact Kd.S_mono HO_3.out (fun k_ hk => ⟨trivial, fun e_ => hk e_⟩))); (case aS => exact (below_size (bU0 HB.out))); (case aL => have := LMc16.out; omega); intro v304 w19 ho hb hg hat; rw [← Ny303.out] at ho; have n0 := Az (Kd.R_over' (rU HO_4.out) (Kd.S_typed (sU HO_3.out)) (by decide) hg); have n1 := Az (hb); have n2 := Az (ho); clear HO_4 HB HO_3 HO_6; have HO_4 := n0; have HB := n1; have HO305 := n2; clear n0 n1 n2; clear ho hb hg hat))
             (first | go_roundg k2 | (refine Handed.intro k2 ?measure ?_; rotate_left; go_step; (try simp only [add_plain]); (repeat apply Exists.intro); refine ⟨?rel, rfl⟩))
             case measure => have := HK1.out; have := HK2.out; omega
             case rel => exact ⟨(y303), (x4_2), (wrap64 (x14_1 + 1)), rS, H', ⟨by have := HK1.out; have := HK2.out; omega⟩, ⟨sU HO305.out⟩, ⟨rU HO_4.out⟩, ⟨bU0 HB.out⟩⟩
            ·
             rw [if_neg c16] at H
             exact absurd H (by simp)
           ·
            rw [if_neg c15] at H; have c15b0 := decide_eq_false c15; have c15b1 : decide (0 < x6_2.length) = false := decide_eq_false (by omega); clear c15; have H' := Az H; clear H; obtain ⟨Ao20, co20, eo20⟩ := Kd.R_slice HO_4.out; subst eo20; have p302 : 0 ≤ (x7_2 : Int) := oA; have q302 : x7_2 < (x4_2.length : Int) := oA; obtain ⟨ad302, e302, hx302_0⟩ := Kd.at_bool (Kd.R_reads' HO_4.out).2.2 x7_2 p302 q302; (try rw [← Nbq13.out] at hx302_0)
            cases e302
            replace p302 := eq_true p302; replace q302 := eq_true q302; obtain ⟨Ao21, co21, eo21⟩ := Kd.R_slice HO_6.out; subst eo21
            go_wp2
            (first | go_roundg k2 | (refine Handed.intro k2 ?measure ?_; rotate_left; go_step; (try simp only [add_plain]); (repeat apply Exists.intro); refine ⟨?rel, rfl⟩))
            case measure => have := HK1.out; have := HK2.out; omega
            case rel => exact ⟨(x3_1), (x4_2), (wrap64 (x14_1 + 1)), rS, H', ⟨by have := HK1.out; have := HK2.out; omega⟩, ⟨by (with_reducible repeat (first | apply Kd.S_alloc | apply Kd.S_drewN | apply Kd.S_drew)); exact Kd.S_mono HO_3.out (fun _ hk => trivial)⟩, ⟨rU HO_4.out⟩, ⟨bU0 HB.out⟩⟩
          ·
           replace c14 := Bool.eq_false_iff.mpr c14; subst c14
           have H1 : (if x6_2.length < 17592186044416 then (if x7_2 < (l0.length : Int) then (impl_cyclesOf.l1 k2 l0 x3_1 (x4_2.set (x7_2 : Int).toNat true) (x6_2 ++ [x7_2]) (rd l0 x7_2) (l0.length : Int) x14_1) else (none)) else (none)) = some r := by rw [if_neg (show ¬ (false = true) by decide)] at H; exact H
           clear H; have H := H1; clear H1; obtain ⟨y306, hy306⟩ : ∃ y_ : List Bool, y_ = (x4_2.set (x7_2 : Int).toNat true) := ⟨_, rfl⟩; replace H : (if x6_2.length < 17592186044416 then (if x7_2 < (l0.length : Int) then (impl_cyclesOf.l1 k2 l0 x3_1 y306 (x6_2 ++ [x7_2]) (rd l0 x7_2) (l0.length : Int) x14_1) else (none)) else (none)) = some r := hR hy306 H; have Ny306 := Az hy306; clear hy306
           by_cases c23 : x6_2.length < 17592186044416
           ·
            rw [if_pos c23] at H; have LMc23 := Az c23; clear c23; obtain ⟨y307, hy307⟩ : ∃ y_ : List Int, y_ = (x6_2 ++ [x7_2]) := ⟨_, rfl⟩; replace H : (if x7_2 < (l0.length : Int) then (impl_cyclesOf.l1 k2 l0 x3_1 y306 y307 (rd l0 x7_2) (l0.length : Int) x14_1) else (none)) = some r := hR hy307 H; have Ny307 := Az hy307; clear hy307
            by_cases c24 : x7_2 < (l0.length : Int)
            ·
             rw [if_pos c24] at H; have c24b0 := decide_eq_true c24; clear c24; have H' := Az H; clear H; obtain ⟨Ao25, co25, eo25⟩ := Kd.R_slice HO_4.out; subst eo25; have p302 : 0 ≤ (x7_2 : Int) := oA; have q302 : x7_2 < (x4_2.length : Int) := oA; obtain ⟨ad302, e302, hx302_0⟩ := Kd.at_bool (Kd.R_reads' HO_4.out).2.2 x7_2 p302 q302; (try rw [← Nbq13.out] at hx302_0)
             cases e302
             replace p302 := eq_true p302; replace q302 := eq_true q302; have p22 : 0 ≤ (x7_2 : Int) := oA; have q22 : (x7_2 : Int) < ((x4_2.length : Int) : Int) := oA; obtain ⟨go22, co22, eo22, gb22, gl22, cl22, HG22⟩ := Kd.R_form HO_4.out (by omega); (first | cases eo22 | (injection eo22 with ea_ en_ ec_; (first | subst ea_ | (injection ea_ with ea_; subst ea_)); subst ec_; clear en_)); have GB22 := Az gb22; have GG22 := Az HG22; clear gb22 gl22 HG22; (first | simp only [add_plain] at hx302_0 | skip); obtain ⟨hx22_0, hf22_0⟩ := Kd.R_celln false HO_4.out (x7_2 : Int) p22 q22; replace p22 := eq_true p22; replace q22 := eq_true q22; obtain ⟨hy26_, hz26_⟩ := Kd.R_celln false HO_4.out (x7_2 : Int) (oA) (oA); have HP26 := Kd.R_putg HO_4.out (x7_2 : Int) true
             go_wp2_with (first | ((with_reducible refine gate_store (t := 4) (p := 30) rfl ?_); refine store_event (t := 4) (p := 30) (v := ?vo_w27) (w1 := (wr.setCell ⟨go22, (x7_2 : Int).toNat, none⟩ (.bool true))) ?hg ?ho ?hn ?hr ?_; (case ho => rfl); (case hg => rfl); (case hn => rfl); (case hr => first | (go_simp; done) | (go_simp; rfl)); intro w27 hw; have hg : wr.grownBy w27 (some go22) := (by rw [hw]; exact HP26.2); have hp_ : Kd.R Kd.bool 4 w27 w.heap.size (fun _ => True) (.slice (some ⟨go22, 0, none⟩) x4_2.length co25) y306 := (by rw [hw, Ny306.out]; exact HP26.1); clear HP26; have n0 := Az (Kd.S_over' (v := (.slice (some ⟨go22, 0, none⟩) x4_2.length co25)) (sU HO_3.out) (Kd.R_typed HO_4.out) (by decide) hg); have n1 := Az (hp_); have n2 := Az (Kd.R_over' (v := (.slice (some ⟨go22, 0, none⟩) x4_2.length co25)) (rU HO_6.out) (Kd.R_typed HO_4.out) (by decide) hg); have n3 := Az ((by rw [hw]; exact below_set (HB.out) GB22.out : Below w.heap.size w w27)); clear HO_3 HO_4 HO_6 HB; have HO_3 := n0; have HO_4 := n1; have HO_6 := n2; have HB := n3; clear n0 n1 n2 n3; clear hg hw hp_) | ((with_reducible refine gate_builtin (b := .append) (xs := #[.tmp 31, .tmp 33]) rfl ?_); at_builtin; refine Kd.R_append (Kd.int .i64) (w0 := w) w.heap.size rfl (.tmp 31) (.tmp 33) 22 3 (.int .i64 0) 8 rfl Try.underlying22 info3 rfl (by decide) (by omega) u6 x6_2 x7_2 [.int .i64 x7_2] (fun _ => True) (fun _ => False) rfl rfl ?aP (fun _ hk => hk.elim) ?aF ?aO ?aB ?aS ?aL ?_; (case aP => exact rfl); (case aB => exact (bU0 HB.out)); (case aF => exact (fun _ _ => trivial)); (case aO => exact (rU HO_6.out)); (case aS => exact (below_size (bU0 HB.out))); (case aL => have := LMc23.out; omega); intro v308 w28 ho hb hg hat; rw [← Ny307.out] at ho; have n0 := Az (Kd.S_after (ok := (fun _ => True)) (by (with_reducible repeat (first | apply Kd.S_alloc | apply Kd.S_drewN | apply Kd.S_drew)); exact Kd.S_mono HO_3.out (fun _ hk => ⟨trivial, hk⟩)) hg hat); have n1 := Az (Kd.R_over' (rU HO_4.out) (Kd.R_typed (rU HO_6.out)) (by decide) hg); have n2 := Az (hb); have n3 := Az (ho); clear HO_3 HO_4 HB HO_6; have HO_3 := n0; have HO_4 := n1; have HB := n2; have HO309 := n3; clear n0 n1 n2 n3 ho hb hg hat; have p310 : 0 ≤ (x7_2 : Int) := oA; have q310 : x7_2 < (l0.length : Int) := oA; obtain ⟨ad310, e310, hx310_0⟩ := Kd.at_int HR0.out x7_2 p310 q310; cases e310; replace hx310_0 := (HB.out.cell (World.block_lt_of_cell? w _ hx310_0)).trans hx310_0; replace p310 := eq_true p310; replace q310 := eq_true q310))
             (first | go_roundg k2 | (refine Handed.intro k2 ?measure ?_; rotate_left; go_step; (try simp only [add_plain]); (repeat apply Exists.intro); refine ⟨?rel, rfl⟩))
             case measure => have := HK1.out; have := HK2.out; omega
             case rel => exact ⟨(y306), (y307), (rd l0 x7_2), rS, H', ⟨by have := HK1.out; have := HK2.out; omega⟩, ⟨by (with_reducible repeat (first | apply Kd.S_alloc | apply Kd.S_drewN | apply Kd.S_drew)); exact Kd.S_mono HO_3.out (fun _ hk => hk.2)⟩, ⟨rU HO_4.out⟩, ⟨rU HO309.out⟩, ⟨bU0 HB.out⟩⟩
            ·
             rw [if_neg c24] at H
             exact absurd H (by simp)
           ·
            rw [if_neg c23] at H
            exact absurd H (by simp)
         ·
          rw [if_neg c12] at H
          exact absurd H (by simp)
        ·
         rw [if_neg c11] at H
         exact absurd H (by simp)
     ·
      rw [if_neg c8] at H; have c8b0 := decide_eq_false c8; clear c8; obtain rfl := Option.some.inj H
      go_wp2
      go_ret
      exact ⟨_, rE, sU HO_3.out, bU0 HB.out⟩
  ·
   rw [if_neg c3] at H
   exact absurd H (by simp)
 ·
  rw [if_neg c2] at H
  exact absurd H (by simp)
def impl_edgesOf.l0 : Nat → List Int → List Int → Int → Int → Option (List Int)
 | 0, _, _, _, _ => none
 | k + 1, x3, x8, x9, x10 => if x10 < x9 then (if 0 ≤ x10 then (if x10 < (x8.length : Int) then (if x10 < (rd x8 x10) then (if x3.length < 17592186044416 then (impl_edgesOf.l0 k (x3 ++ [x10]) x8 x9 (wrap64 (x10 + 1))) else (none)) else (impl_edgesOf.l0 k x3 x8 x9 (wrap64 (x10 + 1)))) else (none)) else (none)) else (some x3)
def impl_edgesOf.f (k : Nat) (l0_0 : List Int) (l0_1 : List Int) : Option (List Int) := impl_edgesOf.l0 k (([] : List Int)) l0_1 (l0_1.length : Int) 0
set_option maxHeartbeats 8000000 in
set_option maxRecDepth 100000 in
theorem impl_edgesOf.calls (k : Nat) (A0_0 : Option Addr) (c0_0 : Nat) (l0_0 : List Int) (A0_1 : Option Addr) (c0_1 : Nat) (l0_1 : List Int) (r : List Int) (w : World) (hr0_0 : Kd.C (Kd.int .i64) w A0_0 l0_0.length l0_0) (hc0_0 : l0_0.length ≤ c0_0) (hr0_1 : Kd.C (Kd.int .i64) w A0_1 l0_1.length l0_1) (hc0_1 : l0_1.length ≤ c0_1) (h : impl_edgesOf.f k l0_0 l0_1 = some r) :
  Calls Try.prog 74 #[.agg #[.slice A0_0 l0_0.length c0_0, .slice A0_1 l0_1.length c0_1]] w fun e w' => ∃ v0_ : Value, e = .returned (v0_) ∧ Kd.R (Kd.int .i64) 3 w' w.heap.size (fun _ => True) v0_ r ∧ Below w.heap.size w w' := by
 have hu27 := Try.underlying27; have HR0_0 := Az hr0_0; have HC0_0 := Az hc0_0; clear hr0_0 hc0_0; have HR0_1 := Az hr0_1; have HC0_1 := Az hc0_1; clear hr0_1 hc0_1; have HB := Az (Below.refl w.heap.size w); have H : (impl_edgesOf.l0 k (([] : List Int)) l0_1 (l0_1.length : Int) 0) = some r := h; clear h; obtain ⟨y312, hy312⟩ : ∃ y_ : List Int, y_ = (([] : List Int)) := ⟨_, rfl⟩; replace H : (impl_edgesOf.l0 k y312 l0_1 (l0_1.length : Int) 0) = some r := hR hy312 H; have Ny312 := Az hy312; clear hy312; have H' := Az H; clear H
 go_enter Try.func74, Try.ntmps74
 go_wp2_with (first | ((with_reducible refine gate_dst (N := 1) rfl ?_); refine box_event ?hg (N := 1) ?hd (cs := #[.slice A0_0 l0_0.length c0_0, .slice A0_1 l0_1.length c0_1]) (t := 27) ?hr ?_; (case hd => rfl); (case hg => rfl); (case hr => first | (go_simp; done) | (go_simp; rfl)); intro gb311 hg w2 hbox hb; have n0 := Az (below_step (bU0 HB.out) hb); have n1 := Az (hbox); have n2 := Az ((by rw [hg]; exact (below_size (bU0 HB.out)) : w.heap.size ≤ gb311)); have n3 := n2; clear HB; have HB := n0; have BK311 := n1; have GW311 := n2; have GE311 := n3; clear n0 n1 n2 n3; clear hb hbox hg) | ((with_reducible refine gate_dst (N := 6) rfl ?_); refine Kd.R_lit (Kd.int .i64) _ 3 ?hg (N := 6) ?hd (xs := ([] : List Int)) (inner := []) (ok := fun _ => True) (okp := fun _ => True) ?hr ?hp (fun _ hk => hk) trivial (Below.refl _ _) (Nat.le_refl _) (by simp) ?_; (case hd => rfl); (case hg => rfl); (case hr => first | (go_simp; done) | (go_simp; rfl)); (case hp => exact (Reps.none _ _)); intro v313 w3 ho4 hb hg_ hnew_; clear hg_ hnew_; (first | rw [← Ny312.out] at ho4 | (simp only [Int.reduceToNat] at ho4; rw [← Ny312.out] at ho4)); have n0 := Az (Kd.R_lower ho4 (below_size (bU1 HB.out GE311.out))); have n1 := Az (blk_below (g := gb311) (o := .cells #[.slice A0_0 l0_0.length c0_0, .slice A0_1 l0_1.length c0_1] 27 (0, 0)) (kU BK311.out) hb); have n2 := Az (below_step (bU1 HB.out GE311.out) hb); clear BK311 HB; have HO314 := n0; have BK311 := n1; have HB := n2; clear n0 n1 n2 hb ho4; have hcz5_0 : w3.cell? ⟨gb311, 0, none⟩ = some (.slice A0_0 l0_0.length c0_0) := (blk_cell BK311.out 0).trans rfl; have hcz5_1 : w3.cell? ⟨gb311, 1, none⟩ = some (.slice A0_1 l0_1.length c0_1) := (blk_cell BK311.out 1).trans rfl; have hfz5_0 := blk_frozen BK311.out 0; have hfz5_1 := blk_frozen BK311.out 1))
 go_loopg [3, 10] k (fun kq v3 v10 w' => ∃ (x3_1 : List Int) (x10_1 : Int), v10 = .int .i64 x10_1 ∧ Aside0 (impl_edgesOf.l0 kq x3_1 l0_1 (l0_1.length : Int) x10_1 = some r) ∧ Aside0 (kq ≤ k) ∧ Aside0 (Kd.R (Kd.int .i64) 3 w' w.heap.size (fun _ => True) v3 x3_1) ∧ Aside0 (w'.heap[gb311]? = some (.cells #[(.slice A0_0 l0_0.length c0_0), (.slice A0_1 l0_1.length c0_1)] 27 (0, 0))) ∧ Aside0 (Below w.heap.size w w'))
 case atStart => exact ⟨(y312), (0), rS, H', ⟨Nat.le_refl _⟩, ⟨rU HO314.out⟩, ⟨kU BK311.out⟩, ⟨bU1 HB.out GE311.out⟩⟩
 case round =>
  clear H'; (try clear p2); (try clear hcz5_0); (try clear hcz5_1); (try clear hfz5_0); (try clear hfz5_1); obtain ⟨x3_1, x10_1, rfl, HA, HK1, HO_3, BK311, HB⟩ := hrel
  cases gk with
  | zero => exact absurd HA.out (by simp [impl_edgesOf.l0])
  | succ k1 =>
   have H := HA.out; clear HA; simp only [impl_edgesOf.l0] at H
   by_cases c6 : x10_1 < (l0_1.length : Int)
   ·
    rw [if_pos c6] at H; have c6b0 := decide_eq_true c6; clear c6
    by_cases c7 : 0 ≤ x10_1
    ·
     rw [if_pos c7] at H; have c7b0 := decide_eq_true c7; clear c7
     by_cases c8 : x10_1 < (l0_1.length : Int)
     ·
      rw [if_pos c8] at H; have c8b0 := decide_eq_true c8; clear c8
      by_cases c9 : x10_1 < (rd l0_1 x10_1)
      ·
       rw [if_pos c9] at H; have c9b0 := decide_eq_true c9; clear c9
       by_cases c10 : x3_1.length < 17592186044416
       ·
        rw [if_pos c10] at H; have LMc10 := Az c10; clear c10; obtain ⟨y316, hy316⟩ : ∃ y_ : List Int, y_ = (x3_1 ++ [x10_1]) := ⟨_, rfl⟩; replace H : (impl_edgesOf.l0 k1 y316 l0_1 (l0_1.length : Int) (wrap64 (x10_1 + 1))) = some r := hR hy316 H; have Ny316 := Az hy316; clear hy316; have H' := Az H; clear H; have p315 : 0 ≤ (x10_1 : Int) := oA; have q315 : x10_1 < (l0_1.length : Int) := oA; obtain ⟨ad315, e315, hx315_0⟩ := Kd.at_int HR0_1.out x10_1 p315 q315
        cases e315
        (try replace hx315_0 := (HB.out.cell (World.block_lt_of_cell? w _ hx315_0)).trans hx315_0); replace p315 := eq_true p315; replace q315 := eq_true q315
        go_wp2_with (first | ((with_reducible refine gate_builtin (b := .append) (xs := #[.tmp 18, .tmp 20]) rfl ?_); at_builtin; refine Kd.R_append (Kd.int .i64) (w0 := w) w.heap.size rfl (.tmp 18) (.tmp 20) 22 3 (.int .i64 0) 8 rfl Try.underlying22 info3 rfl (by decide) (by omega) u3 x3_1 x10_1 [.int .i64 x10_1] (fun _ => True) (fun _ => False) rfl rfl ?aP (fun _ hk => hk.elim) ?aF ?aO ?aB ?aS ?aL ?_; (case aP => exact rfl); (case aB => exact (bU1 HB.out GE311.out)); (case aF => exact (fun _ _ => trivial)); (case aO => exact (rU HO_3.out)); (case aS => exact (below_size (bU1 HB.out GE311.out))); (case aL => have := LMc10.out; omega); intro v317 w11 ho hb hg hat; rw [← Ny316.out] at ho; have n0 := Az (blk_grown (g := gb311) (o := .cells #[.slice A0_0 l0_0.length c0_0, .slice (some ad315) l0_1.length c0_1] 27 (0, 0)) (kU BK311.out) hg (Kd.R_ne HO_3.out BK311.out (by decide))); have n1 := Az (hb); have n2 := Az (ho); clear BK311 HB HO_3; have BK311 := n0; have HB := n1; have HO318 := n2; clear n0 n1 n2; clear ho hb hg hat))
        (first | go_roundg k1 | (refine Handed.intro k1 ?measure ?_; rotate_left; go_step; (try simp only [add_plain]); (repeat apply Exists.intro); refine ⟨?rel, rfl⟩))
        case measure => have := HK1.out; omega
        case rel => exact ⟨(y316), (wrap64 (x10_1 + 1)), rS, H', ⟨by have := HK1.out; omega⟩, ⟨rU HO318.out⟩, ⟨kU BK311.out⟩, ⟨bU1 HB.out GE311.out⟩⟩
       ·
        rw [if_neg c10] at H
        exact absurd H (by simp)
      ·
       rw [if_neg c9] at H; have c9b0 := decide_eq_false c9; clear c9; have H' := Az H; clear H; have p315 : 0 ≤ (x10_1 : Int) := oA; have q315 : x10_1 < (l0_1.length : Int) := oA; obtain ⟨ad315, e315, hx315_0⟩ := Kd.at_int HR0_1.out x10_1 p315 q315
       cases e315
       (try replace hx315_0 := (HB.out.cell (World.block_lt_of_cell? w _ hx315_0)).trans hx315_0); replace p315 := eq_true p315; replace q315 := eq_true q315
       go_wp2
       (first | go_roundg k1 | (refine Handed.intro k1 ?measure ?_; rotate_left; go_step; (try simp only [add_plain]); (repeat apply Exists.intro); refine ⟨?rel, rfl⟩))
       case measure => have := HK1.out; omega
       case rel => exact ⟨(x3_1), (wrap64 (x10_1 + 1)), rS, H', ⟨by have := HK1.out; omega⟩, ⟨rU HO_3.out⟩, ⟨kU BK311.out⟩, ⟨bU1 HB.out GE311.out⟩⟩
     ·
      rw [if_neg c8] at H
      exact absurd H (by simp)
    ·
     rw [if_neg c7] at H
     exact absurd H (by simp)
   ·
    rw [if_neg c6] at H; have c6b0 := decide_eq_false c6; clear c6; obtain rfl := Option.some.inj H
    go_wp2
    go_ret
    exact ⟨_, rE, rU HO_3.out, bU1 HB.out GE311.out⟩
def containsF.l0 : Nat → List Int → List Bool → Int → Option Int
 | 0, _, _, _ => none
 | k + 1, l, s, i => if i < (l.length : Int) then (if 0 ≤ i then (if 0 ≤ rd l i then (if rd l i < (s.length : Int) then (if rdOf false s (rd l i) = true then (some i) else (containsF.l0 k l s (wrap64 (i + 1)))) else none) else none) else none) else (some (-1))
def containsF.f (k : Nat) (l : List Int) (s : List Bool) : Option Bool := (containsF.l0 k l s 0).bind fun t => some (decide (t ≥ 0))
set_option maxHeartbeats 8000000 in
set_option maxRecDepth 100000 in
theorem containsF.calls0 (k : Nat) (A0 : Option Addr) (c0 : Nat) (l0 : List Int) (g : Nat) (A1 : Option Addr) (c1 : Nat) (l1 : List Bool) (r : Int) (w : World) (hb : w.heap[g]? = some (.cells #[.slice A1 l1.length c1] 67)) (hr0 : Kd.C (Kd.int .i64) w A0 l0.length l0) (hc0 : l0.length ≤ c0) (hr1 : Kd.C Kd.bool w A1 l1.length l1) (hc1 : l1.length ≤ c1) (h : containsF.l0 k l0 l1 0 = some r) :
  Calls Try.prog 96 #[.slice A0 l0.length c0, .func (.func 92) #[] #[.pointer (some ⟨g, 0, none⟩)]] w fun e w' => e = .returned (.int .i64 r) ∧ Drawn0 w w' := by
 have HR0 := Az hr0; have HC0 := Az hc0; have HR1 := Az hr1; have HC1 := Az hc1; have hcz : w.cell? ⟨g, 0, none⟩ = some (.slice A1 l1.length c1) := (blk_cell hb 0).trans rfl; clear hr0 hc0 hr1 hc1 hb; have H' := Az h; clear h
 go_enter Try.func96, Try.ntmps96
 go_wp2
 go_loopg [8] k (fun kq v8 w' => ∃ (x : Int), v8 = .int .i64 x ∧ Aside0 (containsF.l0 kq l0 l1 x = some r) ∧ Aside0 (kq ≤ k) ∧ Drawn0 w w')
 case atStart => exact ⟨0, rfl, H', ⟨Nat.le_refl _⟩, Drawn0.refl _⟩
 case round =>
  clear H'; obtain ⟨x, rfl, HA, HK1, ⟨m1, rfl⟩⟩ := hrel
  cases gk with
  | zero => exact absurd HA.out (by simp [containsF.l0])
  | succ k1 =>
   have H := HA.out; clear HA; simp only [containsF.l0] at H
   by_cases c3 : x < (l0.length : Int)
   ·
    rw [if_pos c3] at H; have c3b0 := decide_eq_true c3
    by_cases c2 : 0 ≤ x
    ·
     rw [if_pos c2] at H
     by_cases c4 : 0 ≤ rd l0 x
     ·
      rw [if_pos c4] at H
      by_cases c5 : rd l0 x < (l1.length : Int)
      ·
       rw [if_pos c5] at H; obtain ⟨ad, e0, hxc⟩ := Kd.at_int HR0.out x c2 c3
       cases e0
       obtain ⟨ad1, e1, hxd⟩ := Kd.at_bool HR1.out (rd l0 x) c4 c5
       cases e1
       have p4 : (0 ≤ rd l0 x) = True := eq_true c4; have q5 : (rd l0 x < (l1.length : Int)) = True := eq_true c5; have p3 : (0 ≤ x) = True := eq_true c2; have q3 : (x < (l0.length : Int)) = True := eq_true c3; clear c2 c3 c4 c5
       generalize hv : rd l0 x = v at *
       generalize hs : rdOf false l1 v = s at *
       cases s with
       | true =>
        rw [if_pos rfl] at H; obtain rfl := Option.some.inj H
        go_wp2_with (first | go_in)
        go_ret
        exact ⟨rfl, by repeat (first | exact Drawn0.refl _ | apply Drawn0.step)⟩
       | false =>
        rw [if_neg (by decide)] at H; have H' := Az H; clear H
        go_wp2_with (first | go_in)
        (first | go_roundg k1 | (refine Handed.intro k1 ?measure ?_; rotate_left; go_step; (try simp only [add_plain]); (repeat apply Exists.intro); refine ⟨?rel, rfl⟩))
        case measure => have := HK1.out; omega
        case rel => exact ⟨wrap64 (x + 1), rfl, H', ⟨by have := HK1.out; omega⟩, by repeat (first | exact Drawn0.refl _ | apply Drawn0.step)⟩
      ·
       rw [if_neg c5] at H
       cases H
     ·
      rw [if_neg c4] at H
      cases H
    ·
     rw [if_neg c2] at H
     cases H
   ·
    rw [if_neg c3] at H; have c3b0 := decide_eq_false c3; obtain rfl := Option.some.inj H
    go_wp2
    go_ret
    exact ⟨rfl, by repeat (first | exact Drawn0.refl _ | apply Drawn0.step)⟩
set_option maxHeartbeats 8000000 in
set_option maxRecDepth 100000 in
theorem containsF.calls (k : Nat) (A0 : Option Addr) (c0 : Nat) (l0 : List Int) (g : Nat) (A1 : Option Addr) (c1 : Nat) (l1 : List Bool) (r : Bool) (w : World) (hb : w.heap[g]? = some (.cells #[.slice A1 l1.length c1] 67)) (hr0 : Kd.C (Kd.int .i64) w A0 l0.length l0) (hc0 : l0.length ≤ c0) (hr1 : Kd.C Kd.bool w A1 l1.length l1) (hc1 : l1.length ≤ c1) (h : containsF.f k l0 l1 = some r) :
  Calls Try.prog 91 #[.slice A0 l0.length c0, .func (.func 92) #[] #[.pointer (some ⟨g, 0, none⟩)]] w fun e w' => e = .returned (.bool r) ∧ Below w.heap.size w w' := by
 obtain ⟨t, h1, h2⟩ := Option.bind_eq_some_iff.mp h; obtain rfl := Option.some.inj h2
 go_enter Try.func91, Try.ntmps91
 go_wp2_with (first | (go_at_call 96; refine (containsF.calls0 k A0 c0 l0 g A1 c1 l1 t _ hb hr0 hc0 hr1 hc1 h1).mono ?_; rintro e w' ⟨rfl, ⟨nd, rfl⟩⟩))
 go_ret
 exact ⟨rfl, pw_below_drewN (Below.refl _ _) _⟩
end Go.Proofs.Ytcjmgkbbmahgcaa.PU
