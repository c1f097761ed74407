/- For every map and number, EdgeContract of the program answers what EdgeContract of the reference answers, leaves the map as it was, and hands back memory of its own. There are no conditions. -/
import Derived.Test.YtggghijamfmenaaKFnExactEdgeContractOwnx2
namespace Go.Proofs.Ytggghijamfmenaa.PC
open Go.RowKit Go.Proofs.YtggghijamfmenaaW.PrintWords Go.Proofs.YtggghijamfmenaaW.PrintLast Go.Proofs.YtggghijamfmenaaW.PrintMore
attribute [local go_sem] max2_int min2_int max_two min_two max_three min_three max_four min_four   -- for this text's walks alone
set_option linter.unusedVariables false
set_option linter.unusedSimpArgs false
def impl_EdgeContract.j0 : Nat → Int → Bool → List Int → List Int → Option (List Int × List Int × Bool)
 | 0, _, _, _, _ => none
 | k + 1, x1, x23, xZ0, xZ1 => if x23 = true then (some (([] : List Int), ([] : List Int), false)) else ((impl_edgesOf.f k xZ0 xZ1).bind fun t257 => (if 0 ≤ x1 then (if x1 < (t257.length : Int) then (if 0 ≤ (rd t257 x1) then (if (rd t257 x1) < (xZ1.length : Int) then ((leftCon.f k xZ0 xZ1 (rd t257 x1) (rd xZ1 (rd t257 x1)) (rd t257 x1) (rd xZ1 (rd t257 x1)) xZ0 xZ1).bind fun bt264 => (some (bt264.1, bt264.2, true))) else (none)) else (none)) else (none)) else (none)))
def impl_EdgeContract.f (k : Nat) (l0_0 : List Int) (l0_1 : List Int) (a1 : Int) : Option (List Int × List Int × Bool) := (impl_EdgeKind.f k l0_0 l0_1 a1).bind fun t256 => (if t256 = (-1) then (impl_EdgeContract.j0 k a1 true l0_0 l0_1) else (if t256 = 2 then (impl_EdgeContract.j0 k a1 true l0_0 l0_1) else (impl_EdgeContract.j0 k a1 ((l0_1.length : Int) == 2) l0_0 l0_1)))
set_option maxHeartbeats 8000000 in
set_option maxRecDepth 100000 in
theorem impl_EdgeContract.calls (k : Nat) (A0_0 : Option Addr) (c0_0 : Nat) (l0_0 : List Int) (A0_1 : Option Addr) (c0_1 : Nat) (l0_1 : List Int) (a1 : Int) (r1 : List Int) (r2 : List Int) (r3 : Bool) (w : World) (hr0_0 : Kd.C (Kd.int .i64) w A0_0 l0_0.length l0_0) (hc0_0 : l0_0.length ≤ c0_0) (hr0_1 : Kd.C (Kd.int .i64) w A0_1 l0_1.length l0_1) (hc0_1 : l0_1.length ≤ c0_1) (h : impl_EdgeContract.f k l0_0 l0_1 a1 = some (r1, r2, r3)) :
  Calls Try.prog 13 #[.agg #[.slice A0_0 l0_0.length c0_0, .slice A0_1 l0_1.length c0_1], .int .i64 a1] w fun e w' => ∃ v0_ v1_ : Value, e = .returned (.tuple #[.agg #[v0_, v1_], .bool r3]) ∧ Kd.R (Kd.int .i64) 3 w' w.heap.size (fun k_ => some k_ ≠ (v1_ : Value).ownBlock) v0_ r1 ∧ Kd.R (Kd.int .i64) 3 w' w.heap.size (fun k_ => some k_ ≠ (v0_ : Value).ownBlock) v1_ r2 ∧ Below w.heap.size w w' := by
 have hu25 := Try.underlying25; have HR0_0 := Az hr0_0; have HC0_0 := Az hc0_0; clear hr0_0 hc0_0; have HR0_1 := Az hr0_1; have HC0_1 := Az hc0_1; clear hr0_1 hc0_1; have HB := Az (Below.refl w.heap.size w); have H : ((impl_EdgeKind.f k l0_0 l0_1 a1).bind fun t256 => (if t256 = (-1) then (impl_EdgeContract.j0 k a1 true l0_0 l0_1) else (if t256 = 2 then (impl_EdgeContract.j0 k a1 true l0_0 l0_1) else (impl_EdgeContract.j0 k a1 ((l0_1.length : Int) == 2) l0_0 l0_1)))) = some (r1, r2, r3) := h; clear h; replace H := Option.bind_eq_some_iff.mp H; obtain ⟨t256, A30, H⟩ := H; replace H : (if t256 = (-1) then (impl_EdgeContract.j0 k a1 true l0_0 l0_1) else (if t256 = 2 then (impl_EdgeContract.j0 k a1 true l0_0 l0_1) else (impl_EdgeContract.j0 k a1 ((l0_1.length : Int) == 2) l0_0 l0_1))) = some (r1, r2, r3) := H; have A3 := Az A30; clear A30; have HC4 := Az H; clear H
 go_enter Try.func13, Try.ntmps13
 go_upto_region 2 with (first | ((with_reducible refine gate_dst (N := 2) rfl ?_); (try (refine gate_guard (by rfl) ?_; dsimp only)); refine box_event ?hg (N := 2) ?hd (cs := #[.slice A0_0 l0_0.length c0_0, .slice A0_1 l0_1.length c0_1]) (t := 25) ?hr ?_; (case hd => rfl); (case hg => rfl); (case hr => first | (go_simp; done) | (go_simp; rfl)); intro gb254 hg w5 hbox hb; have n0 := Az (below_step (bU0 HB.out) hb); have n1 := Az (hbox); have n2 := Az ((by rw [hg]; exact (below_size (bU0 HB.out)) : w.heap.size ≤ gb254)); have n3 := n2; clear HB; have HB := n0; have BK254 := n1; have GW254 := n2; have GE254 := n3; clear n0 n1 n2 n3; clear hb hbox hg) | ((with_reducible refine gate_dst (N := 4) rfl ?_); (try (refine gate_guard (by rfl) ?_; dsimp only)); refine box_event ?hg (N := 4) ?hd (cs := #[.slice none 0 0, .slice none 0 0]) (t := 25) ?hr ?_; (case hd => rfl); (case hg => rfl); (case hr => first | (go_simp; done) | (go_simp; rfl)); intro gb255 hg w6 hbox hb; have n0 := Az (blk_below (g := gb254) (o := .cells #[.slice A0_0 l0_0.length c0_0, .slice A0_1 l0_1.length c0_1] 25 (0, 0)) (kU BK254.out) hb); have n1 := Az (below_step (bU1 HB.out GE254.out) hb); have n2 := Az (hbox); have n3 := Az ((by rw [hg]; exact (below_size (bU1 HB.out GE254.out)) : w.heap.size ≤ gb255)); have n4 := n3; have n5 := Az ((by rw [hg]; exact Nat.ne_of_lt (blk_lt (g := gb254) (o := .cells #[.slice A0_0 l0_0.length c0_0, .slice A0_1 l0_1.length c0_1] 25 (0, 0)) (kU BK254.out)) : gb254 ≠ gb255)); have n6 := Az ((by rw [hg]; exact Nat.ne_of_gt (blk_lt (g := gb254) (o := .cells #[.slice A0_0 l0_0.length c0_0, .slice A0_1 l0_1.length c0_1] 25 (0, 0)) (kU BK254.out)) : gb255 ≠ gb254)); clear BK254 HB; have BK254 := n0; have HB := n1; have BK255 := n2; have GW255 := n3; have GE255 := n4; have NB254_255 := n5; have NB255_254 := n6; clear n0 n1 n2 n3 n4 n5 n6 hb hbox hg; have hnb7 := NB254_255.out; have hnc7 := NB255_254.out; have hcz8_0 : w6.cell? ⟨gb254, 0, none⟩ = some (.slice A0_0 l0_0.length c0_0) := (blk_cell BK254.out 0).trans rfl; have hcz8_1 : w6.cell? ⟨gb254, 1, none⟩ = some (.slice A0_1 l0_1.length c0_1) := (blk_cell BK254.out 1).trans rfl; have hfz8_0 := blk_frozen BK254.out 0; have hfz8_1 := blk_frozen BK254.out 1) | ((with_reducible refine gate_callee (f := 56) rfl ?_); refine goesL_ (some 11) rfl rfl Try.func56 (by kernel_rfl) rfl #[.agg #[.slice A0_0 l0_0.length c0_0, .slice A0_1 l0_1.length c0_1], .int .i64 a1] rfl (by (try simp only [List.map_toArray, List.map_cons, List.map_nil]); first | done | rfl | (simp only [List.length_drop, List.length_take]; rfl)) ?_; (with_reducible refine (impl_EdgeKind.calls k _ _ l0_0 _ _ l0_1 a1 t256 _ ?side1 ?side2 ?side3 ?side4 A3.out).mono ?_); (case side1 => exact cU (Kd.C_below HR0_0.out HB.out)); (case side2 => exact HC0_0.out); (case side3 => exact cU (Kd.C_below HR0_1.out HB.out)); (case side4 => exact HC0_1.out); rintro e w9 ⟨rfl, hb⟩; refine ⟨_, rfl, ?_⟩; have n0 := Az (blk_below (g := gb254) (o := .cells #[.slice A0_0 l0_0.length c0_0, .slice A0_1 l0_1.length c0_1] 25 (0, 0)) (kU BK254.out) hb); have n1 := Az (blk_below (g := gb255) (o := .cells #[.slice none 0 0, .slice none 0 0] 25 (0, 0)) (kU BK255.out) hb); have n2 := Az (below_step (bU2 HB.out GE254.out GE255.out) hb); clear BK254 BK255 HB; have BK254 := n0; have BK255 := n1; have HB := n2; clear n0 n1 n2; (try clear hb); (try clear hb2); (try clear hk); (try clear hi)))
 (try simp only [Act.put, List.setIfInBounds_toArray, List.set_cons_zero, List.set_cons_succ])
 go_cut [23] (fun v23 wc => ∃ (kq : Nat) (x23_3 : Bool), v23 = .bool x23_3 ∧ Aside0 (impl_EdgeContract.j0 kq a1 x23_3 l0_0 l0_1 = some (r1, r2, r3)) ∧ Aside0 (kq ≤ k) ∧ Aside0 (wc.heap[gb254]? = some (.cells #[(.slice A0_0 l0_0.length c0_0), (.slice A0_1 l0_1.length c0_1)] 25 (0, 0))) ∧ Aside0 (wc.heap[gb255]? = some (.cells #[(.slice none 0 0), (.slice none 0 0)] 25 (0, 0))) ∧ Aside0 (Below w.heap.size w wc))
 case first =>
  have H := HC4.out; clear HC4
  by_cases c10 : t256 = (-1)
  ·
   rw [if_pos c10] at H; have c10b0 := beq_iff_eq.mpr c10; have c10b1 := bne_eq_false_iff_eq.mpr c10; clear c10; (first | rw [c10b0] | (simp only [i64_w, i32_w]; rw [c10b0]) | skip); have H' := Az H; clear H
   go_wp2
   go_meet
   case rel => exact ⟨_, (true), rS, H', ⟨by first | omega | exact Nat.le_refl _⟩, ⟨kU BK254.out⟩, ⟨kU BK255.out⟩, ⟨bU2 HB.out GE254.out GE255.out⟩⟩
  ·
   rw [if_neg c10] at H; have c10b0 := beq_eq_false_iff_ne.mpr c10; have c10b1 := bne_iff_ne.mpr c10; (first | rw [c10b0] | (simp only [i64_w, i32_w]; rw [c10b0]) | skip)
   by_cases c11 : t256 = 2
   ·
    rw [if_pos c11] at H; have c11b0 := beq_iff_eq.mpr c11; have c11b1 := bne_eq_false_iff_eq.mpr c11; clear c11; have H' := Az H; clear H
    go_wp2
    go_meet
    case rel => exact ⟨_, (true), rS, H', ⟨by first | omega | exact Nat.le_refl _⟩, ⟨kU BK254.out⟩, ⟨kU BK255.out⟩, ⟨bU2 HB.out GE254.out GE255.out⟩⟩
   ·
    rw [if_neg c11] at H; have c11b0 := beq_eq_false_iff_ne.mpr c11; have c11b1 := bne_iff_ne.mpr c11; have H' := Az H; clear H; have hnb12 := NB254_255.out; have hnc12 := NB255_254.out; have hcz13_0 : w9.cell? ⟨gb254, 0, none⟩ = some (.slice A0_0 l0_0.length c0_0) := (blk_cell BK254.out 0).trans rfl; have hcz13_1 : w9.cell? ⟨gb254, 1, none⟩ = some (.slice A0_1 l0_1.length c0_1) := (blk_cell BK254.out 1).trans rfl; have hfz13_0 := blk_frozen BK254.out 0; have hfz13_1 := blk_frozen BK254.out 1
    go_wp2
    go_meet
    case rel => exact ⟨_, (((l0_1.length : Int) == 2)), rS, H', ⟨by first | omega | exact Nat.le_refl _⟩, ⟨kU BK254.out⟩, ⟨kU BK255.out⟩, ⟨bU2 HB.out GE254.out GE255.out⟩⟩
 case rest =>
  clear HC4; (try clear c1); (try clear p2); (try clear c5); (try clear c7); (try clear c10); (try clear c10b0); (try clear c10b1); (try clear c11); (try clear c11b0); (try clear c11b1); (try clear c12); (try clear c13); (try clear hcz13_0); (try clear hcz13_1); (try clear hcz8_0); (try clear hcz8_1); (try clear hfz13_0); (try clear hfz13_1); (try clear hfz8_0); (try clear hfz8_1); obtain ⟨kq, x23_3, rfl, HA, HJ3, BK254, BK255, HB⟩ := hcut
  cases kq with
  | zero => exact absurd HA.out (by simp [impl_EdgeContract.j0])
  | succ kj3 =>
   have H := HA.out; clear HA; simp only [impl_EdgeContract.j0] at H
   by_cases c14 : x23_3 = true
   ·
    subst c14
    have H1 : (some (([] : List Int), ([] : List Int), false)) = some (r1, r2, r3) := by rw [if_pos rfl] at H; exact H
    clear H; have H := H1; clear H1; simp only [Option.some.injEq, Prod.mk.injEq] at H; obtain ⟨rfl, rfl, rfl⟩ := H; have hnb15 := NB255_254.out; have hnc15 := NB254_255.out; have hcz16_0 : wc.cell? ⟨gb255, 0, none⟩ = some (.slice none 0 0) := (blk_cell BK255.out 0).trans rfl; have hcz16_1 : wc.cell? ⟨gb255, 1, none⟩ = some (.slice none 0 0) := (blk_cell BK255.out 1).trans rfl; have hfz16_0 := blk_frozen BK255.out 0; have hfz16_1 := blk_frozen BK255.out 1
    go_wp2
    refine bodyPost_ret (results_ct rfl _ _ gb255 25 #[.slice none 0 0, .slice none 0 0] (0, 0) _ rfl (by (with_reducible repeat (first | refine blk_drewN ?_ _ | refine blk_drew ?_ | refine blk_alloc ?_ _)); refine blk_put (cs := #[.slice none 0 0, .slice none 0 0]) ?_ 1 _ rfl; (with_reducible repeat (first | refine blk_drewN ?_ _ | refine blk_drew ?_ | refine blk_alloc ?_ _)); refine blk_put (cs := #[.slice none 0 0, .slice none 0 0]) ?_ 0 _ rfl; (with_reducible repeat (first | refine blk_drewN ?_ _ | refine blk_drew ?_ | refine blk_alloc ?_ _)); exact BK255.out) Try.underlying25 rfl (by kernel_rfl)) rfl ?_
    exact ⟨_, _, rE, by first | exact Kd.R_nil _ _ _ _ _ | exact Kd.N_nil _ _ _ _ _ | exact Kd.V_nil _ _ _ _ _ | exact Kd.Q_nil _ _ _ _ _ | exact Kd.S_nil _ _ _ _ _, by first | exact Kd.R_nil _ _ _ _ _ | exact Kd.N_nil _ _ _ _ _ | exact Kd.V_nil _ _ _ _ _ | exact Kd.Q_nil _ _ _ _ _ | exact Kd.S_nil _ _ _ _ _, bU2 HB.out GE254.out GE255.out⟩
   ·
    replace c14 := Bool.eq_false_iff.mpr c14; subst c14
    have H1 : ((impl_edgesOf.f kj3 l0_0 l0_1).bind fun t257 => (if 0 ≤ a1 then (if a1 < (t257.length : Int) then (if 0 ≤ (rd t257 a1) then (if (rd t257 a1) < (l0_1.length : Int) then ((leftCon.f kj3 l0_0 l0_1 (rd t257 a1) (rd l0_1 (rd t257 a1)) (rd t257 a1) (rd l0_1 (rd t257 a1)) l0_0 l0_1).bind fun bt264 => (some (bt264.1, bt264.2, true))) else (none)) else (none)) else (none)) else (none))) = some (r1, r2, r3) := by rw [if_neg (show ¬ (false = true) by decide)] at H; exact H
    clear H; have H := H1; clear H1; replace H := Option.bind_eq_some_iff.mp H; obtain ⟨t257, A170, H⟩ := H; replace H : (if 0 ≤ a1 then (if a1 < (t257.length : Int) then (if 0 ≤ (rd t257 a1) then (if (rd t257 a1) < (l0_1.length : Int) then ((leftCon.f kj3 l0_0 l0_1 (rd t257 a1) (rd l0_1 (rd t257 a1)) (rd t257 a1) (rd l0_1 (rd t257 a1)) l0_0 l0_1).bind fun bt264 => (some (bt264.1, bt264.2, true))) else (none)) else (none)) else (none)) else (none)) = some (r1, r2, r3) := H; have A17 := Az A170; clear A170
    by_cases c18 : 0 ≤ a1
    ·
     rw [if_pos c18] at H; have c18b0 := decide_eq_true c18; clear c18
     by_cases c19 : a1 < (t257.length : Int)
     ·
      rw [if_pos c19] at H; have c19b0 := decide_eq_true c19; clear c19
      by_cases c20 : 0 ≤ (rd t257 a1)
      ·
       rw [if_pos c20] at H; have c20b0 := decide_eq_true c20; clear c20
       by_cases c21 : (rd t257 a1) < (l0_1.length : Int)
       ·
        rw [if_pos c21] at H; have c21b0 := decide_eq_true c21; clear c21; replace H := Option.bind_eq_some_iff.mp H; obtain ⟨⟨t264, t267⟩, A220, H⟩ := H; replace H : (some (t264, t267, true)) = some (r1, r2, r3) := H; have A22 := Az A220; clear A220; simp only [Option.some.injEq, Prod.mk.injEq] at H; obtain ⟨rfl, rfl, rfl⟩ := H; have hnb23 := NB254_255.out; have hnc23 := NB255_254.out; have hcz24_0 : wc.cell? ⟨gb254, 0, none⟩ = some (.slice A0_0 l0_0.length c0_0) := (blk_cell BK254.out 0).trans rfl; have hcz24_1 : wc.cell? ⟨gb254, 1, none⟩ = some (.slice A0_1 l0_1.length c0_1) := (blk_cell BK254.out 1).trans rfl; have hfz24_0 := blk_frozen BK254.out 0; have hfz24_1 := blk_frozen BK254.out 1
        go_wp2_with (first | ((with_reducible refine gate_callee (f := 57) rfl ?_); refine goesL_ (some 26) rfl rfl Try.func57 (by kernel_rfl) rfl #[.agg #[.slice A0_0 l0_0.length c0_0, .slice A0_1 l0_1.length c0_1]] rfl (by (try simp only [List.map_toArray, List.map_cons, List.map_nil]); first | done | rfl | (simp only [List.length_drop, List.length_take]; rfl)) ?_; (with_reducible refine (impl_edgesOf.calls kj3 _ _ l0_0 _ _ l0_1 t257 _ ?side1 ?side2 ?side3 ?side4 A17.out).mono ?_); (case side1 => exact cU (Kd.C_below HR0_0.out HB.out)); (case side2 => exact HC0_0.out); (case side3 => exact cU (Kd.C_below HR0_1.out HB.out)); (case side4 => exact HC0_1.out); rintro e w25 ⟨v258, rfl, ho0, hb⟩; refine ⟨_, rfl, ?_⟩; have n0 := Az (Kd.R_lower ho0 (below_size (bU2 HB.out GE254.out GE255.out))); have n1 := Az (blk_below (g := gb254) (o := .cells #[.slice A0_0 l0_0.length c0_0, .slice A0_1 l0_1.length c0_1] 25 (0, 0)) (kU BK254.out) hb); have n2 := Az (blk_below (g := gb255) (o := .cells #[.slice none 0 0, .slice none 0 0] 25 (0, 0)) (kU BK255.out) hb); have n3 := Az (below_step (bU2 HB.out GE254.out GE255.out) hb); clear BK254 BK255 HB; have HO259 := n0; have BK254 := n1; have BK255 := n2; have HB := n3; clear n0 n1 n2 n3; (try clear hb); (try clear hb2); (try clear hk); (try clear hi); (try clear ho0); obtain ⟨Ao26, co26, eo26⟩ := Kd.R_slice HO259.out; subst eo26; have p260 : 0 ≤ (a1 : Int) := oA; have q260 : a1 < (t257.length : Int) := oA; obtain ⟨ad260, e260, hx260_0⟩ := Kd.at_int (Kd.R_reads' HO259.out).2.2 a1 p260 q260; cases e260; replace p260 := eq_true p260; replace q260 := eq_true q260) | ((with_reducible refine gate_dst (N := 7) rfl ?_); (try (refine gate_guard (by rfl) ?_; dsimp only)); refine box_event ?hg (N := 7) ?hd (cs := #[.int .i64 0]) (t := 3) ?hr ?_; (case hd => rfl); (case hg => rfl); (case hr => first | (go_simp; done) | (go_simp; rfl)); intro gb261 hg w27 hbox hb; have NE261_259 := Az (fun (e_ : some gb261 = Value.ownBlock _) => (absurd (Kd.R_lt (HO259.out) gb261 e_.symm) (by rw [hg]; exact Nat.lt_irrefl _) : False)); have n0 := Az (Kd.R_below (rU HO259.out) hb); have n1 := Az (blk_below (g := gb254) (o := .cells #[.slice A0_0 l0_0.length c0_0, .slice A0_1 l0_1.length c0_1] 25 (0, 0)) (kU BK254.out) hb); have n2 := Az (blk_below (g := gb255) (o := .cells #[.slice none 0 0, .slice none 0 0] 25 (0, 0)) (kU BK255.out) hb); have n3 := Az (below_step (bU2 HB.out GE254.out GE255.out) hb); have n4 := Az (hbox); have n5 := Az ((by rw [hg]; exact (below_size (bU2 HB.out GE254.out GE255.out)) : w.heap.size ≤ gb261)); have n6 := n5; have n7 := Az ((by rw [hg]; exact Nat.ne_of_lt (blk_lt (g := gb254) (o := .cells #[.slice A0_0 l0_0.length c0_0, .slice A0_1 l0_1.length c0_1] 25 (0, 0)) (kU BK254.out)) : gb254 ≠ gb261)); have n8 := Az ((by rw [hg]; exact Nat.ne_of_gt (blk_lt (g := gb254) (o := .cells #[.slice A0_0 l0_0.length c0_0, .slice A0_1 l0_1.length c0_1] 25 (0, 0)) (kU BK254.out)) : gb261 ≠ gb254)); have n9 := Az ((by rw [hg]; exact Nat.ne_of_lt (blk_lt (g := gb255) (o := .cells #[.slice none 0 0, .slice none 0 0] 25 (0, 0)) (kU BK255.out)) : gb255 ≠ gb261)); have n10 := Az ((by rw [hg]; exact Nat.ne_of_gt (blk_lt (g := gb255) (o := .cells #[.slice none 0 0, .slice none 0 0] 25 (0, 0)) (kU BK255.out)) : gb261 ≠ gb255)); clear HO259 BK254 BK255 HB; have HO259 := n0; have BK254 := n1; have BK255 := n2; have HB := n3; have BK261 := n4; have GW261 := n5; have GE261 := n6; have NB254_261 := n7; have NB261_254 := n8; have NB255_261 := n9; have NB261_255 := n10; clear n0 n1 n2 n3 n4 n5 n6 n7 n8 n9 n10 hb hbox hg; have hnb28 := NB261_254.out; have hnc28 := NB254_261.out; have hnb29 := NB261_255.out; have hnc29 := NB255_261.out; have hcz30_0 : w27.cell? ⟨gb261, 0, none⟩ = some (.int .i64 0) := (blk_cell BK261.out 0).trans rfl; have hfz30_0 := blk_frozen BK261.out 0; have hcz31_0 : w27.cell? ⟨gb254, 0, none⟩ = some (.slice A0_0 l0_0.length c0_0) := (blk_cell BK254.out 0).trans rfl; have hcz31_1 : w27.cell? ⟨gb254, 1, none⟩ = some (.slice A0_1 l0_1.length c0_1) := (blk_cell BK254.out 1).trans rfl; have hfz31_0 := blk_frozen BK254.out 0; have hfz31_1 := blk_frozen BK254.out 1; have p262 : 0 ≤ ((rd t257 a1) : Int) := oA; have q262 : (rd t257 a1) < (l0_1.length : Int) := oA; obtain ⟨ad262, e262, hx262_0⟩ := Kd.at_int HR0_1.out (rd t257 a1) p262 q262; cases e262; have hn262_0 : ad262.block ≠ gb261 := Nat.ne_of_lt (Nat.lt_of_lt_of_le (by have := World.block_lt_of_cell? _ _ hx262_0; first | rwa [add_block] at this | exact this) GW261.out); replace hx262_0 := (HB.out.cell (World.block_lt_of_cell? w _ hx262_0)).trans hx262_0; replace hx262_0 := (cell_far (p := ⟨gb261, 0, none⟩) (by first | (rw [add_block]; exact hn262_0) | (show (Addr.add _ _).block ≠ _; rw [add_block]; exact hn262_0) | exact hn262_0) (.int .i64 (rd t257 a1))).trans hx262_0; clear hn262_0; replace p262 := eq_true p262; replace q262 := eq_true q262) | ((with_reducible refine gate_dst (N := 8) rfl ?_); (try (refine gate_guard (by rfl) ?_; dsimp only)); refine box_event ?hg (N := 8) ?hd (cs := #[.int .i64 0]) (t := 3) ?hr ?_; (case hd => rfl); (case hg => rfl); (case hr => first | (go_simp; done) | (go_simp; rfl)); intro gb263 hg w32 hbox hb; have NE263_259 := Az (fun (e_ : some gb263 = Value.ownBlock _) => (absurd (Kd.R_lt ((Kd.R_mono (Kd.R_far (p := ⟨gb261, 0, none⟩) (Kd.R_far1 HO259.out rfl NE261_259.out) (fun _ hk => hk.2) (.int .i64 (rd t257 a1))) (fun _ h_ => h_.1))) gb263 e_.symm) (by rw [hg]; exact Nat.lt_irrefl _) : False)); have n0 := Az (Kd.R_below (by (with_reducible repeat (first | apply Kd.R_alloc | apply Kd.R_drewN | apply Kd.R_drew)); exact (Kd.R_mono (Kd.R_far (p := ⟨gb261, 0, none⟩) (Kd.R_far1 HO259.out rfl NE261_259.out) (fun _ hk => hk.2) (.int .i64 (rd t257 a1))) (fun _ h_ => h_.1))) hb); have n1 := Az (blk_below (g := gb254) (o := .cells #[.slice A0_0 l0_0.length c0_0, .slice (some ad262) l0_1.length c0_1] 25 (0, 0)) (by (with_reducible repeat (first | refine blk_drewN ?_ _ | refine blk_drew ?_ | refine blk_alloc ?_ _)); refine blk_far ?_ NB254_261.out _; (with_reducible repeat (first | refine blk_drewN ?_ _ | refine blk_drew ?_ | refine blk_alloc ?_ _)); exact BK254.out) hb); have n2 := Az (blk_below (g := gb255) (o := .cells #[.slice none 0 0, .slice none 0 0] 25 (0, 0)) (by (with_reducible repeat (first | refine blk_drewN ?_ _ | refine blk_drew ?_ | refine blk_alloc ?_ _)); refine blk_far ?_ NB255_261.out _; (with_reducible repeat (first | refine blk_drewN ?_ _ | refine blk_drew ?_ | refine blk_alloc ?_ _)); exact BK255.out) hb); have n3 := Az (blk_below (g := gb261) (o := .cells #[.int .i64 (rd t257 a1)] 3 (0, 0)) (by (with_reducible repeat (first | refine blk_drewN ?_ _ | refine blk_drew ?_ | refine blk_alloc ?_ _)); refine blk_put (cs := #[.int .i64 0]) ?_ 0 _ rfl; (with_reducible repeat (first | refine blk_drewN ?_ _ | refine blk_drew ?_ | refine blk_alloc ?_ _)); exact BK261.out) hb); have n4 := Az (below_step (bU3 HB.out GE254.out GE255.out GE261.out) hb); have n5 := Az (hbox); have n6 := Az ((by rw [hg]; exact (below_size (bU3 HB.out GE254.out GE255.out GE261.out)) : w.heap.size ≤ gb263)); have n7 := n6; have n8 := Az ((by rw [hg]; exact Nat.ne_of_lt (blk_lt (g := gb254) (o := .cells #[.slice A0_0 l0_0.length c0_0, .slice (some ad262) l0_1.length c0_1] 25 (0, 0)) (by (with_reducible repeat (first | refine blk_drewN ?_ _ | refine blk_drew ?_ | refine blk_alloc ?_ _)); refine blk_far ?_ NB254_261.out _; (with_reducible repeat (first | refine blk_drewN ?_ _ | refine blk_drew ?_ | refine blk_alloc ?_ _)); exact BK254.out)) : gb254 ≠ gb263)); have n9 := Az ((by rw [hg]; exact Nat.ne_of_gt (blk_lt (g := gb254) (o := .cells #[.slice A0_0 l0_0.length c0_0, .slice (some ad262) l0_1.length c0_1] 25 (0, 0)) (by (with_reducible repeat (first | refine blk_drewN ?_ _ | refine blk_drew ?_ | refine blk_alloc ?_ _)); refine blk_far ?_ NB254_261.out _; (with_reducible repeat (first | refine blk_drewN ?_ _ | refine blk_drew ?_ | refine blk_alloc ?_ _)); exact BK254.out)) : gb263 ≠ gb254)); have n10 := Az ((by rw [hg]; exact Nat.ne_of_lt (blk_lt (g := gb255) (o := .cells #[.slice none 0 0, .slice none 0 0] 25 (0, 0)) (by (with_reducible repeat (first | refine blk_drewN ?_ _ | refine blk_drew ?_ | refine blk_alloc ?_ _)); refine blk_far ?_ NB255_261.out _; (with_reducible repeat (first | refine blk_drewN ?_ _ | refine blk_drew ?_ | refine blk_alloc ?_ _)); exact BK255.out)) : gb255 ≠ gb263)); have n11 := Az ((by rw [hg]; exact Nat.ne_of_gt (blk_lt (g := gb255) (o := .cells #[.slice none 0 0, .slice none 0 0] 25 (0, 0)) (by (with_reducible repeat (first | refine blk_drewN ?_ _ | refine blk_drew ?_ | refine blk_alloc ?_ _)); refine blk_far ?_ NB255_261.out _; (with_reducible repeat (first | refine blk_drewN ?_ _ | refine blk_drew ?_ | refine blk_alloc ?_ _)); exact BK255.out)) : gb263 ≠ gb255)); have n12 := Az ((by rw [hg]; exact Nat.ne_of_lt (blk_lt (g := gb261) (o := .cells #[.int .i64 (rd t257 a1)] 3 (0, 0)) (by (with_reducible repeat (first | refine blk_drewN ?_ _ | refine blk_drew ?_ | refine blk_alloc ?_ _)); refine blk_put (cs := #[.int .i64 0]) ?_ 0 _ rfl; (with_reducible repeat (first | refine blk_drewN ?_ _ | refine blk_drew ?_ | refine blk_alloc ?_ _)); exact BK261.out)) : gb261 ≠ gb263)); have n13 := Az ((by rw [hg]; exact Nat.ne_of_gt (blk_lt (g := gb261) (o := .cells #[.int .i64 (rd t257 a1)] 3 (0, 0)) (by (with_reducible repeat (first | refine blk_drewN ?_ _ | refine blk_drew ?_ | refine blk_alloc ?_ _)); refine blk_put (cs := #[.int .i64 0]) ?_ 0 _ rfl; (with_reducible repeat (first | refine blk_drewN ?_ _ | refine blk_drew ?_ | refine blk_alloc ?_ _)); exact BK261.out)) : gb263 ≠ gb261)); clear HO259 BK254 BK255 BK261 HB; have HO259 := n0; have BK254 := n1; have BK255 := n2; have BK261 := n3; have HB := n4; have BK263 := n5; have GW263 := n6; have GE263 := n7; have NB254_263 := n8; have NB263_254 := n9; have NB255_263 := n10; have NB263_255 := n11; have NB261_263 := n12; have NB263_261 := n13; clear n0 n1 n2 n3 n4 n5 n6 n7 n8 n9 n10 n11 n12 n13 hb hbox hg; have hnb33 := NB263_254.out; have hnc33 := NB254_263.out; have hnb34 := NB263_255.out; have hnc34 := NB255_263.out; have hnb35 := NB263_261.out; have hnc35 := NB261_263.out; have hcz36_0 : w32.cell? ⟨gb263, 0, none⟩ = some (.int .i64 0) := (blk_cell BK263.out 0).trans rfl; have hfz36_0 := blk_frozen BK263.out 0; have hcz37_0 : w32.cell? ⟨gb254, 0, none⟩ = some (.slice A0_0 l0_0.length c0_0) := (blk_cell BK254.out 0).trans rfl; have hcz37_1 : w32.cell? ⟨gb254, 1, none⟩ = some (.slice (some ad262) l0_1.length c0_1) := (blk_cell BK254.out 1).trans rfl; have hfz37_0 := blk_frozen BK254.out 0; have hfz37_1 := blk_frozen BK254.out 1; have hcz38_0 : w32.cell? ⟨gb261, 0, none⟩ = some (.int .i64 (rd t257 a1)) := (blk_cell BK261.out 0).trans rfl; have hfz38_0 := blk_frozen BK261.out 0) | ((with_reducible refine gate_callee (f := 58) rfl ?_); refine goesL_ (some 39) rfl rfl Try.func58 (by kernel_rfl) rfl #[.agg #[.slice A0_0 l0_0.length c0_0, .slice (some ad262) l0_1.length c0_1], .int .i64 (rd t257 a1), .int .i64 (rd l0_1 (rd t257 a1)), .func (.func 59) #[] #[.pointer (some ⟨gb261, 0, none⟩), .pointer (some ⟨gb263, 0, none⟩), .pointer (some ⟨gb254, 0, none⟩)]] rfl (by (try simp only [List.map_toArray, List.map_cons, List.map_nil]); first | done | rfl | (simp only [List.length_drop, List.length_take]; rfl)) ?_; (with_reducible refine (leftCon.calls kj3 _ _ l0_0 _ _ l0_1 (rd t257 a1) (rd l0_1 (rd t257 a1)) gb261 gb263 gb254 (rd t257 a1) (rd l0_1 (rd t257 a1)) A0_0 c0_0 l0_0 (some ad262) c0_1 l0_1 t264 t267 _ ?side1 ?side2 ?side3 ?side4 ?side5 ?side6 ?side7 ?side8 ?side9 ?side10 ?side11 A22.out).mono ?_); (case side1 => (with_reducible repeat (first | refine blk_drewN ?_ _ | refine blk_drew ?_ | refine blk_alloc ?_ _)); refine blk_far ?_ NB261_263.out _; (with_reducible repeat (first | refine blk_drewN ?_ _ | refine blk_drew ?_ | refine blk_alloc ?_ _)); exact BK261.out); (case side2 => (with_reducible repeat (first | refine blk_drewN ?_ _ | refine blk_drew ?_ | refine blk_alloc ?_ _)); refine blk_put (cs := #[.int .i64 0]) ?_ 0 _ rfl; (with_reducible repeat (first | refine blk_drewN ?_ _ | refine blk_drew ?_ | refine blk_alloc ?_ _)); exact BK263.out); (case side3 => (with_reducible repeat (first | refine blk_drewN ?_ _ | refine blk_drew ?_ | refine blk_alloc ?_ _)); refine blk_far ?_ NB254_263.out _; (with_reducible repeat (first | refine blk_drewN ?_ _ | refine blk_drew ?_ | refine blk_alloc ?_ _)); exact BK254.out); (case side4 => exact Kd.C_below HR0_0.out (bU4 HB.out GE254.out GE255.out GE261.out GE263.out)); (case side5 => exact HC0_0.out); (case side6 => exact Kd.C_below HR0_1.out (bU4 HB.out GE254.out GE255.out GE261.out GE263.out)); (case side7 => exact HC0_1.out); (case side8 => exact Kd.C_below HR0_0.out (bU4 HB.out GE254.out GE255.out GE261.out GE263.out)); (case side9 => exact HC0_0.out); (case side10 => exact Kd.C_below HR0_1.out (bU4 HB.out GE254.out GE255.out GE261.out GE263.out)); (case side11 => exact HC0_1.out); rintro e w39 ⟨v265, v268, rfl, ho0, ho1, hb⟩; refine ⟨_, rfl, ?_⟩; have n0 := Az (Kd.R_mono (Kd.R_told (Kd.R_told (Kd.R_old (by (with_reducible repeat (first | apply Kd.R_alloc | apply Kd.R_drewN | apply Kd.R_drew)); exact (Kd.R_mono (Kd.R_far (p := ⟨gb263, 0, none⟩) (Kd.R_far1 HO259.out rfl NE263_259.out) (fun _ hk => hk.2) (.int .i64 (rd l0_1 (rd t257 a1)))) (fun _ h_ => h_.1))) hb) (Kd.R_base ho0)) (Kd.R_base ho1)) (fun _ h_ => h_.1)); have n1 := Az (Kd.R_lower (Kd.R_new' ho0 (Kd.R_lt (by (with_reducible repeat (first | apply Kd.R_alloc | apply Kd.R_drewN | apply Kd.R_drew)); exact (Kd.R_mono (Kd.R_far (p := ⟨gb263, 0, none⟩) (Kd.R_far1 HO259.out rfl NE263_259.out) (fun _ hk => hk.2) (.int .i64 (rd l0_1 (rd t257 a1)))) (fun _ h_ => h_.1))))) (below_size (bU4 HB.out GE254.out GE255.out GE261.out GE263.out))); have n2 := Az (Kd.R_lower (Kd.R_new' ho1 (Kd.R_lt (by (with_reducible repeat (first | apply Kd.R_alloc | apply Kd.R_drewN | apply Kd.R_drew)); exact (Kd.R_mono (Kd.R_far (p := ⟨gb263, 0, none⟩) (Kd.R_far1 HO259.out rfl NE263_259.out) (fun _ hk => hk.2) (.int .i64 (rd l0_1 (rd t257 a1)))) (fun _ h_ => h_.1))))) (below_size (bU4 HB.out GE254.out GE255.out GE261.out GE263.out))); have n3 := Az (blk_below (g := gb254) (o := .cells #[.slice A0_0 l0_0.length c0_0, .slice (some ad262) l0_1.length c0_1] 25 (0, 0)) (by (with_reducible repeat (first | refine blk_drewN ?_ _ | refine blk_drew ?_ | refine blk_alloc ?_ _)); refine blk_far ?_ NB254_263.out _; (with_reducible repeat (first | refine blk_drewN ?_ _ | refine blk_drew ?_ | refine blk_alloc ?_ _)); exact BK254.out) hb); have n4 := Az (blk_below (g := gb255) (o := .cells #[.slice none 0 0, .slice none 0 0] 25 (0, 0)) (by (with_reducible repeat (first | refine blk_drewN ?_ _ | refine blk_drew ?_ | refine blk_alloc ?_ _)); refine blk_far ?_ NB255_263.out _; (with_reducible repeat (first | refine blk_drewN ?_ _ | refine blk_drew ?_ | refine blk_alloc ?_ _)); exact BK255.out) hb); have n5 := Az (blk_below (g := gb261) (o := .cells #[.int .i64 (rd t257 a1)] 3 (0, 0)) (by (with_reducible repeat (first | refine blk_drewN ?_ _ | refine blk_drew ?_ | refine blk_alloc ?_ _)); refine blk_far ?_ NB261_263.out _; (with_reducible repeat (first | refine blk_drewN ?_ _ | refine blk_drew ?_ | refine blk_alloc ?_ _)); exact BK261.out) hb); have n6 := Az (blk_below (g := gb263) (o := .cells #[.int .i64 (rd l0_1 (rd t257 a1))] 3 (0, 0)) (by (with_reducible repeat (first | refine blk_drewN ?_ _ | refine blk_drew ?_ | refine blk_alloc ?_ _)); refine blk_put (cs := #[.int .i64 0]) ?_ 0 _ rfl; (with_reducible repeat (first | refine blk_drewN ?_ _ | refine blk_drew ?_ | refine blk_alloc ?_ _)); exact BK263.out) hb); have n7 := Az (below_step (bU4 HB.out GE254.out GE255.out GE261.out GE263.out) hb); clear HO259 BK254 BK255 BK261 BK263 HB; have HO259 := n0; have HO266 := n1; have HO269 := n2; have BK254 := n3; have BK255 := n4; have BK261 := n5; have BK263 := n6; have HB := n7; clear n0 n1 n2 n3 n4 n5 n6 n7; (try clear hb); (try clear hb2); (try clear hk); (try clear hi); (try clear ho0); (try clear ho1); obtain ⟨Ao40, co40, eo40⟩ := Kd.R_slice HO266.out; subst eo40; have hcz41_0 : w39.cell? ⟨gb255, 0, none⟩ = some (.slice none 0 0) := (blk_cell BK255.out 0).trans rfl; have hcz41_1 : w39.cell? ⟨gb255, 1, none⟩ = some (.slice none 0 0) := (blk_cell BK255.out 1).trans rfl; have hfz41_0 := blk_frozen BK255.out 0; have hfz41_1 := blk_frozen BK255.out 1; obtain ⟨Ao42, co42, eo42⟩ := Kd.R_slice HO269.out; subst eo42))
        refine bodyPost_ret (results_ct rfl _ _ gb255 25 #[.slice Ao40 t264.length co40, .slice Ao42 t267.length co42] (0, 0) _ rfl (by (with_reducible repeat (first | refine blk_drewN ?_ _ | refine blk_drew ?_ | refine blk_alloc ?_ _)); refine blk_put (cs := #[.slice Ao40 t264.length co40, .slice none 0 0]) ?_ 1 _ rfl; (with_reducible repeat (first | refine blk_drewN ?_ _ | refine blk_drew ?_ | refine blk_alloc ?_ _)); refine blk_put (cs := #[.slice none 0 0, .slice none 0 0]) ?_ 0 _ rfl; (with_reducible repeat (first | refine blk_drewN ?_ _ | refine blk_drew ?_ | refine blk_alloc ?_ _)); exact BK255.out) Try.underlying25 rfl (by kernel_rfl)) rfl ?_
        exact ⟨_, _, rE, by (with_reducible repeat (first | apply Kd.R_alloc | apply Kd.R_drewN | apply Kd.R_drew)); exact Kd.R_mono (Kd.R_far (p := ⟨gb255, 1, none⟩) (Kd.R_far (p := ⟨gb255, 0, none⟩) (Kd.R_types HO266.out BK255.out (by decide)) (fun _ hk => hk.2) (.slice Ao40 t264.length co40)) (fun _ hk => hk.2) (.slice Ao42 t267.length co42)) (fun _ hk => hk.1.1), by (with_reducible repeat (first | apply Kd.R_alloc | apply Kd.R_drewN | apply Kd.R_drew)); exact Kd.R_mono (Kd.R_far (p := ⟨gb255, 1, none⟩) (Kd.R_far (p := ⟨gb255, 0, none⟩) (Kd.R_types HO269.out BK255.out (by decide)) (fun _ hk => hk.2) (.slice Ao40 t264.length co40)) (fun _ hk => hk.2) (.slice Ao42 t267.length co42)) (fun _ hk => hk.1.1), bU4 HB.out GE254.out GE255.out GE261.out GE263.out⟩
       ·
        rw [if_neg c21] at H
        exact absurd H (by simp)
      ·
       rw [if_neg c20] at H
       exact absurd H (by simp)
     ·
      rw [if_neg c19] at H
      exact absurd H (by simp)
    ·
     rw [if_neg c18] at H
     exact absurd H (by simp)
def spec_l7Edges.l0 : Nat → List Int → Int → Int → List Int → List Int → Option (List Int)
 | 0, _, _, _, _, _ => none
 | k + 1, x3, x4, x5, xZ2, xZ3 => if x5 < (x3.length : Int) then (if 0 ≤ x5 then (if x5 < (xZ3.length : Int) then (if x5 < (rd xZ3 x5) then (if 0 ≤ (rd xZ3 x5) then (if (rd xZ3 x5) < (x3.length : Int) then (spec_l7Edges.l0 k ((x3.set (x5 : Int).toNat x4).set ((rd xZ3 x5) : Int).toNat x4) (wrap64 (x4 + 1)) (wrap64 (x5 + 1)) xZ2 xZ3) else (none)) else (none)) else (spec_l7Edges.l0 k x3 x4 (wrap64 (x5 + 1)) xZ2 xZ3)) else (none)) else (none)) else (some x3)
def spec_l7Edges.f (k : Nat) (l0_0 : List Int) (l0_1 : List Int) : Option (List Int) := if 0 ≤ (l0_1.length : Int) then (if ((l0_1.length : Int) : Int).toNat ≤ 35184372088832 then (spec_l7Edges.l0 k (List.replicate ((l0_1.length : Int) : Int).toNat 0) 0 0 l0_0 l0_1) else (none)) else (none)
set_option maxHeartbeats 8000000 in
set_option maxRecDepth 100000 in
theorem spec_l7Edges.calls (k : Nat) (A0_0 : Option Addr) (c0_0 : Nat) (l0_0 : List Int) (A0_1 : Option Addr) (c0_1 : Nat) (l0_1 : List Int) (r : List Int) (w : World) (hr0_0 : Kd.C (Kd.int .i64) w A0_0 l0_0.length l0_0) (hc0_0 : l0_0.length ≤ c0_0) (hr0_1 : Kd.C (Kd.int .i64) w A0_1 l0_1.length l0_1) (hc0_1 : l0_1.length ≤ c0_1) (h : spec_l7Edges.f k l0_0 l0_1 = some r) :
  Calls Try.prog 122 #[.agg #[.slice A0_0 l0_0.length c0_0, .slice A0_1 l0_1.length c0_1]] w fun e w' => ∃ v0_ : Value, e = .returned (v0_) ∧ Kd.R (Kd.int .i64) 3 w' w.heap.size (fun _ => True) v0_ r ∧ Below w.heap.size w w' := by
 have hu25 := Try.underlying25; have HR0_0 := Az hr0_0; have HC0_0 := Az hc0_0; clear hr0_0 hc0_0; have HR0_1 := Az hr0_1; have HC0_1 := Az hc0_1; clear hr0_1 hc0_1; have HB := Az (Below.refl w.heap.size w); have H : (if 0 ≤ (l0_1.length : Int) then (if ((l0_1.length : Int) : Int).toNat ≤ 35184372088832 then (spec_l7Edges.l0 k (List.replicate ((l0_1.length : Int) : Int).toNat 0) 0 0 l0_0 l0_1) else (none)) else (none)) = some r := h; clear h
 by_cases c2 : 0 ≤ (l0_1.length : Int)
 ·
  rw [if_pos c2] at H; have c2b0 := eq_true c2; have c2b1 := decide_eq_true c2; clear c2
  by_cases c3 : ((l0_1.length : Int) : Int).toNat ≤ 35184372088832
  ·
   rw [if_pos c3] at H; have c3b0 := eq_true c3; have c3b1 := decide_eq_true c3; clear c3; obtain ⟨y271, hy271⟩ : ∃ y_ : List Int, y_ = (List.replicate ((l0_1.length : Int) : Int).toNat 0) := ⟨_, rfl⟩; replace H : (spec_l7Edges.l0 k y271 0 0 l0_0 l0_1) = some r := hR hy271 H; have Ny271 := Az hy271; clear hy271; have H' := Az H; clear H
   go_enter Try.func122, Try.ntmps122
   go_wp2_with (first | ((with_reducible refine gate_dst (N := 1) rfl ?_); refine box_event ?hg (N := 1) ?hd (cs := #[.slice A0_0 l0_0.length c0_0, .slice A0_1 l0_1.length c0_1]) (t := 25) ?hr ?_; (case hd => rfl); (case hg => rfl); (case hr => first | (go_simp; done) | (go_simp; rfl)); intro gb270 hg w4 hbox hb; have n0 := Az (below_step (bU0 HB.out) hb); have n1 := Az (hbox); have n2 := Az ((by rw [hg]; exact (below_size (bU0 HB.out)) : w.heap.size ≤ gb270)); have n3 := n2; clear HB; have HB := n0; have BK270 := n1; have GW270 := n2; have GE270 := n3; clear n0 n1 n2 n3 hb hbox hg; have hcz5_0 : w4.cell? ⟨gb270, 0, none⟩ = some (.slice A0_0 l0_0.length c0_0) := (blk_cell BK270.out 0).trans rfl; have hcz5_1 : w4.cell? ⟨gb270, 1, none⟩ = some (.slice A0_1 l0_1.length c0_1) := (blk_cell BK270.out 1).trans rfl; have hfz5_0 := blk_frozen BK270.out 0; have hfz5_1 := blk_frozen BK270.out 1) | ((with_reducible refine gate_dst (N := 9) rfl ?_); refine Kd.R_make (Kd.int .i64) _ 3 rfl (N := 9) rfl 23 _ _ rfl (l0_1.length : Int) rfl rfl Try.underlying23 (.int .i64 0) 8 info3 rfl (by decide) (by omega) 0 (ok := fun _ => True) (okp := fun _ => True) rfl (fun _ hk => hk) trivial (oA) (Nat.le_trans (Nat.mul_le_mul_right _ (oA : (l0_1.length : Int).toNat ≤ 35184372088832)) (by omega)) (Below.refl _ _) (Nat.le_refl _) ?_; intro v272 w6 ho7 hb hg_ hnew_; clear hg_ hnew_; (first | rw [← Ny271.out] at ho7 | (simp only [Int.reduceToNat] at ho7; rw [← Ny271.out] at ho7)); have n0 := Az (Kd.R_lower ho7 (below_size (bU1 HB.out GE270.out))); have n1 := Az (blk_below (g := gb270) (o := .cells #[.slice A0_0 l0_0.length c0_0, .slice A0_1 l0_1.length c0_1] 25 (0, 0)) (kU BK270.out) hb); have n2 := Az (below_step (bU1 HB.out GE270.out) hb); clear BK270 HB; have HO273 := n0; have BK270 := n1; have HB := n2; clear n0 n1 n2; clear hb ho7))
   go_loopg [4, 5] k (fun kq v4 v5 w' => ∃ (x3_1 : List Int) (x4_1 : Int) (x5_1 : Int), v4 = .int .i64 x4_1 ∧ v5 = .int .i64 x5_1 ∧ Aside0 (spec_l7Edges.l0 kq x3_1 x4_1 x5_1 l0_0 l0_1 = some r) ∧ Aside0 (kq ≤ k) ∧ Aside0 (Kd.R (Kd.int .i64) 3 w' w.heap.size (fun _ => True) v272 x3_1) ∧ Aside0 (w'.heap[gb270]? = some (.cells #[(.slice A0_0 l0_0.length c0_0), (.slice A0_1 l0_1.length c0_1)] 25 (0, 0))) ∧ Aside0 (Below w.heap.size w w'))
   case atStart => exact ⟨(y271), (0), (0), rS, rS, H', ⟨Nat.le_refl _⟩, ⟨rU HO273.out⟩, ⟨kU BK270.out⟩, ⟨bU1 HB.out GE270.out⟩⟩
   case round =>
    clear H'; (try clear c1); (try clear c2); (try clear c2b0); (try clear c2b1); (try clear p2); (try clear c3); (try clear c3b0); (try clear c3b1); (try clear hcz5_0); (try clear hcz5_1); (try clear hfz5_0); (try clear hfz5_1); obtain ⟨x3_1, x4_1, x5_1, rfl, rfl, HA, HK1, HO_3, BK270, HB⟩ := hrel
    cases gk with
    | zero => exact absurd HA.out (by simp [spec_l7Edges.l0])
    | succ k1 =>
     have H := HA.out; clear HA; simp only [spec_l7Edges.l0] at H
     by_cases c8 : x5_1 < (x3_1.length : Int)
     ·
      rw [if_pos c8] at H; have c8b0 := decide_eq_true c8; clear c8
      by_cases c9 : 0 ≤ x5_1
      ·
       rw [if_pos c9] at H; have c9b0 := decide_eq_true c9; clear c9
       by_cases c10 : x5_1 < (l0_1.length : Int)
       ·
        rw [if_pos c10] at H; have c10b0 := decide_eq_true c10; clear c10
        by_cases c11 : x5_1 < (rd l0_1 x5_1)
        ·
         rw [if_pos c11] at H; have c11b0 := decide_eq_true c11; clear c11; obtain ⟨y275, hy275⟩ : ∃ y_ : List Int, y_ = (x3_1.set (x5_1 : Int).toNat x4_1) := ⟨_, rfl⟩; replace H : (if 0 ≤ (rd l0_1 x5_1) then (if (rd l0_1 x5_1) < (x3_1.length : Int) then (spec_l7Edges.l0 k1 (y275.set ((rd l0_1 x5_1) : Int).toNat x4_1) (wrap64 (x4_1 + 1)) (wrap64 (x5_1 + 1)) l0_0 l0_1) else (none)) else (none)) = some r := hR hy275 H; have Ny275 := Az hy275; clear hy275
         by_cases c13 : 0 ≤ (rd l0_1 x5_1)
         ·
          rw [if_pos c13] at H; have c13b0 := decide_eq_true c13; clear c13
          by_cases c14 : (rd l0_1 x5_1) < (x3_1.length : Int)
          ·
           rw [if_pos c14] at H; have c14b0 := decide_eq_true c14; clear c14; obtain ⟨y277, hy277⟩ : ∃ y_ : List Int, y_ = (y275.set ((rd l0_1 x5_1) : Int).toNat x4_1) := ⟨_, rfl⟩; replace H : (spec_l7Edges.l0 k1 y277 (wrap64 (x4_1 + 1)) (wrap64 (x5_1 + 1)) l0_0 l0_1) = some r := hR hy277 H; have Ny277 := Az hy277; clear hy277; have H' := Az H; clear H; obtain ⟨Ao16, co16, eo16⟩ := Kd.R_slice HO_3.out; subst eo16; have hcz17_0 : wr.cell? ⟨gb270, 0, none⟩ = some (.slice A0_0 l0_0.length c0_0) := (blk_cell BK270.out 0).trans rfl; have hcz17_1 : wr.cell? ⟨gb270, 1, none⟩ = some (.slice A0_1 l0_1.length c0_1) := (blk_cell BK270.out 1).trans rfl; have hfz17_0 := blk_frozen BK270.out 0; have hfz17_1 := blk_frozen BK270.out 1; have p274 : 0 ≤ (x5_1 : Int) := oA; have q274 : x5_1 < (l0_1.length : Int) := oA; obtain ⟨ad274, e274, hx274_0⟩ := Kd.at_int HR0_1.out x5_1 p274 q274
           cases e274
           (try replace hx274_0 := (HB.out.cell (World.block_lt_of_cell? w _ hx274_0)).trans hx274_0); replace p274 := eq_true p274; replace q274 := eq_true q274; have p12 : 0 ≤ (x5_1 : Int) := oA; have q12 : (x5_1 : Int) < ((x3_1.length : Int) : Int) := oA; obtain ⟨go12, co12, eo12, gb12, gl12, cl12, HG12⟩ := Kd.R_form HO_3.out (by omega); (first | cases eo12 | (injection eo12 with ea_ en_ ec_; (first | subst ea_ | (injection ea_ with ea_; subst ea_)); subst ec_; clear en_)); have GB12 := Az gb12; have GG12 := Az HG12; clear gb12 gl12 HG12; obtain ⟨hx12_0, hf12_0⟩ := Kd.R_celln 0 HO_3.out (x5_1 : Int) p12 q12; replace p12 := eq_true p12; replace q12 := eq_true q12; obtain ⟨hy18_, hz18_⟩ := Kd.R_celln 0 HO_3.out (x5_1 : Int) (oA) (oA); have HP18 := Kd.R_putg HO_3.out (x5_1 : Int) x4_1
           go_wp2_with (first | ((with_reducible refine gate_store (t := 3) (p := 26) rfl ?_); refine store_event (t := 3) (p := 26) (v := ?vo_w19) (w1 := (wr.setCell ⟨go12, (x5_1 : Int).toNat, none⟩ (.int .i64 x4_1))) ?hg ?ho ?hn ?hr ?_; (case ho => rfl); (case hg => rfl); (case hn => rfl); (case hr => first | (go_simp; done) | (go_simp; rfl)); intro w19 hw; have hg : wr.grownBy w19 (some go12) := (by rw [hw]; exact HP18.2); have hp_ : Kd.R (Kd.int .i64) 3 w19 w.heap.size (fun _ => True) (.slice (some ⟨go12, 0, none⟩) x3_1.length co16) y275 := (by rw [hw, Ny275.out]; exact HP18.1); clear HP18; have n0 := Az (hp_); have n1 := Az (blk_grown (g := gb270) (o := .cells #[.slice A0_0 l0_0.length c0_0, .slice (some ad274) l0_1.length c0_1] 25 (0, 0)) (kU BK270.out) hg (Kd.R_ne HO_3.out BK270.out (by decide))); have n2 := Az ((by rw [hw]; exact below_set (HB.out) GB12.out : Below w.heap.size w w19)); clear HO_3 BK270 HB; have HO_3 := n0; have BK270 := n1; have HB := n2; clear n0 n1 n2 hg hw hp_; have hcz20_0 : w19.cell? ⟨gb270, 0, none⟩ = some (.slice A0_0 l0_0.length c0_0) := (blk_cell BK270.out 0).trans rfl; have hcz20_1 : w19.cell? ⟨gb270, 1, none⟩ = some (.slice (some ad274) l0_1.length c0_1) := (blk_cell BK270.out 1).trans rfl; have hfz20_0 := blk_frozen BK270.out 0; have hfz20_1 := blk_frozen BK270.out 1; have p276 : 0 ≤ (x5_1 : Int) := oA; have q276 : x5_1 < (l0_1.length : Int) := oA; obtain ⟨ad276, e276, hx276_0⟩ := Kd.at_int HR0_1.out x5_1 p276 q276; obtain rfl : ad274 = ad276 := (by injection e276); replace hx276_0 := (HB.out.cell (World.block_lt_of_cell? w _ hx276_0)).trans hx276_0; replace p276 := eq_true p276; replace q276 := eq_true q276; have p15 : 0 ≤ ((rd l0_1 x5_1) : Int) := oA; have q15 : ((rd l0_1 x5_1) : Int) < ((x3_1.length : Int) : Int) := oA; obtain ⟨hx15_0, hf15_0⟩ := Kd.R_celln 0 HO_3.out ((rd l0_1 x5_1) : Int) p15 q15; replace p15 := eq_true p15; replace q15 := eq_true q15; obtain ⟨hy21_, hz21_⟩ := Kd.R_celln 0 HO_3.out ((rd l0_1 x5_1) : Int) (oA) (oA); have HP21 := Kd.R_putg HO_3.out ((rd l0_1 x5_1) : Int) x4_1) | ((with_reducible refine gate_store (t := 3) (p := 34) rfl ?_); refine store_event (t := 3) (p := 34) (v := ?vo_w22) (w1 := (w19.setCell ⟨go12, ((rd l0_1 x5_1) : Int).toNat, none⟩ (.int .i64 x4_1))) ?hg ?ho ?hn ?hr ?_; (case ho => rfl); (case hg => rfl); (case hn => rfl); (case hr => first | (go_simp; done) | (go_simp; rfl)); intro w22 hw; have hg : w19.grownBy w22 (some go12) := (by rw [hw]; exact HP21.2); have hp_ : Kd.R (Kd.int .i64) 3 w22 w.heap.size (fun _ => True) (.slice (some ⟨go12, 0, none⟩) x3_1.length co16) y277 := (by rw [hw, Ny277.out]; exact HP21.1); clear HP21; have n0 := Az (hp_); have n1 := Az (blk_grown (g := gb270) (o := .cells #[.slice A0_0 l0_0.length c0_0, .slice (some ad274) l0_1.length c0_1] 25 (0, 0)) (kU BK270.out) hg (Kd.R_ne HO_3.out BK270.out (by decide))); have n2 := Az ((by rw [hw]; exact below_set (HB.out) GB12.out : Below w.heap.size w w22)); clear HO_3 BK270 HB; have HO_3 := n0; have BK270 := n1; have HB := n2; clear n0 n1 n2; clear hg hw hp_))
           (first | go_roundg k1 | (refine Handed.intro k1 ?measure ?_; rotate_left; go_step; (try simp only [add_plain]); (repeat apply Exists.intro); refine ⟨?rel, rfl⟩))
           case measure => have := HK1.out; omega
           case rel => exact ⟨(y277), (wrap64 (x4_1 + 1)), (wrap64 (x5_1 + 1)), rS, rS, H', ⟨by have := HK1.out; omega⟩, ⟨rU HO_3.out⟩, ⟨kU BK270.out⟩, ⟨bU1 HB.out GE270.out⟩⟩
          ·
           rw [if_neg c14] at H
           exact absurd H (by simp)
         ·
          rw [if_neg c13] at H
          exact absurd H (by simp)
        ·
         rw [if_neg c11] at H; have c11b0 := decide_eq_false c11; clear c11; have H' := Az H; clear H; obtain ⟨Ao23, co23, eo23⟩ := Kd.R_slice HO_3.out; subst eo23; have hcz24_0 : wr.cell? ⟨gb270, 0, none⟩ = some (.slice A0_0 l0_0.length c0_0) := (blk_cell BK270.out 0).trans rfl; have hcz24_1 : wr.cell? ⟨gb270, 1, none⟩ = some (.slice A0_1 l0_1.length c0_1) := (blk_cell BK270.out 1).trans rfl; have hfz24_0 := blk_frozen BK270.out 0; have hfz24_1 := blk_frozen BK270.out 1; have p274 : 0 ≤ (x5_1 : Int) := oA; have q274 : x5_1 < (l0_1.length : Int) := oA; obtain ⟨ad274, e274, hx274_0⟩ := Kd.at_int HR0_1.out x5_1 p274 q274
         cases e274
         (try replace hx274_0 := (HB.out.cell (World.block_lt_of_cell? w _ hx274_0)).trans hx274_0); replace p274 := eq_true p274; replace q274 := eq_true q274
         go_wp2
         (first | go_roundg k1 | (refine Handed.intro k1 ?measure ?_; rotate_left; go_step; (try simp only [add_plain]); (repeat apply Exists.intro); refine ⟨?rel, rfl⟩))
         case measure => have := HK1.out; omega
         case rel => exact ⟨(x3_1), (x4_1), (wrap64 (x5_1 + 1)), rS, rS, H', ⟨by have := HK1.out; omega⟩, ⟨rU HO_3.out⟩, ⟨kU BK270.out⟩, ⟨bU1 HB.out GE270.out⟩⟩
       ·
        rw [if_neg c10] at H
        exact absurd H (by simp)
      ·
       rw [if_neg c9] at H
       exact absurd H (by simp)
     ·
      rw [if_neg c8] at H; have c8b0 := decide_eq_false c8; clear c8; obtain rfl := Option.some.inj H; obtain ⟨Ao25, co25, eo25⟩ := Kd.R_slice HO_3.out; subst eo25
      go_wp2
      go_ret
      exact ⟨_, rE, rU HO_3.out, bU1 HB.out GE270.out⟩
  ·
   rw [if_neg c3] at H
   exact absurd H (by simp)
 ·
  rw [if_neg c2] at H
  exact absurd H (by simp)
def spec_l7Dart.l0 : Nat → Int → List Int → Int → Option (Int)
 | 0, _, _, _ => none
 | k + 1, x1, x5, x6 => if x6 < (x5.length : Int) then (if 0 ≤ x6 then (if (rd x5 x6) = x1 then (some x6) else (spec_l7Dart.l0 k x1 x5 (wrap64 (x6 + 1)))) else (none)) else (some (-1))
def spec_l7Dart.f (k : Nat) (l0_0 : List Int) (l0_1 : List Int) (a1 : Int) : Option (Int) := (spec_l7Edges.f k l0_0 l0_1).bind fun t279 => (spec_l7Dart.l0 k a1 t279 0)
set_option maxHeartbeats 8000000 in
set_option maxRecDepth 100000 in
theorem spec_l7Dart.calls (k : Nat) (A0_0 : Option Addr) (c0_0 : Nat) (l0_0 : List Int) (A0_1 : Option Addr) (c0_1 : Nat) (l0_1 : List Int) (a1 : Int) (r : Int) (w : World) (hr0_0 : Kd.C (Kd.int .i64) w A0_0 l0_0.length l0_0) (hc0_0 : l0_0.length ≤ c0_0) (hr0_1 : Kd.C (Kd.int .i64) w A0_1 l0_1.length l0_1) (hc0_1 : l0_1.length ≤ c0_1) (h : spec_l7Dart.f k l0_0 l0_1 a1 = some r) :
  Calls Try.prog 61 #[.agg #[.slice A0_0 l0_0.length c0_0, .slice A0_1 l0_1.length c0_1], .int .i64 a1] w fun e w' => e = .returned (.int .i64 r) ∧ Below w.heap.size w w' := by
 have hu25 := Try.underlying25; have HR0_0 := Az hr0_0; have HC0_0 := Az hc0_0; clear hr0_0 hc0_0; have HR0_1 := Az hr0_1; have HC0_1 := Az hc0_1; clear hr0_1 hc0_1; have HB := Az (Below.refl w.heap.size w); have H : ((spec_l7Edges.f k l0_0 l0_1).bind fun t279 => (spec_l7Dart.l0 k a1 t279 0)) = some r := h; clear h; replace H := Option.bind_eq_some_iff.mp H; obtain ⟨t279, A30, H⟩ := H; replace H : (spec_l7Dart.l0 k a1 t279 0) = some r := H; have A3 := Az A30; clear A30; have H' := Az H; clear H
 go_enter Try.func61, Try.ntmps61
 go_wp2_with (first | ((with_reducible refine gate_dst (N := 2) rfl ?_); refine box_event ?hg (N := 2) ?hd (cs := #[.slice A0_0 l0_0.length c0_0, .slice A0_1 l0_1.length c0_1]) (t := 25) ?hr ?_; (case hd => rfl); (case hg => rfl); (case hr => first | (go_simp; done) | (go_simp; rfl)); intro gb278 hg w4 hbox hb; have n0 := Az (below_step (bU0 HB.out) hb); have n1 := Az (hbox); have n2 := Az ((by rw [hg]; exact (below_size (bU0 HB.out)) : w.heap.size ≤ gb278)); have n3 := n2; clear HB; have HB := n0; have BK278 := n1; have GW278 := n2; have GE278 := n3; clear n0 n1 n2 n3 hb hbox hg; have hcz5_0 : w4.cell? ⟨gb278, 0, none⟩ = some (.slice A0_0 l0_0.length c0_0) := (blk_cell BK278.out 0).trans rfl; have hcz5_1 : w4.cell? ⟨gb278, 1, none⟩ = some (.slice A0_1 l0_1.length c0_1) := (blk_cell BK278.out 1).trans rfl; have hfz5_0 := blk_frozen BK278.out 0; have hfz5_1 := blk_frozen BK278.out 1) | ((with_reducible refine gate_callee (f := 122) rfl ?_); refine goesL_ (some 8) rfl rfl Try.func122 (by kernel_rfl) rfl #[.agg #[.slice A0_0 l0_0.length c0_0, .slice A0_1 l0_1.length c0_1]] rfl (by (try simp only [List.map_toArray, List.map_cons, List.map_nil]); first | done | rfl | (simp only [List.length_drop, List.length_take]; rfl)) ?_; (with_reducible refine (spec_l7Edges.calls k _ _ l0_0 _ _ l0_1 t279 _ ?side1 ?side2 ?side3 ?side4 A3.out).mono ?_); (case side1 => exact cU (Kd.C_below HR0_0.out HB.out)); (case side2 => exact HC0_0.out); (case side3 => exact cU (Kd.C_below HR0_1.out HB.out)); (case side4 => exact HC0_1.out); rintro e w6 ⟨v280, rfl, ho0, hb⟩; refine ⟨_, rfl, ?_⟩; have n0 := Az (Kd.R_lower ho0 (below_size (bU1 HB.out GE278.out))); have n1 := Az (blk_below (g := gb278) (o := .cells #[.slice A0_0 l0_0.length c0_0, .slice A0_1 l0_1.length c0_1] 25 (0, 0)) (kU BK278.out) hb); have n2 := Az (below_step (bU1 HB.out GE278.out) hb); clear BK278 HB; have HO281 := n0; have BK278 := n1; have HB := n2; clear n0 n1 n2; (try clear hb); (try clear hb2); (try clear hk); (try clear hi); (try clear ho0)))
 go_loopg [6] k (fun kq v6 w' => ∃ (x6_1 : Int), v6 = .int .i64 x6_1 ∧ Aside0 (spec_l7Dart.l0 kq a1 t279 x6_1 = some r) ∧ Aside0 (kq ≤ k) ∧ Aside0 (Kd.R (Kd.int .i64) 3 w' w.heap.size (fun _ => True) v280 t279) ∧ Aside0 (w'.heap[gb278]? = some (.cells #[(.slice A0_0 l0_0.length c0_0), (.slice A0_1 l0_1.length c0_1)] 25 (0, 0))) ∧ Aside0 (Below w.heap.size w w'))
 case atStart => exact ⟨(0), rS, H', ⟨Nat.le_refl _⟩, ⟨rU HO281.out⟩, ⟨kU BK278.out⟩, ⟨bU1 HB.out GE278.out⟩⟩
 case round =>
  clear H'; (try clear c1); (try clear p2); (try clear c6); (try clear hcz5_0); (try clear hcz5_1); (try clear hfz5_0); (try clear hfz5_1); obtain ⟨x6_1, rfl, HA, HK1, HO_5, BK278, HB⟩ := hrel
  cases gk with
  | zero => exact absurd HA.out (by simp [spec_l7Dart.l0])
  | succ k1 =>
   have H := HA.out; clear HA; simp only [spec_l7Dart.l0] at H
   by_cases c7 : x6_1 < (t279.length : Int)
   ·
    rw [if_pos c7] at H; have c7b0 := decide_eq_true c7; clear c7
    by_cases c8 : 0 ≤ x6_1
    ·
     rw [if_pos c8] at H; have c8b0 := decide_eq_true c8; clear c8
     by_cases c9 : (rd t279 x6_1) = a1
     ·
      rw [if_pos c9] at H; have c9b0 := beq_iff_eq.mpr c9; have c9b1 := bne_eq_false_iff_eq.mpr c9; clear c9; obtain rfl := Option.some.inj H; obtain ⟨Ao10, co10, eo10⟩ := Kd.R_slice HO_5.out; subst eo10; have p282 : 0 ≤ (x6_1 : Int) := oA; have q282 : x6_1 < (t279.length : Int) := oA; obtain ⟨ad282, e282, hx282_0⟩ := Kd.at_int (Kd.R_reads' HO_5.out).2.2 x6_1 p282 q282
      cases e282
      replace p282 := eq_true p282; replace q282 := eq_true q282
      go_wp2
      go_ret
      exact ⟨rE, bU1 HB.out GE278.out⟩
     ·
      rw [if_neg c9] at H; have c9b0 := beq_eq_false_iff_ne.mpr c9; have c9b1 := bne_iff_ne.mpr c9; have H' := Az H; clear H; obtain ⟨Ao11, co11, eo11⟩ := Kd.R_slice HO_5.out; subst eo11; have p282 : 0 ≤ (x6_1 : Int) := oA; have q282 : x6_1 < (t279.length : Int) := oA; obtain ⟨ad282, e282, hx282_0⟩ := Kd.at_int (Kd.R_reads' HO_5.out).2.2 x6_1 p282 q282
      cases e282
      replace p282 := eq_true p282; replace q282 := eq_true q282
      go_wp2
      (first | go_roundg k1 | (refine Handed.intro k1 ?measure ?_; rotate_left; go_step; (try simp only [add_plain]); (repeat apply Exists.intro); refine ⟨?rel, rfl⟩))
      case measure => have := HK1.out; omega
      case rel => exact ⟨(wrap64 (x6_1 + 1)), rS, H', ⟨by have := HK1.out; omega⟩, ⟨rU HO_5.out⟩, ⟨kU BK278.out⟩, ⟨bU1 HB.out GE278.out⟩⟩
    ·
     rw [if_neg c8] at H
     exact absurd H (by simp)
   ·
    rw [if_neg c7] at H; have c7b0 := decide_eq_false c7; clear c7; obtain rfl := Option.some.inj H; obtain ⟨Ao12, co12, eo12⟩ := Kd.R_slice HO_5.out; subst eo12
    go_wp2
    go_ret
    exact ⟨rE, bU1 HB.out GE278.out⟩
def spec_l1Same.l0 : Nat → Int → List Int → Int → Option (List Int)
 | 0, _, _, _ => none
 | k + 1, x0, x3, x4 => if x4 < x0 then (if x3.length < 17592186044416 then (spec_l1Same.l0 k x0 (x3 ++ [x4]) (wrap64 (x4 + 1))) else (none)) else (some x3)
def spec_l1Same.f (k : Nat) (a0 : Int) : Option (List Int) := spec_l1Same.l0 k a0 (([] : List Int)) 0
set_option maxHeartbeats 8000000 in
set_option maxRecDepth 100000 in
theorem spec_l1Same.calls (k : Nat) (a0 : Int) (r : List Int) (w : World) (h : spec_l1Same.f k a0 = some r) :
  Calls Try.prog 91 #[.int .i64 a0] w fun e w' => ∃ v0_ : Value, e = .returned (v0_) ∧ Kd.R (Kd.int .i64) 3 w' w.heap.size (fun _ => True) v0_ r ∧ Below w.heap.size w w' := by
 have HB := Az (Below.refl w.heap.size w); have H : (spec_l1Same.l0 k a0 (([] : List Int)) 0) = some r := h; clear h; obtain ⟨y283, hy283⟩ : ∃ y_ : List Int, y_ = (([] : List Int)) := ⟨_, rfl⟩; replace H : (spec_l1Same.l0 k a0 y283 0) = some r := hR hy283 H; have Ny283 := Az hy283; clear hy283; have H' := Az H; clear H
 go_enter Try.func91, Try.ntmps91
 go_wp2_with (first | ((with_reducible refine gate_dst (N := 5) rfl ?_); refine Kd.R_lit (Kd.int .i64) _ 3 ?hg (N := 5) ?hd (xs := ([] : List Int)) (inner := []) (ok := fun _ => True) (okp := fun _ => True) ?hr ?hp (fun _ hk => hk) trivial (Below.refl _ _) (Nat.le_refl _) (by simp) ?_; (case hd => rfl); (case hg => rfl); (case hr => first | (go_simp; done) | (go_simp; rfl)); (case hp => exact (Reps.none _ _)); intro v284 w2 ho3 hb hg_ hnew_; clear hg_ hnew_; (first | rw [← Ny283.out] at ho3 | (simp only [Int.reduceToNat] at ho3; rw [← Ny283.out] at ho3)); have n0 := Az (Kd.R_lower ho3 (below_size (bU0 HB.out))); have n1 := Az (below_step (bU0 HB.out) hb); clear HB; have HO285 := n0; have HB := n1; clear n0 n1; clear hb ho3))
 go_loopg [3, 4] k (fun kq v3 v4 w' => ∃ (x3_1 : List Int) (x4_1 : Int), v4 = .int .i64 x4_1 ∧ Aside0 (spec_l1Same.l0 kq a0 x3_1 x4_1 = some r) ∧ Aside0 (kq ≤ k) ∧ Aside0 (Kd.R (Kd.int .i64) 3 w' w.heap.size (fun _ => True) v3 x3_1) ∧ Aside0 (Below w.heap.size w w'))
 case atStart => exact ⟨(y283), (0), rS, H', ⟨Nat.le_refl _⟩, ⟨rU HO285.out⟩, ⟨bU0 HB.out⟩⟩
 case round =>
  clear H'; (try clear p2); obtain ⟨x3_1, x4_1, rfl, HA, HK1, HO_3, HB⟩ := hrel
  cases gk with
  | zero => exact absurd HA.out (by simp [spec_l1Same.l0])
  | succ k1 =>
   have H := HA.out; clear HA; simp only [spec_l1Same.l0] at H
   by_cases c4 : x4_1 < a0
   ·
    rw [if_pos c4] at H; have c4b0 := decide_eq_true c4; clear c4
    by_cases c5 : x3_1.length < 17592186044416
    ·
     rw [if_pos c5] at H; have LMc5 := Az c5; clear c5; obtain ⟨y286, hy286⟩ : ∃ y_ : List Int, y_ = (x3_1 ++ [x4_1]) := ⟨_, rfl⟩; replace H : (spec_l1Same.l0 k1 a0 y286 (wrap64 (x4_1 + 1))) = some r := hR hy286 H; have Ny286 := Az hy286; clear hy286; have H' := Az H; clear H
     go_wp2_with (first | ((with_reducible refine gate_builtin (b := .append) (xs := #[.tmp 11, .tmp 13]) rfl ?_); at_builtin; refine Kd.R_append (Kd.int .i64) (w0 := w) w.heap.size rfl (.tmp 11) (.tmp 13) 23 3 (.int .i64 0) 8 rfl Try.underlying23 info3 rfl (by decide) (by omega) u3 x3_1 x4_1 [.int .i64 x4_1] (fun _ => True) (fun _ => False) rfl rfl ?aP (fun _ hk => hk.elim) ?aF ?aO ?aB ?aS ?aL ?_; (case aP => exact rfl); (case aB => exact (bU0 HB.out)); (case aF => exact (fun _ _ => trivial)); (case aO => exact (rU HO_3.out)); (case aS => exact (below_size (bU0 HB.out))); (case aL => have := LMc5.out; omega); intro v287 w6 ho hb hg hat; rw [← Ny286.out] at ho; have n0 := Az (hb); have n1 := Az (ho); clear HB HO_3; have HB := n0; have HO288 := n1; clear n0 n1; clear ho hb hg hat))
     (first | go_roundg k1 | (refine Handed.intro k1 ?measure ?_; rotate_left; go_step; (try simp only [add_plain]); (repeat apply Exists.intro); refine ⟨?rel, rfl⟩))
     case measure => have := HK1.out; omega
     case rel => exact ⟨(y286), (wrap64 (x4_1 + 1)), rS, H', ⟨by have := HK1.out; omega⟩, ⟨rU HO288.out⟩, ⟨bU0 HB.out⟩⟩
    ·
     rw [if_neg c5] at H
     exact absurd H (by simp)
   ·
    rw [if_neg c4] at H; have c4b0 := decide_eq_false c4; clear c4; obtain rfl := Option.some.inj H
    go_wp2
    go_ret
    exact ⟨_, rE, rU HO_3.out, bU0 HB.out⟩
mutual
def spec_l1Orbits.l0 : Nat → List Int → List Int → List Int → Int → Option (List Int)
 | 0, _, _, _, _ => none
 | k + 1, x0, x1, x5, x6 => if x6 < (x0.length : Int) then (spec_l1Orbits.l1 k x0 x1 x5 x6 0) else (some x5)
def spec_l1Orbits.l1 : Nat → List Int → List Int → List Int → Int → Int → Option (List Int)
 | 0, _, _, _, _, _ => none
 | k + 1, x0, x1, x5, x6, x7 => if x7 < (x0.length : Int) then (if 0 ≤ x7 then (if x7 < (x5.length : Int) then (if 0 ≤ (rd x0 x7) then (if (rd x0 x7) < (x5.length : Int) then (if x7 < (x1.length : Int) then (if 0 ≤ (rd x1 x7) then (if (rd x1 x7) < (x5.length : Int) then (spec_l1Orbits.l1 k x0 x1 (((x5.set (x7 : Int).toNat (mn (rd x5 x7) (mn (rd x5 (rd x0 x7)) (rd x5 (rd x1 x7))))).set ((rd x0 x7) : Int).toNat (mn (rd x5 x7) (mn (rd x5 (rd x0 x7)) (rd x5 (rd x1 x7))))).set ((rd x1 x7) : Int).toNat (mn (rd x5 x7) (mn (rd x5 (rd x0 x7)) (rd x5 (rd x1 x7))))) x6 (wrap64 (x7 + 1))) else (none)) else (none)) else (none)) else (none)) else (none)) else (none)) else (none)) else (spec_l1Orbits.l0 k x0 x1 x5 (wrap64 (x6 + 1)))
end
def spec_l1Orbits.f (k : Nat) (l0 : List Int) (l1 : List Int) : Option (List Int) := (spec_l1Same.f k (l0.length : Int)).bind fun t289 => (spec_l1Orbits.l0 k l0 l1 t289 0)
set_option maxHeartbeats 8000000 in
set_option maxRecDepth 100000 in
theorem spec_l1Orbits.calls (k : Nat) (A0 : Option Addr) (c0 : Nat) (l0 : List Int) (A1 : Option Addr) (c1 : Nat) (l1 : List Int) (r : List Int) (w : World) (hr0 : Kd.C (Kd.int .i64) w A0 l0.length l0) (hc0 : l0.length ≤ c0) (hr1 : Kd.C (Kd.int .i64) w A1 l1.length l1) (hc1 : l1.length ≤ c1) (h : spec_l1Orbits.f k l0 l1 = some r) :
  Calls Try.prog 124 #[.slice A0 l0.length c0, .slice A1 l1.length c1] w fun e w' => ∃ v0_ : Value, e = .returned (v0_) ∧ Kd.R (Kd.int .i64) 3 w' w.heap.size (fun _ => True) v0_ r ∧ Below w.heap.size w w' := by
 have HR0 := Az hr0; have HC0 := Az hc0; clear hr0 hc0; have HR1 := Az hr1; have HC1 := Az hc1; clear hr1 hc1; have HB := Az (Below.refl w.heap.size w); have H : ((spec_l1Same.f k (l0.length : Int)).bind fun t289 => (spec_l1Orbits.l0 k l0 l1 t289 0)) = some r := h; clear h; replace H := Option.bind_eq_some_iff.mp H; obtain ⟨t289, A30, H⟩ := H; replace H : (spec_l1Orbits.l0 k l0 l1 t289 0) = some r := H; have A3 := Az A30; clear A30; have H' := Az H; clear H
 go_enter Try.func124, Try.ntmps124
 go_wp2_with (first | (go_at_call 91; (with_reducible refine (spec_l1Same.calls k (l0.length : Int) t289 _ A3.out).mono ?_); rintro e w4 ⟨v290, rfl, ho0, hb⟩; have n0 := Az (Kd.R_lower ho0 (below_size (bU0 HB.out))); have n1 := Az (below_step (bU0 HB.out) hb); clear HB; have HO291 := n0; have HB := n1; clear n0 n1; (try clear hb); (try clear hb2); (try clear hk); (try clear hi); (try clear ho0)))
 repeat (go_quiet (fail); try go_wp2_with (fail))
 go_loopg [6] k (fun kq v6 w' => ∃ (x5_1 : List Int) (x6_1 : Int), v6 = .int .i64 x6_1 ∧ Aside0 (spec_l1Orbits.l0 kq l0 l1 x5_1 x6_1 = some r) ∧ Aside0 (kq ≤ k) ∧ Aside0 (Kd.R (Kd.int .i64) 3 w' w.heap.size (fun _ => True) v290 x5_1) ∧ Aside0 (Below w.heap.size w w'))
 case atStart => exact ⟨(t289), (0), rS, H', ⟨Nat.le_refl _⟩, ⟨rU HO291.out⟩, ⟨bU0 HB.out⟩⟩
 case round =>
  clear H'; (try clear c1); (try clear p2); obtain ⟨x5_1, x6_1, rfl, HA, HK1, HO_5, HB⟩ := hrel
  cases gk with
  | zero => exact absurd HA.out (by simp [spec_l1Orbits.l0])
  | succ k1 =>
   have H := HA.out; clear HA; simp only [spec_l1Orbits.l0] at H
   by_cases c5 : x6_1 < (l0.length : Int)
   ·
    rw [if_pos c5] at H; have c5b0 := decide_eq_true c5; clear c5; have H' := Az H; clear H
    go_wp2
    repeat (go_quiet (fail); try go_wp2)
    go_loopg [7] k1 (fun kq v7 w' => ∃ (x5_2 : List Int) (x7_2 : Int), v7 = .int .i64 x7_2 ∧ Aside0 (spec_l1Orbits.l1 kq l0 l1 x5_2 x6_1 x7_2 = some r) ∧ Aside0 (kq ≤ k1) ∧ Aside0 (Kd.R (Kd.int .i64) 3 w' w.heap.size (fun _ => True) v290 x5_2) ∧ Aside0 (Below w.heap.size w w'))
    case atStart => exact ⟨(x5_1), (0), rS, H', ⟨Nat.le_refl _⟩, ⟨rU HO_5.out⟩, ⟨bU0 HB.out⟩⟩
    case round =>
     clear H'; (try clear c1); (try clear p2); (try clear c5); (try clear c5b0); (try clear p2); obtain ⟨x5_2, x7_2, rfl, HA, HK2, HO_5, HB⟩ := hrel
     cases gk with
     | zero => exact absurd HA.out (by simp [spec_l1Orbits.l1])
     | succ k2 =>
      have H := HA.out; clear HA; simp only [spec_l1Orbits.l1] at H
      by_cases c6 : x7_2 < (l0.length : Int)
      ·
       rw [if_pos c6] at H; have c6b0 := decide_eq_true c6; clear c6
       by_cases c7 : 0 ≤ x7_2
       ·
        rw [if_pos c7] at H; have c7b0 := decide_eq_true c7; clear c7
        by_cases c8 : x7_2 < (x5_2.length : Int)
        ·
         rw [if_pos c8] at H; have c8b0 := decide_eq_true c8; clear c8
         by_cases c9 : 0 ≤ (rd l0 x7_2)
         ·
          rw [if_pos c9] at H; have c9b0 := decide_eq_true c9; clear c9
          by_cases c10 : (rd l0 x7_2) < (x5_2.length : Int)
          ·
           rw [if_pos c10] at H; have c10b0 := decide_eq_true c10; clear c10
           by_cases c11 : x7_2 < (l1.length : Int)
           ·
            rw [if_pos c11] at H; have c11b0 := decide_eq_true c11; clear c11
            by_cases c12 : 0 ≤ (rd l1 x7_2)
            ·
             rw [if_pos c12] at H; have c12b0 := decide_eq_true c12; clear c12
             by_cases c13 : (rd l1 x7_2) < (x5_2.length : Int)
             ·
              rw [if_pos c13] at H; have c13b0 := decide_eq_true c13; clear c13; obtain ⟨ji14, hji14⟩ : ∃ j_ : Int, (mn (rd x5_2 (rd l0 x7_2)) (rd x5_2 (rd l1 x7_2))) = j_ := ⟨_, rfl⟩
              replace H : (spec_l1Orbits.l1 k2 l0 l1 (((x5_2.set (x7_2 : Int).toNat (mn (rd x5_2 x7_2) (ji14))).set ((rd l0 x7_2) : Int).toNat (mn (rd x5_2 x7_2) (ji14))).set ((rd l1 x7_2) : Int).toNat (mn (rd x5_2 x7_2) (ji14))) x6_1 (wrap64 (x7_2 + 1))) = some r := by first | (rw [hji14] at H; exact H) | (simp only [hji14] at H ⊢; exact H)
              have hji14_ : (if (rd x5_2 (rd l1 x7_2)) < (rd x5_2 (rd l0 x7_2)) then (rd x5_2 (rd l1 x7_2)) else (rd x5_2 (rd l0 x7_2))) = ji14 := hji14; obtain ⟨ji15, hji15⟩ : ∃ j_ : Int, (mn (rd x5_2 x7_2) (ji14)) = j_ := ⟨_, rfl⟩
              replace H : (spec_l1Orbits.l1 k2 l0 l1 (((x5_2.set (x7_2 : Int).toNat (ji15)).set ((rd l0 x7_2) : Int).toNat (ji15)).set ((rd l1 x7_2) : Int).toNat (ji15)) x6_1 (wrap64 (x7_2 + 1))) = some r := by first | (rw [hji15] at H; exact H) | (simp only [hji15] at H ⊢; exact H)
              have hji15_ : (if (ji14) < (rd x5_2 x7_2) then (ji14) else (rd x5_2 x7_2)) = ji15 := hji15; obtain ⟨y297, hy297⟩ : ∃ y_ : List Int, y_ = (x5_2.set (x7_2 : Int).toNat (ji15)) := ⟨_, rfl⟩; replace H : (spec_l1Orbits.l1 k2 l0 l1 ((y297.set ((rd l0 x7_2) : Int).toNat (ji15)).set ((rd l1 x7_2) : Int).toNat (ji15)) x6_1 (wrap64 (x7_2 + 1))) = some r := hR hy297 H; have Ny297 := Az hy297; clear hy297; obtain ⟨y299, hy299⟩ : ∃ y_ : List Int, y_ = (y297.set ((rd l0 x7_2) : Int).toNat (ji15)) := ⟨_, rfl⟩; replace H : (spec_l1Orbits.l1 k2 l0 l1 (y299.set ((rd l1 x7_2) : Int).toNat (ji15)) x6_1 (wrap64 (x7_2 + 1))) = some r := hR hy299 H; have Ny299 := Az hy299; clear hy299; obtain ⟨y301, hy301⟩ : ∃ y_ : List Int, y_ = (y299.set ((rd l1 x7_2) : Int).toNat (ji15)) := ⟨_, rfl⟩; replace H : (spec_l1Orbits.l1 k2 l0 l1 y301 x6_1 (wrap64 (x7_2 + 1))) = some r := hR hy301 H; have Ny301 := Az hy301; clear hy301; have H' := Az H; clear H; obtain ⟨Ao19, co19, eo19⟩ := Kd.R_slice HO_5.out; subst eo19; have p292 : 0 ≤ (x7_2 : Int) := oA; have q292 : x7_2 < (x5_2.length : Int) := oA; obtain ⟨ad292, e292, hx292_0⟩ := Kd.at_int (Kd.R_reads' HO_5.out).2.2 x7_2 p292 q292
              cases e292
              replace p292 := eq_true p292; replace q292 := eq_true q292; have p293 : 0 ≤ (x7_2 : Int) := oA; have q293 : x7_2 < (l0.length : Int) := oA; obtain ⟨ad293, e293, hx293_0⟩ := Kd.at_int HR0.out x7_2 p293 q293
              cases e293
              (try replace hx293_0 := (HB.out.cell (World.block_lt_of_cell? w _ hx293_0)).trans hx293_0); replace p293 := eq_true p293; replace q293 := eq_true q293; have p294 : 0 ≤ ((rd l0 x7_2) : Int) := oA; have q294 : (rd l0 x7_2) < (x5_2.length : Int) := oA; obtain ⟨ad294, e294, hx294_0⟩ := Kd.at_int (Kd.R_reads' HO_5.out).2.2 (rd l0 x7_2) p294 q294; obtain rfl : ad292 = ad294 := (by injection e294); replace p294 := eq_true p294; replace q294 := eq_true q294; have p295 : 0 ≤ (x7_2 : Int) := oA; have q295 : x7_2 < (l1.length : Int) := oA; obtain ⟨ad295, e295, hx295_0⟩ := Kd.at_int HR1.out x7_2 p295 q295
              cases e295
              (try replace hx295_0 := (HB.out.cell (World.block_lt_of_cell? w _ hx295_0)).trans hx295_0); replace p295 := eq_true p295; replace q295 := eq_true q295; have p296 : 0 ≤ ((rd l1 x7_2) : Int) := oA; have q296 : (rd l1 x7_2) < (x5_2.length : Int) := oA; obtain ⟨ad296, e296, hx296_0⟩ := Kd.at_int (Kd.R_reads' HO_5.out).2.2 (rd l1 x7_2) p296 q296; obtain rfl : ad292 = ad296 := (by injection e296); replace p296 := eq_true p296; replace q296 := eq_true q296; have p16 : 0 ≤ (x7_2 : Int) := oA; have q16 : (x7_2 : Int) < ((x5_2.length : Int) : Int) := oA; obtain ⟨go16, co16, eo16, gb16, gl16, cl16, HG16⟩ := Kd.R_form HO_5.out (by omega); (first | cases eo16 | (injection eo16 with ea_ en_ ec_; (first | subst ea_ | (injection ea_ with ea_; subst ea_)); subst ec_; clear en_)); have GB16 := Az gb16; have GG16 := Az HG16; clear gb16 gl16 HG16; (first | simp only [add_plain] at hx292_0 | skip); (first | simp only [add_plain] at hx294_0 | skip); (first | simp only [add_plain] at hx296_0 | skip); obtain ⟨hx16_0, hf16_0⟩ := Kd.R_celln 0 HO_5.out (x7_2 : Int) p16 q16; replace p16 := eq_true p16; replace q16 := eq_true q16; obtain ⟨hy20_, hz20_⟩ := Kd.R_celln 0 HO_5.out (x7_2 : Int) (oA) (oA); have HP20 := Kd.R_putg HO_5.out (x7_2 : Int) ji15
              go_wp2_with (fail)
              repeat (go_quiet (fail); try go_wp2_with (first | ((with_reducible refine gate_store (t := 3) (p := 47) rfl ?_); (try (rw [drewN_self wr]; generalize hq_ : World.drewN wr _ = wr; have n0 := Az (Kd.R_at hq_ HO_5.out); have n1 := Az (below_at hq_ HB.out); clear hq_ HO_5 HB; have HO_5 := n0; have HB := n1; clear n0 n1; (try (obtain ⟨hy20_, hz20_⟩ := Kd.R_celln 0 HO_5.out (x7_2 : Int) (oA) (oA))); (try (have HP20 := Kd.R_putg HO_5.out (x7_2 : Int) ji15)))); refine store_event (t := 3) (p := 47) (v := ?vo_w21) (w1 := (wr.setCell ⟨go16, (x7_2 : Int).toNat, none⟩ (.int .i64 ji15))) ?hg ?ho ?hn ?hr ?_; (case ho => rfl); (case hg => rfl); (case hn => rfl); (case hr => first | (go_simp; done) | (go_simp; rfl)); intro w21 hw; have hg : wr.grownBy w21 (some go16) := (by rw [hw]; exact HP20.2); have hp_ : Kd.R (Kd.int .i64) 3 w21 w.heap.size (fun _ => True) (.slice (some ⟨go16, 0, none⟩) x5_2.length co19) y297 := (by rw [hw, Ny297.out]; exact HP20.1); clear HP20; have n0 := Az (hp_); have n1 := Az ((by rw [hw]; exact below_set (HB.out) GB16.out : Below w.heap.size w w21)); clear HO_5 HB; have HO_5 := n0; have HB := n1; clear n0 n1 hg hw hp_; have p298 : 0 ≤ (x7_2 : Int) := oA; have q298 : x7_2 < (l0.length : Int) := oA; obtain ⟨ad298, e298, hx298_0⟩ := Kd.at_int HR0.out x7_2 p298 q298; obtain rfl : ad293 = ad298 := (by injection e298); replace hx298_0 := (HB.out.cell (World.block_lt_of_cell? w _ hx298_0)).trans hx298_0; replace p298 := eq_true p298; replace q298 := eq_true q298; have p17 : 0 ≤ ((rd l0 x7_2) : Int) := oA; have q17 : ((rd l0 x7_2) : Int) < ((x5_2.length : Int) : Int) := oA; obtain ⟨hx17_0, hf17_0⟩ := Kd.R_celln 0 HO_5.out ((rd l0 x7_2) : Int) p17 q17; replace p17 := eq_true p17; replace q17 := eq_true q17; obtain ⟨hy22_, hz22_⟩ := Kd.R_celln 0 HO_5.out ((rd l0 x7_2) : Int) (oA) (oA); have HP22 := Kd.R_putg HO_5.out ((rd l0 x7_2) : Int) ji15) | ((with_reducible refine gate_store (t := 3) (p := 54) rfl ?_); (try (rw [drewN_self w21]; generalize hq_ : World.drewN w21 _ = w21; have n0 := Az (Kd.R_at hq_ HO_5.out); have n1 := Az (below_at hq_ HB.out); clear hq_ HO_5 HB; have HO_5 := n0; have HB := n1; clear n0 n1; (try (obtain ⟨hy22_, hz22_⟩ := Kd.R_celln 0 HO_5.out ((rd l0 x7_2) : Int) (oA) (oA))); (try (have HP22 := Kd.R_putg HO_5.out ((rd l0 x7_2) : Int) ji15)))); refine store_event (t := 3) (p := 54) (v := ?vo_w23) (w1 := (w21.setCell ⟨go16, ((rd l0 x7_2) : Int).toNat, none⟩ (.int .i64 ji15))) ?hg ?ho ?hn ?hr ?_; (case ho => rfl); (case hg => rfl); (case hn => rfl); (case hr => first | (go_simp; done) | (go_simp; rfl)); intro w23 hw; have hg : w21.grownBy w23 (some go16) := (by rw [hw]; exact HP22.2); have hp_ : Kd.R (Kd.int .i64) 3 w23 w.heap.size (fun _ => True) (.slice (some ⟨go16, 0, none⟩) x5_2.length co19) y299 := (by rw [hw, Ny299.out]; exact HP22.1); clear HP22; have n0 := Az (hp_); have n1 := Az ((by rw [hw]; exact below_set (HB.out) GB16.out : Below w.heap.size w w23)); clear HO_5 HB; have HO_5 := n0; have HB := n1; clear n0 n1 hg hw hp_; have p300 : 0 ≤ (x7_2 : Int) := oA; have q300 : x7_2 < (l1.length : Int) := oA; obtain ⟨ad300, e300, hx300_0⟩ := Kd.at_int HR1.out x7_2 p300 q300; obtain rfl : ad295 = ad300 := (by injection e300); replace hx300_0 := (HB.out.cell (World.block_lt_of_cell? w _ hx300_0)).trans hx300_0; replace p300 := eq_true p300; replace q300 := eq_true q300; have p18 : 0 ≤ ((rd l1 x7_2) : Int) := oA; have q18 : ((rd l1 x7_2) : Int) < ((x5_2.length : Int) : Int) := oA; obtain ⟨hx18_0, hf18_0⟩ := Kd.R_celln 0 HO_5.out ((rd l1 x7_2) : Int) p18 q18; replace p18 := eq_true p18; replace q18 := eq_true q18; obtain ⟨hy24_, hz24_⟩ := Kd.R_celln 0 HO_5.out ((rd l1 x7_2) : Int) (oA) (oA); have HP24 := Kd.R_putg HO_5.out ((rd l1 x7_2) : Int) ji15) | ((with_reducible refine gate_store (t := 3) (p := 61) rfl ?_); (try (rw [drewN_self w23]; generalize hq_ : World.drewN w23 _ = w23; have n0 := Az (Kd.R_at hq_ HO_5.out); have n1 := Az (below_at hq_ HB.out); clear hq_ HO_5 HB; have HO_5 := n0; have HB := n1; clear n0 n1; (try (obtain ⟨hy24_, hz24_⟩ := Kd.R_celln 0 HO_5.out ((rd l1 x7_2) : Int) (oA) (oA))); (try (have HP24 := Kd.R_putg HO_5.out ((rd l1 x7_2) : Int) ji15)))); refine store_event (t := 3) (p := 61) (v := ?vo_w25) (w1 := (w23.setCell ⟨go16, ((rd l1 x7_2) : Int).toNat, none⟩ (.int .i64 ji15))) ?hg ?ho ?hn ?hr ?_; (case ho => rfl); (case hg => rfl); (case hn => rfl); (case hr => first | (go_simp; done) | (go_simp; rfl)); intro w25 hw; have hg : w23.grownBy w25 (some go16) := (by rw [hw]; exact HP24.2); have hp_ : Kd.R (Kd.int .i64) 3 w25 w.heap.size (fun _ => True) (.slice (some ⟨go16, 0, none⟩) x5_2.length co19) y301 := (by rw [hw, Ny301.out]; exact HP24.1); clear HP24; have n0 := Az (hp_); have n1 := Az ((by rw [hw]; exact below_set (HB.out) GB16.out : Below w.heap.size w w25)); clear HO_5 HB; have HO_5 := n0; have HB := n1; clear n0 n1; clear hg hw hp_)))
              (first | go_roundg k2 | (refine Handed.intro k2 ?measure ?_; rotate_left; go_step; (try simp only [add_plain]); (repeat apply Exists.intro); refine ⟨?rel, rfl⟩))
              case measure => have := HK1.out; have := HK2.out; omega
              case rel => exact ⟨(y301), (wrap64 (x7_2 + 1)), rS, H', ⟨by have := HK1.out; have := HK2.out; omega⟩, ⟨rU HO_5.out⟩, ⟨bU0 HB.out⟩⟩
             ·
              rw [if_neg c13] at H
              exact absurd H (by simp)
            ·
             rw [if_neg c12] at H
             exact absurd H (by simp)
           ·
            rw [if_neg c11] at H
            exact absurd H (by simp)
          ·
           rw [if_neg c10] at H
           exact absurd H (by simp)
         ·
          rw [if_neg c9] at H
          exact absurd H (by simp)
        ·
         rw [if_neg c8] at H
         exact absurd H (by simp)
       ·
        rw [if_neg c7] at H
        exact absurd H (by simp)
      ·
       rw [if_neg c6] at H; have c6b0 := decide_eq_false c6; clear c6; have H' := Az H; clear H
       go_wp2
       repeat (go_quiet (fail); try go_wp2)
       (first | go_roundg k2 | (refine Handed.intro k2 ?measure ?_; rotate_left; go_step; (try simp only [add_plain]); (repeat apply Exists.intro); refine ⟨?rel, rfl⟩))
       case measure => have := HK1.out; have := HK2.out; omega
       case rel => exact ⟨(x5_2), (wrap64 (x6_1 + 1)), rS, H', ⟨by have := HK1.out; have := HK2.out; omega⟩, ⟨rU HO_5.out⟩, ⟨bU0 HB.out⟩⟩
   ·
    rw [if_neg c5] at H; have c5b0 := decide_eq_false c5; clear c5; obtain rfl := Option.some.inj H
    go_wp2
    repeat (go_quiet (fail); try go_wp2)
    go_ret
    exact ⟨_, rE, rU HO_5.out, bU0 HB.out⟩
def spec_l6In.f (a0 : Int) (a1 : Int) (a2 : Int) : Option (Bool) := if a0 ≥ a1 then (some (decide (a0 ≤ a2))) else (some false)
set_option maxHeartbeats 8000000 in
set_option maxRecDepth 100000 in
theorem spec_l6In.calls (a0 : Int) (a1 : Int) (a2 : Int) (r : Bool) (w : World) (h : spec_l6In.f a0 a1 a2 = some r) :
  Calls Try.prog 118 #[.int .i64 a0, .int .i64 a1, .int .i64 a2] w fun e w' => e = .returned (.bool r) ∧ Drawn0 w w' := by
 have H : (if a0 ≥ a1 then (some (decide (a0 ≤ a2))) else (some false)) = some r := h; clear h
 by_cases c4 : a0 ≥ a1
 ·
  rw [if_pos c4] at H; have c4b0 := decide_eq_true c4; clear c4; obtain rfl := Option.some.inj H
  go_enter Try.func118, Try.ntmps118
  go_wp2
  go_ret
  exact ⟨by first | rfl | (simp; done) | (simp [*]; done), by repeat (first | exact Drawn0.refl _ | apply Drawn0.step)⟩
 ·
  rw [if_neg c4] at H; have c4b0 := decide_eq_false c4; clear c4; obtain rfl := Option.some.inj H
  go_enter Try.func118, Try.ntmps118
  go_wp2
  go_ret
  exact ⟨by first | rfl | (simp; done) | (simp [*]; done), by repeat (first | exact Drawn0.refl _ | apply Drawn0.step)⟩
mutual
def spec_PermValid.l0 : Nat → List Int → Int → Option (Bool)
 | 0, _, _ => none
 | k + 1, x0, x3 => if x3 < (x0.length : Int) then (if 0 ≤ x3 then ((spec_l6In.f (rd x0 x3) 0 (wrap64 ((x0.length : Int) - 1))).bind fun t304 => (if t304 = true then (spec_PermValid.l1 k x0 x3 0) else (some false))) else (none)) else ((spec_l6In.f (x0.length : Int) 1 12).bind fun t302 => (some t302))
def spec_PermValid.l1 : Nat → List Int → Int → Int → Option (Bool)
 | 0, _, _, _ => none
 | k + 1, x0, x3, x4 => if x4 < x3 then (if 0 ≤ x4 then (if x4 < (x0.length : Int) then (if 0 ≤ x3 then (if x3 < (x0.length : Int) then (if (rd x0 x4) = (rd x0 x3) then (some false) else (spec_PermValid.l1 k x0 x3 (wrap64 (x4 + 1)))) else (none)) else (none)) else (none)) else (none)) else (spec_PermValid.l0 k x0 (wrap64 (x3 + 1)))
end
def spec_PermValid.f (k : Nat) (l0 : List Int) : Option (Bool) := spec_PermValid.l0 k l0 0
set_option maxHeartbeats 8000000 in
set_option maxRecDepth 100000 in
theorem spec_PermValid.calls (k : Nat) (A0 : Option Addr) (c0 : Nat) (l0 : List Int) (r : Bool) (w : World) (hr0 : Kd.C (Kd.int .i64) w A0 l0.length l0) (hc0 : l0.length ≤ c0) (h : spec_PermValid.f k l0 = some r) :
  Calls Try.prog 152 #[.slice A0 l0.length c0] w fun e w' => e = .returned (.bool r) ∧ Drawn0 w w' := by
 have HR0 := Az hr0; have HC0 := Az hc0; clear hr0 hc0; have H : (spec_PermValid.l0 k l0 0) = some r := h; clear h; have H' := Az H; clear H
 go_enter Try.func152, Try.ntmps152
 go_wp2
 repeat (go_quiet (fail); try go_wp2)
 go_loopg [3] k (fun kq v3 w' => ∃ (x3_1 : Int), v3 = .int .i64 x3_1 ∧ Aside0 (spec_PermValid.l0 kq l0 x3_1 = some r) ∧ Aside0 (kq ≤ k) ∧ Drawn0 w w')
 case atStart => exact ⟨(0), rS, H', ⟨Nat.le_refl _⟩, by repeat (first | exact Drawn0.refl _ | apply Drawn0.step)⟩
 case round =>
  clear H'; (try clear c1); obtain ⟨x3_1, rfl, HA, HK1, ⟨m1, rfl⟩⟩ := hrel
  cases gk with
  | zero => exact absurd HA.out (by simp [spec_PermValid.l0])
  | succ k1 =>
   have H := HA.out; clear HA; simp only [spec_PermValid.l0] at H
   by_cases c2 : x3_1 < (l0.length : Int)
   ·
    rw [if_pos c2] at H; have c2b0 := decide_eq_true c2; clear c2
    by_cases c3 : 0 ≤ x3_1
    ·
     rw [if_pos c3] at H; have c3b0 := decide_eq_true c3; clear c3; replace H := Option.bind_eq_some_iff.mp H; obtain ⟨t304, A40, H⟩ := H; replace H : (if t304 = true then (spec_PermValid.l1 k1 l0 x3_1 0) else (some false)) = some r := H; have A4 := Az A40; clear A40
     by_cases c5 : t304 = true
     ·
      subst c5
      have H1 : (spec_PermValid.l1 k1 l0 x3_1 0) = some r := by rw [if_pos rfl] at H; exact H
      clear H; have H := H1; clear H1; have H' := Az H; clear H; have p303 : 0 ≤ (x3_1 : Int) := oA; have q303 : x3_1 < (l0.length : Int) := oA; obtain ⟨ad303, e303, hx303_0⟩ := Kd.at_int HR0.out x3_1 p303 q303
      cases e303
      replace p303 := eq_true p303; replace q303 := eq_true q303
      go_wp2_with (first | (go_at_call 118; (with_reducible refine (spec_l6In.calls (rd l0 x3_1) 0 (wrap64 ((l0.length : Int) - 1)) true _ A4.out).mono ?_); rintro e w' ⟨rfl, ⟨nd, rfl⟩⟩; (try first | exact ⟨rfl, _, World.drewN_drewN _ _ _⟩ | exact ⟨rfl, _, Eq.trans (World.drewN_drewN _ _ _) (congrArg (World.drewN _) (Nat.add_assoc _ _ _))⟩)))
      repeat (go_quiet (fail); try go_wp2_with (fail))
      go_loopg [4] k1 (fun kq v4 w' => ∃ (x4_2 : Int), v4 = .int .i64 x4_2 ∧ Aside0 (spec_PermValid.l1 kq l0 x3_1 x4_2 = some r) ∧ Aside0 (kq ≤ k1) ∧ Drawn0 w w')
      case atStart => exact ⟨(0), rS, H', ⟨Nat.le_refl _⟩, by repeat (first | exact Drawn0.refl _ | apply Drawn0.step)⟩
      case round =>
       clear H'; (try clear c1); (try clear c2); (try clear c2b0); (try clear p2); (try clear c3); (try clear c3b0); (try clear p3); (try clear q3); (try clear hx3); (try clear c5); (try clear hx303_0); (try clear p303); (try clear q303); obtain ⟨x4_2, rfl, HA, HK2, ⟨m2, rfl⟩⟩ := hrel
       cases gk with
       | zero => exact absurd HA.out (by simp [spec_PermValid.l1])
       | succ k2 =>
        have H := HA.out; clear HA; simp only [spec_PermValid.l1] at H
        by_cases c6 : x4_2 < x3_1
        ·
         rw [if_pos c6] at H; have c6b0 := decide_eq_true c6; clear c6
         by_cases c7 : 0 ≤ x4_2
         ·
          rw [if_pos c7] at H; have c7b0 := decide_eq_true c7; clear c7
          by_cases c8 : x4_2 < (l0.length : Int)
          ·
           rw [if_pos c8] at H; have c8b0 := decide_eq_true c8; clear c8
           by_cases c9 : 0 ≤ x3_1
           ·
            rw [if_pos c9] at H; have c9b0 := decide_eq_true c9; clear c9
            by_cases c10 : x3_1 < (l0.length : Int)
            ·
             rw [if_pos c10] at H; have c10b0 := decide_eq_true c10; clear c10
             by_cases c11 : (rd l0 x4_2) = (rd l0 x3_1)
             ·
              rw [if_pos c11] at H; have c11b0 := beq_iff_eq.mpr c11; have c11b1 := bne_eq_false_iff_eq.mpr c11; clear c11; obtain rfl := Option.some.inj H; have p305 : 0 ≤ (x4_2 : Int) := oA; have q305 : x4_2 < (l0.length : Int) := oA; obtain ⟨ad305, e305, hx305_0⟩ := Kd.at_int HR0.out x4_2 p305 q305; obtain rfl : ad303 = ad305 := (by injection e305); replace p305 := eq_true p305; replace q305 := eq_true q305; have p306 : 0 ≤ (x3_1 : Int) := oA; have q306 : x3_1 < (l0.length : Int) := oA; obtain ⟨ad306, e306, hx306_0⟩ := Kd.at_int HR0.out x3_1 p306 q306; obtain rfl : ad303 = ad306 := (by injection e306); replace p306 := eq_true p306; replace q306 := eq_true q306
              go_wp2
              repeat (go_quiet (fail); try go_wp2)
              go_ret
              exact ⟨by first | rfl | (simp; done) | (simp [*]; done), by repeat (first | exact Drawn0.refl _ | apply Drawn0.step)⟩
             ·
              rw [if_neg c11] at H; have c11b0 := beq_eq_false_iff_ne.mpr c11; have c11b1 := bne_iff_ne.mpr c11; have H' := Az H; clear H; have p305 : 0 ≤ (x4_2 : Int) := oA; have q305 : x4_2 < (l0.length : Int) := oA; obtain ⟨ad305, e305, hx305_0⟩ := Kd.at_int HR0.out x4_2 p305 q305; obtain rfl : ad303 = ad305 := (by injection e305); replace p305 := eq_true p305; replace q305 := eq_true q305; have p306 : 0 ≤ (x3_1 : Int) := oA; have q306 : x3_1 < (l0.length : Int) := oA; obtain ⟨ad306, e306, hx306_0⟩ := Kd.at_int HR0.out x3_1 p306 q306; obtain rfl : ad303 = ad306 := (by injection e306); replace p306 := eq_true p306; replace q306 := eq_true q306
              go_wp2
              repeat (go_quiet (fail); try go_wp2)
              (first | go_roundg k2 | (refine Handed.intro k2 ?measure ?_; rotate_left; go_step; (try simp only [add_plain]); (repeat apply Exists.intro); refine ⟨?rel, rfl⟩))
              case measure => have := HK1.out; have := HK2.out; omega
              case rel => exact ⟨(wrap64 (x4_2 + 1)), rS, H', ⟨by have := HK1.out; have := HK2.out; omega⟩, by repeat (first | exact Drawn0.refl _ | apply Drawn0.step)⟩
            ·
             rw [if_neg c10] at H
             exact absurd H (by simp)
           ·
            rw [if_neg c9] at H
            exact absurd H (by simp)
          ·
           rw [if_neg c8] at H
           exact absurd H (by simp)
         ·
          rw [if_neg c7] at H
          exact absurd H (by simp)
        ·
         rw [if_neg c6] at H; have c6b0 := decide_eq_false c6; clear c6; have H' := Az H; clear H
         go_wp2
         repeat (go_quiet (fail); try go_wp2)
         (first | go_roundg k2 | (refine Handed.intro k2 ?measure ?_; rotate_left; go_step; (try simp only [add_plain]); (repeat apply Exists.intro); refine ⟨?rel, rfl⟩))
         case measure => have := HK1.out; have := HK2.out; omega
         case rel => exact ⟨(wrap64 (x3_1 + 1)), rS, H', ⟨by have := HK1.out; have := HK2.out; omega⟩, by repeat (first | exact Drawn0.refl _ | apply Drawn0.step)⟩
     ·
      replace c5 := Bool.eq_false_iff.mpr c5; subst c5
      have H1 : (some false) = some r := by rw [if_neg (show ¬ (false = true) by decide)] at H; exact H
      clear H; have H := H1; clear H1; obtain rfl := Option.some.inj H; have p303 : 0 ≤ (x3_1 : Int) := oA; have q303 : x3_1 < (l0.length : Int) := oA; obtain ⟨ad303, e303, hx303_0⟩ := Kd.at_int HR0.out x3_1 p303 q303
      cases e303
      replace p303 := eq_true p303; replace q303 := eq_true q303
      go_wp2_with (first | (go_at_call 118; (with_reducible refine (spec_l6In.calls (rd l0 x3_1) 0 (wrap64 ((l0.length : Int) - 1)) false _ A4.out).mono ?_); rintro e w' ⟨rfl, ⟨nd, rfl⟩⟩; (try first | exact ⟨rfl, _, World.drewN_drewN _ _ _⟩ | exact ⟨rfl, _, Eq.trans (World.drewN_drewN _ _ _) (congrArg (World.drewN _) (Nat.add_assoc _ _ _))⟩)))
      repeat (go_quiet (fail); try go_wp2_with (fail))
      go_ret
      exact ⟨by first | rfl | (simp; done) | (simp [*]; done), by repeat (first | exact Drawn0.refl _ | apply Drawn0.step)⟩
    ·
     rw [if_neg c3] at H
     exact absurd H (by simp)
   ·
    rw [if_neg c2] at H; have c2b0 := decide_eq_false c2; clear c2; replace H := Option.bind_eq_some_iff.mp H; obtain ⟨t302, A120, H⟩ := H; replace H : (some t302) = some r := H; have A12 := Az A120; clear A120; obtain rfl := Option.some.inj H
    go_wp2_with (first | (go_at_call 118; (with_reducible refine (spec_l6In.calls (l0.length : Int) 1 12 t302 _ A12.out).mono ?_); rintro e w' ⟨rfl, ⟨nd, rfl⟩⟩; (try first | exact ⟨rfl, _, World.drewN_drewN _ _ _⟩ | exact ⟨rfl, _, Eq.trans (World.drewN_drewN _ _ _) (congrArg (World.drewN _) (Nat.add_assoc _ _ _))⟩)))
    repeat (go_quiet (fail); try go_wp2_with (fail))
    go_ret
    exact ⟨by first | rfl | (simp; done) | (simp [*]; done), by repeat (first | exact Drawn0.refl _ | apply Drawn0.step)⟩
def spec_l1Both.f (k : Nat) (l0 : List Int) (l1 : List Int) : Option (Bool) := (spec_PermValid.f k l0).bind fun t307 => (if t307 = true then ((spec_PermValid.f k l1).bind fun t308 => (if t308 = true then (some ((l0.length : Int) == (l1.length : Int))) else (some false))) else (some false))
set_option maxHeartbeats 8000000 in
set_option maxRecDepth 100000 in
theorem spec_l1Both.calls (k : Nat) (A0 : Option Addr) (c0 : Nat) (l0 : List Int) (A1 : Option Addr) (c1 : Nat) (l1 : List Int) (r : Bool) (w : World) (hr0 : Kd.C (Kd.int .i64) w A0 l0.length l0) (hc0 : l0.length ≤ c0) (hr1 : Kd.C (Kd.int .i64) w A1 l1.length l1) (hc1 : l1.length ≤ c1) (h : spec_l1Both.f k l0 l1 = some r) :
  Calls Try.prog 125 #[.slice A0 l0.length c0, .slice A1 l1.length c1] w fun e w' => e = .returned (.bool r) ∧ Drawn0 w w' := by
 have HR0 := Az hr0; have HC0 := Az hc0; clear hr0 hc0; have HR1 := Az hr1; have HC1 := Az hc1; clear hr1 hc1; have H : ((spec_PermValid.f k l0).bind fun t307 => (if t307 = true then ((spec_PermValid.f k l1).bind fun t308 => (if t308 = true then (some ((l0.length : Int) == (l1.length : Int))) else (some false))) else (some false))) = some r := h; clear h; replace H := Option.bind_eq_some_iff.mp H; obtain ⟨t307, A30, H⟩ := H; replace H : (if t307 = true then ((spec_PermValid.f k l1).bind fun t308 => (if t308 = true then (some ((l0.length : Int) == (l1.length : Int))) else (some false))) else (some false)) = some r := H; have A3 := Az A30; clear A30
 by_cases c4 : t307 = true
 ·
  subst c4
  have H1 : ((spec_PermValid.f k l1).bind fun t308 => (if t308 = true then (some ((l0.length : Int) == (l1.length : Int))) else (some false))) = some r := by rw [if_pos rfl] at H; exact H
  clear H; have H := H1; clear H1; replace H := Option.bind_eq_some_iff.mp H; obtain ⟨t308, A50, H⟩ := H; replace H : (if t308 = true then (some ((l0.length : Int) == (l1.length : Int))) else (some false)) = some r := H; have A5 := Az A50; clear A50
  by_cases c6 : t308 = true
  ·
   subst c6
   have H1 : (some ((l0.length : Int) == (l1.length : Int))) = some r := by rw [if_pos rfl] at H; exact H
   clear H; have H := H1; clear H1; obtain rfl := Option.some.inj H
   go_enter Try.func125, Try.ntmps125
   go_wp2_with (first | ((with_reducible refine gate_callee (f := 152) rfl ?_); refine goesL_ (some 6) rfl rfl Try.func152 (by kernel_rfl) rfl #[.slice A0 l0.length c0] rfl (by (try simp only [List.map_toArray, List.map_cons, List.map_nil]); first | done | rfl | (simp only [List.length_drop, List.length_take]; rfl)) ?_; (with_reducible refine (spec_PermValid.calls k _ _ l0 true _ ?side1 ?side2 A3.out).mono ?_); (case side1 => exact cU (HR0.out)); (case side2 => exact HC0.out); rintro e w' ⟨rfl, ⟨nd, rfl⟩⟩; refine ⟨_, rfl, ?_⟩) | (go_at_call 152; (with_reducible refine (spec_PermValid.calls k _ _ l1 true _ ?side1 ?side2 A5.out).mono ?_); (case side1 => exact cU (HR1.out)); (case side2 => exact HC1.out); rintro e w' ⟨rfl, ⟨nd, rfl⟩⟩))
   go_ret
   exact ⟨by first | rfl | (simp; done) | (simp [*]; done), by repeat (first | exact Drawn0.refl _ | apply Drawn0.step)⟩
  ·
   replace c6 := Bool.eq_false_iff.mpr c6; subst c6
   have H1 : (some false) = some r := by rw [if_neg (show ¬ (false = true) by decide)] at H; exact H
   clear H; have H := H1; clear H1; obtain rfl := Option.some.inj H
   go_enter Try.func125, Try.ntmps125
   go_wp2_with (first | ((with_reducible refine gate_callee (f := 152) rfl ?_); refine goesL_ (some 6) rfl rfl Try.func152 (by kernel_rfl) rfl #[.slice A0 l0.length c0] rfl (by (try simp only [List.map_toArray, List.map_cons, List.map_nil]); first | done | rfl | (simp only [List.length_drop, List.length_take]; rfl)) ?_; (with_reducible refine (spec_PermValid.calls k _ _ l0 true _ ?side1 ?side2 A3.out).mono ?_); (case side1 => exact cU (HR0.out)); (case side2 => exact HC0.out); rintro e w' ⟨rfl, ⟨nd, rfl⟩⟩; refine ⟨_, rfl, ?_⟩) | (go_at_call 152; (with_reducible refine (spec_PermValid.calls k _ _ l1 false _ ?side1 ?side2 A5.out).mono ?_); (case side1 => exact cU (HR1.out)); (case side2 => exact HC1.out); rintro e w' ⟨rfl, ⟨nd, rfl⟩⟩))
   go_ret
   exact ⟨by first | rfl | (simp; done) | (simp [*]; done), by repeat (first | exact Drawn0.refl _ | apply Drawn0.step)⟩
 ·
  replace c4 := Bool.eq_false_iff.mpr c4; subst c4
  have H1 : (some false) = some r := by rw [if_neg (show ¬ (false = true) by decide)] at H; exact H
  clear H; have H := H1; clear H1; obtain rfl := Option.some.inj H
  go_enter Try.func125, Try.ntmps125
  go_wp2_with (first | ((with_reducible refine gate_callee (f := 152) rfl ?_); refine goesL_ (some 6) rfl rfl Try.func152 (by kernel_rfl) rfl #[.slice A0 l0.length c0] rfl (by (try simp only [List.map_toArray, List.map_cons, List.map_nil]); first | done | rfl | (simp only [List.length_drop, List.length_take]; rfl)) ?_; (with_reducible refine (spec_PermValid.calls k _ _ l0 false _ ?side1 ?side2 A3.out).mono ?_); (case side1 => exact cU (HR0.out)); (case side2 => exact HC0.out); rintro e w' ⟨rfl, ⟨nd, rfl⟩⟩; refine ⟨_, rfl, ?_⟩))
  go_ret
  exact ⟨by first | rfl | (simp; done) | (simp [*]; done), by repeat (first | exact Drawn0.refl _ | apply Drawn0.step)⟩
mutual
def spec_MapValid.l0 : Nat → Int → List Int → List Int → Option (Bool)
 | 0, _, _, _ => none
 | k + 1, x3, xZ0, xZ1 => if x3 < (xZ1.length : Int) then (if 0 ≤ x3 then (if (rd xZ1 x3) = x3 then (some false) else (if 0 ≤ (rd xZ1 x3) then (if (rd xZ1 x3) < (xZ1.length : Int) then (if (rd xZ1 (rd xZ1 x3)) = x3 then (spec_MapValid.l0 k (wrap64 (x3 + 1)) xZ0 xZ1) else (some false)) else (none)) else (none))) else (none)) else ((spec_l1Orbits.f k xZ0 xZ1).bind fun t314 => (spec_MapValid.l1 k t314 0))
def spec_MapValid.l1 : Nat → List Int → Int → Option (Bool)
 | 0, _, _ => none
 | k + 1, x4, x5 => if x5 < (x4.length : Int) then (if 0 ≤ x5 then (if (rd x4 x5) = 0 then (spec_MapValid.l1 k x4 (wrap64 (x5 + 1))) else (some false)) else (none)) else (some true)
end
def spec_MapValid.f (k : Nat) (l0_0 : List Int) (l0_1 : List Int) : Option (Bool) := (spec_l1Both.f k l0_0 l0_1).bind fun t310 => (if t310 = true then (spec_MapValid.l0 k 0 l0_0 l0_1) else (some false))
set_option maxHeartbeats 8000000 in
set_option maxRecDepth 100000 in
theorem spec_MapValid.calls (k : Nat) (A0_0 : Option Addr) (c0_0 : Nat) (l0_0 : List Int) (A0_1 : Option Addr) (c0_1 : Nat) (l0_1 : List Int) (r : Bool) (w : World) (hr0_0 : Kd.C (Kd.int .i64) w A0_0 l0_0.length l0_0) (hc0_0 : l0_0.length ≤ c0_0) (hr0_1 : Kd.C (Kd.int .i64) w A0_1 l0_1.length l0_1) (hc0_1 : l0_1.length ≤ c0_1) (h : spec_MapValid.f k l0_0 l0_1 = some r) :
  Calls Try.prog 79 #[.agg #[.slice A0_0 l0_0.length c0_0, .slice A0_1 l0_1.length c0_1]] w fun e w' => e = .returned (.bool r) ∧ Below w.heap.size w w' := by
 have hu25 := Try.underlying25; have HR0_0 := Az hr0_0; have HC0_0 := Az hc0_0; clear hr0_0 hc0_0; have HR0_1 := Az hr0_1; have HC0_1 := Az hc0_1; clear hr0_1 hc0_1; have HB := Az (Below.refl w.heap.size w); have H : ((spec_l1Both.f k l0_0 l0_1).bind fun t310 => (if t310 = true then (spec_MapValid.l0 k 0 l0_0 l0_1) else (some false))) = some r := h; clear h; replace H := Option.bind_eq_some_iff.mp H; obtain ⟨t310, A20, H⟩ := H; replace H : (if t310 = true then (spec_MapValid.l0 k 0 l0_0 l0_1) else (some false)) = some r := H; have A2 := Az A20; clear A20
 by_cases c3 : t310 = true
 ·
  subst c3
  have H1 : (spec_MapValid.l0 k 0 l0_0 l0_1) = some r := by rw [if_pos rfl] at H; exact H
  clear H; have H := H1; clear H1; have H' := Az H; clear H
  go_enter Try.func79, Try.ntmps79
  go_wp2_with (first | ((with_reducible refine gate_dst (N := 1) rfl ?_); refine box_event ?hg (N := 1) ?hd (cs := #[.slice A0_0 l0_0.length c0_0, .slice A0_1 l0_1.length c0_1]) (t := 25) ?hr ?_; (case hd => rfl); (case hg => rfl); (case hr => first | (go_simp; done) | (go_simp; rfl)); intro gb309 hg w4 hbox hb; have n0 := Az (below_step (bU0 HB.out) hb); have n1 := Az (hbox); have n2 := Az ((by rw [hg]; exact (below_size (bU0 HB.out)) : w.heap.size ≤ gb309)); have n3 := n2; clear HB; have HB := n0; have BK309 := n1; have GW309 := n2; have GE309 := n3; clear n0 n1 n2 n3 hb hbox hg; have hcz5_0 : w4.cell? ⟨gb309, 0, none⟩ = some (.slice A0_0 l0_0.length c0_0) := (blk_cell BK309.out 0).trans rfl; have hcz5_1 : w4.cell? ⟨gb309, 1, none⟩ = some (.slice A0_1 l0_1.length c0_1) := (blk_cell BK309.out 1).trans rfl; have hfz5_0 := blk_frozen BK309.out 0; have hfz5_1 := blk_frozen BK309.out 1) | (go_at_call 125; (with_reducible refine (spec_l1Both.calls k _ _ l0_0 _ _ l0_1 true _ ?side1 ?side2 ?side3 ?side4 A2.out).mono ?_); (case side1 => exact cU (Kd.C_below HR0_0.out HB.out)); (case side2 => exact HC0_0.out); (case side3 => exact cU (Kd.C_below HR0_1.out HB.out)); (case side4 => exact HC0_1.out); rintro e w' ⟨rfl, ⟨nd, rfl⟩⟩; (try first | exact ⟨rfl, _, World.drewN_drewN _ _ _⟩ | exact ⟨rfl, _, Eq.trans (World.drewN_drewN _ _ _) (congrArg (World.drewN _) (Nat.add_assoc _ _ _))⟩)))
  repeat (go_quiet (fail); try go_wp2_with (fail))
  go_loopg [3] k (fun kq v3 w' => ∃ (x3_1 : Int), v3 = .int .i64 x3_1 ∧ Aside0 (spec_MapValid.l0 kq x3_1 l0_0 l0_1 = some r) ∧ Aside0 (kq ≤ k) ∧ Aside0 (w'.heap[gb309]? = some (.cells #[(.slice A0_0 l0_0.length c0_0), (.slice A0_1 l0_1.length c0_1)] 25 (0, 0))) ∧ Aside0 (Below w.heap.size w w'))
  case atStart => exact ⟨(0), rS, H', ⟨Nat.le_refl _⟩, ⟨kU BK309.out⟩, ⟨bU1 HB.out GE309.out⟩⟩
  case round =>
   clear H'; (try clear p2); (try clear c3); (try clear hcz5_0); (try clear hcz5_1); (try clear hfz5_0); (try clear hfz5_1); obtain ⟨x3_1, rfl, HA, HK1, BK309, HB⟩ := hrel
   cases gk with
   | zero => exact absurd HA.out (by simp [spec_MapValid.l0])
   | succ k1 =>
    have H := HA.out; clear HA; simp only [spec_MapValid.l0] at H
    by_cases c6 : x3_1 < (l0_1.length : Int)
    ·
     rw [if_pos c6] at H; have c6b0 := decide_eq_true c6; clear c6
     by_cases c7 : 0 ≤ x3_1
     ·
      rw [if_pos c7] at H; have c7b0 := decide_eq_true c7; clear c7
      by_cases c8 : (rd l0_1 x3_1) = x3_1
      ·
       rw [if_pos c8] at H; have c8b0 := beq_iff_eq.mpr c8; have c8b1 := bne_eq_false_iff_eq.mpr c8; clear c8; obtain rfl := Option.some.inj H; have hcz9_0 : wr.cell? ⟨gb309, 0, none⟩ = some (.slice A0_0 l0_0.length c0_0) := (blk_cell BK309.out 0).trans rfl; have hcz9_1 : wr.cell? ⟨gb309, 1, none⟩ = some (.slice A0_1 l0_1.length c0_1) := (blk_cell BK309.out 1).trans rfl; have hfz9_0 := blk_frozen BK309.out 0; have hfz9_1 := blk_frozen BK309.out 1; have p311 : 0 ≤ (x3_1 : Int) := oA; have q311 : x3_1 < (l0_1.length : Int) := oA; obtain ⟨ad311, e311, hx311_0⟩ := Kd.at_int HR0_1.out x3_1 p311 q311
       cases e311
       (try replace hx311_0 := (HB.out.cell (World.block_lt_of_cell? w _ hx311_0)).trans hx311_0); replace p311 := eq_true p311; replace q311 := eq_true q311
       go_wp2
       repeat (go_quiet (fail); try go_wp2)
       go_ret
       exact ⟨rE, bU1 HB.out GE309.out⟩
      ·
       rw [if_neg c8] at H; have c8b0 := beq_eq_false_iff_ne.mpr c8; have c8b1 := bne_iff_ne.mpr c8
       by_cases c10 : 0 ≤ (rd l0_1 x3_1)
       ·
        rw [if_pos c10] at H; have c10b0 := decide_eq_true c10; clear c10
        by_cases c11 : (rd l0_1 x3_1) < (l0_1.length : Int)
        ·
         rw [if_pos c11] at H; have c11b0 := decide_eq_true c11; clear c11
         by_cases c12 : (rd l0_1 (rd l0_1 x3_1)) = x3_1
         ·
          rw [if_pos c12] at H; have c12b0 := beq_iff_eq.mpr c12; have c12b1 := bne_eq_false_iff_eq.mpr c12; clear c12; have H' := Az H; clear H; have hcz13_0 : wr.cell? ⟨gb309, 0, none⟩ = some (.slice A0_0 l0_0.length c0_0) := (blk_cell BK309.out 0).trans rfl; have hcz13_1 : wr.cell? ⟨gb309, 1, none⟩ = some (.slice A0_1 l0_1.length c0_1) := (blk_cell BK309.out 1).trans rfl; have hfz13_0 := blk_frozen BK309.out 0; have hfz13_1 := blk_frozen BK309.out 1; have p311 : 0 ≤ (x3_1 : Int) := oA; have q311 : x3_1 < (l0_1.length : Int) := oA; obtain ⟨ad311, e311, hx311_0⟩ := Kd.at_int HR0_1.out x3_1 p311 q311
          cases e311
          (try replace hx311_0 := (HB.out.cell (World.block_lt_of_cell? w _ hx311_0)).trans hx311_0); replace p311 := eq_true p311; replace q311 := eq_true q311; have p312 : 0 ≤ (x3_1 : Int) := oA; have q312 : x3_1 < (l0_1.length : Int) := oA; obtain ⟨ad312, e312, hx312_0⟩ := Kd.at_int HR0_1.out x3_1 p312 q312; obtain rfl : ad311 = ad312 := (by injection e312); (try replace hx312_0 := (HB.out.cell (World.block_lt_of_cell? w _ hx312_0)).trans hx312_0); replace p312 := eq_true p312; replace q312 := eq_true q312; have p313 : 0 ≤ ((rd l0_1 x3_1) : Int) := oA; have q313 : (rd l0_1 x3_1) < (l0_1.length : Int) := oA; obtain ⟨ad313, e313, hx313_0⟩ := Kd.at_int HR0_1.out (rd l0_1 x3_1) p313 q313; obtain rfl : ad311 = ad313 := (by injection e313); (try replace hx313_0 := (HB.out.cell (World.block_lt_of_cell? w _ hx313_0)).trans hx313_0); replace p313 := eq_true p313; replace q313 := eq_true q313
          go_wp2
          repeat (go_quiet (fail); try go_wp2)
          (first | go_roundg k1 | (refine Handed.intro k1 ?measure ?_; rotate_left; go_step; (try simp only [add_plain]); (repeat apply Exists.intro); refine ⟨?rel, rfl⟩))
          case measure => have := HK1.out; omega
          case rel => exact ⟨(wrap64 (x3_1 + 1)), rS, H', ⟨by have := HK1.out; omega⟩, ⟨kU BK309.out⟩, ⟨bU1 HB.out GE309.out⟩⟩
         ·
          rw [if_neg c12] at H; have c12b0 := beq_eq_false_iff_ne.mpr c12; have c12b1 := bne_iff_ne.mpr c12; obtain rfl := Option.some.inj H; have hcz14_0 : wr.cell? ⟨gb309, 0, none⟩ = some (.slice A0_0 l0_0.length c0_0) := (blk_cell BK309.out 0).trans rfl; have hcz14_1 : wr.cell? ⟨gb309, 1, none⟩ = some (.slice A0_1 l0_1.length c0_1) := (blk_cell BK309.out 1).trans rfl; have hfz14_0 := blk_frozen BK309.out 0; have hfz14_1 := blk_frozen BK309.out 1; have p311 : 0 ≤ (x3_1 : Int) := oA; have q311 : x3_1 < (l0_1.length : Int) := oA; obtain ⟨ad311, e311, hx311_0⟩ := Kd.at_int HR0_1.out x3_1 p311 q311
          cases e311
          (try replace hx311_0 := (HB.out.cell (World.block_lt_of_cell? w _ hx311_0)).trans hx311_0); replace p311 := eq_true p311; replace q311 := eq_true q311; have p312 : 0 ≤ (x3_1 : Int) := oA; have q312 : x3_1 < (l0_1.length : Int) := oA; obtain ⟨ad312, e312, hx312_0⟩ := Kd.at_int HR0_1.out x3_1 p312 q312; obtain rfl : ad311 = ad312 := (by injection e312); (try replace hx312_0 := (HB.out.cell (World.block_lt_of_cell? w _ hx312_0)).trans hx312_0); replace p312 := eq_true p312; replace q312 := eq_true q312; have p313 : 0 ≤ ((rd l0_1 x3_1) : Int) := oA; have q313 : (rd l0_1 x3_1) < (l0_1.length : Int) := oA; obtain ⟨ad313, e313, hx313_0⟩ := Kd.at_int HR0_1.out (rd l0_1 x3_1) p313 q313; obtain rfl : ad311 = ad313 := (by injection e313); (try replace hx313_0 := (HB.out.cell (World.block_lt_of_cell? w _ hx313_0)).trans hx313_0); replace p313 := eq_true p313; replace q313 := eq_true q313
          go_wp2
          repeat (go_quiet (fail); try go_wp2)
          go_ret
          exact ⟨rE, bU1 HB.out GE309.out⟩
        ·
         rw [if_neg c11] at H
         exact absurd H (by simp)
       ·
        rw [if_neg c10] at H
        exact absurd H (by simp)
     ·
      rw [if_neg c7] at H
      exact absurd H (by simp)
    ·
     rw [if_neg c6] at H; have c6b0 := decide_eq_false c6; clear c6; replace H := Option.bind_eq_some_iff.mp H; obtain ⟨t314, A150, H⟩ := H; replace H : (spec_MapValid.l1 k1 t314 0) = some r := H; have A15 := Az A150; clear A150; have H' := Az H; clear H; have hcz16_0 : wr.cell? ⟨gb309, 0, none⟩ = some (.slice A0_0 l0_0.length c0_0) := (blk_cell BK309.out 0).trans rfl; have hcz16_1 : wr.cell? ⟨gb309, 1, none⟩ = some (.slice A0_1 l0_1.length c0_1) := (blk_cell BK309.out 1).trans rfl; have hfz16_0 := blk_frozen BK309.out 0; have hfz16_1 := blk_frozen BK309.out 1
     go_wp2_with (first | (go_at_call 124; (with_reducible refine (spec_l1Orbits.calls k1 _ _ l0_0 _ _ l0_1 t314 _ ?side1 ?side2 ?side3 ?side4 A15.out).mono ?_); (case side1 => exact cU (Kd.C_below HR0_0.out HB.out)); (case side2 => exact HC0_0.out); (case side3 => exact cU (Kd.C_below HR0_1.out HB.out)); (case side4 => exact HC0_1.out); rintro e w17 ⟨v315, rfl, ho0, hb⟩; have n0 := Az (Kd.R_lower ho0 (below_size (bU1 HB.out GE309.out))); have n1 := Az (blk_below (g := gb309) (o := .cells #[.slice A0_0 l0_0.length c0_0, .slice A0_1 l0_1.length c0_1] 25 (0, 0)) (kU BK309.out) hb); have n2 := Az (below_step (bU1 HB.out GE309.out) hb); clear BK309 HB; have HO316 := n0; have BK309 := n1; have HB := n2; clear n0 n1 n2; (try clear hb); (try clear hb2); (try clear hk); (try clear hi); (try clear ho0)))
     repeat (go_quiet (fail); try go_wp2_with (fail))
     go_loopg [5] k1 (fun kq v5 w' => ∃ (x5_2 : Int), v5 = .int .i64 x5_2 ∧ Aside0 (spec_MapValid.l1 kq t314 x5_2 = some r) ∧ Aside0 (kq ≤ k1) ∧ Aside0 (Kd.R (Kd.int .i64) 3 w' w.heap.size (fun _ => True) v315 t314) ∧ Aside0 (w'.heap[gb309]? = some (.cells #[(.slice A0_0 l0_0.length c0_0), (.slice A0_1 l0_1.length c0_1)] 25 (0, 0))) ∧ Aside0 (Below w.heap.size w w'))
     case atStart => exact ⟨(0), rS, H', ⟨Nat.le_refl _⟩, ⟨rU HO316.out⟩, ⟨kU BK309.out⟩, ⟨bU1 HB.out GE309.out⟩⟩
     case round =>
      clear H'; (try clear c1); (try clear p2); (try clear c3); (try clear p3); (try clear q3); (try clear hx3); (try clear c6); (try clear c6b0); (try clear p6); (try clear c7); (try clear c7b0); (try clear c8); (try clear c8b0); (try clear c8b1); (try clear c10); (try clear c10b0); (try clear c11); (try clear c11b0); (try clear c12); (try clear c12b0); (try clear c12b1); (try clear hcz13_0); (try clear hcz13_1); (try clear hcz14_0); (try clear hcz14_1); (try clear hcz16_0); (try clear hcz16_1); (try clear hcz5_0); (try clear hcz5_1); (try clear hcz9_0); (try clear hcz9_1); (try clear hfz13_0); (try clear hfz13_1); (try clear hfz14_0); (try clear hfz14_1); (try clear hfz16_0); (try clear hfz16_1); (try clear hfz5_0); (try clear hfz5_1); (try clear hfz9_0); (try clear hfz9_1); (try clear hx311_0); (try clear hx312_0); (try clear hx313_0); (try clear p2); (try clear p311); (try clear p312); (try clear p313); (try clear q311); (try clear q312); (try clear q313); obtain ⟨x5_2, rfl, HA, HK2, HO_4, BK309, HB⟩ := hrel
      cases gk with
      | zero => exact absurd HA.out (by simp [spec_MapValid.l1])
      | succ k2 =>
       have H := HA.out; clear HA; simp only [spec_MapValid.l1] at H
       by_cases c18 : x5_2 < (t314.length : Int)
       ·
        rw [if_pos c18] at H; have c18b0 := decide_eq_true c18; clear c18
        by_cases c19 : 0 ≤ x5_2
        ·
         rw [if_pos c19] at H; have c19b0 := decide_eq_true c19; clear c19
         by_cases c20 : (rd t314 x5_2) = 0
         ·
          rw [if_pos c20] at H; have c20b0 := beq_iff_eq.mpr c20; have c20b1 := bne_eq_false_iff_eq.mpr c20; clear c20; have H' := Az H; clear H; obtain ⟨Ao21, co21, eo21⟩ := Kd.R_slice HO_4.out; subst eo21; have p317 : 0 ≤ (x5_2 : Int) := oA; have q317 : x5_2 < (t314.length : Int) := oA; obtain ⟨ad317, e317, hx317_0⟩ := Kd.at_int (Kd.R_reads' HO_4.out).2.2 x5_2 p317 q317
          cases e317
          replace p317 := eq_true p317; replace q317 := eq_true q317
          go_wp2
          repeat (go_quiet (fail); try go_wp2)
          (first | go_roundg k2 | (refine Handed.intro k2 ?measure ?_; rotate_left; go_step; (try simp only [add_plain]); (repeat apply Exists.intro); refine ⟨?rel, rfl⟩))
          case measure => have := HK1.out; have := HK2.out; omega
          case rel => exact ⟨(wrap64 (x5_2 + 1)), rS, H', ⟨by have := HK1.out; have := HK2.out; omega⟩, ⟨rU HO_4.out⟩, ⟨kU BK309.out⟩, ⟨bU1 HB.out GE309.out⟩⟩
         ·
          rw [if_neg c20] at H; have c20b0 := beq_eq_false_iff_ne.mpr c20; have c20b1 := bne_iff_ne.mpr c20; obtain rfl := Option.some.inj H; obtain ⟨Ao22, co22, eo22⟩ := Kd.R_slice HO_4.out; subst eo22; have p317 : 0 ≤ (x5_2 : Int) := oA; have q317 : x5_2 < (t314.length : Int) := oA; obtain ⟨ad317, e317, hx317_0⟩ := Kd.at_int (Kd.R_reads' HO_4.out).2.2 x5_2 p317 q317
          cases e317
          replace p317 := eq_true p317; replace q317 := eq_true q317
          go_wp2
          repeat (go_quiet (fail); try go_wp2)
          go_ret
          exact ⟨rE, bU1 HB.out GE309.out⟩
        ·
         rw [if_neg c19] at H
         exact absurd H (by simp)
       ·
        rw [if_neg c18] at H; have c18b0 := decide_eq_false c18; clear c18; obtain rfl := Option.some.inj H; obtain ⟨Ao23, co23, eo23⟩ := Kd.R_slice HO_4.out; subst eo23
        go_wp2
        repeat (go_quiet (fail); try go_wp2)
        go_ret
        exact ⟨rE, bU1 HB.out GE309.out⟩
 ·
  replace c3 := Bool.eq_false_iff.mpr c3; subst c3
  have H1 : (some false) = some r := by rw [if_neg (show ¬ (false = true) by decide)] at H; exact H
  clear H; have H := H1; clear H1; obtain rfl := Option.some.inj H
  go_enter Try.func79, Try.ntmps79
  go_wp2_with (first | ((with_reducible refine gate_dst (N := 1) rfl ?_); refine box_event ?hg (N := 1) ?hd (cs := #[.slice A0_0 l0_0.length c0_0, .slice A0_1 l0_1.length c0_1]) (t := 25) ?hr ?_; (case hd => rfl); (case hg => rfl); (case hr => first | (go_simp; done) | (go_simp; rfl)); intro gb309 hg w24 hbox hb; have n0 := Az (below_step (bU0 HB.out) hb); have n1 := Az (hbox); have n2 := Az ((by rw [hg]; exact (below_size (bU0 HB.out)) : w.heap.size ≤ gb309)); have n3 := n2; clear HB; have HB := n0; have BK309 := n1; have GW309 := n2; have GE309 := n3; clear n0 n1 n2 n3 hb hbox hg; have hcz25_0 : w24.cell? ⟨gb309, 0, none⟩ = some (.slice A0_0 l0_0.length c0_0) := (blk_cell BK309.out 0).trans rfl; have hcz25_1 : w24.cell? ⟨gb309, 1, none⟩ = some (.slice A0_1 l0_1.length c0_1) := (blk_cell BK309.out 1).trans rfl; have hfz25_0 := blk_frozen BK309.out 0; have hfz25_1 := blk_frozen BK309.out 1) | (go_at_call 125; (with_reducible refine (spec_l1Both.calls k _ _ l0_0 _ _ l0_1 false _ ?side1 ?side2 ?side3 ?side4 A2.out).mono ?_); (case side1 => exact cU (Kd.C_below HR0_0.out HB.out)); (case side2 => exact HC0_0.out); (case side3 => exact cU (Kd.C_below HR0_1.out HB.out)); (case side4 => exact HC0_1.out); rintro e w' ⟨rfl, ⟨nd, rfl⟩⟩; (try first | exact ⟨rfl, _, World.drewN_drewN _ _ _⟩ | exact ⟨rfl, _, Eq.trans (World.drewN_drewN _ _ _) (congrArg (World.drewN _) (Nat.add_assoc _ _ _))⟩)))
  repeat (go_quiet (fail); try go_wp2_with (fail))
  go_ret
  exact ⟨rE, bU1 HB.out GE309.out⟩
mutual
def spec_l1Cycles.l0 : Nat → List Int → List (List Int) → List Bool → Int → Option ((List (List Int)))
 | 0, _, _, _, _ => none
 | k + 1, x0, x3, x4, x5 => if x5 < (x0.length : Int) then (if 0 ≤ x5 then (if x5 < (x4.length : Int) then (if rdOf false x4 x5 = true then (spec_l1Cycles.l0 k x0 x3 x4 (wrap64 (x5 + 1))) else (spec_l1Cycles.l1 k x0 x3 x4 x5 (([] : List Int)) x5)) else (none)) else (none)) else (some x3)
def spec_l1Cycles.l1 : Nat → List Int → List (List Int) → List Bool → Int → List Int → Int → Option ((List (List Int)))
 | 0, _, _, _, _, _, _ => none
 | k + 1, x0, x3, x4, x5, x6, x7 => if 0 ≤ x7 then (if x7 < (x4.length : Int) then (if rdOf false x4 x7 = true then (if x3.length < 5864062014805 then (spec_l1Cycles.l0 k x0 (x3 ++ [x6]) x4 (wrap64 (x5 + 1))) else (none)) else (if x6.length < 17592186044416 then (if x7 < (x0.length : Int) then (spec_l1Cycles.l1 k x0 x3 (x4.set (x7 : Int).toNat true) x5 (x6 ++ [x7]) (rd x0 x7)) else (none)) else (none))) else (none)) else (none)
end
def spec_l1Cycles.f (k : Nat) (l0 : List Int) : Option ((List (List Int))) := if 0 ≤ (l0.length : Int) then (if ((l0.length : Int) : Int).toNat ≤ 281474976710656 then (spec_l1Cycles.l0 k l0 (([] : List (List Int))) (List.replicate ((l0.length : Int) : Int).toNat false) 0) else (none)) else (none)
set_option maxHeartbeats 8000000 in
set_option maxRecDepth 100000 in
theorem spec_l1Cycles.calls (k : Nat) (A0 : Option Addr) (c0 : Nat) (l0 : List Int) (r : List (List Int)) (w : World) (hr0 : Kd.C (Kd.int .i64) w A0 l0.length l0) (hc0 : l0.length ≤ c0) (h : spec_l1Cycles.f k l0 = some r) :
  Calls Try.prog 133 #[.slice A0 l0.length c0] w fun e w' => ∃ v0_ : Value, e = .returned (v0_) ∧ Kd.S (Kd.slice 3 (Kd.int .i64)) 23 w' w.heap.size (fun _ => True) v0_ r ∧ Below w.heap.size w w' := by
 have HR0 := Az hr0; have HC0 := Az hc0; clear hr0 hc0; have HB := Az (Below.refl w.heap.size w); have H : (if 0 ≤ (l0.length : Int) then (if ((l0.length : Int) : Int).toNat ≤ 281474976710656 then (spec_l1Cycles.l0 k l0 (([] : List (List Int))) (List.replicate ((l0.length : Int) : Int).toNat false) 0) else (none)) else (none)) = some r := h; clear h; obtain ⟨y318, hy318⟩ : ∃ y_ : List (List Int), y_ = (([] : List (List Int))) := ⟨_, rfl⟩; replace H : (if 0 ≤ (l0.length : Int) then (if ((l0.length : Int) : Int).toNat ≤ 281474976710656 then (spec_l1Cycles.l0 k l0 y318 (List.replicate ((l0.length : Int) : Int).toNat false) 0) else (none)) else (none)) = some r := hR hy318 H; have Ny318 := Az hy318; clear hy318
 by_cases c2 : 0 ≤ (l0.length : Int)
 ·
  rw [if_pos c2] at H; have c2b0 := eq_true c2; have c2b1 := decide_eq_true c2; clear c2
  by_cases c3 : ((l0.length : Int) : Int).toNat ≤ 281474976710656
  ·
   rw [if_pos c3] at H; have c3b0 := eq_true c3; have c3b1 := decide_eq_true c3; clear c3; obtain ⟨y321, hy321⟩ : ∃ y_ : List Bool, y_ = (List.replicate ((l0.length : Int) : Int).toNat false) := ⟨_, rfl⟩; replace H : (spec_l1Cycles.l0 k l0 y318 y321 0) = some r := hR hy321 H; have Ny321 := Az hy321; clear hy321; have H' := Az H; clear H
   go_enter Try.func133, Try.ntmps133
   go_wp2_with (first | ((with_reducible refine gate_dst (N := 8) rfl ?_); refine Kd.S_lit (Kd.slice 3 (Kd.int .i64)) _ 23 ?hg (N := 8) ?hd (xs := ([] : List (List Int))) (inner := []) (ok := fun _ => True) (okp := fun _ => True) ?hr ?hp (fun _ hk => hk) trivial (Below.refl _ _) (Nat.le_refl _) (by simp) ?_; (case hd => rfl); (case hg => rfl); (case hr => first | (go_simp; done) | (go_simp; rfl)); (case hp => exact (Reps.none _ _)); intro v319 w4 ho5 hb hg_ hnew_; clear hg_ hnew_; (first | rw [← Ny318.out] at ho5 | (simp only [Int.reduceToNat] at ho5; rw [← Ny318.out] at ho5)); have n0 := Az (Kd.S_lower ho5 (below_size (bU0 HB.out))); have n1 := Az (below_step (bU0 HB.out) hb); clear HB; have HO320 := n0; have HB := n1; clear n0 n1; clear hb ho5) | ((with_reducible refine gate_dst (N := 11) rfl ?_); refine Kd.R_make Kd.bool _ 4 rfl (N := 11) rfl 92 _ _ rfl (l0.length : Int) rfl rfl Try.underlying92 (.bool false) 1 info4 rfl (by decide) (by omega) false (ok := fun _ => True) (okp := fun _ => True) rfl (fun _ hk => hk) trivial (oA) (Nat.le_trans (Nat.mul_le_mul_right _ (oA : (l0.length : Int).toNat ≤ 281474976710656)) (by omega)) (Below.refl _ _) (Nat.le_refl _) ?_; intro v322 w6 ho7 hb hg_ hnew_; clear hg_ hnew_; (first | rw [← Ny321.out] at ho7 | (simp only [Int.reduceToNat] at ho7; rw [← Ny321.out] at ho7)); have n0 := Az (Kd.S_below (sU HO320.out) hb); have n1 := Az (Kd.R_lower ho7 (below_size (bU0 HB.out))); have n2 := Az (below_step (bU0 HB.out) hb); clear HO320 HB; have HO320 := n0; have HO323 := n1; have HB := n2; clear n0 n1 n2; clear hb ho7))
   go_loopg [3, 5] k (fun kq v3 v5 w' => ∃ (x3_1 : List (List Int)) (x4_1 : List Bool) (x5_1 : Int), v5 = .int .i64 x5_1 ∧ Aside0 (spec_l1Cycles.l0 kq l0 x3_1 x4_1 x5_1 = some r) ∧ Aside0 (kq ≤ k) ∧ Aside0 (Kd.S (Kd.slice 3 (Kd.int .i64)) 23 w' w.heap.size (fun _ => True) v3 x3_1) ∧ Aside0 (Kd.R Kd.bool 4 w' w.heap.size (fun _ => True) v322 x4_1) ∧ Aside0 (Below w.heap.size w w'))
   case atStart => exact ⟨(y318), (y321), (0), rS, H', ⟨Nat.le_refl _⟩, ⟨sU HO320.out⟩, ⟨rU HO323.out⟩, ⟨bU0 HB.out⟩⟩
   case round =>
    clear H'; (try clear c1); (try clear c2); (try clear c2b0); (try clear c2b1); (try clear p2); (try clear c3); (try clear c3b0); (try clear c3b1); obtain ⟨x3_1, x4_1, x5_1, rfl, HA, HK1, HO_3, HO_4, HB⟩ := hrel
    cases gk with
    | zero => exact absurd HA.out (by simp [spec_l1Cycles.l0])
    | succ k1 =>
     have H := HA.out; clear HA; simp only [spec_l1Cycles.l0] at H
     by_cases c8 : x5_1 < (l0.length : Int)
     ·
      rw [if_pos c8] at H; have c8b0 := decide_eq_true c8; clear c8
      by_cases c9 : 0 ≤ x5_1
      ·
       rw [if_pos c9] at H; have c9b0 := decide_eq_true c9; clear c9
       by_cases c10 : x5_1 < (x4_1.length : Int)
       ·
        rw [if_pos c10] at H; have c10b0 := decide_eq_true c10; clear c10; obtain ⟨bq11, hbq11⟩ : ∃ b_ : Bool, b_ = (rdOf false x4_1 x5_1) := ⟨_, rfl⟩
        replace H : (if bq11 = true then (spec_l1Cycles.l0 k1 l0 x3_1 x4_1 (wrap64 (x5_1 + 1))) else (spec_l1Cycles.l1 k1 l0 x3_1 x4_1 x5_1 (([] : List Int)) x5_1)) = some r := by rw [← hbq11] at H; exact H
        have Nbq11 := Az hbq11; clear hbq11
        by_cases c12 : bq11 = true
        ·
         subst c12
         have H1 : (spec_l1Cycles.l0 k1 l0 x3_1 x4_1 (wrap64 (x5_1 + 1))) = some r := by rw [if_pos rfl] at H; exact H
         clear H; have H := H1; clear H1; have H' := Az H; clear H; obtain ⟨Ao13, co13, eo13⟩ := Kd.R_slice HO_4.out; subst eo13; have p324 : 0 ≤ (x5_1 : Int) := oA; have q324 : x5_1 < (x4_1.length : Int) := oA; obtain ⟨ad324, e324, hx324_0⟩ := Kd.at_bool (Kd.R_reads' HO_4.out).2.2 x5_1 p324 q324; (try rw [← Nbq11.out] at hx324_0)
         cases e324
         replace p324 := eq_true p324; replace q324 := eq_true q324
         go_wp2
         (first | go_roundg k1 | (refine Handed.intro k1 ?measure ?_; rotate_left; go_step; (try simp only [add_plain]); (repeat apply Exists.intro); refine ⟨?rel, rfl⟩))
         case measure => have := HK1.out; omega
         case rel => exact ⟨(x3_1), (x4_1), (wrap64 (x5_1 + 1)), rS, H', ⟨by have := HK1.out; omega⟩, ⟨sU HO_3.out⟩, ⟨rU HO_4.out⟩, ⟨bU0 HB.out⟩⟩
        ·
         replace c12 := Bool.eq_false_iff.mpr c12; subst c12
         have H1 : (spec_l1Cycles.l1 k1 l0 x3_1 x4_1 x5_1 (([] : List Int)) x5_1) = some r := by rw [if_neg (show ¬ (false = true) by decide)] at H; exact H
         clear H; have H := H1; clear H1; obtain ⟨y325, hy325⟩ : ∃ y_ : List Int, y_ = (([] : List Int)) := ⟨_, rfl⟩; replace H : (spec_l1Cycles.l1 k1 l0 x3_1 x4_1 x5_1 y325 x5_1) = some r := hR hy325 H; have Ny325 := Az hy325; clear hy325; have H' := Az H; clear H; obtain ⟨Ao14, co14, eo14⟩ := Kd.R_slice HO_4.out; subst eo14; have p324 : 0 ≤ (x5_1 : Int) := oA; have q324 : x5_1 < (x4_1.length : Int) := oA; obtain ⟨ad324, e324, hx324_0⟩ := Kd.at_bool (Kd.R_reads' HO_4.out).2.2 x5_1 p324 q324; (try rw [← Nbq11.out] at hx324_0)
         cases e324
         replace p324 := eq_true p324; replace q324 := eq_true q324
         go_wp2_with (first | ((with_reducible refine gate_dst (N := 22) rfl ?_); refine Kd.R_lit (Kd.int .i64) _ 3 ?hg (N := 22) ?hd (xs := ([] : List Int)) (inner := []) (ok := fun _ => True) (okp := fun _ => True) ?hr ?hp (fun _ hk => hk) trivial (Below.refl _ _) (Nat.le_refl _) (by simp) ?_; (case hd => rfl); (case hg => rfl); (case hr => first | (go_simp; done) | (go_simp; rfl)); (case hp => exact (Reps.none _ _)); intro v326 w15 ho16 hb hg_ hnew_; clear hg_ hnew_; (first | rw [← Ny325.out] at ho16 | (simp only [Int.reduceToNat] at ho16; rw [← Ny325.out] at ho16)); have n0 := Az (Kd.S_elder' (sU HO_3.out) (Kd.R_base ho16) hb); have n1 := Az (Kd.R_below (rU HO_4.out) hb); have n2 := Az (Kd.R_lower ho16 (below_size (bU0 HB.out))); have n3 := Az (below_step (bU0 HB.out) hb); clear HO_3 HO_4 HB; have HO_3 := n0; have HO_4 := n1; have HO327 := n2; have HB := n3; clear n0 n1 n2 n3; clear hb ho16))
         go_loopg [6, 7] k1 (fun kq v6 v7 w' => ∃ (x4_2 : List Bool) (x6_2 : List Int) (x7_2 : Int), v7 = .int .i64 x7_2 ∧ Aside0 (spec_l1Cycles.l1 kq l0 x3_1 x4_2 x5_1 x6_2 x7_2 = some r) ∧ Aside0 (kq ≤ k1) ∧ Aside0 (Kd.S (Kd.slice 3 (Kd.int .i64)) 23 w' w.heap.size (fun k_ => some k_ ≠ (v6 : Value).ownBlock) u3 x3_1) ∧ Aside0 (Kd.R Kd.bool 4 w' w.heap.size (fun _ => True) (.slice (some ad324) x4_1.length co14) x4_2) ∧ Aside0 (Kd.R (Kd.int .i64) 3 w' w.heap.size (fun _ => True) v6 x6_2) ∧ Aside0 (Below w.heap.size w w'))
         case atStart => exact ⟨(x4_1), (y325), (x5_1), rS, H', ⟨Nat.le_refl _⟩, ⟨by (with_reducible repeat (first | apply Kd.S_alloc | apply Kd.S_drewN | apply Kd.S_drew)); exact Kd.S_mono HO_3.out (fun _ hk => hk.2)⟩, ⟨rU HO_4.out⟩, ⟨rU HO327.out⟩, ⟨bU0 HB.out⟩⟩
         case round =>
          clear H'; (try clear c1); (try clear q1); (try clear c2); (try clear c2b0); (try clear c2b1); (try clear p2); (try clear c3); (try clear c3b0); (try clear c3b1); (try clear p3); (try clear q3); (try clear hx3); (try clear p6); (try clear c8); (try clear c8b0); (try clear c9); (try clear c9b0); (try clear c10); (try clear c10b0); (try clear q11); (try clear c12); (try clear c13); (try clear hx324_0); (try clear p2); (try clear p324); (try clear q324); obtain ⟨x4_2, x6_2, x7_2, rfl, HA, HK2, HO_3, HO_4, HO_6, HB⟩ := hrel; have hl4_2 := (Kd.R_reads' HO_4.out).1; rw [hl4_2] at HO_4; (try simp only [hl4_2]); (try simp only [hl4_2] at HO_3); (try simp only [hl4_2] at HO_6)
          cases gk with
          | zero => exact absurd HA.out (by simp [spec_l1Cycles.l1])
          | succ k2 =>
           have H := HA.out; clear HA; simp only [spec_l1Cycles.l1] at H
           by_cases c17 : 0 ≤ x7_2
           ·
            rw [if_pos c17] at H; have c17b0 := decide_eq_true c17; clear c17
            by_cases c18 : x7_2 < (x4_2.length : Int)
            ·
             rw [if_pos c18] at H; have c18b0 := decide_eq_true c18; (try (have c18b0hl4_2 := c18b0; rw [hl4_2] at c18b0hl4_2)); clear c18; obtain ⟨bq19, hbq19⟩ : ∃ b_ : Bool, b_ = (rdOf false x4_2 x7_2) := ⟨_, rfl⟩
             replace H : (if bq19 = true then (if x3_1.length < 5864062014805 then (spec_l1Cycles.l0 k2 l0 (x3_1 ++ [x6_2]) x4_2 (wrap64 (x5_1 + 1))) else (none)) else (if x6_2.length < 17592186044416 then (if x7_2 < (l0.length : Int) then (spec_l1Cycles.l1 k2 l0 x3_1 (x4_2.set (x7_2 : Int).toNat true) x5_1 (x6_2 ++ [x7_2]) (rd l0 x7_2)) else (none)) else (none))) = some r := by rw [← hbq19] at H; exact H
             have Nbq19 := Az hbq19; clear hbq19
             by_cases c20 : bq19 = true
             ·
              subst c20
              have H1 : (if x3_1.length < 5864062014805 then (spec_l1Cycles.l0 k2 l0 (x3_1 ++ [x6_2]) x4_2 (wrap64 (x5_1 + 1))) else (none)) = some r := by rw [if_pos rfl] at H; exact H
              clear H; have H := H1; clear H1
              by_cases c21 : x3_1.length < 5864062014805
              ·
               rw [if_pos c21] at H; have LMc21 := Az c21; clear c21; obtain ⟨y329, hy329⟩ : ∃ y_ : List (List Int), y_ = (x3_1 ++ [x6_2]) := ⟨_, rfl⟩; replace H : (spec_l1Cycles.l0 k2 l0 y329 x4_2 (wrap64 (x5_1 + 1))) = some r := hR hy329 H; have Ny329 := Az hy329; clear hy329; have H' := Az H; clear H; have p328 : 0 ≤ (x7_2 : Int) := oA; have q328 : x7_2 < (x4_2.length : Int) := oA; obtain ⟨ad328, e328, hx328_0⟩ := Kd.at_bool (Kd.R_reads' HO_4.out).2.2 x7_2 p328 q328; (try rw [← Nbq11.out] at hx328_0); (try rw [← Nbq19.out] at hx328_0); obtain rfl : ad324 = ad328 := (by injection e328); replace p328 := eq_true p328; replace q328 := eq_true q328; obtain ⟨Ao23, co23, eo23⟩ := Kd.R_slice HO_6.out; subst eo23
               go_wp2_with (first | ((with_reducible refine gate_builtin (b := .append) (xs := #[.tmp 40, .tmp 42]) rfl ?_); at_builtin; refine Kd.S_append (Kd.slice 3 (Kd.int .i64)) (w0 := w) w.heap.size rfl (.tmp 40) (.tmp 42) 45 23 (.slice none 0 0) 24 rfl Try.underlying45 info23 rfl (by decide) (by omega) u3 x3_1 x6_2 [.slice Ao23 x6_2.length co23] (fun _ => True) (fun k_ => some k_ = (.slice Ao23 x6_2.length co23 : Value).ownBlock) rfl rfl ?aP (fun k_ hk_ => ((Kd.R_mono (ok' := fun k_ => ((fun _ => True)) k_ ∧ some k_ ≠ (u3 : Value).ownBlock) (Kd.R_apart' (HO_6.out) (Kd.S_typed HO_3.out) (by decide)) (fun k_ hk => ⟨trivial, hk.2⟩))).1 k_ hk_.symm) ?aF ?aO ?aB ?aS ?aL ?_; (case aP => exact Kd.M_row (Kd.R_mono (Kd.R_tight rfl (Kd.R_mono (ok' := fun k_ => ((fun _ => True)) k_ ∧ some k_ ≠ (u3 : Value).ownBlock) (Kd.R_apart' (HO_6.out) (Kd.S_typed HO_3.out) (by decide)) (fun k_ hk => ⟨trivial, hk.2⟩))) (fun _ h_ => h_))); (case aB => exact (bU0 HB.out)); (case aF => exact (fun _ _ => trivial)); (case aO => exact (by (with_reducible repeat (first | apply Kd.S_alloc | apply Kd.S_drewN | apply Kd.S_drew)); exact Kd.S_mono HO_3.out (fun k_ hk => ⟨trivial, fun e_ => hk e_⟩))); (case aS => exact (below_size (bU0 HB.out))); (case aL => have := LMc21.out; omega); intro v330 w22 ho hb hg hat; rw [← Ny329.out] at ho; have n0 := Az (Kd.R_over' (rU HO_4.out) (Kd.S_typed (sU HO_3.out)) (by decide) hg); have n1 := Az (hb); have n2 := Az (ho); clear HO_4 HB HO_3 HO_6; have HO_4 := n0; have HB := n1; have HO331 := n2; clear n0 n1 n2; clear ho hb hg hat))
               (try simp only [← hl4_2]); (first | go_roundg k2 | (refine Handed.intro k2 ?measure ?_; rotate_left; go_step; (try simp only [add_plain]); (repeat apply Exists.intro); refine ⟨?rel, rfl⟩))
               case measure => have := HK1.out; have := HK2.out; omega
               case rel => exact ⟨(y329), (x4_2), (wrap64 (x5_1 + 1)), rS, H', ⟨by have := HK1.out; have := HK2.out; omega⟩, ⟨by (try simp only [hl4_2]); (with_reducible repeat (first | apply Kd.S_alloc | apply Kd.S_drewN | apply Kd.S_drew)); exact HO331.out⟩, ⟨by (try simp only [hl4_2]); (with_reducible repeat (first | apply Kd.R_alloc | apply Kd.R_drewN | apply Kd.R_drew)); exact HO_4.out⟩, ⟨bU0 HB.out⟩⟩
              ·
               rw [if_neg c21] at H
               exact absurd H (by simp)
             ·
              replace c20 := Bool.eq_false_iff.mpr c20; subst c20
              have H1 : (if x6_2.length < 17592186044416 then (if x7_2 < (l0.length : Int) then (spec_l1Cycles.l1 k2 l0 x3_1 (x4_2.set (x7_2 : Int).toNat true) x5_1 (x6_2 ++ [x7_2]) (rd l0 x7_2)) else (none)) else (none)) = some r := by rw [if_neg (show ¬ (false = true) by decide)] at H; exact H
              clear H; have H := H1; clear H1; obtain ⟨y332, hy332⟩ : ∃ y_ : List Bool, y_ = (x4_2.set (x7_2 : Int).toNat true) := ⟨_, rfl⟩; replace H : (if x6_2.length < 17592186044416 then (if x7_2 < (l0.length : Int) then (spec_l1Cycles.l1 k2 l0 x3_1 y332 x5_1 (x6_2 ++ [x7_2]) (rd l0 x7_2)) else (none)) else (none)) = some r := hR hy332 H; have Ny332 := Az hy332; clear hy332
              by_cases c25 : x6_2.length < 17592186044416
              ·
               rw [if_pos c25] at H; have LMc25 := Az c25; clear c25; obtain ⟨y333, hy333⟩ : ∃ y_ : List Int, y_ = (x6_2 ++ [x7_2]) := ⟨_, rfl⟩; replace H : (if x7_2 < (l0.length : Int) then (spec_l1Cycles.l1 k2 l0 x3_1 y332 x5_1 y333 (rd l0 x7_2)) else (none)) = some r := hR hy333 H; have Ny333 := Az hy333; clear hy333
               by_cases c26 : x7_2 < (l0.length : Int)
               ·
                rw [if_pos c26] at H; have c26b0 := decide_eq_true c26; (try (have c26b0hl4_2 := c26b0; rw [hl4_2] at c26b0hl4_2)); clear c26; have H' := Az H; clear H; have p328 : 0 ≤ (x7_2 : Int) := oA; have q328 : x7_2 < (x4_2.length : Int) := oA; obtain ⟨ad328, e328, hx328_0⟩ := Kd.at_bool (Kd.R_reads' HO_4.out).2.2 x7_2 p328 q328; (try rw [← Nbq11.out] at hx328_0); (try rw [← Nbq19.out] at hx328_0); obtain rfl : ad324 = ad328 := (by injection e328); replace p328 := eq_true p328; replace q328 := eq_true q328; have p24 : 0 ≤ (x7_2 : Int) := oA; have q24 : (x7_2 : Int) < ((x4_2.length : Int) : Int) := oA; obtain ⟨go24, co24, eo24, gb24, gl24, cl24, HG24⟩ := Kd.R_form HO_4.out (by omega); (first | cases eo24 | (injection eo24 with ea_ en_ ec_; (first | subst ea_ | (injection ea_ with ea_; subst ea_)); subst ec_; clear en_)); have GB24 := Az gb24; have GG24 := Az HG24; clear gb24 gl24 HG24; (first | simp only [add_plain] at hx324_0 | skip); (first | simp only [add_plain] at hx328_0 | skip); obtain ⟨hx24_0, hf24_0⟩ := Kd.R_celln false HO_4.out (x7_2 : Int) p24 q24; replace p24 := eq_true p24; replace q24 := eq_true q24; obtain ⟨hy27_, hz27_⟩ := Kd.R_celln false HO_4.out (x7_2 : Int) (oA) (oA); have HP27 := Kd.R_putg HO_4.out (x7_2 : Int) true
                go_wp2_with (first | ((with_reducible refine gate_store (t := 4) (p := 35) rfl ?_); refine store_event (t := 4) (p := 35) (v := ?vo_w28) (w1 := (wr.setCell ⟨go24, (x7_2 : Int).toNat, none⟩ (.bool true))) ?hg ?ho ?hn ?hr ?_; (case ho => rfl); (case hg => rfl); (case hn => rfl); (case hr => first | (go_simp; done) | (go_simp; rfl)); intro w28 hw; have hg : wr.grownBy w28 (some go24) := (by rw [hw]; exact HP27.2); have hp_ : Kd.R Kd.bool 4 w28 w.heap.size (fun _ => True) (.slice (some ⟨go24, 0, none⟩) x4_2.length co14) y332 := (by rw [hw, Ny332.out]; exact HP27.1); clear HP27; have n0 := Az (Kd.S_over' (v := (.slice (some ⟨go24, 0, none⟩) x4_2.length co14)) (sU HO_3.out) (Kd.R_typed HO_4.out) (by decide) hg); have n1 := Az (hp_); have n2 := Az (Kd.R_over' (v := (.slice (some ⟨go24, 0, none⟩) x4_2.length co14)) (rU HO_6.out) (Kd.R_typed HO_4.out) (by decide) hg); have n3 := Az ((by rw [hw]; exact below_set (HB.out) GB24.out : Below w.heap.size w w28)); clear HO_3 HO_4 HO_6 HB; have HO_3 := n0; have HO_4 := n1; have HO_6 := n2; have HB := n3; clear n0 n1 n2 n3; clear hg hw hp_) | ((with_reducible refine gate_builtin (b := .append) (xs := #[.tmp 36, .tmp 38]) rfl ?_); at_builtin; refine Kd.R_append (Kd.int .i64) (w0 := w) w.heap.size rfl (.tmp 36) (.tmp 38) 23 3 (.int .i64 0) 8 rfl Try.underlying23 info3 rfl (by decide) (by omega) u6 x6_2 x7_2 [.int .i64 x7_2] (fun _ => True) (fun _ => False) rfl rfl ?aP (fun _ hk => hk.elim) ?aF ?aO ?aB ?aS ?aL ?_; (case aP => exact rfl); (case aB => exact (bU0 HB.out)); (case aF => exact (fun _ _ => trivial)); (case aO => exact (rU HO_6.out)); (case aS => exact (below_size (bU0 HB.out))); (case aL => have := LMc25.out; omega); intro v334 w29 ho hb hg hat; rw [← Ny333.out] at ho; have n0 := Az (Kd.S_after (ok := (fun _ => True)) (by (with_reducible repeat (first | apply Kd.S_alloc | apply Kd.S_drewN | apply Kd.S_drew)); exact Kd.S_mono HO_3.out (fun _ hk => ⟨trivial, hk⟩)) hg hat); have n1 := Az (Kd.R_over' (rU HO_4.out) (Kd.R_typed (rU HO_6.out)) (by decide) hg); have n2 := Az (hb); have n3 := Az (ho); clear HO_3 HO_4 HB HO_6; have HO_3 := n0; have HO_4 := n1; have HB := n2; have HO335 := n3; clear n0 n1 n2 n3 ho hb hg hat; have p336 : 0 ≤ (x7_2 : Int) := oA; have q336 : x7_2 < (l0.length : Int) := oA; obtain ⟨ad336, e336, hx336_0⟩ := Kd.at_int HR0.out x7_2 p336 q336; cases e336; replace hx336_0 := (HB.out.cell (World.block_lt_of_cell? w _ hx336_0)).trans hx336_0; replace p336 := eq_true p336; replace q336 := eq_true q336))
                (try simp only [← hl4_2]); (first | go_roundg k2 | (refine Handed.intro k2 ?measure ?_; rotate_left; go_step; (try simp only [add_plain]); (repeat apply Exists.intro); refine ⟨?rel, rfl⟩))
                case measure => have := HK1.out; have := HK2.out; omega
                case rel => exact ⟨(y332), (y333), (rd l0 x7_2), rS, H', ⟨by have := HK1.out; have := HK2.out; omega⟩, ⟨by (try simp only [hl4_2]); (with_reducible repeat (first | apply Kd.S_alloc | apply Kd.S_drewN | apply Kd.S_drew)); exact Kd.S_mono HO_3.out (fun _ hk => hk.2)⟩, ⟨by (try simp only [hl4_2]); (with_reducible repeat (first | apply Kd.R_alloc | apply Kd.R_drewN | apply Kd.R_drew)); exact HO_4.out⟩, ⟨by (try simp only [hl4_2]); (with_reducible repeat (first | apply Kd.R_alloc | apply Kd.R_drewN | apply Kd.R_drew)); exact HO335.out⟩, ⟨bU0 HB.out⟩⟩
               ·
                rw [if_neg c26] at H
                exact absurd H (by simp)
              ·
               rw [if_neg c25] at H
               exact absurd H (by simp)
            ·
             rw [if_neg c18] at H
             exact absurd H (by simp)
           ·
            rw [if_neg c17] at H
            exact absurd H (by simp)
       ·
        rw [if_neg c10] at H
        exact absurd H (by simp)
      ·
       rw [if_neg c9] at H
       exact absurd H (by simp)
     ·
      rw [if_neg c8] at H; have c8b0 := decide_eq_false c8; clear c8; obtain rfl := Option.some.inj H
      go_wp2
      go_ret
      exact ⟨_, rE, sU HO_3.out, bU0 HB.out⟩
  ·
   rw [if_neg c3] at H
   exact absurd H (by simp)
 ·
  rw [if_neg c2] at H
  exact absurd H (by simp)
mutual
def spec_l7Vertices.l0 : Nat → List Int → List (List Int) → Int → Option (List Int)
 | 0, _, _, _ => none
 | k + 1, x3, x4, x5 => if x5 < (x4.length : Int) then (spec_l7Vertices.l1 k x3 x4 x5 0) else (some x3)
def spec_l7Vertices.l1 : Nat → List Int → List (List Int) → Int → Int → Option (List Int)
 | 0, _, _, _, _ => none
 | k + 1, x3, x4, x5, x6 => if 0 ≤ x5 then (if x5 < (x4.length : Int) then (if x6 < ((rd_L1 x4 x5).length : Int) then (if 0 ≤ x6 then (if 0 ≤ (rd (rd_L1 x4 x5) x6) then (if (rd (rd_L1 x4 x5) x6) < (x3.length : Int) then (spec_l7Vertices.l1 k (x3.set ((rd (rd_L1 x4 x5) x6) : Int).toNat x5) x4 x5 (wrap64 (x6 + 1))) else (none)) else (none)) else (none)) else (spec_l7Vertices.l0 k x3 x4 (wrap64 (x5 + 1)))) else (none)) else (none)
end
def spec_l7Vertices.f (k : Nat) (l0 : List Int) : Option (List Int) := if 0 ≤ (l0.length : Int) then (if ((l0.length : Int) : Int).toNat ≤ 35184372088832 then ((spec_l1Cycles.f k l0).bind fun t340 => (spec_l7Vertices.l0 k (List.replicate ((l0.length : Int) : Int).toNat 0) t340 0)) else (none)) else (none)
set_option maxHeartbeats 8000000 in
set_option maxRecDepth 100000 in
theorem spec_l7Vertices.calls (k : Nat) (A0 : Option Addr) (c0 : Nat) (l0 : List Int) (r : List Int) (w : World) (hr0 : Kd.C (Kd.int .i64) w A0 l0.length l0) (hc0 : l0.length ≤ c0) (h : spec_l7Vertices.f k l0 = some r) :
  Calls Try.prog 119 #[.slice A0 l0.length c0] w fun e w' => ∃ v0_ : Value, e = .returned (v0_) ∧ Kd.R (Kd.int .i64) 3 w' w.heap.size (fun _ => True) v0_ r ∧ Below w.heap.size w w' := by
 have HR0 := Az hr0; have HC0 := Az hc0; clear hr0 hc0; have HB := Az (Below.refl w.heap.size w); have H : (if 0 ≤ (l0.length : Int) then (if ((l0.length : Int) : Int).toNat ≤ 35184372088832 then ((spec_l1Cycles.f k l0).bind fun t340 => (spec_l7Vertices.l0 k (List.replicate ((l0.length : Int) : Int).toNat 0) t340 0)) else (none)) else (none)) = some r := h; clear h
 by_cases c2 : 0 ≤ (l0.length : Int)
 ·
  rw [if_pos c2] at H; have c2b0 := eq_true c2; have c2b1 := decide_eq_true c2; clear c2
  by_cases c3 : ((l0.length : Int) : Int).toNat ≤ 35184372088832
  ·
   rw [if_pos c3] at H; have c3b0 := eq_true c3; have c3b1 := decide_eq_true c3; clear c3; obtain ⟨y337, hy337⟩ : ∃ y_ : List Int, y_ = (List.replicate ((l0.length : Int) : Int).toNat 0) := ⟨_, rfl⟩; replace H : ((spec_l1Cycles.f k l0).bind fun t340 => (spec_l7Vertices.l0 k y337 t340 0)) = some r := hR hy337 H; have Ny337 := Az hy337; clear hy337; replace H := Option.bind_eq_some_iff.mp H; obtain ⟨t340, A40, H⟩ := H; replace H : (spec_l7Vertices.l0 k y337 t340 0) = some r := H; have A4 := Az A40; clear A40; have H' := Az H; clear H
   go_enter Try.func119, Try.ntmps119
   go_wp2_with (first | ((with_reducible refine gate_dst (N := 9) rfl ?_); refine Kd.R_make (Kd.int .i64) _ 3 rfl (N := 9) rfl 23 _ _ rfl (l0.length : Int) rfl rfl Try.underlying23 (.int .i64 0) 8 info3 rfl (by decide) (by omega) 0 (ok := fun _ => True) (okp := fun _ => True) rfl (fun _ hk => hk) trivial (oA) (Nat.le_trans (Nat.mul_le_mul_right _ (oA : (l0.length : Int).toNat ≤ 35184372088832)) (by omega)) (Below.refl _ _) (Nat.le_refl _) ?_; intro v338 w5 ho6 hb hg_ hnew_; clear hg_ hnew_; (first | rw [← Ny337.out] at ho6 | (simp only [Int.reduceToNat] at ho6; rw [← Ny337.out] at ho6)); have n0 := Az (Kd.R_lower ho6 (below_size (bU0 HB.out))); have n1 := Az (below_step (bU0 HB.out) hb); clear HB; have HO339 := n0; have HB := n1; clear n0 n1; clear hb ho6) | ((with_reducible refine gate_callee (f := 133) rfl ?_); refine goesL_ (some 11) rfl rfl Try.func133 (by kernel_rfl) rfl #[.slice A0 l0.length c0] rfl (by (try simp only [List.map_toArray, List.map_cons, List.map_nil]); first | done | rfl | (simp only [List.length_drop, List.length_take]; rfl)) ?_; (with_reducible refine (spec_l1Cycles.calls k _ _ l0 t340 _ ?side1 ?side2 A4.out).mono ?_); (case side1 => exact cU (Kd.C_below HR0.out HB.out)); (case side2 => exact HC0.out); rintro e w7 ⟨v341, rfl, ho0, hb⟩; refine ⟨_, rfl, ?_⟩; have n0 := Az (Kd.R_below (rU HO339.out) hb); have n1 := Az (Kd.S_lower (Kd.S_new' ho0 (Kd.R_lt (rU HO339.out))) (below_size (bU0 HB.out))); have n2 := Az (below_step (bU0 HB.out) hb); clear HO339 HB; have HO339 := n0; have HO342 := n1; have HB := n2; clear n0 n1 n2; (try clear hb); (try clear hb2); (try clear hk); (try clear hi); (try clear ho0)))
   go_loopg [5] k (fun kq v5 w' => ∃ (x3_1 : List Int) (x5_1 : Int), v5 = .int .i64 x5_1 ∧ Aside0 (spec_l7Vertices.l0 kq x3_1 t340 x5_1 = some r) ∧ Aside0 (kq ≤ k) ∧ Aside0 (Kd.R (Kd.int .i64) 3 w' w.heap.size (fun _ => True) v338 x3_1) ∧ Aside0 (Kd.S (Kd.slice 3 (Kd.int .i64)) 23 w' w.heap.size (fun k_ => some k_ ≠ (v338 : Value).ownBlock) v341 t340) ∧ Aside0 (Below w.heap.size w w'))
   case atStart => exact ⟨(y337), (0), rS, H', ⟨Nat.le_refl _⟩, ⟨rU HO339.out⟩, ⟨by (with_reducible repeat (first | apply Kd.S_alloc | apply Kd.S_drewN | apply Kd.S_drew)); exact Kd.S_mono HO342.out (fun _ hk => hk.2)⟩, ⟨bU0 HB.out⟩⟩
   case round =>
    clear H'; (try clear c1); (try clear c2); (try clear c2b0); (try clear c2b1); (try clear p2); (try clear c3); (try clear c3b0); (try clear c3b1); obtain ⟨x3_1, x5_1, rfl, HA, HK1, HO_3, HO_4, HB⟩ := hrel
    cases gk with
    | zero => exact absurd HA.out (by simp [spec_l7Vertices.l0])
    | succ k1 =>
     have H := HA.out; clear HA; simp only [spec_l7Vertices.l0] at H
     by_cases c8 : x5_1 < (t340.length : Int)
     ·
      rw [if_pos c8] at H; have c8b0 := decide_eq_true c8; clear c8; have H' := Az H; clear H; obtain ⟨Ao9, co9, eo9⟩ := Kd.S_slice HO_4.out; subst eo9
      go_wp2
      go_loopg [6] k1 (fun kq v6 w' => ∃ (x3_2 : List Int) (x6_2 : Int), v6 = .int .i64 x6_2 ∧ Aside0 (spec_l7Vertices.l1 kq x3_2 t340 x5_1 x6_2 = some r) ∧ Aside0 (kq ≤ k1) ∧ Aside0 (Kd.R (Kd.int .i64) 3 w' w.heap.size (fun _ => True) v338 x3_2) ∧ Aside0 (Kd.S (Kd.slice 3 (Kd.int .i64)) 23 w' w.heap.size (fun k_ => some k_ ≠ (v338 : Value).ownBlock) (.slice Ao9 t340.length co9) t340) ∧ Aside0 (Below w.heap.size w w'))
      case atStart => exact ⟨(x3_1), (0), rS, H', ⟨Nat.le_refl _⟩, ⟨rU HO_3.out⟩, ⟨sU HO_4.out⟩, ⟨bU0 HB.out⟩⟩
      case round =>
       clear H'; (try clear c1); (try clear c2); (try clear c2b0); (try clear c2b1); (try clear p2); (try clear c3); (try clear c3b0); (try clear c3b1); (try clear c8); (try clear c8b0); (try clear p2); obtain ⟨x3_2, x6_2, rfl, HA, HK2, HO_3, HO_4, HB⟩ := hrel
       cases gk with
       | zero => exact absurd HA.out (by simp [spec_l7Vertices.l1])
       | succ k2 =>
        have H := HA.out; clear HA; simp only [spec_l7Vertices.l1] at H
        by_cases c10 : 0 ≤ x5_1
        ·
         rw [if_pos c10] at H; have c10b0 := decide_eq_true c10; clear c10
         by_cases c11 : x5_1 < (t340.length : Int)
         ·
          rw [if_pos c11] at H; have c11b0 := decide_eq_true c11; clear c11
          by_cases c12 : x6_2 < ((rd_L1 t340 x5_1).length : Int)
          ·
           rw [if_pos c12] at H; have c12b0 := decide_eq_true c12; clear c12
           by_cases c13 : 0 ≤ x6_2
           ·
            rw [if_pos c13] at H; have c13b0 := decide_eq_true c13; clear c13
            by_cases c14 : 0 ≤ (rd (rd_L1 t340 x5_1) x6_2)
            ·
             rw [if_pos c14] at H; have c14b0 := decide_eq_true c14; clear c14
             by_cases c15 : (rd (rd_L1 t340 x5_1) x6_2) < (x3_2.length : Int)
             ·
              rw [if_pos c15] at H; have c15b0 := decide_eq_true c15; clear c15; obtain ⟨y346, hy346⟩ : ∃ y_ : List Int, y_ = (x3_2.set ((rd (rd_L1 t340 x5_1) x6_2) : Int).toNat x5_1) := ⟨_, rfl⟩; replace H : (spec_l7Vertices.l1 k2 y346 t340 x5_1 (wrap64 (x6_2 + 1))) = some r := hR hy346 H; have Ny346 := Az hy346; clear hy346; have H' := Az H; clear H; have p343 : 0 ≤ (x5_1 : Int) := oA; have q343 : x5_1 < (t340.length : Int) := oA; obtain ⟨ad343, A343_0, c343_0, e343, hx343_0, hl343_0, hi343_0⟩ := at_L1 (Kd.S_reads' HO_4.out).2.2 x5_1 p343 q343
              cases e343
              obtain ⟨ce343, hce343, hMe343, hcc343⟩ := Kd.S_get HO_4.out [] x5_1 p343 (by first | exact q343 | exact oA | (have e_ := (Kd.S_reads' HO_4.out).1; omega)); obtain ⟨ve343_0, rfl, ge343_0⟩ := hMe343; have hv343_0 := hcc343 0 _ rfl; rw [Nat.add_zero, show ((Kd.slice 3 (Kd.int .i64))).sz = 1 from rfl, Nat.mul_one] at hv343_0; replace hv343_0 := Option.some.inj (hv343_0.symm.trans hx343_0); rw [hv343_0] at ge343_0; have HL343_0 := Az (show Kd.R (Kd.int .i64) 3 _ _ _ _ (rd_L1 t340 x5_1) from ge343_0); clear hv343_0 ge343_0 hcc343 hce343; have HR343_0 := Az hi343_0; have HC343_0 := Az hl343_0; clear hi343_0 hl343_0; replace p343 := eq_true p343; replace q343 := eq_true q343; have p344 : 0 ≤ (x5_1 : Int) := oA; have q344 : x5_1 < (t340.length : Int) := oA; obtain ⟨ad344, A344_0, c344_0, e344, hx344_0, hl344_0, hi344_0⟩ := at_L1 (Kd.S_reads' HO_4.out).2.2 x5_1 p344 q344; obtain rfl : ad343 = ad344 := (by injection e344); obtain ⟨ce344, hce344, hMe344, hcc344⟩ := Kd.S_get HO_4.out [] x5_1 p344 (by first | exact q344 | exact oA | (have e_ := (Kd.S_reads' HO_4.out).1; omega)); obtain ⟨ve344_0, rfl, ge344_0⟩ := hMe344; have hv344_0 := hcc344 0 _ rfl; rw [Nat.add_zero, show ((Kd.slice 3 (Kd.int .i64))).sz = 1 from rfl, Nat.mul_one] at hv344_0; replace hv344_0 := Option.some.inj (hv344_0.symm.trans hx344_0); rw [hv344_0] at ge344_0; have HL344_0 := Az (show Kd.R (Kd.int .i64) 3 _ _ _ _ (rd_L1 t340 x5_1) from ge344_0); clear hv344_0 ge344_0 hcc344 hce344; have HR344_0 := Az hi344_0; have HC344_0 := Az hl344_0; clear hi344_0 hl344_0; replace p344 := eq_true p344; replace q344 := eq_true q344; have ea_ := Option.some.inj (hx343_0.symm.trans hx344_0); injection ea_ with ea_ en_ ec_; subst ea_; subst ec_; clear en_; have p345 : 0 ≤ (x6_2 : Int) := oA; have q345 : x6_2 < ((rd_L1 t340 x5_1).length : Int) := oA; obtain ⟨ad345, e345, hx345_0⟩ := Kd.at_int (by repeat (first | (with_reducible exact HR344_0.out) | (with_reducible refine Kd.C_alloc ?_ _) | (with_reducible refine Kd.C_drewN ?_ _) | (with_reducible refine Kd.C_drew ?_) | exact HR344_0.out)) x6_2 p345 q345
              cases e345
              replace p345 := eq_true p345; replace q345 := eq_true q345; have p16 : 0 ≤ ((rd (rd_L1 t340 x5_1) x6_2) : Int) := oA; have q16 : ((rd (rd_L1 t340 x5_1) x6_2) : Int) < ((x3_2.length : Int) : Int) := oA; obtain ⟨go16, co16, eo16, gb16, gl16, cl16, HG16⟩ := Kd.R_form HO_3.out (by omega); (first | cases eo16 | (injection eo16 with ea_ en_ ec_; (first | subst ea_ | (injection ea_ with ea_; subst ea_)); subst ec_; clear en_)); have GB16 := Az gb16; have GG16 := Az HG16; clear gb16 gl16 HG16; obtain ⟨hx16_0, hf16_0⟩ := Kd.R_celln 0 HO_3.out ((rd (rd_L1 t340 x5_1) x6_2) : Int) p16 q16; replace p16 := eq_true p16; replace q16 := eq_true q16; obtain ⟨hy17_, hz17_⟩ := Kd.R_celln 0 HO_3.out ((rd (rd_L1 t340 x5_1) x6_2) : Int) (oA) (oA); have HP17 := Kd.R_putg HO_3.out ((rd (rd_L1 t340 x5_1) x6_2) : Int) x5_1
              go_wp2_with (first | ((with_reducible refine gate_store (t := 3) (p := 36) rfl ?_); refine store_event (t := 3) (p := 36) (v := ?vo_w18) (w1 := (wr.setCell ⟨go16, ((rd (rd_L1 t340 x5_1) x6_2) : Int).toNat, none⟩ (.int .i64 x5_1))) ?hg ?ho ?hn ?hr ?_; (case ho => rfl); (case hg => rfl); (case hn => rfl); (case hr => first | (go_simp; done) | (go_simp; rfl)); intro w18 hw; have hg : wr.grownBy w18 (some go16) := (by rw [hw]; exact HP17.2); have hp_ : Kd.R (Kd.int .i64) 3 w18 w.heap.size (fun _ => True) (.slice (some ⟨go16, 0, none⟩) x3_2.length co16) y346 := (by rw [hw, Ny346.out]; exact HP17.1); clear HP17; have n0 := Az (hp_); have n1 := Az (Kd.S_after (v := (.slice (some ⟨go16, 0, none⟩) x3_2.length co16)) (v1 := (.slice (some ⟨go16, 0, none⟩) x3_2.length co16)) (ok := (fun _ => True)) (by (with_reducible repeat (first | apply Kd.S_alloc | apply Kd.S_drewN | apply Kd.S_drew)); exact Kd.S_mono HO_4.out (fun _ hk => ⟨trivial, hk⟩)) hg (.inl rfl)); have n2 := Az (seen_put (d := 0) HR343_0.out hg (fun ad_ e_ _ eb_ => by first | exact (HL343_0.out.1 ad_.block (by rw [e_]; rfl)).1 (congrArg some eb_) | exact (HL343_0.out.1 ad_.block (by rw [e_]; rfl)).2 (congrArg some eb_))); have n3 := Az (Kd.R_after (v := (.slice (some ⟨go16, 0, none⟩) x3_2.length co16)) (v1 := (.slice (some ⟨go16, 0, none⟩) x3_2.length co16)) (ok := (fun k_ => some k_ ≠ (.slice (some ad343) t340.length co9 : Value).ownBlock)) (by (with_reducible repeat (first | apply Kd.R_alloc | apply Kd.R_drewN | apply Kd.R_drew)); exact Kd.R_mono HL343_0.out (fun _ hk => ⟨hk.2, hk.1⟩)) hg (.inl rfl)); have n4 := Az (seen_put (d := 0) HR344_0.out hg (fun ad_ e_ _ eb_ => by first | exact (HL344_0.out.1 ad_.block (by rw [e_]; rfl)).1 (congrArg some eb_) | exact (HL344_0.out.1 ad_.block (by rw [e_]; rfl)).2 (congrArg some eb_))); have n5 := Az (Kd.R_after (v := (.slice (some ⟨go16, 0, none⟩) x3_2.length co16)) (v1 := (.slice (some ⟨go16, 0, none⟩) x3_2.length co16)) (ok := (fun k_ => some k_ ≠ (.slice (some ad343) t340.length co9 : Value).ownBlock)) (by (with_reducible repeat (first | apply Kd.R_alloc | apply Kd.R_drewN | apply Kd.R_drew)); exact Kd.R_mono HL344_0.out (fun _ hk => ⟨hk.2, hk.1⟩)) hg (.inl rfl)); have n6 := Az ((by rw [hw]; exact below_set (HB.out) GB16.out : Below w.heap.size w w18)); clear HO_3 HO_4 HR343_0 HL343_0 HR344_0 HL344_0 HB; have HO_3 := n0; have HO_4 := n1; have HR343_0 := n2; have HL343_0 := n3; have HR344_0 := n4; have HL344_0 := n5; have HB := n6; clear n0 n1 n2 n3 n4 n5 n6; clear hg hw hp_))
              (first | go_roundg k2 | (refine Handed.intro k2 ?measure ?_; rotate_left; go_step; (try simp only [add_plain]); (repeat apply Exists.intro); refine ⟨?rel, rfl⟩))
              case measure => have := HK1.out; have := HK2.out; omega
              case rel => exact ⟨(y346), (wrap64 (x6_2 + 1)), rS, H', ⟨by have := HK1.out; have := HK2.out; omega⟩, ⟨rU HO_3.out⟩, ⟨by (with_reducible repeat (first | apply Kd.S_alloc | apply Kd.S_drewN | apply Kd.S_drew)); exact Kd.S_mono HO_4.out (fun _ hk => hk.2)⟩, ⟨bU0 HB.out⟩⟩
             ·
              rw [if_neg c15] at H
              exact absurd H (by simp)
            ·
             rw [if_neg c14] at H
             exact absurd H (by simp)
           ·
            rw [if_neg c13] at H
            exact absurd H (by simp)
          ·
           rw [if_neg c12] at H; have c12b0 := decide_eq_false c12; clear c12; have H' := Az H; clear H; have p343 : 0 ≤ (x5_1 : Int) := oA; have q343 : x5_1 < (t340.length : Int) := oA; obtain ⟨ad343, A343_0, c343_0, e343, hx343_0, hl343_0, hi343_0⟩ := at_L1 (Kd.S_reads' HO_4.out).2.2 x5_1 p343 q343
           cases e343
           obtain ⟨ce343, hce343, hMe343, hcc343⟩ := Kd.S_get HO_4.out [] x5_1 p343 (by first | exact q343 | exact oA | (have e_ := (Kd.S_reads' HO_4.out).1; omega)); obtain ⟨ve343_0, rfl, ge343_0⟩ := hMe343; have hv343_0 := hcc343 0 _ rfl; rw [Nat.add_zero, show ((Kd.slice 3 (Kd.int .i64))).sz = 1 from rfl, Nat.mul_one] at hv343_0; replace hv343_0 := Option.some.inj (hv343_0.symm.trans hx343_0); rw [hv343_0] at ge343_0; have HL343_0 := Az (show Kd.R (Kd.int .i64) 3 _ _ _ _ (rd_L1 t340 x5_1) from ge343_0); clear hv343_0 ge343_0 hcc343 hce343; have HR343_0 := Az hi343_0; have HC343_0 := Az hl343_0; clear hi343_0 hl343_0; replace p343 := eq_true p343; replace q343 := eq_true q343
           go_wp2
           (first | go_roundg k2 | (refine Handed.intro k2 ?measure ?_; rotate_left; go_step; (try simp only [add_plain]); (repeat apply Exists.intro); refine ⟨?rel, rfl⟩))
           case measure => have := HK1.out; have := HK2.out; omega
           case rel => exact ⟨(x3_2), (wrap64 (x5_1 + 1)), rS, H', ⟨by have := HK1.out; have := HK2.out; omega⟩, ⟨rU HO_3.out⟩, ⟨sU HO_4.out⟩, ⟨bU0 HB.out⟩⟩
         ·
          rw [if_neg c11] at H
          exact absurd H (by simp)
        ·
         rw [if_neg c10] at H
         exact absurd H (by simp)
     ·
      rw [if_neg c8] at H; have c8b0 := decide_eq_false c8; clear c8; obtain rfl := Option.some.inj H; obtain ⟨Ao19, co19, eo19⟩ := Kd.S_slice HO_4.out; subst eo19
      go_wp2
      go_ret
      exact ⟨_, rE, rU HO_3.out, bU0 HB.out⟩
  ·
   rw [if_neg c3] at H
   exact absurd H (by simp)
 ·
  rw [if_neg c2] at H
  exact absurd H (by simp)
def spec_ChoiceValid.l0 : Nat → List Int → Int → Int → List Int → List Int → Option (Bool)
 | 0, _, _, _, _, _ => none
 | k + 1, x1, x5, x6, xZ0, xZ1 => if x6 < (x1.length : Int) then (if 0 ≤ x6 then ((spec_l6In.f (rd x1 x6) (wrap64 (x5 + 1)) (wrap64 ((wrap64 ((xZ1.length : Int) / 2)) - 1))).bind fun t349 => (if t349 = true then (spec_ChoiceValid.l0 k x1 (rd x1 x6) (wrap64 (x6 + 1)) xZ0 xZ1) else (some false))) else (none)) else ((spec_MapValid.f k xZ0 xZ1).bind fun t351 => (some t351))
def spec_ChoiceValid.f (k : Nat) (l0_0 : List Int) (l0_1 : List Int) (l1 : List Int) : Option (Bool) := spec_ChoiceValid.l0 k l1 (-1) 0 l0_0 l0_1
set_option maxHeartbeats 8000000 in
set_option maxRecDepth 100000 in
theorem spec_ChoiceValid.calls (k : Nat) (A0_0 : Option Addr) (c0_0 : Nat) (l0_0 : List Int) (A0_1 : Option Addr) (c0_1 : Nat) (l0_1 : List Int) (A1 : Option Addr) (c1 : Nat) (l1 : List Int) (r : Bool) (w : World) (hr0_0 : Kd.C (Kd.int .i64) w A0_0 l0_0.length l0_0) (hc0_0 : l0_0.length ≤ c0_0) (hr0_1 : Kd.C (Kd.int .i64) w A0_1 l0_1.length l0_1) (hc0_1 : l0_1.length ≤ c0_1) (hr1 : Kd.C (Kd.int .i64) w A1 l1.length l1) (hc1 : l1.length ≤ c1) (h : spec_ChoiceValid.f k l0_0 l0_1 l1 = some r) :
  Calls Try.prog 150 #[.agg #[.slice A0_0 l0_0.length c0_0, .slice A0_1 l0_1.length c0_1], .slice A1 l1.length c1] w fun e w' => e = .returned (.bool r) ∧ Below w.heap.size w w' := by
 have hu25 := Try.underlying25; have HR0_0 := Az hr0_0; have HC0_0 := Az hc0_0; clear hr0_0 hc0_0; have HR0_1 := Az hr0_1; have HC0_1 := Az hc0_1; clear hr0_1 hc0_1; have HR1 := Az hr1; have HC1 := Az hc1; clear hr1 hc1; have HB := Az (Below.refl w.heap.size w); have H : (spec_ChoiceValid.l0 k l1 (-1) 0 l0_0 l0_1) = some r := h; clear h; have H' := Az H; clear H
 go_enter Try.func150, Try.ntmps150
 go_wp2_with (first | ((with_reducible refine gate_dst (N := 2) rfl ?_); refine box_event ?hg (N := 2) ?hd (cs := #[.slice A0_0 l0_0.length c0_0, .slice A0_1 l0_1.length c0_1]) (t := 25) ?hr ?_; (case hd => rfl); (case hg => rfl); (case hr => first | (go_simp; done) | (go_simp; rfl)); intro gb347 hg w3 hbox hb; have n0 := Az (below_step (bU0 HB.out) hb); have n1 := Az (hbox); have n2 := Az ((by rw [hg]; exact (below_size (bU0 HB.out)) : w.heap.size ≤ gb347)); have n3 := n2; clear HB; have HB := n0; have BK347 := n1; have GW347 := n2; have GE347 := n3; clear n0 n1 n2 n3; clear hb hbox hg))
 repeat (go_quiet (fail); try go_wp2_with (fail))
 go_loopg [5, 6] k (fun kq v5 v6 w' => ∃ (x5_1 : Int) (x6_1 : Int), v5 = .int .i64 x5_1 ∧ v6 = .int .i64 x6_1 ∧ Aside0 (spec_ChoiceValid.l0 kq l1 x5_1 x6_1 l0_0 l0_1 = some r) ∧ Aside0 (kq ≤ k) ∧ Aside0 (w'.heap[gb347]? = some (.cells #[(.slice A0_0 l0_0.length c0_0), (.slice A0_1 l0_1.length c0_1)] 25 (0, 0))) ∧ Aside0 (Below w.heap.size w w'))
 case atStart => exact ⟨((-1)), (0), rS, rS, H', ⟨Nat.le_refl _⟩, ⟨kU BK347.out⟩, ⟨bU1 HB.out GE347.out⟩⟩
 case round =>
  clear H'; (try clear c1); (try clear p2); obtain ⟨x5_1, x6_1, rfl, rfl, HA, HK1, BK347, HB⟩ := hrel
  cases gk with
  | zero => exact absurd HA.out (by simp [spec_ChoiceValid.l0])
  | succ k1 =>
   have H := HA.out; clear HA; simp only [spec_ChoiceValid.l0] at H
   by_cases c4 : x6_1 < (l1.length : Int)
   ·
    rw [if_pos c4] at H; have c4b0 := decide_eq_true c4; clear c4
    by_cases c5 : 0 ≤ x6_1
    ·
     rw [if_pos c5] at H; have c5b0 := decide_eq_true c5; clear c5; replace H := Option.bind_eq_some_iff.mp H; obtain ⟨t349, A60, H⟩ := H; replace H : (if t349 = true then (spec_ChoiceValid.l0 k1 l1 (rd l1 x6_1) (wrap64 (x6_1 + 1)) l0_0 l0_1) else (some false)) = some r := H; have A6 := Az A60; clear A60
     by_cases c7 : t349 = true
     ·
      subst c7
      have H1 : (spec_ChoiceValid.l0 k1 l1 (rd l1 x6_1) (wrap64 (x6_1 + 1)) l0_0 l0_1) = some r := by rw [if_pos rfl] at H; exact H
      clear H; have H := H1; clear H1; have H' := Az H; clear H; have p348 : 0 ≤ (x6_1 : Int) := oA; have q348 : x6_1 < (l1.length : Int) := oA; obtain ⟨ad348, e348, hx348_0⟩ := Kd.at_int HR1.out x6_1 p348 q348
      cases e348
      (try replace hx348_0 := (HB.out.cell (World.block_lt_of_cell? w _ hx348_0)).trans hx348_0); replace p348 := eq_true p348; replace q348 := eq_true q348; have hcz8_0 : wr.cell? ⟨gb347, 0, none⟩ = some (.slice A0_0 l0_0.length c0_0) := (blk_cell BK347.out 0).trans rfl; have hcz8_1 : wr.cell? ⟨gb347, 1, none⟩ = some (.slice A0_1 l0_1.length c0_1) := (blk_cell BK347.out 1).trans rfl; have hfz8_0 := blk_frozen BK347.out 0; have hfz8_1 := blk_frozen BK347.out 1
      go_wp2_with (fail)
      repeat (go_quiet (first | (go_at_call 118; (try simp only [Go.IntWalk.i64_left]); (with_reducible refine (spec_l6In.calls (rd l1 x6_1) (wrap64 (x5_1 + 1)) (wrap64 ((wrap64 ((l0_1.length : Int) / 2)) - 1)) true _ A6.out).mono ?_); rintro e w' ⟨rfl, ⟨nd, rfl⟩⟩; (try first | exact ⟨rfl, _, World.drewN_drewN _ _ _⟩ | exact ⟨rfl, _, Eq.trans (World.drewN_drewN _ _ _) (congrArg (World.drewN _) (Nat.add_assoc _ _ _))⟩); have p350 : 0 ≤ (x6_1 : Int) := oA; have q350 : x6_1 < (l1.length : Int) := oA; obtain ⟨ad350, e350, hx350_0⟩ := Kd.at_int HR1.out x6_1 p350 q350; obtain rfl : ad348 = ad350 := (by injection e350); replace hx350_0 := (HB.out.cell (World.block_lt_of_cell? w _ hx350_0)).trans hx350_0; replace p350 := eq_true p350; replace q350 := eq_true q350)); try go_wp2_with (fail))
      (first | go_roundg k1 | (refine Handed.intro k1 ?measure ?_; rotate_left; go_step; (try simp only [add_plain]); (repeat apply Exists.intro); refine ⟨?rel, rfl⟩))
      case measure => have := HK1.out; omega
      case rel => exact ⟨(rd l1 x6_1), (wrap64 (x6_1 + 1)), rS, rS, H', ⟨by have := HK1.out; omega⟩, ⟨kU BK347.out⟩, ⟨bU1 HB.out GE347.out⟩⟩
     ·
      replace c7 := Bool.eq_false_iff.mpr c7; subst c7
      have H1 : (some false) = some r := by rw [if_neg (show ¬ (false = true) by decide)] at H; exact H
      clear H; have H := H1; clear H1; obtain rfl := Option.some.inj H; have p348 : 0 ≤ (x6_1 : Int) := oA; have q348 : x6_1 < (l1.length : Int) := oA; obtain ⟨ad348, e348, hx348_0⟩ := Kd.at_int HR1.out x6_1 p348 q348
      cases e348
      (try replace hx348_0 := (HB.out.cell (World.block_lt_of_cell? w _ hx348_0)).trans hx348_0); replace p348 := eq_true p348; replace q348 := eq_true q348; have hcz9_0 : wr.cell? ⟨gb347, 0, none⟩ = some (.slice A0_0 l0_0.length c0_0) := (blk_cell BK347.out 0).trans rfl; have hcz9_1 : wr.cell? ⟨gb347, 1, none⟩ = some (.slice A0_1 l0_1.length c0_1) := (blk_cell BK347.out 1).trans rfl; have hfz9_0 := blk_frozen BK347.out 0; have hfz9_1 := blk_frozen BK347.out 1
      go_wp2_with (fail)
      repeat (go_quiet (first | (go_at_call 118; (try simp only [Go.IntWalk.i64_left]); (with_reducible refine (spec_l6In.calls (rd l1 x6_1) (wrap64 (x5_1 + 1)) (wrap64 ((wrap64 ((l0_1.length : Int) / 2)) - 1)) false _ A6.out).mono ?_); rintro e w' ⟨rfl, ⟨nd, rfl⟩⟩; (try first | exact ⟨rfl, _, World.drewN_drewN _ _ _⟩ | exact ⟨rfl, _, Eq.trans (World.drewN_drewN _ _ _) (congrArg (World.drewN _) (Nat.add_assoc _ _ _))⟩))); try go_wp2_with (fail))
      go_ret
      exact ⟨rE, bU1 HB.out GE347.out⟩
    ·
     rw [if_neg c5] at H
     exact absurd H (by simp)
   ·
    rw [if_neg c4] at H; have c4b0 := decide_eq_false c4; clear c4; replace H := Option.bind_eq_some_iff.mp H; obtain ⟨t351, A100, H⟩ := H; replace H : (some t351) = some r := H; have A10 := Az A100; clear A100; obtain rfl := Option.some.inj H; have hcz11_0 : wr.cell? ⟨gb347, 0, none⟩ = some (.slice A0_0 l0_0.length c0_0) := (blk_cell BK347.out 0).trans rfl; have hcz11_1 : wr.cell? ⟨gb347, 1, none⟩ = some (.slice A0_1 l0_1.length c0_1) := (blk_cell BK347.out 1).trans rfl; have hfz11_0 := blk_frozen BK347.out 0; have hfz11_1 := blk_frozen BK347.out 1
    go_wp2_with (first | (go_at_call 79; (with_reducible refine (spec_MapValid.calls k1 _ _ l0_0 _ _ l0_1 t351 _ ?side1 ?side2 ?side3 ?side4 A10.out).mono ?_); (case side1 => exact cU (Kd.C_below HR0_0.out HB.out)); (case side2 => exact HC0_0.out); (case side3 => exact cU (Kd.C_below HR0_1.out HB.out)); (case side4 => exact HC0_1.out); rintro e w12 ⟨rfl, hb⟩; have n0 := Az (blk_below (g := gb347) (o := .cells #[.slice A0_0 l0_0.length c0_0, .slice A0_1 l0_1.length c0_1] 25 (0, 0)) (kU BK347.out) hb); have n1 := Az (below_step (bU1 HB.out GE347.out) hb); clear BK347 HB; have BK347 := n0; have HB := n1; clear n0 n1; (try clear hb); (try clear hb2); (try clear hk); (try clear hi)))
    repeat (go_quiet (fail); try go_wp2_with (fail))
    go_ret
    exact ⟨rE, bU1 HB.out GE347.out⟩
def spec_l7Has.l0 : Nat → List Int → Int → Int → Option (Bool)
 | 0, _, _, _ => none
 | k + 1, x0, x1, x5 => if x5 < (x0.length : Int) then (if 0 ≤ x5 then (if (rd x0 x5) = x1 then (some true) else (spec_l7Has.l0 k x0 x1 (wrap64 (x5 + 1)))) else (none)) else (some false)
def spec_l7Has.f (k : Nat) (l0 : List Int) (a1 : Int) : Option (Bool) := spec_l7Has.l0 k l0 a1 0
set_option maxHeartbeats 8000000 in
set_option maxRecDepth 100000 in
theorem spec_l7Has.calls (k : Nat) (A0 : Option Addr) (c0 : Nat) (l0 : List Int) (a1 : Int) (r : Bool) (w : World) (hr0 : Kd.C (Kd.int .i64) w A0 l0.length l0) (hc0 : l0.length ≤ c0) (h : spec_l7Has.f k l0 a1 = some r) :
  Calls Try.prog 151 #[.slice A0 l0.length c0, .int .i64 a1] w fun e w' => e = .returned (.bool r) ∧ Drawn0 w w' := by
 have HR0 := Az hr0; have HC0 := Az hc0; clear hr0 hc0; have H : (spec_l7Has.l0 k l0 a1 0) = some r := h; clear h; have H' := Az H; clear H
 go_enter Try.func151, Try.ntmps151
 go_wp2
 go_loopg [5] k (fun kq v5 w' => ∃ (x5_1 : Int), v5 = .int .i64 x5_1 ∧ Aside0 (spec_l7Has.l0 kq l0 a1 x5_1 = some r) ∧ Aside0 (kq ≤ k) ∧ Drawn0 w w')
 case atStart => exact ⟨(0), rS, H', ⟨Nat.le_refl _⟩, by repeat (first | exact Drawn0.refl _ | apply Drawn0.step)⟩
 case round =>
  clear H'; (try clear c1); (try clear p2); obtain ⟨x5_1, rfl, HA, HK1, ⟨m1, rfl⟩⟩ := hrel
  cases gk with
  | zero => exact absurd HA.out (by simp [spec_l7Has.l0])
  | succ k1 =>
   have H := HA.out; clear HA; simp only [spec_l7Has.l0] at H
   by_cases c3 : x5_1 < (l0.length : Int)
   ·
    rw [if_pos c3] at H; have c3b0 := decide_eq_true c3; clear c3
    by_cases c4 : 0 ≤ x5_1
    ·
     rw [if_pos c4] at H; have c4b0 := decide_eq_true c4; clear c4
     by_cases c5 : (rd l0 x5_1) = a1
     ·
      rw [if_pos c5] at H; have c5b0 := beq_iff_eq.mpr c5; have c5b1 := bne_eq_false_iff_eq.mpr c5; clear c5; obtain rfl := Option.some.inj H; have p352 : 0 ≤ (x5_1 : Int) := oA; have q352 : x5_1 < (l0.length : Int) := oA; obtain ⟨ad352, e352, hx352_0⟩ := Kd.at_int HR0.out x5_1 p352 q352
      cases e352
      replace p352 := eq_true p352; replace q352 := eq_true q352
      go_wp2
      go_ret
      exact ⟨by first | rfl | (simp; done) | (simp [*]; done), by repeat (first | exact Drawn0.refl _ | apply Drawn0.step)⟩
     ·
      rw [if_neg c5] at H; have c5b0 := beq_eq_false_iff_ne.mpr c5; have c5b1 := bne_iff_ne.mpr c5; have H' := Az H; clear H; have p352 : 0 ≤ (x5_1 : Int) := oA; have q352 : x5_1 < (l0.length : Int) := oA; obtain ⟨ad352, e352, hx352_0⟩ := Kd.at_int HR0.out x5_1 p352 q352
      cases e352
      replace p352 := eq_true p352; replace q352 := eq_true q352
      go_wp2
      (first | go_roundg k1 | (refine Handed.intro k1 ?measure ?_; rotate_left; go_step; (try simp only [add_plain]); (repeat apply Exists.intro); refine ⟨?rel, rfl⟩))
      case measure => have := HK1.out; omega
      case rel => exact ⟨(wrap64 (x5_1 + 1)), rS, H', ⟨by have := HK1.out; omega⟩, by repeat (first | exact Drawn0.refl _ | apply Drawn0.step)⟩
    ·
     rw [if_neg c4] at H
     exact absurd H (by simp)
   ·
    rw [if_neg c3] at H; have c3b0 := decide_eq_false c3; clear c3; obtain rfl := Option.some.inj H
    go_wp2
    go_ret
    exact ⟨by first | rfl | (simp; done) | (simp [*]; done), by repeat (first | exact Drawn0.refl _ | apply Drawn0.step)⟩
mutual
def spec_ChoiceRest.l0 : Nat → List Int → List Int → Int → List Int → List Int → Option (List Int × Bool)
 | 0, _, _, _, _, _ => none
 | k + 1, x1, x6, x7, xZ2, xZ3 => if x7 < (wrap64 ((xZ3.length : Int) / 2)) then ((spec_ChoiceValid.f k xZ2 xZ3 x1).bind fun t357 => (spec_ChoiceRest.j1 k x1 x6 x7 t357 xZ2 xZ3)) else (spec_ChoiceRest.j1 k x1 x6 x7 false xZ2 xZ3)
def spec_ChoiceRest.j1 : Nat → List Int → List Int → Int → Bool → List Int → List Int → Option (List Int × Bool)
 | 0, _, _, _, _, _, _ => none
 | k + 1, x1, x6, x7, x19, xZ2, xZ3 => if x19 = true then ((spec_l7Has.f k x1 x7).bind fun t358 => (if t358 = true then (spec_ChoiceRest.l0 k x1 x6 (wrap64 (x7 + 1)) xZ2 xZ3) else (if x6.length < 17592186044416 then (spec_ChoiceRest.l0 k x1 (x6 ++ [x7]) (wrap64 (x7 + 1)) xZ2 xZ3) else (none)))) else ((spec_ChoiceValid.f k xZ2 xZ3 x1).bind fun t362 => (some (x6, t362)))
end
def spec_ChoiceRest.f (k : Nat) (l0_0 : List Int) (l0_1 : List Int) (l1 : List Int) : Option (List Int × Bool) := spec_ChoiceRest.l0 k l1 (([] : List Int)) 0 l0_0 l0_1
set_option maxHeartbeats 8000000 in
set_option maxRecDepth 100000 in
theorem spec_ChoiceRest.calls (k : Nat) (A0_0 : Option Addr) (c0_0 : Nat) (l0_0 : List Int) (A0_1 : Option Addr) (c0_1 : Nat) (l0_1 : List Int) (A1 : Option Addr) (c1 : Nat) (l1 : List Int) (r1 : List Int) (r2 : Bool) (w : World) (hr0_0 : Kd.C (Kd.int .i64) w A0_0 l0_0.length l0_0) (hc0_0 : l0_0.length ≤ c0_0) (hr0_1 : Kd.C (Kd.int .i64) w A0_1 l0_1.length l0_1) (hc0_1 : l0_1.length ≤ c0_1) (hr1 : Kd.C (Kd.int .i64) w A1 l1.length l1) (hc1 : l1.length ≤ c1) (h : spec_ChoiceRest.f k l0_0 l0_1 l1 = some (r1, r2)) :
  Calls Try.prog 120 #[.agg #[.slice A0_0 l0_0.length c0_0, .slice A0_1 l0_1.length c0_1], .slice A1 l1.length c1] w fun e w' => ∃ v0_ : Value, e = .returned (.tuple #[v0_, .bool r2]) ∧ Kd.R (Kd.int .i64) 3 w' w.heap.size (fun _ => True) v0_ r1 ∧ Below w.heap.size w w' := by
 have hu25 := Try.underlying25; have HR0_0 := Az hr0_0; have HC0_0 := Az hc0_0; clear hr0_0 hc0_0; have HR0_1 := Az hr0_1; have HC0_1 := Az hc0_1; clear hr0_1 hc0_1; have HR1 := Az hr1; have HC1 := Az hc1; clear hr1 hc1; have HB := Az (Below.refl w.heap.size w); have H : (spec_ChoiceRest.l0 k l1 (([] : List Int)) 0 l0_0 l0_1) = some (r1, r2) := h; clear h; obtain ⟨y354, hy354⟩ : ∃ y_ : List Int, y_ = (([] : List Int)) := ⟨_, rfl⟩; replace H : (spec_ChoiceRest.l0 k l1 y354 0 l0_0 l0_1) = some (r1, r2) := hR hy354 H; have Ny354 := Az hy354; clear hy354; have H' := Az H; clear H
 go_enter Try.func120, Try.ntmps120
 go_wp2_with (first | ((with_reducible refine gate_dst (N := 2) rfl ?_); refine box_event ?hg (N := 2) ?hd (cs := #[.slice A0_0 l0_0.length c0_0, .slice A0_1 l0_1.length c0_1]) (t := 25) ?hr ?_; (case hd => rfl); (case hg => rfl); (case hr => first | (go_simp; done) | (go_simp; rfl)); intro gb353 hg w3 hbox hb; have n0 := Az (below_step (bU0 HB.out) hb); have n1 := Az (hbox); have n2 := Az ((by rw [hg]; exact (below_size (bU0 HB.out)) : w.heap.size ≤ gb353)); have n3 := n2; clear HB; have HB := n0; have BK353 := n1; have GW353 := n2; have GE353 := n3; clear n0 n1 n2 n3; clear hb hbox hg) | ((with_reducible refine gate_dst (N := 8) rfl ?_); refine Kd.R_lit (Kd.int .i64) _ 3 ?hg (N := 8) ?hd (xs := ([] : List Int)) (inner := []) (ok := fun _ => True) (okp := fun _ => True) ?hr ?hp (fun _ hk => hk) trivial (Below.refl _ _) (Nat.le_refl _) (by simp) ?_; (case hd => rfl); (case hg => rfl); (case hr => first | (go_simp; done) | (go_simp; rfl)); (case hp => exact (Reps.none _ _)); intro v355 w4 ho5 hb hg_ hnew_; clear hg_ hnew_; (first | rw [← Ny354.out] at ho5 | (simp only [Int.reduceToNat] at ho5; rw [← Ny354.out] at ho5)); have n0 := Az (Kd.R_lower ho5 (below_size (bU1 HB.out GE353.out))); have n1 := Az (blk_below (g := gb353) (o := .cells #[.slice A0_0 l0_0.length c0_0, .slice A0_1 l0_1.length c0_1] 25 (0, 0)) (kU BK353.out) hb); have n2 := Az (below_step (bU1 HB.out GE353.out) hb); clear BK353 HB; have HO356 := n0; have BK353 := n1; have HB := n2; clear n0 n1 n2; clear hb ho5))
 go_loopg [6, 7] k (fun kq v6 v7 w' => ∃ (x6_1 : List Int) (x7_1 : Int), v7 = .int .i64 x7_1 ∧ Aside0 (spec_ChoiceRest.l0 kq l1 x6_1 x7_1 l0_0 l0_1 = some (r1, r2)) ∧ Aside0 (kq ≤ k) ∧ Aside0 (Kd.R (Kd.int .i64) 3 w' w.heap.size (fun _ => True) v6 x6_1) ∧ Aside0 (w'.heap[gb353]? = some (.cells #[(.slice A0_0 l0_0.length c0_0), (.slice A0_1 l0_1.length c0_1)] 25 (0, 0))) ∧ Aside0 (Below w.heap.size w w'))
 case atStart => exact ⟨(y354), (0), rS, H', ⟨Nat.le_refl _⟩, ⟨rU HO356.out⟩, ⟨kU BK353.out⟩, ⟨bU1 HB.out GE353.out⟩⟩
 case round =>
  clear H'; (try clear c1); (try clear p2); obtain ⟨x6_1, x7_1, rfl, HA, HK1, HO_6, BK353, HB⟩ := hrel
  cases gk with
  | zero => exact absurd HA.out (by simp [spec_ChoiceRest.l0])
  | succ k1 =>
   have H := HA.out; clear HA; simp only [spec_ChoiceRest.l0] at H; have HC6 := Az H; clear H
   go_upto_region 3 with (fail)
   go_cut [19] (fun v19 wc => ∃ (kq : Nat) (x19_5 : Bool), v19 = .bool x19_5 ∧ Aside0 (spec_ChoiceRest.j1 kq l1 x6_1 x7_1 x19_5 l0_0 l0_1 = some (r1, r2)) ∧ Aside0 (kq ≤ k1) ∧ Aside0 (Kd.R (Kd.int .i64) 3 wc w.heap.size (fun _ => True) u6 x6_1) ∧ Aside0 (wc.heap[gb353]? = some (.cells #[(.slice A0_0 l0_0.length c0_0), (.slice A0_1 l0_1.length c0_1)] 25 (0, 0))) ∧ Aside0 (Below w.heap.size w wc))
   case first =>
    have H := HC6.out; clear HC6
    by_cases c7 : x7_1 < (wrap64 ((l0_1.length : Int) / 2))
    ·
     rw [if_pos c7] at H; have c7b0 := decide_eq_true c7; clear c7; (first | rw [c7b0] | (simp only [i64_w, i32_w]; rw [c7b0]) | skip); replace H := Option.bind_eq_some_iff.mp H; obtain ⟨t357, A80, H⟩ := H; replace H : (spec_ChoiceRest.j1 k1 l1 x6_1 x7_1 t357 l0_0 l0_1) = some (r1, r2) := H; have A8 := Az A80; clear A80; have H' := Az H; clear H; have hcz9_0 : wr.cell? ⟨gb353, 0, none⟩ = some (.slice A0_0 l0_0.length c0_0) := (blk_cell BK353.out 0).trans rfl; have hcz9_1 : wr.cell? ⟨gb353, 1, none⟩ = some (.slice A0_1 l0_1.length c0_1) := (blk_cell BK353.out 1).trans rfl; have hfz9_0 := blk_frozen BK353.out 0; have hfz9_1 := blk_frozen BK353.out 1
     go_wp2_with (first | (go_at_call 150; (with_reducible refine (spec_ChoiceValid.calls k1 _ _ l0_0 _ _ l0_1 _ _ l1 t357 _ ?side1 ?side2 ?side3 ?side4 ?side5 ?side6 A8.out).mono ?_); (case side1 => exact cU (Kd.C_below HR0_0.out HB.out)); (case side2 => exact HC0_0.out); (case side3 => exact cU (Kd.C_below HR0_1.out HB.out)); (case side4 => exact HC0_1.out); (case side5 => exact cU (Kd.C_below HR1.out HB.out)); (case side6 => exact HC1.out); rintro e w10 ⟨rfl, hb⟩; have n0 := Az (Kd.R_below (rU HO_6.out) hb); have n1 := Az (blk_below (g := gb353) (o := .cells #[.slice A0_0 l0_0.length c0_0, .slice A0_1 l0_1.length c0_1] 25 (0, 0)) (kU BK353.out) hb); have n2 := Az (below_step (bU1 HB.out GE353.out) hb); clear HO_6 BK353 HB; have HO_6 := n0; have BK353 := n1; have HB := n2; clear n0 n1 n2; (try clear hb); (try clear hb2); (try clear hk); (try clear hi)))
     go_meet
     case rel => exact ⟨_, (t357), rS, H', ⟨by have := HK1.out; first | omega | exact Nat.le_refl _⟩, ⟨rU HO_6.out⟩, ⟨kU BK353.out⟩, ⟨bU1 HB.out GE353.out⟩⟩
    ·
     rw [if_neg c7] at H; have c7b0 := decide_eq_false c7; clear c7; (first | rw [c7b0] | (simp only [i64_w, i32_w]; rw [c7b0]) | skip); have H' := Az H; clear H; have hcz11_0 : wr.cell? ⟨gb353, 0, none⟩ = some (.slice A0_0 l0_0.length c0_0) := (blk_cell BK353.out 0).trans rfl; have hcz11_1 : wr.cell? ⟨gb353, 1, none⟩ = some (.slice A0_1 l0_1.length c0_1) := (blk_cell BK353.out 1).trans rfl; have hfz11_0 := blk_frozen BK353.out 0; have hfz11_1 := blk_frozen BK353.out 1
     go_wp2
     go_meet
     case rel => exact ⟨_, (false), rS, H', ⟨by have := HK1.out; first | omega | exact Nat.le_refl _⟩, ⟨rU HO_6.out⟩, ⟨kU BK353.out⟩, ⟨bU1 HB.out GE353.out⟩⟩
   case rest =>
    clear HC6; (try clear c1); (try clear p2); (try clear p6); (try clear c7); (try clear c7b0); (try clear hcz11_0); (try clear hcz11_1); (try clear hcz9_0); (try clear hcz9_1); (try clear hfz11_0); (try clear hfz11_1); (try clear hfz9_0); (try clear hfz9_1); (try clear p2); obtain ⟨kq, x19_5, rfl, HA, HJ5, HO_6, BK353, HB⟩ := hcut
    cases kq with
    | zero => exact absurd HA.out (by simp [spec_ChoiceRest.j1])
    | succ kj5 =>
     have H := HA.out; clear HA; simp only [spec_ChoiceRest.j1] at H
     by_cases c12 : x19_5 = true
     ·
      subst c12
      have H1 : ((spec_l7Has.f kj5 l1 x7_1).bind fun t358 => (if t358 = true then (spec_ChoiceRest.l0 kj5 l1 x6_1 (wrap64 (x7_1 + 1)) l0_0 l0_1) else (if x6_1.length < 17592186044416 then (spec_ChoiceRest.l0 kj5 l1 (x6_1 ++ [x7_1]) (wrap64 (x7_1 + 1)) l0_0 l0_1) else (none)))) = some (r1, r2) := by rw [if_pos rfl] at H; exact H
      clear H; have H := H1; clear H1; replace H := Option.bind_eq_some_iff.mp H; obtain ⟨t358, A130, H⟩ := H; replace H : (if t358 = true then (spec_ChoiceRest.l0 kj5 l1 x6_1 (wrap64 (x7_1 + 1)) l0_0 l0_1) else (if x6_1.length < 17592186044416 then (spec_ChoiceRest.l0 kj5 l1 (x6_1 ++ [x7_1]) (wrap64 (x7_1 + 1)) l0_0 l0_1) else (none))) = some (r1, r2) := H; have A13 := Az A130; clear A130
      by_cases c14 : t358 = true
      ·
       subst c14
       have H1 : (spec_ChoiceRest.l0 kj5 l1 x6_1 (wrap64 (x7_1 + 1)) l0_0 l0_1) = some (r1, r2) := by rw [if_pos rfl] at H; exact H
       clear H; have H := H1; clear H1; have H' := Az H; clear H
       go_wp2_with (first | ((with_reducible refine gate_callee (f := 151) rfl ?_); refine goesL_ (some 24) rfl rfl Try.func151 (by kernel_rfl) rfl #[.slice A1 l1.length c1, .int .i64 x7_1] rfl (by (try simp only [List.map_toArray, List.map_cons, List.map_nil]); first | done | rfl | (simp only [List.length_drop, List.length_take]; rfl)) ?_; (with_reducible refine (spec_l7Has.calls kj5 _ _ l1 x7_1 true _ ?side1 ?side2 A13.out).mono ?_); (case side1 => exact cU (Kd.C_below HR1.out HB.out)); (case side2 => exact HC1.out); rintro e w' ⟨rfl, ⟨nd, rfl⟩⟩; refine ⟨_, rfl, ?_⟩))
       (first | go_roundg kj5 | (refine Handed.intro kj5 ?measure ?_; rotate_left; go_step; (try simp only [add_plain]); (repeat apply Exists.intro); refine ⟨?rel, rfl⟩))
       case measure => have := HK1.out; have := HJ5.out; omega
       case rel => exact ⟨(x6_1), (wrap64 (x7_1 + 1)), rS, H', ⟨by have := HK1.out; have := HJ5.out; omega⟩, ⟨rU HO_6.out⟩, ⟨kU BK353.out⟩, ⟨bU1 HB.out GE353.out⟩⟩
      ·
       replace c14 := Bool.eq_false_iff.mpr c14; subst c14
       have H1 : (if x6_1.length < 17592186044416 then (spec_ChoiceRest.l0 kj5 l1 (x6_1 ++ [x7_1]) (wrap64 (x7_1 + 1)) l0_0 l0_1) else (none)) = some (r1, r2) := by rw [if_neg (show ¬ (false = true) by decide)] at H; exact H
       clear H; have H := H1; clear H1
       by_cases c15 : x6_1.length < 17592186044416
       ·
        rw [if_pos c15] at H; have LMc15 := Az c15; clear c15; obtain ⟨y359, hy359⟩ : ∃ y_ : List Int, y_ = (x6_1 ++ [x7_1]) := ⟨_, rfl⟩; replace H : (spec_ChoiceRest.l0 kj5 l1 y359 (wrap64 (x7_1 + 1)) l0_0 l0_1) = some (r1, r2) := hR hy359 H; have Ny359 := Az hy359; clear hy359; have H' := Az H; clear H
        go_wp2_with (first | ((with_reducible refine gate_callee (f := 151) rfl ?_); refine goesL_ (some 24) rfl rfl Try.func151 (by kernel_rfl) rfl #[.slice A1 l1.length c1, .int .i64 x7_1] rfl (by (try simp only [List.map_toArray, List.map_cons, List.map_nil]); first | done | rfl | (simp only [List.length_drop, List.length_take]; rfl)) ?_; (with_reducible refine (spec_l7Has.calls kj5 _ _ l1 x7_1 false _ ?side1 ?side2 A13.out).mono ?_); (case side1 => exact cU (Kd.C_below HR1.out HB.out)); (case side2 => exact HC1.out); rintro e w' ⟨rfl, ⟨nd, rfl⟩⟩; refine ⟨_, rfl, ?_⟩) | ((with_reducible refine gate_builtin (b := .append) (xs := #[.tmp 26, .tmp 28]) rfl ?_); at_builtin; refine Kd.R_append (Kd.int .i64) (w0 := w) w.heap.size rfl (.tmp 26) (.tmp 28) 23 3 (.int .i64 0) 8 rfl Try.underlying23 info3 rfl (by decide) (by omega) u6 x6_1 x7_1 [.int .i64 x7_1] (fun _ => True) (fun _ => False) rfl rfl ?aP (fun _ hk => hk.elim) ?aF ?aO ?aB ?aS ?aL ?_; (case aP => exact rfl); (case aB => exact (bU1 HB.out GE353.out)); (case aF => exact (fun _ _ => trivial)); (case aO => exact (rU HO_6.out)); (case aS => exact (below_size (bU1 HB.out GE353.out))); (case aL => have := LMc15.out; omega); intro v360 w16 ho hb hg hat; rw [← Ny359.out] at ho; have n0 := Az (blk_grown (g := gb353) (o := .cells #[.slice A0_0 l0_0.length c0_0, .slice A0_1 l0_1.length c0_1] 25 (0, 0)) (kU BK353.out) hg (Kd.R_ne HO_6.out BK353.out (by decide))); have n1 := Az (hb); have n2 := Az (ho); clear BK353 HB HO_6; have BK353 := n0; have HB := n1; have HO361 := n2; clear n0 n1 n2; clear ho hb hg hat))
        (first | go_roundg kj5 | (refine Handed.intro kj5 ?measure ?_; rotate_left; go_step; (try simp only [add_plain]); (repeat apply Exists.intro); refine ⟨?rel, rfl⟩))
        case measure => have := HK1.out; have := HJ5.out; omega
        case rel => exact ⟨(y359), (wrap64 (x7_1 + 1)), rS, H', ⟨by have := HK1.out; have := HJ5.out; omega⟩, ⟨rU HO361.out⟩, ⟨kU BK353.out⟩, ⟨bU1 HB.out GE353.out⟩⟩
       ·
        rw [if_neg c15] at H
        exact absurd H (by simp)
     ·
      replace c12 := Bool.eq_false_iff.mpr c12; subst c12
      have H1 : ((spec_ChoiceValid.f kj5 l0_0 l0_1 l1).bind fun t362 => (some (x6_1, t362))) = some (r1, r2) := by rw [if_neg (show ¬ (false = true) by decide)] at H; exact H
      clear H; have H := H1; clear H1; replace H := Option.bind_eq_some_iff.mp H; obtain ⟨t362, A170, H⟩ := H; replace H : (some (x6_1, t362)) = some (r1, r2) := H; have A17 := Az A170; clear A170; simp only [Option.some.injEq, Prod.mk.injEq] at H; obtain ⟨rfl, rfl⟩ := H; have hcz18_0 : wc.cell? ⟨gb353, 0, none⟩ = some (.slice A0_0 l0_0.length c0_0) := (blk_cell BK353.out 0).trans rfl; have hcz18_1 : wc.cell? ⟨gb353, 1, none⟩ = some (.slice A0_1 l0_1.length c0_1) := (blk_cell BK353.out 1).trans rfl; have hfz18_0 := blk_frozen BK353.out 0; have hfz18_1 := blk_frozen BK353.out 1
      go_wp2_with (first | ((with_reducible refine gate_callee (f := 150) rfl ?_); refine goesL_ (some 33) rfl rfl Try.func150 (by kernel_rfl) rfl #[.agg #[.slice A0_0 l0_0.length c0_0, .slice A0_1 l0_1.length c0_1], .slice A1 l1.length c1] rfl (by (try simp only [List.map_toArray, List.map_cons, List.map_nil]); first | done | rfl | (simp only [List.length_drop, List.length_take]; rfl)) ?_; (with_reducible refine (spec_ChoiceValid.calls kj5 _ _ l0_0 _ _ l0_1 _ _ l1 t362 _ ?side1 ?side2 ?side3 ?side4 ?side5 ?side6 A17.out).mono ?_); (case side1 => exact cU (Kd.C_below HR0_0.out HB.out)); (case side2 => exact HC0_0.out); (case side3 => exact cU (Kd.C_below HR0_1.out HB.out)); (case side4 => exact HC0_1.out); (case side5 => exact cU (Kd.C_below HR1.out HB.out)); (case side6 => exact HC1.out); rintro e w19 ⟨rfl, hb⟩; refine ⟨_, rfl, ?_⟩; have n0 := Az (Kd.R_below (rU HO_6.out) hb); have n1 := Az (blk_below (g := gb353) (o := .cells #[.slice A0_0 l0_0.length c0_0, .slice A0_1 l0_1.length c0_1] 25 (0, 0)) (kU BK353.out) hb); have n2 := Az (below_step (bU1 HB.out GE353.out) hb); clear HO_6 BK353 HB; have HO_6 := n0; have BK353 := n1; have HB := n2; clear n0 n1 n2; (try clear hb); (try clear hb2); (try clear hk); (try clear hi)))
      go_ret2
      exact ⟨_, rE, rU HO_6.out, bU1 HB.out GE353.out⟩
mutual
def spec_l7Parts.l0 : Nat → List Int → List Int → List Int → Int → List Int → List Int → Option (Int)
 | 0, _, _, _, _, _, _ => none
 | k + 1, x1, x5, x6, x7, xZ0, xZ1 => if x7 < (x5.length : Int) then (if 0 ≤ x7 then (if x7 < (x6.length : Int) then ((spec_l7Has.f k x1 (rd x6 x7)).bind fun t371 => (if t371 = true then (if x7 < (xZ1.length : Int) then (spec_l7Parts.l0 k x1 (x5.set (x7 : Int).toNat (rd xZ1 x7)) x6 (wrap64 (x7 + 1)) xZ0 xZ1) else (none)) else (spec_l7Parts.l0 k x1 x5 x6 (wrap64 (x7 + 1)) xZ0 xZ1))) else (none)) else (none)) else ((spec_l1Orbits.f k xZ0 x5).bind fun t374 => (spec_l7Parts.l1 k t374 0 0))
def spec_l7Parts.l1 : Nat → List Int → Int → Int → Option (Int)
 | 0, _, _, _ => none
 | k + 1, x8, x9, x10 => if x10 < (x8.length : Int) then (if 0 ≤ x10 then (if (rd x8 x10) = x10 then (spec_l7Parts.l1 k x8 (wrap64 (x9 + 1)) (wrap64 (x10 + 1))) else (spec_l7Parts.l1 k x8 x9 (wrap64 (x10 + 1)))) else (none)) else (some x9)
end
def spec_l7Parts.f (k : Nat) (l0_0 : List Int) (l0_1 : List Int) (l1 : List Int) : Option (Int) := (spec_l1Same.f k (l0_1.length : Int)).bind fun t364 => ((spec_l7Edges.f k l0_0 l0_1).bind fun t367 => (spec_l7Parts.l0 k l1 t364 t367 0 l0_0 l0_1))
set_option maxHeartbeats 8000000 in
set_option maxRecDepth 100000 in
theorem spec_l7Parts.calls (k : Nat) (A0_0 : Option Addr) (c0_0 : Nat) (l0_0 : List Int) (A0_1 : Option Addr) (c0_1 : Nat) (l0_1 : List Int) (A1 : Option Addr) (c1 : Nat) (l1 : List Int) (r : Int) (w : World) (hr0_0 : Kd.C (Kd.int .i64) w A0_0 l0_0.length l0_0) (hc0_0 : l0_0.length ≤ c0_0) (hr0_1 : Kd.C (Kd.int .i64) w A0_1 l0_1.length l0_1) (hc0_1 : l0_1.length ≤ c0_1) (hr1 : Kd.C (Kd.int .i64) w A1 l1.length l1) (hc1 : l1.length ≤ c1) (h : spec_l7Parts.f k l0_0 l0_1 l1 = some r) :
  Calls Try.prog 121 #[.agg #[.slice A0_0 l0_0.length c0_0, .slice A0_1 l0_1.length c0_1], .slice A1 l1.length c1] w fun e w' => e = .returned (.int .i64 r) ∧ Below w.heap.size w w' := by
 have hu25 := Try.underlying25; have HR0_0 := Az hr0_0; have HC0_0 := Az hc0_0; clear hr0_0 hc0_0; have HR0_1 := Az hr0_1; have HC0_1 := Az hc0_1; clear hr0_1 hc0_1; have HR1 := Az hr1; have HC1 := Az hc1; clear hr1 hc1; have HB := Az (Below.refl w.heap.size w); have H : ((spec_l1Same.f k (l0_1.length : Int)).bind fun t364 => ((spec_l7Edges.f k l0_0 l0_1).bind fun t367 => (spec_l7Parts.l0 k l1 t364 t367 0 l0_0 l0_1))) = some r := h; clear h; replace H := Option.bind_eq_some_iff.mp H; obtain ⟨t364, A30, H⟩ := H; replace H : ((spec_l7Edges.f k l0_0 l0_1).bind fun t367 => (spec_l7Parts.l0 k l1 t364 t367 0 l0_0 l0_1)) = some r := H; have A3 := Az A30; clear A30; replace H := Option.bind_eq_some_iff.mp H; obtain ⟨t367, A40, H⟩ := H; replace H : (spec_l7Parts.l0 k l1 t364 t367 0 l0_0 l0_1) = some r := H; have A4 := Az A40; clear A40; have H' := Az H; clear H
 go_enter Try.func121, Try.ntmps121
 go_wp2_with (first | ((with_reducible refine gate_dst (N := 2) rfl ?_); refine box_event ?hg (N := 2) ?hd (cs := #[.slice A0_0 l0_0.length c0_0, .slice A0_1 l0_1.length c0_1]) (t := 25) ?hr ?_; (case hd => rfl); (case hg => rfl); (case hr => first | (go_simp; done) | (go_simp; rfl)); intro gb363 hg w5 hbox hb; have n0 := Az (below_step (bU0 HB.out) hb); have n1 := Az (hbox); have n2 := Az ((by rw [hg]; exact (below_size (bU0 HB.out)) : w.heap.size ≤ gb363)); have n3 := n2; clear HB; have HB := n0; have BK363 := n1; have GW363 := n2; have GE363 := n3; clear n0 n1 n2 n3 hb hbox hg; have hcz6_0 : w5.cell? ⟨gb363, 0, none⟩ = some (.slice A0_0 l0_0.length c0_0) := (blk_cell BK363.out 0).trans rfl; have hcz6_1 : w5.cell? ⟨gb363, 1, none⟩ = some (.slice A0_1 l0_1.length c0_1) := (blk_cell BK363.out 1).trans rfl; have hfz6_0 := blk_frozen BK363.out 0; have hfz6_1 := blk_frozen BK363.out 1) | ((with_reducible refine gate_callee (f := 91) rfl ?_); refine goesL_ (some 14) rfl rfl Try.func91 (by kernel_rfl) rfl #[.int .i64 (l0_1.length : Int)] rfl (by (try simp only [List.map_toArray, List.map_cons, List.map_nil]); first | done | rfl | (simp only [List.length_drop, List.length_take]; rfl)) ?_; (with_reducible refine (spec_l1Same.calls k (l0_1.length : Int) t364 _ A3.out).mono ?_); rintro e w7 ⟨v365, rfl, ho0, hb⟩; refine ⟨_, rfl, ?_⟩; have n0 := Az (Kd.R_lower ho0 (below_size (bU1 HB.out GE363.out))); have n1 := Az (blk_below (g := gb363) (o := .cells #[.slice A0_0 l0_0.length c0_0, .slice A0_1 l0_1.length c0_1] 25 (0, 0)) (kU BK363.out) hb); have n2 := Az (below_step (bU1 HB.out GE363.out) hb); clear BK363 HB; have HO366 := n0; have BK363 := n1; have HB := n2; clear n0 n1 n2; (try clear hb); (try clear hb2); (try clear hk); (try clear hi); (try clear ho0); have hcz8_0 : w7.cell? ⟨gb363, 0, none⟩ = some (.slice A0_0 l0_0.length c0_0) := (blk_cell BK363.out 0).trans rfl; have hcz8_1 : w7.cell? ⟨gb363, 1, none⟩ = some (.slice A0_1 l0_1.length c0_1) := (blk_cell BK363.out 1).trans rfl; have hfz8_0 := blk_frozen BK363.out 0; have hfz8_1 := blk_frozen BK363.out 1) | ((with_reducible refine gate_callee (f := 122) rfl ?_); refine goesL_ (some 16) rfl rfl Try.func122 (by kernel_rfl) rfl #[.agg #[.slice A0_0 l0_0.length c0_0, .slice A0_1 l0_1.length c0_1]] rfl (by (try simp only [List.map_toArray, List.map_cons, List.map_nil]); first | done | rfl | (simp only [List.length_drop, List.length_take]; rfl)) ?_; (with_reducible refine (spec_l7Edges.calls k _ _ l0_0 _ _ l0_1 t367 _ ?side1 ?side2 ?side3 ?side4 A4.out).mono ?_); (case side1 => exact cU (Kd.C_below HR0_0.out HB.out)); (case side2 => exact HC0_0.out); (case side3 => exact cU (Kd.C_below HR0_1.out HB.out)); (case side4 => exact HC0_1.out); rintro e w9 ⟨v368, rfl, ho0, hb⟩; refine ⟨_, rfl, ?_⟩; have n0 := Az (Kd.R_elder' (rU HO366.out) (Kd.R_base ho0) hb); have n1 := Az (Kd.R_lower (Kd.R_new' ho0 (Kd.R_lt (rU HO366.out))) (below_size (bU1 HB.out GE363.out))); have n2 := Az (blk_below (g := gb363) (o := .cells #[.slice A0_0 l0_0.length c0_0, .slice A0_1 l0_1.length c0_1] 25 (0, 0)) (kU BK363.out) hb); have n3 := Az (below_step (bU1 HB.out GE363.out) hb); clear HO366 BK363 HB; have HO366 := n0; have HO369 := n1; have BK363 := n2; have HB := n3; clear n0 n1 n2 n3; (try clear hb); (try clear hb2); (try clear hk); (try clear hi); (try clear ho0)))
 go_loopg [7] k (fun kq v7 w' => ∃ (x5_1 : List Int) (x7_1 : Int), v7 = .int .i64 x7_1 ∧ Aside0 (spec_l7Parts.l0 kq l1 x5_1 t367 x7_1 l0_0 l0_1 = some r) ∧ Aside0 (kq ≤ k) ∧ Aside0 (Kd.R (Kd.int .i64) 3 w' w.heap.size (fun k_ => some k_ ≠ (v368 : Value).ownBlock) v365 x5_1) ∧ Aside0 (Kd.R (Kd.int .i64) 3 w' w.heap.size (fun k_ => some k_ ≠ (v365 : Value).ownBlock) v368 t367) ∧ Aside0 (w'.heap[gb363]? = some (.cells #[(.slice A0_0 l0_0.length c0_0), (.slice A0_1 l0_1.length c0_1)] 25 (0, 0))) ∧ Aside0 (Below w.heap.size w w'))
 case atStart => exact ⟨(t364), (0), rS, H', ⟨Nat.le_refl _⟩, ⟨by (with_reducible repeat (first | apply Kd.R_alloc | apply Kd.R_drewN | apply Kd.R_drew)); exact Kd.R_mono HO366.out (fun _ hk => hk.2)⟩, ⟨by (with_reducible repeat (first | apply Kd.R_alloc | apply Kd.R_drewN | apply Kd.R_drew)); exact Kd.R_mono HO369.out (fun _ hk => hk.2)⟩, ⟨kU BK363.out⟩, ⟨bU1 HB.out GE363.out⟩⟩
 case round =>
  clear H'; (try clear c1); (try clear p2); (try clear c9); (try clear hcz6_0); (try clear hcz6_1); (try clear hcz8_0); (try clear hcz8_1); (try clear hfz6_0); (try clear hfz6_1); (try clear hfz8_0); (try clear hfz8_1); obtain ⟨x5_1, x7_1, rfl, HA, HK1, HO_5, HO_6, BK363, HB⟩ := hrel
  cases gk with
  | zero => exact absurd HA.out (by simp [spec_l7Parts.l0])
  | succ k1 =>
   have H := HA.out; clear HA; simp only [spec_l7Parts.l0] at H
   by_cases c10 : x7_1 < (x5_1.length : Int)
   ·
    rw [if_pos c10] at H; have c10b0 := decide_eq_true c10; clear c10
    by_cases c11 : 0 ≤ x7_1
    ·
     rw [if_pos c11] at H; have c11b0 := decide_eq_true c11; clear c11
     by_cases c12 : x7_1 < (t367.length : Int)
     ·
      rw [if_pos c12] at H; have c12b0 := decide_eq_true c12; clear c12; replace H := Option.bind_eq_some_iff.mp H; obtain ⟨t371, A130, H⟩ := H; replace H : (if t371 = true then (if x7_1 < (l0_1.length : Int) then (spec_l7Parts.l0 k1 l1 (x5_1.set (x7_1 : Int).toNat (rd l0_1 x7_1)) t367 (wrap64 (x7_1 + 1)) l0_0 l0_1) else (none)) else (spec_l7Parts.l0 k1 l1 x5_1 t367 (wrap64 (x7_1 + 1)) l0_0 l0_1)) = some r := H; have A13 := Az A130; clear A130
      by_cases c14 : t371 = true
      ·
       subst c14
       have H1 : (if x7_1 < (l0_1.length : Int) then (spec_l7Parts.l0 k1 l1 (x5_1.set (x7_1 : Int).toNat (rd l0_1 x7_1)) t367 (wrap64 (x7_1 + 1)) l0_0 l0_1) else (none)) = some r := by rw [if_pos rfl] at H; exact H
       clear H; have H := H1; clear H1
       by_cases c15 : x7_1 < (l0_1.length : Int)
       ·
        rw [if_pos c15] at H; have c15b0 := decide_eq_true c15; clear c15; obtain ⟨y373, hy373⟩ : ∃ y_ : List Int, y_ = (x5_1.set (x7_1 : Int).toNat (rd l0_1 x7_1)) := ⟨_, rfl⟩; replace H : (spec_l7Parts.l0 k1 l1 y373 t367 (wrap64 (x7_1 + 1)) l0_0 l0_1) = some r := hR hy373 H; have Ny373 := Az hy373; clear hy373; have H' := Az H; clear H; obtain ⟨Ao17, co17, eo17⟩ := Kd.R_slice HO_5.out; subst eo17; obtain ⟨Ao18, co18, eo18⟩ := Kd.R_slice HO_6.out; subst eo18; have p370 : 0 ≤ (x7_1 : Int) := oA; have q370 : x7_1 < (t367.length : Int) := oA; obtain ⟨ad370, e370, hx370_0⟩ := Kd.at_int (Kd.R_reads' HO_6.out).2.2 x7_1 p370 q370
        cases e370
        replace p370 := eq_true p370; replace q370 := eq_true q370
        go_wp2_with (first | ((with_reducible refine gate_callee (f := 151) rfl ?_); refine goesL_ (some 28) rfl rfl Try.func151 (by kernel_rfl) rfl #[.slice A1 l1.length c1, .int .i64 (rd t367 x7_1)] rfl (by (try simp only [List.map_toArray, List.map_cons, List.map_nil]); first | done | rfl | (simp only [List.length_drop, List.length_take]; rfl)) ?_; (with_reducible refine (spec_l7Has.calls k1 _ _ l1 (rd t367 x7_1) true _ ?side1 ?side2 A13.out).mono ?_); (case side1 => exact cU (Kd.C_below HR1.out HB.out)); (case side2 => exact HC1.out); rintro e w' ⟨rfl, ⟨nd, rfl⟩⟩; refine ⟨_, rfl, ?_⟩; (try (rw [drewN_self wr]; generalize hq_ : World.drewN wr _ = wr; have n0 : Aside0 (Kd.R (Kd.int .i64) 3 wr w.heap.size (fun k_ => some k_ ≠ (.slice (some ad370) t367.length co18 : Value).ownBlock) (.slice Ao17 x5_1.length co17) x5_1) := ⟨by rw [← hq_]; exact (rU HO_5.out)⟩; have n1 : Aside0 (Kd.R (Kd.int .i64) 3 wr w.heap.size (fun k_ => some k_ ≠ (.slice Ao17 x5_1.length co17 : Value).ownBlock) (.slice (some ad370) t367.length co18) t367) := ⟨by rw [← hq_]; exact (rU HO_6.out)⟩; have n2 : Aside0 (wr.heap[gb363]? = some (.cells #[.slice A0_0 l0_0.length c0_0, .slice A0_1 l0_1.length c0_1] 25 (0, 0))) := ⟨by rw [← hq_]; exact (kU BK363.out)⟩; have n3 : Aside0 (Below w.heap.size w wr) := ⟨by rw [← hq_]; exact (bU1 HB.out GE363.out)⟩; clear HO_5 HO_6 BK363 HB hq_; have HO_5 := n0; have HO_6 := n1; have BK363 := n2; have HB := n3; clear n0 n1 n2 n3)); have hcz19_0 : wr.cell? ⟨gb363, 0, none⟩ = some (.slice A0_0 l0_0.length c0_0) := (blk_cell BK363.out 0).trans rfl; have hcz19_1 : wr.cell? ⟨gb363, 1, none⟩ = some (.slice A0_1 l0_1.length c0_1) := (blk_cell BK363.out 1).trans rfl; have hfz19_0 := blk_frozen BK363.out 0; have hfz19_1 := blk_frozen BK363.out 1; have p372 : 0 ≤ (x7_1 : Int) := oA; have q372 : x7_1 < (l0_1.length : Int) := oA; obtain ⟨ad372, e372, hx372_0⟩ := Kd.at_int HR0_1.out x7_1 p372 q372; cases e372; replace hx372_0 := (HB.out.cell (World.block_lt_of_cell? w _ hx372_0)).trans hx372_0; replace p372 := eq_true p372; replace q372 := eq_true q372; have p16 : 0 ≤ (x7_1 : Int) := oA; have q16 : (x7_1 : Int) < ((x5_1.length : Int) : Int) := oA; obtain ⟨go16, co16, eo16, gb16, gl16, cl16, HG16⟩ := Kd.R_form HO_5.out (by omega); (first | cases eo16 | (injection eo16 with ea_ en_ ec_; (first | subst ea_ | (injection ea_ with ea_; subst ea_)); subst ec_; clear en_)); have GB16 := Az gb16; have GG16 := Az HG16; clear gb16 gl16 HG16; obtain ⟨hx16_0, hf16_0⟩ := Kd.R_celln 0 HO_5.out (x7_1 : Int) p16 q16; replace p16 := eq_true p16; replace q16 := eq_true q16; obtain ⟨hy20_, hz20_⟩ := Kd.R_celln 0 HO_5.out (x7_1 : Int) (oA) (oA); have HP20 := Kd.R_putg HO_5.out (x7_1 : Int) (rd l0_1 x7_1)) | ((with_reducible refine gate_store (t := 3) (p := 36) rfl ?_); refine store_event (t := 3) (p := 36) (v := ?vo_w21) (w1 := (wr.setCell ⟨go16, (x7_1 : Int).toNat, none⟩ (.int .i64 (rd l0_1 x7_1)))) ?hg ?ho ?hn ?hr ?_; (case ho => rfl); (case hg => rfl); (case hn => rfl); (case hr => first | (go_simp; done) | (go_simp; rfl)); intro w21 hw; have hg : wr.grownBy w21 (some go16) := (by rw [hw]; exact HP20.2); have hp_ : Kd.R (Kd.int .i64) 3 w21 w.heap.size (fun k_ => some k_ ≠ (.slice (some ad370) t367.length co18 : Value).ownBlock) (.slice (some ⟨go16, 0, none⟩) x5_1.length co17) y373 := (by rw [hw, Ny373.out]; exact HP20.1); clear HP20; have n0 := Az (hp_); have n1 := Az (Kd.R_after (v := (.slice (some ⟨go16, 0, none⟩) x5_1.length co17)) (v1 := (.slice (some ⟨go16, 0, none⟩) x5_1.length co17)) (ok := (fun _ => True)) (by (with_reducible repeat (first | apply Kd.R_alloc | apply Kd.R_drewN | apply Kd.R_drew)); exact Kd.R_mono HO_6.out (fun _ hk => ⟨trivial, hk⟩)) hg (.inl rfl)); have n2 := Az (blk_grown (g := gb363) (o := .cells #[.slice A0_0 l0_0.length c0_0, .slice (some ad372) l0_1.length c0_1] 25 (0, 0)) (kU BK363.out) hg (Kd.R_ne HO_5.out BK363.out (by decide))); have n3 := Az ((by rw [hw]; exact below_set (HB.out) GB16.out : Below w.heap.size w w21)); clear HO_5 HO_6 BK363 HB; have HO_5 := n0; have HO_6 := n1; have BK363 := n2; have HB := n3; clear n0 n1 n2 n3; clear hg hw hp_))
        (first | go_roundg k1 | (refine Handed.intro k1 ?measure ?_; rotate_left; go_step; (try simp only [add_plain]); (repeat apply Exists.intro); refine ⟨?rel, rfl⟩))
        case measure => have := HK1.out; omega
        case rel => exact ⟨(y373), (wrap64 (x7_1 + 1)), rS, H', ⟨by have := HK1.out; omega⟩, ⟨rU HO_5.out⟩, ⟨by (with_reducible repeat (first | apply Kd.R_alloc | apply Kd.R_drewN | apply Kd.R_drew)); exact Kd.R_mono HO_6.out (fun _ hk => hk.2)⟩, ⟨kU BK363.out⟩, ⟨bU1 HB.out GE363.out⟩⟩
       ·
        rw [if_neg c15] at H
        exact absurd H (by simp)
      ·
       replace c14 := Bool.eq_false_iff.mpr c14; subst c14
       have H1 : (spec_l7Parts.l0 k1 l1 x5_1 t367 (wrap64 (x7_1 + 1)) l0_0 l0_1) = some r := by rw [if_neg (show ¬ (false = true) by decide)] at H; exact H
       clear H; have H := H1; clear H1; have H' := Az H; clear H; obtain ⟨Ao22, co22, eo22⟩ := Kd.R_slice HO_5.out; subst eo22; obtain ⟨Ao23, co23, eo23⟩ := Kd.R_slice HO_6.out; subst eo23; have p370 : 0 ≤ (x7_1 : Int) := oA; have q370 : x7_1 < (t367.length : Int) := oA; obtain ⟨ad370, e370, hx370_0⟩ := Kd.at_int (Kd.R_reads' HO_6.out).2.2 x7_1 p370 q370
       cases e370
       replace p370 := eq_true p370; replace q370 := eq_true q370
       go_wp2_with (first | ((with_reducible refine gate_callee (f := 151) rfl ?_); refine goesL_ (some 28) rfl rfl Try.func151 (by kernel_rfl) rfl #[.slice A1 l1.length c1, .int .i64 (rd t367 x7_1)] rfl (by (try simp only [List.map_toArray, List.map_cons, List.map_nil]); first | done | rfl | (simp only [List.length_drop, List.length_take]; rfl)) ?_; (with_reducible refine (spec_l7Has.calls k1 _ _ l1 (rd t367 x7_1) false _ ?side1 ?side2 A13.out).mono ?_); (case side1 => exact cU (Kd.C_below HR1.out HB.out)); (case side2 => exact HC1.out); rintro e w' ⟨rfl, ⟨nd, rfl⟩⟩; refine ⟨_, rfl, ?_⟩))
       (first | go_roundg k1 | (refine Handed.intro k1 ?measure ?_; rotate_left; go_step; (try simp only [add_plain]); (repeat apply Exists.intro); refine ⟨?rel, rfl⟩))
       case measure => have := HK1.out; omega
       case rel => exact ⟨(x5_1), (wrap64 (x7_1 + 1)), rS, H', ⟨by have := HK1.out; omega⟩, ⟨rU HO_5.out⟩, ⟨rU HO_6.out⟩, ⟨kU BK363.out⟩, ⟨bU1 HB.out GE363.out⟩⟩
     ·
      rw [if_neg c12] at H
      exact absurd H (by simp)
    ·
     rw [if_neg c11] at H
     exact absurd H (by simp)
   ·
    rw [if_neg c10] at H; have c10b0 := decide_eq_false c10; clear c10; replace H := Option.bind_eq_some_iff.mp H; obtain ⟨t374, A240, H⟩ := H; replace H : (spec_l7Parts.l1 k1 t374 0 0) = some r := H; have A24 := Az A240; clear A240; have H' := Az H; clear H; obtain ⟨Ao25, co25, eo25⟩ := Kd.R_slice HO_5.out; subst eo25; have hcz26_0 : wr.cell? ⟨gb363, 0, none⟩ = some (.slice A0_0 l0_0.length c0_0) := (blk_cell BK363.out 0).trans rfl; have hcz26_1 : wr.cell? ⟨gb363, 1, none⟩ = some (.slice A0_1 l0_1.length c0_1) := (blk_cell BK363.out 1).trans rfl; have hfz26_0 := blk_frozen BK363.out 0; have hfz26_1 := blk_frozen BK363.out 1
    go_wp2_with (first | ((with_reducible refine gate_callee (f := 124) rfl ?_); refine goesL_ (some 40) rfl rfl Try.func124 (by kernel_rfl) rfl #[.slice A0_0 l0_0.length c0_0, .slice Ao25 x5_1.length co25] rfl (by (try simp only [List.map_toArray, List.map_cons, List.map_nil]); first | done | rfl | (simp only [List.length_drop, List.length_take]; rfl)) ?_; (with_reducible refine (spec_l1Orbits.calls k1 _ _ l0_0 _ _ x5_1 t374 _ ?side1 ?side2 ?side3 ?side4 A24.out).mono ?_); (case side1 => exact cU (Kd.C_below HR0_0.out HB.out)); (case side2 => exact HC0_0.out); (case side3 => exact cU ((Kd.R_reads' HO_5.out).2.2)); (case side4 => exact (Kd.R_reads' HO_5.out).2.1); rintro e w27 ⟨v375, rfl, ho0, hb⟩; refine ⟨_, rfl, ?_⟩; have n0 := Az (Kd.R_elder' (rU HO_5.out) (Kd.R_base ho0) hb); have n1 := Az (Kd.R_elder' (rU HO_6.out) (Kd.R_base ho0) hb); have n2 := Az (Kd.R_lower (Kd.R_new' (Kd.R_new' ho0 (Kd.R_lt (rU HO_5.out))) (Kd.R_lt (rU HO_6.out))) (below_size (bU1 HB.out GE363.out))); have n3 := Az (blk_below (g := gb363) (o := .cells #[.slice A0_0 l0_0.length c0_0, .slice A0_1 l0_1.length c0_1] 25 (0, 0)) (kU BK363.out) hb); have n4 := Az (below_step (bU1 HB.out GE363.out) hb); clear HO_5 HO_6 BK363 HB; have HO_5 := n0; have HO_6 := n1; have HO376 := n2; have BK363 := n3; have HB := n4; clear n0 n1 n2 n3 n4; (try clear hb); (try clear hb2); (try clear hk); (try clear hi); (try clear ho0)))
    go_loopg [9, 10] k1 (fun kq v9 v10 w' => ∃ (x9_2 : Int) (x10_2 : Int), v9 = .int .i64 x9_2 ∧ v10 = .int .i64 x10_2 ∧ Aside0 (spec_l7Parts.l1 kq t374 x9_2 x10_2 = some r) ∧ Aside0 (kq ≤ k1) ∧ Aside0 (Kd.R (Kd.int .i64) 3 w' w.heap.size (fun _ => True) v375 t374) ∧ Aside0 (w'.heap[gb363]? = some (.cells #[(.slice A0_0 l0_0.length c0_0), (.slice A0_1 l0_1.length c0_1)] 25 (0, 0))) ∧ Aside0 (Below w.heap.size w w'))
    case atStart => exact ⟨(0), (0), rS, rS, H', ⟨Nat.le_refl _⟩, ⟨by (with_reducible repeat (first | apply Kd.R_alloc | apply Kd.R_drewN | apply Kd.R_drew)); exact Kd.R_mono HO376.out (fun _ hk => trivial)⟩, ⟨kU BK363.out⟩, ⟨bU1 HB.out GE363.out⟩⟩
    case round =>
     clear H'; (try clear c1); (try clear p1); (try clear q1); (try clear hx1); (try clear p2); (try clear p3); (try clear q3); (try clear hx3); (try clear p6); (try clear c9); (try clear c10); (try clear c10b0); (try clear c11); (try clear c11b0); (try clear c12); (try clear c12b0); (try clear c14); (try clear c15); (try clear c15b0); (try clear p16); (try clear q16); (try clear hx16); (try clear hf16); (try clear hcz19_0); (try clear hcz19_1); (try clear hcz26_0); (try clear hcz26_1); (try clear hcz6_0); (try clear hcz6_1); (try clear hcz8_0); (try clear hcz8_1); (try clear hfz19_0); (try clear hfz19_1); (try clear hfz26_0); (try clear hfz26_1); (try clear hfz6_0); (try clear hfz6_1); (try clear hfz8_0); (try clear hfz8_1); (try clear hx16_0); (try clear hx370_0); (try clear hx372_0); (try clear p16); (try clear p2); (try clear p370); (try clear p372); (try clear q16); (try clear q370); (try clear q372); obtain ⟨x9_2, x10_2, rfl, rfl, HA, HK2, HO_8, BK363, HB⟩ := hrel
     cases gk with
     | zero => exact absurd HA.out (by simp [spec_l7Parts.l1])
     | succ k2 =>
      have H := HA.out; clear HA; simp only [spec_l7Parts.l1] at H
      by_cases c28 : x10_2 < (t374.length : Int)
      ·
       rw [if_pos c28] at H; have c28b0 := decide_eq_true c28; clear c28
       by_cases c29 : 0 ≤ x10_2
       ·
        rw [if_pos c29] at H; have c29b0 := decide_eq_true c29; clear c29
        by_cases c30 : (rd t374 x10_2) = x10_2
        ·
         rw [if_pos c30] at H; have c30b0 := beq_iff_eq.mpr c30; have c30b1 := bne_eq_false_iff_eq.mpr c30; clear c30; have H' := Az H; clear H; obtain ⟨Ao31, co31, eo31⟩ := Kd.R_slice HO_8.out; subst eo31; have p377 : 0 ≤ (x10_2 : Int) := oA; have q377 : x10_2 < (t374.length : Int) := oA; obtain ⟨ad377, e377, hx377_0⟩ := Kd.at_int (Kd.R_reads' HO_8.out).2.2 x10_2 p377 q377
         cases e377
         replace p377 := eq_true p377; replace q377 := eq_true q377
         go_wp2
         (first | go_roundg k2 | (refine Handed.intro k2 ?measure ?_; rotate_left; go_step; (try simp only [add_plain]); (repeat apply Exists.intro); refine ⟨?rel, rfl⟩))
         case measure => have := HK1.out; have := HK2.out; omega
         case rel => exact ⟨(wrap64 (x9_2 + 1)), (wrap64 (x10_2 + 1)), rS, rS, H', ⟨by have := HK1.out; have := HK2.out; omega⟩, ⟨rU HO_8.out⟩, ⟨kU BK363.out⟩, ⟨bU1 HB.out GE363.out⟩⟩
        ·
         rw [if_neg c30] at H; have c30b0 := beq_eq_false_iff_ne.mpr c30; have c30b1 := bne_iff_ne.mpr c30; have H' := Az H; clear H; obtain ⟨Ao32, co32, eo32⟩ := Kd.R_slice HO_8.out; subst eo32; have p377 : 0 ≤ (x10_2 : Int) := oA; have q377 : x10_2 < (t374.length : Int) := oA; obtain ⟨ad377, e377, hx377_0⟩ := Kd.at_int (Kd.R_reads' HO_8.out).2.2 x10_2 p377 q377
         cases e377
         replace p377 := eq_true p377; replace q377 := eq_true q377
         go_wp2
         (first | go_roundg k2 | (refine Handed.intro k2 ?measure ?_; rotate_left; go_step; (try simp only [add_plain]); (repeat apply Exists.intro); refine ⟨?rel, rfl⟩))
         case measure => have := HK1.out; have := HK2.out; omega
         case rel => exact ⟨(x9_2), (wrap64 (x10_2 + 1)), rS, rS, H', ⟨by have := HK1.out; have := HK2.out; omega⟩, ⟨rU HO_8.out⟩, ⟨kU BK363.out⟩, ⟨bU1 HB.out GE363.out⟩⟩
       ·
        rw [if_neg c29] at H
        exact absurd H (by simp)
      ·
       rw [if_neg c28] at H; have c28b0 := decide_eq_false c28; clear c28; obtain rfl := Option.some.inj H; obtain ⟨Ao33, co33, eo33⟩ := Kd.R_slice HO_8.out; subst eo33
       go_wp2
       go_ret
       exact ⟨rE, bU1 HB.out GE363.out⟩
def spec_EdgeKind.j0 : Nat → Int → Bool → List Int → List Int → Option (Int)
 | 0, _, _, _, _ => none
 | k + 1, x1, x21, xZ2, xZ3 => if x21 = true then (some (-1)) else ((spec_l7Dart.f k xZ2 xZ3 x1).bind fun t381 => ((spec_l7Vertices.f k xZ2).bind fun t382 => (if 0 ≤ t381 then (if t381 < (t382.length : Int) then (if t381 < (xZ3.length : Int) then (if 0 ≤ (rd xZ3 t381) then (if (rd xZ3 t381) < (t382.length : Int) then (if (rd t382 t381) = (rd t382 (rd xZ3 t381)) then (some 2) else ((spec_ChoiceRest.f k xZ2 xZ3 (([x1] : List Int))).bind fun bt391 => ((spec_l7Parts.f k xZ2 xZ3 bt391.1).bind fun t395 => (some (wrap64 (t395 - 1)))))) else (none)) else (none)) else (none)) else (none)) else (none))))
def spec_EdgeKind.f (k : Nat) (l0_0 : List Int) (l0_1 : List Int) (a1 : Int) : Option (Int) := (spec_MapValid.f k l0_0 l0_1).bind fun t379 => (if t379 = true then ((spec_l6In.f a1 0 (wrap64 ((wrap64 ((l0_1.length : Int) / 2)) - 1))).bind fun t380 => (spec_EdgeKind.j0 k a1 (!t380) l0_0 l0_1)) else (spec_EdgeKind.j0 k a1 true l0_0 l0_1))
set_option maxHeartbeats 8000000 in
set_option maxRecDepth 100000 in
theorem spec_EdgeKind.calls (k : Nat) (A0_0 : Option Addr) (c0_0 : Nat) (l0_0 : List Int) (A0_1 : Option Addr) (c0_1 : Nat) (l0_1 : List Int) (a1 : Int) (r : Int) (w : World) (hr0_0 : Kd.C (Kd.int .i64) w A0_0 l0_0.length l0_0) (hc0_0 : l0_0.length ≤ c0_0) (hr0_1 : Kd.C (Kd.int .i64) w A0_1 l0_1.length l0_1) (hc0_1 : l0_1.length ≤ c0_1) (h : spec_EdgeKind.f k l0_0 l0_1 a1 = some r) :
  Calls Try.prog 60 #[.agg #[.slice A0_0 l0_0.length c0_0, .slice A0_1 l0_1.length c0_1], .int .i64 a1] w fun e w' => e = .returned (.int .i64 r) ∧ Below w.heap.size w w' := by
 have hu25 := Try.underlying25; have HR0_0 := Az hr0_0; have HC0_0 := Az hc0_0; clear hr0_0 hc0_0; have HR0_1 := Az hr0_1; have HC0_1 := Az hc0_1; clear hr0_1 hc0_1; have HB := Az (Below.refl w.heap.size w); have H : ((spec_MapValid.f k l0_0 l0_1).bind fun t379 => (if t379 = true then ((spec_l6In.f a1 0 (wrap64 ((wrap64 ((l0_1.length : Int) / 2)) - 1))).bind fun t380 => (spec_EdgeKind.j0 k a1 (!t380) l0_0 l0_1)) else (spec_EdgeKind.j0 k a1 true l0_0 l0_1))) = some r := h; clear h; have HC3 := Az H; clear H
 go_enter Try.func60, Try.ntmps60
 go_upto_region 1 with (first | ((with_reducible refine gate_dst (N := 2) rfl ?_); (try (refine gate_guard (by rfl) ?_; dsimp only)); refine box_event ?hg (N := 2) ?hd (cs := #[.slice A0_0 l0_0.length c0_0, .slice A0_1 l0_1.length c0_1]) (t := 25) ?hr ?_; (case hd => rfl); (case hg => rfl); (case hr => first | (go_simp; done) | (go_simp; rfl)); intro gb378 hg w4 hbox hb; have n0 := Az (below_step (bU0 HB.out) hb); have n1 := Az (hbox); have n2 := Az ((by rw [hg]; exact (below_size (bU0 HB.out)) : w.heap.size ≤ gb378)); have n3 := n2; clear HB; have HB := n0; have BK378 := n1; have GW378 := n2; have GE378 := n3; clear n0 n1 n2 n3; clear hb hbox hg))
 repeat (go_quiet (fail); go_upto_region 1 with (fail))
 (try simp only [Act.put, List.setIfInBounds_toArray, List.set_cons_zero, List.set_cons_succ])
 go_cut [21] (fun v21 wc => ∃ (kq : Nat) (x21_2 : Bool), v21 = .bool x21_2 ∧ Aside0 (spec_EdgeKind.j0 kq a1 x21_2 l0_0 l0_1 = some r) ∧ Aside0 (kq ≤ k) ∧ Aside0 (wc.heap[gb378]? = some (.cells #[(.slice A0_0 l0_0.length c0_0), (.slice A0_1 l0_1.length c0_1)] 25 (0, 0))) ∧ Aside0 (Below w.heap.size w wc))
 case first =>
  have H := HC3.out; clear HC3; replace H := Option.bind_eq_some_iff.mp H; obtain ⟨t379, A50, H⟩ := H; replace H : (if t379 = true then ((spec_l6In.f a1 0 (wrap64 ((wrap64 ((l0_1.length : Int) / 2)) - 1))).bind fun t380 => (spec_EdgeKind.j0 k a1 (!t380) l0_0 l0_1)) else (spec_EdgeKind.j0 k a1 true l0_0 l0_1)) = some r := H; have A5 := Az A50; clear A50
  by_cases c6 : t379 = true
  ·
   subst c6
   have H1 : ((spec_l6In.f a1 0 (wrap64 ((wrap64 ((l0_1.length : Int) / 2)) - 1))).bind fun t380 => (spec_EdgeKind.j0 k a1 (!t380) l0_0 l0_1)) = some r := by rw [if_pos rfl] at H; exact H
   clear H; have H := H1; clear H1; replace H := Option.bind_eq_some_iff.mp H; obtain ⟨t380, A70, H⟩ := H; replace H : (spec_EdgeKind.j0 k a1 (!t380) l0_0 l0_1) = some r := H; have A7 := Az A70; clear A70; have H' := Az H; clear H; have hcz8_0 : w4.cell? ⟨gb378, 0, none⟩ = some (.slice A0_0 l0_0.length c0_0) := (blk_cell BK378.out 0).trans rfl; have hcz8_1 : w4.cell? ⟨gb378, 1, none⟩ = some (.slice A0_1 l0_1.length c0_1) := (blk_cell BK378.out 1).trans rfl; have hfz8_0 := blk_frozen BK378.out 0; have hfz8_1 := blk_frozen BK378.out 1
   go_wp2_with (first | (go_at_call 79; (with_reducible refine (spec_MapValid.calls k _ _ l0_0 _ _ l0_1 true _ ?side1 ?side2 ?side3 ?side4 A5.out).mono ?_); (case side1 => exact cU (Kd.C_below HR0_0.out HB.out)); (case side2 => exact HC0_0.out); (case side3 => exact cU (Kd.C_below HR0_1.out HB.out)); (case side4 => exact HC0_1.out); rintro e w9 ⟨rfl, hb⟩; have n0 := Az (blk_below (g := gb378) (o := .cells #[.slice A0_0 l0_0.length c0_0, .slice A0_1 l0_1.length c0_1] 25 (0, 0)) (kU BK378.out) hb); have n1 := Az (below_step (bU1 HB.out GE378.out) hb); clear BK378 HB; have BK378 := n0; have HB := n1; clear n0 n1; (try clear hb); (try clear hb2); (try clear hk); (try clear hi); have hcz10_0 : w9.cell? ⟨gb378, 0, none⟩ = some (.slice A0_0 l0_0.length c0_0) := (blk_cell BK378.out 0).trans rfl; have hcz10_1 : w9.cell? ⟨gb378, 1, none⟩ = some (.slice A0_1 l0_1.length c0_1) := (blk_cell BK378.out 1).trans rfl; have hfz10_0 := blk_frozen BK378.out 0; have hfz10_1 := blk_frozen BK378.out 1) | (go_at_call 118; (with_reducible refine (spec_l6In.calls a1 0 (wrap64 ((wrap64 ((l0_1.length : Int) / 2)) - 1)) t380 _ A7.out).mono ?_); rintro e w' ⟨rfl, ⟨nd, rfl⟩⟩; (try first | exact ⟨rfl, _, World.drewN_drewN _ _ _⟩ | exact ⟨rfl, _, Eq.trans (World.drewN_drewN _ _ _) (congrArg (World.drewN _) (Nat.add_assoc _ _ _))⟩)))
   repeat (go_quiet (fail); try go_wp2_with (fail))
   go_meet
   case rel => exact ⟨_, (!t380), rS, H', ⟨by first | omega | exact Nat.le_refl _⟩, ⟨kU BK378.out⟩, ⟨bU1 HB.out GE378.out⟩⟩
  ·
   replace c6 := Bool.eq_false_iff.mpr c6; subst c6
   have H1 : (spec_EdgeKind.j0 k a1 true l0_0 l0_1) = some r := by rw [if_neg (show ¬ (false = true) by decide)] at H; exact H
   clear H; have H := H1; clear H1; have H' := Az H; clear H; have hcz11_0 : w4.cell? ⟨gb378, 0, none⟩ = some (.slice A0_0 l0_0.length c0_0) := (blk_cell BK378.out 0).trans rfl; have hcz11_1 : w4.cell? ⟨gb378, 1, none⟩ = some (.slice A0_1 l0_1.length c0_1) := (blk_cell BK378.out 1).trans rfl; have hfz11_0 := blk_frozen BK378.out 0; have hfz11_1 := blk_frozen BK378.out 1
   go_wp2_with (first | (go_at_call 79; (with_reducible refine (spec_MapValid.calls k _ _ l0_0 _ _ l0_1 false _ ?side1 ?side2 ?side3 ?side4 A5.out).mono ?_); (case side1 => exact cU (Kd.C_below HR0_0.out HB.out)); (case side2 => exact HC0_0.out); (case side3 => exact cU (Kd.C_below HR0_1.out HB.out)); (case side4 => exact HC0_1.out); rintro e w12 ⟨rfl, hb⟩; have n0 := Az (blk_below (g := gb378) (o := .cells #[.slice A0_0 l0_0.length c0_0, .slice A0_1 l0_1.length c0_1] 25 (0, 0)) (kU BK378.out) hb); have n1 := Az (below_step (bU1 HB.out GE378.out) hb); clear BK378 HB; have BK378 := n0; have HB := n1; clear n0 n1; (try clear hb); (try clear hb2); (try clear hk); (try clear hi)))
   repeat (go_quiet (fail); try go_wp2_with (fail))
   go_meet
   case rel => exact ⟨_, (true), rS, H', ⟨by first | omega | exact Nat.le_refl _⟩, ⟨kU BK378.out⟩, ⟨bU1 HB.out GE378.out⟩⟩
 case rest =>
  clear HC3; (try clear p2); (try clear c6); (try clear p6); (try clear hcz10_0); (try clear hcz10_1); (try clear hcz11_0); (try clear hcz11_1); (try clear hcz8_0); (try clear hcz8_1); (try clear hfz10_0); (try clear hfz10_1); (try clear hfz11_0); (try clear hfz11_1); (try clear hfz8_0); (try clear hfz8_1); obtain ⟨kq, x21_2, rfl, HA, HJ2, BK378, HB⟩ := hcut
  cases kq with
  | zero => exact absurd HA.out (by simp [spec_EdgeKind.j0])
  | succ kj2 =>
   have H := HA.out; clear HA; simp only [spec_EdgeKind.j0] at H
   by_cases c13 : x21_2 = true
   ·
    subst c13
    have H1 : (some (-1)) = some r := by rw [if_pos rfl] at H; exact H
    clear H; have H := H1; clear H1; obtain rfl := Option.some.inj H
    go_wp2
    repeat (go_quiet (fail); try go_wp2)
    go_ret
    exact ⟨rE, bU1 HB.out GE378.out⟩
   ·
    replace c13 := Bool.eq_false_iff.mpr c13; subst c13
    have H1 : ((spec_l7Dart.f kj2 l0_0 l0_1 a1).bind fun t381 => ((spec_l7Vertices.f kj2 l0_0).bind fun t382 => (if 0 ≤ t381 then (if t381 < (t382.length : Int) then (if t381 < (l0_1.length : Int) then (if 0 ≤ (rd l0_1 t381) then (if (rd l0_1 t381) < (t382.length : Int) then (if (rd t382 t381) = (rd t382 (rd l0_1 t381)) then (some 2) else ((spec_ChoiceRest.f kj2 l0_0 l0_1 (([a1] : List Int))).bind fun bt391 => ((spec_l7Parts.f kj2 l0_0 l0_1 bt391.1).bind fun t395 => (some (wrap64 (t395 - 1)))))) else (none)) else (none)) else (none)) else (none)) else (none)))) = some r := by rw [if_neg (show ¬ (false = true) by decide)] at H; exact H
    clear H; have H := H1; clear H1; replace H := Option.bind_eq_some_iff.mp H; obtain ⟨t381, A140, H⟩ := H; replace H : ((spec_l7Vertices.f kj2 l0_0).bind fun t382 => (if 0 ≤ t381 then (if t381 < (t382.length : Int) then (if t381 < (l0_1.length : Int) then (if 0 ≤ (rd l0_1 t381) then (if (rd l0_1 t381) < (t382.length : Int) then (if (rd t382 t381) = (rd t382 (rd l0_1 t381)) then (some 2) else ((spec_ChoiceRest.f kj2 l0_0 l0_1 (([a1] : List Int))).bind fun bt391 => ((spec_l7Parts.f kj2 l0_0 l0_1 bt391.1).bind fun t395 => (some (wrap64 (t395 - 1)))))) else (none)) else (none)) else (none)) else (none)) else (none))) = some r := H; have A14 := Az A140; clear A140; replace H := Option.bind_eq_some_iff.mp H; obtain ⟨t382, A150, H⟩ := H; replace H : (if 0 ≤ t381 then (if t381 < (t382.length : Int) then (if t381 < (l0_1.length : Int) then (if 0 ≤ (rd l0_1 t381) then (if (rd l0_1 t381) < (t382.length : Int) then (if (rd t382 t381) = (rd t382 (rd l0_1 t381)) then (some 2) else ((spec_ChoiceRest.f kj2 l0_0 l0_1 (([a1] : List Int))).bind fun bt391 => ((spec_l7Parts.f kj2 l0_0 l0_1 bt391.1).bind fun t395 => (some (wrap64 (t395 - 1)))))) else (none)) else (none)) else (none)) else (none)) else (none)) = some r := H; have A15 := Az A150; clear A150
    by_cases c16 : 0 ≤ t381
    ·
     rw [if_pos c16] at H; have c16b0 := decide_eq_true c16; clear c16
     by_cases c17 : t381 < (t382.length : Int)
     ·
      rw [if_pos c17] at H; have c17b0 := decide_eq_true c17; clear c17
      by_cases c18 : t381 < (l0_1.length : Int)
      ·
       rw [if_pos c18] at H; have c18b0 := decide_eq_true c18; clear c18
       by_cases c19 : 0 ≤ (rd l0_1 t381)
       ·
        rw [if_pos c19] at H; have c19b0 := decide_eq_true c19; clear c19
        by_cases c20 : (rd l0_1 t381) < (t382.length : Int)
        ·
         rw [if_pos c20] at H; have c20b0 := decide_eq_true c20; clear c20
         by_cases c21 : (rd t382 t381) = (rd t382 (rd l0_1 t381))
         ·
          rw [if_pos c21] at H; have c21b0 := beq_iff_eq.mpr c21; have c21b1 := bne_eq_false_iff_eq.mpr c21; clear c21; obtain rfl := Option.some.inj H; have hcz22_0 : wc.cell? ⟨gb378, 0, none⟩ = some (.slice A0_0 l0_0.length c0_0) := (blk_cell BK378.out 0).trans rfl; have hcz22_1 : wc.cell? ⟨gb378, 1, none⟩ = some (.slice A0_1 l0_1.length c0_1) := (blk_cell BK378.out 1).trans rfl; have hfz22_0 := blk_frozen BK378.out 0; have hfz22_1 := blk_frozen BK378.out 1
          go_wp2_with (first | (go_at_call 61; (with_reducible refine (spec_l7Dart.calls kj2 _ _ l0_0 _ _ l0_1 a1 t381 _ ?side1 ?side2 ?side3 ?side4 A14.out).mono ?_); (case side1 => exact cU (Kd.C_below HR0_0.out HB.out)); (case side2 => exact HC0_0.out); (case side3 => exact cU (Kd.C_below HR0_1.out HB.out)); (case side4 => exact HC0_1.out); rintro e w23 ⟨rfl, hb⟩; have n0 := Az (blk_below (g := gb378) (o := .cells #[.slice A0_0 l0_0.length c0_0, .slice A0_1 l0_1.length c0_1] 25 (0, 0)) (kU BK378.out) hb); have n1 := Az (below_step (bU1 HB.out GE378.out) hb); clear BK378 HB; have BK378 := n0; have HB := n1; clear n0 n1; (try clear hb); (try clear hb2); (try clear hk); (try clear hi); have hcz24_0 : w23.cell? ⟨gb378, 0, none⟩ = some (.slice A0_0 l0_0.length c0_0) := (blk_cell BK378.out 0).trans rfl; have hcz24_1 : w23.cell? ⟨gb378, 1, none⟩ = some (.slice A0_1 l0_1.length c0_1) := (blk_cell BK378.out 1).trans rfl; have hfz24_0 := blk_frozen BK378.out 0; have hfz24_1 := blk_frozen BK378.out 1) | (go_at_call 119; (with_reducible refine (spec_l7Vertices.calls kj2 _ _ l0_0 t382 _ ?side1 ?side2 A15.out).mono ?_); (case side1 => exact cU (Kd.C_below HR0_0.out HB.out)); (case side2 => exact HC0_0.out); rintro e w25 ⟨v383, rfl, ho0, hb⟩; have n0 := Az (Kd.R_lower ho0 (below_size (bU1 HB.out GE378.out))); have n1 := Az (blk_below (g := gb378) (o := .cells #[.slice A0_0 l0_0.length c0_0, .slice A0_1 l0_1.length c0_1] 25 (0, 0)) (kU BK378.out) hb); have n2 := Az (below_step (bU1 HB.out GE378.out) hb); clear BK378 HB; have HO384 := n0; have BK378 := n1; have HB := n2; clear n0 n1 n2; (try clear hb); (try clear hb2); (try clear hk); (try clear hi); (try clear ho0); obtain ⟨Ao26, co26, eo26⟩ := Kd.R_slice HO384.out; subst eo26; have p385 : 0 ≤ (t381 : Int) := oA; have q385 : t381 < (t382.length : Int) := oA; obtain ⟨ad385, e385, hx385_0⟩ := Kd.at_int (Kd.R_reads' HO384.out).2.2 t381 p385 q385; cases e385; replace p385 := eq_true p385; replace q385 := eq_true q385; have hcz27_0 : w25.cell? ⟨gb378, 0, none⟩ = some (.slice A0_0 l0_0.length c0_0) := (blk_cell BK378.out 0).trans rfl; have hcz27_1 : w25.cell? ⟨gb378, 1, none⟩ = some (.slice A0_1 l0_1.length c0_1) := (blk_cell BK378.out 1).trans rfl; have hfz27_0 := blk_frozen BK378.out 0; have hfz27_1 := blk_frozen BK378.out 1; have p386 : 0 ≤ (t381 : Int) := oA; have q386 : t381 < (l0_1.length : Int) := oA; obtain ⟨ad386, e386, hx386_0⟩ := Kd.at_int HR0_1.out t381 p386 q386; cases e386; replace hx386_0 := (HB.out.cell (World.block_lt_of_cell? w _ hx386_0)).trans hx386_0; replace p386 := eq_true p386; replace q386 := eq_true q386; have p387 : 0 ≤ ((rd l0_1 t381) : Int) := oA; have q387 : (rd l0_1 t381) < (t382.length : Int) := oA; obtain ⟨ad387, e387, hx387_0⟩ := Kd.at_int (Kd.R_reads' HO384.out).2.2 (rd l0_1 t381) p387 q387; obtain rfl : ad385 = ad387 := (by injection e387); replace p387 := eq_true p387; replace q387 := eq_true q387))
          repeat (go_quiet (fail); try go_wp2_with (fail))
          go_ret
          exact ⟨rE, bU1 HB.out GE378.out⟩
         ·
          rw [if_neg c21] at H; have c21b0 := beq_eq_false_iff_ne.mpr c21; have c21b1 := bne_iff_ne.mpr c21; obtain ⟨y388, hy388⟩ : ∃ y_ : List Int, y_ = (([a1] : List Int)) := ⟨_, rfl⟩; replace H : ((spec_ChoiceRest.f kj2 l0_0 l0_1 y388).bind fun bt391 => ((spec_l7Parts.f kj2 l0_0 l0_1 bt391.1).bind fun t395 => (some (wrap64 (t395 - 1))))) = some r := hR hy388 H; have Ny388 := Az hy388; clear hy388; replace H := Option.bind_eq_some_iff.mp H; obtain ⟨⟨t391, t394⟩, A280, H⟩ := H; replace H : ((spec_l7Parts.f kj2 l0_0 l0_1 t391).bind fun t395 => (some (wrap64 (t395 - 1)))) = some r := H; have A28 := Az A280; clear A280; replace H := Option.bind_eq_some_iff.mp H; obtain ⟨t395, A290, H⟩ := H; replace H : (some (wrap64 (t395 - 1))) = some r := H; have A29 := Az A290; clear A290; obtain rfl := Option.some.inj H; have hcz30_0 : wc.cell? ⟨gb378, 0, none⟩ = some (.slice A0_0 l0_0.length c0_0) := (blk_cell BK378.out 0).trans rfl; have hcz30_1 : wc.cell? ⟨gb378, 1, none⟩ = some (.slice A0_1 l0_1.length c0_1) := (blk_cell BK378.out 1).trans rfl; have hfz30_0 := blk_frozen BK378.out 0; have hfz30_1 := blk_frozen BK378.out 1
          go_wp2_with (first | (go_at_call 61; (with_reducible refine (spec_l7Dart.calls kj2 _ _ l0_0 _ _ l0_1 a1 t381 _ ?side1 ?side2 ?side3 ?side4 A14.out).mono ?_); (case side1 => exact cU (Kd.C_below HR0_0.out HB.out)); (case side2 => exact HC0_0.out); (case side3 => exact cU (Kd.C_below HR0_1.out HB.out)); (case side4 => exact HC0_1.out); rintro e w31 ⟨rfl, hb⟩; have n0 := Az (blk_below (g := gb378) (o := .cells #[.slice A0_0 l0_0.length c0_0, .slice A0_1 l0_1.length c0_1] 25 (0, 0)) (kU BK378.out) hb); have n1 := Az (below_step (bU1 HB.out GE378.out) hb); clear BK378 HB; have BK378 := n0; have HB := n1; clear n0 n1; (try clear hb); (try clear hb2); (try clear hk); (try clear hi); have hcz32_0 : w31.cell? ⟨gb378, 0, none⟩ = some (.slice A0_0 l0_0.length c0_0) := (blk_cell BK378.out 0).trans rfl; have hcz32_1 : w31.cell? ⟨gb378, 1, none⟩ = some (.slice A0_1 l0_1.length c0_1) := (blk_cell BK378.out 1).trans rfl; have hfz32_0 := blk_frozen BK378.out 0; have hfz32_1 := blk_frozen BK378.out 1) | (go_at_call 119; (with_reducible refine (spec_l7Vertices.calls kj2 _ _ l0_0 t382 _ ?side1 ?side2 A15.out).mono ?_); (case side1 => exact cU (Kd.C_below HR0_0.out HB.out)); (case side2 => exact HC0_0.out); rintro e w33 ⟨v383, rfl, ho0, hb⟩; have n0 := Az (Kd.R_lower ho0 (below_size (bU1 HB.out GE378.out))); have n1 := Az (blk_below (g := gb378) (o := .cells #[.slice A0_0 l0_0.length c0_0, .slice A0_1 l0_1.length c0_1] 25 (0, 0)) (kU BK378.out) hb); have n2 := Az (below_step (bU1 HB.out GE378.out) hb); clear BK378 HB; have HO384 := n0; have BK378 := n1; have HB := n2; clear n0 n1 n2; (try clear hb); (try clear hb2); (try clear hk); (try clear hi); (try clear ho0); obtain ⟨Ao34, co34, eo34⟩ := Kd.R_slice HO384.out; subst eo34; have p385 : 0 ≤ (t381 : Int) := oA; have q385 : t381 < (t382.length : Int) := oA; obtain ⟨ad385, e385, hx385_0⟩ := Kd.at_int (Kd.R_reads' HO384.out).2.2 t381 p385 q385; cases e385; replace p385 := eq_true p385; replace q385 := eq_true q385; have hcz35_0 : w33.cell? ⟨gb378, 0, none⟩ = some (.slice A0_0 l0_0.length c0_0) := (blk_cell BK378.out 0).trans rfl; have hcz35_1 : w33.cell? ⟨gb378, 1, none⟩ = some (.slice A0_1 l0_1.length c0_1) := (blk_cell BK378.out 1).trans rfl; have hfz35_0 := blk_frozen BK378.out 0; have hfz35_1 := blk_frozen BK378.out 1; have p386 : 0 ≤ (t381 : Int) := oA; have q386 : t381 < (l0_1.length : Int) := oA; obtain ⟨ad386, e386, hx386_0⟩ := Kd.at_int HR0_1.out t381 p386 q386; cases e386; replace hx386_0 := (HB.out.cell (World.block_lt_of_cell? w _ hx386_0)).trans hx386_0; replace p386 := eq_true p386; replace q386 := eq_true q386; have p387 : 0 ≤ ((rd l0_1 t381) : Int) := oA; have q387 : (rd l0_1 t381) < (t382.length : Int) := oA; obtain ⟨ad387, e387, hx387_0⟩ := Kd.at_int (Kd.R_reads' HO384.out).2.2 (rd l0_1 t381) p387 q387; obtain rfl : ad385 = ad387 := (by injection e387); replace p387 := eq_true p387; replace q387 := eq_true q387))
          repeat (go_quiet (fail); try go_wp2_with (first | ((with_reducible refine gate_dst (N := 44) rfl ?_); (try (refine gate_guard (by rfl) ?_; dsimp only)); refine Kd.R_lit (Kd.int .i64) _ 3 ?hg (N := 44) ?hd (xs := ([a1] : List Int)) (inner := [.int .i64 a1]) (ok := fun _ => True) (okp := fun _ => True) ?hr ?hp (fun _ hk => hk) trivial (Below.refl _ _) (Nat.le_refl _) (by simp) ?_; (case hd => rfl); (case hg => rfl); (case hr => first | (go_simp; done) | (go_simp; rfl)); (case hp => exact (Reps.one (show Kd.M (Kd.int .i64) _ _ _ a1 [.int .i64 a1] from rfl) (Reps.none _ _))); intro v389 w36 ho37 hb hg_ hnew_; clear hg_ hnew_; (first | rw [← Ny388.out] at ho37 | (simp only [Int.reduceToNat] at ho37; rw [← Ny388.out] at ho37)); have n0 := Az (Kd.R_elder' (rU HO384.out) (Kd.R_base ho37) hb); have n1 := Az (Kd.R_lower (Kd.R_new' ho37 (Kd.R_lt (rU HO384.out))) (below_size (bU1 HB.out GE378.out))); have n2 := Az (blk_below (g := gb378) (o := .cells #[.slice A0_0 l0_0.length c0_0, .slice (some ad386) l0_1.length c0_1] 25 (0, 0)) (kU BK378.out) hb); have n3 := Az (below_step (bU1 HB.out GE378.out) hb); clear HO384 BK378 HB; have HO384 := n0; have HO390 := n1; have BK378 := n2; have HB := n3; clear n0 n1 n2 n3 hb ho37; obtain ⟨Ao38, co38, eo38⟩ := Kd.R_slice HO390.out; subst eo38) | (go_at_call 120; (try simp only [Go.IntWalk.i64_left]); (with_reducible refine (spec_ChoiceRest.calls kj2 _ _ l0_0 _ _ l0_1 _ _ y388 t391 t394 _ ?side1 ?side2 ?side3 ?side4 ?side5 ?side6 A28.out).mono ?_); (case side1 => exact cU (Kd.C_below HR0_0.out HB.out)); (case side2 => exact HC0_0.out); (case side3 => exact cU (Kd.C_below HR0_1.out HB.out)); (case side4 => exact HC0_1.out); (case side5 => exact cU ((Kd.R_reads' HO390.out).2.2)); (case side6 => exact (Kd.R_reads' HO390.out).2.1); rintro e w39 ⟨v392, rfl, ho0, hb⟩; have n0 := Az (Kd.R_elder' (rU HO384.out) (Kd.R_base ho0) hb); have n1 := Az (Kd.R_elder' (rU HO390.out) (Kd.R_base ho0) hb); have n2 := Az (Kd.R_lower (Kd.R_new' (Kd.R_new' ho0 (Kd.R_lt (rU HO384.out))) (Kd.R_lt (rU HO390.out))) (below_size (bU1 HB.out GE378.out))); have n3 := Az (blk_below (g := gb378) (o := .cells #[.slice A0_0 l0_0.length c0_0, .slice (some ad386) l0_1.length c0_1] 25 (0, 0)) (kU BK378.out) hb); have n4 := Az (below_step (bU1 HB.out GE378.out) hb); clear HO384 HO390 BK378 HB; have HO384 := n0; have HO390 := n1; have HO393 := n2; have BK378 := n3; have HB := n4; clear n0 n1 n2 n3 n4; (try clear hb); (try clear hb2); (try clear hk); (try clear hi); (try clear ho0); have hcz40_0 : w39.cell? ⟨gb378, 0, none⟩ = some (.slice A0_0 l0_0.length c0_0) := (blk_cell BK378.out 0).trans rfl; have hcz40_1 : w39.cell? ⟨gb378, 1, none⟩ = some (.slice (some ad386) l0_1.length c0_1) := (blk_cell BK378.out 1).trans rfl; have hfz40_0 := blk_frozen BK378.out 0; have hfz40_1 := blk_frozen BK378.out 1; obtain ⟨Ao41, co41, eo41⟩ := Kd.R_slice HO393.out; subst eo41) | (go_at_call 121; (try simp only [Go.IntWalk.i64_left]); (with_reducible refine (spec_l7Parts.calls kj2 _ _ l0_0 _ _ l0_1 _ _ t391 t395 _ ?side1 ?side2 ?side3 ?side4 ?side5 ?side6 A29.out).mono ?_); (case side1 => exact cU (Kd.C_below HR0_0.out HB.out)); (case side2 => exact HC0_0.out); (case side3 => exact cU (Kd.C_below HR0_1.out HB.out)); (case side4 => exact HC0_1.out); (case side5 => exact cU ((Kd.R_reads' HO393.out).2.2)); (case side6 => exact (Kd.R_reads' HO393.out).2.1); rintro e w42 ⟨rfl, hb⟩; have n0 := Az (Kd.R_below (rU HO384.out) hb); have n1 := Az (Kd.R_below (rU HO390.out) hb); have n2 := Az (Kd.R_below (rU HO393.out) hb); have n3 := Az (blk_below (g := gb378) (o := .cells #[.slice A0_0 l0_0.length c0_0, .slice (some ad386) l0_1.length c0_1] 25 (0, 0)) (kU BK378.out) hb); have n4 := Az (below_step (bU1 HB.out GE378.out) hb); clear HO384 HO390 HO393 BK378 HB; have HO384 := n0; have HO390 := n1; have HO393 := n2; have BK378 := n3; have HB := n4; clear n0 n1 n2 n3 n4; (try clear hb); (try clear hb2); (try clear hk); (try clear hi))))
          go_ret
          exact ⟨rE, bU1 HB.out GE378.out⟩
        ·
         rw [if_neg c20] at H
         exact absurd H (by simp)
       ·
        rw [if_neg c19] at H
        exact absurd H (by simp)
      ·
       rw [if_neg c18] at H
       exact absurd H (by simp)
     ·
      rw [if_neg c17] at H
      exact absurd H (by simp)
    ·
     rw [if_neg c16] at H
     exact absurd H (by simp)
def spec_l2Copy.f (l0 : List Int) : Option (List Int) := (some (([] : List Int) : List Int)).bind fun y396 => (if y396.length + l0.length < 17592186044416 then (some (y396 ++ l0)) else (none))
set_option maxHeartbeats 8000000 in
set_option maxRecDepth 100000 in
theorem spec_l2Copy.calls (A0 : Option Addr) (c0 : Nat) (l0 : List Int) (r : List Int) (w : World) (hr0 : Kd.C (Kd.int .i64) w A0 l0.length l0) (hc0 : l0.length ≤ c0) (h : spec_l2Copy.f l0 = some r) :
  Calls Try.prog 62 #[.slice A0 l0.length c0] w fun e w' => ∃ v0_ : Value, e = .returned (v0_) ∧ Kd.R (Kd.int .i64) 3 w' w.heap.size (fun _ => True) v0_ r ∧ Below w.heap.size w w' := by
 have HR0 := Az hr0; have HC0 := Az hc0; clear hr0 hc0; have HB := Az (Below.refl w.heap.size w); have H : ((some (([] : List Int) : List Int)).bind fun y396 => (if y396.length + l0.length < 17592186044416 then (some (y396 ++ l0)) else (none))) = some r := h; clear h; obtain ⟨y396, hy396⟩ : ∃ y_ : List Int, y_ = (([] : List Int)) := ⟨_, rfl⟩; replace H : (if y396.length + l0.length < 17592186044416 then (some (y396 ++ l0)) else (none)) = some r := hR hy396 H; have Ny396 := Az hy396; clear hy396
 by_cases c2 : y396.length + l0.length < 17592186044416
 ·
  rw [if_pos c2] at H; have LMc2 := Az c2; clear c2; obtain ⟨y399, hy399⟩ : ∃ y_ : List Int, y_ = (y396 ++ l0) := ⟨_, rfl⟩; replace H : (some y399) = some r := hR hy399 H; have Ny399 := Az hy399; clear hy399; obtain rfl := Option.some.inj H
  go_enter Try.func62, Try.ntmps62
  go_wp2_with (first | ((with_reducible refine gate_dst (N := 3) rfl ?_); refine Kd.R_lit (Kd.int .i64) _ 3 ?hg (N := 3) ?hd (xs := ([] : List Int)) (inner := []) (ok := fun _ => True) (okp := fun _ => True) ?hr ?hp (fun _ hk => hk) trivial (Below.refl _ _) (Nat.le_refl _) (by simp) ?_; (case hd => rfl); (case hg => rfl); (case hr => first | (go_simp; done) | (go_simp; rfl)); (case hp => exact (Reps.none _ _)); intro v397 w3 ho4 hb hg_ hnew_; clear hg_ hnew_; (first | rw [← Ny396.out] at ho4 | (simp only [Int.reduceToNat] at ho4; rw [← Ny396.out] at ho4)); have n0 := Az (Kd.R_lower ho4 (below_size (bU0 HB.out))); have n1 := Az (below_step (bU0 HB.out) hb); clear HB; have HO398 := n0; have HB := n1; clear n0 n1; clear hb ho4) | ((with_reducible refine gate_builtin (b := .append) (xs := #[.tmp 3, .tmp 4]) rfl ?_); at_builtin; refine Kd.R_append_rows (Kd.int .i64) (w0 := w) w.heap.size rfl (.tmp 3) (.tmp 4) 23 3 (.int .i64 0) 8 rfl Try.underlying23 info3 rfl (by decide) (by omega) v397 y396 l0 _ _ _ (fun _ => True) (fun _ => False) rfl rfl ?aO ?aR (fun _ _ h => h) (fun _ h => h.elim) ?aF ?aB ?aS ?aL ?_; (case aR => exact cU (Kd.C_below HR0.out HB.out)); (case aB => exact (bU0 HB.out)); (case aF => exact (fun _ _ => trivial)); (case aO => exact (rU HO398.out)); (case aS => exact (below_size (bU0 HB.out))); (case aL => have := LMc2.out; omega); intro v400 w5 ho hb hg hat; rw [← Ny399.out] at ho; have n0 := Az (hb); have n1 := Az (ho); clear HB HO398; have HB := n0; have HO401 := n1; clear n0 n1; clear ho hb hg hat))
  go_ret
  exact ⟨_, rE, rU HO401.out, bU0 HB.out⟩
 ·
  rw [if_neg c2] at H
  exact absurd H (by simp)
def spec_l7Past.l0 : Nat → List Int → Int → Int → Int → Option (Int)
 | 0, _, _, _, _ => none
 | k + 1, x0, x1, x2, x3 => if x1 = x2 then (if 0 ≤ x1 then (if x1 < (x0.length : Int) then (spec_l7Past.l0 k x0 (rd x0 x1) x2 x3) else (none)) else (none)) else (if x1 = x3 then (if 0 ≤ x1 then (if x1 < (x0.length : Int) then (spec_l7Past.l0 k x0 (rd x0 x1) x2 x3) else (none)) else (none)) else (some x1))
def spec_l7Past.f (k : Nat) (l0 : List Int) (a1 : Int) (a2 : Int) (a3 : Int) : Option (Int) := if 0 ≤ a1 then (if a1 < (l0.length : Int) then (spec_l7Past.l0 k l0 (rd l0 a1) a2 a3) else (none)) else (none)
set_option maxHeartbeats 8000000 in
set_option maxRecDepth 100000 in
theorem spec_l7Past.calls (k : Nat) (A0 : Option Addr) (c0 : Nat) (l0 : List Int) (a1 : Int) (a2 : Int) (a3 : Int) (r : Int) (w : World) (hr0 : Kd.C (Kd.int .i64) w A0 l0.length l0) (hc0 : l0.length ≤ c0) (h : spec_l7Past.f k l0 a1 a2 a3 = some r) :
  Calls Try.prog 63 #[.slice A0 l0.length c0, .int .i64 a1, .int .i64 a2, .int .i64 a3] w fun e w' => e = .returned (.int .i64 r) ∧ Drawn0 w w' := by
 have HR0 := Az hr0; have HC0 := Az hc0; clear hr0 hc0; have H : (if 0 ≤ a1 then (if a1 < (l0.length : Int) then (spec_l7Past.l0 k l0 (rd l0 a1) a2 a3) else (none)) else (none)) = some r := h; clear h
 by_cases c5 : 0 ≤ a1
 ·
  rw [if_pos c5] at H; have c5b0 := decide_eq_true c5; clear c5
  by_cases c6 : a1 < (l0.length : Int)
  ·
   rw [if_pos c6] at H; have c6b0 := decide_eq_true c6; clear c6; have H' := Az H; clear H; have p402 : 0 ≤ (a1 : Int) := oA; have q402 : a1 < (l0.length : Int) := oA; obtain ⟨ad402, e402, hx402_0⟩ := Kd.at_int HR0.out a1 p402 q402
   cases e402
   replace p402 := eq_true p402; replace q402 := eq_true q402
   go_enter Try.func63, Try.ntmps63
   go_wp2
   go_loopg [1] k (fun kq v1 w' => ∃ (x1_1 : Int), v1 = .int .i64 x1_1 ∧ Aside0 (spec_l7Past.l0 kq l0 x1_1 a2 a3 = some r) ∧ Aside0 (kq ≤ k) ∧ Drawn0 w w')
   case atStart => exact ⟨(rd l0 a1), rS, H', ⟨Nat.le_refl _⟩, by repeat (first | exact Drawn0.refl _ | apply Drawn0.step)⟩
   case round =>
    clear H'; (try clear p2); (try clear p4); (try clear q4); (try clear hx4); (try clear c5); (try clear c5b0); (try clear c6); (try clear c6b0); (try clear hx402_0); (try clear p402); (try clear q402); obtain ⟨x1_1, rfl, HA, HK1, ⟨m1, rfl⟩⟩ := hrel
    cases gk with
    | zero => exact absurd HA.out (by simp [spec_l7Past.l0])
    | succ k1 =>
     have H := HA.out; clear HA; simp only [spec_l7Past.l0] at H
     by_cases c7 : x1_1 = a2
     ·
      rw [if_pos c7] at H; have c7b0 := beq_iff_eq.mpr c7; have c7b1 := bne_eq_false_iff_eq.mpr c7; clear c7
      by_cases c8 : 0 ≤ x1_1
      ·
       rw [if_pos c8] at H; have c8b0 := decide_eq_true c8; clear c8
       by_cases c9 : x1_1 < (l0.length : Int)
       ·
        rw [if_pos c9] at H; have c9b0 := decide_eq_true c9; clear c9; have H' := Az H; clear H; have p403 : 0 ≤ (x1_1 : Int) := oA; have q403 : x1_1 < (l0.length : Int) := oA; obtain ⟨ad403, e403, hx403_0⟩ := Kd.at_int HR0.out x1_1 p403 q403; obtain rfl : ad402 = ad403 := (by injection e403); replace p403 := eq_true p403; replace q403 := eq_true q403
        go_wp2
        (first | go_roundg k1 | (refine Handed.intro k1 ?measure ?_; rotate_left; go_step; (try simp only [add_plain]); (repeat apply Exists.intro); refine ⟨?rel, rfl⟩))
        case measure => have := HK1.out; omega
        case rel => exact ⟨(rd l0 x1_1), rS, H', ⟨by have := HK1.out; omega⟩, by repeat (first | exact Drawn0.refl _ | apply Drawn0.step)⟩
       ·
        rw [if_neg c9] at H
        exact absurd H (by simp)
      ·
       rw [if_neg c8] at H
       exact absurd H (by simp)
     ·
      rw [if_neg c7] at H; have c7b0 := beq_eq_false_iff_ne.mpr c7; have c7b1 := bne_iff_ne.mpr c7
      by_cases c10 : x1_1 = a3
      ·
       rw [if_pos c10] at H; have c10b0 := beq_iff_eq.mpr c10; have c10b1 := bne_eq_false_iff_eq.mpr c10; clear c10
       by_cases c11 : 0 ≤ x1_1
       ·
        rw [if_pos c11] at H; have c11b0 := decide_eq_true c11; clear c11
        by_cases c12 : x1_1 < (l0.length : Int)
        ·
         rw [if_pos c12] at H; have c12b0 := decide_eq_true c12; clear c12; have H' := Az H; clear H; have p404 : 0 ≤ (x1_1 : Int) := oA; have q404 : x1_1 < (l0.length : Int) := oA; obtain ⟨ad404, e404, hx404_0⟩ := Kd.at_int HR0.out x1_1 p404 q404; obtain rfl : ad402 = ad404 := (by injection e404); replace p404 := eq_true p404; replace q404 := eq_true q404
         go_wp2
         (first | go_roundg k1 | (refine Handed.intro k1 ?measure ?_; rotate_left; go_step; (try simp only [add_plain]); (repeat apply Exists.intro); refine ⟨?rel, rfl⟩))
         case measure => have := HK1.out; omega
         case rel => exact ⟨(rd l0 x1_1), rS, H', ⟨by have := HK1.out; omega⟩, by repeat (first | exact Drawn0.refl _ | apply Drawn0.step)⟩
        ·
         rw [if_neg c12] at H
         exact absurd H (by simp)
       ·
        rw [if_neg c11] at H
        exact absurd H (by simp)
      ·
       rw [if_neg c10] at H; have c10b0 := beq_eq_false_iff_ne.mpr c10; have c10b1 := bne_iff_ne.mpr c10; obtain rfl := Option.some.inj H
       go_wp2
       go_ret
       exact ⟨by first | rfl | (simp; done) | (simp [*]; done), by repeat (first | exact Drawn0.refl _ | apply Drawn0.step)⟩
  ·
   rw [if_neg c6] at H
   exact absurd H (by simp)
 ·
  rw [if_neg c5] at H
  exact absurd H (by simp)
mutual
def spec_l7Leave.l0 : Nat → List Int → List Int → Int → Int → List Int → Int → Int → Option (List Int × List Int)
 | 0, _, _, _, _, _, _, _ => none
 | k + 1, x0, x1, x2, x3, x9, x10, x11 => if x11 < (x0.length : Int) then (if 0 ≤ x11 then (if x11 < (x9.length : Int) then ((some (x9.set (x11 : Int).toNat x10 : List Int)).bind fun y409 => (if x11 = x2 then (spec_l7Leave.l0 k x0 x1 x2 x3 y409 x10 (wrap64 (x11 + 1))) else (if x11 = x3 then (spec_l7Leave.l0 k x0 x1 x2 x3 y409 x10 (wrap64 (x11 + 1))) else (spec_l7Leave.l0 k x0 x1 x2 x3 y409 (wrap64 (x10 + 1)) (wrap64 (x11 + 1)))))) else (none)) else (none)) else (spec_l7Leave.l1 k x0 x1 x2 x3 x9 0 (([] : List Int)) (([] : List Int)))
def spec_l7Leave.l1 : Nat → List Int → List Int → Int → Int → List Int → Int → List Int → List Int → Option (List Int × List Int)
 | 0, _, _, _, _, _, _, _, _ => none
 | k + 1, x0, x1, x2, x3, x9, x13, xZ0, xZ1 => if x13 < (x0.length : Int) then (if x13 = x2 then (spec_l7Leave.l1 k x0 x1 x2 x3 x9 (wrap64 (x13 + 1)) xZ0 xZ1) else (if x13 = x3 then (spec_l7Leave.l1 k x0 x1 x2 x3 x9 (wrap64 (x13 + 1)) xZ0 xZ1) else (if 0 ≤ x13 then (if 0 ≤ (rd x0 x13) then (if (rd x0 x13) < (x9.length : Int) then (if xZ0.length < 17592186044416 then (if x13 < (x1.length : Int) then (if 0 ≤ (rd x1 x13) then (if (rd x1 x13) < (x9.length : Int) then (if xZ1.length < 17592186044416 then (spec_l7Leave.l1 k x0 x1 x2 x3 x9 (wrap64 (x13 + 1)) (xZ0 ++ [rd x9 (rd x0 x13)]) (xZ1 ++ [rd x9 (rd x1 x13)])) else (none)) else (none)) else (none)) else (none)) else (none)) else (none)) else (none)) else (none)))) else (some (xZ0, xZ1))
end
def spec_l7Leave.f (k : Nat) (l0 : List Int) (l1 : List Int) (a2 : Int) (a3 : Int) : Option (List Int × List Int) := if 0 ≤ (l0.length : Int) then (if ((l0.length : Int) : Int).toNat ≤ 35184372088832 then (spec_l7Leave.l0 k l0 l1 a2 a3 (List.replicate ((l0.length : Int) : Int).toNat 0) 0 0) else (none)) else (none)
def spec_l7Leave.T14 : Bool × List (List Nat × List Nat) := (true, [([], []), ([0], [0]), ([], []), ([], []), ([], []), ([3, 4], [3, 4]), ([5], [5]), ([2, 6], [2, 6]), ([7], [7]), ([8], [8]), ([1, 9], [1, 9]), ([0, 1, 2, 3, 4, 5, 6, 7, 8, 9, 10], []), ([11, 10, 10, 0, 1, 2, 3, 4, 5, 6, 7, 8, 9, 10], [10, 11])])
def spec_l7Leave.B14 : List Nat := [0, 1, 0, 0, 0, 24, 56, 124, 252, 508, 1023, 2047, 4095]
theorem spec_l7Leave.tab14 : rtab .any (opsOf Try.f64 14) = spec_l7Leave.T14 := by kernel_rfl
theorem spec_l7Leave.bits14 : waitsOk spec_l7Leave.T14.2 spec_l7Leave.B14 = true := by kernel_rfl
def spec_l7Leave.T15 : Bool × List (List Nat × List Nat) := (true, [([], []), ([0], [0]), ([], []), ([], []), ([], []), ([3, 4], [3, 4]), ([5], [5]), ([2, 6], [2, 6]), ([7], [7]), ([8], [8]), ([1, 9], [1, 9]), ([0, 1, 2, 3, 4, 5, 6, 7, 8, 9, 10], []), ([11, 10, 10, 0, 1, 2, 3, 4, 5, 6, 7, 8, 9, 10], [10, 11])])
def spec_l7Leave.B15 : List Nat := [0, 1, 0, 0, 0, 24, 56, 124, 252, 508, 1023, 2047, 4095]
theorem spec_l7Leave.tab15 : rtab .any (opsOf Try.f64 15) = spec_l7Leave.T15 := by kernel_rfl
theorem spec_l7Leave.bits15 : waitsOk spec_l7Leave.T15.2 spec_l7Leave.B15 = true := by kernel_rfl
set_option maxHeartbeats 8000000 in
set_option maxRecDepth 100000 in
theorem spec_l7Leave.calls (k : Nat) (A0 : Option Addr) (c0 : Nat) (l0 : List Int) (A1 : Option Addr) (c1 : Nat) (l1 : List Int) (a2 : Int) (a3 : Int) (r1 : List Int) (r2 : List Int) (w : World) (hr0 : Kd.C (Kd.int .i64) w A0 l0.length l0) (hc0 : l0.length ≤ c0) (hr1 : Kd.C (Kd.int .i64) w A1 l1.length l1) (hc1 : l1.length ≤ c1) (h : spec_l7Leave.f k l0 l1 a2 a3 = some (r1, r2)) :
  Calls Try.prog 64 #[.slice A0 l0.length c0, .slice A1 l1.length c1, .int .i64 a2, .int .i64 a3] w fun e w' => ∃ v0_ v1_ : Value, e = .returned (.agg #[v0_, v1_]) ∧ Kd.R (Kd.int .i64) 3 w' w.heap.size (fun k_ => some k_ ≠ (v1_ : Value).ownBlock) v0_ r1 ∧ Kd.R (Kd.int .i64) 3 w' w.heap.size (fun k_ => some k_ ≠ (v0_ : Value).ownBlock) v1_ r2 ∧ Below w.heap.size w w' := by
 have hu25 := Try.underlying25; have HR0 := Az hr0; have HC0 := Az hc0; clear hr0 hc0; have HR1 := Az hr1; have HC1 := Az hc1; clear hr1 hc1; have HB := Az (Below.refl w.heap.size w); have H : (if 0 ≤ (l0.length : Int) then (if ((l0.length : Int) : Int).toNat ≤ 35184372088832 then (spec_l7Leave.l0 k l0 l1 a2 a3 (List.replicate ((l0.length : Int) : Int).toNat 0) 0 0) else (none)) else (none)) = some (r1, r2) := h; clear h
 by_cases c5 : 0 ≤ (l0.length : Int)
 ·
  rw [if_pos c5] at H; have c5b0 := eq_true c5; have c5b1 := decide_eq_true c5; clear c5
  by_cases c6 : ((l0.length : Int) : Int).toNat ≤ 35184372088832
  ·
   rw [if_pos c6] at H; have c6b0 := eq_true c6; have c6b1 := decide_eq_true c6; clear c6; obtain ⟨y406, hy406⟩ : ∃ y_ : List Int, y_ = (List.replicate ((l0.length : Int) : Int).toNat 0) := ⟨_, rfl⟩; replace H : (spec_l7Leave.l0 k l0 l1 a2 a3 y406 0 0) = some (r1, r2) := hR hy406 H; have Ny406 := Az hy406; clear hy406; have H' := Az H; clear H
   go_enter Try.func64, Try.ntmps64
   go_wp2_with (first | ((with_reducible refine gate_dst (N := 8) rfl ?_); refine box_event ?hg (N := 8) ?hd (cs := #[.slice none 0 0, .slice none 0 0]) (t := 25) ?hr ?_; (case hd => rfl); (case hg => rfl); (case hr => first | (go_simp; done) | (go_simp; rfl)); intro gb405 hg w7 hbox hb; have n0 := Az (below_step (bU0 HB.out) hb); have n1 := Az (hbox); have n2 := Az ((by rw [hg]; exact (below_size (bU0 HB.out)) : w.heap.size ≤ gb405)); have n3 := n2; clear HB; have HB := n0; have BK405 := n1; have GW405 := n2; have GE405 := n3; clear n0 n1 n2 n3; clear hb hbox hg) | ((with_reducible refine gate_dst (N := 16) rfl ?_); refine Kd.R_make (Kd.int .i64) _ 3 rfl (N := 16) rfl 23 _ _ rfl (l0.length : Int) rfl rfl Try.underlying23 (.int .i64 0) 8 info3 rfl (by decide) (by omega) 0 (ok := fun _ => True) (okp := fun _ => True) rfl (fun _ hk => hk) trivial (oA) (Nat.le_trans (Nat.mul_le_mul_right _ (oA : (l0.length : Int).toNat ≤ 35184372088832)) (by omega)) (Below.refl _ _) (Nat.le_refl _) ?_; intro v407 w8 ho9 hb hg_ hnew_; clear hg_ hnew_; (first | rw [← Ny406.out] at ho9 | (simp only [Int.reduceToNat] at ho9; rw [← Ny406.out] at ho9)); have n0 := Az (Kd.R_lower ho9 (below_size (bU1 HB.out GE405.out))); have n1 := Az (blk_below (g := gb405) (o := .cells #[.slice none 0 0, .slice none 0 0] 25 (0, 0)) (kU BK405.out) hb); have n2 := Az (below_step (bU1 HB.out GE405.out) hb); clear BK405 HB; have HO408 := n0; have BK405 := n1; have HB := n2; clear n0 n1 n2; clear hb ho9))
   go_loopg [10, 11] k (fun kq v10 v11 w' => ∃ (x9_1 : List Int) (x10_1 : Int) (x11_1 : Int), v10 = .int .i64 x10_1 ∧ v11 = .int .i64 x11_1 ∧ Aside0 (spec_l7Leave.l0 kq l0 l1 a2 a3 x9_1 x10_1 x11_1 = some (r1, r2)) ∧ Aside0 (kq ≤ k) ∧ Aside0 (Kd.R (Kd.int .i64) 3 w' w.heap.size (fun _ => True) v407 x9_1) ∧ Aside0 (w'.heap[gb405]? = some (.cells #[(.slice none 0 0), (.slice none 0 0)] 25 (0, 0))) ∧ Aside0 (Below w.heap.size w w'))
   case atStart => exact ⟨(y406), (0), (0), rS, rS, H', ⟨Nat.le_refl _⟩, ⟨rU HO408.out⟩, ⟨kU BK405.out⟩, ⟨bU1 HB.out GE405.out⟩⟩
   case round =>
    clear H'; (try clear c1); (try clear p2); (try clear c5); (try clear c5b0); (try clear c5b1); (try clear c6); (try clear c6b0); (try clear c6b1); obtain ⟨x9_1, x10_1, x11_1, rfl, rfl, HA, HK1, HO_9, BK405, HB⟩ := hrel
    cases gk with
    | zero => exact absurd HA.out (by simp [spec_l7Leave.l0])
    | succ k1 =>
     have H := HA.out; clear HA; simp only [spec_l7Leave.l0] at H
     by_cases c10 : x11_1 < (l0.length : Int)
     ·
      rw [if_pos c10] at H; have c10b0 := decide_eq_true c10; clear c10
      by_cases c11 : 0 ≤ x11_1
      ·
       rw [if_pos c11] at H; have c11b0 := decide_eq_true c11; clear c11
       by_cases c12 : x11_1 < (x9_1.length : Int)
       ·
        rw [if_pos c12] at H; have c12b0 := decide_eq_true c12; clear c12; obtain ⟨y409, hy409⟩ : ∃ y_ : List Int, y_ = (x9_1.set (x11_1 : Int).toNat x10_1) := ⟨_, rfl⟩; replace H : (if x11_1 = a2 then (spec_l7Leave.l0 k1 l0 l1 a2 a3 y409 x10_1 (wrap64 (x11_1 + 1))) else (if x11_1 = a3 then (spec_l7Leave.l0 k1 l0 l1 a2 a3 y409 x10_1 (wrap64 (x11_1 + 1))) else (spec_l7Leave.l0 k1 l0 l1 a2 a3 y409 (wrap64 (x10_1 + 1)) (wrap64 (x11_1 + 1))))) = some (r1, r2) := hR hy409 H; have Ny409 := Az hy409; clear hy409
        by_cases c14 : x11_1 = a2
        ·
         rw [if_pos c14] at H; have c14b0 := beq_iff_eq.mpr c14; have c14b1 := bne_eq_false_iff_eq.mpr c14; clear c14; have H' := Az H; clear H; have p13 : 0 ≤ (x11_1 : Int) := oA; have q13 : (x11_1 : Int) < ((x9_1.length : Int) : Int) := oA; obtain ⟨go13, co13, eo13, gb13, gl13, cl13, HG13⟩ := Kd.R_form HO_9.out (by omega); (first | cases eo13 | (injection eo13 with ea_ en_ ec_; (first | subst ea_ | (injection ea_ with ea_; subst ea_)); subst ec_; clear en_)); have GB13 := Az gb13; have GG13 := Az HG13; clear gb13 gl13 HG13; obtain ⟨hx13_0, hf13_0⟩ := Kd.R_celln 0 HO_9.out (x11_1 : Int) p13 q13; replace p13 := eq_true p13; replace q13 := eq_true q13; obtain ⟨hy15_, hz15_⟩ := Kd.R_celln 0 HO_9.out (x11_1 : Int) (oA) (oA); have HP15 := Kd.R_putg HO_9.out (x11_1 : Int) x10_1
         go_wp2_with (first | ((with_reducible refine gate_store (t := 3) (p := 26) rfl ?_); refine store_event (t := 3) (p := 26) (v := ?vo_w16) (w1 := (wr.setCell ⟨go13, (x11_1 : Int).toNat, none⟩ (.int .i64 x10_1))) ?hg ?ho ?hn ?hr ?_; (case ho => rfl); (case hg => rfl); (case hn => rfl); (case hr => first | (go_simp; done) | (go_simp; rfl)); intro w16 hw; have hg : wr.grownBy w16 (some go13) := (by rw [hw]; exact HP15.2); have hp_ : Kd.R (Kd.int .i64) 3 w16 w.heap.size (fun _ => True) (.slice (some ⟨go13, 0, none⟩) x9_1.length co13) y409 := (by rw [hw, Ny409.out]; exact HP15.1); clear HP15; have n0 := Az (hp_); have n1 := Az (blk_grown (g := gb405) (o := .cells #[.slice none 0 0, .slice none 0 0] 25 (0, 0)) (kU BK405.out) hg (Kd.R_ne HO_9.out BK405.out (by decide))); have n2 := Az ((by rw [hw]; exact below_set (HB.out) GB13.out : Below w.heap.size w w16)); clear HO_9 BK405 HB; have HO_9 := n0; have BK405 := n1; have HB := n2; clear n0 n1 n2; clear hg hw hp_))
         (first | go_roundg k1 | (refine Handed.intro k1 ?measure ?_; rotate_left; go_step; (try simp only [add_plain]); (repeat apply Exists.intro); refine ⟨?rel, rfl⟩))
         case measure => have := HK1.out; omega
         case rel => exact ⟨(y409), (x10_1), (wrap64 (x11_1 + 1)), rS, rS, H', ⟨by have := HK1.out; omega⟩, ⟨rU HO_9.out⟩, ⟨kU BK405.out⟩, ⟨bU1 HB.out GE405.out⟩⟩
        ·
         rw [if_neg c14] at H; have c14b0 := beq_eq_false_iff_ne.mpr c14; have c14b1 := bne_iff_ne.mpr c14
         by_cases c17 : x11_1 = a3
         ·
          rw [if_pos c17] at H; have c17b0 := beq_iff_eq.mpr c17; have c17b1 := bne_eq_false_iff_eq.mpr c17; clear c17; have H' := Az H; clear H; have p13 : 0 ≤ (x11_1 : Int) := oA; have q13 : (x11_1 : Int) < ((x9_1.length : Int) : Int) := oA; obtain ⟨go13, co13, eo13, gb13, gl13, cl13, HG13⟩ := Kd.R_form HO_9.out (by omega); (first | cases eo13 | (injection eo13 with ea_ en_ ec_; (first | subst ea_ | (injection ea_ with ea_; subst ea_)); subst ec_; clear en_)); have GB13 := Az gb13; have GG13 := Az HG13; clear gb13 gl13 HG13; obtain ⟨hx13_0, hf13_0⟩ := Kd.R_celln 0 HO_9.out (x11_1 : Int) p13 q13; replace p13 := eq_true p13; replace q13 := eq_true q13; obtain ⟨hy18_, hz18_⟩ := Kd.R_celln 0 HO_9.out (x11_1 : Int) (oA) (oA); have HP18 := Kd.R_putg HO_9.out (x11_1 : Int) x10_1
          go_wp2_with (first | ((with_reducible refine gate_store (t := 3) (p := 26) rfl ?_); refine store_event (t := 3) (p := 26) (v := ?vo_w19) (w1 := (wr.setCell ⟨go13, (x11_1 : Int).toNat, none⟩ (.int .i64 x10_1))) ?hg ?ho ?hn ?hr ?_; (case ho => rfl); (case hg => rfl); (case hn => rfl); (case hr => first | (go_simp; done) | (go_simp; rfl)); intro w19 hw; have hg : wr.grownBy w19 (some go13) := (by rw [hw]; exact HP18.2); have hp_ : Kd.R (Kd.int .i64) 3 w19 w.heap.size (fun _ => True) (.slice (some ⟨go13, 0, none⟩) x9_1.length co13) y409 := (by rw [hw, Ny409.out]; exact HP18.1); clear HP18; have n0 := Az (hp_); have n1 := Az (blk_grown (g := gb405) (o := .cells #[.slice none 0 0, .slice none 0 0] 25 (0, 0)) (kU BK405.out) hg (Kd.R_ne HO_9.out BK405.out (by decide))); have n2 := Az ((by rw [hw]; exact below_set (HB.out) GB13.out : Below w.heap.size w w19)); clear HO_9 BK405 HB; have HO_9 := n0; have BK405 := n1; have HB := n2; clear n0 n1 n2; clear hg hw hp_))
          (first | go_roundg k1 | (refine Handed.intro k1 ?measure ?_; rotate_left; go_step; (try simp only [add_plain]); (repeat apply Exists.intro); refine ⟨?rel, rfl⟩))
          case measure => have := HK1.out; omega
          case rel => exact ⟨(y409), (x10_1), (wrap64 (x11_1 + 1)), rS, rS, H', ⟨by have := HK1.out; omega⟩, ⟨rU HO_9.out⟩, ⟨kU BK405.out⟩, ⟨bU1 HB.out GE405.out⟩⟩
         ·
          rw [if_neg c17] at H; have c17b0 := beq_eq_false_iff_ne.mpr c17; have c17b1 := bne_iff_ne.mpr c17; have H' := Az H; clear H; have p13 : 0 ≤ (x11_1 : Int) := oA; have q13 : (x11_1 : Int) < ((x9_1.length : Int) : Int) := oA; obtain ⟨go13, co13, eo13, gb13, gl13, cl13, HG13⟩ := Kd.R_form HO_9.out (by omega); (first | cases eo13 | (injection eo13 with ea_ en_ ec_; (first | subst ea_ | (injection ea_ with ea_; subst ea_)); subst ec_; clear en_)); have GB13 := Az gb13; have GG13 := Az HG13; clear gb13 gl13 HG13; obtain ⟨hx13_0, hf13_0⟩ := Kd.R_celln 0 HO_9.out (x11_1 : Int) p13 q13; replace p13 := eq_true p13; replace q13 := eq_true q13; obtain ⟨hy20_, hz20_⟩ := Kd.R_celln 0 HO_9.out (x11_1 : Int) (oA) (oA); have HP20 := Kd.R_putg HO_9.out (x11_1 : Int) x10_1
          go_wp2_with (first | ((with_reducible refine gate_store (t := 3) (p := 26) rfl ?_); refine store_event (t := 3) (p := 26) (v := ?vo_w21) (w1 := (wr.setCell ⟨go13, (x11_1 : Int).toNat, none⟩ (.int .i64 x10_1))) ?hg ?ho ?hn ?hr ?_; (case ho => rfl); (case hg => rfl); (case hn => rfl); (case hr => first | (go_simp; done) | (go_simp; rfl)); intro w21 hw; have hg : wr.grownBy w21 (some go13) := (by rw [hw]; exact HP20.2); have hp_ : Kd.R (Kd.int .i64) 3 w21 w.heap.size (fun _ => True) (.slice (some ⟨go13, 0, none⟩) x9_1.length co13) y409 := (by rw [hw, Ny409.out]; exact HP20.1); clear HP20; have n0 := Az (hp_); have n1 := Az (blk_grown (g := gb405) (o := .cells #[.slice none 0 0, .slice none 0 0] 25 (0, 0)) (kU BK405.out) hg (Kd.R_ne HO_9.out BK405.out (by decide))); have n2 := Az ((by rw [hw]; exact below_set (HB.out) GB13.out : Below w.heap.size w w21)); clear HO_9 BK405 HB; have HO_9 := n0; have BK405 := n1; have HB := n2; clear n0 n1 n2; clear hg hw hp_))
          (first | go_roundg k1 | (refine Handed.intro k1 ?measure ?_; rotate_left; go_step; (try simp only [add_plain]); (repeat apply Exists.intro); refine ⟨?rel, rfl⟩))
          case measure => have := HK1.out; omega
          case rel => exact ⟨(y409), (wrap64 (x10_1 + 1)), (wrap64 (x11_1 + 1)), rS, rS, H', ⟨by have := HK1.out; omega⟩, ⟨rU HO_9.out⟩, ⟨kU BK405.out⟩, ⟨bU1 HB.out GE405.out⟩⟩
       ·
        rw [if_neg c12] at H
        exact absurd H (by simp)
      ·
       rw [if_neg c11] at H
       exact absurd H (by simp)
     ·
      rw [if_neg c10] at H; have c10b0 := decide_eq_false c10; clear c10; obtain ⟨y410, hy410⟩ : ∃ y_ : List Int, y_ = (([] : List Int)) := ⟨_, rfl⟩; replace H : (spec_l7Leave.l1 k1 l0 l1 a2 a3 x9_1 0 y410 (([] : List Int))) = some (r1, r2) := hR hy410 H; have Ny410 := Az hy410; clear hy410; obtain ⟨y413, hy413⟩ : ∃ y_ : List Int, y_ = (([] : List Int)) := ⟨_, rfl⟩; replace H : (spec_l7Leave.l1 k1 l0 l1 a2 a3 x9_1 0 y410 y413) = some (r1, r2) := hR hy413 H; have Ny413 := Az hy413; clear hy413; have H' := Az H; clear H
      go_wp2_with (first | ((with_reducible refine gate_dst (N := 37) rfl ?_); refine Kd.R_lit (Kd.int .i64) _ 3 ?hg (N := 37) ?hd (xs := ([] : List Int)) (inner := []) (ok := fun _ => True) (okp := fun _ => True) ?hr ?hp (fun _ hk => hk) trivial (Below.refl _ _) (Nat.le_refl _) (by simp) ?_; (case hd => rfl); (case hg => rfl); (case hr => first | (go_simp; done) | (go_simp; rfl)); (case hp => exact (Reps.none _ _)); intro v411 w22 ho23 hb hg_ hnew_; clear hg_ hnew_; (first | rw [← Ny410.out] at ho23 | (simp only [Int.reduceToNat] at ho23; rw [← Ny410.out] at ho23)); have n0 := Az (Kd.R_elder' (rU HO_9.out) (Kd.R_base ho23) hb); have n1 := Az (Kd.R_lower (Kd.R_new' ho23 (Kd.R_lt (rU HO_9.out))) (below_size (bU1 HB.out GE405.out))); have n2 := Az (blk_below (g := gb405) (o := .cells #[.slice none 0 0, .slice none 0 0] 25 (0, 0)) (kU BK405.out) hb); have n3 := Az (below_step (bU1 HB.out GE405.out) hb); clear HO_9 BK405 HB; have HO_9 := n0; have HO412 := n1; have BK405 := n2; have HB := n3; clear n0 n1 n2 n3; clear hb ho23) | ((with_reducible refine gate_dst (N := 38) rfl ?_); refine Kd.R_lit (Kd.int .i64) _ 3 ?hg (N := 38) ?hd (xs := ([] : List Int)) (inner := []) (ok := fun _ => True) (okp := fun _ => True) ?hr ?hp (fun _ hk => hk) trivial (Below.refl _ _) (Nat.le_refl _) (by simp) ?_; (case hd => rfl); (case hg => rfl); (case hr => first | (go_simp; done) | (go_simp; rfl)); (case hp => exact (Reps.none _ _)); intro v414 w24 ho25 hb hg_ hnew_; clear hg_ hnew_; (first | rw [← Ny413.out] at ho25 | (simp only [Int.reduceToNat] at ho25; rw [← Ny413.out] at ho25)); have n0 := Az (Kd.R_elder' (rU HO_9.out) (Kd.R_base ho25) hb); have n1 := Az (Kd.R_elder' (rU HO412.out) (Kd.R_base ho25) hb); have n2 := Az (Kd.R_lower (Kd.R_new' (Kd.R_new' ho25 (Kd.R_lt (rU HO_9.out))) (Kd.R_lt (rU HO412.out))) (below_size (bU1 HB.out GE405.out))); have n3 := Az (blk_below (g := gb405) (o := .cells #[.slice none 0 0, .slice none 0 0] 25 (0, 0)) (kU BK405.out) hb); have n4 := Az (below_step (bU1 HB.out GE405.out) hb); clear HO_9 HO412 BK405 HB; have HO_9 := n0; have HO412 := n1; have HO415 := n2; have BK405 := n3; have HB := n4; clear n0 n1 n2 n3 n4 hb ho25; obtain ⟨Ao26, co26, eo26⟩ := Kd.R_slice HO415.out; subst eo26; obtain ⟨Ao27, co27, eo27⟩ := Kd.R_slice HO412.out; subst eo27) | ((with_reducible refine gate_dst (N := 12) rfl ?_); refine box_event ?hg (N := 12) ?hd (cs := #[.slice none 0 0, .slice none 0 0]) (t := 25) ?hr ?_; (case hd => rfl); (case hg => rfl); (case hr => first | (go_simp; done) | (go_simp; rfl)); intro gb416 hg w28 hbox hb; have n0 := Az (Kd.R_below (rU HO_9.out) hb); have n1 := Az (Kd.R_below (rU HO412.out) hb); have n2 := Az (Kd.R_below (rU HO415.out) hb); have n3 := Az (blk_below (g := gb405) (o := .cells #[.slice none 0 0, .slice none 0 0] 25 (0, 0)) (kU BK405.out) hb); have n4 := Az (below_step (bU1 HB.out GE405.out) hb); have n5 := Az (hbox); have n6 := Az ((by rw [hg]; exact (below_size (bU1 HB.out GE405.out)) : w.heap.size ≤ gb416)); have n7 := n6; have n8 := Az ((by rw [hg]; exact Nat.ne_of_lt (blk_lt (g := gb405) (o := .cells #[.slice none 0 0, .slice none 0 0] 25 (0, 0)) (kU BK405.out)) : gb405 ≠ gb416)); have n9 := Az ((by rw [hg]; exact Nat.ne_of_gt (blk_lt (g := gb405) (o := .cells #[.slice none 0 0, .slice none 0 0] 25 (0, 0)) (kU BK405.out)) : gb416 ≠ gb405)); clear HO_9 HO412 HO415 BK405 HB; have HO_9 := n0; have HO412 := n1; have HO415 := n2; have BK405 := n3; have HB := n4; have BK416 := n5; have GW416 := n6; have GE416 := n7; have NB405_416 := n8; have NB416_405 := n9; clear n0 n1 n2 n3 n4 n5 n6 n7 n8 n9 hb hbox hg; have hnb29 := NB416_405.out; have hnc29 := NB405_416.out; have hcz30_0 : w28.cell? ⟨gb416, 0, none⟩ = some (.slice none 0 0) := (blk_cell BK416.out 0).trans rfl; have hcz30_1 : w28.cell? ⟨gb416, 1, none⟩ = some (.slice none 0 0) := (blk_cell BK416.out 1).trans rfl; have hfz30_0 := blk_frozen BK416.out 0; have hfz30_1 := blk_frozen BK416.out 1))
      go_loopg [13] k1 (fun kq v13 w' => ∃ (x13_2 : Int) (xZ0_2 : List Int) (xZ1_2 : List Int) (uZ0 : Value) (uZ1 : Value), v13 = .int .i64 x13_2 ∧ Aside0 (spec_l7Leave.l1 kq l0 l1 a2 a3 x9_1 x13_2 xZ0_2 xZ1_2 = some (r1, r2)) ∧ Aside0 (kq ≤ k1) ∧ Aside0 (Kd.R (Kd.int .i64) 3 w' w.heap.size (fun k_ => some k_ ≠ (uZ0 : Value).ownBlock ∧ some k_ ≠ (uZ1 : Value).ownBlock) v407 x9_1) ∧ Aside0 (Kd.R (Kd.int .i64) 3 w' w.heap.size (fun k_ => some k_ ≠ (v407 : Value).ownBlock ∧ some k_ ≠ (uZ1 : Value).ownBlock) uZ0 xZ0_2) ∧ Aside0 (Kd.R (Kd.int .i64) 3 w' w.heap.size (fun k_ => some k_ ≠ (v407 : Value).ownBlock ∧ some k_ ≠ (uZ0 : Value).ownBlock) uZ1 xZ1_2) ∧ Aside0 (w'.heap[gb405]? = some (.cells #[(.slice none 0 0), (.slice none 0 0)] 25 (0, 0))) ∧ Aside0 (w'.heap[gb416]? = some (.cells #[uZ0, uZ1] 25 (0, 0))) ∧ Aside0 (Below w.heap.size w w'))
      case atStart => exact ⟨(0), (y410), (y413), (.slice Ao27 y410.length co27), (.slice Ao26 y413.length co26), rS, H', ⟨Nat.le_refl _⟩, ⟨by (with_reducible repeat (first | apply Kd.R_alloc | apply Kd.R_drewN | apply Kd.R_drew)); exact Kd.R_mono (Kd.R_far (p := ⟨gb416, 1, none⟩) (Kd.R_far (p := ⟨gb416, 0, none⟩) (Kd.R_types HO_9.out BK416.out (by decide)) (fun _ hk => hk.2) (.slice Ao27 y410.length co27)) (fun _ hk => hk.2) (.slice Ao26 y413.length co26)) (fun _ hk => ⟨hk.1.1.2, hk.1.2⟩)⟩, ⟨by (with_reducible repeat (first | apply Kd.R_alloc | apply Kd.R_drewN | apply Kd.R_drew)); exact Kd.R_mono (Kd.R_far (p := ⟨gb416, 1, none⟩) (Kd.R_far (p := ⟨gb416, 0, none⟩) (Kd.R_types HO412.out BK416.out (by decide)) (fun _ hk => hk.2) (.slice Ao27 y410.length co27)) (fun _ hk => hk.2) (.slice Ao26 y413.length co26)) (fun _ hk => ⟨hk.1.1.2, hk.1.2⟩)⟩, ⟨by (with_reducible repeat (first | apply Kd.R_alloc | apply Kd.R_drewN | apply Kd.R_drew)); exact Kd.R_mono (Kd.R_far (p := ⟨gb416, 1, none⟩) (Kd.R_far (p := ⟨gb416, 0, none⟩) (Kd.R_types HO415.out BK416.out (by decide)) (fun _ hk => hk.2) (.slice Ao27 y410.length co27)) (fun _ hk => hk.2) (.slice Ao26 y413.length co26)) (fun _ hk => ⟨hk.1.1.2, hk.1.2⟩)⟩, ⟨by (with_reducible repeat (first | refine blk_drewN ?_ _ | refine blk_drew ?_ | refine blk_alloc ?_ _)); refine blk_far ?_ NB405_416.out _; (with_reducible repeat (first | refine blk_drewN ?_ _ | refine blk_drew ?_ | refine blk_alloc ?_ _)); refine blk_far ?_ NB405_416.out _; (with_reducible repeat (first | refine blk_drewN ?_ _ | refine blk_drew ?_ | refine blk_alloc ?_ _)); exact BK405.out⟩, ⟨by (with_reducible repeat (first | refine blk_drewN ?_ _ | refine blk_drew ?_ | refine blk_alloc ?_ _)); refine blk_put (cs := #[.slice Ao27 y410.length co27, .slice none 0 0]) ?_ 1 _ rfl; (with_reducible repeat (first | refine blk_drewN ?_ _ | refine blk_drew ?_ | refine blk_alloc ?_ _)); refine blk_put (cs := #[.slice none 0 0, .slice none 0 0]) ?_ 0 _ rfl; (with_reducible repeat (first | refine blk_drewN ?_ _ | refine blk_drew ?_ | refine blk_alloc ?_ _)); exact BK416.out⟩, ⟨bU2 HB.out GE405.out GE416.out⟩⟩
      case round =>
       clear H'; (try clear c1); (try clear p1); (try clear q1); (try clear hx1); (try clear c2); (try clear p2); (try clear c5); (try clear c5b0); (try clear c5b1); (try clear c6); (try clear c6b0); (try clear c6b1); (try clear p6); (try clear c10); (try clear c10b0); (try clear c11); (try clear c11b0); (try clear c12); (try clear c12b0); (try clear p13); (try clear q13); (try clear hx13); (try clear hf13); (try clear c14); (try clear c14b0); (try clear c14b1); (try clear c17); (try clear c17b0); (try clear c17b1); (try clear c29); (try clear hcz30_0); (try clear hcz30_1); (try clear hfz30_0); (try clear hfz30_1); (try clear hx13_0); (try clear p13); (try clear p2); (try clear q13); obtain ⟨x13_2, xZ0_2, xZ1_2, uZ0, uZ1, rfl, HA, HK2, HO_9, HO_Z0, HO_Z1, BK405, BK416, HB⟩ := hrel
       cases gk with
       | zero => exact absurd HA.out (by simp [spec_l7Leave.l1])
       | succ k2 =>
        have H := HA.out; clear HA; simp only [spec_l7Leave.l1] at H
        by_cases c31 : x13_2 < (l0.length : Int)
        ·
         rw [if_pos c31] at H; have c31b0 := decide_eq_true c31; clear c31
         by_cases c32 : x13_2 = a2
         ·
          rw [if_pos c32] at H; have c32b0 := beq_iff_eq.mpr c32; have c32b1 := bne_eq_false_iff_eq.mpr c32; clear c32; have H' := Az H; clear H
          go_wp2
          (first | go_roundg k2 | (refine Handed.intro k2 ?measure ?_; rotate_left; go_step; (try simp only [add_plain]); (repeat apply Exists.intro); refine ⟨?rel, rfl⟩))
          case measure => have := HK1.out; have := HK2.out; omega
          case rel => exact ⟨(wrap64 (x13_2 + 1)), (xZ0_2), (xZ1_2), (uZ0), (uZ1), rS, H', ⟨by have := HK1.out; have := HK2.out; omega⟩, ⟨rU HO_9.out⟩, ⟨rU HO_Z0.out⟩, ⟨rU HO_Z1.out⟩, ⟨kU BK405.out⟩, ⟨kU BK416.out⟩, ⟨bU2 HB.out GE405.out GE416.out⟩⟩
         ·
          rw [if_neg c32] at H; have c32b0 := beq_eq_false_iff_ne.mpr c32; have c32b1 := bne_iff_ne.mpr c32
          by_cases c33 : x13_2 = a3
          ·
           rw [if_pos c33] at H; have c33b0 := beq_iff_eq.mpr c33; have c33b1 := bne_eq_false_iff_eq.mpr c33; clear c33; have H' := Az H; clear H
           go_wp2
           (first | go_roundg k2 | (refine Handed.intro k2 ?measure ?_; rotate_left; go_step; (try simp only [add_plain]); (repeat apply Exists.intro); refine ⟨?rel, rfl⟩))
           case measure => have := HK1.out; have := HK2.out; omega
           case rel => exact ⟨(wrap64 (x13_2 + 1)), (xZ0_2), (xZ1_2), (uZ0), (uZ1), rS, H', ⟨by have := HK1.out; have := HK2.out; omega⟩, ⟨rU HO_9.out⟩, ⟨rU HO_Z0.out⟩, ⟨rU HO_Z1.out⟩, ⟨kU BK405.out⟩, ⟨kU BK416.out⟩, ⟨bU2 HB.out GE405.out GE416.out⟩⟩
          ·
           rw [if_neg c33] at H; have c33b0 := beq_eq_false_iff_ne.mpr c33; have c33b1 := bne_iff_ne.mpr c33
           by_cases c34 : 0 ≤ x13_2
           ·
            rw [if_pos c34] at H; have c34b0 := decide_eq_true c34; clear c34
            by_cases c35 : 0 ≤ (rd l0 x13_2)
            ·
             rw [if_pos c35] at H; have c35b0 := decide_eq_true c35; clear c35
             by_cases c36 : (rd l0 x13_2) < (x9_1.length : Int)
             ·
              rw [if_pos c36] at H; have c36b0 := decide_eq_true c36; clear c36
              by_cases c37 : xZ0_2.length < 17592186044416
              ·
               rw [if_pos c37] at H; have LMc37 := Az c37; clear c37; obtain ⟨y419, hy419⟩ : ∃ y_ : List Int, y_ = (xZ0_2 ++ [rd x9_1 (rd l0 x13_2)]) := ⟨_, rfl⟩; replace H : (if x13_2 < (l1.length : Int) then (if 0 ≤ (rd l1 x13_2) then (if (rd l1 x13_2) < (x9_1.length : Int) then (if xZ1_2.length < 17592186044416 then (spec_l7Leave.l1 k2 l0 l1 a2 a3 x9_1 (wrap64 (x13_2 + 1)) y419 (xZ1_2 ++ [rd x9_1 (rd l1 x13_2)])) else (none)) else (none)) else (none)) else (none)) = some (r1, r2) := hR hy419 H; have Ny419 := Az hy419; clear hy419
               by_cases c38 : x13_2 < (l1.length : Int)
               ·
                rw [if_pos c38] at H; have c38b0 := decide_eq_true c38; clear c38
                by_cases c39 : 0 ≤ (rd l1 x13_2)
                ·
                 rw [if_pos c39] at H; have c39b0 := decide_eq_true c39; clear c39
                 by_cases c40 : (rd l1 x13_2) < (x9_1.length : Int)
                 ·
                  rw [if_pos c40] at H; have c40b0 := decide_eq_true c40; clear c40
                  by_cases c41 : xZ1_2.length < 17592186044416
                  ·
                   rw [if_pos c41] at H; have LMc41 := Az c41; clear c41; obtain ⟨y424, hy424⟩ : ∃ y_ : List Int, y_ = (xZ1_2 ++ [rd x9_1 (rd l1 x13_2)]) := ⟨_, rfl⟩; replace H : (spec_l7Leave.l1 k2 l0 l1 a2 a3 x9_1 (wrap64 (x13_2 + 1)) y419 y424) = some (r1, r2) := hR hy424 H; have Ny424 := Az hy424; clear hy424; have H' := Az H; clear H
                   try go_wp2
                   have n0 := Az (Kd.R_drew HO_9.out); have n1 := Az (Kd.R_drew HO_Z0.out); have n2 := Az (Kd.R_drew HO_Z1.out); have n3 := Az (blk_drew BK405.out); have n4 := Az (blk_drew BK416.out); have n5 := Az (below_drew1 HB.out); clear HO_9 HO_Z0 HO_Z1 BK405 BK416 HB; have HO_9 := n0; have HO_Z0 := n1; have HO_Z1 := n2; have BK405 := n3; have BK416 := n4; have HB := n5; clear n0 n1 n2 n3 n4 n5; have p417 : 0 ≤ (x13_2 : Int) := oA; have q417 : x13_2 < (l0.length : Int) := oA; obtain ⟨ad417, e417, hx417_0⟩ := Kd.at_int HR0.out x13_2 p417 q417; have hw417_0 := hx417_0
                   cases e417
                   (try replace hx417_0 := (HB.out.cell (World.block_lt_of_cell? w _ hx417_0)).trans hx417_0); replace p417 := eq_true p417; replace q417 := eq_true q417; obtain ⟨Ao43, co43, eo43⟩ := Kd.R_slice HO_9.out; (first | subst eo43 | (injection eo43 with f1_ f2_ f3_; have f4_ := f1_.symm; have f5_ := f3_.symm; clear f1_ f2_ f3_; subst f4_; subst f5_)); have p418 : 0 ≤ ((rd l0 x13_2) : Int) := oA; have q418 : (rd l0 x13_2) < (x9_1.length : Int) := oA; obtain ⟨ad418, e418, hx418_0⟩ := Kd.at_int (Kd.R_reads' HO_9.out).2.2 (rd l0 x13_2) p418 q418
                   cases e418
                   replace p418 := eq_true p418; replace q418 := eq_true q418
                   refine start_ (n := 13) (S := fun w' => w'.cell? ⟨gb416, 0, none⟩ = some (uZ0) ∧ w'.cell? ⟨gb416, 1, none⟩ = some (uZ1) ∧ w'.cell? (ad417.add (x13_2).toNat) = some (.int .i64 (rd l0 x13_2)) ∧ w'.cell? (ad418.add ((rd l0 x13_2)).toNat) = some (.int .i64 (rd x9_1 (rd l0 x13_2)))) (ds := [10, 12]) #[false, false, false, false, false, false, false, false, false, false, false, false, false] (by kernel_rfl) rfl rfl ⟨(blk_cell BK416.out 0).trans rfl, (blk_cell BK416.out 1).trans rfl, (by first | exact hw417_0 | exact (HB.out.cell (World.block_lt_of_cell? w _ hw417_0)).trans hw417_0), hx418_0⟩ (fun hHeld => ?_); refine with_tabW spec_l7Leave.tab14 spec_l7Leave.bits14 (fun HT_ HW_ => ?_)
                   generalize wr.drew = w42 at HO_9 HO_Z0 HO_Z1 BK405 BK416 HB hx417_0 hx418_0 hHeld ⊢
                   refine pure_ (i := 0) (N := some 54) (v := ?_) (a' := ?_) #[true, false, false, false, false, false, false, false, false, false, false, false, false] rfl rfl (any_of HT_.out (by kernel_rfl)) (fun _ _ _ h => h) (Or.inl ⟨by rfl, ?_⟩) ?_ ?_
                   rotate_left
                   ·
                    intro w'
                    go_simp
                    with_reducible rfl
                   rotate_left
                   ·
                    simp only [Act.put, List.setIfInBounds_toArray, List.set_cons_zero, List.set_cons_succ, i64_w, i32_w]
                    rfl
                   refine pure_ (i := 2) (N := some 56) (v := ?_) (a' := ?_) #[true, false, true, false, false, false, false, false, false, false, false, false, false] rfl rfl (any_of HT_.out (by kernel_rfl)) (fun _ _ _ h => h) (Or.inl ⟨by rfl, ?_⟩) ?_ ?_
                   rotate_left
                   ·
                    intro w'
                    go_simp
                    with_reducible rfl
                   rotate_left
                   ·
                    simp only [Act.put, List.setIfInBounds_toArray, List.set_cons_zero, List.set_cons_succ, i64_w, i32_w]
                    rfl
                   refine pure_ (i := 3) (N := some 57) (v := ?_) (a' := ?_) #[true, false, true, true, false, false, false, false, false, false, false, false, false] rfl rfl (any_of HT_.out (by kernel_rfl)) (fun _ _ _ h => h) (Or.inl ⟨by rfl, ?_⟩) ?_ ?_
                   rotate_left
                   ·
                    intro w'
                    go_simp
                    with_reducible rfl
                   rotate_left
                   ·
                    simp only [Act.put, List.setIfInBounds_toArray, List.set_cons_zero, List.set_cons_succ, i64_w, i32_w]
                    rfl
                   refine pure_ (i := 4) (N := some 58) (v := ?_) (a' := ?_) #[true, false, true, true, true, false, false, false, false, false, false, false, false] rfl rfl (any_of HT_.out (by kernel_rfl)) (fun _ _ _ h => h) (Or.inl ⟨by rfl, ?_⟩) ?_ ?_
                   rotate_left
                   ·
                    intro w'
                    go_simp
                    with_reducible rfl
                   rotate_left
                   ·
                    simp only [Act.put, List.setIfInBounds_toArray, List.set_cons_zero, List.set_cons_succ, i64_w, i32_w]
                    rfl
                   refine pure_ (i := 5) (N := some 59) (v := ?_) (a' := ?_) #[true, false, true, true, true, true, false, false, false, false, false, false, false] rfl rfl (any_of HT_.out (by kernel_rfl)) (fun _ _ _ h => h) (Or.inl ⟨by rfl, ?_⟩) ?_ ?_
                   rotate_left
                   ·
                    intro w'
                    go_simp
                    with_reducible rfl
                   rotate_left
                   ·
                    simp only [Act.put, List.setIfInBounds_toArray, List.set_cons_zero, List.set_cons_succ, i64_w, i32_w]
                    rfl
                   refine take_ (i := 1) (N := some 55) (v := ?_) (a' := ?_) #[true, true, true, true, true, true, false, false, false, false, false, false, false] rfl rfl (take_ofW HT_.out HW_.out (by kernel_rfl)) (fun _ _ _ h => h) (Or.inl ⟨by rfl, ?_⟩) hHeld ?_ ?_
                   rotate_left
                   ·
                    rintro w' ⟨s0, s1, s2, s3⟩
                    go_simp
                    with_reducible rfl
                   rotate_left
                   ·
                    simp only [Act.put, List.setIfInBounds_toArray, List.set_cons_zero, List.set_cons_succ, i64_w, i32_w]
                    rfl
                   refine take_ (i := 6) (N := some 60) (v := ?_) (a' := ?_) #[true, true, true, true, true, true, true, false, false, false, false, false, false] rfl rfl (take_ofW HT_.out HW_.out (by kernel_rfl)) (fun _ _ _ h => h) (Or.inl ⟨by rfl, ?_⟩) hHeld ?_ ?_
                   rotate_left
                   ·
                    rintro w' ⟨s0, s1, s2, s3⟩
                    go_simp
                    with_reducible rfl
                   rotate_left
                   ·
                    simp only [Act.put, List.setIfInBounds_toArray, List.set_cons_zero, List.set_cons_succ, i64_w, i32_w]
                    rfl
                   refine pure_ (i := 7) (N := some 61) (v := ?_) (a' := ?_) #[true, true, true, true, true, true, true, true, false, false, false, false, false] rfl rfl (any_of HT_.out (by kernel_rfl)) (fun _ _ _ h => h) (Or.inl ⟨by rfl, ?_⟩) ?_ ?_
                   rotate_left
                   ·
                    intro w'
                    go_simp
                    with_reducible rfl
                   rotate_left
                   ·
                    simp only [Act.put, List.setIfInBounds_toArray, List.set_cons_zero, List.set_cons_succ, i64_w, i32_w]
                    rfl
                   refine take_ (i := 8) (N := some 62) (v := ?_) (a' := ?_) #[true, true, true, true, true, true, true, true, true, false, false, false, false] rfl rfl (take_ofW HT_.out HW_.out (by kernel_rfl)) (fun _ _ _ h => h) (Or.inl ⟨by rfl, ?_⟩) hHeld ?_ ?_
                   rotate_left
                   ·
                    rintro w' ⟨s0, s1, s2, s3⟩
                    go_simp
                    with_reducible rfl
                   rotate_left
                   ·
                    simp only [Act.put, List.setIfInBounds_toArray, List.set_cons_zero, List.set_cons_succ, i64_w, i32_w]
                    rfl
                   refine one_ (i := 9) (N := some 63) #[true, true, true, true, true, true, true, true, true, true, false, false, false] rfl rfl (one_of HT_.out (by kernel_rfl)) (by decide) (fun K hK => ?_)
                   refine value_ (w1 := ?_) (v := ?_) (by rfl) rfl ?_ ?_
                   rotate_left 2
                   ·
                    go_simp
                    constructor
                    ·
                     rfl
                    ·
                     rfl
                   refine hK.out _ _ ⟨(blk_cell (blk_alloc BK416.out _) 0).trans rfl, (blk_cell (blk_alloc BK416.out _) 1).trans rfl, (World.cell?_alloc_lt _ _ _ (World.block_lt_of_cell? _ _ ((by first | exact hw417_0 | exact (HB.out.cell (World.block_lt_of_cell? w _ hw417_0)).trans hw417_0)))).trans ((by first | exact hw417_0 | exact (HB.out.cell (World.block_lt_of_cell? w _ hw417_0)).trans hw417_0)), (World.cell?_alloc_lt _ _ _ (World.block_lt_of_cell? _ _ (hHeld.2.2.2))).trans (hHeld.2.2.2)⟩ (fun hHeld => ?_)
                   clear hK K
                   refine norm_ (a' := ?_) ?_ ?_
                   rotate_left
                   ·
                    show Act.put _ (some 63) _ = _
                    simp only [Act.put, List.setIfInBounds_toArray, List.set_cons_zero, List.set_cons_succ, i64_w, i32_w]
                    rfl
                   refine last_ (i := 10) (N := some 64) #[true, true, true, true, true, true, true, true, true, true, true, false, false] rfl rfl (one_of HT_.out (by kernel_rfl)) (by decide) (fun K hK => ?_)
                   refine Kd.R_append_step (Kd.int .i64) (w0 := w) w.heap.size (by rfl) (.tmp 55) (.tmp 63) 23 3 (.int .i64 0) 8 rfl Try.underlying23 info3 rfl (by decide) (by omega) uZ0 xZ0_2 (rd x9_1 (rd l0 x13_2)) [.int .i64 (rd x9_1 (rd l0 x13_2))] (fun k_ => some k_ ≠ (.slice (some ad418) x9_1.length co43 : Value).ownBlock ∧ some k_ ≠ (uZ1 : Value).ownBlock) (fun _ => False) rfl rfl ?aP (fun _ hk => hk.elim) ?aF ?aO ?aB ?aS ?aL ?_
                   (case aP => exact rfl)
                   (case aB => exact (bU2 HB.out GE405.out GE416.out))
                   (case aF => exact (fun k_ hk => ⟨Kd.fresh' (Kd.R_lt (rU HO_9.out)) k_ hk, Kd.fresh' (Kd.R_lt (rU HO_Z1.out)) k_ hk⟩))
                   (case aO => exact (rU HO_Z0.out))
                   (case aS => exact (below_size (bU2 HB.out GE405.out GE416.out)))
                   (case aL => have := LMc37.out; omega)
                   intro v420 w44 ho hb hg hat
                   rw [← Ny419.out] at ho; have n0 := Az (Kd.R_after (ok := (fun k_ => some k_ ≠ (uZ1 : Value).ownBlock)) (by (with_reducible repeat (first | apply Kd.R_alloc | apply Kd.R_drewN | apply Kd.R_drew)); exact Kd.R_mono HO_9.out (fun _ hk => ⟨hk.2, hk.1⟩)) hg hat); have n1 := Az (Kd.R_after (ok := (fun k_ => some k_ ≠ (.slice (some ad418) x9_1.length co43 : Value).ownBlock)) (rU HO_Z1.out) hg hat); have n2 := Az (blk_grown (g := gb405) (o := .cells #[.slice none 0 0, .slice none 0 0] 25 (0, 0)) (kU BK405.out) hg (Kd.R_ne HO_Z0.out BK405.out (by decide))); have n3 := Az (blk_grown (g := gb416) (o := .cells #[uZ0, uZ1] 25 (0, 0)) (kU BK416.out) hg (Kd.R_ne HO_Z0.out BK416.out (by decide))); have n4 := Az (hb); have n5 := Az (ho); clear HO_9 HO_Z1 BK405 BK416 HB HO_Z0; have HO_9 := n0; have HO_Z1 := n1; have BK405 := n2; have BK416 := n3; have HB := n4; have HO421 := n5; clear n0 n1 n2 n3 n4 n5 ho hb hg hat; obtain ⟨Ao45, co45, eo45⟩ := Kd.R_slice HO421.out; (first | subst eo45 | (injection eo45 with f1_ f2_ f3_; have f4_ := f1_.symm; have f5_ := f3_.symm; clear f1_ f2_ f3_; subst f4_; subst f5_))
                   refine hK.out _ _ ?_
                   clear hK K
                   refine norm_ (a' := ?_) ?_ ?_
                   rotate_left
                   ·
                    show Act.put _ (some 64) _ = _
                    simp only [Act.put, List.setIfInBounds_toArray, List.set_cons_zero, List.set_cons_succ, i64_w, i32_w]
                    rfl
                   refine pure_ (i := 11) (N := some 65) (v := ?_) (a' := ?_) #[true, true, true, true, true, true, true, true, true, true, true, true, false] rfl rfl (any_of HT_.out (by kernel_rfl)) (fun _ _ _ h => h) (Or.inl ⟨by rfl, ?_⟩) ?_ ?_
                   rotate_left
                   ·
                    intro w'
                    go_simp
                    with_reducible rfl
                   rotate_left
                   ·
                    simp only [Act.put, List.setIfInBounds_toArray, List.set_cons_zero, List.set_cons_succ, i64_w, i32_w]
                    rfl
                   refine last_ (i := 12) (N := none) #[true, true, true, true, true, true, true, true, true, true, true, true, true] rfl rfl (one_of HT_.out (by kernel_rfl)) (by decide) (fun K hK => ?_)
                   have hs46 : w44.cell? ⟨gb416, 0, none⟩ = some (uZ0) := (blk_cell BK416.out 0).trans rfl; have hfs46 := blk_frozen BK416.out 0; have hns46_0 := NB405_416.out; have hms46_0 := NB416_405.out
                   refine skip_ (w1 := ?_) (by rfl) rfl ?_ ?_
                   rotate_left
                   ·
                    go_simp
                    rfl
                   refine hK.out _ _ ?_
                   clear hK K
                   refine done_ (done_of HT_.out (by kernel_rfl)) ?_
                   try go_wp2
                   have n0 : Aside0 (Kd.R (Kd.int .i64) 3 (w44.setCell ⟨gb416, 0, none⟩ (.slice Ao45 y419.length co45)) w.heap.size (fun k_ => some k_ ≠ (uZ1 : Value).ownBlock ∧ some k_ ≠ (.slice Ao45 y419.length co45 : Value).ownBlock) (.slice (some ad418) x9_1.length co43) x9_1) := ⟨by (with_reducible repeat (first | apply Kd.R_alloc | apply Kd.R_drewN | apply Kd.R_drew)); exact Kd.R_mono (Kd.R_far (p := ⟨gb416, 0, none⟩) (Kd.R_types HO_9.out BK416.out (by decide)) (fun _ hk => hk.2) (.slice Ao45 y419.length co45)) (fun _ hk => ⟨hk.1.1, hk.1.2⟩)⟩; have n1 : Aside0 (Kd.R (Kd.int .i64) 3 (w44.setCell ⟨gb416, 0, none⟩ (.slice Ao45 y419.length co45)) w.heap.size (fun k_ => some k_ ≠ (.slice (some ad418) x9_1.length co43 : Value).ownBlock ∧ some k_ ≠ (.slice Ao45 y419.length co45 : Value).ownBlock) uZ1 xZ1_2) := ⟨by (with_reducible repeat (first | apply Kd.R_alloc | apply Kd.R_drewN | apply Kd.R_drew)); exact Kd.R_mono (Kd.R_far (p := ⟨gb416, 0, none⟩) (Kd.R_types HO_Z1.out BK416.out (by decide)) (fun _ hk => hk.2) (.slice Ao45 y419.length co45)) (fun _ hk => ⟨hk.1.1, hk.1.2⟩)⟩; have n2 : Aside0 (Kd.R (Kd.int .i64) 3 (w44.setCell ⟨gb416, 0, none⟩ (.slice Ao45 y419.length co45)) w.heap.size (fun k_ => some k_ ≠ (.slice (some ad418) x9_1.length co43 : Value).ownBlock ∧ some k_ ≠ (uZ1 : Value).ownBlock) (.slice Ao45 y419.length co45) y419) := ⟨by (with_reducible repeat (first | apply Kd.R_alloc | apply Kd.R_drewN | apply Kd.R_drew)); exact Kd.R_mono (Kd.R_far (p := ⟨gb416, 0, none⟩) (Kd.R_types HO421.out BK416.out (by decide)) (fun _ hk => hk.2) (.slice Ao45 y419.length co45)) (fun _ hk => ⟨hk.1.1, hk.1.2⟩)⟩; have n3 : Aside0 ((w44.setCell ⟨gb416, 0, none⟩ (.slice Ao45 y419.length co45)).heap[gb405]? = some (.cells #[.slice none 0 0, .slice none 0 0] 25 (0, 0))) := ⟨by (with_reducible repeat (first | refine blk_drewN ?_ _ | refine blk_drew ?_ | refine blk_alloc ?_ _)); refine blk_far ?_ NB405_416.out _; (with_reducible repeat (first | refine blk_drewN ?_ _ | refine blk_drew ?_ | refine blk_alloc ?_ _)); exact BK405.out⟩; have n4 : Aside0 ((w44.setCell ⟨gb416, 0, none⟩ (.slice Ao45 y419.length co45)).heap[gb416]? = some (.cells #[.slice Ao45 y419.length co45, uZ1] 25 (0, 0))) := ⟨by (with_reducible repeat (first | refine blk_drewN ?_ _ | refine blk_drew ?_ | refine blk_alloc ?_ _)); refine blk_put (cs := #[uZ0, uZ1]) ?_ 0 _ rfl; (with_reducible repeat (first | refine blk_drewN ?_ _ | refine blk_drew ?_ | refine blk_alloc ?_ _)); exact BK416.out⟩; have n5 : Aside0 (Below w.heap.size w (w44.setCell ⟨gb416, 0, none⟩ (.slice Ao45 y419.length co45))) := ⟨bU2 HB.out GE405.out GE416.out⟩; (try clear HO_9); (try clear HO_Z1); (try clear HO421); (try clear BK405); (try clear BK416); (try clear HB)
                   generalize (w44.setCell ⟨gb416, 0, none⟩ (.slice Ao45 y419.length co45)) = w47 at n0 n1 n2 n3 n4 n5 ⊢
                   have HO_9 := n0; have HO_Z1 := n1; have HO421 := n2; have BK405 := n3; have BK416 := n4; have HB := n5; clear n0 n1 n2 n3 n4 n5; have n0 := Az (Kd.R_drew HO_9.out); have n1 := Az (Kd.R_drew HO_Z1.out); have n2 := Az (Kd.R_drew HO421.out); have n3 := Az (blk_drew BK405.out); have n4 := Az (blk_drew BK416.out); have n5 := Az (below_drew1 HB.out); clear HO_9 HO_Z1 HO421 BK405 BK416 HB; have HO_9 := n0; have HO_Z1 := n1; have HO421 := n2; have BK405 := n3; have BK416 := n4; have HB := n5; clear n0 n1 n2 n3 n4 n5; have p422 : 0 ≤ (x13_2 : Int) := oA; have q422 : x13_2 < (l1.length : Int) := oA; obtain ⟨ad422, e422, hx422_0⟩ := Kd.at_int HR1.out x13_2 p422 q422; have hw422_0 := hx422_0
                   cases e422
                   (try replace hx422_0 := (HB.out.cell (World.block_lt_of_cell? w _ hx422_0)).trans hx422_0); replace p422 := eq_true p422; replace q422 := eq_true q422; have p423 : 0 ≤ ((rd l1 x13_2) : Int) := oA; have q423 : (rd l1 x13_2) < (x9_1.length : Int) := oA; obtain ⟨ad423, e423, hx423_0⟩ := Kd.at_int (Kd.R_reads' HO_9.out).2.2 (rd l1 x13_2) p423 q423; obtain rfl : ad418 = ad423 := (by injection e423); replace p423 := eq_true p423; replace q423 := eq_true q423
                   refine start_ (n := 13) (S := fun w' => w'.cell? ⟨gb416, 0, none⟩ = some (.slice Ao45 y419.length co45) ∧ w'.cell? ⟨gb416, 1, none⟩ = some (uZ1) ∧ w'.cell? (ad422.add (x13_2).toNat) = some (.int .i64 (rd l1 x13_2)) ∧ w'.cell? (ad418.add ((rd l1 x13_2)).toNat) = some (.int .i64 (rd x9_1 (rd l1 x13_2)))) (ds := [10, 12]) #[false, false, false, false, false, false, false, false, false, false, false, false, false] (by kernel_rfl) rfl rfl ⟨(blk_cell BK416.out 0).trans rfl, (blk_cell BK416.out 1).trans rfl, (by first | exact hw422_0 | exact (HB.out.cell (World.block_lt_of_cell? w _ hw422_0)).trans hw422_0), hx423_0⟩ (fun hHeld => ?_); refine with_tabW spec_l7Leave.tab15 spec_l7Leave.bits15 (fun HT_ HW_ => ?_)
                   generalize w47.drew = w48 at HO_9 HO_Z1 HO421 BK405 BK416 HB hx422_0 hx423_0 hHeld ⊢
                   refine pure_ (i := 0) (N := some 66) (v := ?_) (a' := ?_) #[true, false, false, false, false, false, false, false, false, false, false, false, false] rfl rfl (any_of HT_.out (by kernel_rfl)) (fun _ _ _ h => h) (Or.inl ⟨by rfl, ?_⟩) ?_ ?_
                   rotate_left
                   ·
                    intro w'
                    go_simp
                    with_reducible rfl
                   rotate_left
                   ·
                    simp only [Act.put, List.setIfInBounds_toArray, List.set_cons_zero, List.set_cons_succ, i64_w, i32_w]
                    rfl
                   refine pure_ (i := 2) (N := some 68) (v := ?_) (a' := ?_) #[true, false, true, false, false, false, false, false, false, false, false, false, false] rfl rfl (any_of HT_.out (by kernel_rfl)) (fun _ _ _ h => h) (Or.inl ⟨by rfl, ?_⟩) ?_ ?_
                   rotate_left
                   ·
                    intro w'
                    go_simp
                    with_reducible rfl
                   rotate_left
                   ·
                    simp only [Act.put, List.setIfInBounds_toArray, List.set_cons_zero, List.set_cons_succ, i64_w, i32_w]
                    rfl
                   refine pure_ (i := 3) (N := some 69) (v := ?_) (a' := ?_) #[true, false, true, true, false, false, false, false, false, false, false, false, false] rfl rfl (any_of HT_.out (by kernel_rfl)) (fun _ _ _ h => h) (Or.inl ⟨by rfl, ?_⟩) ?_ ?_
                   rotate_left
                   ·
                    intro w'
                    go_simp
                    with_reducible rfl
                   rotate_left
                   ·
                    simp only [Act.put, List.setIfInBounds_toArray, List.set_cons_zero, List.set_cons_succ, i64_w, i32_w]
                    rfl
                   refine pure_ (i := 4) (N := some 70) (v := ?_) (a' := ?_) #[true, false, true, true, true, false, false, false, false, false, false, false, false] rfl rfl (any_of HT_.out (by kernel_rfl)) (fun _ _ _ h => h) (Or.inl ⟨by rfl, ?_⟩) ?_ ?_
                   rotate_left
                   ·
                    intro w'
                    go_simp
                    with_reducible rfl
                   rotate_left
                   ·
                    simp only [Act.put, List.setIfInBounds_toArray, List.set_cons_zero, List.set_cons_succ, i64_w, i32_w]
                    rfl
                   refine pure_ (i := 5) (N := some 71) (v := ?_) (a' := ?_) #[true, false, true, true, true, true, false, false, false, false, false, false, false] rfl rfl (any_of HT_.out (by kernel_rfl)) (fun _ _ _ h => h) (Or.inl ⟨by rfl, ?_⟩) ?_ ?_
                   rotate_left
                   ·
                    intro w'
                    go_simp
                    with_reducible rfl
                   rotate_left
                   ·
                    simp only [Act.put, List.setIfInBounds_toArray, List.set_cons_zero, List.set_cons_succ, i64_w, i32_w]
                    rfl
                   refine take_ (i := 1) (N := some 67) (v := ?_) (a' := ?_) #[true, true, true, true, true, true, false, false, false, false, false, false, false] rfl rfl (take_ofW HT_.out HW_.out (by kernel_rfl)) (fun _ _ _ h => h) (Or.inl ⟨by rfl, ?_⟩) hHeld ?_ ?_
                   rotate_left
                   ·
                    rintro w' ⟨s0, s1, s2, s3⟩
                    go_simp
                    with_reducible rfl
                   rotate_left
                   ·
                    simp only [Act.put, List.setIfInBounds_toArray, List.set_cons_zero, List.set_cons_succ, i64_w, i32_w]
                    rfl
                   refine take_ (i := 6) (N := some 72) (v := ?_) (a' := ?_) #[true, true, true, true, true, true, true, false, false, false, false, false, false] rfl rfl (take_ofW HT_.out HW_.out (by kernel_rfl)) (fun _ _ _ h => h) (Or.inl ⟨by rfl, ?_⟩) hHeld ?_ ?_
                   rotate_left
                   ·
                    rintro w' ⟨s0, s1, s2, s3⟩
                    go_simp
                    with_reducible rfl
                   rotate_left
                   ·
                    simp only [Act.put, List.setIfInBounds_toArray, List.set_cons_zero, List.set_cons_succ, i64_w, i32_w]
                    rfl
                   refine pure_ (i := 7) (N := some 73) (v := ?_) (a' := ?_) #[true, true, true, true, true, true, true, true, false, false, false, false, false] rfl rfl (any_of HT_.out (by kernel_rfl)) (fun _ _ _ h => h) (Or.inl ⟨by rfl, ?_⟩) ?_ ?_
                   rotate_left
                   ·
                    intro w'
                    go_simp
                    with_reducible rfl
                   rotate_left
                   ·
                    simp only [Act.put, List.setIfInBounds_toArray, List.set_cons_zero, List.set_cons_succ, i64_w, i32_w]
                    rfl
                   refine take_ (i := 8) (N := some 74) (v := ?_) (a' := ?_) #[true, true, true, true, true, true, true, true, true, false, false, false, false] rfl rfl (take_ofW HT_.out HW_.out (by kernel_rfl)) (fun _ _ _ h => h) (Or.inl ⟨by rfl, ?_⟩) hHeld ?_ ?_
                   rotate_left
                   ·
                    rintro w' ⟨s0, s1, s2, s3⟩
                    go_simp
                    with_reducible rfl
                   rotate_left
                   ·
                    simp only [Act.put, List.setIfInBounds_toArray, List.set_cons_zero, List.set_cons_succ, i64_w, i32_w]
                    rfl
                   refine one_ (i := 9) (N := some 75) #[true, true, true, true, true, true, true, true, true, true, false, false, false] rfl rfl (one_of HT_.out (by kernel_rfl)) (by decide) (fun K hK => ?_)
                   refine value_ (w1 := ?_) (v := ?_) (by rfl) rfl ?_ ?_
                   rotate_left 2
                   ·
                    go_simp
                    constructor
                    ·
                     rfl
                    ·
                     rfl
                   refine hK.out _ _ ⟨(blk_cell (blk_alloc BK416.out _) 0).trans rfl, (blk_cell (blk_alloc BK416.out _) 1).trans rfl, (World.cell?_alloc_lt _ _ _ (World.block_lt_of_cell? _ _ ((by first | exact hw422_0 | exact (HB.out.cell (World.block_lt_of_cell? w _ hw422_0)).trans hw422_0)))).trans ((by first | exact hw422_0 | exact (HB.out.cell (World.block_lt_of_cell? w _ hw422_0)).trans hw422_0)), (World.cell?_alloc_lt _ _ _ (World.block_lt_of_cell? _ _ (hHeld.2.2.2))).trans (hHeld.2.2.2)⟩ (fun hHeld => ?_)
                   clear hK K
                   refine norm_ (a' := ?_) ?_ ?_
                   rotate_left
                   ·
                    show Act.put _ (some 75) _ = _
                    simp only [Act.put, List.setIfInBounds_toArray, List.set_cons_zero, List.set_cons_succ, i64_w, i32_w]
                    rfl
                   refine last_ (i := 10) (N := some 76) #[true, true, true, true, true, true, true, true, true, true, true, false, false] rfl rfl (one_of HT_.out (by kernel_rfl)) (by decide) (fun K hK => ?_)
                   refine Kd.R_append_step (Kd.int .i64) (w0 := w) w.heap.size (by rfl) (.tmp 67) (.tmp 75) 23 3 (.int .i64 0) 8 rfl Try.underlying23 info3 rfl (by decide) (by omega) uZ1 xZ1_2 (rd x9_1 (rd l1 x13_2)) [.int .i64 (rd x9_1 (rd l1 x13_2))] (fun k_ => some k_ ≠ (.slice (some ad418) x9_1.length co43 : Value).ownBlock ∧ some k_ ≠ (.slice Ao45 y419.length co45 : Value).ownBlock) (fun _ => False) rfl rfl ?aP (fun _ hk => hk.elim) ?aF ?aO ?aB ?aS ?aL ?_
                   (case aP => exact rfl)
                   (case aB => exact (bU2 HB.out GE405.out GE416.out))
                   (case aF => exact (fun k_ hk => ⟨Kd.fresh' (Kd.R_lt (rU HO_9.out)) k_ hk, Kd.fresh' (Kd.R_lt (rU HO421.out)) k_ hk⟩))
                   (case aO => exact (rU HO_Z1.out))
                   (case aS => exact (below_size (bU2 HB.out GE405.out GE416.out)))
                   (case aL => have := LMc41.out; omega)
                   intro v425 w49 ho hb hg hat
                   rw [← Ny424.out] at ho; have n0 := Az (Kd.R_after (ok := (fun k_ => some k_ ≠ (.slice Ao45 y419.length co45 : Value).ownBlock)) (by (with_reducible repeat (first | apply Kd.R_alloc | apply Kd.R_drewN | apply Kd.R_drew)); exact Kd.R_mono HO_9.out (fun _ hk => ⟨hk.2, hk.1⟩)) hg hat); have n1 := Az (blk_grown (g := gb405) (o := .cells #[.slice none 0 0, .slice none 0 0] 25 (0, 0)) (kU BK405.out) hg (Kd.R_ne HO_Z1.out BK405.out (by decide))); have n2 := Az (blk_grown (g := gb416) (o := .cells #[.slice Ao45 y419.length co45, uZ1] 25 (0, 0)) (kU BK416.out) hg (Kd.R_ne HO_Z1.out BK416.out (by decide))); have n3 := Az (Kd.R_after (ok := (fun k_ => some k_ ≠ (.slice (some ad418) x9_1.length co43 : Value).ownBlock)) (rU HO421.out) hg hat); have n4 := Az (hb); have n5 := Az (ho); clear HO_9 BK405 BK416 HO421 HB HO_Z1; have HO_9 := n0; have BK405 := n1; have BK416 := n2; have HO421 := n3; have HB := n4; have HO426 := n5; clear n0 n1 n2 n3 n4 n5 ho hb hg hat; obtain ⟨Ao50, co50, eo50⟩ := Kd.R_slice HO426.out; (first | subst eo50 | (injection eo50 with f1_ f2_ f3_; have f4_ := f1_.symm; have f5_ := f3_.symm; clear f1_ f2_ f3_; subst f4_; subst f5_))
                   refine hK.out _ _ ?_
                   clear hK K
                   refine norm_ (a' := ?_) ?_ ?_
                   rotate_left
                   ·
                    show Act.put _ (some 76) _ = _
                    simp only [Act.put, List.setIfInBounds_toArray, List.set_cons_zero, List.set_cons_succ, i64_w, i32_w]
                    rfl
                   refine pure_ (i := 11) (N := some 77) (v := ?_) (a' := ?_) #[true, true, true, true, true, true, true, true, true, true, true, true, false] rfl rfl (any_of HT_.out (by kernel_rfl)) (fun _ _ _ h => h) (Or.inl ⟨by rfl, ?_⟩) ?_ ?_
                   rotate_left
                   ·
                    intro w'
                    go_simp
                    with_reducible rfl
                   rotate_left
                   ·
                    simp only [Act.put, List.setIfInBounds_toArray, List.set_cons_zero, List.set_cons_succ, i64_w, i32_w]
                    rfl
                   refine last_ (i := 12) (N := none) #[true, true, true, true, true, true, true, true, true, true, true, true, true] rfl rfl (one_of HT_.out (by kernel_rfl)) (by decide) (fun K hK => ?_)
                   have hs51 : w49.cell? ⟨gb416, 1, none⟩ = some (uZ1) := (blk_cell BK416.out 1).trans rfl; have hfs51 := blk_frozen BK416.out 1; have hns51_0 := NB405_416.out; have hms51_0 := NB416_405.out
                   refine skip_ (w1 := ?_) (by rfl) rfl ?_ ?_
                   rotate_left
                   ·
                    go_simp
                    rfl
                   refine hK.out _ _ ?_
                   clear hK K
                   refine done_ (done_of HT_.out (by kernel_rfl)) ?_
                   try go_wp2
                   (first | go_roundg k2 | (refine Handed.intro k2 ?measure ?_; rotate_left; go_step; (try simp only [add_plain]); (repeat apply Exists.intro); refine ⟨?rel, rfl⟩))
                   case measure => have := HK1.out; have := HK2.out; omega
                   case rel => exact ⟨(wrap64 (x13_2 + 1)), (y419), (y424), (.slice Ao45 y419.length co45), (.slice Ao50 y424.length co50), rS, H', ⟨by have := HK1.out; have := HK2.out; omega⟩, ⟨by (with_reducible repeat (first | apply Kd.R_alloc | apply Kd.R_drewN | apply Kd.R_drew)); exact Kd.R_mono (Kd.R_far (p := ⟨gb416, 1, none⟩) (Kd.R_types HO_9.out BK416.out (by decide)) (fun _ hk => hk.2) (.slice Ao50 y424.length co50)) (fun _ hk => ⟨hk.1.1, hk.1.2⟩)⟩, ⟨by (with_reducible repeat (first | apply Kd.R_alloc | apply Kd.R_drewN | apply Kd.R_drew)); exact Kd.R_mono (Kd.R_far (p := ⟨gb416, 1, none⟩) (Kd.R_types HO421.out BK416.out (by decide)) (fun _ hk => hk.2) (.slice Ao50 y424.length co50)) (fun _ hk => ⟨hk.1.1, hk.1.2⟩)⟩, ⟨by (with_reducible repeat (first | apply Kd.R_alloc | apply Kd.R_drewN | apply Kd.R_drew)); exact Kd.R_mono (Kd.R_far (p := ⟨gb416, 1, none⟩) (Kd.R_types HO426.out BK416.out (by decide)) (fun _ hk => hk.2) (.slice Ao50 y424.length co50)) (fun _ hk => ⟨hk.1.1, hk.1.2⟩)⟩, ⟨by (with_reducible repeat (first | refine blk_drewN ?_ _ | refine blk_drew ?_ | refine blk_alloc ?_ _)); refine blk_far ?_ NB405_416.out _; (with_reducible repeat (first | refine blk_drewN ?_ _ | refine blk_drew ?_ | refine blk_alloc ?_ _)); exact BK405.out⟩, ⟨by (with_reducible repeat (first | refine blk_drewN ?_ _ | refine blk_drew ?_ | refine blk_alloc ?_ _)); refine blk_put (cs := #[.slice Ao45 y419.length co45, uZ1]) ?_ 1 _ rfl; (with_reducible repeat (first | refine blk_drewN ?_ _ | refine blk_drew ?_ | refine blk_alloc ?_ _)); exact BK416.out⟩, ⟨bU2 HB.out GE405.out GE416.out⟩⟩
                  ·
                   rw [if_neg c41] at H
                   exact absurd H (by simp)
                 ·
                  rw [if_neg c40] at H
                  exact absurd H (by simp)
                ·
                 rw [if_neg c39] at H
                 exact absurd H (by simp)
               ·
                rw [if_neg c38] at H
                exact absurd H (by simp)
              ·
               rw [if_neg c37] at H
               exact absurd H (by simp)
             ·
              rw [if_neg c36] at H
              exact absurd H (by simp)
            ·
             rw [if_neg c35] at H
             exact absurd H (by simp)
           ·
            rw [if_neg c34] at H
            exact absurd H (by simp)
        ·
         rw [if_neg c31] at H; have c31b0 := decide_eq_false c31; clear c31; simp only [Option.some.injEq, Prod.mk.injEq] at H; obtain ⟨rfl, rfl⟩ := H; have hnb52 := NB416_405.out; have hnc52 := NB405_416.out; have hcz53_0 : wr.cell? ⟨gb416, 0, none⟩ = some (uZ0) := (blk_cell BK416.out 0).trans rfl; have hcz53_1 : wr.cell? ⟨gb416, 1, none⟩ = some (uZ1) := (blk_cell BK416.out 1).trans rfl; have hfz53_0 := blk_frozen BK416.out 0; have hfz53_1 := blk_frozen BK416.out 1; obtain ⟨Ao54, co54, eo54⟩ := Kd.R_slice HO_Z0.out; subst eo54; have hcz55_0 : wr.cell? ⟨gb405, 0, none⟩ = some (.slice none 0 0) := (blk_cell BK405.out 0).trans rfl; have hcz55_1 : wr.cell? ⟨gb405, 1, none⟩ = some (.slice none 0 0) := (blk_cell BK405.out 1).trans rfl; have hfz55_0 := blk_frozen BK405.out 0; have hfz55_1 := blk_frozen BK405.out 1; obtain ⟨Ao56, co56, eo56⟩ := Kd.R_slice HO_Z1.out; subst eo56
         go_wp2
         refine bodyPost_ret (results_cell_row rfl _ _ gb405 25 #[.slice Ao54 xZ0_2.length co54, .slice Ao56 xZ1_2.length co56] (0, 0) _ rfl (by (with_reducible repeat (first | refine blk_drewN ?_ _ | refine blk_drew ?_ | refine blk_alloc ?_ _)); refine blk_put (cs := #[.slice Ao54 xZ0_2.length co54, .slice none 0 0]) ?_ 1 _ rfl; (with_reducible repeat (first | refine blk_drewN ?_ _ | refine blk_drew ?_ | refine blk_alloc ?_ _)); refine blk_put (cs := #[.slice none 0 0, .slice none 0 0]) ?_ 0 _ rfl; (with_reducible repeat (first | refine blk_drewN ?_ _ | refine blk_drew ?_ | refine blk_alloc ?_ _)); exact BK405.out) Try.underlying25 rfl (by kernel_rfl)) rfl ?_
         exact ⟨_, _, rE, by (with_reducible repeat (first | apply Kd.R_alloc | apply Kd.R_drewN | apply Kd.R_drew)); exact Kd.R_mono (Kd.R_far (p := ⟨gb405, 1, none⟩) (Kd.R_far (p := ⟨gb405, 0, none⟩) (Kd.R_types HO_Z0.out BK405.out (by decide)) (fun _ hk => hk.2) (.slice Ao54 xZ0_2.length co54)) (fun _ hk => hk.2) (.slice Ao56 xZ1_2.length co56)) (fun _ hk => hk.1.2), by (with_reducible repeat (first | apply Kd.R_alloc | apply Kd.R_drewN | apply Kd.R_drew)); exact Kd.R_mono (Kd.R_far (p := ⟨gb405, 1, none⟩) (Kd.R_far (p := ⟨gb405, 0, none⟩) (Kd.R_types HO_Z1.out BK405.out (by decide)) (fun _ hk => hk.2) (.slice Ao54 xZ0_2.length co54)) (fun _ hk => hk.2) (.slice Ao56 xZ1_2.length co56)) (fun _ hk => hk.1.2), bU2 HB.out GE405.out GE416.out⟩
  ·
   rw [if_neg c6] at H
   exact absurd H (by simp)
 ·
  rw [if_neg c5] at H
  exact absurd H (by simp)
end Go.Proofs.Ytggghijamfmenaa.PC
