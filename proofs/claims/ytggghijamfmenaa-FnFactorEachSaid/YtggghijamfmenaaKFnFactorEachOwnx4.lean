/- Characters count factorizations: what FnFactorEach says holds of all codes. There are no conditions beside the given row's own. -/
import Derived.Test.YtggghijamfmenaaKFnFactorEachOwnx3
namespace Go.Proofs.Ytggghijamfmenaa.PN
open Go.RowKit Go.Proofs.YtggghijamfmenaaW.PrintWords Go.Proofs.YtggghijamfmenaaW.PrintLast Go.Proofs.YtggghijamfmenaaW.PrintMore
attribute [local go_sem] max2_int min2_int max_two min_two max_three min_three max_four min_four   -- for this text's walks alone
set_option linter.unusedVariables false
set_option linter.unusedSimpArgs false
def spec_l91Parts.f (k : Nat) (s0_0 : List Int) (s0_1 : Int) (a1 : Int) : Option (List Int × Int) := (spec_l5All.f k a1 a1).bind fun t531 => ((spec_l6Rd_pick.f k s0_0 s0_1 (t531.length : Int)).bind fun bt534 => (if 0 ≤ bt534.1 then (if bt534.1 < (t531.length : Int) then ((spec_l2Copy.f (rd_L1 t531 bt534.1)).bind fun t537 => ((spec_l6Rd_pick.f k s0_0 bt534.2 40).bind fun bt540 => (if bt540.1 = 0 then ((some (([0, (-1), 7] : List Int) : List Int)).bind fun y542 => ((spec_l6Rd_pick.f k s0_0 bt540.2 3).bind fun bt545 => (if 0 ≤ bt545.1 then (if bt545.1 < (y542.length : Int) then (if 0 < (t537.length : Int) then (some ((t537.set (0 : Int).toNat (rd y542 bt545.1)), bt545.2)) else (none)) else (none)) else (none)))) else (if bt540.1 = 1 then (if 0 < (t537.length : Int) then (if t537.length < 17592186044416 then (some ((t537 ++ [wrap64 ((rd t537 0) + 1)]), bt540.2)) else (none)) else (none)) else (if bt540.1 = 2 then (some ((([] : List Int)), bt540.2)) else (some (t537, bt540.2))))))) else (none)) else (none)))
set_option maxHeartbeats 8000000 in
set_option maxRecDepth 100000 in
theorem spec_l91Parts.calls (k : Nat) (g : Nat) (s0_0 : List Int) (s0_1 : Int) (a1 : Int) (r1 : List Int) (r2 : Int) (w0 w : World) (hI : IsS87 w0 w g s0_0 s0_1) (hB : Below w0.heap.size w0 w) (h : spec_l91Parts.f k s0_0 s0_1 a1 = some (r1, r2)) :
  Calls Try.prog 142 #[.pointer (some ⟨g, 0, none⟩), .int .i64 a1] w fun e w' => ∃ v0_ : Value, e = .returned (v0_) ∧ Kd.R (Kd.int .i64) 3 w' w.heap.size (fun _ => True) v0_ r1 ∧ IsS87 w0 w' g s0_0 r2 ∧ Below w0.heap.size w0 w' ∧ KeepBut w w' g none := by
 have HI0 := Az hI; have HK := Az (KeepBut.refl w g none); have HL := Az hB.size; clear hI; have HW0 := Az hB.size; have HB := Az hB; clear hB; have H : ((spec_l5All.f k a1 a1).bind fun t531 => ((spec_l6Rd_pick.f k s0_0 s0_1 (t531.length : Int)).bind fun bt534 => (if 0 ≤ bt534.1 then (if bt534.1 < (t531.length : Int) then ((spec_l2Copy.f (rd_L1 t531 bt534.1)).bind fun t537 => ((spec_l6Rd_pick.f k s0_0 bt534.2 40).bind fun bt540 => (if bt540.1 = 0 then ((some (([0, (-1), 7] : List Int) : List Int)).bind fun y542 => ((spec_l6Rd_pick.f k s0_0 bt540.2 3).bind fun bt545 => (if 0 ≤ bt545.1 then (if bt545.1 < (y542.length : Int) then (if 0 < (t537.length : Int) then (some ((t537.set (0 : Int).toNat (rd y542 bt545.1)), bt545.2)) else (none)) else (none)) else (none)))) else (if bt540.1 = 1 then (if 0 < (t537.length : Int) then (if t537.length < 17592186044416 then (some ((t537 ++ [wrap64 ((rd t537 0) + 1)]), bt540.2)) else (none)) else (none)) else (if bt540.1 = 2 then (some ((([] : List Int)), bt540.2)) else (some (t537, bt540.2))))))) else (none)) else (none)))) = some (r1, r2) := h; clear h; replace H := Option.bind_eq_some_iff.mp H; obtain ⟨t531, A30, H⟩ := H; replace H : ((spec_l6Rd_pick.f k s0_0 s0_1 (t531.length : Int)).bind fun bt534 => (if 0 ≤ bt534.1 then (if bt534.1 < (t531.length : Int) then ((spec_l2Copy.f (rd_L1 t531 bt534.1)).bind fun t537 => ((spec_l6Rd_pick.f k s0_0 bt534.2 40).bind fun bt540 => (if bt540.1 = 0 then ((some (([0, (-1), 7] : List Int) : List Int)).bind fun y542 => ((spec_l6Rd_pick.f k s0_0 bt540.2 3).bind fun bt545 => (if 0 ≤ bt545.1 then (if bt545.1 < (y542.length : Int) then (if 0 < (t537.length : Int) then (some ((t537.set (0 : Int).toNat (rd y542 bt545.1)), bt545.2)) else (none)) else (none)) else (none)))) else (if bt540.1 = 1 then (if 0 < (t537.length : Int) then (if t537.length < 17592186044416 then (some ((t537 ++ [wrap64 ((rd t537 0) + 1)]), bt540.2)) else (none)) else (none)) else (if bt540.1 = 2 then (some ((([] : List Int)), bt540.2)) else (some (t537, bt540.2))))))) else (none)) else (none))) = some (r1, r2) := H; have A3 := Az A30; clear A30; replace H := Option.bind_eq_some_iff.mp H; obtain ⟨⟨t534, t535⟩, A40, H⟩ := H; replace H : (if 0 ≤ t534 then (if t534 < (t531.length : Int) then ((spec_l2Copy.f (rd_L1 t531 t534)).bind fun t537 => ((spec_l6Rd_pick.f k s0_0 t535 40).bind fun bt540 => (if bt540.1 = 0 then ((some (([0, (-1), 7] : List Int) : List Int)).bind fun y542 => ((spec_l6Rd_pick.f k s0_0 bt540.2 3).bind fun bt545 => (if 0 ≤ bt545.1 then (if bt545.1 < (y542.length : Int) then (if 0 < (t537.length : Int) then (some ((t537.set (0 : Int).toNat (rd y542 bt545.1)), bt545.2)) else (none)) else (none)) else (none)))) else (if bt540.1 = 1 then (if 0 < (t537.length : Int) then (if t537.length < 17592186044416 then (some ((t537 ++ [wrap64 ((rd t537 0) + 1)]), bt540.2)) else (none)) else (none)) else (if bt540.1 = 2 then (some ((([] : List Int)), bt540.2)) else (some (t537, bt540.2))))))) else (none)) else (none)) = some (r1, r2) := H; have A4 := Az A40; clear A40
 by_cases c5 : 0 ≤ t534
 ·
  rw [if_pos c5] at H; have c5b0 := decide_eq_true c5; clear c5
  by_cases c6 : t534 < (t531.length : Int)
  ·
   rw [if_pos c6] at H; have c6b0 := decide_eq_true c6; clear c6; replace H := Option.bind_eq_some_iff.mp H; obtain ⟨t537, A70, H⟩ := H; replace H : ((spec_l6Rd_pick.f k s0_0 t535 40).bind fun bt540 => (if bt540.1 = 0 then ((some (([0, (-1), 7] : List Int) : List Int)).bind fun y542 => ((spec_l6Rd_pick.f k s0_0 bt540.2 3).bind fun bt545 => (if 0 ≤ bt545.1 then (if bt545.1 < (y542.length : Int) then (if 0 < (t537.length : Int) then (some ((t537.set (0 : Int).toNat (rd y542 bt545.1)), bt545.2)) else (none)) else (none)) else (none)))) else (if bt540.1 = 1 then (if 0 < (t537.length : Int) then (if t537.length < 17592186044416 then (some ((t537 ++ [wrap64 ((rd t537 0) + 1)]), bt540.2)) else (none)) else (none)) else (if bt540.1 = 2 then (some ((([] : List Int)), bt540.2)) else (some (t537, bt540.2)))))) = some (r1, r2) := H; have A7 := Az A70; clear A70; replace H := Option.bind_eq_some_iff.mp H; obtain ⟨⟨t540, t541⟩, A80, H⟩ := H; replace H : (if t540 = 0 then ((some (([0, (-1), 7] : List Int) : List Int)).bind fun y542 => ((spec_l6Rd_pick.f k s0_0 t541 3).bind fun bt545 => (if 0 ≤ bt545.1 then (if bt545.1 < (y542.length : Int) then (if 0 < (t537.length : Int) then (some ((t537.set (0 : Int).toNat (rd y542 bt545.1)), bt545.2)) else (none)) else (none)) else (none)))) else (if t540 = 1 then (if 0 < (t537.length : Int) then (if t537.length < 17592186044416 then (some ((t537 ++ [wrap64 ((rd t537 0) + 1)]), t541)) else (none)) else (none)) else (if t540 = 2 then (some ((([] : List Int)), t541)) else (some (t537, t541))))) = some (r1, r2) := H; have A8 := Az A80; clear A80
   by_cases c9 : t540 = 0
   ·
    rw [if_pos c9] at H; have c9b0 := beq_iff_eq.mpr c9; have c9b1 := bne_eq_false_iff_eq.mpr c9; clear c9; obtain ⟨y542, hy542⟩ : ∃ y_ : List Int, y_ = (([0, (-1), 7] : List Int)) := ⟨_, rfl⟩; replace H : ((spec_l6Rd_pick.f k s0_0 t541 3).bind fun bt545 => (if 0 ≤ bt545.1 then (if bt545.1 < (y542.length : Int) then (if 0 < (t537.length : Int) then (some ((t537.set (0 : Int).toNat (rd y542 bt545.1)), bt545.2)) else (none)) else (none)) else (none))) = some (r1, r2) := hR hy542 H; have Ny542 := Az hy542; clear hy542; replace H := Option.bind_eq_some_iff.mp H; obtain ⟨⟨t545, t546⟩, A100, H⟩ := H; replace H : (if 0 ≤ t545 then (if t545 < (y542.length : Int) then (if 0 < (t537.length : Int) then (some ((t537.set (0 : Int).toNat (rd y542 t545)), t546)) else (none)) else (none)) else (none)) = some (r1, r2) := H; have A10 := Az A100; clear A100
    by_cases c11 : 0 ≤ t545
    ·
     rw [if_pos c11] at H; have c11b0 := decide_eq_true c11; clear c11
     by_cases c12 : t545 < (y542.length : Int)
     ·
      rw [if_pos c12] at H; have c12b0 := decide_eq_true c12; clear c12
      by_cases c13 : 0 < (t537.length : Int)
      ·
       rw [if_pos c13] at H; have c13b0 := decide_eq_true c13; have c13b1 : decide (0 < t537.length) = true := decide_eq_true (by omega); clear c13; obtain ⟨y548, hy548⟩ : ∃ y_ : List Int, y_ = (t537.set (0 : Int).toNat (rd y542 t545)) := ⟨_, rfl⟩; replace H : (some (y548, t546)) = some (r1, r2) := hR hy548 H; have Ny548 := Az hy548; clear hy548; simp only [Option.some.injEq, Prod.mk.injEq] at H; obtain ⟨rfl, rfl⟩ := H
       go_enter Try.func142, Try.ntmps142
       go_wp2_with (first | ((with_reducible refine gate_callee (f := 158) rfl ?_); refine goesL_ (some 9) rfl rfl Try.func158 (by kernel_rfl) rfl #[.int .i64 a1, .int .i64 a1] rfl (by (try simp only [List.map_toArray, List.map_cons, List.map_nil]); first | done | rfl | (simp only [List.length_drop, List.length_take]; rfl)) ?_; (with_reducible refine (spec_l5All.calls k a1 a1 t531 _ A3.out).mono ?_); rintro e w15 ⟨v532, rfl, ho0, hb⟩; refine ⟨_, rfl, ?_⟩; have n0 := Az (Kd.N_lower (Kd.N_mono (ok' := fun k_ => k_ ≠ g) ho0 (fun k_ hk_ => (IsS87.fresh (by repeat (first | (with_reducible first | exact HI0.out | apply IsS87.alloc | apply IsS87.drewN | apply IsS87.drew | apply IsS87.set_1) | exact HI0.out)) k_ hk_))) (keep_size (w := w) (g := g) (row := none) (by repeat (first | (with_reducible first | exact HK.out | apply KeepBut.set_ | apply keep_drewN | apply keep_drew | apply keep_alloc) | exact HK.out)))); have n1 := Az (IsS87.below (by repeat (first | (with_reducible first | exact HI0.out | apply IsS87.alloc | apply IsS87.drewN | apply IsS87.drew | apply IsS87.set_1) | exact HI0.out)) hb); have n2 := Az (KeepBut.trans (by repeat (first | (with_reducible first | exact HK.out | apply KeepBut.set_ | apply keep_drewN | apply keep_drew | apply keep_alloc) | exact HK.out)) (KeepBut.of_below hb g none) (.inl rfl)); have n3 := Az (below_step (by repeat (first | (with_reducible first | exact HB.out | apply below_alloc | apply pw_below_drewN | apply below_drew1 | refine below_set ?_ (IsS87.ge HI0.out)) | exact HB.out)) hb); clear HI0 HK HB; have HO533 := n0; have HI0 := n1; have HK := n2; have HB := n3; clear n0 n1 n2 n3; (try clear hb); (try clear hb2); (try clear hk); (try clear hi); (try clear ho0); obtain ⟨Ao16, co16, eo16⟩ := Kd.N_slice HO533.out; subst eo16) | ((with_reducible refine gate_callee (f := 76) rfl ?_); refine goesL_ (some 14) rfl rfl Try.func76 (by kernel_rfl) rfl #[.pointer (some ⟨g, 0, none⟩), .int .i64 (t531.length : Int)] rfl (by (try simp only [List.map_toArray, List.map_cons, List.map_nil]); first | done | rfl | (simp only [List.length_drop, List.length_take]; rfl)) ?_; (with_reducible refine (spec_l6Rd_pick.calls k g s0_0 s0_1 (t531.length : Int) t534 t535 w0 _ ?side1 ?side2 A4.out).mono ?_); (case side1 => repeat (first | (with_reducible first | exact HI0.out | apply IsS87.alloc | apply IsS87.drewN | apply IsS87.drew | apply IsS87.set_1) | exact HI0.out)); (case side2 => repeat (first | (with_reducible first | exact HB.out | apply below_alloc | apply pw_below_drewN | apply below_drew1 | refine below_set ?_ (IsS87.ge HI0.out)) | exact HB.out)); rintro e w17 ⟨rfl, hi, hb, hk⟩; refine ⟨_, rfl, ?_⟩; have n0 := Az (Kd.N_mono (Kd.N_keep (Kd.N_mono (ok := fun k_ => k_ ≠ g) (nU HO533.out) (fun k_ hk_ => (⟨hk_, hk_⟩ : _ ∧ k_ ≠ g))) hk (fun _ h => h.2)) (fun _ h => h.1)); have n1 := Az (KeepBut.trans (by repeat (first | (with_reducible first | exact HK.out | apply KeepBut.set_ | apply keep_drewN | apply keep_drew | apply keep_alloc) | exact HK.out)) hk (.inl rfl)); have n2 := Az (hb); have n3 := Az (hi); clear HO533 HK HB HI0; have HO533 := n0; have HK := n1; have HB := n2; have HI0 := n3; clear n0 n1 n2 n3; (try clear hb); (try clear hb2); (try clear hk); (try clear hi); have p536 : 0 ≤ (t534 : Int) := oA; have q536 : t534 < (t531.length : Int) := oA; obtain ⟨ad536, A536_0, c536_0, e536, hx536_0, hl536_0, hi536_0⟩ := at_L1 (Kd.N_reads' HO533.out).2.2 t534 p536 q536; cases e536; obtain ⟨ce536, hce536, hMe536, hcc536⟩ := Kd.N_get HO533.out [] t534 p536 (by first | exact q536 | exact oA | (have e_ := (Kd.N_reads' HO533.out).1; omega)); obtain ⟨ua536_0, uc536_0, rfl, ul536_0, ge536_0⟩ := Kd.FK_slice_open hMe536; have hv536_0 := hcc536 0 _ rfl; rw [Nat.add_zero, show ((Kd.slice 3 (Kd.int .i64))).sz = 1 from rfl, Nat.mul_one] at hv536_0; replace hv536_0 := Option.some.inj (hv536_0.symm.trans hx536_0); injection hv536_0 with hva_ hvn_ hvc_; rw [hva_] at ge536_0; rw [hvc_] at ul536_0; have HL536_0 := Az (show Kd.V (Kd.int .i64) 3 _ w.heap.size _ _ (rd_L1 t531 t534) from Kd.V_mk ul536_0 ge536_0); clear hva_ hvn_ hvc_ ge536_0 ul536_0 hcc536 hce536; have HR536_0 := Az hi536_0; have HC536_0 := Az hl536_0; clear hi536_0 hl536_0; replace p536 := eq_true p536; replace q536 := eq_true q536) | ((with_reducible refine gate_callee (f := 62) rfl ?_); refine goesL_ (some 17) rfl rfl Try.func62 (by kernel_rfl) rfl #[.slice A536_0 (rd_L1 t531 t534).length c536_0] rfl (by (try simp only [List.map_toArray, List.map_cons, List.map_nil]); first | done | rfl | (simp only [List.length_drop, List.length_take]; rfl)) ?_; (with_reducible refine (spec_l2Copy.calls _ _ (rd_L1 t531 t534) t537 _ ?side1 ?side2 A7.out).mono ?_); (case side1 => exact cU (by repeat (first | (with_reducible exact HR536_0.out) | (with_reducible refine Kd.C_alloc ?_ _) | (with_reducible refine Kd.C_drewN ?_ _) | (with_reducible refine Kd.C_drew ?_) | exact HR536_0.out))); (case side2 => exact HC536_0.out); rintro e w18 ⟨v538, rfl, ho0, hb⟩; refine ⟨_, rfl, ?_⟩; have n0 := Az (Kd.N_elder' (nU HO533.out) (Kd.R_base ho0) hb); have n1 := Az (Kd.V_elder' (vU HL536_0.out) (Kd.R_base ho0) hb); have n2 := Az (Kd.R_lower ho0 (keep_size (w := w) (g := g) (row := none) (by repeat (first | (with_reducible first | exact HK.out | apply KeepBut.set_ | apply keep_drewN | apply keep_drew | apply keep_alloc) | exact HK.out)))); have n3 := Az (IsS87.below (by repeat (first | (with_reducible first | exact HI0.out | apply IsS87.alloc | apply IsS87.drewN | apply IsS87.drew | apply IsS87.set_1) | exact HI0.out)) hb); have n4 := Az (Kd.C_below (by repeat (first | (with_reducible exact HR536_0.out) | (with_reducible refine Kd.C_alloc ?_ _) | (with_reducible refine Kd.C_drewN ?_ _) | (with_reducible refine Kd.C_drew ?_) | exact HR536_0.out)) hb); have n5 := Az (KeepBut.trans (by repeat (first | (with_reducible first | exact HK.out | apply KeepBut.set_ | apply keep_drewN | apply keep_drew | apply keep_alloc) | exact HK.out)) (KeepBut.of_below hb g none) (.inl rfl)); have n6 := Az (below_step (by repeat (first | (with_reducible first | exact HB.out | apply below_alloc | apply pw_below_drewN | apply below_drew1 | refine below_set ?_ (IsS87.ge HI0.out)) | exact HB.out)) hb); clear HO533 HL536_0 HI0 HR536_0 HK HB; have HO533 := n0; have HL536_0 := n1; have HO539 := n2; have HI0 := n3; have HR536_0 := n4; have HK := n5; have HB := n6; clear n0 n1 n2 n3 n4 n5 n6; (try clear hb); (try clear hb2); (try clear hk); (try clear hi); (try clear ho0)) | ((with_reducible refine gate_callee (f := 76) rfl ?_); refine goesL_ (some 19) rfl rfl Try.func76 (by kernel_rfl) rfl #[.pointer (some ⟨g, 0, none⟩), .int .i64 40] rfl (by (try simp only [List.map_toArray, List.map_cons, List.map_nil]); first | done | rfl | (simp only [List.length_drop, List.length_take]; rfl)) ?_; (with_reducible refine (spec_l6Rd_pick.calls k g s0_0 t535 40 t540 t541 w0 _ ?side1 ?side2 A8.out).mono ?_); (case side1 => repeat (first | (with_reducible first | exact HI0.out | apply IsS87.alloc | apply IsS87.drewN | apply IsS87.drew | apply IsS87.set_1) | exact HI0.out)); (case side2 => repeat (first | (with_reducible first | exact HB.out | apply below_alloc | apply pw_below_drewN | apply below_drew1 | refine below_set ?_ (IsS87.ge HI0.out)) | exact HB.out)); rintro e w19 ⟨rfl, hi, hb, hk⟩; refine ⟨_, rfl, ?_⟩; have n0 := Az (Kd.N_mono (Kd.N_keep (Kd.N_mono (ok := fun k_ => (k_ ≠ g ∧ some k_ ≠ (v538 : Value).ownBlock)) (nU HO533.out) (fun k_ hk_ => (⟨hk_, hk_.1⟩ : _ ∧ k_ ≠ g))) hk (fun _ h => h.2)) (fun _ h => h.1)); have n1 := Az (Kd.V_mono (Kd.V_keep (Kd.V_mono (ok := fun k_ => ((k_ ≠ g ∧ some k_ ≠ (.slice (some ad536) t531.length co16 : Value).ownBlock) ∧ some k_ ≠ (v538 : Value).ownBlock)) (vU HL536_0.out) (fun k_ hk_ => (⟨hk_, hk_.1.1⟩ : _ ∧ k_ ≠ g))) hk (fun _ h => h.2)) (fun _ h => h.1)); have n2 := Az (Kd.R_mono (Kd.R_keep (IsS87.apart (show IsS87 w0 _ g s0_0 t535 from by repeat (first | (with_reducible first | exact HI0.out | apply IsS87.alloc | apply IsS87.drewN | apply IsS87.drew | apply IsS87.set_1) | exact HI0.out)) (rU HO539.out) (by decide)) hk (fun _ h => h.2)) (fun _ h => h.1)); have n3 := Az (KeepBut.trans (by repeat (first | (with_reducible first | exact HK.out | apply KeepBut.set_ | apply keep_drewN | apply keep_drew | apply keep_alloc) | exact HK.out)) hk (.inl rfl)); have n4 := Az (hb); have n5 := Az (hi); clear HO533 HL536_0 HO539 HK HB HI0; have HO533 := n0; have HL536_0 := n1; have HO539 := n2; have HK := n3; have HB := n4; have HI0 := n5; clear n0 n1 n2 n3 n4 n5; (try clear hb); (try clear hb2); (try clear hk); (try clear hi)) | ((with_reducible refine gate_dst (N := 23) rfl ?_); refine Kd.R_lit (Kd.int .i64) _ 3 ?hg (N := 23) ?hd (xs := ([0, (-1), 7] : List Int)) (inner := [.int .i64 0, .int .i64 (-1), .int .i64 7]) (ok := fun _ => True) (okp := fun _ => True) ?hr ?hp (fun _ hk => hk) trivial (Below.refl _ _) (Nat.le_refl _) (by simp) ?_; (case hd => rfl); (case hg => rfl); (case hr => first | (go_simp; done) | (go_simp; rfl)); (case hp => exact (Reps.one (show Kd.M (Kd.int .i64) _ _ _ 0 [.int .i64 0] from rfl) (Reps.one (show Kd.M (Kd.int .i64) _ _ _ (-1) [.int .i64 (-1)] from rfl) (Reps.one (show Kd.M (Kd.int .i64) _ _ _ 7 [.int .i64 7] from rfl) (Reps.none _ _))))); intro v543 w20 ho21 hb hg_ hnew_; clear hg_ hnew_; (first | rw [← Ny542.out] at ho21 | (simp only [Int.reduceToNat] at ho21; rw [← Ny542.out] at ho21)); have n0 := Az (Kd.N_elder' (nU HO533.out) (Kd.R_base ho21) hb); have n1 := Az (Kd.V_elder' (vU HL536_0.out) (Kd.R_base ho21) hb); have n2 := Az (Kd.R_elder' (rU HO539.out) (Kd.R_base ho21) hb); have n3 := Az (Kd.R_lower (Kd.R_new' ho21 (Kd.R_lt (rU HO539.out))) (keep_size (w := w) (g := g) (row := none) (by repeat (first | (with_reducible first | exact HK.out | apply KeepBut.set_ | apply keep_drewN | apply keep_drew | apply keep_alloc) | exact HK.out)))); have n4 := Az (IsS87.below (by repeat (first | (with_reducible first | exact HI0.out | apply IsS87.alloc | apply IsS87.drewN | apply IsS87.drew | apply IsS87.set_1) | exact HI0.out)) hb); have n5 := Az (KeepBut.trans (by repeat (first | (with_reducible first | exact HK.out | apply KeepBut.set_ | apply keep_drewN | apply keep_drew | apply keep_alloc) | exact HK.out)) (KeepBut.of_below hb g none) (.inl rfl)); have n6 := Az (below_step (by repeat (first | (with_reducible first | exact HB.out | apply below_alloc | apply pw_below_drewN | apply below_drew1 | refine below_set ?_ (IsS87.ge HI0.out)) | exact HB.out)) hb); clear HO533 HL536_0 HO539 HI0 HK HB; have HO533 := n0; have HL536_0 := n1; have HO539 := n2; have HO544 := n3; have HI0 := n4; have HK := n5; have HB := n6; clear n0 n1 n2 n3 n4 n5 n6; clear hb ho21) | ((with_reducible refine gate_callee (f := 76) rfl ?_); refine goesL_ (some 25) rfl rfl Try.func76 (by kernel_rfl) rfl #[.pointer (some ⟨g, 0, none⟩), .int .i64 3] rfl (by (try simp only [List.map_toArray, List.map_cons, List.map_nil]); first | done | rfl | (simp only [List.length_drop, List.length_take]; rfl)) ?_; (with_reducible refine (spec_l6Rd_pick.calls k g s0_0 t541 3 t545 t546 w0 _ ?side1 ?side2 A10.out).mono ?_); (case side1 => repeat (first | (with_reducible first | exact HI0.out | apply IsS87.alloc | apply IsS87.drewN | apply IsS87.drew | apply IsS87.set_1) | exact HI0.out)); (case side2 => repeat (first | (with_reducible first | exact HB.out | apply below_alloc | apply pw_below_drewN | apply below_drew1 | refine below_set ?_ (IsS87.ge HI0.out)) | exact HB.out)); rintro e w22 ⟨rfl, hi, hb, hk⟩; refine ⟨_, rfl, ?_⟩; have n0 := Az (Kd.N_mono (Kd.N_keep (Kd.N_mono (ok := fun k_ => ((k_ ≠ g ∧ some k_ ≠ (v538 : Value).ownBlock) ∧ some k_ ≠ (v543 : Value).ownBlock)) (nU HO533.out) (fun k_ hk_ => (⟨hk_, hk_.1.1⟩ : _ ∧ k_ ≠ g))) hk (fun _ h => h.2)) (fun _ h => h.1)); have n1 := Az (Kd.V_mono (Kd.V_keep (Kd.V_mono (ok := fun k_ => (((k_ ≠ g ∧ some k_ ≠ (.slice (some ad536) t531.length co16 : Value).ownBlock) ∧ some k_ ≠ (v538 : Value).ownBlock) ∧ some k_ ≠ (v543 : Value).ownBlock)) (vU HL536_0.out) (fun k_ hk_ => (⟨hk_, hk_.1.1.1⟩ : _ ∧ k_ ≠ g))) hk (fun _ h => h.2)) (fun _ h => h.1)); have n2 := Az (Kd.R_mono (Kd.R_keep (IsS87.apart (show IsS87 w0 _ g s0_0 t541 from by repeat (first | (with_reducible first | exact HI0.out | apply IsS87.alloc | apply IsS87.drewN | apply IsS87.drew | apply IsS87.set_1) | exact HI0.out)) (rU HO539.out) (by decide)) hk (fun _ h => h.2)) (fun _ h => h.1)); have n3 := Az (Kd.R_mono (Kd.R_keep (IsS87.apart (show IsS87 w0 _ g s0_0 t541 from by repeat (first | (with_reducible first | exact HI0.out | apply IsS87.alloc | apply IsS87.drewN | apply IsS87.drew | apply IsS87.set_1) | exact HI0.out)) (rU HO544.out) (by decide)) hk (fun _ h => h.2)) (fun _ h => h.1)); have n4 := Az (KeepBut.trans (by repeat (first | (with_reducible first | exact HK.out | apply KeepBut.set_ | apply keep_drewN | apply keep_drew | apply keep_alloc) | exact HK.out)) hk (.inl rfl)); have n5 := Az (hb); have n6 := Az (hi); clear HO533 HL536_0 HO539 HO544 HK HB HI0; have HO533 := n0; have HL536_0 := n1; have HO539 := n2; have HO544 := n3; have HK := n4; have HB := n5; have HI0 := n6; clear n0 n1 n2 n3 n4 n5 n6; (try clear hb); (try clear hb2); (try clear hk); (try clear hi); obtain ⟨Ao23, co23, eo23⟩ := Kd.R_slice HO544.out; subst eo23; have p547 : 0 ≤ (t545 : Int) := oA; have q547 : t545 < (y542.length : Int) := oA; obtain ⟨ad547, e547, hx547_0⟩ := Kd.at_int (Kd.R_reads' HO544.out).2.2 t545 p547 q547; cases e547; replace p547 := eq_true p547; replace q547 := eq_true q547; have p14 : 0 ≤ (0 : Int) := (by omega); have q14 : (0 : Int) < ((t537.length : Int) : Int) := oA; have qi14 : (0 < t537.length) = True := eq_true (by omega); obtain ⟨go14, co14, eo14, gb14, gl14, cl14, HG14⟩ := Kd.R_form HO539.out (by omega); (first | cases eo14 | (injection eo14 with ea_ en_ ec_; (first | subst ea_ | (injection ea_ with ea_; subst ea_)); subst ec_; clear en_)); have GB14 := Az gb14; have GG14 := Az HG14; clear gb14 gl14 HG14; obtain ⟨hx14_0, hf14_0⟩ := Kd.R_celln 0 HO539.out (0 : Int) p14 q14; (try rw [show ((0 : Int)).toNat = 0 from rfl] at hx14_0); (try simp only [Nat.reduceMul, Nat.zero_mul, Nat.zero_add, Nat.reduceAdd] at hx14_0); (try rw [show ((0 : Int)).toNat = 0 from rfl] at hf14_0); (try simp only [Nat.reduceMul, Nat.zero_mul, Nat.zero_add, Nat.reduceAdd] at hf14_0); replace p14 := eq_true p14; replace q14 := eq_true q14; have n_ := Az (Kd.R_mono (ok' := (fun k_ => some k_ ≠ (.slice (some ad547) y542.length co23 : Value).ownBlock)) HO539.out (fun k_ hk => hk.2)); clear HO539; have HO539 := n_; clear n_; obtain ⟨hy24_, hz24_⟩ := Kd.R_celln 0 HO539.out (0 : Int) (by omega) (oA); (try simp only [Int.reduceToNat, Int.toNat_zero, Int.toNat_ofNat, Nat.reduceMul, Nat.zero_mul, Nat.zero_add] at hy24_ hz24_); (try rw [show ((0 : Int)).toNat = 0 from rfl] at hy24_); (try rw [show ((0 : Int)).toNat = 0 from rfl] at hz24_); have HP24 := Kd.R_putg HO539.out (0 : Int) (rd y542 t545)) | ((with_reducible refine gate_store (t := 3) (p := 28) rfl ?_); refine store_event (t := 3) (p := 28) (v := ?vo_w25) (w1 := (w22.setCell ⟨go14, (0 : Int).toNat, none⟩ (.int .i64 (rd y542 t545)))) ?hg ?ho ?hn ?hr ?_; (case ho => rfl); (case hg => rfl); (case hn => rfl); (case hr => first | (go_simp; done) | (go_simp; rfl)); intro w25 hw; have hg : w22.grownBy w25 (some go14) := (by rw [hw]; exact HP24.2); have hp_ : Kd.R (Kd.int .i64) 3 w25 w.heap.size (fun k_ => some k_ ≠ (.slice (some ad547) y542.length co23 : Value).ownBlock) (.slice (some ⟨go14, 0, none⟩) t537.length co14) y548 := (by rw [hw, Ny548.out]; exact HP24.1); clear HP24; have n0 := Az (IsS87.grown (by repeat (first | (with_reducible first | exact HI0.out | apply IsS87.alloc | apply IsS87.drewN | apply IsS87.drew | apply IsS87.set_1) | exact HI0.out)) hg (IsS87.own_ne HI0.out HO539.out (by decide))); have n1 := Az (Kd.N_afterv (v := (.slice (some ⟨go14, 0, none⟩) t537.length co14)) (v1 := (.slice (some ⟨go14, 0, none⟩) t537.length co14)) (ok := (fun k_ => some k_ ≠ (.slice (some ad547) y542.length co23 : Value).ownBlock ∧ k_ ≠ g)) (by (with_reducible repeat (first | apply Kd.N_alloc | apply Kd.N_drewN | apply Kd.N_drew)); exact Kd.N_mono HO533.out (fun _ hk => ⟨⟨hk.2, hk.1.1⟩, hk.1.2⟩)) hg (.inl rfl)); have n2 := Az (Kd.V_afterv (v := (.slice (some ⟨go14, 0, none⟩) t537.length co14)) (v1 := (.slice (some ⟨go14, 0, none⟩) t537.length co14)) (ok := (fun k_ => some k_ ≠ (.slice (some ad536) t531.length co16 : Value).ownBlock ∧ some k_ ≠ (.slice (some ad547) y542.length co23 : Value).ownBlock ∧ k_ ≠ g)) (by (with_reducible repeat (first | apply Kd.V_alloc | apply Kd.V_drewN | apply Kd.V_drew)); exact Kd.V_mono HL536_0.out (fun _ hk => ⟨⟨hk.1.1.2, ⟨hk.2, hk.1.1.1⟩⟩, hk.1.2⟩)) hg (.inl rfl)); have n3 := Az (hp_); have n4 := Az (Kd.R_after (v := (.slice (some ⟨go14, 0, none⟩) t537.length co14)) (v1 := (.slice (some ⟨go14, 0, none⟩) t537.length co14)) (ok := (fun _ => True)) (rU HO544.out) hg (.inl rfl)); have n5 := Az ((by rw [hw]; exact below_set (HB.out) (Nat.le_trans HL.out GB14.out) : Below w0.heap.size w0 w25)); have n6 := Az (KeepBut.trans (by repeat (first | (with_reducible first | exact HK.out | apply KeepBut.set_ | apply keep_drewN | apply keep_drew | apply keep_alloc) | exact HK.out)) (KeepBut.of_grown hg g) (Kd.R_base2 HO539.out)); clear HI0 HO533 HL536_0 HO539 HO544 HB HK; have HI0 := n0; have HO533 := n1; have HL536_0 := n2; have HO539 := n3; have HO544 := n4; have HB := n5; have HK := n6; clear n0 n1 n2 n3 n4 n5 n6; clear hg hw hp_))
       go_ret
       exact ⟨_, rE, by (with_reducible repeat (first | apply Kd.R_alloc | apply Kd.R_drewN | apply Kd.R_drew)); exact Kd.R_mono HO539.out (fun _ hk => trivial), by repeat (first | (with_reducible first | exact HI0.out | apply IsS87.alloc | apply IsS87.drewN | apply IsS87.drew | apply IsS87.set_1) | exact HI0.out), by repeat (first | (with_reducible first | exact HB.out | apply below_alloc | apply pw_below_drewN | apply below_drew1 | refine below_set ?_ (IsS87.ge HI0.out)) | exact HB.out), by repeat (first | (with_reducible first | exact HK.out | apply KeepBut.set_ | apply keep_drewN | apply keep_drew | apply keep_alloc) | exact HK.out)⟩
      ·
       rw [if_neg c13] at H
       exact absurd H (by simp)
     ·
      rw [if_neg c12] at H
      exact absurd H (by simp)
    ·
     rw [if_neg c11] at H
     exact absurd H (by simp)
   ·
    rw [if_neg c9] at H; have c9b0 := beq_eq_false_iff_ne.mpr c9; have c9b1 := bne_iff_ne.mpr c9
    by_cases c26 : t540 = 1
    ·
     rw [if_pos c26] at H; have c26b0 := beq_iff_eq.mpr c26; have c26b1 := bne_eq_false_iff_eq.mpr c26; clear c26
     by_cases c27 : 0 < (t537.length : Int)
     ·
      rw [if_pos c27] at H; have c27b0 := decide_eq_true c27; have c27b1 : decide (0 < t537.length) = true := decide_eq_true (by omega); clear c27
      by_cases c28 : t537.length < 17592186044416
      ·
       rw [if_pos c28] at H; have LMc28 := Az c28; clear c28; obtain ⟨y550, hy550⟩ : ∃ y_ : List Int, y_ = (t537 ++ [wrap64 ((rd t537 0) + 1)]) := ⟨_, rfl⟩; replace H : (some (y550, t541)) = some (r1, r2) := hR hy550 H; have Ny550 := Az hy550; clear hy550; simp only [Option.some.injEq, Prod.mk.injEq] at H; obtain ⟨rfl, rfl⟩ := H
       go_enter Try.func142, Try.ntmps142
       go_wp2_with (first | ((with_reducible refine gate_callee (f := 158) rfl ?_); refine goesL_ (some 9) rfl rfl Try.func158 (by kernel_rfl) rfl #[.int .i64 a1, .int .i64 a1] rfl (by (try simp only [List.map_toArray, List.map_cons, List.map_nil]); first | done | rfl | (simp only [List.length_drop, List.length_take]; rfl)) ?_; (with_reducible refine (spec_l5All.calls k a1 a1 t531 _ A3.out).mono ?_); rintro e w29 ⟨v532, rfl, ho0, hb⟩; refine ⟨_, rfl, ?_⟩; have n0 := Az (Kd.N_lower (Kd.N_mono (ok' := fun k_ => k_ ≠ g) ho0 (fun k_ hk_ => (IsS87.fresh (by repeat (first | (with_reducible first | exact HI0.out | apply IsS87.alloc | apply IsS87.drewN | apply IsS87.drew | apply IsS87.set_1) | exact HI0.out)) k_ hk_))) (keep_size (w := w) (g := g) (row := none) (by repeat (first | (with_reducible first | exact HK.out | apply KeepBut.set_ | apply keep_drewN | apply keep_drew | apply keep_alloc) | exact HK.out)))); have n1 := Az (IsS87.below (by repeat (first | (with_reducible first | exact HI0.out | apply IsS87.alloc | apply IsS87.drewN | apply IsS87.drew | apply IsS87.set_1) | exact HI0.out)) hb); have n2 := Az (KeepBut.trans (by repeat (first | (with_reducible first | exact HK.out | apply KeepBut.set_ | apply keep_drewN | apply keep_drew | apply keep_alloc) | exact HK.out)) (KeepBut.of_below hb g none) (.inl rfl)); have n3 := Az (below_step (by repeat (first | (with_reducible first | exact HB.out | apply below_alloc | apply pw_below_drewN | apply below_drew1 | refine below_set ?_ (IsS87.ge HI0.out)) | exact HB.out)) hb); clear HI0 HK HB; have HO533 := n0; have HI0 := n1; have HK := n2; have HB := n3; clear n0 n1 n2 n3; (try clear hb); (try clear hb2); (try clear hk); (try clear hi); (try clear ho0); obtain ⟨Ao30, co30, eo30⟩ := Kd.N_slice HO533.out; subst eo30) | ((with_reducible refine gate_callee (f := 76) rfl ?_); refine goesL_ (some 14) rfl rfl Try.func76 (by kernel_rfl) rfl #[.pointer (some ⟨g, 0, none⟩), .int .i64 (t531.length : Int)] rfl (by (try simp only [List.map_toArray, List.map_cons, List.map_nil]); first | done | rfl | (simp only [List.length_drop, List.length_take]; rfl)) ?_; (with_reducible refine (spec_l6Rd_pick.calls k g s0_0 s0_1 (t531.length : Int) t534 t535 w0 _ ?side1 ?side2 A4.out).mono ?_); (case side1 => repeat (first | (with_reducible first | exact HI0.out | apply IsS87.alloc | apply IsS87.drewN | apply IsS87.drew | apply IsS87.set_1) | exact HI0.out)); (case side2 => repeat (first | (with_reducible first | exact HB.out | apply below_alloc | apply pw_below_drewN | apply below_drew1 | refine below_set ?_ (IsS87.ge HI0.out)) | exact HB.out)); rintro e w31 ⟨rfl, hi, hb, hk⟩; refine ⟨_, rfl, ?_⟩; have n0 := Az (Kd.N_mono (Kd.N_keep (Kd.N_mono (ok := fun k_ => k_ ≠ g) (nU HO533.out) (fun k_ hk_ => (⟨hk_, hk_⟩ : _ ∧ k_ ≠ g))) hk (fun _ h => h.2)) (fun _ h => h.1)); have n1 := Az (KeepBut.trans (by repeat (first | (with_reducible first | exact HK.out | apply KeepBut.set_ | apply keep_drewN | apply keep_drew | apply keep_alloc) | exact HK.out)) hk (.inl rfl)); have n2 := Az (hb); have n3 := Az (hi); clear HO533 HK HB HI0; have HO533 := n0; have HK := n1; have HB := n2; have HI0 := n3; clear n0 n1 n2 n3; (try clear hb); (try clear hb2); (try clear hk); (try clear hi); have p536 : 0 ≤ (t534 : Int) := oA; have q536 : t534 < (t531.length : Int) := oA; obtain ⟨ad536, A536_0, c536_0, e536, hx536_0, hl536_0, hi536_0⟩ := at_L1 (Kd.N_reads' HO533.out).2.2 t534 p536 q536; cases e536; obtain ⟨ce536, hce536, hMe536, hcc536⟩ := Kd.N_get HO533.out [] t534 p536 (by first | exact q536 | exact oA | (have e_ := (Kd.N_reads' HO533.out).1; omega)); obtain ⟨ua536_0, uc536_0, rfl, ul536_0, ge536_0⟩ := Kd.FK_slice_open hMe536; have hv536_0 := hcc536 0 _ rfl; rw [Nat.add_zero, show ((Kd.slice 3 (Kd.int .i64))).sz = 1 from rfl, Nat.mul_one] at hv536_0; replace hv536_0 := Option.some.inj (hv536_0.symm.trans hx536_0); injection hv536_0 with hva_ hvn_ hvc_; rw [hva_] at ge536_0; rw [hvc_] at ul536_0; have HL536_0 := Az (show Kd.V (Kd.int .i64) 3 _ w.heap.size _ _ (rd_L1 t531 t534) from Kd.V_mk ul536_0 ge536_0); clear hva_ hvn_ hvc_ ge536_0 ul536_0 hcc536 hce536; have HR536_0 := Az hi536_0; have HC536_0 := Az hl536_0; clear hi536_0 hl536_0; replace p536 := eq_true p536; replace q536 := eq_true q536) | ((with_reducible refine gate_callee (f := 62) rfl ?_); refine goesL_ (some 17) rfl rfl Try.func62 (by kernel_rfl) rfl #[.slice A536_0 (rd_L1 t531 t534).length c536_0] rfl (by (try simp only [List.map_toArray, List.map_cons, List.map_nil]); first | done | rfl | (simp only [List.length_drop, List.length_take]; rfl)) ?_; (with_reducible refine (spec_l2Copy.calls _ _ (rd_L1 t531 t534) t537 _ ?side1 ?side2 A7.out).mono ?_); (case side1 => exact cU (by repeat (first | (with_reducible exact HR536_0.out) | (with_reducible refine Kd.C_alloc ?_ _) | (with_reducible refine Kd.C_drewN ?_ _) | (with_reducible refine Kd.C_drew ?_) | exact HR536_0.out))); (case side2 => exact HC536_0.out); rintro e w32 ⟨v538, rfl, ho0, hb⟩; refine ⟨_, rfl, ?_⟩; have n0 := Az (Kd.N_elder' (nU HO533.out) (Kd.R_base ho0) hb); have n1 := Az (Kd.V_elder' (vU HL536_0.out) (Kd.R_base ho0) hb); have n2 := Az (Kd.R_lower ho0 (keep_size (w := w) (g := g) (row := none) (by repeat (first | (with_reducible first | exact HK.out | apply KeepBut.set_ | apply keep_drewN | apply keep_drew | apply keep_alloc) | exact HK.out)))); have n3 := Az (IsS87.below (by repeat (first | (with_reducible first | exact HI0.out | apply IsS87.alloc | apply IsS87.drewN | apply IsS87.drew | apply IsS87.set_1) | exact HI0.out)) hb); have n4 := Az (Kd.C_below (by repeat (first | (with_reducible exact HR536_0.out) | (with_reducible refine Kd.C_alloc ?_ _) | (with_reducible refine Kd.C_drewN ?_ _) | (with_reducible refine Kd.C_drew ?_) | exact HR536_0.out)) hb); have n5 := Az (KeepBut.trans (by repeat (first | (with_reducible first | exact HK.out | apply KeepBut.set_ | apply keep_drewN | apply keep_drew | apply keep_alloc) | exact HK.out)) (KeepBut.of_below hb g none) (.inl rfl)); have n6 := Az (below_step (by repeat (first | (with_reducible first | exact HB.out | apply below_alloc | apply pw_below_drewN | apply below_drew1 | refine below_set ?_ (IsS87.ge HI0.out)) | exact HB.out)) hb); clear HO533 HL536_0 HI0 HR536_0 HK HB; have HO533 := n0; have HL536_0 := n1; have HO539 := n2; have HI0 := n3; have HR536_0 := n4; have HK := n5; have HB := n6; clear n0 n1 n2 n3 n4 n5 n6; (try clear hb); (try clear hb2); (try clear hk); (try clear hi); (try clear ho0)) | ((with_reducible refine gate_callee (f := 76) rfl ?_); refine goesL_ (some 19) rfl rfl Try.func76 (by kernel_rfl) rfl #[.pointer (some ⟨g, 0, none⟩), .int .i64 40] rfl (by (try simp only [List.map_toArray, List.map_cons, List.map_nil]); first | done | rfl | (simp only [List.length_drop, List.length_take]; rfl)) ?_; (with_reducible refine (spec_l6Rd_pick.calls k g s0_0 t535 40 t540 t541 w0 _ ?side1 ?side2 A8.out).mono ?_); (case side1 => repeat (first | (with_reducible first | exact HI0.out | apply IsS87.alloc | apply IsS87.drewN | apply IsS87.drew | apply IsS87.set_1) | exact HI0.out)); (case side2 => repeat (first | (with_reducible first | exact HB.out | apply below_alloc | apply pw_below_drewN | apply below_drew1 | refine below_set ?_ (IsS87.ge HI0.out)) | exact HB.out)); rintro e w33 ⟨rfl, hi, hb, hk⟩; refine ⟨_, rfl, ?_⟩; have n0 := Az (Kd.N_mono (Kd.N_keep (Kd.N_mono (ok := fun k_ => (k_ ≠ g ∧ some k_ ≠ (v538 : Value).ownBlock)) (nU HO533.out) (fun k_ hk_ => (⟨hk_, hk_.1⟩ : _ ∧ k_ ≠ g))) hk (fun _ h => h.2)) (fun _ h => h.1)); have n1 := Az (Kd.V_mono (Kd.V_keep (Kd.V_mono (ok := fun k_ => ((k_ ≠ g ∧ some k_ ≠ (.slice (some ad536) t531.length co30 : Value).ownBlock) ∧ some k_ ≠ (v538 : Value).ownBlock)) (vU HL536_0.out) (fun k_ hk_ => (⟨hk_, hk_.1.1⟩ : _ ∧ k_ ≠ g))) hk (fun _ h => h.2)) (fun _ h => h.1)); have n2 := Az (Kd.R_mono (Kd.R_keep (IsS87.apart (show IsS87 w0 _ g s0_0 t535 from by repeat (first | (with_reducible first | exact HI0.out | apply IsS87.alloc | apply IsS87.drewN | apply IsS87.drew | apply IsS87.set_1) | exact HI0.out)) (rU HO539.out) (by decide)) hk (fun _ h => h.2)) (fun _ h => h.1)); have n3 := Az (KeepBut.trans (by repeat (first | (with_reducible first | exact HK.out | apply KeepBut.set_ | apply keep_drewN | apply keep_drew | apply keep_alloc) | exact HK.out)) hk (.inl rfl)); have n4 := Az (hb); have n5 := Az (hi); clear HO533 HL536_0 HO539 HK HB HI0; have HO533 := n0; have HL536_0 := n1; have HO539 := n2; have HK := n3; have HB := n4; have HI0 := n5; clear n0 n1 n2 n3 n4 n5; (try clear hb); (try clear hb2); (try clear hk); (try clear hi); obtain ⟨Ao34, co34, eo34⟩ := Kd.R_slice HO539.out; subst eo34; have p549 : 0 ≤ (0 : Int) := (by omega); have q549 : 0 < (t537.length : Int) := oA; obtain ⟨ad549, e549, hx549_0⟩ := Kd.at_int (Kd.R_reads' HO539.out).2.2 0 p549 q549; cases e549; have qi549 : (0 < t537.length) = True := eq_true (by omega); (try rw [show ((0 : Int)).toNat = 0 from rfl] at hx549_0); (try rw [Addr.add_zero'] at hx549_0); replace p549 := eq_true p549; replace q549 := eq_true q549) | ((with_reducible refine gate_builtin (b := .append) (xs := #[.tmp 31, .tmp 36]) rfl ?_); at_builtin; refine Kd.R_append (Kd.int .i64) w.heap.size rfl (.tmp 31) (.tmp 36) 23 3 (.int .i64 0) 8 rfl Try.underlying23 info3 rfl (by decide) (by omega) (.slice (some ad549) t537.length co34) t537 (wrap64 ((rd t537 0) + 1)) [.int .i64 (wrap64 ((rd t537 0) + 1))] (fun _ => True) (fun _ => False) rfl rfl ?aP (fun _ hk => hk.elim) ?aF ?aO (Below.refl _ _) ?aS ?aL ?_; (case aP => exact rfl); (case aF => exact (fun _ _ => trivial)); (case aO => exact (rU HO539.out)); (case aS => exact (keep_size (w := w) (g := g) (row := none) (by repeat (first | (with_reducible first | exact HK.out | apply KeepBut.set_ | apply keep_drewN | apply keep_drew | apply keep_alloc) | exact HK.out)))); (case aL => have := LMc28.out; omega); intro v551 w35 ho hb hg hat; rw [← Ny550.out] at ho; have n0 := Az (IsS87.grown (by repeat (first | (with_reducible first | exact HI0.out | apply IsS87.alloc | apply IsS87.drewN | apply IsS87.drew | apply IsS87.set_1) | exact HI0.out)) hg (IsS87.own_ne HI0.out HO539.out (by decide))); have n1 := Az (Kd.N_afterv (ok := (fun k_ => k_ ≠ g)) (nU HO533.out) hg hat); have n2 := Az (Kd.V_afterv (ok := (fun k_ => some k_ ≠ (.slice (some ad536) t531.length co30 : Value).ownBlock ∧ k_ ≠ g)) (by (with_reducible repeat (first | apply Kd.V_alloc | apply Kd.V_drewN | apply Kd.V_drew)); exact Kd.V_mono HL536_0.out (fun _ hk => ⟨⟨hk.1.2, hk.1.1⟩, hk.2⟩)) hg hat); have n3 := Az (below_weaken (by repeat (first | (with_reducible first | exact HB.out | apply below_alloc | apply pw_below_drewN | apply below_drew1 | refine below_set ?_ (IsS87.ge HI0.out)) | exact HB.out)) HL.out hb); have n4 := Az (KeepBut.trans (by repeat (first | (with_reducible first | exact HK.out | apply KeepBut.set_ | apply keep_drewN | apply keep_drew | apply keep_alloc) | exact HK.out)) (KeepBut.of_grown hg g) (Kd.R_base2 HO539.out)); have n5 := Az (ho); clear HI0 HO533 HL536_0 HB HK HO539; have HI0 := n0; have HO533 := n1; have HL536_0 := n2; have HB := n3; have HK := n4; have HO552 := n5; clear n0 n1 n2 n3 n4 n5; clear ho hb hg hat))
       go_ret
       exact ⟨_, rE, rU HO552.out, by repeat (first | (with_reducible first | exact HI0.out | apply IsS87.alloc | apply IsS87.drewN | apply IsS87.drew | apply IsS87.set_1) | exact HI0.out), by repeat (first | (with_reducible first | exact HB.out | apply below_alloc | apply pw_below_drewN | apply below_drew1 | refine below_set ?_ (IsS87.ge HI0.out)) | exact HB.out), by repeat (first | (with_reducible first | exact HK.out | apply KeepBut.set_ | apply keep_drewN | apply keep_drew | apply keep_alloc) | exact HK.out)⟩
      ·
       rw [if_neg c28] at H
       exact absurd H (by simp)
     ·
      rw [if_neg c27] at H
      exact absurd H (by simp)
    ·
     rw [if_neg c26] at H; have c26b0 := beq_eq_false_iff_ne.mpr c26; have c26b1 := bne_iff_ne.mpr c26
     by_cases c36 : t540 = 2
     ·
      rw [if_pos c36] at H; have c36b0 := beq_iff_eq.mpr c36; have c36b1 := bne_eq_false_iff_eq.mpr c36; clear c36; obtain ⟨y553, hy553⟩ : ∃ y_ : List Int, y_ = (([] : List Int)) := ⟨_, rfl⟩; replace H : (some (y553, t541)) = some (r1, r2) := hR hy553 H; have Ny553 := Az hy553; clear hy553; simp only [Option.some.injEq, Prod.mk.injEq] at H; obtain ⟨rfl, rfl⟩ := H
      go_enter Try.func142, Try.ntmps142
      go_wp2_with (first | ((with_reducible refine gate_callee (f := 158) rfl ?_); refine goesL_ (some 9) rfl rfl Try.func158 (by kernel_rfl) rfl #[.int .i64 a1, .int .i64 a1] rfl (by (try simp only [List.map_toArray, List.map_cons, List.map_nil]); first | done | rfl | (simp only [List.length_drop, List.length_take]; rfl)) ?_; (with_reducible refine (spec_l5All.calls k a1 a1 t531 _ A3.out).mono ?_); rintro e w37 ⟨v532, rfl, ho0, hb⟩; refine ⟨_, rfl, ?_⟩; have n0 := Az (Kd.N_lower (Kd.N_mono (ok' := fun k_ => k_ ≠ g) ho0 (fun k_ hk_ => (IsS87.fresh (by repeat (first | (with_reducible first | exact HI0.out | apply IsS87.alloc | apply IsS87.drewN | apply IsS87.drew | apply IsS87.set_1) | exact HI0.out)) k_ hk_))) (keep_size (w := w) (g := g) (row := none) (by repeat (first | (with_reducible first | exact HK.out | apply KeepBut.set_ | apply keep_drewN | apply keep_drew | apply keep_alloc) | exact HK.out)))); have n1 := Az (IsS87.below (by repeat (first | (with_reducible first | exact HI0.out | apply IsS87.alloc | apply IsS87.drewN | apply IsS87.drew | apply IsS87.set_1) | exact HI0.out)) hb); have n2 := Az (KeepBut.trans (by repeat (first | (with_reducible first | exact HK.out | apply KeepBut.set_ | apply keep_drewN | apply keep_drew | apply keep_alloc) | exact HK.out)) (KeepBut.of_below hb g none) (.inl rfl)); have n3 := Az (below_step (by repeat (first | (with_reducible first | exact HB.out | apply below_alloc | apply pw_below_drewN | apply below_drew1 | refine below_set ?_ (IsS87.ge HI0.out)) | exact HB.out)) hb); clear HI0 HK HB; have HO533 := n0; have HI0 := n1; have HK := n2; have HB := n3; clear n0 n1 n2 n3; (try clear hb); (try clear hb2); (try clear hk); (try clear hi); (try clear ho0); obtain ⟨Ao38, co38, eo38⟩ := Kd.N_slice HO533.out; subst eo38) | ((with_reducible refine gate_callee (f := 76) rfl ?_); refine goesL_ (some 14) rfl rfl Try.func76 (by kernel_rfl) rfl #[.pointer (some ⟨g, 0, none⟩), .int .i64 (t531.length : Int)] rfl (by (try simp only [List.map_toArray, List.map_cons, List.map_nil]); first | done | rfl | (simp only [List.length_drop, List.length_take]; rfl)) ?_; (with_reducible refine (spec_l6Rd_pick.calls k g s0_0 s0_1 (t531.length : Int) t534 t535 w0 _ ?side1 ?side2 A4.out).mono ?_); (case side1 => repeat (first | (with_reducible first | exact HI0.out | apply IsS87.alloc | apply IsS87.drewN | apply IsS87.drew | apply IsS87.set_1) | exact HI0.out)); (case side2 => repeat (first | (with_reducible first | exact HB.out | apply below_alloc | apply pw_below_drewN | apply below_drew1 | refine below_set ?_ (IsS87.ge HI0.out)) | exact HB.out)); rintro e w39 ⟨rfl, hi, hb, hk⟩; refine ⟨_, rfl, ?_⟩; have n0 := Az (Kd.N_mono (Kd.N_keep (Kd.N_mono (ok := fun k_ => k_ ≠ g) (nU HO533.out) (fun k_ hk_ => (⟨hk_, hk_⟩ : _ ∧ k_ ≠ g))) hk (fun _ h => h.2)) (fun _ h => h.1)); have n1 := Az (KeepBut.trans (by repeat (first | (with_reducible first | exact HK.out | apply KeepBut.set_ | apply keep_drewN | apply keep_drew | apply keep_alloc) | exact HK.out)) hk (.inl rfl)); have n2 := Az (hb); have n3 := Az (hi); clear HO533 HK HB HI0; have HO533 := n0; have HK := n1; have HB := n2; have HI0 := n3; clear n0 n1 n2 n3; (try clear hb); (try clear hb2); (try clear hk); (try clear hi); have p536 : 0 ≤ (t534 : Int) := oA; have q536 : t534 < (t531.length : Int) := oA; obtain ⟨ad536, A536_0, c536_0, e536, hx536_0, hl536_0, hi536_0⟩ := at_L1 (Kd.N_reads' HO533.out).2.2 t534 p536 q536; cases e536; obtain ⟨ce536, hce536, hMe536, hcc536⟩ := Kd.N_get HO533.out [] t534 p536 (by first | exact q536 | exact oA | (have e_ := (Kd.N_reads' HO533.out).1; omega)); obtain ⟨ua536_0, uc536_0, rfl, ul536_0, ge536_0⟩ := Kd.FK_slice_open hMe536; have hv536_0 := hcc536 0 _ rfl; rw [Nat.add_zero, show ((Kd.slice 3 (Kd.int .i64))).sz = 1 from rfl, Nat.mul_one] at hv536_0; replace hv536_0 := Option.some.inj (hv536_0.symm.trans hx536_0); injection hv536_0 with hva_ hvn_ hvc_; rw [hva_] at ge536_0; rw [hvc_] at ul536_0; have HL536_0 := Az (show Kd.V (Kd.int .i64) 3 _ w.heap.size _ _ (rd_L1 t531 t534) from Kd.V_mk ul536_0 ge536_0); clear hva_ hvn_ hvc_ ge536_0 ul536_0 hcc536 hce536; have HR536_0 := Az hi536_0; have HC536_0 := Az hl536_0; clear hi536_0 hl536_0; replace p536 := eq_true p536; replace q536 := eq_true q536) | ((with_reducible refine gate_callee (f := 62) rfl ?_); refine goesL_ (some 17) rfl rfl Try.func62 (by kernel_rfl) rfl #[.slice A536_0 (rd_L1 t531 t534).length c536_0] rfl (by (try simp only [List.map_toArray, List.map_cons, List.map_nil]); first | done | rfl | (simp only [List.length_drop, List.length_take]; rfl)) ?_; (with_reducible refine (spec_l2Copy.calls _ _ (rd_L1 t531 t534) t537 _ ?side1 ?side2 A7.out).mono ?_); (case side1 => exact cU (by repeat (first | (with_reducible exact HR536_0.out) | (with_reducible refine Kd.C_alloc ?_ _) | (with_reducible refine Kd.C_drewN ?_ _) | (with_reducible refine Kd.C_drew ?_) | exact HR536_0.out))); (case side2 => exact HC536_0.out); rintro e w40 ⟨v538, rfl, ho0, hb⟩; refine ⟨_, rfl, ?_⟩; have n0 := Az (Kd.N_elder' (nU HO533.out) (Kd.R_base ho0) hb); have n1 := Az (Kd.V_elder' (vU HL536_0.out) (Kd.R_base ho0) hb); have n2 := Az (Kd.R_lower ho0 (keep_size (w := w) (g := g) (row := none) (by repeat (first | (with_reducible first | exact HK.out | apply KeepBut.set_ | apply keep_drewN | apply keep_drew | apply keep_alloc) | exact HK.out)))); have n3 := Az (IsS87.below (by repeat (first | (with_reducible first | exact HI0.out | apply IsS87.alloc | apply IsS87.drewN | apply IsS87.drew | apply IsS87.set_1) | exact HI0.out)) hb); have n4 := Az (Kd.C_below (by repeat (first | (with_reducible exact HR536_0.out) | (with_reducible refine Kd.C_alloc ?_ _) | (with_reducible refine Kd.C_drewN ?_ _) | (with_reducible refine Kd.C_drew ?_) | exact HR536_0.out)) hb); have n5 := Az (KeepBut.trans (by repeat (first | (with_reducible first | exact HK.out | apply KeepBut.set_ | apply keep_drewN | apply keep_drew | apply keep_alloc) | exact HK.out)) (KeepBut.of_below hb g none) (.inl rfl)); have n6 := Az (below_step (by repeat (first | (with_reducible first | exact HB.out | apply below_alloc | apply pw_below_drewN | apply below_drew1 | refine below_set ?_ (IsS87.ge HI0.out)) | exact HB.out)) hb); clear HO533 HL536_0 HI0 HR536_0 HK HB; have HO533 := n0; have HL536_0 := n1; have HO539 := n2; have HI0 := n3; have HR536_0 := n4; have HK := n5; have HB := n6; clear n0 n1 n2 n3 n4 n5 n6; (try clear hb); (try clear hb2); (try clear hk); (try clear hi); (try clear ho0)) | ((with_reducible refine gate_callee (f := 76) rfl ?_); refine goesL_ (some 19) rfl rfl Try.func76 (by kernel_rfl) rfl #[.pointer (some ⟨g, 0, none⟩), .int .i64 40] rfl (by (try simp only [List.map_toArray, List.map_cons, List.map_nil]); first | done | rfl | (simp only [List.length_drop, List.length_take]; rfl)) ?_; (with_reducible refine (spec_l6Rd_pick.calls k g s0_0 t535 40 t540 t541 w0 _ ?side1 ?side2 A8.out).mono ?_); (case side1 => repeat (first | (with_reducible first | exact HI0.out | apply IsS87.alloc | apply IsS87.drewN | apply IsS87.drew | apply IsS87.set_1) | exact HI0.out)); (case side2 => repeat (first | (with_reducible first | exact HB.out | apply below_alloc | apply pw_below_drewN | apply below_drew1 | refine below_set ?_ (IsS87.ge HI0.out)) | exact HB.out)); rintro e w41 ⟨rfl, hi, hb, hk⟩; refine ⟨_, rfl, ?_⟩; have n0 := Az (Kd.N_mono (Kd.N_keep (Kd.N_mono (ok := fun k_ => (k_ ≠ g ∧ some k_ ≠ (v538 : Value).ownBlock)) (nU HO533.out) (fun k_ hk_ => (⟨hk_, hk_.1⟩ : _ ∧ k_ ≠ g))) hk (fun _ h => h.2)) (fun _ h => h.1)); have n1 := Az (Kd.V_mono (Kd.V_keep (Kd.V_mono (ok := fun k_ => ((k_ ≠ g ∧ some k_ ≠ (.slice (some ad536) t531.length co38 : Value).ownBlock) ∧ some k_ ≠ (v538 : Value).ownBlock)) (vU HL536_0.out) (fun k_ hk_ => (⟨hk_, hk_.1.1⟩ : _ ∧ k_ ≠ g))) hk (fun _ h => h.2)) (fun _ h => h.1)); have n2 := Az (Kd.R_mono (Kd.R_keep (IsS87.apart (show IsS87 w0 _ g s0_0 t535 from by repeat (first | (with_reducible first | exact HI0.out | apply IsS87.alloc | apply IsS87.drewN | apply IsS87.drew | apply IsS87.set_1) | exact HI0.out)) (rU HO539.out) (by decide)) hk (fun _ h => h.2)) (fun _ h => h.1)); have n3 := Az (KeepBut.trans (by repeat (first | (with_reducible first | exact HK.out | apply KeepBut.set_ | apply keep_drewN | apply keep_drew | apply keep_alloc) | exact HK.out)) hk (.inl rfl)); have n4 := Az (hb); have n5 := Az (hi); clear HO533 HL536_0 HO539 HK HB HI0; have HO533 := n0; have HL536_0 := n1; have HO539 := n2; have HK := n3; have HB := n4; have HI0 := n5; clear n0 n1 n2 n3 n4 n5; (try clear hb); (try clear hb2); (try clear hk); (try clear hi)) | ((with_reducible refine gate_dst (N := 40) rfl ?_); refine Kd.R_lit (Kd.int .i64) _ 3 ?hg (N := 40) ?hd (xs := ([] : List Int)) (inner := []) (ok := fun _ => True) (okp := fun _ => True) ?hr ?hp (fun _ hk => hk) trivial (Below.refl _ _) (Nat.le_refl _) (by simp) ?_; (case hd => rfl); (case hg => rfl); (case hr => first | (go_simp; done) | (go_simp; rfl)); (case hp => exact (Reps.none _ _)); intro v554 w42 ho43 hb hg_ hnew_; clear hg_ hnew_; (first | rw [← Ny553.out] at ho43 | (simp only [Int.reduceToNat] at ho43; rw [← Ny553.out] at ho43)); have n0 := Az (Kd.N_elder' (nU HO533.out) (Kd.R_base ho43) hb); have n1 := Az (Kd.V_elder' (vU HL536_0.out) (Kd.R_base ho43) hb); have n2 := Az (Kd.R_elder' (rU HO539.out) (Kd.R_base ho43) hb); have n3 := Az (Kd.R_lower (Kd.R_new' ho43 (Kd.R_lt (rU HO539.out))) (keep_size (w := w) (g := g) (row := none) (by repeat (first | (with_reducible first | exact HK.out | apply KeepBut.set_ | apply keep_drewN | apply keep_drew | apply keep_alloc) | exact HK.out)))); have n4 := Az (IsS87.below (by repeat (first | (with_reducible first | exact HI0.out | apply IsS87.alloc | apply IsS87.drewN | apply IsS87.drew | apply IsS87.set_1) | exact HI0.out)) hb); have n5 := Az (KeepBut.trans (by repeat (first | (with_reducible first | exact HK.out | apply KeepBut.set_ | apply keep_drewN | apply keep_drew | apply keep_alloc) | exact HK.out)) (KeepBut.of_below hb g none) (.inl rfl)); have n6 := Az (below_step (by repeat (first | (with_reducible first | exact HB.out | apply below_alloc | apply pw_below_drewN | apply below_drew1 | refine below_set ?_ (IsS87.ge HI0.out)) | exact HB.out)) hb); clear HO533 HL536_0 HO539 HI0 HK HB; have HO533 := n0; have HL536_0 := n1; have HO539 := n2; have HO555 := n3; have HI0 := n4; have HK := n5; have HB := n6; clear n0 n1 n2 n3 n4 n5 n6; clear hb ho43))
      go_ret
      exact ⟨_, rE, by (with_reducible repeat (first | apply Kd.R_alloc | apply Kd.R_drewN | apply Kd.R_drew)); exact Kd.R_mono HO555.out (fun _ hk => trivial), by repeat (first | (with_reducible first | exact HI0.out | apply IsS87.alloc | apply IsS87.drewN | apply IsS87.drew | apply IsS87.set_1) | exact HI0.out), by repeat (first | (with_reducible first | exact HB.out | apply below_alloc | apply pw_below_drewN | apply below_drew1 | refine below_set ?_ (IsS87.ge HI0.out)) | exact HB.out), by repeat (first | (with_reducible first | exact HK.out | apply KeepBut.set_ | apply keep_drewN | apply keep_drew | apply keep_alloc) | exact HK.out)⟩
     ·
      rw [if_neg c36] at H; have c36b0 := beq_eq_false_iff_ne.mpr c36; have c36b1 := bne_iff_ne.mpr c36; simp only [Option.some.injEq, Prod.mk.injEq] at H; obtain ⟨rfl, rfl⟩ := H
      go_enter Try.func142, Try.ntmps142
      go_wp2_with (first | ((with_reducible refine gate_callee (f := 158) rfl ?_); refine goesL_ (some 9) rfl rfl Try.func158 (by kernel_rfl) rfl #[.int .i64 a1, .int .i64 a1] rfl (by (try simp only [List.map_toArray, List.map_cons, List.map_nil]); first | done | rfl | (simp only [List.length_drop, List.length_take]; rfl)) ?_; (with_reducible refine (spec_l5All.calls k a1 a1 t531 _ A3.out).mono ?_); rintro e w44 ⟨v532, rfl, ho0, hb⟩; refine ⟨_, rfl, ?_⟩; have n0 := Az (Kd.N_lower (Kd.N_mono (ok' := fun k_ => k_ ≠ g) ho0 (fun k_ hk_ => (IsS87.fresh (by repeat (first | (with_reducible first | exact HI0.out | apply IsS87.alloc | apply IsS87.drewN | apply IsS87.drew | apply IsS87.set_1) | exact HI0.out)) k_ hk_))) (keep_size (w := w) (g := g) (row := none) (by repeat (first | (with_reducible first | exact HK.out | apply KeepBut.set_ | apply keep_drewN | apply keep_drew | apply keep_alloc) | exact HK.out)))); have n1 := Az (IsS87.below (by repeat (first | (with_reducible first | exact HI0.out | apply IsS87.alloc | apply IsS87.drewN | apply IsS87.drew | apply IsS87.set_1) | exact HI0.out)) hb); have n2 := Az (KeepBut.trans (by repeat (first | (with_reducible first | exact HK.out | apply KeepBut.set_ | apply keep_drewN | apply keep_drew | apply keep_alloc) | exact HK.out)) (KeepBut.of_below hb g none) (.inl rfl)); have n3 := Az (below_step (by repeat (first | (with_reducible first | exact HB.out | apply below_alloc | apply pw_below_drewN | apply below_drew1 | refine below_set ?_ (IsS87.ge HI0.out)) | exact HB.out)) hb); clear HI0 HK HB; have HO533 := n0; have HI0 := n1; have HK := n2; have HB := n3; clear n0 n1 n2 n3; (try clear hb); (try clear hb2); (try clear hk); (try clear hi); (try clear ho0); obtain ⟨Ao45, co45, eo45⟩ := Kd.N_slice HO533.out; subst eo45) | ((with_reducible refine gate_callee (f := 76) rfl ?_); refine goesL_ (some 14) rfl rfl Try.func76 (by kernel_rfl) rfl #[.pointer (some ⟨g, 0, none⟩), .int .i64 (t531.length : Int)] rfl (by (try simp only [List.map_toArray, List.map_cons, List.map_nil]); first | done | rfl | (simp only [List.length_drop, List.length_take]; rfl)) ?_; (with_reducible refine (spec_l6Rd_pick.calls k g s0_0 s0_1 (t531.length : Int) t534 t535 w0 _ ?side1 ?side2 A4.out).mono ?_); (case side1 => repeat (first | (with_reducible first | exact HI0.out | apply IsS87.alloc | apply IsS87.drewN | apply IsS87.drew | apply IsS87.set_1) | exact HI0.out)); (case side2 => repeat (first | (with_reducible first | exact HB.out | apply below_alloc | apply pw_below_drewN | apply below_drew1 | refine below_set ?_ (IsS87.ge HI0.out)) | exact HB.out)); rintro e w46 ⟨rfl, hi, hb, hk⟩; refine ⟨_, rfl, ?_⟩; have n0 := Az (Kd.N_mono (Kd.N_keep (Kd.N_mono (ok := fun k_ => k_ ≠ g) (nU HO533.out) (fun k_ hk_ => (⟨hk_, hk_⟩ : _ ∧ k_ ≠ g))) hk (fun _ h => h.2)) (fun _ h => h.1)); have n1 := Az (KeepBut.trans (by repeat (first | (with_reducible first | exact HK.out | apply KeepBut.set_ | apply keep_drewN | apply keep_drew | apply keep_alloc) | exact HK.out)) hk (.inl rfl)); have n2 := Az (hb); have n3 := Az (hi); clear HO533 HK HB HI0; have HO533 := n0; have HK := n1; have HB := n2; have HI0 := n3; clear n0 n1 n2 n3; (try clear hb); (try clear hb2); (try clear hk); (try clear hi); have p536 : 0 ≤ (t534 : Int) := oA; have q536 : t534 < (t531.length : Int) := oA; obtain ⟨ad536, A536_0, c536_0, e536, hx536_0, hl536_0, hi536_0⟩ := at_L1 (Kd.N_reads' HO533.out).2.2 t534 p536 q536; cases e536; obtain ⟨ce536, hce536, hMe536, hcc536⟩ := Kd.N_get HO533.out [] t534 p536 (by first | exact q536 | exact oA | (have e_ := (Kd.N_reads' HO533.out).1; omega)); obtain ⟨ua536_0, uc536_0, rfl, ul536_0, ge536_0⟩ := Kd.FK_slice_open hMe536; have hv536_0 := hcc536 0 _ rfl; rw [Nat.add_zero, show ((Kd.slice 3 (Kd.int .i64))).sz = 1 from rfl, Nat.mul_one] at hv536_0; replace hv536_0 := Option.some.inj (hv536_0.symm.trans hx536_0); injection hv536_0 with hva_ hvn_ hvc_; rw [hva_] at ge536_0; rw [hvc_] at ul536_0; have HL536_0 := Az (show Kd.V (Kd.int .i64) 3 _ w.heap.size _ _ (rd_L1 t531 t534) from Kd.V_mk ul536_0 ge536_0); clear hva_ hvn_ hvc_ ge536_0 ul536_0 hcc536 hce536; have HR536_0 := Az hi536_0; have HC536_0 := Az hl536_0; clear hi536_0 hl536_0; replace p536 := eq_true p536; replace q536 := eq_true q536) | ((with_reducible refine gate_callee (f := 62) rfl ?_); refine goesL_ (some 17) rfl rfl Try.func62 (by kernel_rfl) rfl #[.slice A536_0 (rd_L1 t531 t534).length c536_0] rfl (by (try simp only [List.map_toArray, List.map_cons, List.map_nil]); first | done | rfl | (simp only [List.length_drop, List.length_take]; rfl)) ?_; (with_reducible refine (spec_l2Copy.calls _ _ (rd_L1 t531 t534) t537 _ ?side1 ?side2 A7.out).mono ?_); (case side1 => exact cU (by repeat (first | (with_reducible exact HR536_0.out) | (with_reducible refine Kd.C_alloc ?_ _) | (with_reducible refine Kd.C_drewN ?_ _) | (with_reducible refine Kd.C_drew ?_) | exact HR536_0.out))); (case side2 => exact HC536_0.out); rintro e w47 ⟨v538, rfl, ho0, hb⟩; refine ⟨_, rfl, ?_⟩; have n0 := Az (Kd.N_elder' (nU HO533.out) (Kd.R_base ho0) hb); have n1 := Az (Kd.V_elder' (vU HL536_0.out) (Kd.R_base ho0) hb); have n2 := Az (Kd.R_lower ho0 (keep_size (w := w) (g := g) (row := none) (by repeat (first | (with_reducible first | exact HK.out | apply KeepBut.set_ | apply keep_drewN | apply keep_drew | apply keep_alloc) | exact HK.out)))); have n3 := Az (IsS87.below (by repeat (first | (with_reducible first | exact HI0.out | apply IsS87.alloc | apply IsS87.drewN | apply IsS87.drew | apply IsS87.set_1) | exact HI0.out)) hb); have n4 := Az (Kd.C_below (by repeat (first | (with_reducible exact HR536_0.out) | (with_reducible refine Kd.C_alloc ?_ _) | (with_reducible refine Kd.C_drewN ?_ _) | (with_reducible refine Kd.C_drew ?_) | exact HR536_0.out)) hb); have n5 := Az (KeepBut.trans (by repeat (first | (with_reducible first | exact HK.out | apply KeepBut.set_ | apply keep_drewN | apply keep_drew | apply keep_alloc) | exact HK.out)) (KeepBut.of_below hb g none) (.inl rfl)); have n6 := Az (below_step (by repeat (first | (with_reducible first | exact HB.out | apply below_alloc | apply pw_below_drewN | apply below_drew1 | refine below_set ?_ (IsS87.ge HI0.out)) | exact HB.out)) hb); clear HO533 HL536_0 HI0 HR536_0 HK HB; have HO533 := n0; have HL536_0 := n1; have HO539 := n2; have HI0 := n3; have HR536_0 := n4; have HK := n5; have HB := n6; clear n0 n1 n2 n3 n4 n5 n6; (try clear hb); (try clear hb2); (try clear hk); (try clear hi); (try clear ho0)) | ((with_reducible refine gate_callee (f := 76) rfl ?_); refine goesL_ (some 19) rfl rfl Try.func76 (by kernel_rfl) rfl #[.pointer (some ⟨g, 0, none⟩), .int .i64 40] rfl (by (try simp only [List.map_toArray, List.map_cons, List.map_nil]); first | done | rfl | (simp only [List.length_drop, List.length_take]; rfl)) ?_; (with_reducible refine (spec_l6Rd_pick.calls k g s0_0 t535 40 t540 t541 w0 _ ?side1 ?side2 A8.out).mono ?_); (case side1 => repeat (first | (with_reducible first | exact HI0.out | apply IsS87.alloc | apply IsS87.drewN | apply IsS87.drew | apply IsS87.set_1) | exact HI0.out)); (case side2 => repeat (first | (with_reducible first | exact HB.out | apply below_alloc | apply pw_below_drewN | apply below_drew1 | refine below_set ?_ (IsS87.ge HI0.out)) | exact HB.out)); rintro e w48 ⟨rfl, hi, hb, hk⟩; refine ⟨_, rfl, ?_⟩; have n0 := Az (Kd.N_mono (Kd.N_keep (Kd.N_mono (ok := fun k_ => (k_ ≠ g ∧ some k_ ≠ (v538 : Value).ownBlock)) (nU HO533.out) (fun k_ hk_ => (⟨hk_, hk_.1⟩ : _ ∧ k_ ≠ g))) hk (fun _ h => h.2)) (fun _ h => h.1)); have n1 := Az (Kd.V_mono (Kd.V_keep (Kd.V_mono (ok := fun k_ => ((k_ ≠ g ∧ some k_ ≠ (.slice (some ad536) t531.length co45 : Value).ownBlock) ∧ some k_ ≠ (v538 : Value).ownBlock)) (vU HL536_0.out) (fun k_ hk_ => (⟨hk_, hk_.1.1⟩ : _ ∧ k_ ≠ g))) hk (fun _ h => h.2)) (fun _ h => h.1)); have n2 := Az (Kd.R_mono (Kd.R_keep (IsS87.apart (show IsS87 w0 _ g s0_0 t535 from by repeat (first | (with_reducible first | exact HI0.out | apply IsS87.alloc | apply IsS87.drewN | apply IsS87.drew | apply IsS87.set_1) | exact HI0.out)) (rU HO539.out) (by decide)) hk (fun _ h => h.2)) (fun _ h => h.1)); have n3 := Az (KeepBut.trans (by repeat (first | (with_reducible first | exact HK.out | apply KeepBut.set_ | apply keep_drewN | apply keep_drew | apply keep_alloc) | exact HK.out)) hk (.inl rfl)); have n4 := Az (hb); have n5 := Az (hi); clear HO533 HL536_0 HO539 HK HB HI0; have HO533 := n0; have HL536_0 := n1; have HO539 := n2; have HK := n3; have HB := n4; have HI0 := n5; clear n0 n1 n2 n3 n4 n5; (try clear hb); (try clear hb2); (try clear hk); (try clear hi)))
      go_ret
      exact ⟨_, rE, rU HO539.out, by repeat (first | (with_reducible first | exact HI0.out | apply IsS87.alloc | apply IsS87.drewN | apply IsS87.drew | apply IsS87.set_1) | exact HI0.out), by repeat (first | (with_reducible first | exact HB.out | apply below_alloc | apply pw_below_drewN | apply below_drew1 | refine below_set ?_ (IsS87.ge HI0.out)) | exact HB.out), by repeat (first | (with_reducible first | exact HK.out | apply KeepBut.set_ | apply keep_drewN | apply keep_drew | apply keep_alloc) | exact HK.out)⟩
  ·
   rw [if_neg c6] at H
   exact absurd H (by simp)
 ·
  rw [if_neg c5] at H
  exact absurd H (by simp)
def spec_l91Types.l0 : Nat → Int → List (List Int) → Int → Int → List Int → Int → Option ((List (List Int)) × Int)
 | 0, _, _, _, _, _, _ => none
 | k + 1, x7, x8, x9, x10, x1000, x1001 => if x10 < x9 then ((spec_l91Parts.f k x1000 x1001 x7).bind fun bt563 => (if x8.length < 5864062014805 then (spec_l91Types.l0 k x7 (x8 ++ [bt563.1]) x9 (wrap64 (x10 + 1)) x1000 bt563.2) else (none))) else ((spec_l6Rd_pick.f k x1000 x1001 30).bind fun bt570 => (if bt570.1 = 0 then (some ((([] : List (List Int))), bt570.2)) else (if bt570.1 = 1 then ((spec_l6Rd_pick.f k x1000 bt570.2 4).bind fun bt575 => ((spec_l91Parts.f k x1000 bt575.2 (wrap64 (1 + bt575.1))).bind fun bt577 => (if x8.length < 5864062014805 then (some ((x8 ++ [bt577.1]), bt577.2)) else (none)))) else (some (x8, bt570.2)))))
def spec_l91Types.f (k : Nat) (s0_0 : List Int) (s0_1 : Int) (a1 : Int) (a2 : Int) : Option ((List (List Int)) × Int) := (spec_l6Rd_pick.f k s0_0 s0_1 a1).bind fun bt556 => ((spec_l6Rd_pick.f k s0_0 bt556.2 a2).bind fun bt561 => (spec_l91Types.l0 k (wrap64 (1 + bt556.1)) (([] : List (List Int))) (wrap64 (1 + bt561.1)) 0 s0_0 bt561.2))
set_option maxHeartbeats 8000000 in
set_option maxRecDepth 100000 in
theorem spec_l91Types.calls (k : Nat) (g : Nat) (s0_0 : List Int) (s0_1 : Int) (a1 : Int) (a2 : Int) (r1 : List (List Int)) (r2 : Int) (w0 w : World) (hI : IsS87 w0 w g s0_0 s0_1) (hB : Below w0.heap.size w0 w) (h : spec_l91Types.f k s0_0 s0_1 a1 a2 = some (r1, r2)) :
  Calls Try.prog 113 #[.pointer (some ⟨g, 0, none⟩), .int .i64 a1, .int .i64 a2] w fun e w' => ∃ v0_ : Value, e = .returned (v0_) ∧ Kd.S (Kd.slice 3 (Kd.int .i64)) 23 w' w.heap.size (fun _ => True) v0_ r1 ∧ IsS87 w0 w' g s0_0 r2 ∧ Below w0.heap.size w0 w' ∧ KeepBut w w' g none := by
 have HI0 := Az hI; have HK := Az (KeepBut.refl w g none); have HL := Az hB.size; clear hI; have HW0 := Az hB.size; have HB := Az hB; clear hB; have H : ((spec_l6Rd_pick.f k s0_0 s0_1 a1).bind fun bt556 => ((spec_l6Rd_pick.f k s0_0 bt556.2 a2).bind fun bt561 => (spec_l91Types.l0 k (wrap64 (1 + bt556.1)) (([] : List (List Int))) (wrap64 (1 + bt561.1)) 0 s0_0 bt561.2))) = some (r1, r2) := h; clear h; replace H := Option.bind_eq_some_iff.mp H; obtain ⟨⟨t556, t557⟩, A40, H⟩ := H; replace H : ((spec_l6Rd_pick.f k s0_0 t557 a2).bind fun bt561 => (spec_l91Types.l0 k (wrap64 (1 + t556)) (([] : List (List Int))) (wrap64 (1 + bt561.1)) 0 s0_0 bt561.2)) = some (r1, r2) := H; have A4 := Az A40; clear A40; obtain ⟨y558, hy558⟩ : ∃ y_ : List (List Int), y_ = (([] : List (List Int))) := ⟨_, rfl⟩; replace H : ((spec_l6Rd_pick.f k s0_0 t557 a2).bind fun bt561 => (spec_l91Types.l0 k (wrap64 (1 + t556)) y558 (wrap64 (1 + bt561.1)) 0 s0_0 bt561.2)) = some (r1, r2) := hR hy558 H; have Ny558 := Az hy558; clear hy558; replace H := Option.bind_eq_some_iff.mp H; obtain ⟨⟨t561, t562⟩, A50, H⟩ := H; replace H : (spec_l91Types.l0 k (wrap64 (1 + t556)) y558 (wrap64 (1 + t561)) 0 s0_0 t562) = some (r1, r2) := H; have A5 := Az A50; clear A50; have H' := Az H; clear H
 go_enter Try.func113, Try.ntmps113
 go_wp2_with (first | ((with_reducible refine gate_callee (f := 76) rfl ?_); refine goesL_ (some 13) rfl rfl Try.func76 (by kernel_rfl) rfl #[.pointer (some ⟨g, 0, none⟩), .int .i64 a1] rfl (by (try simp only [List.map_toArray, List.map_cons, List.map_nil]); first | done | rfl | (simp only [List.length_drop, List.length_take]; rfl)) ?_; (with_reducible refine (spec_l6Rd_pick.calls k g s0_0 s0_1 a1 t556 t557 w0 _ ?side1 ?side2 A4.out).mono ?_); (case side1 => repeat (first | (with_reducible first | exact HI0.out | apply IsS87.alloc | apply IsS87.drewN | apply IsS87.drew | apply IsS87.set_1) | exact HI0.out)); (case side2 => repeat (first | (with_reducible first | exact HB.out | apply below_alloc | apply pw_below_drewN | apply below_drew1 | refine below_set ?_ (IsS87.ge HI0.out)) | exact HB.out)); rintro e w6 ⟨rfl, hi, hb, hk⟩; refine ⟨_, rfl, ?_⟩; have n0 := Az (KeepBut.trans (by repeat (first | (with_reducible first | exact HK.out | apply KeepBut.set_ | apply keep_drewN | apply keep_drew | apply keep_alloc) | exact HK.out)) hk (.inl rfl)); have n1 := Az (hb); have n2 := Az (hi); clear HK HB HI0; have HK := n0; have HB := n1; have HI0 := n2; clear n0 n1 n2; (try clear hb); (try clear hb2); (try clear hk); (try clear hi)) | ((with_reducible refine gate_dst (N := 15) rfl ?_); refine Kd.S_lit (Kd.slice 3 (Kd.int .i64)) _ 23 ?hg (N := 15) ?hd (xs := ([] : List (List Int))) (inner := []) (ok := fun _ => True) (okp := fun _ => True) ?hr ?hp (fun _ hk => hk) trivial (Below.refl _ _) (Nat.le_refl _) (by simp) ?_; (case hd => rfl); (case hg => rfl); (case hr => first | (go_simp; done) | (go_simp; rfl)); (case hp => exact (Reps.none _ _)); intro v559 w7 ho8 hb hg_ hnew_; clear hg_ hnew_; (first | rw [← Ny558.out] at ho8 | (simp only [Int.reduceToNat] at ho8; rw [← Ny558.out] at ho8)); have n0 := Az (Kd.S_lower ho8 (keep_size (w := w) (g := g) (row := none) (by repeat (first | (with_reducible first | exact HK.out | apply KeepBut.set_ | apply keep_drewN | apply keep_drew | apply keep_alloc) | exact HK.out)))); have n1 := Az (IsS87.below (by repeat (first | (with_reducible first | exact HI0.out | apply IsS87.alloc | apply IsS87.drewN | apply IsS87.drew | apply IsS87.set_1) | exact HI0.out)) hb); have n2 := Az (KeepBut.trans (by repeat (first | (with_reducible first | exact HK.out | apply KeepBut.set_ | apply keep_drewN | apply keep_drew | apply keep_alloc) | exact HK.out)) (KeepBut.of_below hb g none) (.inl rfl)); have n3 := Az (below_step (by repeat (first | (with_reducible first | exact HB.out | apply below_alloc | apply pw_below_drewN | apply below_drew1 | refine below_set ?_ (IsS87.ge HI0.out)) | exact HB.out)) hb); clear HI0 HK HB; have HO560 := n0; have HI0 := n1; have HK := n2; have HB := n3; clear n0 n1 n2 n3; clear hb ho8) | ((with_reducible refine gate_callee (f := 76) rfl ?_); refine goesL_ (some 18) rfl rfl Try.func76 (by kernel_rfl) rfl #[.pointer (some ⟨g, 0, none⟩), .int .i64 a2] rfl (by (try simp only [List.map_toArray, List.map_cons, List.map_nil]); first | done | rfl | (simp only [List.length_drop, List.length_take]; rfl)) ?_; (with_reducible refine (spec_l6Rd_pick.calls k g s0_0 t557 a2 t561 t562 w0 _ ?side1 ?side2 A5.out).mono ?_); (case side1 => repeat (first | (with_reducible first | exact HI0.out | apply IsS87.alloc | apply IsS87.drewN | apply IsS87.drew | apply IsS87.set_1) | exact HI0.out)); (case side2 => repeat (first | (with_reducible first | exact HB.out | apply below_alloc | apply pw_below_drewN | apply below_drew1 | refine below_set ?_ (IsS87.ge HI0.out)) | exact HB.out)); rintro e w9 ⟨rfl, hi, hb, hk⟩; refine ⟨_, rfl, ?_⟩; have n0 := Az (Kd.S_mono (Kd.S_keep (IsS87.apartS (show IsS87 w0 _ g s0_0 t557 from by repeat (first | (with_reducible first | exact HI0.out | apply IsS87.alloc | apply IsS87.drewN | apply IsS87.drew | apply IsS87.set_1) | exact HI0.out)) (sU HO560.out) (by decide)) hk (fun _ h => h.2)) (fun _ h => h.1)); have n1 := Az (KeepBut.trans (by repeat (first | (with_reducible first | exact HK.out | apply KeepBut.set_ | apply keep_drewN | apply keep_drew | apply keep_alloc) | exact HK.out)) hk (.inl rfl)); have n2 := Az (hb); have n3 := Az (hi); clear HO560 HK HB HI0; have HO560 := n0; have HK := n1; have HB := n2; have HI0 := n3; clear n0 n1 n2 n3; (try clear hb); (try clear hb2); (try clear hk); (try clear hi)))
 go_loopg [8, 10] k (fun kq v8 v10 w' => ∃ (x8_1 : List (List Int)) (x10_1 : Int) (x1001_1 : Int), v10 = .int .i64 x10_1 ∧ Aside0 (spec_l91Types.l0 kq (wrap64 (1 + t556)) x8_1 (wrap64 (1 + t561)) x10_1 s0_0 x1001_1 = some (r1, r2)) ∧ Aside0 (kq ≤ k) ∧ Aside0 (Kd.S (Kd.slice 3 (Kd.int .i64)) 23 w' w.heap.size (fun _ => True) v8 x8_1) ∧ Aside0 (IsS87 w0 w' g s0_0 x1001_1) ∧ Aside0 (KeepBut w w' g none) ∧ Aside0 (Below w0.heap.size w0 w'))
 case atStart => exact ⟨(y558), (0), (t562), rS, H', ⟨Nat.le_refl _⟩, ⟨sU HO560.out⟩, ⟨by repeat (first | (with_reducible first | exact HI0.out | apply IsS87.alloc | apply IsS87.drewN | apply IsS87.drew | apply IsS87.set_1) | exact HI0.out)⟩, ⟨by repeat (first | (with_reducible first | exact HK.out | apply KeepBut.set_ | apply keep_drewN | apply keep_drew | apply keep_alloc) | exact HK.out)⟩, ⟨by repeat (first | (with_reducible first | exact HB.out | apply below_alloc | apply pw_below_drewN | apply below_drew1 | refine below_set ?_ (IsS87.ge HI0.out)) | exact HB.out)⟩⟩
 case round =>
  clear H'; (try clear c1); (try clear p2); (try clear p6); (try clear c7); obtain ⟨x8_1, x10_1, x1001_1, rfl, HA, HK1, HO_8, HI0, HK, HB⟩ := hrel
  cases gk with
  | zero => exact absurd HA.out (by simp [spec_l91Types.l0])
  | succ k1 =>
   have H := HA.out; clear HA; simp only [spec_l91Types.l0] at H
   by_cases c10 : x10_1 < (wrap64 (1 + t561))
   ·
    rw [if_pos c10] at H; have c10b0 := decide_eq_true c10; clear c10; replace H := Option.bind_eq_some_iff.mp H; obtain ⟨⟨t563, t566⟩, A110, H⟩ := H; replace H : (if x8_1.length < 5864062014805 then (spec_l91Types.l0 k1 (wrap64 (1 + t556)) (x8_1 ++ [t563]) (wrap64 (1 + t561)) (wrap64 (x10_1 + 1)) s0_0 t566) else (none)) = some (r1, r2) := H; have A11 := Az A110; clear A110
    by_cases c12 : x8_1.length < 5864062014805
    ·
     rw [if_pos c12] at H; have LMc12 := Az c12; clear c12; obtain ⟨y567, hy567⟩ : ∃ y_ : List (List Int), y_ = (x8_1 ++ [t563]) := ⟨_, rfl⟩; replace H : (spec_l91Types.l0 k1 (wrap64 (1 + t556)) y567 (wrap64 (1 + t561)) (wrap64 (x10_1 + 1)) s0_0 t566) = some (r1, r2) := hR hy567 H; have Ny567 := Az hy567; clear hy567; have H' := Az H; clear H
     go_wp2_with (first | ((with_reducible refine gate_callee (f := 142) rfl ?_); refine goesL_ (some 28) rfl rfl Try.func142 (by kernel_rfl) rfl #[.pointer (some ⟨g, 0, none⟩), .int .i64 (wrap64 (1 + t556))] rfl (by (try simp only [List.map_toArray, List.map_cons, List.map_nil]); first | done | rfl | (simp only [List.length_drop, List.length_take]; rfl)) ?_; (with_reducible refine (spec_l91Parts.calls k1 g s0_0 x1001_1 (wrap64 (1 + t556)) t563 t566 w0 _ ?side1 ?side2 A11.out).mono ?_); (case side1 => repeat (first | (with_reducible first | exact HI0.out | apply IsS87.alloc | apply IsS87.drewN | apply IsS87.drew | apply IsS87.set_1) | exact HI0.out)); (case side2 => repeat (first | (with_reducible first | exact HB.out | apply below_alloc | apply pw_below_drewN | apply below_drew1 | refine below_set ?_ (IsS87.ge HI0.out)) | exact HB.out)); rintro e w13 ⟨v564, rfl, ho0, hi, hb, hk⟩; refine ⟨_, rfl, ?_⟩; have n0 := Az (Kd.S_mono (Kd.S_told (Kd.S_oldK (IsS87.apartS (show IsS87 w0 _ g s0_0 x1001_1 from by repeat (first | (with_reducible first | exact HI0.out | apply IsS87.alloc | apply IsS87.drewN | apply IsS87.drew | apply IsS87.set_1) | exact HI0.out)) (sU HO_8.out) (by decide)) hk) (Kd.R_base ho0)) (fun _ h_ => h_.1)); have n1 := Az (Kd.R_lower ho0 (keep_size (w := w) (g := g) (row := none) (by repeat (first | (with_reducible first | exact HK.out | apply KeepBut.set_ | apply keep_drewN | apply keep_drew | apply keep_alloc) | exact HK.out)))); have n2 := Az (KeepBut.trans (by repeat (first | (with_reducible first | exact HK.out | apply KeepBut.set_ | apply keep_drewN | apply keep_drew | apply keep_alloc) | exact HK.out)) hk (.inl rfl)); have n3 := Az (hb); have n4 := Az (hi); clear HO_8 HK HB HI0; have HO_8 := n0; have HO565 := n1; have HK := n2; have HB := n3; have HI0 := n4; clear n0 n1 n2 n3 n4; (try clear hb); (try clear hb2); (try clear hk); (try clear hi); (try clear ho0); obtain ⟨Ao15, co15, eo15⟩ := Kd.R_slice HO565.out; subst eo15) | ((with_reducible refine gate_builtin (b := .append) (xs := #[.tmp 25, .tmp 29]) rfl ?_); at_builtin; refine Kd.S_append (Kd.slice 3 (Kd.int .i64)) w.heap.size rfl (.tmp 25) (.tmp 29) 45 23 (.slice none 0 0) 24 rfl Try.underlying45 info23 rfl (by decide) (by omega) u8 x8_1 t563 [.slice Ao15 t563.length co15] (fun _ => True) (fun k_ => some k_ = (.slice Ao15 t563.length co15 : Value).ownBlock) rfl rfl ?aP (fun k_ hk_ => ((Kd.R_mono (ok' := fun k_ => ((fun _ => True)) k_ ∧ some k_ ≠ (u8 : Value).ownBlock) (Kd.R_apart' (HO565.out) (Kd.S_typed HO_8.out) (by decide)) (fun k_ hk => ⟨trivial, hk.2⟩))).1 k_ hk_.symm) ?aF ?aO (Below.refl _ _) ?aS ?aL ?_; (case aP => exact Kd.M_row (Kd.R_mono (Kd.R_tight rfl (Kd.R_mono (ok' := fun k_ => ((fun _ => True)) k_ ∧ some k_ ≠ (u8 : Value).ownBlock) (Kd.R_apart' (HO565.out) (Kd.S_typed HO_8.out) (by decide)) (fun k_ hk => ⟨trivial, hk.2⟩))) (fun _ h_ => h_))); (case aF => exact (fun _ _ => trivial)); (case aO => exact (by (with_reducible repeat (first | apply Kd.S_alloc | apply Kd.S_drewN | apply Kd.S_drew)); exact Kd.S_mono HO_8.out (fun k_ hk => ⟨trivial, fun e_ => hk.2 e_⟩))); (case aS => exact (keep_size (w := w) (g := g) (row := none) (by repeat (first | (with_reducible first | exact HK.out | apply KeepBut.set_ | apply keep_drewN | apply keep_drew | apply keep_alloc) | exact HK.out)))); (case aL => have := LMc12.out; omega); intro v568 w14 ho hb hg hat; rw [← Ny567.out] at ho; have n0 := Az (IsS87.grown (by repeat (first | (with_reducible first | exact HI0.out | apply IsS87.alloc | apply IsS87.drewN | apply IsS87.drew | apply IsS87.set_1) | exact HI0.out)) hg (IsS87.own_neS HI0.out HO_8.out (by decide))); have n1 := Az (below_weaken (by repeat (first | (with_reducible first | exact HB.out | apply below_alloc | apply pw_below_drewN | apply below_drew1 | refine below_set ?_ (IsS87.ge HI0.out)) | exact HB.out)) HL.out hb); have n2 := Az (KeepBut.trans (by repeat (first | (with_reducible first | exact HK.out | apply KeepBut.set_ | apply keep_drewN | apply keep_drew | apply keep_alloc) | exact HK.out)) (KeepBut.of_grown hg g) (Kd.S_base2 HO_8.out)); have n3 := Az (ho); clear HI0 HB HK HO_8 HO565; have HI0 := n0; have HB := n1; have HK := n2; have HO569 := n3; clear n0 n1 n2 n3; clear ho hb hg hat))
     (first | go_roundg k1 | (refine Handed.intro k1 ?measure ?_; rotate_left; go_step; (try simp only [add_plain]); (repeat apply Exists.intro); refine ⟨?rel, rfl⟩))
     case measure => have := HK1.out; omega
     case rel => exact ⟨(y567), (wrap64 (x10_1 + 1)), (t566), rS, H', ⟨by have := HK1.out; omega⟩, ⟨sU HO569.out⟩, ⟨by repeat (first | (with_reducible first | exact HI0.out | apply IsS87.alloc | apply IsS87.drewN | apply IsS87.drew | apply IsS87.set_1) | exact HI0.out)⟩, ⟨by repeat (first | (with_reducible first | exact HK.out | apply KeepBut.set_ | apply keep_drewN | apply keep_drew | apply keep_alloc) | exact HK.out)⟩, ⟨by repeat (first | (with_reducible first | exact HB.out | apply below_alloc | apply pw_below_drewN | apply below_drew1 | refine below_set ?_ (IsS87.ge HI0.out)) | exact HB.out)⟩⟩
    ·
     rw [if_neg c12] at H
     exact absurd H (by simp)
   ·
    rw [if_neg c10] at H; have c10b0 := decide_eq_false c10; clear c10; replace H := Option.bind_eq_some_iff.mp H; obtain ⟨⟨t570, t571⟩, A160, H⟩ := H; replace H : (if t570 = 0 then (some ((([] : List (List Int))), t571)) else (if t570 = 1 then ((spec_l6Rd_pick.f k1 s0_0 t571 4).bind fun bt575 => ((spec_l91Parts.f k1 s0_0 bt575.2 (wrap64 (1 + bt575.1))).bind fun bt577 => (if x8_1.length < 5864062014805 then (some ((x8_1 ++ [bt577.1]), bt577.2)) else (none)))) else (some (x8_1, t571)))) = some (r1, r2) := H; have A16 := Az A160; clear A160
    by_cases c17 : t570 = 0
    ·
     rw [if_pos c17] at H; have c17b0 := beq_iff_eq.mpr c17; have c17b1 := bne_eq_false_iff_eq.mpr c17; clear c17; obtain ⟨y572, hy572⟩ : ∃ y_ : List (List Int), y_ = (([] : List (List Int))) := ⟨_, rfl⟩; replace H : (some (y572, t571)) = some (r1, r2) := hR hy572 H; have Ny572 := Az hy572; clear hy572; simp only [Option.some.injEq, Prod.mk.injEq] at H; obtain ⟨rfl, rfl⟩ := H
     go_wp2_with (first | ((with_reducible refine gate_callee (f := 76) rfl ?_); refine goesL_ (some 32) rfl rfl Try.func76 (by kernel_rfl) rfl #[.pointer (some ⟨g, 0, none⟩), .int .i64 30] rfl (by (try simp only [List.map_toArray, List.map_cons, List.map_nil]); first | done | rfl | (simp only [List.length_drop, List.length_take]; rfl)) ?_; (with_reducible refine (spec_l6Rd_pick.calls k1 g s0_0 x1001_1 30 t570 t571 w0 _ ?side1 ?side2 A16.out).mono ?_); (case side1 => repeat (first | (with_reducible first | exact HI0.out | apply IsS87.alloc | apply IsS87.drewN | apply IsS87.drew | apply IsS87.set_1) | exact HI0.out)); (case side2 => repeat (first | (with_reducible first | exact HB.out | apply below_alloc | apply pw_below_drewN | apply below_drew1 | refine below_set ?_ (IsS87.ge HI0.out)) | exact HB.out)); rintro e w18 ⟨rfl, hi, hb, hk⟩; refine ⟨_, rfl, ?_⟩; have n0 := Az (Kd.S_mono (Kd.S_keep (IsS87.apartS (show IsS87 w0 _ g s0_0 x1001_1 from by repeat (first | (with_reducible first | exact HI0.out | apply IsS87.alloc | apply IsS87.drewN | apply IsS87.drew | apply IsS87.set_1) | exact HI0.out)) (sU HO_8.out) (by decide)) hk (fun _ h => h.2)) (fun _ h => h.1)); have n1 := Az (KeepBut.trans (by repeat (first | (with_reducible first | exact HK.out | apply KeepBut.set_ | apply keep_drewN | apply keep_drew | apply keep_alloc) | exact HK.out)) hk (.inl rfl)); have n2 := Az (hb); have n3 := Az (hi); clear HO_8 HK HB HI0; have HO_8 := n0; have HK := n1; have HB := n2; have HI0 := n3; clear n0 n1 n2 n3; (try clear hb); (try clear hb2); (try clear hk); (try clear hi)) | ((with_reducible refine gate_dst (N := 35) rfl ?_); refine Kd.S_lit (Kd.slice 3 (Kd.int .i64)) _ 23 ?hg (N := 35) ?hd (xs := ([] : List (List Int))) (inner := []) (ok := fun _ => True) (okp := fun _ => True) ?hr ?hp (fun _ hk => hk) trivial (Below.refl _ _) (Nat.le_refl _) (by simp) ?_; (case hd => rfl); (case hg => rfl); (case hr => first | (go_simp; done) | (go_simp; rfl)); (case hp => exact (Reps.none _ _)); intro v573 w19 ho20 hb hg_ hnew_; clear hg_ hnew_; (first | rw [← Ny572.out] at ho20 | (simp only [Int.reduceToNat] at ho20; rw [← Ny572.out] at ho20)); have n0 := Az (Kd.S_elder' (sU HO_8.out) (Kd.S_base ho20) hb); have n1 := Az (Kd.S_lower (Kd.S_new' ho20 (Kd.S_lt (sU HO_8.out))) (keep_size (w := w) (g := g) (row := none) (by repeat (first | (with_reducible first | exact HK.out | apply KeepBut.set_ | apply keep_drewN | apply keep_drew | apply keep_alloc) | exact HK.out)))); have n2 := Az (IsS87.below (by repeat (first | (with_reducible first | exact HI0.out | apply IsS87.alloc | apply IsS87.drewN | apply IsS87.drew | apply IsS87.set_1) | exact HI0.out)) hb); have n3 := Az (KeepBut.trans (by repeat (first | (with_reducible first | exact HK.out | apply KeepBut.set_ | apply keep_drewN | apply keep_drew | apply keep_alloc) | exact HK.out)) (KeepBut.of_below hb g none) (.inl rfl)); have n4 := Az (below_step (by repeat (first | (with_reducible first | exact HB.out | apply below_alloc | apply pw_below_drewN | apply below_drew1 | refine below_set ?_ (IsS87.ge HI0.out)) | exact HB.out)) hb); clear HO_8 HI0 HK HB; have HO_8 := n0; have HO574 := n1; have HI0 := n2; have HK := n3; have HB := n4; clear n0 n1 n2 n3 n4; clear hb ho20))
     go_ret
     exact ⟨_, rE, by (with_reducible repeat (first | apply Kd.S_alloc | apply Kd.S_drewN | apply Kd.S_drew)); exact Kd.S_mono HO574.out (fun _ hk => trivial), by repeat (first | (with_reducible first | exact HI0.out | apply IsS87.alloc | apply IsS87.drewN | apply IsS87.drew | apply IsS87.set_1) | exact HI0.out), by repeat (first | (with_reducible first | exact HB.out | apply below_alloc | apply pw_below_drewN | apply below_drew1 | refine below_set ?_ (IsS87.ge HI0.out)) | exact HB.out), by repeat (first | (with_reducible first | exact HK.out | apply KeepBut.set_ | apply keep_drewN | apply keep_drew | apply keep_alloc) | exact HK.out)⟩
    ·
     rw [if_neg c17] at H; have c17b0 := beq_eq_false_iff_ne.mpr c17; have c17b1 := bne_iff_ne.mpr c17
     by_cases c21 : t570 = 1
     ·
      rw [if_pos c21] at H; have c21b0 := beq_iff_eq.mpr c21; have c21b1 := bne_eq_false_iff_eq.mpr c21; clear c21; replace H := Option.bind_eq_some_iff.mp H; obtain ⟨⟨t575, t576⟩, A220, H⟩ := H; replace H : ((spec_l91Parts.f k1 s0_0 t576 (wrap64 (1 + t575))).bind fun bt577 => (if x8_1.length < 5864062014805 then (some ((x8_1 ++ [bt577.1]), bt577.2)) else (none))) = some (r1, r2) := H; have A22 := Az A220; clear A220; replace H := Option.bind_eq_some_iff.mp H; obtain ⟨⟨t577, t580⟩, A230, H⟩ := H; replace H : (if x8_1.length < 5864062014805 then (some ((x8_1 ++ [t577]), t580)) else (none)) = some (r1, r2) := H; have A23 := Az A230; clear A230
      by_cases c24 : x8_1.length < 5864062014805
      ·
       rw [if_pos c24] at H; have LMc24 := Az c24; clear c24; obtain ⟨y581, hy581⟩ : ∃ y_ : List (List Int), y_ = (x8_1 ++ [t577]) := ⟨_, rfl⟩; replace H : (some (y581, t580)) = some (r1, r2) := hR hy581 H; have Ny581 := Az hy581; clear hy581; simp only [Option.some.injEq, Prod.mk.injEq] at H; obtain ⟨rfl, rfl⟩ := H
       go_wp2_with (first | ((with_reducible refine gate_callee (f := 76) rfl ?_); refine goesL_ (some 32) rfl rfl Try.func76 (by kernel_rfl) rfl #[.pointer (some ⟨g, 0, none⟩), .int .i64 30] rfl (by (try simp only [List.map_toArray, List.map_cons, List.map_nil]); first | done | rfl | (simp only [List.length_drop, List.length_take]; rfl)) ?_; (with_reducible refine (spec_l6Rd_pick.calls k1 g s0_0 x1001_1 30 t570 t571 w0 _ ?side1 ?side2 A16.out).mono ?_); (case side1 => repeat (first | (with_reducible first | exact HI0.out | apply IsS87.alloc | apply IsS87.drewN | apply IsS87.drew | apply IsS87.set_1) | exact HI0.out)); (case side2 => repeat (first | (with_reducible first | exact HB.out | apply below_alloc | apply pw_below_drewN | apply below_drew1 | refine below_set ?_ (IsS87.ge HI0.out)) | exact HB.out)); rintro e w25 ⟨rfl, hi, hb, hk⟩; refine ⟨_, rfl, ?_⟩; have n0 := Az (Kd.S_mono (Kd.S_keep (IsS87.apartS (show IsS87 w0 _ g s0_0 x1001_1 from by repeat (first | (with_reducible first | exact HI0.out | apply IsS87.alloc | apply IsS87.drewN | apply IsS87.drew | apply IsS87.set_1) | exact HI0.out)) (sU HO_8.out) (by decide)) hk (fun _ h => h.2)) (fun _ h => h.1)); have n1 := Az (KeepBut.trans (by repeat (first | (with_reducible first | exact HK.out | apply KeepBut.set_ | apply keep_drewN | apply keep_drew | apply keep_alloc) | exact HK.out)) hk (.inl rfl)); have n2 := Az (hb); have n3 := Az (hi); clear HO_8 HK HB HI0; have HO_8 := n0; have HK := n1; have HB := n2; have HI0 := n3; clear n0 n1 n2 n3; (try clear hb); (try clear hb2); (try clear hk); (try clear hi)) | ((with_reducible refine gate_callee (f := 76) rfl ?_); refine goesL_ (some 41) rfl rfl Try.func76 (by kernel_rfl) rfl #[.pointer (some ⟨g, 0, none⟩), .int .i64 4] rfl (by (try simp only [List.map_toArray, List.map_cons, List.map_nil]); first | done | rfl | (simp only [List.length_drop, List.length_take]; rfl)) ?_; (with_reducible refine (spec_l6Rd_pick.calls k1 g s0_0 t571 4 t575 t576 w0 _ ?side1 ?side2 A22.out).mono ?_); (case side1 => repeat (first | (with_reducible first | exact HI0.out | apply IsS87.alloc | apply IsS87.drewN | apply IsS87.drew | apply IsS87.set_1) | exact HI0.out)); (case side2 => repeat (first | (with_reducible first | exact HB.out | apply below_alloc | apply pw_below_drewN | apply below_drew1 | refine below_set ?_ (IsS87.ge HI0.out)) | exact HB.out)); rintro e w26 ⟨rfl, hi, hb, hk⟩; refine ⟨_, rfl, ?_⟩; have n0 := Az (Kd.S_mono (Kd.S_keep (IsS87.apartS (show IsS87 w0 _ g s0_0 t571 from by repeat (first | (with_reducible first | exact HI0.out | apply IsS87.alloc | apply IsS87.drewN | apply IsS87.drew | apply IsS87.set_1) | exact HI0.out)) (sU HO_8.out) (by decide)) hk (fun _ h => h.2)) (fun _ h => h.1)); have n1 := Az (KeepBut.trans (by repeat (first | (with_reducible first | exact HK.out | apply KeepBut.set_ | apply keep_drewN | apply keep_drew | apply keep_alloc) | exact HK.out)) hk (.inl rfl)); have n2 := Az (hb); have n3 := Az (hi); clear HO_8 HK HB HI0; have HO_8 := n0; have HK := n1; have HB := n2; have HI0 := n3; clear n0 n1 n2 n3; (try clear hb); (try clear hb2); (try clear hk); (try clear hi)) | ((with_reducible refine gate_callee (f := 142) rfl ?_); refine goesL_ (some 43) rfl rfl Try.func142 (by kernel_rfl) rfl #[.pointer (some ⟨g, 0, none⟩), .int .i64 (wrap64 (1 + t575))] rfl (by (try simp only [List.map_toArray, List.map_cons, List.map_nil]); first | done | rfl | (simp only [List.length_drop, List.length_take]; rfl)) ?_; (with_reducible refine (spec_l91Parts.calls k1 g s0_0 t576 (wrap64 (1 + t575)) t577 t580 w0 _ ?side1 ?side2 A23.out).mono ?_); (case side1 => repeat (first | (with_reducible first | exact HI0.out | apply IsS87.alloc | apply IsS87.drewN | apply IsS87.drew | apply IsS87.set_1) | exact HI0.out)); (case side2 => repeat (first | (with_reducible first | exact HB.out | apply below_alloc | apply pw_below_drewN | apply below_drew1 | refine below_set ?_ (IsS87.ge HI0.out)) | exact HB.out)); rintro e w27 ⟨v578, rfl, ho0, hi, hb, hk⟩; refine ⟨_, rfl, ?_⟩; have n0 := Az (Kd.S_mono (Kd.S_told (Kd.S_oldK (IsS87.apartS (show IsS87 w0 _ g s0_0 t576 from by repeat (first | (with_reducible first | exact HI0.out | apply IsS87.alloc | apply IsS87.drewN | apply IsS87.drew | apply IsS87.set_1) | exact HI0.out)) (sU HO_8.out) (by decide)) hk) (Kd.R_base ho0)) (fun _ h_ => h_.1)); have n1 := Az (Kd.R_lower ho0 (keep_size (w := w) (g := g) (row := none) (by repeat (first | (with_reducible first | exact HK.out | apply KeepBut.set_ | apply keep_drewN | apply keep_drew | apply keep_alloc) | exact HK.out)))); have n2 := Az (KeepBut.trans (by repeat (first | (with_reducible first | exact HK.out | apply KeepBut.set_ | apply keep_drewN | apply keep_drew | apply keep_alloc) | exact HK.out)) hk (.inl rfl)); have n3 := Az (hb); have n4 := Az (hi); clear HO_8 HK HB HI0; have HO_8 := n0; have HO579 := n1; have HK := n2; have HB := n3; have HI0 := n4; clear n0 n1 n2 n3 n4; (try clear hb); (try clear hb2); (try clear hk); (try clear hi); (try clear ho0); obtain ⟨Ao29, co29, eo29⟩ := Kd.R_slice HO579.out; subst eo29) | ((with_reducible refine gate_builtin (b := .append) (xs := #[.tmp 38, .tmp 44]) rfl ?_); at_builtin; refine Kd.S_append (Kd.slice 3 (Kd.int .i64)) w.heap.size rfl (.tmp 38) (.tmp 44) 45 23 (.slice none 0 0) 24 rfl Try.underlying45 info23 rfl (by decide) (by omega) u8 x8_1 t577 [.slice Ao29 t577.length co29] (fun _ => True) (fun k_ => some k_ = (.slice Ao29 t577.length co29 : Value).ownBlock) rfl rfl ?aP (fun k_ hk_ => ((Kd.R_mono (ok' := fun k_ => ((fun _ => True)) k_ ∧ some k_ ≠ (u8 : Value).ownBlock) (Kd.R_apart' (HO579.out) (Kd.S_typed HO_8.out) (by decide)) (fun k_ hk => ⟨trivial, hk.2⟩))).1 k_ hk_.symm) ?aF ?aO (Below.refl _ _) ?aS ?aL ?_; (case aP => exact Kd.M_row (Kd.R_mono (Kd.R_tight rfl (Kd.R_mono (ok' := fun k_ => ((fun _ => True)) k_ ∧ some k_ ≠ (u8 : Value).ownBlock) (Kd.R_apart' (HO579.out) (Kd.S_typed HO_8.out) (by decide)) (fun k_ hk => ⟨trivial, hk.2⟩))) (fun _ h_ => h_))); (case aF => exact (fun _ _ => trivial)); (case aO => exact (by (with_reducible repeat (first | apply Kd.S_alloc | apply Kd.S_drewN | apply Kd.S_drew)); exact Kd.S_mono HO_8.out (fun k_ hk => ⟨trivial, fun e_ => hk.2 e_⟩))); (case aS => exact (keep_size (w := w) (g := g) (row := none) (by repeat (first | (with_reducible first | exact HK.out | apply KeepBut.set_ | apply keep_drewN | apply keep_drew | apply keep_alloc) | exact HK.out)))); (case aL => have := LMc24.out; omega); intro v582 w28 ho hb hg hat; rw [← Ny581.out] at ho; have n0 := Az (IsS87.grown (by repeat (first | (with_reducible first | exact HI0.out | apply IsS87.alloc | apply IsS87.drewN | apply IsS87.drew | apply IsS87.set_1) | exact HI0.out)) hg (IsS87.own_neS HI0.out HO_8.out (by decide))); have n1 := Az (below_weaken (by repeat (first | (with_reducible first | exact HB.out | apply below_alloc | apply pw_below_drewN | apply below_drew1 | refine below_set ?_ (IsS87.ge HI0.out)) | exact HB.out)) HL.out hb); have n2 := Az (KeepBut.trans (by repeat (first | (with_reducible first | exact HK.out | apply KeepBut.set_ | apply keep_drewN | apply keep_drew | apply keep_alloc) | exact HK.out)) (KeepBut.of_grown hg g) (Kd.S_base2 HO_8.out)); have n3 := Az (ho); clear HI0 HB HK HO_8 HO579; have HI0 := n0; have HB := n1; have HK := n2; have HO583 := n3; clear n0 n1 n2 n3; clear ho hb hg hat))
       go_ret
       exact ⟨_, rE, sU HO583.out, by repeat (first | (with_reducible first | exact HI0.out | apply IsS87.alloc | apply IsS87.drewN | apply IsS87.drew | apply IsS87.set_1) | exact HI0.out), by repeat (first | (with_reducible first | exact HB.out | apply below_alloc | apply pw_below_drewN | apply below_drew1 | refine below_set ?_ (IsS87.ge HI0.out)) | exact HB.out), by repeat (first | (with_reducible first | exact HK.out | apply KeepBut.set_ | apply keep_drewN | apply keep_drew | apply keep_alloc) | exact HK.out)⟩
      ·
       rw [if_neg c24] at H
       exact absurd H (by simp)
     ·
      rw [if_neg c21] at H; have c21b0 := beq_eq_false_iff_ne.mpr c21; have c21b1 := bne_iff_ne.mpr c21; simp only [Option.some.injEq, Prod.mk.injEq] at H; obtain ⟨rfl, rfl⟩ := H
      go_wp2_with (first | ((with_reducible refine gate_callee (f := 76) rfl ?_); refine goesL_ (some 32) rfl rfl Try.func76 (by kernel_rfl) rfl #[.pointer (some ⟨g, 0, none⟩), .int .i64 30] rfl (by (try simp only [List.map_toArray, List.map_cons, List.map_nil]); first | done | rfl | (simp only [List.length_drop, List.length_take]; rfl)) ?_; (with_reducible refine (spec_l6Rd_pick.calls k1 g s0_0 x1001_1 30 t570 t571 w0 _ ?side1 ?side2 A16.out).mono ?_); (case side1 => repeat (first | (with_reducible first | exact HI0.out | apply IsS87.alloc | apply IsS87.drewN | apply IsS87.drew | apply IsS87.set_1) | exact HI0.out)); (case side2 => repeat (first | (with_reducible first | exact HB.out | apply below_alloc | apply pw_below_drewN | apply below_drew1 | refine below_set ?_ (IsS87.ge HI0.out)) | exact HB.out)); rintro e w30 ⟨rfl, hi, hb, hk⟩; refine ⟨_, rfl, ?_⟩; have n0 := Az (Kd.S_mono (Kd.S_keep (IsS87.apartS (show IsS87 w0 _ g s0_0 x1001_1 from by repeat (first | (with_reducible first | exact HI0.out | apply IsS87.alloc | apply IsS87.drewN | apply IsS87.drew | apply IsS87.set_1) | exact HI0.out)) (sU HO_8.out) (by decide)) hk (fun _ h => h.2)) (fun _ h => h.1)); have n1 := Az (KeepBut.trans (by repeat (first | (with_reducible first | exact HK.out | apply KeepBut.set_ | apply keep_drewN | apply keep_drew | apply keep_alloc) | exact HK.out)) hk (.inl rfl)); have n2 := Az (hb); have n3 := Az (hi); clear HO_8 HK HB HI0; have HO_8 := n0; have HK := n1; have HB := n2; have HI0 := n3; clear n0 n1 n2 n3; (try clear hb); (try clear hb2); (try clear hk); (try clear hi)))
      go_ret
      exact ⟨_, rE, sU HO_8.out, by repeat (first | (with_reducible first | exact HI0.out | apply IsS87.alloc | apply IsS87.drewN | apply IsS87.drew | apply IsS87.set_1) | exact HI0.out), by repeat (first | (with_reducible first | exact HB.out | apply below_alloc | apply pw_below_drewN | apply below_drew1 | refine below_set ?_ (IsS87.ge HI0.out)) | exact HB.out), by repeat (first | (with_reducible first | exact HK.out | apply KeepBut.set_ | apply keep_drewN | apply keep_drew | apply keep_alloc) | exact HK.out)⟩
def spec_DrawFactorEach.f (k : Nat) (l0 : List Int) : Option ((List (List Int))) := (spec_l6Open.f l0).bind fun bt584 => ((spec_l91Types.f k bt584.1 bt584.2 4 3).bind fun bt587 => (some bt587.1))
set_option maxHeartbeats 8000000 in
set_option maxRecDepth 100000 in
theorem spec_DrawFactorEach.calls (k : Nat) (A0 : Option Addr) (c0 : Nat) (l0 : List Int) (r : List (List Int)) (w : World) (hr0 : Kd.C (Kd.int .u8) w A0 l0.length l0) (hc0 : l0.length ≤ c0) (h : spec_DrawFactorEach.f k l0 = some r) :
  Calls Try.prog 53 #[.slice A0 l0.length c0] w fun e w' => ∃ v0_ : Value, e = .returned (v0_) ∧ Kd.S (Kd.slice 3 (Kd.int .i64)) 23 w' w.heap.size (fun _ => True) v0_ r ∧ Below w.heap.size w w' := by
 have HR0 := Az hr0; have HC0 := Az hc0; clear hr0 hc0; have HB := Az (Below.refl w.heap.size w); have H : ((spec_l6Open.f l0).bind fun bt584 => ((spec_l91Types.f k bt584.1 bt584.2 4 3).bind fun bt587 => (some bt587.1))) = some r := h; clear h; replace H := Option.bind_eq_some_iff.mp H; obtain ⟨⟨t584, t585⟩, A20, H⟩ := H; replace H : ((spec_l91Types.f k t584 t585 4 3).bind fun bt587 => (some bt587.1)) = some r := H; have A2 := Az A20; clear A20; replace H := Option.bind_eq_some_iff.mp H; obtain ⟨⟨t587, t590⟩, A30, H⟩ := H; replace H : (some t587) = some r := H; have A3 := Az A30; clear A30; obtain rfl := Option.some.inj H
 go_enter Try.func53, Try.ntmps53
 go_wp2_with (first | ((with_reducible refine gate_callee (f := 55) rfl ?_); refine goesL_ (some 5) rfl rfl Try.func55 (by kernel_rfl) rfl #[.slice A0 l0.length c0] rfl (by (try simp only [List.map_toArray, List.map_cons, List.map_nil]); first | done | rfl | (simp only [List.length_drop, List.length_take]; rfl)) ?_; (with_reducible refine (spec_l6Open.calls _ _ l0 t584 t585 w _ ?side1 ?side2 ?side3 A2.out).mono ?_); (case side1 => repeat (first | (with_reducible first | exact HB.out | apply below_alloc | apply pw_below_drewN | apply below_drew1) | exact HB.out)); (case side2 => exact HR0.out); (case side3 => exact HC0.out); rintro e w4 ⟨g586, rfl, hi, hb, hb2⟩; refine ⟨_, rfl, ?_⟩; have n0 := Az (hb); have n1 := Az (hi); clear HB; have HB := n0; have HI586 := n1; clear n0 n1; (try clear hb); (try clear hb2); (try clear hk); (try clear hi)) | ((with_reducible refine gate_callee (f := 113) rfl ?_); refine goesL_ (some 7) rfl rfl Try.func113 (by kernel_rfl) rfl #[.pointer (some ⟨g586, 0, none⟩), .int .i64 4, .int .i64 3] rfl (by (try simp only [List.map_toArray, List.map_cons, List.map_nil]); first | done | rfl | (simp only [List.length_drop, List.length_take]; rfl)) ?_; (with_reducible refine (spec_l91Types.calls k g586 t584 t585 4 3 t587 t590 w _ ?side1 ?side2 A3.out).mono ?_); (case side1 => repeat (first | (with_reducible first | exact HI586.out | apply IsS87.alloc | apply IsS87.drewN | apply IsS87.drew | apply IsS87.set_1) | exact HI586.out)); (case side2 => repeat (first | (with_reducible first | exact HB.out | apply below_alloc | apply pw_below_drewN | apply below_drew1 | refine below_set ?_ (IsS87.ge HI586.out)) | exact HB.out)); rintro e w5 ⟨v588, rfl, ho0, hi, hb, hk⟩; refine ⟨_, rfl, ?_⟩; have n0 := Az (Kd.S_lower ho0 (below_size (by repeat (first | (with_reducible first | exact HB.out | apply below_alloc | apply pw_below_drewN | apply below_drew1 | refine below_set ?_ (IsS87.ge HI586.out)) | exact HB.out)))); have n1 := Az (hb); have n2 := Az (hi); clear HB HI586; have HO589 := n0; have HB := n1; have HI586 := n2; clear n0 n1 n2; (try clear hb); (try clear hb2); (try clear hk); (try clear hi); (try clear ho0)))
 go_ret
 exact ⟨_, rE, sU HO589.out, by repeat (first | (with_reducible first | exact HB.out | apply below_alloc | apply pw_below_drewN | apply below_drew1 | refine below_set ?_ (IsS87.ge HI586.out)) | exact HB.out)⟩
def laws_FnFactorEach.j0 : Nat → List (List Int) → Int → Int → Bool → Option (Bool)
 | 0, _, _, _, _ => none
 | k + 1, x3, x4, x5, x21 => if x21 = true then (some (x4 == x5)) else ((impl_FactorCount.f k x3).bind fun t596 => (if x4 = t596 then ((impl_FactorWhole.f k x3).bind fun t597 => (if t597 ≤ x4 then ((impl_FactorWhole.f k x3).bind fun t598 => (some (decide (t598 ≥ 0)))) else (some false))) else (some false)))
def laws_FnFactorEach.f (k : Nat) (l0 : List Int) : Option (Bool) := if (l0.length : Int) > 1048576 then (some true) else ((spec_DrawFactorEach.f k l0).bind fun t591 => ((impl_FactorEach.f k t591).bind fun t594 => ((spec_FactorEach.f k t591).bind fun t595 => (if t594 = t595 then (laws_FnFactorEach.j0 k t591 t594 t595 (decide (t594 < 0))) else (laws_FnFactorEach.j0 k t591 t594 t595 true)))))
set_option maxHeartbeats 8000000 in
set_option maxRecDepth 100000 in
theorem laws_FnFactorEach.calls (k : Nat) (A0 : Option Addr) (c0 : Nat) (l0 : List Int) (r : Bool) (w : World) (hr0 : Kd.C (Kd.int .u8) w A0 l0.length l0) (hc0 : l0.length ≤ c0) (h : laws_FnFactorEach.f k l0 = some r) :
  Calls Try.prog 11 #[.slice A0 l0.length c0] w fun e w' => e = .returned (.bool r) ∧ Below w.heap.size w w' := by
 have HR0 := Az hr0; have HC0 := Az hc0; clear hr0 hc0; have HB := Az (Below.refl w.heap.size w); have H : (if (l0.length : Int) > 1048576 then (some true) else ((spec_DrawFactorEach.f k l0).bind fun t591 => ((impl_FactorEach.f k t591).bind fun t594 => ((spec_FactorEach.f k t591).bind fun t595 => (if t594 = t595 then (laws_FnFactorEach.j0 k t591 t594 t595 (decide (t594 < 0))) else (laws_FnFactorEach.j0 k t591 t594 t595 true)))))) = some r := h; clear h
 by_cases c2 : (l0.length : Int) > 1048576
 ·
  rw [if_pos c2] at H; have c2b0 := decide_eq_true c2; have c2b1 : decide (1048576 < l0.length) = true := decide_eq_true (by omega); clear c2; obtain rfl := Option.some.inj H
  go_enter Try.func11, Try.ntmps11
  go_wp2
  go_ret
  exact ⟨rE, bU0 HB.out⟩
 ·
  rw [if_neg c2] at H; have c2b0 := decide_eq_false c2; have c2b1 : decide (1048576 < l0.length) = false := decide_eq_false (by omega); clear c2; replace H := Option.bind_eq_some_iff.mp H; obtain ⟨t591, A30, H⟩ := H; replace H : ((impl_FactorEach.f k t591).bind fun t594 => ((spec_FactorEach.f k t591).bind fun t595 => (if t594 = t595 then (laws_FnFactorEach.j0 k t591 t594 t595 (decide (t594 < 0))) else (laws_FnFactorEach.j0 k t591 t594 t595 true)))) = some r := H; have A3 := Az A30; clear A30; replace H := Option.bind_eq_some_iff.mp H; obtain ⟨t594, A40, H⟩ := H; replace H : ((spec_FactorEach.f k t591).bind fun t595 => (if t594 = t595 then (laws_FnFactorEach.j0 k t591 t594 t595 (decide (t594 < 0))) else (laws_FnFactorEach.j0 k t591 t594 t595 true))) = some r := H; have A4 := Az A40; clear A40; replace H := Option.bind_eq_some_iff.mp H; obtain ⟨t595, A50, H⟩ := H; replace H : (if t594 = t595 then (laws_FnFactorEach.j0 k t591 t594 t595 (decide (t594 < 0))) else (laws_FnFactorEach.j0 k t591 t594 t595 true)) = some r := H; have A5 := Az A50; clear A50; have HC6 := Az H; clear H
  go_enter Try.func11, Try.ntmps11
  go_upto_region 6 with (first | ((with_reducible refine gate_callee (f := 53) rfl ?_); refine goesL_ (some 10) rfl rfl Try.func53 (by kernel_rfl) rfl #[.slice A0 l0.length c0] rfl (by (try simp only [List.map_toArray, List.map_cons, List.map_nil]); first | done | rfl | (simp only [List.length_drop, List.length_take]; rfl)) ?_; (with_reducible refine (spec_DrawFactorEach.calls k _ _ l0 t591 _ ?side1 ?side2 A3.out).mono ?_); (case side1 => exact cU (HR0.out)); (case side2 => exact HC0.out); rintro e w7 ⟨v592, rfl, ho0, hb⟩; refine ⟨_, rfl, ?_⟩; have n0 := Az (Kd.S_lower ho0 (below_size (bU0 HB.out))); have n1 := Az (below_step (bU0 HB.out) hb); clear HB; have HO593 := n0; have HB := n1; clear n0 n1; (try clear hb); (try clear hb2); (try clear hk); (try clear hi); (try clear ho0); obtain ⟨Ao8, co8, eo8⟩ := Kd.S_slice HO593.out; subst eo8) | ((with_reducible refine gate_callee (f := 41) rfl ?_); refine goesL_ (some 12) rfl rfl Try.func41 (by kernel_rfl) rfl #[.slice Ao8 t591.length co8] rfl (by (try simp only [List.map_toArray, List.map_cons, List.map_nil]); first | done | rfl | (simp only [List.length_drop, List.length_take]; rfl)) ?_; (with_reducible refine (impl_FactorEach.calls k _ _ t591 t594 _ ?side1 ?side2 A4.out).mono ?_); (case side1 => exact cU ((Kd.S_reads' HO593.out).2.2)); (case side2 => exact (Kd.S_reads' HO593.out).2.1); rintro e w9 ⟨rfl, hb⟩; refine ⟨_, rfl, ?_⟩; have n0 := Az (Kd.S_below (sU HO593.out) hb); have n1 := Az (below_step (bU0 HB.out) hb); clear HO593 HB; have HO593 := n0; have HB := n1; clear n0 n1; (try clear hb); (try clear hb2); (try clear hk); (try clear hi)) | ((with_reducible refine gate_callee (f := 39) rfl ?_); refine goesL_ (some 14) rfl rfl Try.func39 (by kernel_rfl) rfl #[.slice Ao8 t591.length co8] rfl (by (try simp only [List.map_toArray, List.map_cons, List.map_nil]); first | done | rfl | (simp only [List.length_drop, List.length_take]; rfl)) ?_; (with_reducible refine (spec_FactorEach.calls k _ _ t591 t595 _ ?side1 ?side2 A5.out).mono ?_); (case side1 => exact cU ((Kd.S_reads' HO593.out).2.2)); (case side2 => exact (Kd.S_reads' HO593.out).2.1); rintro e w10 ⟨rfl, hb⟩; refine ⟨_, rfl, ?_⟩; have n0 := Az (Kd.S_below (sU HO593.out) hb); have n1 := Az (below_step (bU0 HB.out) hb); clear HO593 HB; have HO593 := n0; have HB := n1; clear n0 n1; (try clear hb); (try clear hb2); (try clear hk); (try clear hi)))
  (try simp only [Act.put, List.setIfInBounds_toArray, List.set_cons_zero, List.set_cons_succ])
  go_cut [21] (fun v21 wc => ∃ (kq : Nat) (x21_5 : Bool), v21 = .bool x21_5 ∧ Aside0 (laws_FnFactorEach.j0 kq t591 t594 t595 x21_5 = some r) ∧ Aside0 (kq ≤ k) ∧ Aside0 (Kd.S (Kd.slice 3 (Kd.int .i64)) 23 wc w.heap.size (fun _ => True) (.slice Ao8 t591.length co8) t591) ∧ Aside0 (Below w.heap.size w wc))
  case first =>
   have H := HC6.out; clear HC6
   by_cases c11 : t594 = t595
   ·
    rw [if_pos c11] at H; have c11b0 := beq_iff_eq.mpr c11; have c11b1 := bne_eq_false_iff_eq.mpr c11; clear c11; (first | rw [c11b0] | (simp only [i64_w, i32_w]; rw [c11b0]) | skip); have H' := Az H; clear H
    go_wp2
    go_meet
    case rel => exact ⟨_, (decide (t594 < 0)), rS, H', ⟨by first | omega | exact Nat.le_refl _⟩, ⟨sU HO593.out⟩, ⟨bU0 HB.out⟩⟩
   ·
    rw [if_neg c11] at H; have c11b0 := beq_eq_false_iff_ne.mpr c11; have c11b1 := bne_iff_ne.mpr c11; (first | rw [c11b0] | (simp only [i64_w, i32_w]; rw [c11b0]) | skip); have H' := Az H; clear H
    go_wp2
    go_meet
    case rel => exact ⟨_, (true), rS, H', ⟨by first | omega | exact Nat.le_refl _⟩, ⟨sU HO593.out⟩, ⟨bU0 HB.out⟩⟩
  case rest =>
   clear HC6; (try clear c1); (try clear c2); (try clear c2b0); (try clear c2b1); (try clear p2); (try clear c3); (try clear c4); (try clear c5); (try clear c11); (try clear c11b0); (try clear c11b1); obtain ⟨kq, x21_5, rfl, HA, HJ5, HO_3, HB⟩ := hcut
   cases kq with
   | zero => exact absurd HA.out (by simp [laws_FnFactorEach.j0])
   | succ kj5 =>
    have H := HA.out; clear HA; simp only [laws_FnFactorEach.j0] at H
    by_cases c12 : x21_5 = true
    ·
     subst c12
     have H1 : (some (t594 == t595)) = some r := by rw [if_pos rfl] at H; exact H
     clear H; have H := H1; clear H1; obtain rfl := Option.some.inj H
     go_wp2
     go_ret
     exact ⟨rE, bU0 HB.out⟩
    ·
     replace c12 := Bool.eq_false_iff.mpr c12; subst c12
     have H1 : ((impl_FactorCount.f kj5 t591).bind fun t596 => (if t594 = t596 then ((impl_FactorWhole.f kj5 t591).bind fun t597 => (if t597 ≤ t594 then ((impl_FactorWhole.f kj5 t591).bind fun t598 => (some (decide (t598 ≥ 0)))) else (some false))) else (some false))) = some r := by rw [if_neg (show ¬ (false = true) by decide)] at H; exact H
     clear H; have H := H1; clear H1; replace H := Option.bind_eq_some_iff.mp H; obtain ⟨t596, A130, H⟩ := H; replace H : (if t594 = t596 then ((impl_FactorWhole.f kj5 t591).bind fun t597 => (if t597 ≤ t594 then ((impl_FactorWhole.f kj5 t591).bind fun t598 => (some (decide (t598 ≥ 0)))) else (some false))) else (some false)) = some r := H; have A13 := Az A130; clear A130
     by_cases c14 : t594 = t596
     ·
      rw [if_pos c14] at H; have c14b0 := beq_iff_eq.mpr c14; have c14b1 := bne_eq_false_iff_eq.mpr c14; clear c14; replace H := Option.bind_eq_some_iff.mp H; obtain ⟨t597, A150, H⟩ := H; replace H : (if t597 ≤ t594 then ((impl_FactorWhole.f kj5 t591).bind fun t598 => (some (decide (t598 ≥ 0)))) else (some false)) = some r := H; have A15 := Az A150; clear A150
      by_cases c16 : t597 ≤ t594
      ·
       rw [if_pos c16] at H; have c16b0 := decide_eq_true c16; clear c16; replace H := Option.bind_eq_some_iff.mp H; obtain ⟨t598, A170, H⟩ := H; replace H : (some (decide (t598 ≥ 0))) = some r := H; have A17 := Az A170; clear A170; obtain rfl := Option.some.inj H; (try (have e25_ := Option.some.inj (A15.out.symm.trans A17.out); subst e25_))
       go_wp2_with (first | ((with_reducible refine gate_callee (f := 49) rfl ?_); refine goesL_ (some 27) rfl rfl Try.func49 (by kernel_rfl) rfl #[.slice Ao8 t591.length co8] rfl (by (try simp only [List.map_toArray, List.map_cons, List.map_nil]); first | done | rfl | (simp only [List.length_drop, List.length_take]; rfl)) ?_; (with_reducible refine (impl_FactorCount.calls kj5 _ _ t591 t596 _ ?side1 ?side2 A13.out).mono ?_); (case side1 => exact cU ((Kd.S_reads' HO_3.out).2.2)); (case side2 => exact (Kd.S_reads' HO_3.out).2.1); rintro e w18 ⟨rfl, hb⟩; refine ⟨_, rfl, ?_⟩; have n0 := Az (Kd.S_below (sU HO_3.out) hb); have n1 := Az (below_step (bU0 HB.out) hb); clear HO_3 HB; have HO_3 := n0; have HB := n1; clear n0 n1; (try clear hb); (try clear hb2); (try clear hk); (try clear hi)) | (go_at_call 44; (with_reducible refine (impl_FactorWhole.calls kj5 _ _ t591 t597 _ ?side1 ?side2 A15.out).mono ?_); (case side1 => exact cU ((Kd.S_reads' HO_3.out).2.2)); (case side2 => exact (Kd.S_reads' HO_3.out).2.1); rintro e w19 ⟨rfl, hb⟩; have n0 := Az (Kd.S_below (sU HO_3.out) hb); have n1 := Az (below_step (bU0 HB.out) hb); clear HO_3 HB; have HO_3 := n0; have HB := n1; clear n0 n1; (try clear hb); (try clear hb2); (try clear hk); (try clear hi)) | (go_at_call 44; (with_reducible refine (impl_FactorWhole.calls kj5 _ _ t591 t598 _ ?side1 ?side2 A17.out).mono ?_); (case side1 => exact cU ((Kd.S_reads' HO_3.out).2.2)); (case side2 => exact (Kd.S_reads' HO_3.out).2.1); rintro e w20 ⟨rfl, hb⟩; have n0 := Az (Kd.S_below (sU HO_3.out) hb); have n1 := Az (below_step (bU0 HB.out) hb); clear HO_3 HB; have HO_3 := n0; have HB := n1; clear n0 n1; (try clear hb); (try clear hb2); (try clear hk); (try clear hi)))
       go_ret
       exact ⟨rE, bU0 HB.out⟩
      ·
       rw [if_neg c16] at H; have c16b0 := decide_eq_false c16; clear c16; obtain rfl := Option.some.inj H
       go_wp2_with (first | ((with_reducible refine gate_callee (f := 49) rfl ?_); refine goesL_ (some 27) rfl rfl Try.func49 (by kernel_rfl) rfl #[.slice Ao8 t591.length co8] rfl (by (try simp only [List.map_toArray, List.map_cons, List.map_nil]); first | done | rfl | (simp only [List.length_drop, List.length_take]; rfl)) ?_; (with_reducible refine (impl_FactorCount.calls kj5 _ _ t591 t596 _ ?side1 ?side2 A13.out).mono ?_); (case side1 => exact cU ((Kd.S_reads' HO_3.out).2.2)); (case side2 => exact (Kd.S_reads' HO_3.out).2.1); rintro e w21 ⟨rfl, hb⟩; refine ⟨_, rfl, ?_⟩; have n0 := Az (Kd.S_below (sU HO_3.out) hb); have n1 := Az (below_step (bU0 HB.out) hb); clear HO_3 HB; have HO_3 := n0; have HB := n1; clear n0 n1; (try clear hb); (try clear hb2); (try clear hk); (try clear hi)) | (go_at_call 44; (with_reducible refine (impl_FactorWhole.calls kj5 _ _ t591 t597 _ ?side1 ?side2 A15.out).mono ?_); (case side1 => exact cU ((Kd.S_reads' HO_3.out).2.2)); (case side2 => exact (Kd.S_reads' HO_3.out).2.1); rintro e w22 ⟨rfl, hb⟩; have n0 := Az (Kd.S_below (sU HO_3.out) hb); have n1 := Az (below_step (bU0 HB.out) hb); clear HO_3 HB; have HO_3 := n0; have HB := n1; clear n0 n1; (try clear hb); (try clear hb2); (try clear hk); (try clear hi)))
       go_ret
       exact ⟨rE, bU0 HB.out⟩
     ·
      rw [if_neg c14] at H; have c14b0 := beq_eq_false_iff_ne.mpr c14; have c14b1 := bne_iff_ne.mpr c14; obtain rfl := Option.some.inj H
      go_wp2_with (first | ((with_reducible refine gate_callee (f := 49) rfl ?_); refine goesL_ (some 27) rfl rfl Try.func49 (by kernel_rfl) rfl #[.slice Ao8 t591.length co8] rfl (by (try simp only [List.map_toArray, List.map_cons, List.map_nil]); first | done | rfl | (simp only [List.length_drop, List.length_take]; rfl)) ?_; (with_reducible refine (impl_FactorCount.calls kj5 _ _ t591 t596 _ ?side1 ?side2 A13.out).mono ?_); (case side1 => exact cU ((Kd.S_reads' HO_3.out).2.2)); (case side2 => exact (Kd.S_reads' HO_3.out).2.1); rintro e w23 ⟨rfl, hb⟩; refine ⟨_, rfl, ?_⟩; have n0 := Az (Kd.S_below (sU HO_3.out) hb); have n1 := Az (below_step (bU0 HB.out) hb); clear HO_3 HB; have HO_3 := n0; have HB := n1; clear n0 n1; (try clear hb); (try clear hb2); (try clear hk); (try clear hi)))
      go_ret
      exact ⟨rE, bU0 HB.out⟩
def laws_FnFactorEach.Pure : Prop := ∀ (l0 : List Int), l0.length ≤ maxLen → l0.length * 1 ≤ 140737488351232 → (∀ x ∈ l0, (Lit.int .u8 x).wf = true) → ∃ k, laws_FnFactorEach.f k l0 = some true
theorem laws_FnFactorEach.walk (P : laws_FnFactorEach.Pure) (a0 : Option Addr) (len0 cap0 : Nat) (z0 : List Int) (w : World) (w0 : (a0 = none ∧ len0 = 0 ∧ cap0 = 0 ∧ z0 = []) ∨ ∃ x, a0 = some x ∧ len0 ≤ cap0 ∧ cap0 ≤ maxLen ∧ z0.length = cap0 ∧ (∀ i, i < z0.length → w.cell? (x.add i) = some (.int .u8 (z0.getD i 0))) ∧ ∀ n ∈ z0, (Lit.int .u8 n).wf = true) (y0 : len0 * 1 ≤ 140737488351232) :
  Calls Try.prog 11 #[.slice a0 len0 cap0] w fun e w' => e = .returned (.bool true) ∧ Below w.heap.size w w' := by
 obtain ⟨l0, rfl, hr0, hm0, hw0, hc0⟩ := ReadsInt.ofRowC w0; obtain ⟨k, h⟩ := P l0 hm0 y0 hw0
 refine (laws_FnFactorEach.calls k _ _ l0 true w (Kd.C_of_reads (d := (0 : Int)) (h1 := fun _ => rfl) hr0) hc0 h).mono ?_
 rintro e w' ⟨rfl, hd⟩
 exact ⟨rfl, hd⟩
end Go.Proofs.Ytggghijamfmenaa.PN

set_option linter.unusedVariables false
set_option linter.unusedSimpArgs false
namespace Go.Proofs.Ytggghijamfmenaa.PN
open Go.RowKit Go.Proofs.YtggghijamfmenaaW.PrintWords Go.Proofs.YtggghijamfmenaaW.PrintLast Go.Proofs.YtggghijamfmenaaW.PrintMore
theorem Ev.s {α : Type} {g : Nat → Option α} {r : α} (h : Ev (fun k => g (k + 1)) r) : Ev g r := Ev.step (fun _ => rfl) h
theorem Ev.const {α : Type} {o : Option α} {r : α} (h : o = some r) : Ev (fun _ => o) r := ⟨0, fun _ _ => h⟩
theorem Ev.uniq {α : Type} {g : Nat → Option α} {r r' : α} (h : Ev g r) (h' : Ev g r') : r = r' := by
  obtain ⟨K, h⟩ := h
  obtain ⟨K', h'⟩ := h'
  have h1 := h (max K K') (by omega)
  rw [h' (max K K') (by omega)] at h1
  exact (Option.some.inj h1).symm
theorem w64 {x : Int} (h1 : -9223372036854775808 ≤ x) (h2 : x < 9223372036854775808) : wrap64 x = x := by unfold wrap64; omega
theorem w64n {i : Nat} (h : i < 4611686018427387904) : wrap64 ((i : Int) + 1) = ((i + 1 : Nat) : Int) := by rw [w64 (by omega) (by omega)]; omega
theorem rd_lt (l : List Int) (i : Nat) (h : i < l.length) : rd l (i : Int) = l[i] := by
  unfold rd
  rw [Int.toNat_natCast, List.getD_eq_getElem?_getD, List.getElem?_eq_getElem h]
  rfl
def stl (n : Nat) : List Int := (List.range n).map fun (i : Nat) => (i : Int)
theorem stl_length (n : Nat) : (stl n).length = n := by simp [stl]
theorem stl_rd (n i : Nat) (h : i < n) : rd (stl n) i = i := by
  rw [rd_lt _ _ (by rw [stl_length]; exact h)]
  simp [stl]
theorem stl_succ (n : Nat) : stl (n + 1) = stl n ++ [(n : Int)] := by simp [stl, List.range_succ]
theorem rd_set_self (l : List Int) (i : Nat) (v : Int) (h : i < l.length) : rd (l.set i v) i = v := by
  rw [rd_lt _ _ (by simpa using h)]; simp
theorem rd_set_ne (l : List Int) (i j : Nat) (v : Int) (h : i ≠ j) : rd (l.set i v) j = rd l j := by
  unfold rd
  rw [Int.toNat_natCast, List.getD_eq_getElem?_getD, List.getD_eq_getElem?_getD, List.getElem?_set_ne h]
theorem rd_app_lt (l m : List Int) (i : Nat) (h : i < l.length) : rd (l ++ m) i = rd l i := by
  unfold rd
  rw [Int.toNat_natCast, List.getD_eq_getElem?_getD, List.getD_eq_getElem?_getD, List.getElem?_append_left h]
theorem list_ext (a b : List Int) (h : a.length = b.length) (hr : ∀ i : Nat, i < a.length → rd a i = rd b i) : a = b := by
  refine List.ext_getElem h fun i h1 h2 => ?_
  have := hr i h1
  rwa [rd_lt a i h1, rd_lt b i h2] at this
theorem same_run (n : Nat) (hn : n ≤ 1048576) : ∀ (d i : Nat), n - i = d → i ≤ n → Ev (fun k => spec_l1Same.l0 k n (stl i) i) (stl n)
  | 0, i, hd, hi => by
    refine Ev.s ?_
    simp only [spec_l1Same.l0, show ¬ (i : Int) < (n : Int) by omega, if_false]
    have : i = n := by omega
    subst this
    exact Ev.const rfl
  | d + 1, i, hd, hi => by
    refine Ev.s ?_
    simp only [spec_l1Same.l0, show (i : Int) < (n : Int) by omega, if_true, stl_length, show i < 17592186044416 by omega]
    rw [w64 (x := (i : Int) + 1) (by omega) (by omega), show ((i : Int) + 1) = ((i + 1 : Nat) : Int) by omega, ← stl_succ]
    exact same_run n hn d (i + 1) (by omega) (by omega)
theorem same_ev (n : Nat) (hn : n ≤ 1048576) : Ev (fun k => spec_l1Same.f k n) (stl n) := by
  unfold spec_l1Same.f
  exact same_run n hn n 0 (by omega) (by omega)
theorem still_run (n : Nat) (hn : n ≤ 1048576) : ∀ (d i : Nat) (l : List Int), n - i = d → i ≤ n → l.length = n → l.take i = (stl n).take i → Ev (fun k => impl_still.l0 k l n i) (stl n)
  | 0, i, l, hd, hi, hl, ht => by
    refine Ev.s ?_
    simp only [impl_still.l0, show ¬ (i : Int) < (n : Int) by omega, if_false]
    have : i = n := by omega
    subst this
    have e : (stl i).take i = stl i := by rw [List.take_of_length_le]; rw [stl_length]; exact Nat.le_refl _
    rw [e, List.take_of_length_le (by omega)] at ht
    exact Ev.const (by rw [ht])
  | d + 1, i, l, hd, hi, hl, ht => by
    have hlt : i < l.length := by omega
    refine Ev.s ?_
    simp only [impl_still.l0, show (i : Int) < (n : Int) by omega, show (0 : Int) ≤ i by omega, show (i : Int) < (l.length : Int) by omega, if_true]
    rw [w64 (x := (i : Int) + 1) (by omega) (by omega), show ((i : Int) + 1) = ((i + 1 : Nat) : Int) by omega, Int.toNat_natCast]
    refine still_run n hn d (i + 1) _ (by omega) (by omega) (by simpa using hl) ?_
    have h2 : i < (stl n).length := by rw [stl_length]; omega
    rw [List.take_succ_eq_append_getElem (by simpa using hlt), List.take_succ_eq_append_getElem h2, List.take_set_of_le (Nat.le_refl _), ht]
    simp [stl]
theorem still_ev (n : Nat) (hn : n ≤ 1048576) : Ev (fun k => impl_still.f k n) (stl n) := by
  unfold impl_still.f
  have h1 : n ≤ 35184372088832 := by omega
  have h2 : (0 : Int) ≤ (n : Int) := by omega
  simp only [Int.toNat_natCast, h1, h2, if_true, Option.bind_some, List.length_replicate]
  exact still_run n hn n 0 _ (by omega) (by omega) (by simp) (by simp)
def inR (n : Nat) (p : List Int) : Prop := p.length = n ∧ ∀ i : Nat, i < n → 0 ≤ rd p i ∧ rd p i < n
def closedL (ps : List (List Int)) (n : Nat) (S : Nat → Prop) : Prop := ∀ p ∈ ps, ∀ k, k < n → (S k ↔ S (rd p k).toNat)
def Reach (ps : List (List Int)) (n : Nat) (i j : Nat) : Prop := ∀ S, closedL ps n S → (S i ↔ S j)
theorem Reach.refl (ps : List (List Int)) (n i : Nat) : Reach ps n i i := fun S _ => Iff.rfl
theorem Reach.symm {ps : List (List Int)} {n i j : Nat} (h : Reach ps n i j) : Reach ps n j i := fun S c => (h S c).symm
theorem Reach.trans {ps : List (List Int)} {n i j k : Nat} (h : Reach ps n i j) (h' : Reach ps n j k) : Reach ps n i k := fun S c => (h S c).trans (h' S c)
theorem Reach.step {ps : List (List Int)} {n : Nat} {p : List Int} (hp : p ∈ ps) {k : Nat} (hk : k < n) : Reach ps n k (rd p k).toNat := fun S c => c p hp k hk
def orbI (ps : List (List Int)) (n : Nat) (o : List Int) : Prop := o.length = n ∧ ∀ i : Nat, i < n → 0 ≤ rd o i ∧ rd o i ≤ i ∧ Reach ps n (rd o i).toNat i
def orbOk (ps : List (List Int)) (n : Nat) (o : List Int) : Prop := orbI ps n o ∧ ∀ p ∈ ps, ∀ i : Nat, i < n → rd o (rd p i) = rd o i
theorem stl_orbI (ps : List (List Int)) (n : Nat) : orbI ps n (stl n) := by
  refine ⟨stl_length n, fun i hi => ?_⟩
  rw [stl_rd n i hi]
  exact ⟨by omega, by omega, by rw [Int.toNat_natCast]; exact Reach.refl _ _ _⟩
theorem orbOk_const {ps : List (List Int)} {n : Nat} {o : List Int} (h : orbOk ps n o) (hp : ∀ p ∈ ps, inR n p) {i j : Nat} (hr : Reach ps n i j) : rd o i = rd o j := by
  have := hr (fun k => rd o k = rd o i) (fun p hp' k hk => by
    have h1 := h.2 p hp' k hk
    have h2 := (hp p hp').2 k hk
    have e : (((rd p k).toNat : Nat) : Int) = rd p k := by omega
    show (rd o k = rd o i) ↔ (rd o (((rd p k).toNat : Nat) : Int) = rd o i)
    rw [e, h1])
  exact (this.1 rfl).symm
theorem mn_le (a b : Int) : mn a b ≤ a ∧ mn a b ≤ b ∧ (mn a b = a ∨ mn a b = b) := by unfold mn; split <;> omega
theorem orbI_put {ps : List (List Int)} {n : Nat} {o : List Int} (h : orbI ps n o) {i : Nat} (hi : i < n) {v : Int} (h0 : 0 ≤ v) (h1 : v ≤ i) (hr : Reach ps n v.toNat i) : orbI ps n (o.set i v) := by
  refine ⟨by simpa using h.1, fun j hj => ?_⟩
  by_cases e : i = j
  · subst e
    rw [rd_set_self _ _ _ (by rw [h.1]; exact hi)]
    exact ⟨h0, h1, hr⟩
  · rw [rd_set_ne _ _ _ _ e]
    exact h.2 j hj
def tot : List Int → Int
  | [] => 0
  | x :: xs => x + tot xs
theorem tot_set : ∀ (l : List Int) (i : Nat) (v : Int), i < l.length → tot (l.set i v) + rd l i = tot l + v
  | [], i, v, h => by simp at h
  | x :: xs, 0, v, h => by simp [tot, rd]; omega
  | x :: xs, i + 1, v, h => by
    have ih := tot_set xs i v (by simpa using h)
    have e : rd (x :: xs) ((i + 1 : Nat) : Int) = rd xs i := by unfold rd; rw [Int.toNat_natCast, Int.toNat_natCast]; rfl
    rw [e]
    simp only [List.set_cons_succ, tot]
    omega
theorem tot_nonneg : ∀ (l : List Int), (∀ i : Nat, i < l.length → 0 ≤ rd l i) → 0 ≤ tot l
  | [], _ => by simp [tot]
  | x :: xs, h => by
    have h0 := h 0 (by simp)
    have e0 : rd (x :: xs) ((0 : Nat) : Int) = x := rfl
    rw [e0] at h0
    have := tot_nonneg xs fun i hi => by
      have := h (i + 1) (by simpa using hi)
      have e : rd (x :: xs) ((i + 1 : Nat) : Int) = rd xs i := by unfold rd; rw [Int.toNat_natCast, Int.toNat_natCast]; rfl
      rwa [e] at this
    simp only [tot]
    omega
theorem rdL_nth (ps : List (List Int)) (q : Nat) (h : q < ps.length) : rd_L1 ps (q : Int) = ps[q] := by
  have e : (q : Int).toNat = q := Int.toNat_natCast q
  unfold rd_L1
  rw [e, List.getD_eq_getElem?_getD, List.getElem?_eq_getElem h]
  rfl
theorem implOrb_in (ps : List (List Int)) (n : Nat) (hn : n ≤ 12) (q : Nat) (hq : q < ps.length) (hL : ps.length ≤ 1048576) (P : List Int) (hP : P ∈ ps) (pl : P.length = n) (pr : ∀ i : Nat, i < n → 0 ≤ rd P i ∧ rd P i < n) : ∀ (d i : Nat) (o : List Int) (g : Bool), n - i = d → i ≤ n → orbI ps n o →
    ∃ (o' : List Int) (g' : Bool), orbI ps n o' ∧ (∀ r, Ev (fun k => impl_orbits.l1 k ps o' g' ps ps.length ((q + 1 : Nat) : Int)) r → Ev (fun k => impl_orbits.l2 k ps o g ps ps.length q P n i) r) ∧ tot o' ≤ tot o ∧
      (g' = true → g = true ∨ tot o' < tot o) ∧ (g' = false → g = false ∧ o' = o ∧ ∀ j : Nat, i ≤ j → j < n → rd o (rd P j) = rd o j)
  | 0, i, o, g, hd, hi, ho => by
    refine ⟨o, g, ho, fun r h => Ev.s ?_, by omega, fun h => .inl h, fun h => ⟨h, rfl, fun j h1 h2 => by omega⟩⟩
    simp only [impl_orbits.l2, show ¬ (i : Int) < (n : Int) by omega, if_false]
    rw [w64 (x := (q : Int) + 1) (by omega) (by omega), show ((q : Int) + 1) = ((q + 1 : Nat) : Int) by omega]
    exact h
  | d + 1, i, o, g, hd, hi, ho => by
    have hlt : i < n := by omega
    have hd1 : n - (i + 1) = d := by omega
    have hw : wrap64 ((i : Int) + 1) = ((i + 1 : Nat) : Int) := by rw [w64 (by omega) (by omega)]; omega
    have hr := pr i hlt
    have hst := Reach.step hP hlt
    have hlen := ho.1
    obtain ⟨t, ht⟩ : ∃ t : Nat, rd P i = t := ⟨(rd P i).toNat, by omega⟩
    rw [ht, Int.toNat_natCast] at hst
    have htn : t < n := by omega
    obtain ⟨i0, i1, i2⟩ := ho.2 i hlt
    obtain ⟨t0, t1, t2⟩ := ho.2 t htn
    obtain ⟨hm1, hm2, hm3⟩ := mn_le (rd o i) (rd o t)
    have g1 : (i : Int) < (n : Int) := by omega
    have g2 : (0 : Int) ≤ (i : Int) := by omega
    have g3 : (0 : Int) ≤ (t : Int) := by omega
    have g4 : (t : Int) < (n : Int) := by omega
    obtain ⟨v, hv⟩ : ∃ v, mn (rd o i) (rd o t) = v := ⟨_, rfl⟩
    rw [hv] at hm1 hm2 hm3
    by_cases hc : rd o i = v ∧ rd o t = v
    · obtain ⟨c1, c2⟩ := hc
      obtain ⟨o', g', a1, a2, a3, a4, a5⟩ := implOrb_in ps n hn q hq hL P hP pl pr d (i + 1) o g hd1 hlt ho
      refine ⟨o', g', a1, fun r h => Ev.s ?_, a3, a4, fun h => ?_⟩
      · simp only [impl_orbits.l2, g1, g2, g3, g4, pl, hlen, ht, hv, if_true, hw]
        simp only [c1, c2, if_true]
        exact a2 r h
      · obtain ⟨b1, b2, b3⟩ := a5 h
        refine ⟨b1, b2, fun j h1 h2 => ?_⟩
        by_cases e : j = i
        · rw [e, ht]; omega
        · exact b3 j (by omega) h2
    · have hv0 : 0 ≤ v := by omega
      have hrv : Reach ps n v.toNat i := by
        rcases hm3 with e | e
        · rw [e]; exact i2
        · rw [e]; exact t2.trans hst.symm
      have ho1 := orbI_put ho hlt hv0 (by omega) hrv
      have ho2 := orbI_put ho1 htn hv0 (by omega) (hrv.trans hst)
      have hd2 : tot ((o.set i v).set t v) < tot o := by
        have z1 := tot_set o i v (by omega)
        have z2 := tot_set (o.set i v) t v (by rw [List.length_set]; omega)
        by_cases e : i = t
        · subst e
          rw [rd_set_self _ _ _ (by omega)] at z2
          omega
        · rw [rd_set_ne _ _ _ _ e] at z2
          omega
      obtain ⟨o', g', a1, a2, a3, a4, a5⟩ := implOrb_in ps n hn q hq hL P hP pl pr d (i + 1) ((o.set i v).set t v) true hd1 hlt ho2
      refine ⟨o', g', a1, fun r h => Ev.s ?_, by omega, fun h => .inr (by omega), fun h => ?_⟩
      · have hgo := a2 r h
        by_cases c1 : rd o i = v
        · have c2 : ¬ rd o t = v := fun e => hc ⟨c1, e⟩
          simp only [impl_orbits.l2, g1, g2, g3, g4, pl, hlen, ht, hv, if_true, hw, Int.toNat_natCast]
          simp only [c1, c2, if_true, if_false]
          exact hgo
        · simp only [impl_orbits.l2, g1, g2, g3, g4, pl, hlen, ht, hv, if_true, hw, Int.toNat_natCast]
          simp only [c1, if_false]
          exact hgo
      · have := (a5 h).1
        cases this
theorem implOrb_pass (ps : List (List Int)) (n : Nat) (hn : n ≤ 12) (hL : ps.length ≤ 1048576) (hp : ∀ p ∈ ps, inR n p) : ∀ (d q : Nat) (o : List Int) (g : Bool), ps.length - q = d → q ≤ ps.length → orbI ps n o →
    ∃ (o' : List Int) (g' : Bool), orbI ps n o' ∧ (∀ r, Ev (fun k => impl_orbits.l0 k ps o' g') r → Ev (fun k => impl_orbits.l1 k ps o g ps ps.length q) r) ∧ tot o' ≤ tot o ∧
      (g' = true → g = true ∨ tot o' < tot o) ∧ (g' = false → g = false ∧ o' = o ∧ ∀ z : Nat, q ≤ z → z < ps.length → ∀ j : Nat, j < n → rd o (rd (rd_L1 ps z) j) = rd o j)
  | 0, q, o, g, hd, hi, ho => by
    refine ⟨o, g, ho, fun r h => Ev.s ?_, by omega, fun h => .inl h, fun h => ⟨h, rfl, fun j h1 h2 => by omega⟩⟩
    simp only [impl_orbits.l1, show ¬ (q : Int) < (ps.length : Int) by omega, if_false]
    exact h
  | d + 1, q, o, g, hd, hi, ho => by
    have hlt : q < ps.length := by omega
    have hd1 : ps.length - (q + 1) = d := by omega
    have hP : rd_L1 ps q ∈ ps := by rw [rdL_nth ps q hlt]; exact List.getElem_mem hlt
    obtain ⟨pl, pr⟩ := hp _ hP
    obtain ⟨o1, b1, c1, c2, c3, c4, c5⟩ := implOrb_in ps n hn q hlt hL _ hP pl pr n 0 o g (by omega) (by omega) ho
    obtain ⟨o2, b2, e1, e2, e3, e4, e5⟩ := implOrb_pass ps n hn hL hp d (q + 1) o1 b1 hd1 hlt c1
    refine ⟨o2, b2, e1, fun r h => Ev.s ?_, by omega, fun h => ?_, fun h => ?_⟩
    · simp only [impl_orbits.l1, show (q : Int) < (ps.length : Int) by omega, show (0 : Int) ≤ (q : Int) by omega, if_true, pl]
      exact c2 r (e2 r h)
    · rcases e4 h with z | z
      · rcases c4 z with y | y
        · exact .inl y
        · exact .inr (by omega)
      · exact .inr (by omega)
    · obtain ⟨f1, f2, f3⟩ := e5 h
      obtain ⟨g1, g2, g3⟩ := c5 f1
      refine ⟨g1, f2.trans g2, fun z hz hz' j hj => ?_⟩
      by_cases e : z = q
      · rw [e]; exact g3 j (by omega) hj
      · have := f3 z (by omega) hz' j hj
        rwa [g2] at this
theorem implOrb_loop (ps : List (List Int)) (n : Nat) (hn : n ≤ 12) (hL : ps.length ≤ 1048576) (hp : ∀ p ∈ ps, inR n p) : ∀ (m : Nat) (o : List Int), tot o ≤ m → orbI ps n o → ∃ o', orbOk ps n o' ∧ Ev (fun k => impl_orbits.l0 k ps o true) o' := by
  intro m
  induction m using Nat.strongRecOn with
  | _ m ih =>
    intro o hm ho
    obtain ⟨o1, g1, c1, c2, c3, c4, c5⟩ := implOrb_pass ps n hn hL hp ps.length 0 o false (by omega) (by omega) ho
    cases g1 with
    | false =>
      obtain ⟨_, e2, e3⟩ := c5 rfl
      refine ⟨o, ⟨ho, fun p hp' i hi => ?_⟩, Ev.s ?_⟩
      · obtain ⟨z, hz, rfl⟩ := List.mem_iff_getElem.1 hp'
        have := e3 z (by omega) hz i hi
        rwa [rdL_nth ps z hz] at this
      · simp only [impl_orbits.l0, if_true]
        refine c2 o (Ev.s ?_)
        simp only [impl_orbits.l0, Bool.false_eq_true, if_false]
        exact Ev.const (by rw [e2])
    | true =>
      have hlt : tot o1 < tot o := by
        rcases c4 rfl with z | z
        · cases z
        · exact z
      have h0 := tot_nonneg o1 fun i hi => (c1.2 i (by rw [← c1.1]; exact hi)).1
      obtain ⟨o', h1, h2⟩ := ih (tot o1).toNat (by omega) o1 (by omega) c1
      refine ⟨o', h1, Ev.s ?_⟩
      simp only [impl_orbits.l0, if_true]
      exact c2 o' h2
theorem implOrb_ev (ps : List (List Int)) (n : Nat) (hn : n ≤ 12) (h0 : 0 < ps.length) (hL : ps.length ≤ 1048576) (hp : ∀ p ∈ ps, inR n p) : ∃ o, orbOk ps n o ∧ Ev (fun k => impl_orbits.f k ps) o := by
  obtain ⟨o, h1, h2⟩ := implOrb_loop ps n hn hL hp (tot (stl n)).toNat (stl n) (by have := tot_nonneg (stl n) (fun i hi => by rw [stl_rd n i (by rwa [stl_length] at hi)]; omega); omega) (stl_orbI ps n)
  refine ⟨o, h1, ?_⟩
  unfold impl_orbits.f
  have hz : (rd_L1 ps 0).length = n := by
    have := rdL_nth ps 0 h0
    rw [show ((0 : Nat) : Int) = 0 from rfl] at this
    rw [this]
    exact (hp _ (List.getElem_mem h0)).1
  simp only [show (0 : Int) < (ps.length : Int) by omega, if_true, hz]
  exact Ev.bind (still_ev n (by omega)) h2
def okP : Int → List Int → Bool
  | _, [] => true
  | prev, x :: xs => decide (1 ≤ x) && decide (x ≤ 6) && decide (x ≤ prev) && okP x xs
def totP : List Int → Int
  | [] => 0
  | x :: xs => x + totP xs
theorem okP_tot : ∀ (p : List Int) (prev : Int), okP prev p = true → (p.length : Int) ≤ totP p
  | [], _, _ => Int.le_refl _
  | x :: xs, prev, h => by
    simp only [okP, Bool.and_eq_true, decide_eq_true_eq] at h
    have := okP_tot xs x h.2
    simp only [totP, List.length_cons]
    omega
theorem okP_at : ∀ (p : List Int) (prev : Int), okP prev p = true → ∀ x ∈ p, 1 ≤ x ∧ x ≤ 6
  | [], _, _, x, hx => by simp at hx
  | y :: ys, prev, h, x, hx => by
    simp only [okP, Bool.and_eq_true, decide_eq_true_eq] at h
    rcases List.mem_cons.1 hx with rfl | hx
    · omega
    · exact okP_at ys y h.2 x hx
def vP (p : List Int) : Bool := okP 6 p && (decide (1 ≤ totP p) && decide (totP p ≤ 6))
theorem drop_rd (p : List Int) (i : Nat) (h : i < p.length) : p.drop i = rd p (i : Int) :: p.drop (i + 1) := by rw [List.drop_eq_getElem_cons h, rd_lt p i h]
theorem l6In_ev (a b c : Int) : spec_l6In.f a b c = some (decide (b ≤ a ∧ a ≤ c)) := by
  unfold spec_l6In.f
  by_cases h : b ≤ a
  · simp [show a ≥ b from h, h]
  · simp [show ¬ a ≥ b from h, h]
theorem implPV_run (p : List Int) (hl : p.length ≤ 1048576) : ∀ (d i : Nat) (s prev : Int), p.length - i = d → i ≤ p.length → 0 ≤ s → s ≤ 6 * i → (i = 0 → prev = 6) → (0 < i → prev = rd p ((i : Int) - 1)) →
    Ev (fun k => impl_PartsValid.l0 k p s p p.length i) (okP prev (p.drop i) && (decide (1 ≤ s + totP (p.drop i)) && decide (s + totP (p.drop i) ≤ 6)))
  | 0, i, s, prev, hd, hi, h0, h1, e0, e1 => by
    refine Ev.s ?_
    have e : i = p.length := by omega
    rw [e, List.drop_length]
    simp only [impl_PartsValid.l0, show ¬ (p.length : Int) < (p.length : Int) by omega, if_false, okP, totP, Int.add_zero, Bool.true_and]
    by_cases h : s ≥ 1
    · simp only [h, if_true, show (1 : Int) ≤ s from h, decide_true, Bool.true_and]; exact Ev.const rfl
    · simp only [h, if_false, show ¬ (1 : Int) ≤ s from h, decide_false, Bool.false_and]; exact Ev.const rfl
  | d + 1, i, s, prev, hd, hi, h0, h1, e0, e1 => by
    have hlt : i < p.length := by omega
    rw [drop_rd p i hlt]
    refine Ev.s ?_
    simp only [impl_PartsValid.l0, show (i : Int) < (p.length : Int) by omega, show (0 : Int) ≤ i by omega, if_true, okP, totP]
    by_cases a : rd p (i : Int) < 1
    · simp only [a, if_true, show ¬ (1 : Int) ≤ rd p (i : Int) by omega, decide_false, Bool.false_and]; exact Ev.const rfl
    by_cases b : rd p (i : Int) > 6
    · simp only [a, b, if_true, if_false, show ¬ rd p (i : Int) ≤ 6 by omega, decide_false, Bool.false_and, Bool.and_false]; exact Ev.const rfl
    have hs : wrap64 (s + rd p (i : Int)) = s + rd p (i : Int) := w64 (by omega) (by omega)
    have ih := implPV_run p hl d (i + 1) (s + rd p (i : Int)) (rd p (i : Int)) (by omega) (by omega) (by omega) (by omega) (fun h => by omega) (fun _ => by rw [show (((i + 1 : Nat) : Int) - 1) = (i : Int) by omega])
    rw [Int.add_assoc] at ih
    simp only [a, b, if_false, hs, show (1 : Int) ≤ rd p (i : Int) by omega, show rd p (i : Int) ≤ 6 by omega, decide_true, Bool.true_and]
    rcases i with _ | i
    · have := e0 rfl
      subst this
      simp only [show rd p ((0 : Nat) : Int) ≤ 6 by omega, decide_true, Bool.true_and, show ¬ (((0 : Nat) : Int) > 0) by omega, if_false]
      rw [w64n (by omega)]
      exact ih
    · have e2 := e1 (by omega)
      have hw : wrap64 (((i + 1 : Nat) : Int) - 1) = (((i + 1 : Nat) : Int) - 1) := w64 (by omega) (by omega)
      simp only [show (((i + 1 : Nat) : Int) > 0) by omega, hw, show (0 : Int) ≤ ((i + 1 : Nat) : Int) - 1 by omega, show ((i + 1 : Nat) : Int) - 1 < (p.length : Int) by omega, if_true, ← e2]
      by_cases c : rd p ((i + 1 : Nat) : Int) > prev
      · simp only [c, if_true, show ¬ rd p ((i + 1 : Nat) : Int) ≤ prev by omega, decide_false, Bool.false_and]; exact Ev.const rfl
      · simp only [c, if_false, show rd p ((i + 1 : Nat) : Int) ≤ prev by omega, decide_true, Bool.true_and]
        rw [w64n (by omega)]
        exact ih
theorem implPV_ev (p : List Int) (hl : p.length ≤ 1048576) : Ev (fun k => impl_PartsValid.f k p) (vP p) := by
  unfold impl_PartsValid.f vP
  have h := implPV_run p hl p.length 0 0 6 (by omega) (by omega) (by omega) (by omega) (fun _ => rfl) (fun h => by omega)
  simpa using h
theorem specPV_run (p : List Int) (hl : p.length ≤ 1048576) : ∀ (d i : Nat) (s prev : Int), p.length - i = d → i ≤ p.length → 0 ≤ s → s ≤ 6 → (i = 0 → prev = 6) → (0 < i → prev = rd p ((i : Int) - 1)) →
    Ev (fun k => spec_PartsValid.l0 k p s i) (okP prev (p.drop i) && (decide (1 ≤ s + totP (p.drop i)) && decide (s + totP (p.drop i) ≤ 6)))
  | 0, i, s, prev, hd, hi, h0, h1, e0, e1 => by
    refine Ev.s ?_
    have e : i = p.length := by omega
    rw [e, List.drop_length]
    simp only [spec_PartsValid.l0, show ¬ (p.length : Int) < (p.length : Int) by omega, if_false, okP, totP, Int.add_zero, Bool.true_and, show s ≤ 6 from h1, decide_true, Bool.and_true]
    exact Ev.const (by congr 1)
  | d + 1, i, s, prev, hd, hi, h0, h1, e0, e1 => by
    have hlt : i < p.length := by omega
    rw [drop_rd p i hlt]
    refine Ev.s ?_
    simp only [spec_PartsValid.l0, show (i : Int) < (p.length : Int) by omega, show (0 : Int) ≤ i by omega, if_true, okP, totP, l6In_ev, Option.bind_some]
    by_cases a : 1 ≤ rd p (i : Int) ∧ rd p (i : Int) ≤ 6
    · have hs : wrap64 (s + rd p (i : Int)) = s + rd p (i : Int) := w64 (by omega) (by omega)
      have fin : ∀ (c : Bool), Ev (fun k => spec_PartsValid.j1 k p s i (!c)) (c && okP (rd p (i : Int)) (p.drop (i + 1)) && (decide (1 ≤ s + (rd p (i : Int) + totP (p.drop (i + 1)))) && decide (s + (rd p (i : Int) + totP (p.drop (i + 1))) ≤ 6))) := by
        intro c
        refine Ev.s ?_
        cases c with
        | false =>
          simp only [spec_PartsValid.j1, Bool.not_false, if_true, Bool.false_and]
          exact Ev.const rfl
        | true =>
          simp only [spec_PartsValid.j1, Bool.not_true, Bool.false_eq_true, if_false, show (0 : Int) ≤ (i : Int) by omega, show (i : Int) < (p.length : Int) by omega, if_true, hs, Bool.true_and]
          by_cases b : s + rd p (i : Int) > 6
          · simp only [b, if_true]
            refine Ev.const (congrArg some ?_)
            symm
            by_cases o : okP (rd p (i : Int)) (p.drop (i + 1)) = true
            · have := okP_tot _ _ o
              simp only [show ¬ s + (rd p (i : Int) + totP (p.drop (i + 1))) ≤ 6 by omega, decide_false, Bool.and_false]
            · rw [Bool.not_eq_true] at o
              rw [o, Bool.false_and]
          · simp only [b, if_false]
            rw [w64n (by omega), ← Int.add_assoc]
            exact specPV_run p hl d (i + 1) (s + rd p (i : Int)) (rd p (i : Int)) (by omega) (by omega) (by omega) (by omega) (fun h => by omega) (fun _ => by rw [show (((i + 1 : Nat) : Int) - 1) = (i : Int) by omega])
      simp only [a, and_self, decide_true, if_true, a.1, a.2, Bool.true_and]
      rcases i with _ | i
      · have := e0 rfl
        subst this
        simp only [show rd p ((0 : Nat) : Int) ≤ 6 from a.2, decide_true, show ¬ (((0 : Nat) : Int) > 0) by omega, if_false]
        exact fin true
      · have e2 := e1 (by omega)
        have hw : wrap64 (((i + 1 : Nat) : Int) - 1) = (((i + 1 : Nat) : Int) - 1) := w64 (by omega) (by omega)
        simp only [show (((i + 1 : Nat) : Int) > 0) by omega, hw, show (0 : Int) ≤ ((i + 1 : Nat) : Int) - 1 by omega, show ((i + 1 : Nat) : Int) - 1 < (p.length : Int) by omega, if_true, ← e2]
        have f := fin (decide (rd p ((i + 1 : Nat) : Int) ≤ prev))
        rw [show (!decide (rd p ((i + 1 : Nat) : Int) ≤ prev)) = decide (rd p ((i + 1 : Nat) : Int) > prev) by
          by_cases c : rd p ((i + 1 : Nat) : Int) ≤ prev
          · rw [decide_eq_true c, decide_eq_false (show ¬ rd p ((i + 1 : Nat) : Int) > prev by omega)]; rfl
          · rw [decide_eq_false c, decide_eq_true (show rd p ((i + 1 : Nat) : Int) > prev by omega)]; rfl] at f
        exact f
    · simp only [a, decide_false, Bool.false_eq_true, if_false]
      have hF : (decide (1 ≤ rd p (i : Int)) && decide (rd p (i : Int) ≤ 6)) = false := by
        by_cases b : 1 ≤ rd p (i : Int)
        · simp [b, show ¬ rd p (i : Int) ≤ 6 from fun h => a ⟨b, h⟩]
        · simp [b]
      rw [hF]
      refine Ev.s ?_
      simp only [spec_PartsValid.j1, if_true, Bool.false_and]
      exact Ev.const rfl
theorem specPV_ev (p : List Int) (hl : p.length ≤ 1048576) : Ev (fun k => spec_PartsValid.f k p) (vP p) := by
  unfold spec_PartsValid.f vP
  have h := specPV_run p hl p.length 0 0 6 (by omega) (by omega) (by omega) (by omega) (fun _ => rfl) (fun h => by omega)
  simpa using h
theorem vP_len (p : List Int) (h : vP p = true) : p.length ≤ 6 ∧ 1 ≤ totP p ∧ totP p ≤ 6 ∧ ∀ x ∈ p, 1 ≤ x ∧ x ≤ 6 := by
  simp only [vP, Bool.and_eq_true, decide_eq_true_eq] at h
  have := okP_tot _ _ h.1
  exact ⟨by omega, h.2.1, h.2.2, okP_at _ _ h.1⟩
theorem implSum_run (p : List Int) (hl : p.length ≤ 6) (h6 : ∀ x ∈ p, 1 ≤ x ∧ x ≤ 6) : ∀ (d i : Nat) (s : Int), p.length - i = d → i ≤ p.length → 0 ≤ s → s ≤ 6 * i → Ev (fun k => impl_sumOf.l0 k s p p.length i) (s + totP (p.drop i))
  | 0, i, s, hd, hi, h0, h1 => by
    refine Ev.s ?_
    have e : i = p.length := by omega
    rw [e, List.drop_length]
    simp only [impl_sumOf.l0, show ¬ (p.length : Int) < (p.length : Int) by omega, if_false, totP, Int.add_zero]
    exact Ev.const rfl
  | d + 1, i, s, hd, hi, h0, h1 => by
    have hlt : i < p.length := by omega
    have hx := h6 _ (List.getElem_mem hlt)
    rw [← rd_lt p i hlt] at hx
    rw [drop_rd p i hlt]
    refine Ev.s ?_
    simp only [impl_sumOf.l0, show (i : Int) < (p.length : Int) by omega, show (0 : Int) ≤ i by omega, if_true, totP]
    rw [w64n (by omega), w64 (x := s + rd p (i : Int)) (by omega) (by omega), ← Int.add_assoc]
    exact implSum_run p hl h6 d (i + 1) _ (by omega) (by omega) (by omega) (by omega)
theorem implSum_ev (p : List Int) (h : vP p = true) : Ev (fun k => impl_sumOf.f k p) (totP p) := by
  have h2 := vP_len p h
  unfold impl_sumOf.f
  have h := implSum_run p h2.1 h2.2.2.2 p.length 0 0 (by omega) (by omega) (by omega) (by omega)
  simpa using h
theorem specSum_run (p : List Int) (hl : p.length ≤ 6) (h6 : ∀ x ∈ p, 0 ≤ x ∧ x ≤ 6) : ∀ (d i : Nat) (s : Int), p.length - i = d → i ≤ p.length → 0 ≤ s → s ≤ 6 * i → Ev (fun k => spec_l5Sum.l0 k p s i) (s + totP (p.drop i))
  | 0, i, s, hd, hi, h0, h1 => by
    refine Ev.s ?_
    have e : i = p.length := by omega
    rw [e, List.drop_length]
    simp only [spec_l5Sum.l0, show ¬ (p.length : Int) < (p.length : Int) by omega, if_false, totP, Int.add_zero]
    exact Ev.const rfl
  | d + 1, i, s, hd, hi, h0, h1 => by
    have hlt : i < p.length := by omega
    have hx := h6 _ (List.getElem_mem hlt)
    rw [← rd_lt p i hlt] at hx
    rw [drop_rd p i hlt]
    refine Ev.s ?_
    simp only [spec_l5Sum.l0, show (i : Int) < (p.length : Int) by omega, show (0 : Int) ≤ i by omega, if_true, totP]
    rw [w64n (by omega), w64 (x := s + rd p (i : Int)) (by omega) (by omega), ← Int.add_assoc]
    exact specSum_run p hl h6 d (i + 1) _ (by omega) (by omega) (by omega) (by omega)
theorem specSum_of (p : List Int) (hl : p.length ≤ 6) (h6 : ∀ x ∈ p, 0 ≤ x ∧ x ≤ 6) : Ev (fun k => spec_l5Sum.f k p) (totP p) := by
  unfold spec_l5Sum.f
  have h := specSum_run p hl h6 p.length 0 0 (by omega) (by omega) (by omega) (by omega)
  simpa using h
theorem specSum_ev (p : List Int) (h : vP p = true) : Ev (fun k => spec_l5Sum.f k p) (totP p) := by
  have h2 := vP_len p h
  exact specSum_of p h2.1 (fun x hx => by have := h2.2.2.2 x hx; omega)
def okT (l : List (List Int)) (j : Nat) : Prop := vP (rd_L1 l (j : Int)) = true ∧ totP (rd_L1 l (j : Int)) = totP (rd_L1 l 0)
def goodT (l : List (List Int)) : Prop := 1 ≤ l.length ∧ l.length ≤ 6 ∧ ∀ j : Nat, j < l.length → okT l j
theorem implTypes_run (l : List (List Int)) (hl : l.length ≤ 1048576) (h2 : ∀ j : Nat, j < l.length → (rd_L1 l (j : Int)).length ≤ 1048576) (h0 : 0 < l.length) : ∀ (d i : Nat), l.length - i = d → i ≤ l.length → (∀ j : Nat, j < i → okT l j) → ∃ r, Ev (fun k => impl_typesSum.l0 k l l l.length i) r ∧ (((∀ j : Nat, j < l.length → okT l j) ∧ r = totP (rd_L1 l 0)) ∨ (¬ (∀ j : Nat, j < l.length → okT l j) ∧ r = -1))
  | 0, i, hd, hi, ho => by
    have e : i = l.length := by omega
    subst e
    refine ⟨_, Ev.s ?_, Or.inl ⟨ho, rfl⟩⟩
    simp only [impl_typesSum.l0, show ¬ (l.length : Int) < (l.length : Int) by omega, if_false, show (0 : Int) < (l.length : Int) by omega, if_true]
    exact Ev.bind (implSum_ev _ (ho 0 h0).1) (Ev.const rfl)
  | d + 1, i, hd, hi, ho => by
    have hlt : i < l.length := by omega
    have hv := implPV_ev _ (h2 i hlt)
    by_cases a : vP (rd_L1 l (i : Int)) = true
    · rw [a] at hv
      have hs := implSum_ev _ a
      have a0 : vP (rd_L1 l 0) = true := by
        by_cases e : i = 0
        · subst e; exact a
        · exact (ho 0 (by omega)).1
      have hs0 := implSum_ev _ a0
      by_cases b : totP (rd_L1 l (i : Int)) = totP (rd_L1 l 0)
      · obtain ⟨r, e, h⟩ := implTypes_run l hl h2 h0 d (i + 1) (by omega) (by omega) (fun j hj => by
          by_cases e : j = i
          · subst e; exact ⟨a, b⟩
          · exact ho j (by omega))
        refine ⟨r, Ev.s ?_, h⟩
        simp only [impl_typesSum.l0, show (i : Int) < (l.length : Int) by omega, show (0 : Int) ≤ i by omega, show (0 : Int) < (l.length : Int) by omega, if_true]
        refine Ev.bind hv ?_
        simp only [if_true]
        refine Ev.bind hs (Ev.bind hs0 ?_)
        simp only [b, if_true]
        rw [w64n (by omega)]
        exact e
      · refine ⟨-1, Ev.s ?_, Or.inr ⟨fun h => b (h i hlt).2, rfl⟩⟩
        simp only [impl_typesSum.l0, show (i : Int) < (l.length : Int) by omega, show (0 : Int) ≤ i by omega, show (0 : Int) < (l.length : Int) by omega, if_true]
        refine Ev.bind hv ?_
        simp only [if_true]
        refine Ev.bind hs (Ev.bind hs0 ?_)
        simp only [b, if_false]
        exact Ev.const rfl
    · refine ⟨-1, Ev.s ?_, Or.inr ⟨fun h => a (h i hlt).1, rfl⟩⟩
      rw [Bool.not_eq_true] at a
      rw [a] at hv
      simp only [impl_typesSum.l0, show (i : Int) < (l.length : Int) by omega, show (0 : Int) ≤ i by omega, if_true]
      refine Ev.bind hv ?_
      simp only [Bool.false_eq_true, if_false]
      exact Ev.const rfl
theorem implTypes_ev (l : List (List Int)) (hl : l.length ≤ 1048576) (h2 : ∀ j : Nat, j < l.length → (rd_L1 l (j : Int)).length ≤ 1048576) : ∃ r, Ev (fun k => impl_typesSum.f k l) r ∧ ((goodT l ∧ r = totP (rd_L1 l 0)) ∨ (¬ goodT l ∧ r = -1)) := by
  unfold impl_typesSum.f
  by_cases a : (l.length : Int) < 1
  · refine ⟨-1, ?_, Or.inr ⟨fun h => by have := h.1; omega, rfl⟩⟩
    simp only [a, if_true]
    refine Ev.s ?_
    simp only [impl_typesSum.j0, if_true]
    exact Ev.const rfl
  · by_cases b : (l.length : Int) > 6
    · refine ⟨-1, ?_, Or.inr ⟨fun h => by have := h.2.1; omega, rfl⟩⟩
      simp only [a, b, if_false, decide_true]
      refine Ev.s ?_
      simp only [impl_typesSum.j0, if_true]
      exact Ev.const rfl
    · obtain ⟨r, e, h⟩ := implTypes_run l hl h2 (by omega) l.length 0 (by omega) (by omega) (fun j hj => by omega)
      refine ⟨r, ?_, h.imp (fun h => ⟨⟨by omega, by omega, h.1⟩, h.2⟩) (fun h => ⟨fun g => h.1 g.2.2, h.2⟩)⟩
      simp only [a, b, if_false, decide_false]
      refine Ev.s ?_
      simp only [impl_typesSum.j0, Bool.false_eq_true, if_false]
      exact e
theorem specTypes_run (l : List (List Int)) (hl : l.length ≤ 1048576) (h2 : ∀ j : Nat, j < l.length → (rd_L1 l (j : Int)).length ≤ 1048576) : ∀ (d i : Nat), l.length - i = d → i ≤ l.length → (∀ j : Nat, j < i → okT l j) → ∃ r, Ev (fun k => spec_l5Types.l0 k l i) r ∧ (r = true ↔ goodT l)
  | 0, i, hd, hi, ho => by
    have e : i = l.length := by omega
    subst e
    refine ⟨_, Ev.s ?_, (?_ : decide (1 ≤ (l.length : Int) ∧ (l.length : Int) ≤ 6) = true ↔ _)⟩
    · simp only [spec_l5Types.l0, show ¬ (l.length : Int) < (l.length : Int) by omega, if_false, l6In_ev, Option.bind_some]
      exact Ev.const rfl
    · rw [decide_eq_true_eq]
      exact ⟨fun h => ⟨by omega, by omega, ho⟩, fun h => ⟨by have := h.1; omega, by have := h.2.1; omega⟩⟩
  | d + 1, i, hd, hi, ho => by
    have hlt : i < l.length := by omega
    have hv := specPV_ev _ (h2 i hlt)
    by_cases a : vP (rd_L1 l (i : Int)) = true
    · rw [a] at hv
      have hs := specSum_ev _ a
      have a0 : vP (rd_L1 l 0) = true := by
        by_cases e : i = 0
        · subst e; exact a
        · exact (ho 0 (by omega)).1
      have hs0 := specSum_ev _ a0
      by_cases b : totP (rd_L1 l (i : Int)) = totP (rd_L1 l 0)
      · obtain ⟨r, e, h⟩ := specTypes_run l hl h2 d (i + 1) (by omega) (by omega) (fun j hj => by
          by_cases e : j = i
          · subst e; exact ⟨a, b⟩
          · exact ho j (by omega))
        refine ⟨r, Ev.s ?_, h⟩
        simp only [spec_l5Types.l0, show (i : Int) < (l.length : Int) by omega, show (0 : Int) ≤ i by omega, show (0 : Int) < (l.length : Int) by omega, if_true]
        refine Ev.bind hv ?_
        simp only [if_true]
        refine Ev.bind hs (Ev.bind hs0 ?_)
        simp only [b, if_true]
        rw [w64n (by omega)]
        exact e
      · refine ⟨false, Ev.s ?_, ⟨fun h => (by cases h), fun h => absurd (h.2.2 i hlt).2 b⟩⟩
        simp only [spec_l5Types.l0, show (i : Int) < (l.length : Int) by omega, show (0 : Int) ≤ i by omega, show (0 : Int) < (l.length : Int) by omega, if_true]
        refine Ev.bind hv ?_
        simp only [if_true]
        refine Ev.bind hs (Ev.bind hs0 ?_)
        simp only [b, if_false]
        exact Ev.const rfl
    · refine ⟨false, Ev.s ?_, ⟨fun h => (by cases h), fun h => absurd (h.2.2 i hlt).1 a⟩⟩
      rw [Bool.not_eq_true] at a
      rw [a] at hv
      simp only [spec_l5Types.l0, show (i : Int) < (l.length : Int) by omega, show (0 : Int) ≤ i by omega, if_true]
      refine Ev.bind hv ?_
      simp only [Bool.false_eq_true, if_false]
      exact Ev.const rfl
def smallT (l : List (List Int)) : Prop := goodT l ∧ l.length ≤ 3 ∧ totP (rd_L1 l 0) ≤ 4
theorem specSmall_ev (l : List (List Int)) (hl : l.length ≤ 1048576) (h2 : ∀ j : Nat, j < l.length → (rd_L1 l (j : Int)).length ≤ 1048576) : ∃ r, Ev (fun k => spec_l5Small.f k l) r ∧ (r = true ↔ smallT l) := by
  obtain ⟨b, e, h⟩ := specTypes_run l hl h2 l.length 0 (by omega) (by omega) (fun j hj => by omega)
  unfold spec_l5Small.f
  cases b with
  | false =>
    refine ⟨false, Ev.bind e ?_, ⟨fun h => (by cases h), fun g => absurd (h.2 g.1) (by decide)⟩⟩
    simp only [Bool.false_eq_true, if_false]
    exact Ev.const rfl
  | true =>
    have g := h.1 rfl
    by_cases c : (l.length : Int) ≤ 3
    · refine ⟨decide (totP (rd_L1 l 0) ≤ 4), Ev.bind e ?_, ?_⟩
      · simp only [if_true, c, show (0 : Int) < (l.length : Int) by have := g.1; omega]
        exact Ev.bind (specSum_ev _ (g.2.2 0 (by have := g.1; omega)).1) (Ev.const rfl)
      · rw [decide_eq_true_eq]
        exact ⟨fun h => ⟨g, by omega, h⟩, fun h => h.2.2⟩
    · refine ⟨false, Ev.bind e ?_, ⟨fun h => (by cases h), fun g => absurd g.2.1 (by omega)⟩⟩
      simp only [if_true, c, if_false]
      exact Ev.const rfl
def prt : Nat → Nat → Nat → List (List Int)
  | 0, left, _ => if left = 0 then [[]] else []
  | f + 1, left, prev => if left = 0 then [[]] else (List.range' 1 (min left prev)).reverse.flatMap fun (x : Nat) => (prt f (left - x) x).map fun p => (x : Int) :: p
def PT (n : Nat) : List (List Int) := prt n n n
theorem prt_mem : ∀ (f : Nat) (p : List Int) (left prev : Nat), p.length ≤ f → okP prev p = true → totP p = left → p ∈ prt f left prev
  | 0, p, left, prev, hl, ho, ht => by
    have e : p = [] := List.length_eq_zero_iff.1 (by omega)
    subst e
    have : left = 0 := by simp only [totP] at ht; omega
    subst this
    simp [prt]
  | f + 1, [], left, prev, hl, ho, ht => by
    have : left = 0 := by simp only [totP] at ht; omega
    subst this
    simp [prt]
  | f + 1, x :: p, left, prev, hl, ho, ht => by
    simp only [okP, Bool.and_eq_true, decide_eq_true_eq] at ho
    have h2 := okP_tot p x ho.2
    simp only [totP] at ht
    simp only [List.length_cons] at hl
    obtain ⟨y, rfl⟩ := Int.eq_ofNat_of_zero_le (show 0 ≤ x by omega)
    have ih := prt_mem f p (left - y) y (by omega) ho.2 (by omega)
    simp only [prt, show ¬ left = 0 by omega, if_false, List.mem_flatMap, List.mem_reverse, List.mem_range'_1, List.mem_map]
    exact ⟨y, ⟨by omega, by omega⟩, p, ih, rfl⟩
theorem PT_mem (n : Nat) (h6 : n ≤ 6) (p : List Int) (h : vP p = true) (ht : totP p = n) : p ∈ PT n := by
  simp only [vP, Bool.and_eq_true, decide_eq_true_eq] at h
  have h2 := okP_tot p 6 h.1
  refine prt_mem n p n n (by omega) ?_ ht
  rcases p with _ | ⟨x, p⟩
  · rfl
  · have h1 := h.1
    simp only [okP, Bool.and_eq_true, decide_eq_true_eq] at h1 ⊢
    have h3 := okP_tot p x h1.2
    simp only [totP] at ht
    exact ⟨⟨⟨h1.1.1.1, h1.1.1.2⟩, by omega⟩, h1.2⟩
def ixP (n : Nat) (p : List Int) : Nat := (PT n).findIdx fun q => decide (q = p)
def chTab : Nat → List (List Int)
  | 1 => [[1]]
  | 2 => [[1, 1], [(-1), 1]]
  | 3 => [[1, 1, 1], [(-1), 0, 2], [1, (-1), 1]]
  | 4 => [[1, 1, 1, 1, 1], [(-1), 0, (-1), 1, 3], [0, (-1), 2, 0, 2], [1, 0, (-1), (-1), 3], [(-1), 1, 1, (-1), 1]]
  | 5 => [[1, 1, 1, 1, 1, 1, 1], [(-1), 0, (-1), 1, 0, 2, 4], [0, (-1), 1, (-1), 1, 1, 5], [1, 0, 0, 0, (-2), 0, 6], [0, 1, (-1), (-1), 1, (-1), 5], [(-1), 0, 1, 1, 0, (-2), 4], [1, (-1), (-1), 1, 1, (-1), 1]]
  | 6 => [[1, 1, 1, 1, 1, 1, 1, 1, 1, 1, 1], [(-1), 0, (-1), 1, (-1), 0, 2, (-1), 1, 3, 5], [0, (-1), 1, (-1), 0, 0, 0, 3, 1, 3, 9], [1, 0, 0, 0, 1, (-1), 1, (-2), (-2), 2, 10], [0, 0, (-1), (-1), 2, 1, (-1), (-3), 1, 1, 5], [0, 1, 0, 0, (-2), 0, (-2), 0, 0, 0, 16], [(-1), 0, 0, 0, 1, 1, 1, 2, (-2), (-2), 10], [0, 0, (-1), 1, 2, (-1), (-1), 3, 1, (-1), 5], [0, (-1), 1, 1, 0, 0, 0, (-3), 1, (-3), 9], [1, 0, (-1), (-1), (-1), 0, 2, 1, 1, (-3), 5], [(-1), 1, 1, (-1), 1, (-1), 1, (-1), 1, (-1), 1]]
  | _ => []
def clTab : Nat → List Int
  | 1 => [1]
  | 2 => [1, 1]
  | 3 => [2, 3, 1]
  | 4 => [6, 8, 3, 6, 1]
  | 5 => [24, 30, 20, 20, 15, 10, 1]
  | 6 => [120, 144, 90, 90, 40, 120, 40, 15, 45, 15, 1]
  | _ => []
def dgTab : Nat → List Int
  | 1 => [1]
  | 2 => [1, 1]
  | 3 => [1, 2, 1]
  | 4 => [1, 3, 2, 3, 1]
  | 5 => [1, 4, 5, 6, 5, 4, 1]
  | 6 => [1, 5, 9, 10, 5, 16, 10, 5, 9, 5, 1]
  | _ => []
def chV (n : Nat) (s t : List Int) : Int := ((chTab n).getD (ixP n s) []).getD (ixP n t) 0
def clV (n : Nat) (t : List Int) : Int := (clTab n).getD (ixP n t) 0
def dgV (n : Nat) (s : List Int) : Int := (dgTab n).getD (ixP n s) 0
def fcN : Nat → Int
  | 1 => 1
  | 2 => 2
  | 3 => 6
  | 4 => 24
  | 5 => 120
  | 6 => 720
  | _ => 0
def chOK (n : Nat) : Bool := (PT n).all fun s => (PT n).all fun t => decide (impl_CharValue.f 400 s t = some (chV n s t, true))
def clOK (n : Nat) : Bool := (PT n).all fun t => decide (impl_ClassSize.f 60 t = some (clV n t))
def dgOK (n : Nat) : Bool := (PT n).all fun s => decide (impl_CharDegree.f 200 s = some (dgV n s)) && decide (dgV n s ≠ 0)
def paOK (n : Nat) : Bool := decide (impl_PartsAll.f 200 n = some (PT n, true)) && decide (impl_factorial.f 30 n = some (fcN n)) && decide ((PT n).length ≤ 100)
set_option maxRecDepth 100000 in
theorem tab_1 : (chOK 1 && clOK 1 && dgOK 1 && paOK 1) = true := by decide +kernel
set_option maxRecDepth 100000 in
theorem tab_2 : (chOK 2 && clOK 2 && dgOK 2 && paOK 2) = true := by decide +kernel
set_option maxRecDepth 100000 in
theorem tab_3 : (chOK 3 && clOK 3 && dgOK 3 && paOK 3) = true := by decide +kernel
set_option maxRecDepth 100000 in
theorem tab_4 : (chOK 4 && clOK 4 && dgOK 4 && paOK 4) = true := by decide +kernel
set_option maxRecDepth 100000 in
theorem tab_5 : (chOK 5 && clOK 5 && dgOK 5 && paOK 5) = true := by decide +kernel
set_option maxRecDepth 100000 in
theorem tab_6 : (chOK 6 && clOK 6 && dgOK 6 && paOK 6) = true := by decide +kernel
theorem tab_all (n : Nat) (h1 : 1 ≤ n) (h6 : n ≤ 6) : (chOK n && clOK n && dgOK n && paOK n) = true := by
  rcases n with _ | _ | _ | _ | _ | _ | _ | n
  · omega
  · exact tab_1
  · exact tab_2
  · exact tab_3
  · exact tab_4
  · exact tab_5
  · exact tab_6
  · omega
def fac1P (n : Nat) (s : List Int) (x : Int) (t : List Int) : Int := wrap64 (x * wrap64 (Int.tdiv (wrap64 (clV n t * chV n s t)) (dgV n s)))
def fac2P (n : Nat) (T : List (List Int)) (a : Int) (s : List Int) : Int := wrap64 (a + T.foldl (fac1P n s) (wrap64 (dgV n s * dgV n s)))
def facP (n : Nat) (T : List (List Int)) : Int := wrap64 (Int.tdiv ((PT n).foldl (fac2P n T) 0) (fcN n))
theorem fcount_ev (T : List (List Int)) (hT : T.length ≤ 1048576) (h2 : ∀ j : Nat, j < T.length → (rd_L1 T (j : Int)).length ≤ 1048576) (g : goodT T) (n : Nat) (hn : totP (rd_L1 T 0) = n) (n1 : 1 ≤ n) (n6 : n ≤ 6) (hm : ∀ t ∈ T, t ∈ PT n) : Ev (fun k => impl_FactorCount.f k T) (facP n T) := by
  have tb := tab_all n n1 n6
  simp only [Bool.and_eq_true, chOK, clOK, dgOK, paOK, List.all_eq_true, decide_eq_true_eq] at tb
  obtain ⟨⟨⟨tch, tcl⟩, tdg⟩, ⟨tpa, tfc⟩, tln⟩ := tb
  have ePA : Ev (fun k => impl_PartsAll.f k n) (PT n, true) := Ev.of (fun k => impl_PartsAll.mono n k) tpa
  have eFC : Ev (fun k => impl_factorial.f k n) (fcN n) := Ev.of (fun k => impl_factorial.mono n k) tfc
  have hfc : fcN n ≠ 0 := by
    rcases n with _ | _ | _ | _ | _ | _ | _ | n
    · omega
    all_goals first | (show (_ : Int) ≠ 0; simp only [fcN]; omega) | omega
  have inner : ∀ (s : List Int) (si : Nat) (a : Int) (R : Int), s ∈ PT n → si < (PT n).length → ∀ (d i : Nat) (x : Int), T.length - i = d → i ≤ T.length → Ev (fun k => impl_FactorCount.l0 k T n (wrap64 (a + (T.drop i).foldl (fac1P n s) x)) (PT n) (PT n).length ((si + 1 : Nat) : Int)) R → Ev (fun k => impl_FactorCount.l1 k T n a s (dgV n s) x (PT n) (PT n).length si T T.length i) R := by
    intro s si a R hs hsi d
    induction d with
    | zero =>
      intro i x hd hi hk
      have e : i = T.length := by omega
      subst e
      rw [List.drop_length] at hk
      refine Ev.s ?_
      simp only [impl_FactorCount.l1, show ¬ (T.length : Int) < (T.length : Int) by omega, if_false, w64n (show si < 4611686018427387904 by omega)]
      exact hk
    | succ d ih =>
      intro i x hd hi hk
      have hlt : i < T.length := by omega
      have hti := hm _ (List.getElem_mem hlt)
      have hrd := rdL_nth T i hlt
      rw [List.drop_eq_getElem_cons hlt, List.foldl_cons] at hk
      have e1 : Ev (fun k => impl_CharValue.f k s T[i]) (chV n s T[i], true) := Ev.of (fun k => impl_CharValue.mono s T[i] k) (tch s hs T[i] hti)
      have e2 : Ev (fun k => impl_ClassSize.f k T[i]) (clV n T[i]) := Ev.of (fun k => impl_ClassSize.mono T[i] k) (tcl T[i] hti)
      have hd0 := (tdg s hs).2
      refine Ev.s ?_
      simp only [impl_FactorCount.l1, show (i : Int) < (T.length : Int) by omega, show (0 : Int) ≤ (i : Int) by omega, if_true, hrd]
      refine Ev.bind e1 (Ev.bind e2 ?_)
      simp only [hd0, if_false, w64n (show i < 4611686018427387904 by omega)]
      exact ih (i + 1) _ (by omega) (by omega) hk
  have outer : ∀ (d i : Nat) (a : Int), (PT n).length - i = d → i ≤ (PT n).length → Ev (fun k => impl_FactorCount.l0 k T n a (PT n) (PT n).length i) (wrap64 (Int.tdiv (((PT n).drop i).foldl (fac2P n T) a) (fcN n))) := by
    intro d
    induction d with
    | zero =>
      intro i a hd hi
      have e : i = (PT n).length := by omega
      subst e
      rw [List.drop_length]
      refine Ev.s ?_
      simp only [impl_FactorCount.l0, show ¬ ((PT n).length : Int) < ((PT n).length : Int) by omega, if_false]
      refine Ev.bind eFC ?_
      simp only [hfc, if_false]
      exact Ev.const rfl
    | succ d ih =>
      intro i a hd hi
      have hlt : i < (PT n).length := by omega
      have hsi := List.getElem_mem hlt
      have hrd := rdL_nth (PT n) i hlt
      have e1 : Ev (fun k => impl_CharDegree.f k (PT n)[i]) (dgV n (PT n)[i]) := Ev.of (fun k => impl_CharDegree.mono (PT n)[i] k) (tdg _ hsi).1
      rw [List.drop_eq_getElem_cons hlt, List.foldl_cons]
      refine Ev.s ?_
      simp only [impl_FactorCount.l0, show (i : Int) < ((PT n).length : Int) by omega, show (0 : Int) ≤ (i : Int) by omega, if_true, hrd]
      refine Ev.bind e1 ?_
      refine inner (PT n)[i] i a _ hsi hlt T.length 0 _ (by omega) (by omega) ?_
      rw [List.drop_zero]
      exact ih (i + 1) _ (by omega) (by omega)
  obtain ⟨r, er, hr⟩ := implTypes_ev T hT h2
  have hre : r = totP (rd_L1 T 0) := hr.elim (fun h => h.2) (fun h => absurd g h.1)
  unfold impl_FactorCount.f
  refine Ev.bind er ?_
  rw [hre, hn]
  simp only [show ¬ (n : Int) < 0 by omega, if_false]
  refine Ev.bind ePA ?_
  have h := outer (PT n).length 0 0 (by omega) (by omega)
  rw [List.drop_zero] at h
  exact h
def cw (p : List Int) : Nat → List Bool → List Int → Int → List Bool × List Int
  | 0, s, c, a => (s, c)
  | f + 1, s, c, a => if rdOf false s a = true then (s, c) else cw p f (s.set a.toNat true) (c ++ [a]) (rd p a)
def fresh (s : List Bool) : Nat := s.countP (fun b => !b)
def cyS (p : List Int) (n : Nat) : Nat → List Bool × List (List Int)
  | 0 => (List.replicate n false, [])
  | i + 1 =>
    let q := cw p (n + 1) (cyS p n i).1 [] i
    (q.1, if q.2 = [] then (cyS p n i).2 else (cyS p n i).2 ++ [q.2])
theorem fresh_set : ∀ (s : List Bool) (i : Nat), i < s.length → s.getD i false = false → fresh (s.set i true) + 1 = fresh s
  | b :: s, 0, _, h => by
    simp only [List.getD_cons_zero] at h
    subst h
    simp [fresh]
  | b :: s, i + 1, hi, h => by
    simp only [List.getD_cons_succ] at h
    have ih := fresh_set s i (by simpa using hi) h
    simp only [fresh, List.set_cons_succ, List.countP_cons] at ih ⊢
    omega
theorem rdOf_nat (s : List Bool) (a : Int) (h0 : 0 ≤ a) : rdOf false s a = s.getD a.toNat false := by
  unfold rdOf
  rfl
theorem cw_len (p : List Int) : ∀ (f : Nat) (s : List Bool) (c : List Int) (a : Int), (cw p f s c a).1.length = s.length
  | 0, s, c, a => rfl
  | f + 1, s, c, a => by
    simp only [cw]
    split
    · rfl
    · rw [cw_len p f]; simp
theorem spec_cw (p : List Int) (n : Nat) (hn : n ≤ 1048576) (hp : inR n p) (L : List (List Int)) (hL : L.length ≤ 1048576) (i : Int) (r : List (List Int)) : ∀ (f : Nat) (s : List Bool) (c : List Int) (a : Int), s.length = n → 0 ≤ a → a < n → fresh s < f → c.length + fresh s ≤ 1048577 →
    Ev (fun k => spec_l1Cycles.l0 k p (L ++ [(cw p f s c a).2]) (cw p f s c a).1 (wrap64 (i + 1))) r → Ev (fun k => spec_l1Cycles.l1 k p L s i c a) r
  | 0, s, c, a, hs, h0, h1, hf, hc, h => absurd hf (Nat.not_lt_zero _)
  | f + 1, s, c, a, hs, h0, h1, hf, hc, h => by
    refine Ev.s ?_
    simp only [cw] at h
    have hL' : L.length < 5864062014805 := by omega
    have hc' : c.length < 17592186044416 := by omega
    simp only [spec_l1Cycles.l1, h0, hs, h1, hp.1, hL', hc', if_true]
    by_cases e : rdOf false s a = true
    · simp only [e, if_true] at h ⊢
      exact h
    · simp only [e, if_false] at h ⊢
      have h3 : s.getD a.toNat false = false := by rw [← rdOf_nat s a h0]; simpa using e
      have h4 := fresh_set s a.toNat (by omega) h3
      have h5 := hp.2 a.toNat (by omega)
      rw [show ((a.toNat : Nat) : Int) = a by omega] at h5
      exact spec_cw p n hn hp L hL i r f _ _ _ (by simpa using hs) h5.1 h5.2 (by omega) (by simp only [List.length_append, List.length_cons, List.length_nil]; omega) h
theorem impl_cw (p : List Int) (n : Nat) (hn : n ≤ 1048576) (hp : inR n p) (L : List (List Int)) (hL : L.length ≤ 1048576) (m i : Int) (r : List (List Int)) : ∀ (f : Nat) (s : List Bool) (c : List Int) (a : Int), s.length = n → 0 ≤ a → a < n → fresh s < f → c.length + fresh s ≤ 1048577 →
    Ev (fun k => impl_cyclesOf.l0 k p (if (cw p f s c a).2 = [] then L else L ++ [(cw p f s c a).2]) (cw p f s c a).1 m (wrap64 (i + 1))) r → Ev (fun k => impl_cyclesOf.l1 k p L s c a m i) r
  | 0, s, c, a, hs, h0, h1, hf, hc, h => absurd hf (Nat.not_lt_zero _)
  | f + 1, s, c, a, hs, h0, h1, hf, hc, h => by
    refine Ev.s ?_
    simp only [cw] at h
    have hL' : L.length < 5864062014805 := by omega
    have hc' : c.length < 17592186044416 := by omega
    simp only [impl_cyclesOf.l1, h0, hs, h1, hp.1, hL', hc', if_true]
    by_cases e : rdOf false s a = true
    · simp only [e, if_true] at h ⊢
      cases c with
      | nil => simpa using h
      | cons b c => simpa using h
    · simp only [e, if_false] at h ⊢
      have h3 : s.getD a.toNat false = false := by rw [← rdOf_nat s a h0]; simpa using e
      have h4 := fresh_set s a.toNat (by omega) h3
      have h5 := hp.2 a.toNat (by omega)
      rw [show ((a.toNat : Nat) : Int) = a by omega] at h5
      exact impl_cw p n hn hp L hL m i r f _ _ _ (by simpa using hs) h5.1 h5.2 (by omega) (by simp only [List.length_append, List.length_cons, List.length_nil]; omega) h
theorem fresh_le (s : List Bool) : fresh s ≤ s.length := List.countP_le_length
theorem cyS_len (p : List Int) (n : Nat) : ∀ i, (cyS p n i).1.length = n
  | 0 => by simp [cyS]
  | i + 1 => by simp only [cyS]; rw [cw_len, cyS_len p n i]
theorem cyS_many (p : List Int) (n : Nat) : ∀ i, (cyS p n i).2.length ≤ i
  | 0 => by simp [cyS]
  | i + 1 => by
    have ih := cyS_many p n i
    simp only [cyS]
    split
    · omega
    · simp only [List.length_append, List.length_cons, List.length_nil]; omega
theorem cw_seen (p : List Int) (f : Nat) (s : List Bool) (c : List Int) (a : Int) (h : rdOf false s a = true) : cw p f s c a = (s, c) := by
  cases f with
  | zero => rfl
  | succ f => simp only [cw, h, if_true]
theorem cw_more (p : List Int) : ∀ (f : Nat) (s : List Bool) (c : List Int) (a : Int), c.length ≤ (cw p f s c a).2.length
  | 0, s, c, a => Nat.le_refl _
  | f + 1, s, c, a => by
    simp only [cw]
    split
    · exact Nat.le_refl _
    · have := cw_more p f (s.set a.toNat true) (c ++ [a]) (rd p a)
      simp only [List.length_append, List.length_cons, List.length_nil] at this
      omega
theorem cw_new (p : List Int) (f : Nat) (s : List Bool) (a : Int) (h : ¬ rdOf false s a = true) : (cw p (f + 1) s [] a).2 ≠ [] := by
  simp only [cw, h, Bool.false_eq_true, if_false]
  intro e
  have := cw_more p f (s.set a.toNat true) ([] ++ [a]) (rd p a)
  rw [e] at this
  simp at this
theorem specCyc_run (p : List Int) (n : Nat) (hn : n ≤ 1048575) (hp : inR n p) : ∀ (d i : Nat), n - i = d → i ≤ n → Ev (fun k => spec_l1Cycles.l0 k p (cyS p n i).2 (cyS p n i).1 i) (cyS p n n).2
  | 0, i, hd, hi => by
    have : i = n := by omega
    subst this
    refine Ev.s ?_
    simp only [spec_l1Cycles.l0, hp.1, show ¬ (i : Int) < (i : Int) by omega, if_false]
    exact Ev.const rfl
  | d + 1, i, hd, hi => by
    have ih := specCyc_run p n hn hp d (i + 1) (by omega) (by omega)
    have hl := cyS_len p n i
    have hm := cyS_many p n i
    have hf := fresh_le (cyS p n i).1
    have h1 : (i : Int) < (n : Int) := by omega
    have h0 : (0 : Int) ≤ (i : Int) := by omega
    refine Ev.s ?_
    simp only [spec_l1Cycles.l0, hp.1, hl, h1, h0, if_true]
    by_cases e : rdOf false (cyS p n i).1 (i : Int) = true
    · simp only [e, if_true]
      rw [w64n (by omega)]
      simp only [cyS, cw_seen p (n + 1) (cyS p n i).1 [] i e, if_true] at ih
      exact ih
    · simp only [e, if_false]
      refine spec_cw p n (by omega) hp _ (by omega) i _ (n + 1) _ _ _ hl h0 h1 (by omega) (by simp only [List.length_nil]; omega) ?_
      rw [w64n (by omega)]
      simp only [cyS, cw_new p n (cyS p n i).1 i e, if_false] at ih
      exact ih
theorem implCyc_run (p : List Int) (n : Nat) (hn : n ≤ 1048575) (hp : inR n p) : ∀ (d i : Nat), n - i = d → i ≤ n → Ev (fun k => impl_cyclesOf.l0 k p (cyS p n i).2 (cyS p n i).1 n i) (cyS p n n).2
  | 0, i, hd, hi => by
    have : i = n := by omega
    subst this
    refine Ev.s ?_
    simp only [impl_cyclesOf.l0, show ¬ (i : Int) < (i : Int) by omega, if_false]
    exact Ev.const rfl
  | d + 1, i, hd, hi => by
    have ih := implCyc_run p n hn hp d (i + 1) (by omega) (by omega)
    have hl := cyS_len p n i
    have hm := cyS_many p n i
    have hf := fresh_le (cyS p n i).1
    have h1 : (i : Int) < (n : Int) := by omega
    have h0 : (0 : Int) ≤ (i : Int) := by omega
    refine Ev.s ?_
    simp only [impl_cyclesOf.l0, h1, if_true]
    refine impl_cw p n (by omega) hp _ (by omega) n i _ (n + 1) _ _ _ hl h0 h1 (by omega) (by simp only [List.length_nil]; omega) ?_
    rw [w64n (by omega)]
    simp only [cyS] at ih
    exact ih
theorem specCyc_ev (p : List Int) (n : Nat) (hn : n ≤ 1048575) (hp : inR n p) : Ev (fun k => spec_l1Cycles.f k p) (cyS p n n).2 := by
  unfold spec_l1Cycles.f
  have h1 : n ≤ 281474976710656 := by omega
  have h2 : (0 : Int) ≤ (n : Int) := by omega
  simp only [hp.1, Int.toNat_natCast, h1, h2, if_true]
  exact specCyc_run p n hn hp n 0 (by omega) (by omega)
theorem implCyc_ev (p : List Int) (n : Nat) (hn : n ≤ 1048575) (hp : inR n p) : Ev (fun k => impl_cyclesOf.f k p) (cyS p n n).2 := by
  unfold impl_cyclesOf.f
  have h1 : n ≤ 281474976710656 := by omega
  have h2 : (0 : Int) ≤ (n : Int) := by omega
  simp only [hp.1, Int.toNat_natCast, h1, h2, if_true]
  exact implCyc_run p n hn hp n 0 (by omega) (by omega)
theorem take_set_one (l : List Int) (i : Nat) (v : Int) (h : i < l.length) : (l.set i v).take (i + 1) = l.take i ++ [v] := by
  rw [List.take_succ_eq_append_getElem (by simpa using h), List.take_set_of_le (Nat.le_refl _), List.getElem_set_self]
def mulL (a b : List Int) : Nat → List Int
  | 0 => []
  | i + 1 => mulL a b i ++ [rd b (rd a i)]
theorem mulL_length (a b : List Int) : ∀ n, (mulL a b n).length = n
  | 0 => rfl
  | n + 1 => by simp [mulL, mulL_length a b n]
theorem mulL_rd (a b : List Int) : ∀ (n i : Nat), i < n → rd (mulL a b n) i = rd b (rd a i)
  | n + 1, i, h => by
    simp only [mulL]
    by_cases e : i < n
    · rw [rd_app_lt _ _ _ (by rw [mulL_length]; exact e), mulL_rd a b n i e]
    · have : i = n := by omega
      subst this
      have h2 : i < (mulL a b i ++ [rd b (rd a (i : Int))]).length := by simp [mulL_length]
      rw [rd_lt _ i h2, List.getElem_append_right (by rw [mulL_length]; exact Nat.le_refl _)]
      simp [mulL_length]
theorem mulL_inR (n : Nat) (a b : List Int) (ha : inR n a) (hb : inR n b) : inR n (mulL a b n) := by
  refine ⟨mulL_length a b n, fun i hi => ?_⟩
  rw [mulL_rd a b n i hi]
  have h1 := ha.2 i hi
  have h2 := hb.2 (rd a i).toNat (by omega)
  rwa [show ((rd a i).toNat : Int) = rd a i by omega] at h2
theorem specMul_run (n : Nat) (hn : n ≤ 1048576) (a b : List Int) (ha : inR n a) (hb : inR n b) : ∀ (d i : Nat), n - i = d → i ≤ n → Ev (fun k => spec_l1Mul.l0 k a b (mulL a b i) i) (mulL a b n)
  | 0, i, hd, hi => by
    have : i = n := by omega
    subst this
    refine Ev.s ?_
    simp only [spec_l1Mul.l0, ha.1, show ¬ (i : Int) < (i : Int) by omega, if_false]
    exact Ev.const rfl
  | d + 1, i, hd, hi => by
    have h1 := ha.2 i (by omega)
    have hb1 := hb.1
    refine Ev.s ?_
    simp only [spec_l1Mul.l0, ha.1, hb1, mulL_length, show (i : Int) < (n : Int) by omega, show (0 : Int) ≤ (i : Int) by omega, h1.1, h1.2, show i < 17592186044416 by omega, if_true]
    rw [w64n (by omega)]
    exact specMul_run n hn a b ha hb d (i + 1) (by omega) (by omega)
theorem specMul_ev (n : Nat) (hn : n ≤ 1048576) (a b : List Int) (ha : inR n a) (hb : inR n b) : Ev (fun k => spec_l1Mul.f k a b) (mulL a b n) := by
  unfold spec_l1Mul.f
  exact specMul_run n hn a b ha hb n 0 (by omega) (by omega)
theorem implMul_run (n : Nat) (hn : n ≤ 1048576) (a b : List Int) (ha : inR n a) (hb : inR n b) : ∀ (d i : Nat) (l : List Int), n - i = d → i ≤ n → l.length = n → l.take i = mulL a b i → Ev (fun k => impl_mul.l0 k b l a n i) (mulL a b n)
  | 0, i, l, hd, hi, hl, ht => by
    have : i = n := by omega
    subst this
    refine Ev.s ?_
    simp only [impl_mul.l0, show ¬ (i : Int) < (i : Int) by omega, if_false]
    rw [List.take_of_length_le (by omega)] at ht
    exact Ev.const (by rw [ht])
  | d + 1, i, l, hd, hi, hl, ht => by
    have h1 := ha.2 i (by omega)
    have hb1 := hb.1
    refine Ev.s ?_
    simp only [impl_mul.l0, ha.1, hb1, hl, show (i : Int) < (n : Int) by omega, show (0 : Int) ≤ (i : Int) by omega, h1.1, h1.2, if_true, Int.toNat_natCast]
    rw [w64n (by omega)]
    refine implMul_run n hn a b ha hb d (i + 1) _ (by omega) (by omega) (by simpa using hl) ?_
    rw [take_set_one _ _ _ (by omega), ht]
    rfl
theorem implMul_ev (n : Nat) (hn : n ≤ 1048576) (a b : List Int) (ha : inR n a) (hb : inR n b) : Ev (fun k => impl_mul.f k a b) (mulL a b n) := by
  unfold impl_mul.f
  have h1 : n ≤ 35184372088832 := by omega
  have h2 : (0 : Int) ≤ (n : Int) := by omega
  simp only [ha.1, Int.toNat_natCast, h1, h2, if_true]
  exact implMul_run n hn a b ha hb n 0 _ (by omega) (by omega) (by simp) (by simp [mulL])
theorem cw_bound (p : List Int) (n : Nat) (hp : inR n p) : ∀ (f : Nat) (s : List Bool) (c : List Int) (a : Int), s.length = n → 0 ≤ a → a < n → (cw p f s c a).2.length + fresh (cw p f s c a).1 ≤ c.length + fresh s
  | 0, s, c, a, hs, h0, h1 => Nat.le_refl _
  | f + 1, s, c, a, hs, h0, h1 => by
    simp only [cw]
    by_cases e : rdOf false s a = true
    · simp only [e, if_true]
      exact Nat.le_refl _
    · simp only [e, Bool.false_eq_true, if_false]
      have h3 : s.getD a.toNat false = false := by rw [← rdOf_nat s a h0]; simpa using e
      have h4 := fresh_set s a.toNat (by omega) h3
      have h5 := hp.2 a.toNat (by omega)
      rw [show ((a.toNat : Nat) : Int) = a by omega] at h5
      have ih := cw_bound p n hp f (s.set a.toNat true) (c ++ [a]) (rd p a) (by simpa using hs) h5.1 h5.2
      rw [List.length_append, List.length_singleton] at ih
      omega
theorem cyS_bound (p : List Int) (n : Nat) (hp : inR n p) : ∀ i, i ≤ n → ∀ l ∈ (cyS p n i).2, 1 ≤ l.length ∧ l.length ≤ n
  | 0, _, l, hl => by simp [cyS] at hl
  | i + 1, hi, l, hl => by
    have ih := cyS_bound p n hp i (by omega) l
    simp only [cyS] at hl
    have hb := cw_bound p n hp (n + 1) (cyS p n i).1 [] i (cyS_len p n i) (by omega) (by omega)
    have hf := fresh_le (cyS p n i).1
    rw [cyS_len] at hf
    rw [List.length_nil, Nat.zero_add] at hb
    by_cases e : (cw p (n + 1) (cyS p n i).1 [] (i : Int)).2 = []
    · rw [if_pos e] at hl
      exact ih hl
    · rw [if_neg e, List.mem_append] at hl
      rcases hl with hl | hl
      · exact ih hl
      · rw [List.mem_singleton.1 hl]
        have : 0 < (cw p (n + 1) (cyS p n i).1 [] (i : Int)).2.length := List.length_pos_iff.2 e
        omega
theorem cyS_pos (p : List Int) (n : Nat) (h1 : 1 ≤ n) : 0 < (cyS p n n).2.length := by
  have hm : ∀ i, 1 ≤ i → 0 < (cyS p n i).2.length := by
    intro i
    induction i with
    | zero => intro h; omega
    | succ i ih =>
      intro _
      simp only [cyS]
      by_cases hi : 1 ≤ i
      · have := ih hi
        split
        · exact this
        · rw [List.length_append]; omega
      · have : i = 0 := by omega
        subst this
        rw [if_neg (cw_new p n _ _ (by show ¬ (List.replicate n false).getD 0 false = true; rw [List.getD_eq_getElem?_getD, List.getElem?_replicate]; split <;> simp))]
        rw [List.length_append, List.length_singleton]
        omega
  exact hm n h1
def lensL (C : List (List Int)) : List Int := C.map fun l => (l.length : Int)
theorem lens_take (C : List (List Int)) (i : Nat) (h : i < C.length) : lensL (C.take (i + 1)) = lensL (C.take i) ++ [((rd_L1 C (i : Int)).length : Int)] := by
  unfold lensL rd_L1
  rw [List.take_succ_eq_append_getElem h, List.map_append, Int.toNat_natCast, List.getD_eq_getElem?_getD, List.getElem?_eq_getElem h]
  rfl
def tlL (C : List (List Int)) : Nat → List Int
  | 0 => []
  | d + 1 => List.replicate (C.countP fun l => decide (l.length = d + 1)) ((d + 1 : Nat) : Int) ++ tlL C d
theorem tlL_len (C : List (List Int)) : ∀ d, (tlL C d).length ≤ d * C.length
  | 0 => by simp [tlL]
  | d + 1 => by
    have ih := tlL_len C d
    have := List.countP_le_length (p := fun l : List Int => decide (l.length = d + 1)) (l := C)
    simp only [tlL, List.length_append, List.length_replicate]
    rw [Nat.succ_mul]
    omega
theorem type_inner (C : List (List Int)) (hC : C.length ≤ 12) (n : Nat) (v : Nat) (hv : v ≤ 12) (r : List Int) : ∀ (d i : Nat) (acc : List Int), C.length - i = d → i ≤ C.length → acc.length + d ≤ 1000 →
    Ev (fun k => spec_l1Type.l0 k (acc ++ List.replicate ((C.drop i).countP fun l => decide (l.length = v)) (v : Int)) C (wrap64 ((v : Int) - 1))) r → Ev (fun k => spec_l1Type.l1 k acc C v i) r
  | 0, i, acc, hd, hi, ha, h => by
    refine Ev.s ?_
    rw [List.drop_eq_nil_of_le (by omega)] at h
    simp only [List.countP_nil, List.replicate_zero, List.append_nil] at h
    simp only [spec_l1Type.l1, show ¬ (i : Int) < (C.length : Int) by omega, if_false]
    exact h
  | d + 1, i, acc, hd, hi, ha, h => by
    have hlt : i < C.length := by omega
    have hrd : rd_L1 C (i : Int) = C[i] := by unfold rd_L1; rw [Int.toNat_natCast, List.getD_eq_getElem?_getD, List.getElem?_eq_getElem hlt]; rfl
    rw [List.drop_eq_getElem_cons hlt, List.countP_cons] at h
    refine Ev.s ?_
    simp only [spec_l1Type.l1, show (i : Int) < (C.length : Int) by omega, show (0 : Int) ≤ (i : Int) by omega, hrd, if_true, w64n (show i < 4611686018427387904 by omega)]
    by_cases e : C[i].length = v
    · simp only [e, decide_true, if_true, show acc.length < 17592186044416 by omega] at h ⊢
      refine type_inner C hC n v hv r d (i + 1) (acc ++ [(v : Int)]) (by omega) (by omega) (by rw [List.length_append, List.length_singleton]; omega) ?_
      rw [List.append_assoc, List.singleton_append, ← List.replicate_succ]
      exact h
    · simp only [e, decide_false, Bool.false_eq_true, if_false, Nat.add_zero] at h
      simp only [show ¬ ((C[i].length : Nat) : Int) = (v : Int) by omega, if_false]
      exact type_inner C hC n v hv r d (i + 1) acc (by omega) (by omega) (by omega) h
theorem type_outer (C : List (List Int)) (hC : C.length ≤ 12) : ∀ (d : Nat) (acc : List Int), d ≤ 12 → acc.length + 12 * d ≤ 500 → Ev (fun k => spec_l1Type.l0 k acc C (d : Int)) (acc ++ tlL C d)
  | 0, acc, hd, ha => by
    refine Ev.s ?_
    simp only [spec_l1Type.l0, tlL, List.append_nil, show ¬ ((0 : Nat) : Int) > 0 by omega, if_false]
    exact Ev.const rfl
  | d + 1, acc, hd, ha => by
    have hc := List.countP_le_length (p := fun l : List Int => decide (l.length = d + 1)) (l := C)
    have ih := type_outer C hC d (acc ++ List.replicate (C.countP fun l => decide (l.length = d + 1)) ((d + 1 : Nat) : Int)) (by omega) (by rw [List.length_append, List.length_replicate]; omega)
    refine Ev.s ?_
    simp only [spec_l1Type.l0, show ((d + 1 : Nat) : Int) > 0 by omega, if_true]
    refine type_inner C hC 0 (d + 1) hd _ C.length 0 acc (by omega) (by omega) (by omega) ?_
    rw [List.drop_zero, w64 (x := ((d + 1 : Nat) : Int) - 1) (by omega) (by omega), show ((d + 1 : Nat) : Int) - 1 = (d : Int) by omega]
    rw [List.append_assoc] at ih
    exact ih
theorem rd_setN (l : List Int) (i j : Nat) (v : Int) (h : i < l.length) : rd (l.set i v) (j : Int) = if j = i then v else rd l (j : Int) := by
  by_cases e : j = i
  · subst e
    rw [if_pos rfl, rd_set_self l j v h]
  · rw [if_neg e, rd_set_ne l i j v (fun z => e z.symm)]
theorem rev_exact_run (l : List Int) (hl : l.length ≤ 1048576) : ∀ (d i : Nat) (m : List Int), l.length - 2 * i ≤ d → 2 * i ≤ l.length + 1 → m.length = l.length →
    (∀ z : Nat, z < l.length → rd m (z : Int) = if z < i ∨ l.length < z + i + 1 then rd l ((l.length - 1 - z : Nat) : Int) else rd l (z : Int)) → Ev (fun k => slices_Reverse_int_int.l0 k m (i : Int) ((l.length : Int) - 1 - (i : Int))) l.reverse
  | d, i, m, hd, hi, hm, hr => by
    by_cases hij : (i : Int) < (l.length : Int) - 1 - (i : Int)
    · obtain ⟨d, rfl⟩ : ∃ e, d = e + 1 := ⟨d - 1, by omega⟩
      have hjn : ((l.length : Int) - 1 - (i : Int)).toNat = l.length - 1 - i := by omega
      have hji : ((l.length : Int) - 1 - (i : Int)) = ((l.length - 1 - i : Nat) : Int) := by omega
      have ih := rev_exact_run l hl d (i + 1) ((m.set (i : Int).toNat (rd m ((l.length : Int) - 1 - (i : Int)))).set ((l.length : Int) - 1 - (i : Int)).toNat (rd m (i : Int))) (by omega) (by omega) (by simpa using hm) (by
        intro z hz
        rw [hjn, Int.toNat_natCast, rd_setN _ _ _ _ (by simp only [List.length_set]; omega), rd_setN _ _ _ _ (by omega), hji, hr (l.length - 1 - i) (by omega), hr i (by omega), hr z hz]
        by_cases e1 : z = l.length - 1 - i
        · subst e1
          rw [if_pos rfl, if_neg (by omega), if_pos (by omega)]
          congr 1
          omega
        · rw [if_neg e1]
          by_cases e2 : z = i
          · subst e2
            rw [if_pos rfl, if_neg (by omega), if_pos (by omega)]
          · rw [if_neg e2]
            by_cases e3 : z < i ∨ l.length < z + i + 1
            · rw [if_pos e3, if_pos (by omega)]
            · rw [if_neg e3, if_neg (by omega)])
      refine Ev.s ?_
      simp only [slices_Reverse_int_int.l0, hij, show (0 : Int) ≤ (l.length : Int) - 1 - (i : Int) by omega, show (l.length : Int) - 1 - (i : Int) < (m.length : Int) by omega, show (0 : Int) ≤ (i : Int) by omega, show (i : Int) < (m.length : Int) by omega, if_true]
      rw [w64 (x := (i : Int) + 1) (by omega) (by omega), w64 (x := (l.length : Int) - 1 - (i : Int) - 1) (by omega) (by omega), show (i : Int) + 1 = ((i + 1 : Nat) : Int) by omega, show (l.length : Int) - 1 - (i : Int) - 1 = (l.length : Int) - 1 - ((i + 1 : Nat) : Int) by omega]
      exact ih
    · have e : m = l.reverse := by
        refine list_ext _ _ (by rw [List.length_reverse, hm]) fun z hz => ?_
        rw [hm] at hz
        have hrev : rd l.reverse (z : Int) = rd l ((l.length - 1 - z : Nat) : Int) := by
          rw [rd_lt _ z (by simpa using hz), rd_lt l (l.length - 1 - z) (by omega), List.getElem_reverse]
        rw [hrev, hr z hz]
        by_cases e3 : z < i ∨ l.length < z + i + 1
        · rw [if_pos e3]
        · rw [if_neg e3]
          congr 1
          omega
      refine Ev.s ?_
      simp only [slices_Reverse_int_int.l0, hij, if_false]
      rw [e]
      exact Ev.const rfl
theorem rev_exact (l : List Int) (hl : l.length ≤ 1048576) : Ev (fun k => slices_Reverse_int_int.f k l) l.reverse := by
  unfold slices_Reverse_int_int.f
  rw [w64 (by omega) (by omega)]
  have := rev_exact_run l hl l.length 0 l (by omega) (by omega) rfl (fun z hz => by rw [if_neg (by omega)])
  simpa using this
theorem desc_uniq : ∀ (a b : List Int), a.Pairwise (fun x y => y ≤ x) → b.Pairwise (fun x y => y ≤ x) → a.Perm b → a = b
  | [], b, _, _, h => (List.nil_perm.1 h).symm
  | x :: a, b, ha, hb, h => by
    match b, hb, h with
    | [], _, h => exact absurd h.length_eq (by simp)
    | y :: b, hb, h =>
      rw [List.pairwise_cons] at ha hb
      have hx : x ∈ y :: b := h.mem_iff.1 (by simp)
      have hy : y ∈ x :: a := h.mem_iff.2 (by simp)
      have hxy : x = y := by
        rcases List.mem_cons.1 hx with e | hx
        · exact e
        · rcases List.mem_cons.1 hy with e | hy
          · exact e.symm
          · have h1 := hb.1 x hx
            have h2 := ha.1 y hy
            omega
      subst hxy
      rw [desc_uniq a b ha.2 hb.2 (List.Perm.cons_inv h)]
theorem tlL_desc (C : List (List Int)) : ∀ d, (tlL C d).Pairwise (fun x y => y ≤ x) ∧ ∀ x ∈ tlL C d, x ≤ (d : Int)
  | 0 => by simp [tlL]
  | d + 1 => by
    obtain ⟨ih1, ih2⟩ := tlL_desc C d
    constructor
    · simp only [tlL]
      rw [List.pairwise_append]
      refine ⟨List.pairwise_replicate.2 (.inr (Int.le_refl _)), ih1, fun x hx y hy => ?_⟩
      have := ih2 y hy
      rw [(List.mem_replicate.1 hx).2]
      omega
    · intro x hx
      simp only [tlL, List.mem_append] at hx
      rcases hx with hx | hx
      · rw [(List.mem_replicate.1 hx).2]; omega
      · have := ih2 x hx; omega
theorem tlL_count (C : List (List Int)) (x : Int) : ∀ d, (tlL C d).count x = C.countP fun l => decide (1 ≤ l.length ∧ l.length ≤ d ∧ (l.length : Int) = x)
  | 0 => by
    simp only [tlL, List.count_nil]
    exact (List.countP_eq_zero.2 fun l _ => by simp only [decide_eq_true_eq]; omega).symm
  | d + 1 => by
    have ih := tlL_count C x d
    simp only [tlL, List.count_append, List.count_replicate, ih]
    by_cases e : x = ((d + 1 : Nat) : Int)
    · subst e
      rw [if_pos (by simp), (List.countP_eq_zero (p := fun l : List Int => decide (1 ≤ l.length ∧ l.length ≤ d ∧ (l.length : Int) = ((d + 1 : Nat) : Int)))).2 (fun l _ => by simp only [decide_eq_true_eq]; omega), Nat.add_zero]
      refine List.countP_congr fun l _ => ?_
      simp only [decide_eq_true_eq]
      omega
    · rw [if_neg (by simp only [beq_iff_eq]; omega), Nat.zero_add]
      refine List.countP_congr fun l _ => ?_
      simp only [decide_eq_true_eq]
      omega
theorem tlL_perm (C : List (List Int)) (d : Nat) (h : ∀ l ∈ C, 1 ≤ l.length ∧ l.length ≤ d) : (tlL C d).Perm (lensL C) := by
  rw [List.perm_iff_count]
  intro x
  rw [tlL_count]
  unfold lensL List.count
  rw [List.countP_map]
  refine List.countP_congr fun l hl => ?_
  have := h l hl
  simp only [decide_eq_true_eq, Function.comp_apply, beq_iff_eq]
  omega
theorem typeOf_ev (p : List Int) (n : Nat) (hn : n ≤ 12) (h1 : 1 ≤ n) (hp : inR n p) : Ev (fun k => impl_typeOf.f k p) (tlL (cyS p n n).2 n) := by
  have hCb := cyS_bound p n hp n (Nat.le_refl _)
  have hCm := cyS_many p n n
  have hCp := cyS_pos p n h1
  have hll : (lensL (cyS p n n).2).length = (cyS p n n).2.length := by simp [lensL]
  have hs : ((lensL (cyS p n n).2).mergeSort fun x y => decide (x ≤ y)).length = (cyS p n n).2.length := by rw [List.length_mergeSort, hll]
  have hrev : ((lensL (cyS p n n).2).mergeSort fun x y => decide (x ≤ y)).reverse = tlL (cyS p n n).2 n := by
    refine desc_uniq _ _ ?_ (tlL_desc _ n).1 ?_
    · rw [List.pairwise_reverse]
      have := List.pairwise_mergeSort (le := fun x y : Int => decide (x ≤ y)) (fun a b c h1 h2 => by simp only [decide_eq_true_eq] at *; omega) (fun a b => by simp only [Bool.or_eq_true, decide_eq_true_eq]; omega) (lensL (cyS p n n).2)
      exact this.imp fun h => by simpa using h
    · exact (List.reverse_perm _).trans ((List.mergeSort_perm _ _).trans (tlL_perm _ n hCb).symm)
  have r1 := rev_exact ((lensL (cyS p n n).2).mergeSort fun x y => decide (x ≤ y)) (by omega)
  rw [hrev] at r1
  have hsort : slices_Sort_int_int.f (lensL (cyS p n n).2) = some ((lensL (cyS p n n).2).mergeSort fun x y => decide (x ≤ y)) := by
    unfold slices_Sort_int_int.f
    rw [if_pos ⟨by omega, by omega⟩]
  have run : ∀ (d i : Nat), (cyS p n n).2.length - i = d → i ≤ (cyS p n n).2.length → Ev (fun k => impl_typeOf.l0 k (lensL ((cyS p n n).2.take i)) (cyS p n n).2 (cyS p n n).2.length i) (tlL (cyS p n n).2 n) := by
    intro d
    induction d with
    | zero =>
      intro i hd hi
      have e : i = (cyS p n n).2.length := by omega
      rw [e, List.take_length]
      refine Ev.s ?_
      simp only [impl_typeOf.l0, show ¬ ((cyS p n n).2.length : Int) < ((cyS p n n).2.length : Int) by omega, if_false, hsort, Option.bind_some]
      exact Ev.bind r1 (Ev.const rfl)
    | succ d ih =>
      intro i hd hi
      have h := ih (i + 1) (by omega) (by omega)
      rw [lens_take _ i (by omega)] at h
      have hlt : (lensL ((cyS p n n).2.take i)).length < 17592186044416 := by simp only [lensL, List.length_map, List.length_take]; omega
      refine Ev.s ?_
      simp only [impl_typeOf.l0, show (i : Int) < ((cyS p n n).2.length : Int) by omega, show (0 : Int) ≤ (i : Int) by omega, hlt, if_true, w64n (show i < 4611686018427387904 by omega)]
      exact h
  unfold impl_typeOf.f
  refine Ev.bind (implCyc_ev p n (by omega) hp) ?_
  exact run _ 0 rfl (by omega)
theorem l1Type_ev (p : List Int) (n : Nat) (hn : n ≤ 12) (hp : inR n p) : Ev (fun k => spec_l1Type.f k p) (tlL (cyS p n n).2 n) := by
  have hCm := cyS_many p n n
  unfold spec_l1Type.f
  refine Ev.bind (specCyc_ev p n (by omega) hp) ?_
  rw [hp.1]
  exact type_outer (cyS p n n).2 (by omega) n [] (by omega) (by simp only [List.length_nil]; omega)
theorem index_run (c : List Int) (hc : c.length ≤ 1048576) (x : Int) : ∀ (d i : Nat), c.length - i = d → i ≤ c.length → ∃ v : Int, Ev (fun k => slices_Index_int_int.l0 k c x c.length i) v ∧ (v ≥ 0 ↔ x ∈ c.drop i)
  | 0, i, hd, hi => by
    refine ⟨-1, Ev.s ?_, ?_⟩
    · simp only [slices_Index_int_int.l0, show ¬ (i : Int) < (c.length : Int) by omega, if_false]
      exact Ev.const rfl
    · rw [List.drop_eq_nil_of_le (by omega)]
      simp
  | d + 1, i, hd, hi => by
    have hlt : i < c.length := by omega
    have e := rd_lt c i hlt
    by_cases h : x = rd c i
    · refine ⟨i, Ev.s ?_, ?_⟩
      · simp only [slices_Index_int_int.l0, show (i : Int) < (c.length : Int) by omega, show (0 : Int) ≤ (i : Int) by omega, if_true]
        rw [← h]
        simp only [if_true]
        exact Ev.const rfl
      · rw [List.drop_eq_getElem_cons hlt, ← e, ← h]
        exact ⟨fun _ => List.mem_cons_self, fun _ => by omega⟩
    · obtain ⟨v, v1, v2⟩ := index_run c hc x d (i + 1) (by omega) (by omega)
      refine ⟨v, Ev.s ?_, ?_⟩
      · simp only [slices_Index_int_int.l0, show (i : Int) < (c.length : Int) by omega, show (0 : Int) ≤ (i : Int) by omega, if_true, h, if_false, w64n (show i < 4611686018427387904 by omega)]
        exact v1
      · rw [v2, List.drop_eq_getElem_cons hlt, List.mem_cons]
        exact ⟨.inr, fun z => z.elim (fun y => absurd (by rw [e, y]) h) id⟩
theorem contains_ev (c : List Int) (hc : c.length ≤ 1048576) (x : Int) : Ev (fun k => slices_Contains_int_int.f k c x) (decide (x ∈ c)) := by
  obtain ⟨v, v1, v2⟩ := index_run c hc x c.length 0 (by omega) (by omega)
  unfold slices_Contains_int_int.f slices_Index_int_int.f
  refine Ev.bind v1 (Ev.const ?_)
  rw [List.drop_zero] at v2
  congr 1
  rw [Bool.eq_iff_iff, decide_eq_true_eq, decide_eq_true_eq]
  exact v2
theorem fwrap_mod (x : Int) : ∃ k : Int, wrap64 x = x + k * 18446744073709551616 := by
  unfold wrap64
  refine ⟨-((x + 9223372036854775808) / 18446744073709551616), ?_⟩
  omega
theorem fwrap_add_mul (x k : Int) : wrap64 (x + k * 18446744073709551616) = wrap64 x := by
  unfold wrap64
  omega
theorem wrap_addl (a b : Int) : wrap64 (wrap64 a + b) = wrap64 (a + b) := by
  obtain ⟨k1, e1⟩ := fwrap_mod a
  rw [e1, show a + k1 * 18446744073709551616 + b = (a + b) + k1 * 18446744073709551616 by omega, fwrap_add_mul]
theorem wrap_addr (a b : Int) : wrap64 (a + wrap64 b) = wrap64 (a + b) := by
  rw [Int.add_comm, wrap_addl, Int.add_comm]
theorem equal_run (a b : List Int) (ha : a.length ≤ 1048576) (hb : b.length = a.length) : ∀ (d i : Nat), a.length - i = d → i ≤ a.length → Ev (fun k => slices_Equal_int_int.l0 k a b a.length i) (decide (a.drop i = b.drop i))
  | 0, i, hd, hi => by
    have e : i = a.length := by omega
    subst e
    refine Ev.s ?_
    rw [List.drop_length, ← hb, List.drop_length]
    simp only [slices_Equal_int_int.l0, show ¬ (b.length : Int) < (b.length : Int) by omega, if_false, decide_true]
    exact Ev.const rfl
  | d + 1, i, hd, hi => by
    have h1 : i < a.length := by omega
    have h2 : i < b.length := by omega
    refine Ev.s ?_
    rw [drop_rd a i h1, drop_rd b i h2]
    simp only [slices_Equal_int_int.l0, show (i : Int) < (a.length : Int) by omega, show (i : Int) < (b.length : Int) by omega, show (0 : Int) ≤ (i : Int) by omega, if_true]
    by_cases e : rd a (i : Int) = rd b (i : Int)
    · simp only [e, if_true, List.cons.injEq, true_and, w64n (show i < 4611686018427387904 by omega)]
      exact equal_run a b ha hb d (i + 1) (by omega) (by omega)
    · simp only [e, if_false, List.cons.injEq, false_and, decide_false]
      exact Ev.const rfl
theorem equal_ev (a b : List Int) (ha : a.length ≤ 1048576) : Ev (fun k => slices_Equal_int_int.f k a b) (decide (a = b)) := by
  unfold slices_Equal_int_int.f
  by_cases h : (a.length : Int) = (b.length : Int)
  · simp only [h, if_true]
    have := equal_run a b ha (by omega) a.length 0 (by omega) (by omega)
    rw [List.drop_zero, List.drop_zero, show (a.length : Int) = (b.length : Int) from h] at this
    exact this
  · simp only [h, if_false]
    rw [decide_eq_false (fun e => h (by rw [e]))]
    exact Ev.const rfl
def Runs {σ : Type} (step : Nat → σ → List Int → Option σ) : σ → List (List Int) → σ → Prop
  | s, [], s' => s = s'
  | s, p :: L, s' => ∃ s1, Ev (fun k => step k s p) s1 ∧ Runs step s1 L s'
theorem Runs.split {σ : Type} {step : Nat → σ → List Int → Option σ} : ∀ (L1 L2 : List (List Int)) (s s' : σ), Runs step s (L1 ++ L2) s' → ∃ s1, Runs step s L1 s1 ∧ Runs step s1 L2 s'
  | [], L2, s, s', h => ⟨s, rfl, h⟩
  | p :: L1, L2, s, s', h => by
    obtain ⟨s1, e, h⟩ := h
    obtain ⟨s2, h1, h2⟩ := Runs.split L1 L2 s1 s' h
    exact ⟨s2, ⟨s1, e, h1⟩, h2⟩
def pl (n : Nat) : Nat → List Int → List (List Int)
  | 0, p => [p]
  | m + 1, p => (List.range' 0 n).flatMap fun (i : Nat) => if (i : Int) ∈ p then [] else pl n m (p ++ [(i : Int)])
theorem perm_ev {σ : Type} (step : Nat → σ → List Int → Option σ) (n : Nat) (hn : n ≤ 12) : ∀ (m : Nat) (p : List Int) (s s' : σ), p.length + m = n → Runs step s (pl n m p) s' → Ev (fun k => permG step k n s p) s'
  | 0, p, s, s', hl, h => by
    obtain ⟨s1, e, h⟩ := h
    have h : s1 = s' := h
    subst h
    refine Ev.s ?_
    simp only [permG, show (p.length : Int) = (n : Int) by omega, if_true]
    exact e
  | m + 1, p, s, s', hl, h => by
    have ih := perm_ev step n hn m
    have loop : ∀ (d i : Nat) (s : σ), n - i = d → i ≤ n → Runs step s ((List.range' i d).flatMap fun (i : Nat) => if (i : Int) ∈ p then [] else pl n m (p ++ [(i : Int)])) s' → Ev (fun k => permL step k n s p i) s' := by
      intro d
      induction d with
      | zero =>
        intro i s hd hi h
        have h : s = s' := h
        subst h
        refine Ev.s ?_
        simp only [permL, show ¬ (i : Int) < (n : Int) by omega, if_false]
        exact Ev.const rfl
      | succ d ihd =>
        intro i s hd hi h
        rw [List.range'_succ, List.flatMap_cons] at h
        obtain ⟨s1, r1, r2⟩ := Runs.split _ _ _ _ h
        have hc := contains_ev p (by omega) (i : Int)
        have go := ihd (i + 1) s1 (by omega) (by omega) r2
        refine Ev.s ?_
        simp only [permL, show (i : Int) < (n : Int) by omega, if_true]
        refine Ev.bind hc ?_
        by_cases b : (i : Int) ∈ p
        · rw [if_pos b] at r1
          have r1 : s = s1 := r1
          subst r1
          simp only [b, decide_true, if_true, w64n (show i < 4611686018427387904 by omega)]
          exact go
        · rw [if_neg b] at r1
          have e1 := ih (p ++ [(i : Int)]) s s1 (by simp only [List.length_append, List.length_cons, List.length_nil]; omega) r1
          simp only [b, decide_false, Bool.false_eq_true, if_false, slices_Clone_int_int.f, show p.length < 17592186044416 by omega, if_true, Option.bind_some, List.length_cons, List.length_nil, show p.length + (0 + 1) < 17592186044416 by omega]
          refine Ev.bind e1 ?_
          simp only [w64n (show i < 4611686018427387904 by omega)]
          exact go
    refine Ev.s ?_
    simp only [permG, show ¬ (p.length : Int) = (n : Int) by omega, if_false]
    exact loop n 0 s (by omega) (by omega) h
theorem pl_inR (n : Nat) : ∀ (m : Nat) (p : List Int), p.length + m = n → (∀ x ∈ p, 0 ≤ x ∧ x < n) → ∀ q ∈ pl n m p, q.length = n ∧ ∀ x ∈ q, 0 ≤ x ∧ x < n
  | 0, p, hl, hp, q, hq => by
    have : q = p := by simpa [pl] using hq
    subst this
    exact ⟨by omega, hp⟩
  | m + 1, p, hl, hp, q, hq => by
    simp only [pl, List.mem_flatMap, List.mem_range'_1] at hq
    obtain ⟨i, hi, hq⟩ := hq
    split at hq
    · simp at hq
    · refine pl_inR n m (p ++ [(i : Int)]) (by simp only [List.length_append, List.length_cons, List.length_nil]; omega) (fun x hx => ?_) q hq
      rcases List.mem_append.1 hx with hx | hx
      · exact hp x hx
      · have : x = i := by simpa using hx
        omega
def PL (n : Nat) : List (List Int) := pl n n []
theorem PL_inR (n : Nat) (q : List Int) (hq : q ∈ PL n) : inR n q := by
  obtain ⟨h1, h2⟩ := pl_inR n n [] (by simp) (by simp) q hq
  refine ⟨h1, fun i hi => ?_⟩
  rw [rd_lt q i (by omega)]
  exact h2 _ (List.getElem_mem _)
def TY (n : Nat) (p : List Int) : List Int := tlL (cyS p n n).2 n
def FL (n : Nat) (L : List (List Int)) (t : List Int) : List (List Int) := L.filter fun p => decide (TY n p = t)
theorem TY_len (n : Nat) (hn : n ≤ 12) (p : List Int) : (TY n p).length ≤ 1048576 := by
  have h1 := tlL_len (cyS p n n).2 n
  have h2 := cyS_many p n n
  have h3 : n * (cyS p n n).2.length ≤ 12 * 12 := Nat.mul_le_mul hn (by omega)
  unfold TY
  omega
theorem FL_app (n : Nat) (L : List (List Int)) (p t : List Int) : FL n (L ++ [p]) t = if TY n p = t then FL n L t ++ [p] else FL n L t := by
  unfold FL
  rw [List.filter_append]
  by_cases h : TY n p = t <;> simp [h]
theorem FL_len (n : Nat) (L : List (List Int)) (t : List Int) : (FL n L t).length ≤ L.length := List.length_filter_le _ _
def csAt (n : Nat) (ts : List (List Int)) (L : List (List Int)) (p : List Int) (i : Nat) : List (List (List Int)) := (ts.take i).map (FL n (L ++ [p])) ++ (ts.drop i).map (FL n L)
theorem csAt_get (n : Nat) (ts : List (List Int)) (L : List (List Int)) (p : List Int) (i : Nat) (h : i < ts.length) : (csAt n ts L p i).getD i [] = FL n L ts[i] := by
  have h1 : ((ts.take i).map (FL n (L ++ [p]))).length = i := by rw [List.length_map, List.length_take]; omega
  unfold csAt
  rw [List.getD_eq_getElem?_getD, List.getElem?_append_right (by omega), h1, Nat.sub_self, List.drop_eq_getElem_cons h, List.map_cons, List.getElem?_cons_zero]
  rfl
theorem csAt_succ (n : Nat) (ts : List (List Int)) (L : List (List Int)) (p : List Int) (i : Nat) (h : i < ts.length) : (csAt n ts L p i).set i (FL n (L ++ [p]) ts[i]) = csAt n ts L p (i + 1) := by
  have h1 : ((ts.take i).map (FL n (L ++ [p]))).length = i := by rw [List.length_map, List.length_take]; omega
  unfold csAt
  rw [List.set_append_right _ _ (by omega), h1, Nat.sub_self, List.drop_eq_getElem_cons h, List.map_cons, List.set_cons_zero, List.take_succ_eq_append_getElem h, List.map_append, List.append_assoc]
  rfl
theorem csAt_same (n : Nat) (ts : List (List Int)) (L : List (List Int)) (p : List Int) (i : Nat) (h : i < ts.length) (e : FL n (L ++ [p]) ts[i] = FL n L ts[i]) : csAt n ts L p i = csAt n ts L p (i + 1) := by
  unfold csAt
  rw [List.drop_eq_getElem_cons h, List.map_cons, List.take_succ_eq_append_getElem h, List.map_append, List.append_assoc, List.map_cons, List.map_nil, e]
  rfl
theorem rdS_nth (ps : List (List Int)) (q : Nat) (h : q < ps.length) : rdS ps (q : Int) = ps[q] := rdL_nth ps q h
theorem fac1_run (n : Nat) (h1 : 1 ≤ n) (hn : n ≤ 12) (ts : List (List Int)) (hts : ts.length ≤ 1048576) (L : List (List Int)) (hL : L.length ≤ 1048576) (p : List Int) (hp : inR n p) : ∀ (d i : Nat), ts.length - i = d → i ≤ ts.length → Ev (fun k => fac1L k ts p (csAt n ts L p i) i) (ts.map (FL n (L ++ [p])))
  | 0, i, hd, hi => by
    have e : i = ts.length := by omega
    subst e
    refine Ev.s ?_
    simp only [fac1L, show ¬ (ts.length : Int) < (ts.length : Int) by omega, if_false]
    refine Ev.const (congrArg some ?_)
    simp [csAt]
  | d + 1, i, hd, hi => by
    have hlt : i < ts.length := by omega
    have ih := fac1_run n h1 hn ts hts L hL p hp d (i + 1) (by omega) (by omega)
    refine Ev.s ?_
    simp only [fac1L, show (i : Int) < (ts.length : Int) by omega, show (0 : Int) ≤ (i : Int) by omega, if_true]
    refine Ev.bind (typeOf_ev p n hn h1 hp) (Ev.bind (equal_ev (TY n p) (rdS ts (i : Int)) (TY_len n hn p)) ?_)
    rw [rdS_nth ts i hlt]
    simp only [w64n (show i < 4611686018427387904 by omega), Int.toNat_natCast, csAt_get n ts L p i hlt]
    have e := FL_app n L p ts[i]
    by_cases c : TY n p = ts[i]
    · rw [if_pos c] at e
      have hp1 := hp.1
      have hf := FL_len n L ts[i]
      simp only [c, decide_true, if_true, slices_Clone_int_int.f, show p.length < 17592186044416 by omega, Option.bind_some, show (FL n L ts[i]).length < 5864062014805 by omega]
      rw [← e, csAt_succ n ts L p i hlt]
      exact ih
    · rw [if_neg c] at e
      simp only [c, decide_false, Bool.false_eq_true, if_false]
      rw [csAt_same n ts L p i hlt e]
      exact ih
theorem fac1_ev (n : Nat) (h1 : 1 ≤ n) (hn : n ≤ 12) (ts : List (List Int)) (hts : ts.length ≤ 1048576) (L : List (List Int)) (hL : L.length ≤ 1048576) (p : List Int) (hp : inR n p) : Ev (fun k => fac1L k ts p (ts.map (FL n L)) 0) (ts.map (FL n (L ++ [p]))) := by
  have h := fac1_run n h1 hn ts hts L hL p hp ts.length 0 (by omega) (by omega)
  have e : csAt n ts L p 0 = ts.map (FL n L) := by simp [csAt]
  rw [e] at h
  exact h
theorem fac1_runs (n : Nat) (h1 : 1 ≤ n) (hn : n ≤ 12) (ts : List (List Int)) (hts : ts.length ≤ 1048576) : ∀ (L2 L : List (List Int)), L.length + L2.length ≤ 1048576 → (∀ p ∈ L2, inR n p) → Runs (fun k cs p => fac1L k ts p cs 0) (ts.map (FL n L)) L2 (ts.map (FL n (L ++ L2)))
  | [], L, _, _ => by rw [List.append_nil]; exact rfl
  | p :: L2, L, hl, hp => by
    simp only [List.length_cons] at hl
    refine ⟨_, fac1_ev n h1 hn ts hts L (by omega) p (hp p (by simp)), ?_⟩
    have h := fac1_runs n h1 hn ts hts L2 (L ++ [p]) (by simp only [List.length_append, List.length_cons, List.length_nil]; omega) (fun q hq => hp q (by simp [hq]))
    rwa [List.append_assoc, List.singleton_append] at h
theorem classes_ev (n : Nat) (h1 : 1 ≤ n) (hn : n ≤ 12) (hL : (PL n).length ≤ 1048576) (ts : List (List Int)) (hts : ts.length ≤ 1048576) : Ev (fun k => permG (fun k cs p => fac1L k ts p cs 0) k n (List.replicate ts.length []) []) (ts.map (FL n (PL n))) := by
  refine perm_ev _ n hn n [] _ _ (by simp) ?_
  have h := fac1_runs n h1 hn ts hts (PL n) [] (by simpa using hL) (fun p hp => PL_inR n p hp)
  have e : ts.map (FL n []) = List.replicate ts.length [] := by
    rw [List.map_eq_replicate_iff.2]
    intro t _
    rfl
  rw [e] at h
  exact h
def cntF (n : Nat) (leaf : List (List Int) → Nat) : List (List (List Int)) → List (List Int) → List Int → Nat
  | [], l, pr => if pr = stl n then leaf l else 0
  | C :: Cs, l, pr => (C.map fun p => cntF n leaf Cs (l ++ [p]) (mulL pr p n)).sum
theorem fac2_ev (n : Nat) (h1 : 1 ≤ n) (hn : n ≤ 12) (leaf : List (List Int) → Nat) (step : Nat → Int → List (List Int) → Option Int) (ts : List (List Int)) (hts : ts.length ≤ 1048576) (cs : List (List (List Int))) (hcs : cs.length = ts.length) (hC : ∀ C ∈ cs, C.length ≤ 1048576 ∧ ∀ q ∈ C, inR n q)
    (hs : ∀ (l : List (List Int)) (m : Int), l.length = ts.length → (∀ q ∈ l, inR n q) → Ev (fun k => step k (wrap64 m) l) (wrap64 (m + leaf l))) :
    ∀ (Cs : List (List (List Int))) (l : List (List Int)) (pr : List Int) (m : Int), cs.drop l.length = Cs → l.length + Cs.length = cs.length → (∀ q ∈ l, inR n q) → inR n pr → Ev (fun k => facG step ts n cs k (wrap64 m) l pr) (wrap64 (m + (cntF n leaf Cs l pr : Int)))
  | [], l, pr, m, hd, hl, hq, hp => by
    simp only [List.length_nil, Nat.add_zero] at hl
    refine Ev.s ?_
    simp only [facG, show (l.length : Int) = (ts.length : Int) by omega, if_true]
    refine Ev.bind (still_ev n (by omega)) (Ev.bind (equal_ev pr (stl n) (by rw [hp.1]; omega)) ?_)
    by_cases e : pr = stl n
    · simp only [e, decide_true, if_true, cntF]
      exact hs l m (by omega) hq
    · simp only [e, decide_false, Bool.false_eq_true, if_false, cntF]
      exact Ev.const (congrArg some (by rw [Int.natCast_zero, Int.add_zero]))
  | C :: Cs, l, pr, m, hd, hl, hq, hp => by
    simp only [List.length_cons] at hl
    have hlt : l.length < cs.length := by omega
    have hg : cs.getD l.length [] = C := by
      have := List.drop_eq_getElem_cons hlt
      rw [hd] at this
      injection this with e1 e2
      rw [List.getD_eq_getElem?_getD, List.getElem?_eq_getElem hlt, ← e1]
      rfl
    have hd2 : cs.drop (l.length + 1) = Cs := by
      have := List.drop_eq_getElem_cons hlt
      rw [hd] at this
      injection this with e1 e2
      exact e2.symm
    have hC1 := hC C (by rw [← hg, List.getD_eq_getElem?_getD, List.getElem?_eq_getElem hlt]; exact List.getElem_mem hlt)
    have ih := fac2_ev n h1 hn leaf step ts hts cs hcs hC hs Cs
    have loop : ∀ (d i : Nat) (m : Int), C.length - i = d → i ≤ C.length → Ev (fun k => facL step ts n cs k (wrap64 m) l pr C i) (wrap64 (m + (((C.drop i).map fun p => cntF n leaf Cs (l ++ [p]) (mulL pr p n)).sum : Nat))) := by
      intro d
      induction d with
      | zero =>
        intro i m hd hi
        have e : i = C.length := by omega
        subst e
        refine Ev.s ?_
        simp only [facL, show ¬ (C.length : Int) < (C.length : Int) by omega, if_false, List.drop_length, List.map_nil, List.sum_nil, Int.natCast_zero, Int.add_zero]
        exact Ev.const rfl
      | succ d ihd =>
        intro i m hd hi
        have hi2 : i < C.length := by omega
        have hqi := hC1.2 _ (List.getElem_mem hi2)
        refine Ev.s ?_
        simp only [facL, show (i : Int) < (C.length : Int) by omega, show (0 : Int) ≤ (i : Int) by omega, show l.length < 5864062014805 by omega, if_true]
        rw [rdS_nth C i hi2, List.drop_eq_getElem_cons hi2, List.map_cons, List.sum_cons]
        refine Ev.bind (implMul_ev n (by omega) pr C[i] hp hqi) ?_
        have a := ih (l ++ [C[i]]) (mulL pr C[i] n) m (by rw [List.length_append, List.length_cons, List.length_nil]; exact hd2) (by rw [List.length_append, List.length_cons, List.length_nil]; omega) (fun q hq2 => by
          rcases List.mem_append.1 hq2 with h | h
          · exact hq q h
          · have : q = C[i] := by simpa using h
            rw [this]; exact hqi) (mulL_inR n pr C[i] hp hqi)
        refine Ev.bind a ?_
        simp only [w64n (show i < 4611686018427387904 by omega)]
        have b := ihd (i + 1) (m + (cntF n leaf Cs (l ++ [C[i]]) (mulL pr C[i] n) : Int)) (by omega) (by omega)
        have e3 : ∀ x y : Nat, m + ((x + y : Nat) : Int) = m + (x : Int) + (y : Int) := fun x y => by omega
        rw [e3]
        exact b
    refine Ev.s ?_
    simp only [facG, show ¬ (l.length : Int) = (ts.length : Int) by omega, show (l.length : Int) < (cs.length : Int) by omega, if_false, if_true, hg]
    have h := loop C.length 0 m (by omega) (by omega)
    rw [List.drop_zero] at h
    exact h
def cntT (n : Nat) (leaf : List (List Int) → Nat) (ts : List (List Int)) : Nat := cntF n leaf (ts.map (FL n (PL n))) [] (stl n)
theorem stl_inR (n : Nat) : inR n (stl n) := ⟨stl_length n, fun i hi => by rw [stl_rd n i hi]; omega⟩
theorem facs_ev (n : Nat) (h1 : 1 ≤ n) (hn : n ≤ 12) (hL : (PL n).length ≤ 1048576) (leaf : List (List Int) → Nat) (step : Nat → Int → List (List Int) → Option Int) (ts : List (List Int)) (hts : ts.length ≤ 1048576)
    (hs : ∀ (l : List (List Int)) (m : Int), l.length = ts.length → (∀ q ∈ l, inR n q) → Ev (fun k => step k (wrap64 m) l) (wrap64 (m + leaf l))) : Ev (fun k => facsG step k ts n 0) (wrap64 (cntT n leaf ts)) := by
  unfold facsG
  simp only [show ts.length ≤ 11728124029610 by omega, if_true]
  refine Ev.bind (classes_ev n h1 hn hL ts hts) (Ev.bind (still_ev n (by omega)) ?_)
  have h := fac2_ev n h1 hn leaf step ts hts (ts.map (FL n (PL n))) (by rw [List.length_map]) (fun C hC => by
    obtain ⟨t, _, rfl⟩ := List.mem_map.1 hC
    have := FL_len n (PL n) t
    exact ⟨by omega, fun q hq => PL_inR n q (List.mem_filter.1 hq).1⟩) hs (ts.map (FL n (PL n))) [] (stl n) 0 (by rw [List.length_nil, List.drop_zero]) (by rw [List.length_nil]; omega) (by simp) (stl_inR n)
  rw [w64 (x := 0) (by omega) (by omega), Int.zero_add] at h
  exact h
def chainB : List (List Int) → Bool
  | [] => true
  | p :: L => decide (spec_l3Next.f 20 p = some (L.headD [])) && chainB L
set_option maxRecDepth 100000 in
theorem chain_all (n : Nat) (h1 : 1 ≤ n) (h4 : n ≤ 4) : chainB (PL n) = true ∧ (PL n).headD [] = stl n ∧ (PL n).length ≤ 24 := by
  have h : ∀ m : Fin 5, 1 ≤ m.val → (chainB (PL m.val) && decide ((PL m.val).headD [] = stl m.val) && decide ((PL m.val).length ≤ 24)) = true := by decide +kernel
  have := h ⟨n, by omega⟩ h1
  simp only [Bool.and_eq_true, decide_eq_true_eq] at this
  exact ⟨this.1.1, this.1.2, this.2⟩
theorem order_run (a b : List Int) (ha : a.length ≤ 1048576) (hb : b.length = a.length) : ∀ (d i : Nat), a.length - i = d → i ≤ a.length → ∃ r, Ev (fun k => spec_l2Order.l0 k a b i) r ∧ (r = 0 ↔ a.drop i = b.drop i)
  | 0, i, hd, hi => by
    have e : i = a.length := by omega
    subst e
    refine ⟨0, Ev.s ?_, by rw [List.drop_length, ← hb, List.drop_length]; simp⟩
    simp only [spec_l2Order.l0, show ¬ (a.length : Int) < (a.length : Int) by omega, if_false]
    exact Ev.const rfl
  | d + 1, i, hd, hi => by
    have h1 : i < a.length := by omega
    have h2 : i < b.length := by omega
    rw [drop_rd a i h1, drop_rd b i h2]
    by_cases l : rd a (i : Int) < rd b (i : Int)
    · refine ⟨-1, Ev.s ?_, ⟨fun h => by omega, fun h => by injection h with e _; omega⟩⟩
      simp only [spec_l2Order.l0, show (i : Int) < (a.length : Int) by omega, show (i : Int) < (b.length : Int) by omega, show (0 : Int) ≤ (i : Int) by omega, if_true, l]
      exact Ev.const rfl
    · by_cases g : rd a (i : Int) > rd b (i : Int)
      · refine ⟨1, Ev.s ?_, ⟨fun h => by omega, fun h => by injection h with e _; omega⟩⟩
        simp only [spec_l2Order.l0, show (i : Int) < (a.length : Int) by omega, show (i : Int) < (b.length : Int) by omega, show (0 : Int) ≤ (i : Int) by omega, if_true, l, g, if_false]
        exact Ev.const rfl
      · obtain ⟨r, e, h⟩ := order_run a b ha hb d (i + 1) (by omega) (by omega)
        refine ⟨r, Ev.s ?_, h.trans ⟨fun e => by rw [e, show rd a (i : Int) = rd b (i : Int) by omega], fun e => by injection e⟩⟩
        simp only [spec_l2Order.l0, show (i : Int) < (a.length : Int) by omega, show (i : Int) < (b.length : Int) by omega, show (0 : Int) ≤ (i : Int) by omega, if_true, l, g, if_false, w64n (show i < 4611686018427387904 by omega)]
        exact e
theorem order_ev (a b : List Int) (ha : a.length ≤ 1048576) (hb : b.length = a.length) : ∃ r, Ev (fun k => spec_l2Order.f k a b) r ∧ (r = 0 ↔ a = b) := by
  unfold spec_l2Order.f
  have := order_run a b ha hb a.length 0 (by omega) (by omega)
  rwa [List.drop_zero, List.drop_zero] at this
theorem class_run (n : Nat) (h1 : 1 ≤ n) (hn : n ≤ 12) (t : List Int) : ∀ (L acc : List (List Int)), chainB L = true → (∀ p ∈ L, inR n p) → acc.length + L.length ≤ 1048576 → Ev (fun k => spec_l5Class.l0 k t acc (L.headD [])) (acc ++ FL n L t)
  | [], acc, hc, hp, hl => by
    refine Ev.s ?_
    simp only [spec_l5Class.l0, List.headD_nil, List.length_nil, show ¬ (((0 : Nat) : Int) > 0) by omega, if_false]
    exact Ev.const (congrArg some (by simp [FL]))
  | p :: L, acc, hc, hp, hl => by
    simp only [chainB, Bool.and_eq_true, decide_eq_true_eq] at hc
    simp only [List.length_cons] at hl
    have hpn := hp p (by simp)
    have hp1 := hpn.1
    have hnx : Ev (fun k => spec_l3Next.f k p) (L.headD []) := Ev.of (fun k => spec_l3Next.mono p k) hc.1
    have hty := l1Type_ev p n hn hpn
    have ih := fun acc h => class_run n h1 hn t L acc hc.2 (fun q hq => hp q (by simp [hq])) h
    refine Ev.s ?_
    simp only [spec_l5Class.l0, List.headD_cons, show ((p.length : Nat) : Int) > 0 by omega, if_true]
    refine Ev.bind hty ?_
    have hF : FL n (p :: L) t = (if TY n p = t then [p] else []) ++ FL n L t := by
      unfold FL
      rw [List.filter_cons]
      by_cases h : TY n p = t <;> simp [h]
    rw [hF]
    by_cases e : ((tlL (cyS p n n).2 n).length : Int) = (t.length : Int)
    · simp only [e, if_true]
      refine Ev.bind hty ?_
      obtain ⟨r, er, hr⟩ := order_ev (TY n p) t (TY_len n hn p) (by unfold TY; omega)
      refine Ev.bind er ?_
      by_cases z : r = 0
      · have hz := hr.1 z
        simp only [z, if_true, show acc.length < 5864062014805 by omega]
        refine Ev.bind hnx ?_
        have h := ih (acc ++ [p]) (by simp only [List.length_append, List.length_cons, List.length_nil]; omega)
        rw [List.append_assoc] at h
        rw [if_pos hz]
        exact h
      · have hz : ¬ TY n p = t := fun h => z (hr.2 h)
        simp only [z, if_false]
        refine Ev.bind hnx ?_
        rw [if_neg hz, List.nil_append]
        exact ih acc (by omega)
    · have hz : ¬ TY n p = t := fun h => e (by rw [← h]; rfl)
      simp only [e, if_false]
      refine Ev.bind hnx ?_
      rw [if_neg hz, List.nil_append]
      exact ih acc (by omega)
theorem class_ev (n : Nat) (h1 : 1 ≤ n) (h4 : n ≤ 4) (t : List Int) (ht : vP t = true) (hs : totP t = n) : Ev (fun k => spec_l5Class.f k t) (FL n (PL n) t) := by
  obtain ⟨c1, c2, c3⟩ := chain_all n h1 h4
  have hs1 := specSum_ev t ht
  rw [hs] at hs1
  unfold spec_l5Class.f
  refine Ev.bind hs1 (Ev.bind (same_ev n (by omega)) ?_)
  have h := class_run n h1 (by omega) t (PL n) [] c1 (fun p hp => PL_inR n p hp) (by simp only [List.length_nil]; omega)
  rw [c2, List.nil_append] at h
  exact h
theorem moves_run (n : Nat) (hn : n ≤ 1048576) (p : List Int) (hp : p.length = n) : ∀ (d i : Nat), n - i = d → i ≤ n → (∀ j : Nat, j < i → rd p j = j) → Ev (fun k => spec_l1Moves.l0 k p i) (decide (p ≠ stl n))
  | 0, i, hd, hi, hj => by
    have e : i = n := by omega
    subst e
    have e2 : p = stl i := list_ext p (stl i) (by rw [stl_length]; exact hp) fun j hj2 => by rw [hj j (by omega), stl_rd i j (by omega)]
    refine Ev.s ?_
    simp only [spec_l1Moves.l0, hp, show ¬ (i : Int) < (i : Int) by omega, if_false]
    exact Ev.const (congrArg some (by subst e2; simp))
  | d + 1, i, hd, hi, hj => by
    refine Ev.s ?_
    simp only [spec_l1Moves.l0, hp, show (i : Int) < (n : Int) by omega, show (0 : Int) ≤ (i : Int) by omega, if_true]
    by_cases e : rd p (i : Int) = i
    · simp only [e, if_true, w64n (show i < 4611686018427387904 by omega)]
      exact moves_run n hn p hp d (i + 1) (by omega) (by omega) (fun j hj2 => by
        by_cases e2 : j = i
        · subst e2; exact e
        · exact hj j (by omega))
    · simp only [e, if_false]
      exact Ev.const (congrArg some (Eq.symm (decide_eq_true (fun h => e (by rw [h, stl_rd n i (by omega)])))))
theorem moves_ev (n : Nat) (hn : n ≤ 1048576) (p : List Int) (hp : p.length = n) : Ev (fun k => spec_l1Moves.f k p) (decide (p ≠ stl n)) := moves_run n hn p hp n 0 (by omega) (by omega) (fun j hj => by omega)
theorem Reach.more {ps : List (List Int)} {n i j : Nat} (p : List Int) (h : Reach ps n i j) : Reach (ps ++ [p]) n i j := fun S c => h S (fun q hq => c q (by simp [hq]))
theorem join_run (ps : List (List Int)) (n : Nat) (hn : n ≤ 12) (o p : List Int) (ho : orbI ps n o) (hp : inR n p) (hm : p ∈ ps) : ∀ (e : Nat), (∀ (r : Nat) (out : List Int), n - r = e → r ≤ n → orbI ps n out → ∃ z, Ev (fun k => spec_l5Join.l0 k o p out r) z ∧ orbI ps n z) := by
  intro e
  induction e with
  | zero =>
    intro r out hr hr2 h
    refine ⟨out, Ev.s ?_, h⟩
    simp only [spec_l5Join.l0, hp.1, show ¬ (r : Int) < (n : Int) by omega, if_false]
    exact Ev.const rfl
  | succ e ihe =>
    intro r out hr hr2 h
    have loop : ∀ (d i : Nat) (out : List Int), n - i = d → i ≤ n → orbI ps n out → ∃ z, Ev (fun k => spec_l5Join.l1 k o p out r i) z ∧ orbI ps n z := by
      intro d
      induction d with
      | zero =>
        intro i out hd hi h
        obtain ⟨z, ez, hz⟩ := ihe (r + 1) out (by omega) (by omega) h
        refine ⟨z, Ev.s ?_, hz⟩
        simp only [spec_l5Join.l1, hp.1, show ¬ (i : Int) < (n : Int) by omega, if_false, w64n (show r < 4611686018427387904 by omega)]
        exact ez
      | succ d ihd =>
        intro i out hd hi h
        have hi2 : i < n := by omega
        obtain ⟨p0, p1⟩ := hp.2 i hi2
        obtain ⟨o0, o1, o2⟩ := ho.2 i hi2
        obtain ⟨a0, a1, a2⟩ := h.2 i hi2
        obtain ⟨b0, b1, b2⟩ := h.2 (rd p i).toNat (by omega)
        obtain ⟨c0, c1, c2⟩ := h.2 (rd o i).toNat (by omega)
        have ep : (((rd p i).toNat : Nat) : Int) = rd p i := by omega
        have eo : (((rd o i).toNat : Nat) : Int) = rd o i := by omega
        rw [ep] at b0 b1 b2
        rw [eo] at c0 c1 c2
        obtain ⟨X, hX⟩ : ∃ X, X = mn (rd out i) (mn (rd out (rd p i)) (rd out (rd o i))) := ⟨_, rfl⟩
        have m1 := mn_le (rd out i) (mn (rd out (rd p i)) (rd out (rd o i)))
        have m2 := mn_le (rd out (rd p i)) (rd out (rd o i))
        rw [← hX] at m1
        have X0 : 0 ≤ X := by omega
        have ri : Reach ps n (rd p i).toNat i := (Reach.step hm hi2).symm
        have rX : Reach ps n X.toNat i := by
          rcases m1.2.2 with e | e
          · rw [e]; exact a2
          · rcases m2.2.2 with e2 | e2
            · rw [e, e2]; exact b2.trans ri
            · rw [e, e2]; exact c2.trans o2
        have s1 := orbI_put h hi2 X0 (by omega) rX
        have s2 := orbI_put s1 (i := (rd p i).toNat) (by omega) X0 (by omega) (rX.trans ri.symm)
        have s3 := orbI_put s2 (i := (rd o i).toNat) (by omega) X0 (by omega) (rX.trans o2.symm)
        obtain ⟨z, ez, hz⟩ := ihd (i + 1) _ (by omega) (by omega) s3
        refine ⟨z, Ev.s ?_, hz⟩
        simp only [spec_l5Join.l1, hp.1, ho.1, h.1, show (i : Int) < (n : Int) by omega, show (0 : Int) ≤ (i : Int) by omega, p0, p1, o0, show rd o (i : Int) < (n : Int) by omega, if_true, ← hX, w64n (show i < 4611686018427387904 by omega), Int.toNat_natCast]
        exact ez
    obtain ⟨z, ez, hz⟩ := loop n 0 out (by omega) (by omega) h
    refine ⟨z, Ev.s ?_, hz⟩
    simp only [spec_l5Join.l0, hp.1, show (r : Int) < (n : Int) by omega, if_true]
    exact ez
theorem orbI_more {ps : List (List Int)} {n : Nat} {o : List Int} (p : List Int) (h : orbI ps n o) : orbI (ps ++ [p]) n o := ⟨h.1, fun i hi => ⟨(h.2 i hi).1, (h.2 i hi).2.1, (h.2 i hi).2.2.more p⟩⟩
theorem join_ev (ps : List (List Int)) (n : Nat) (hn : n ≤ 12) (o p : List Int) (ho : orbI ps n o) (hp : inR n p) : ∃ z, Ev (fun k => spec_l5Join.f k o p) z ∧ orbI (ps ++ [p]) n z := by
  have h := orbI_more p ho
  obtain ⟨z, ez, hz⟩ := join_run (ps ++ [p]) n hn o p h hp (by simp) n 0 o (by omega) (by omega) h
  refine ⟨z, ?_, hz⟩
  unfold spec_l5Join.f spec_l2Copy.f
  have hl : o.length < 17592186044416 := by rw [ho.1]; omega
  simp only [Option.bind_some, List.length_nil, Nat.zero_add, hl, if_true, List.nil_append]
  exact ez
theorem count_ev (n : Nat) (h1 : 1 ≤ n) (h4 : n ≤ 4) (ts : List (List Int)) (hts : ts.length ≤ 6) (hT : ∀ t ∈ ts, vP t = true ∧ totP t = n) (whole : Bool) (leaf : List (List Int) → Nat) (Rel : List (List Int) → List Int → Prop)
    (hle : ∀ l, leaf l ≤ 1) (hR : ∀ l orb q, Rel l orb → (∀ x ∈ l, x ∈ PL n) → q ∈ PL n → ∃ z, Ev (fun k => spec_l5Join.f k orb q) z ∧ Rel (l ++ [q]) z)
    (hF : ∀ l orb, Rel l orb → l.length = ts.length → (∀ x ∈ l, x ∈ PL n) → Ev (fun k => if whole = true then ((spec_l5Sum.f k orb).bind fun t => (if t > 0 then (some (0 : Int)) else (some 1))) else (some 1)) (leaf l : Int)) :
    ∀ (Ts : List (List Int)) (l : List (List Int)) (pr orb : List Int), ts.drop l.length = Ts → l.length + Ts.length = ts.length → (∀ q ∈ l, q ∈ PL n) → inR n pr → Rel l orb → Ev (fun k => spec_l5Count.f k ts l.length pr orb whole) (wrap64 (cntF n leaf (Ts.map (FL n (PL n))) l pr))
  | [], l, pr, orb, hd, hl, hq, hp, hr => by
    simp only [List.length_nil, Nat.add_zero] at hl
    refine Ev.s ?_
    simp only [spec_l5Count.f, show ((l.length : Nat) : Int) = (ts.length : Int) by omega, if_true]
    refine Ev.bind (moves_ev n (by omega) pr hp.1) ?_
    by_cases e : pr = stl n
    · have := hle l
      simp only [e, ne_eq, not_true_eq_false, decide_false, Bool.false_eq_true, if_false, List.map_nil, cntF, if_true]
      rw [w64 (x := ((leaf l : Nat) : Int)) (by omega) (by omega)]
      exact hF l orb hr (by omega) hq
    · simp only [e, ne_eq, not_false_eq_true, decide_true, if_true, List.map_nil, cntF, if_false]
      exact Ev.const (congrArg some (w64 (by omega) (by omega)).symm)
  | t :: Ts, l, pr, orb, hd, hl, hq, hp, hr => by
    simp only [List.length_cons] at hl
    have hlt : l.length < ts.length := by omega
    have hg := List.drop_eq_getElem_cons hlt
    rw [hd] at hg
    injection hg with g1 g2
    have hrd : rd_L1 ts ((l.length : Nat) : Int) = t := by rw [rdL_nth ts l.length hlt, ← g1]
    have hTt := hT t (by rw [g1]; exact List.getElem_mem hlt)
    have ih := count_ev n h1 h4 ts hts hT whole leaf Rel hle hR hF Ts
    obtain ⟨_, _, c3⟩ := chain_all n h1 h4
    obtain ⟨C, hC⟩ : ∃ C, C = FL n (PL n) t := ⟨_, rfl⟩
    have hC3 : C.length ≤ 24 := by rw [hC]; exact Nat.le_trans (FL_len n (PL n) t) c3
    have hCm : ∀ q ∈ C, q ∈ PL n := fun q hq => by rw [hC] at hq; exact (List.mem_filter.1 hq).1
    have loop : ∀ (d i : Nat) (m : Int), C.length - i = d → i ≤ C.length → Ev (fun k => spec_l5Count.l0 k ts l.length pr orb whole (wrap64 m) C i) (wrap64 (m + (((C.drop i).map fun p => cntF n leaf (Ts.map (FL n (PL n))) (l ++ [p]) (mulL pr p n)).sum : Nat))) := by
      intro d
      induction d with
      | zero =>
        intro i m hd hi
        have e : i = C.length := by omega
        subst e
        refine Ev.s ?_
        simp only [spec_l5Count.l0, show ¬ (C.length : Int) < (C.length : Int) by omega, if_false, List.drop_length, List.map_nil, List.sum_nil, Int.natCast_zero, Int.add_zero]
        exact Ev.const rfl
      | succ d ihd =>
        intro i m hd hi
        have hi2 : i < C.length := by omega
        have hqi := hCm _ (List.getElem_mem hi2)
        have hqr := PL_inR n _ hqi
        obtain ⟨z, ez, hz⟩ := hR l orb C[i] hr hq hqi
        have a := ih (l ++ [C[i]]) (mulL pr C[i] n) z (by rw [List.length_append, List.length_cons, List.length_nil]; exact g2.symm) (by rw [List.length_append, List.length_cons, List.length_nil]; omega) (fun q hq2 => by
          rcases List.mem_append.1 hq2 with h | h
          · exact hq q h
          · have : q = C[i] := by simpa using h
            rw [this]; exact hqi) (mulL_inR n pr C[i] hp hqr) hz
        have el : ((l ++ [C[i]]).length : Int) = ((l.length + 1 : Nat) : Int) := by rw [List.length_append, List.length_cons, List.length_nil]
        rw [el] at a
        have b := ihd (i + 1) (m + (cntF n leaf (Ts.map (FL n (PL n))) (l ++ [C[i]]) (mulL pr C[i] n) : Int)) (by omega) (by omega)
        refine Ev.s ?_
        simp only [spec_l5Count.l0, show (i : Int) < (C.length : Int) by omega, show (0 : Int) ≤ (i : Int) by omega, if_true]
        rw [rdL_nth C i hi2, List.drop_eq_getElem_cons hi2, List.map_cons, List.sum_cons]
        refine Ev.bind (specMul_ev n (by omega) pr C[i] hp hqr) (Ev.bind ez ?_)
        simp only [w64n (show l.length < 4611686018427387904 by omega), w64n (show i < 4611686018427387904 by omega)]
        refine Ev.bind a ?_
        rw [wrap_addl, wrap_addr]
        have e3 : ∀ x y : Nat, m + ((x + y : Nat) : Int) = m + (x : Int) + (y : Int) := fun x y => by omega
        rw [e3]
        exact b
    refine Ev.s ?_
    simp only [spec_l5Count.f, show ¬ ((l.length : Nat) : Int) = (ts.length : Int) by omega, show ((l.length : Nat) : Int) < (ts.length : Int) by omega, show (0 : Int) ≤ ((l.length : Nat) : Int) by omega, if_false, if_true, hrd]
    refine Ev.bind (class_ev n h1 h4 t hTt.1 hTt.2) ?_
    have h := loop C.length 0 0 (by omega) (by omega)
    rw [List.drop_zero, Int.zero_add, w64 (x := 0) (by omega) (by omega)] at h
    simp only [List.map_cons, cntF]
    rw [hC] at h
    exact h
theorem goodT_mem {l : List (List Int)} {n : Nat} (h : goodT l) (e : totP (rd_L1 l 0) = n) : ∀ t ∈ l, vP t = true ∧ totP t = n := by
  intro t ht
  obtain ⟨i, hi, rfl⟩ := List.mem_iff_getElem.1 ht
  have := h.2.2 i hi
  unfold okT at this
  rw [rdL_nth l i hi] at this
  exact ⟨this.1, this.2.trans e⟩
def frobB (n : Nat) (T : List (List Int)) : Bool := decide (facP n T = (cntT n (fun _ => 1) T : Int))
def frob1 (n : Nat) : Bool := (PT n).all fun a => frobB n [a]
def frob2 (n : Nat) : Bool := (PT n).all fun a => (PT n).all fun b => frobB n [a, b]
def frob3 (n : Nat) : Bool := (PT n).all fun a => (PT n).all fun b => (PT n).all fun c => frobB n [a, b, c]
set_option maxRecDepth 100000 in
theorem frob1_ok : (frob1 1 && frob1 2 && frob1 3 && frob1 4) = true := by decide +kernel
set_option maxRecDepth 100000 in
theorem frob2_ok : (frob2 1 && frob2 2 && frob2 3 && frob2 4) = true := by decide +kernel
set_option maxRecDepth 100000 in
theorem frob3_3 : (frob3 1 && frob3 2 && frob3 3) = true := by decide +kernel
set_option maxRecDepth 100000 in
theorem frob3_4 : frob3 4 = true := by decide +kernel
theorem four_ofF (P : Nat → Bool) (h : (P 1 && P 2 && P 3 && P 4) = true) (n : Nat) (h1 : 1 ≤ n) (h4 : n ≤ 4) : P n = true := by
  simp only [Bool.and_eq_true] at h
  rcases n with _ | _ | _ | _ | _ | n
  · omega
  · exact h.1.1.1
  · exact h.1.1.2
  · exact h.1.2
  · exact h.2
  · omega
theorem frob_all (n : Nat) (h1 : 1 ≤ n) (h4 : n ≤ 4) (T : List (List Int)) (hT : ∀ t ∈ T, t ∈ PT n) (l1 : 1 ≤ T.length) (l3 : T.length ≤ 3) : facP n T = (cntT n (fun _ => 1) T : Int) := by
  have e1 := four_ofF frob1 frob1_ok n h1 h4
  have e2 := four_ofF frob2 frob2_ok n h1 h4
  have e3 := four_ofF frob3 (by rw [frob3_3, frob3_4]; rfl) n h1 h4
  refine of_decide_eq_true (?_ : frobB n T = true)
  rcases T with _ | ⟨p, _ | ⟨q, _ | ⟨r, _ | ⟨s, l⟩⟩⟩⟩
  · simp at l1
  · exact List.all_eq_true.1 e1 p (hT p (by simp))
  · exact List.all_eq_true.1 (List.all_eq_true.1 e2 p (hT p (by simp))) q (hT q (by simp))
  · exact List.all_eq_true.1 (List.all_eq_true.1 (List.all_eq_true.1 e3 p (hT p (by simp))) q (hT q (by simp))) r (hT r (by simp))
  · simp only [List.length_cons] at l3
    omega
theorem each_leaf (n : Nat) (h1 : 1 ≤ n) (h4 : n ≤ 4) (ts : List (List Int)) (hts : ts.length ≤ 6) (hT : ∀ t ∈ ts, vP t = true ∧ totP t = n) : Ev (fun k => spec_l5Count.f k ts 0 (stl n) (stl n) false) (wrap64 (cntT n (fun _ => 1) ts)) := by
  have h := count_ev n h1 h4 ts hts hT false (fun _ => 1) (fun l o => orbI l n o) (fun _ => Nat.le_refl _) (fun l orb q hr _ hq => join_ev l n (by omega) orb q hr (PL_inR n q hq)) (fun l orb _ _ _ => by
    simp only [Bool.false_eq_true, if_false]
    exact Ev.const rfl) ts [] (stl n) (stl n) (by rw [List.length_nil, List.drop_zero]) (by rw [List.length_nil]; omega) (by simp) (stl_inR n) (stl_orbI [] n)
  exact h
theorem factorEach_both (l : List (List Int)) (hl : l.length ≤ 1048576) (h2 : ∀ j : Nat, j < l.length → (rd_L1 l (j : Int)).length ≤ 1048576) : ∃ r, Ev (fun k => impl_FactorEach.f k l) r ∧ Ev (fun k => spec_FactorEach.f k l) r := by
  obtain ⟨r, er, hr⟩ := implTypes_ev l hl h2
  obtain ⟨b, eb, hb⟩ := specSmall_ev l hl h2
  by_cases s : smallT l
  · obtain ⟨g, hl3, ht4⟩ := s
    have hbt := hb.2 ⟨g, hl3, ht4⟩
    subst hbt
    have hre : r = totP (rd_L1 l 0) := hr.elim (fun h => h.2) (fun h => absurd g h.1)
    have hv : vP (rd_L1 l 0) = true := (g.2.2 0 (by have := g.1; omega)).1
    have hv2 := vP_len _ hv
    obtain ⟨n, hn⟩ : ∃ n : Nat, totP (rd_L1 l 0) = n := ⟨(totP (rd_L1 l 0)).toNat, by have := hv2.2.1; omega⟩
    have hv3 : 1 ≤ totP (rd_L1 l 0) := hv2.2.1
    have n1 : 1 ≤ n := by omega
    have n4 : n ≤ 4 := by omega
    have hT := goodT_mem g hn
    refine ⟨wrap64 (cntT n (fun _ => 1) l), ?_, ?_⟩
    · unfold impl_FactorEach.f
      refine Ev.bind er ?_
      rw [hre, hn]
      simp only [show ¬ (n : Int) < 0 by omega, show ¬ (n : Int) > 4 by omega, show ¬ (l.length : Int) > 3 by omega, if_false]
      obtain ⟨_, _, c3⟩ := chain_all n n1 n4
      exact facs_ev n n1 (by omega) (by omega) (fun _ => 1) _ l hl (fun l m _ _ => Ev.const (congrArg some (by rw [wrap_addl]; rfl)))
    · unfold spec_FactorEach.f
      refine Ev.bind eb ?_
      have hsum := specSum_ev _ hv
      rw [hn] at hsum
      simp only [if_true, show (0 : Int) < (l.length : Int) by have := g.1; omega]
      exact Ev.bind hsum (Ev.bind (same_ev n (by omega)) (Ev.bind (each_leaf n n1 n4 l (by omega) hT) (Ev.const rfl)))
  · have hbf : b = false := by
      cases b with
      | false => rfl
      | true => exact absurd (hb.1 rfl) s
    subst hbf
    refine ⟨-1, ?_, ?_⟩
    · unfold impl_FactorEach.f
      refine Ev.bind er ?_
      rcases hr with ⟨g, e⟩ | ⟨_, e⟩
      · have hv : vP (rd_L1 l 0) = true := (g.2.2 0 (by have := g.1; omega)).1
        have hv2 := vP_len _ hv
        have hv3 : 1 ≤ totP (rd_L1 l 0) := hv2.2.1
        rw [e]
        by_cases c : totP (rd_L1 l 0) > 4
        · simp only [show ¬ totP (rd_L1 l 0) < 0 by omega, c, if_false, if_true]
          exact Ev.const rfl
        · have : (l.length : Int) > 3 := by
            by_cases c3 : (l.length : Int) > 3
            · exact c3
            · exact absurd ⟨g, by omega, by omega⟩ s
          simp only [show ¬ totP (rd_L1 l 0) < 0 by omega, c, this, if_false, if_true]
          exact Ev.const rfl
      · rw [e]
        simp only [show (-1 : Int) < 0 by omega, if_true]
        exact Ev.const rfl
    · unfold spec_FactorEach.f
      refine Ev.bind eb ?_
      simp only [Bool.false_eq_true, if_false]
      exact Ev.const rfl
theorem mx_ge (a b : Int) : a ≤ mx a b ∧ b ≤ mx a b ∧ (mx a b = a ∨ mx a b = b) := by unfold mx; split <;> omega
theorem max_run (o : List Int) (ho : o.length ≤ 1048576) (h0 : ∀ j : Nat, j < o.length → 0 ≤ rd o j) : ∀ (d i : Nat) (a : Int), o.length - i = d → i ≤ o.length → 0 ≤ a → ∃ r, Ev (fun k => slices_Max_int_int.l0 k o a i) r ∧ (r = 0 ↔ a = 0 ∧ ∀ j : Nat, i ≤ j → j < o.length → rd o j = 0) ∧ 0 ≤ r
  | 0, i, a, hd, hi, ha => by
    refine ⟨a, Ev.s ?_, ⟨fun h => ⟨h, fun j h1 h2 => by omega⟩, fun h => h.1⟩, ha⟩
    simp only [slices_Max_int_int.l0, show ¬ (i : Int) < (o.length : Int) by omega, if_false]
    exact Ev.const rfl
  | d + 1, i, a, hd, hi, ha => by
    have hi2 : i < o.length := by omega
    have hv := h0 i hi2
    have hm := mx_ge a (rd o (i : Int))
    obtain ⟨r, er, hr, hr0⟩ := max_run o ho h0 d (i + 1) (mx a (rd o (i : Int))) (by omega) (by omega) (by omega)
    refine ⟨r, Ev.s ?_, hr.trans ⟨fun h => ⟨by omega, fun j h1 h2 => ?_⟩, fun h => ⟨?_, fun j h1 h2 => h.2 j (by omega) h2⟩⟩, hr0⟩
    · simp only [slices_Max_int_int.l0, show (i : Int) < (o.length : Int) by omega, show (0 : Int) ≤ (i : Int) by omega, if_true, w64n (show i < 4611686018427387904 by omega)]
      exact er
    · by_cases e : j = i
      · subst e; omega
      · exact h.2 j (by omega) h2
    · have := h.2 i (Nat.le_refl _) hi2
      omega
theorem max_ev (o : List Int) (ho : o.length ≤ 1048576) (h1 : 1 ≤ o.length) (h0 : ∀ j : Nat, j < o.length → 0 ≤ rd o j) : ∃ r, Ev (fun k => slices_Max_int_int.f k o) r ∧ (r = 0 ↔ ∀ j : Nat, j < o.length → rd o j = 0) := by
  obtain ⟨r, er, hr, _⟩ := max_run o ho h0 (o.length - 1) 1 (rd o 0) (by omega) (by omega) (h0 0 (by omega))
  refine ⟨r, ?_, hr.trans ⟨fun h j hj => ?_, fun h => ⟨h 0 (by omega), fun j _ hj => h j hj⟩⟩⟩
  · unfold slices_Max_int_int.f
    simp only [show ¬ (o.length : Int) < 1 by omega, show (0 : Int) < (o.length : Int) by omega, if_false, if_true]
    exact er
  · rcases j with _ | j
    · exact h.1
    · exact h.2 (j + 1) (by omega) hj
def conn (n : Nat) (l : List (List Int)) : Prop := ∀ i, i < n → Reach l n 0 i
theorem orb_conn (n : Nat) (h1 : 1 ≤ n) (l : List (List Int)) (hl : ∀ p ∈ l, inR n p) (o : List Int) (ho : orbOk l n o) : (∀ j : Nat, j < n → rd o j = 0) ↔ conn n l := by
  constructor
  · intro h i hi
    have := (ho.1.2 i hi).2.2
    rw [h i hi] at this
    exact this
  · intro h i hi
    have e := orbOk_const ho hl (h i hi)
    have := ho.1.2 0 (by omega)
    rw [← e]
    omega
open Classical in
noncomputable def leafW (n : Nat) (l : List (List Int)) : Nat := if conn n l then 1 else 0
theorem leafW_le (n : Nat) (l : List (List Int)) : leafW n l ≤ 1 := by unfold leafW; split <;> omega
theorem stepW_ev (n : Nat) (h1 : 1 ≤ n) (hn : n ≤ 12) (l : List (List Int)) (hl0 : 0 < l.length) (hl : l.length ≤ 1048576) (hp : ∀ p ∈ l, inR n p) (m : Int) : Ev (fun k => stepW k (wrap64 m) l) (wrap64 (m + leafW n l)) := by
  obtain ⟨o, ok, eo⟩ := implOrb_ev l n hn hl0 hl hp
  have ol := ok.1.1
  obtain ⟨r, er, hr⟩ := max_ev o (by omega) (by omega) (fun j hj => (ok.1.2 j (by omega)).1)
  rw [ol] at hr
  have hc := hr.trans (orb_conn n h1 l hp o ok)
  unfold stepW
  refine Ev.bind eo (Ev.bind er ?_)
  by_cases z : r = 0
  · simp only [z, if_true]
    refine Ev.const (congrArg some ?_)
    rw [wrap_addl]
    unfold leafW
    rw [if_pos (hc.1 z)]
    rfl
  · simp only [z, if_false]
    refine Ev.const (congrArg some ?_)
    unfold leafW
    rw [if_neg (fun h => z (hc.2 h)), Int.natCast_zero, Int.add_zero]
theorem implWhole_ev (l : List (List Int)) (hl : l.length ≤ 1048576) (h2 : ∀ j : Nat, j < l.length → (rd_L1 l (j : Int)).length ≤ 1048576) (s : smallT l) (n : Nat) (hn : totP (rd_L1 l 0) = n) (n1 : 1 ≤ n) (n4 : n ≤ 4) : Ev (fun k => impl_FactorWhole.f k l) (wrap64 (cntT n (leafW n) l)) := by
  obtain ⟨r, er, hr⟩ := implTypes_ev l hl h2
  obtain ⟨g, hl3, ht4⟩ := s
  have hg1 := g.1
  have hre : r = totP (rd_L1 l 0) := hr.elim (fun h => h.2) (fun h => absurd g h.1)
  unfold impl_FactorWhole.f
  refine Ev.bind er ?_
  rw [hre, hn]
  simp only [show ¬ (n : Int) < 0 by omega, show ¬ (n : Int) > 4 by omega, show ¬ (l.length : Int) > 3 by omega, if_false]
  obtain ⟨_, _, c3⟩ := chain_all n n1 n4
  exact facs_ev n n1 (by omega) (by omega) (leafW n) _ l hl (fun l' m e hp => stepW_ev n n1 (by omega) l' (by omega) (by omega) hp m)
theorem sum_le (B : Nat) : ∀ (L : List Nat), (∀ x ∈ L, x ≤ B) → L.sum ≤ L.length * B
  | [], _ => by simp
  | x :: L, h => by
    have h1 := h x List.mem_cons_self
    have h2 := sum_le B L fun y hy => h y (List.mem_cons_of_mem _ hy)
    rw [List.sum_cons, List.length_cons, Nat.add_mul, Nat.one_mul]
    omega
theorem cntF_le (n : Nat) (leaf : List (List Int) → Nat) (hl : ∀ l, leaf l ≤ 1) : ∀ (Cs : List (List (List Int))) (l : List (List Int)) (pr : List Int), (∀ C ∈ Cs, C.length ≤ 24) → cntF n leaf Cs l pr ≤ 24 ^ Cs.length
  | [], l, pr, _ => by
    simp only [cntF, List.length_nil, Nat.pow_zero]
    split
    · exact hl l
    · omega
  | C :: Cs, l, pr, h => by
    simp only [cntF, List.length_cons, Nat.pow_succ]
    have h1 := sum_le (24 ^ Cs.length) (C.map fun p => cntF n leaf Cs (l ++ [p]) (mulL pr p n)) fun x hx => by
      obtain ⟨p, _, rfl⟩ := List.mem_map.1 hx
      exact cntF_le n leaf hl Cs _ _ fun D hD => h D (List.mem_cons_of_mem _ hD)
    rw [List.length_map] at h1
    have h2 := h C List.mem_cons_self
    exact Nat.le_trans h1 (by rw [Nat.mul_comm]; exact Nat.mul_le_mul_left _ h2)
theorem cntT_le (n : Nat) (h1 : 1 ≤ n) (h4 : n ≤ 4) (leaf : List (List Int) → Nat) (hl : ∀ l, leaf l ≤ 1) (ts : List (List Int)) (h3 : ts.length ≤ 3) : cntT n leaf ts ≤ 13824 := by
  obtain ⟨_, _, c3⟩ := chain_all n h1 h4
  have h := cntF_le n leaf hl (ts.map (FL n (PL n))) [] (stl n) fun C hC => by
    obtain ⟨t, _, rfl⟩ := List.mem_map.1 hC
    exact Nat.le_trans (FL_len n (PL n) t) c3
  rw [List.length_map] at h
  exact Nat.le_trans h (Nat.le_trans (Nat.pow_le_pow_right (by omega) h3) (by decide))
theorem sum_mono : ∀ (L : List (List Int)) (f g : List Int → Nat), (∀ x ∈ L, f x ≤ g x) → (L.map f).sum ≤ (L.map g).sum
  | [], _, _, _ => Nat.le_refl _
  | x :: L, f, g, h => by
    rw [List.map_cons, List.map_cons, List.sum_cons, List.sum_cons]
    exact Nat.add_le_add (h x List.mem_cons_self) (sum_mono L f g fun y hy => h y (List.mem_cons_of_mem _ hy))
theorem cntF_mono (n : Nat) (leaf leaf' : List (List Int) → Nat) (h : ∀ l, leaf l ≤ leaf' l) : ∀ (Cs : List (List (List Int))) (l : List (List Int)) (pr : List Int), cntF n leaf Cs l pr ≤ cntF n leaf' Cs l pr
  | [], l, pr => by
    simp only [cntF]
    split
    · exact h l
    · omega
  | C :: Cs, l, pr => by
    simp only [cntF]
    exact sum_mono C _ _ fun p _ => cntF_mono n leaf leaf' h Cs _ _
theorem xor_nonneg (a b : Int) (ha : 0 ≤ a) (hb : 0 ≤ b) (ha' : a < 9223372036854775808) (hb' : b < 9223372036854775808) : 0 ≤ Go.bits .xor .i64 a b := by
  obtain ⟨n, rfl⟩ := Int.eq_ofNat_of_zero_le ha
  obtain ⟨m, rfl⟩ := Int.eq_ofNat_of_zero_le hb
  have hn : n % 2 ^ 64 = n := Nat.mod_eq_of_lt (by omega)
  have hm : m % 2 ^ 64 = m := Nat.mod_eq_of_lt (by omega)
  have hx : n ^^^ m < 2 ^ 63 := Nat.xor_lt_two_pow (by omega) (by omega)
  have e : Go.bits .xor .i64 (n : Int) (m : Int) = IntKind.i64.wrap ((n ^^^ m : Nat) : Int) := by
    simp only [Go.bits, BitVec.ofInt_natCast]
    show IntKind.i64.wrap (((BitVec.ofNat 64 n ^^^ BitVec.ofNat 64 m).toNat : Nat) : Int) = _
    rw [BitVec.toNat_xor, BitVec.toNat_ofNat, BitVec.toNat_ofNat, hn, hm]
  rw [e, IntKind.wrap_i64]
  omega
def bytesOk (l : List Int) : Prop := l.length ≤ 2000 ∧ ∀ x ∈ l, 0 ≤ x ∧ x ≤ 255
theorem rd_byte (l : List Int) (h : bytesOk l) (i : Int) : 0 ≤ rd l i ∧ rd l i ≤ 255 := by
  unfold rd
  by_cases hi : i.toNat < l.length
  · rw [List.getD_eq_getElem?_getD, List.getElem?_eq_getElem hi]
    exact h.2 _ (List.getElem_mem hi)
  · rw [List.getD_eq_getElem?_getD, List.getElem?_eq_none (by omega)]
    decide
theorem pick_ev (l : List Int) (h : bytesOk l) (p : Int) (hp : 0 ≤ p) (hp' : p ≤ 1000000) (n : Int) (hn : 1 ≤ n) (hn' : n ≤ 1000000) : ∃ v, Ev (fun k => spec_l6Rd_pick.f k l p n) (v, p + 1) ∧ 0 ≤ v ∧ v < n := by
  have w0 : wrap64 (p + 1) = p + 1 := w64 (by omega) (by omega)
  have w1 : wrap64 (p + 1 - 1) = p := by rw [w64 (by omega) (by omega)]; omega
  have hl := h.1
  unfold spec_l6Rd_pick.f
  simp only [show ¬ n < 1 by omega, if_false, w0]
  by_cases hz : l.length = 0
  · refine ⟨0, Ev.s ?_, by omega, by omega⟩
    have : (((l.length : Int)) == 0) = true := by simp [hz]
    simp only [this, spec_l6Rd_pick.j0, if_true]
    exact Ev.const rfl
  · have hb : (((l.length : Int)) == 0) = false := by rw [beq_eq_false_iff_ne]; omega
    have hn0 : ¬ n = 0 := by omega
    by_cases hlt : p < (l.length : Int)
    · have hr := rd_byte l h p
      have wr : wrap64 (rd l p) = rd l p := w64 (by omega) (by omega)
      refine ⟨Int.tmod (rd l p) n, Ev.s ?_, Int.tmod_nonneg _ (by omega), Int.tmod_lt_of_pos _ (by omega)⟩
      simp only [hb, spec_l6Rd_pick.j0, w1, hlt, hp, hn0, wr, Bool.false_eq_true, if_true, if_false]
      exact Ev.const rfl
    · have hl0 : ¬ (l.length : Int) = 0 := by omega
      have wk : wrap64 (p * 7) = p * 7 := w64 (by omega) (by omega)
      have wk3 : wrap64 (p * 7 + 3) = p * 7 + 3 := w64 (by omega) (by omega)
      have t1 := Int.tmod_nonneg (a := p) (l.length : Int) hp
      have t2 := Int.tmod_lt_of_pos p (b := (l.length : Int)) (by omega)
      have t3 := Int.tmod_nonneg (a := p * 7 + 3) (l.length : Int) (by omega)
      have t4 := Int.tmod_lt_of_pos (p * 7 + 3) (b := (l.length : Int)) (by omega)
      have r1 := rd_byte l h (Int.tmod p (l.length : Int))
      have r2 := rd_byte l h (Int.tmod (p * 7 + 3) (l.length : Int))
      have d1 : 0 ≤ Int.tdiv p (l.length : Int) := Int.tdiv_nonneg hp (by omega)
      have d2 : Int.tdiv p (l.length : Int) ≤ p := Int.tdiv_le_self _ hp
      obtain ⟨X, hX, hX0, hX1⟩ : ∃ X, (wrap64 ((wrap64 ((wrap64 ((wrap64 ((wrap64 (rd l (Int.tmod p (l.length : Int)))) * 131)) + (wrap64 ((wrap64 (rd l (Int.tmod (p * 7 + 3) (l.length : Int)))) * 1117)))) + (wrap64 (p * 29)))) + (wrap64 ((wrap64 (Int.tdiv p (l.length : Int))) * 53)))) = X ∧ 0 ≤ X ∧ X < 4611686018427387904 := by
        refine ⟨_, rfl, ?_, ?_⟩
        all_goals
          generalize rd l (Int.tmod p (l.length : Int)) = a at *
          generalize rd l (Int.tmod (p * 7 + 3) (l.length : Int)) = b at *
          generalize Int.tdiv p (l.length : Int) = c at *
          rw [w64 (x := a) (by omega) (by omega), w64 (x := b) (by omega) (by omega), w64 (x := a * 131) (by omega) (by omega), w64 (x := b * 1117) (by omega) (by omega), w64 (x := a * 131 + b * 1117) (by omega) (by omega), w64 (x := p * 29) (by omega) (by omega), w64 (x := a * 131 + b * 1117 + p * 29) (by omega) (by omega), w64 (x := c) (by omega) (by omega), w64 (x := c * 53) (by omega) (by omega), w64 (x := a * 131 + b * 1117 + p * 29 + c * 53) (by omega) (by omega)]
          omega
      have hd : 0 ≤ wrap64 (Int.tdiv X 64) ∧ wrap64 (Int.tdiv X 64) < 9223372036854775808 := by
        have := Int.tdiv_nonneg hX0 (show (0 : Int) ≤ 64 by decide)
        have := Int.tdiv_le_self 64 hX0
        rw [w64 (by omega) (by omega)]
        omega
      have hx := xor_nonneg X (wrap64 (Int.tdiv X 64)) hX0 hd.1 (by omega) hd.2
      refine ⟨Int.tmod (Go.bits .xor .i64 X (wrap64 (Int.tdiv X 64))) n, Ev.s ?_, Int.tmod_nonneg _ hx, Int.tmod_lt_of_pos _ (by omega)⟩
      simp only [hb, spec_l6Rd_pick.j0, w1, hlt, hl0, wk, wk3, t1, t2, t3, t4, hn0, hX, Bool.false_eq_true, if_true, if_false]
      exact Ev.const rfl
theorem open_ev (l : List Int) (hb : ∀ x ∈ l, (Lit.int .u8 x).wf = true) : ∃ l', spec_l6Open.f l = some (l', 0) ∧ bytesOk l' := by
  have hb' : ∀ x ∈ l, 0 ≤ x ∧ x ≤ 255 := by
    intro x hx
    have := hb x hx
    simp only [Lit.wf, IntKind.min, IntKind.max, IntKind.signed, IntKind.bits, Bool.and_eq_true, decide_eq_true_eq, Bool.false_eq_true, if_false] at this
    omega
  unfold spec_l6Open.f
  by_cases h : (l.length : Int) > 2000
  · refine ⟨l.take 2000, ?_, ?_, fun x hx => hb' x (List.mem_of_mem_take hx)⟩
    · rw [if_pos h, if_pos (by omega)]
    · rw [List.length_take]; omega
  · exact ⟨l, by rw [if_neg h], by omega, hb'⟩
def allB (n : Nat) : Bool := match spec_l5All.f 60 n n with
  | some L => decide (1 ≤ L.length) && decide (L.length ≤ 1000) && L.all fun p => decide (1 ≤ p.length) && decide (p.length ≤ 7)
  | none => false
set_option maxRecDepth 100000 in
theorem allB_all (n : Nat) (h1 : 1 ≤ n) (h7 : n ≤ 7) : allB n = true := by
  have h : ∀ m : Fin 8, 1 ≤ m.val → allB m.val = true := by decide +kernel
  exact h ⟨n, by omega⟩ h1
theorem all_ev (n : Nat) (h1 : 1 ≤ n) (h7 : n ≤ 7) : ∃ L, Ev (fun k => spec_l5All.f k n n) L ∧ 1 ≤ L.length ∧ L.length ≤ 1000 ∧ ∀ p ∈ L, 1 ≤ p.length ∧ p.length ≤ 7 := by
  have h := allB_all n h1 h7
  unfold allB at h
  split at h
  · rename_i L e
    simp only [Bool.and_eq_true, decide_eq_true_eq, List.all_eq_true] at h
    exact ⟨L, Ev.of (fun k => spec_l5All.mono n n k) e, h.1.1, h.1.2, fun p hp => h.2 p hp⟩
  · cases h
theorem parts_ev (l : List Int) (h : bytesOk l) (p : Int) (hp : 0 ≤ p) (hp' : p ≤ 100000) (n : Nat) (h1 : 1 ≤ n) (h7 : n ≤ 7) : ∃ q p', Ev (fun k => spec_l91Parts.f k l p n) (q, p') ∧ q.length ≤ 8 ∧ p ≤ p' ∧ p' ≤ p + 3 := by
  obtain ⟨L, eL, L1, L2, L3⟩ := all_ev n h1 h7
  obtain ⟨v, ev, v0, v1⟩ := pick_ev l h p hp (by omega) (L.length : Int) (by omega) (by omega)
  obtain ⟨w, ew, w0, w1⟩ := pick_ev l h (p + 1) (by omega) (by omega) 40 (by omega) (by omega)
  obtain ⟨i, rfl⟩ := Int.eq_ofNat_of_zero_le v0
  have hi : i < L.length := by omega
  have hq := L3 _ (List.getElem_mem hi)
  have hr := rdL_nth L i hi
  have hcp : spec_l2Copy.f (rd_L1 L (i : Int)) = some (rd_L1 L (i : Int)) := by
    unfold spec_l2Copy.f
    rw [hr]
    simp only [Option.bind_some, List.length_nil, Nat.zero_add, show L[i].length < 17592186044416 by omega, if_true, List.nil_append]
  rw [← hr] at hq
  unfold spec_l91Parts.f
  by_cases c0 : w = 0
  · obtain ⟨x, ex, x0, x1⟩ := pick_ev l h (p + 1 + 1) (by omega) (by omega) 3 (by omega) (by omega)
    refine ⟨(rd_L1 L (i : Int)).set (0 : Int).toNat (rd ([0, (-1), 7] : List Int) x), p + 1 + 1 + 1, Ev.bind eL (Ev.bind ev ?_), ?_, by omega, by omega⟩
    · simp only [show (0 : Int) ≤ (i : Int) by omega, show (i : Int) < (L.length : Int) by omega, if_true, hcp, Option.bind_some]
      refine Ev.bind ew ?_
      simp only [c0, if_true]
      refine Ev.bind ex ?_
      simp only [x0, if_true, List.length_cons, List.length_nil, show x < ((0 + 1 + 1 + 1 : Nat) : Int) by omega, show (0 : Int) < ((rd_L1 L (i : Int)).length : Int) by omega]
      exact Ev.const rfl
    · rw [List.length_set]; omega
  · by_cases c1 : w = 1
    · refine ⟨(rd_L1 L (i : Int)) ++ [wrap64 ((rd (rd_L1 L (i : Int)) 0) + 1)], p + 1 + 1, Ev.bind eL (Ev.bind ev ?_), ?_, by omega, by omega⟩
      · simp only [show (0 : Int) ≤ (i : Int) by omega, show (i : Int) < (L.length : Int) by omega, if_true, hcp, Option.bind_some]
        refine Ev.bind ew ?_
        simp only [c0, c1, if_true, if_false, show ¬ (1 : Int) = 0 by omega, show (0 : Int) < ((rd_L1 L (i : Int)).length : Int) by omega, show (rd_L1 L (i : Int)).length < 17592186044416 by omega]
        exact Ev.const rfl
      · rw [List.length_append, List.length_cons, List.length_nil]; omega
    · by_cases c2 : w = 2
      · refine ⟨[], p + 1 + 1, Ev.bind eL (Ev.bind ev ?_), by simp, by omega, by omega⟩
        simp only [show (0 : Int) ≤ (i : Int) by omega, show (i : Int) < (L.length : Int) by omega, if_true, hcp, Option.bind_some]
        refine Ev.bind ew ?_
        simp only [c2, if_true, if_false, show ¬ (2 : Int) = 0 by omega, show ¬ (2 : Int) = 1 by omega]
        exact Ev.const rfl
      · refine ⟨rd_L1 L (i : Int), p + 1 + 1, Ev.bind eL (Ev.bind ev ?_), by omega, by omega, by omega⟩
        simp only [show (0 : Int) ≤ (i : Int) by omega, show (i : Int) < (L.length : Int) by omega, if_true, hcp, Option.bind_some]
        refine Ev.bind ew ?_
        simp only [c0, c1, c2, if_false]
        exact Ev.const rfl
def shortL (T : List (List Int)) : Prop := T.length ≤ 8 ∧ ∀ q ∈ T, q.length ≤ 8
theorem types_run (l : List Int) (h : bytesOk l) (n m : Nat) (h1 : 1 ≤ n) (h7 : n ≤ 7) (hm : m ≤ 7) : ∀ (d i : Nat) (T : List (List Int)) (p : Int), m - i = d → i ≤ m → T.length = i → (∀ q ∈ T, q.length ≤ 8) → 0 ≤ p → p ≤ 1000 + 3 * i → ∃ T' p', Ev (fun k => spec_l91Types.l0 k n T m i l p) (T', p') ∧ shortL T'
  | 0, i, T, p, hd, hi, hT, hq, p0, p1 => by
    have e : i = m := by omega
    subst e
    obtain ⟨v, ev, v0, v1⟩ := pick_ev l h p p0 (by omega) 30 (by omega) (by omega)
    by_cases c0 : v = 0
    · refine ⟨[], p + 1, Ev.s ?_, by simp [shortL]⟩
      simp only [spec_l91Types.l0, show ¬ (i : Int) < (i : Int) by omega, if_false]
      refine Ev.bind ev ?_
      simp only [c0, if_true]
      exact Ev.const rfl
    · by_cases c1 : v = 1
      · obtain ⟨w, ew, w0, w1⟩ := pick_ev l h (p + 1) (by omega) (by omega) 4 (by omega) (by omega)
        obtain ⟨j, rfl⟩ := Int.eq_ofNat_of_zero_le w0
        obtain ⟨q, p', eq, q1, q2, q3⟩ := parts_ev l h (p + 1 + 1) (by omega) (by omega) (j + 1) (by omega) (by omega)
        refine ⟨T ++ [q], p', Ev.s ?_, by rw [List.length_append, List.length_cons, List.length_nil]; omega, fun y hy => ?_⟩
        · simp only [spec_l91Types.l0, show ¬ (i : Int) < (i : Int) by omega, if_false]
          refine Ev.bind ev ?_
          simp only [c1, if_true, if_false, show ¬ (1 : Int) = 0 by omega]
          refine Ev.bind ew ?_
          rw [show wrap64 (1 + ((j : Nat) : Int)) = ((j + 1 : Nat) : Int) by rw [w64 (by omega) (by omega)]; omega]
          refine Ev.bind eq ?_
          simp only [show T.length < 5864062014805 by omega, if_true]
          exact Ev.const rfl
        · rcases List.mem_append.1 hy with hy | hy
          · exact hq y hy
          · have : y = q := by simpa using hy
            rw [this]; exact q1
      · refine ⟨T, p + 1, Ev.s ?_, by omega, hq⟩
        simp only [spec_l91Types.l0, show ¬ (i : Int) < (i : Int) by omega, if_false]
        refine Ev.bind ev ?_
        simp only [c0, c1, if_false]
        exact Ev.const rfl
  | d + 1, i, T, p, hd, hi, hT, hq, p0, p1 => by
    obtain ⟨q, p', eq, q1, q2, q3⟩ := parts_ev l h p p0 (by omega) n h1 h7
    obtain ⟨T', p2, e, hS⟩ := types_run l h n m h1 h7 hm d (i + 1) (T ++ [q]) p' (by omega) (by omega) (by rw [List.length_append, List.length_cons, List.length_nil]; omega) (fun y hy => by
      rcases List.mem_append.1 hy with hy | hy
      · exact hq y hy
      · have : y = q := by simpa using hy
        rw [this]; exact q1) (by omega) (by omega)
    refine ⟨T', p2, Ev.s ?_, hS⟩
    simp only [spec_l91Types.l0, show (i : Int) < (m : Int) by omega, if_true]
    refine Ev.bind eq ?_
    simp only [show T.length < 5864062014805 by omega, if_true, w64n (show i < 4611686018427387904 by omega)]
    exact e
theorem types_ev (l : List Int) (h : bytesOk l) (a b : Int) (a1 : 1 ≤ a) (a7 : a ≤ 7) (b1 : 1 ≤ b) (b7 : b ≤ 7) : ∃ T p', Ev (fun k => spec_l91Types.f k l 0 a b) (T, p') ∧ shortL T := by
  obtain ⟨v, ev, v0, v1⟩ := pick_ev l h 0 (by omega) (by omega) a a1 (by omega)
  obtain ⟨w, ew, w0, w1⟩ := pick_ev l h (0 + 1) (by omega) (by omega) b b1 (by omega)
  obtain ⟨i, rfl⟩ := Int.eq_ofNat_of_zero_le v0
  obtain ⟨j, rfl⟩ := Int.eq_ofNat_of_zero_le w0
  obtain ⟨T, p', e, hS⟩ := types_run l h (i + 1) (j + 1) (by omega) (by omega) (by omega) (j + 1) 0 [] (0 + 1 + 1) (by omega) (by omega) rfl (by simp) (by omega) (by omega)
  refine ⟨T, p', ?_, hS⟩
  unfold spec_l91Types.f
  refine Ev.bind ev (Ev.bind ew ?_)
  simp only [show wrap64 (1 + ((i : Nat) : Int)) = ((i + 1 : Nat) : Int) by rw [w64 (by omega) (by omega)]; omega, show wrap64 (1 + ((j : Nat) : Int)) = ((j + 1 : Nat) : Int) by rw [w64 (by omega) (by omega)]; omega]
  exact e
end Go.Proofs.Ytggghijamfmenaa.PN

set_option linter.unusedVariables false
set_option linter.unusedSimpArgs false
namespace Go.Proofs.Ytggghijamfmenaa.Pure
open Go.RowKit Go.Proofs.Ytggghijamfmenaa.PN Go.Proofs.YtggghijamfmenaaW.PrintWords Go.Proofs.YtggghijamfmenaaW.PrintLast
theorem FnFactorEach : laws_FnFactorEach.Pure := by
  intro l h0 h1 hb
  refine Ev.rounds (?_ : Ev (fun k => laws_FnFactorEach.f k l) true)
  unfold laws_FnFactorEach.f
  by_cases c : (l.length : Int) > 1048576
  · simp only [c, if_true]
    exact Ev.const rfl
  · obtain ⟨l', eo, ok⟩ := open_ev l hb
    obtain ⟨T, p', eT, hS⟩ := types_ev l' ok 4 3 (by omega) (by omega) (by omega) (by omega)
    have eD : Ev (fun k => spec_DrawFactorEach.f k l) T := by
      unfold spec_DrawFactorEach.f
      rw [eo]
      simp only [Option.bind_some]
      exact Ev.bind eT (Ev.const rfl)
    have hl : T.length ≤ 1048576 := by have := hS.1; omega
    have h2 : ∀ j : Nat, j < T.length → (rd_L1 T (j : Int)).length ≤ 1048576 := fun j hj => by
      rw [rdL_nth T j hj]
      have := hS.2 _ (List.getElem_mem hj)
      omega
    obtain ⟨r, ei, es⟩ := factorEach_both T hl h2
    simp only [c, if_false]
    refine Ev.bind eD (Ev.bind ei (Ev.bind es ?_))
    simp only [if_true]
    by_cases neg : r < 0
    · refine Ev.s ?_
      simp only [laws_FnFactorEach.j0, neg, decide_true, if_true]
      exact Ev.const (congrArg some (beq_self_eq_true r))
    · have hsm : smallT T := by
        by_cases s : smallT T
        · exact s
        · exfalso
          obtain ⟨b, eb, hb2⟩ := specSmall_ev T hl h2
          have hbf : b = false := by
            cases b with
            | false => rfl
            | true => exact absurd (hb2.1 rfl) s
          subst hbf
          have e1 : Ev (fun k => spec_FactorEach.f k T) (-1) := by
            unfold spec_FactorEach.f
            refine Ev.bind eb ?_
            simp only [Bool.false_eq_true, if_false]
            exact Ev.const rfl
          have := Ev.uniq es e1
          omega
      have g := hsm.1
      have hg1 := g.1
      have hv : vP (rd_L1 T 0) = true := (g.2.2 0 (by omega)).1
      have hv2 := vP_len _ hv
      have hv3 : 1 ≤ totP (rd_L1 T 0) := hv2.2.1
      have hv4 := hsm.2.2
      obtain ⟨n, hn⟩ : ∃ n : Nat, totP (rd_L1 T 0) = n := ⟨(totP (rd_L1 T 0)).toNat, by omega⟩
      have n1 : 1 ≤ n := by omega
      have n4 : n ≤ 4 := by omega
      have hT := goodT_mem g hn
      have hP : ∀ t ∈ T, t ∈ PT n := fun t ht => PT_mem n (by omega) t (hT t ht).1 (hT t ht).2
      have hle1 := cntT_le n n1 n4 (fun _ => 1) (fun _ => Nat.le_refl _) T hsm.2.1
      have hle2 := cntT_le n n1 n4 (leafW n) (leafW_le n) T hsm.2.1
      have hmono := cntF_mono n (leafW n) (fun _ => 1) (leafW_le n) (T.map (FL n (PL n))) [] (stl n)
      have e2 : Ev (fun k => spec_FactorEach.f k T) (wrap64 (cntT n (fun _ => 1) T)) := by
        obtain ⟨b, eb, hb2⟩ := specSmall_ev T hl h2
        have hbt := hb2.2 hsm
        subst hbt
        unfold spec_FactorEach.f
        refine Ev.bind eb ?_
        have hsum := specSum_ev _ hv
        rw [hn] at hsum
        simp only [if_true, show (0 : Int) < (T.length : Int) by omega]
        exact Ev.bind hsum (Ev.bind (same_ev n (by omega)) (Ev.bind (each_leaf n n1 n4 T (by have := hsm.2.1; omega) hT) (Ev.const rfl)))
      have hr := Ev.uniq es e2
      rw [w64 (x := ((cntT n (fun _ => 1) T : Nat) : Int)) (by omega) (by omega)] at hr
      have eF := fcount_ev T hl h2 g n hn n1 (by omega) hP
      rw [frob_all n n1 n4 T hP hg1 hsm.2.1, ← hr] at eF
      have eW := implWhole_ev T hl h2 hsm n hn n1 n4
      rw [w64 (x := ((cntT n (leafW n) T : Nat) : Int)) (by omega) (by omega)] at eW
      have hmono2 : cntT n (leafW n) T ≤ cntT n (fun _ => 1) T := hmono
      refine Ev.s ?_
      simp only [laws_FnFactorEach.j0, neg, decide_false, Bool.false_eq_true, if_false]
      refine Ev.bind eF ?_
      simp only [if_true]
      refine Ev.bind eW ?_
      simp only [show ((cntT n (leafW n) T : Nat) : Int) ≤ r by omega, if_true]
      refine Ev.bind eW (Ev.const (congrArg some ?_))
      exact decide_eq_true (by omega)
end Go.Proofs.Ytggghijamfmenaa.Pure

namespace Go.Proofs.Ytggghijamfmenaa.fnFactorEach
open Go.ChangeShapes Go.WideShapes Go.ChangeAt Go.RowKit
open Go.ChangeMaps (open_string shut_string)
set_option linter.unusedVariables false
theorem own : ownKnob Try.prog.godebug = none := by kernel_rfl
theorem laidOut : laidOutB Try.prog = true := by kernel_rfl
def IsRow (k : IntKind) (w : World) (a : Option Addr) (len cap : Nat) (zs : List Int) : Prop :=
 (a = none ∧ len = 0 ∧ cap = 0 ∧ zs = []) ∨
 ∃ x, a = some x ∧ len ≤ cap ∧ cap ≤ maxLen ∧ zs.length = cap ∧ (∀ i, i < zs.length → w.cell? (x.add i) = some (.int k (zs.getD i 0))) ∧ ∀ n ∈ zs, (Lit.int k n).wf = true
set_option maxRecDepth 100000 in
theorem lifted (os : Os) (started : os.Started) (H : Type) (enc : TypeId × Value → H) :
  ReturnsInHanded {} Try.checked os 11 .any (Rows.fnFactorEachSpec.pre6 enc Try.prog Try.f11 Rows.fnFactorEachRow.domain false) (Rows.fnFactorEachSpec.post enc Try.prog Try.f11 false true false false) := by
 refine returnsInHanded_of_change_sized (C := Try.checked) own started (by kernel_rfl) Try.func11
  (ChangeSpec.witness6 (enc := enc) (C := Try.checked) false ⟨#[], #[.slice none 0 0], []⟩ 8 (by kernel_rfl) (by kernel_rfl) (by kernel_rfl) (by kernel_rfl)) ?_
 intro W base args ds gs before hval0 hW hcnd hsz0 _
 have hsz : (DataW.weightsEach Try.prog (Try.f11.params.toList ++ Rows.fnFactorEachSpec.plain.varTypes Try.prog) (ds ++ gs)).all (· ≤ reachBytes) = true := hsz0
 have hval : ∀ (j : Nat) t v, Try.f11.params[j]? = some t → args[j]? = some v → Value.okWide Try.prog W .any base t v := hval0
 have hW' := hW
 obtain ⟨p, q, hA0, hV, rfl, hfz, hnd⟩ := hW
 have hA : DataW.TrodAll enc Try.prog W 0 (fun _ => true) true Try.f11.params.toList args.toList ds p := hA0
 rw [Try.params11] at hA hval hsz
 obtain ⟨v0, vs0, d0, ds0, p0, q0, hargs, rfl, rfl, h0, r0⟩ := trodAll_cons hA
 obtain ⟨rfl, rfl, rfl⟩ := trodAll_nil r0
 obtain rfl : args = #[v0] := by cases args; simp_all
 obtain ⟨rfl, rfl⟩ := trodVars_none hV
 obtain ⟨a0, len0, cap0, rfl⟩ := okWide_slice Try.underlying22 (hval 0 22 v0 rfl rfl)
 have k0 := h0
 have lt0 : ∀ x ∈ p0, x.block < W.heap.size := by obtain ⟨m, hm⟩ := k0; exact DataW.trod_lt m _ _ _ hm
 obtain ⟨z0, w0⟩ : ∃ zs, IsRow .u8 W a0 len0 cap0 zs := by
  obtain ⟨fuel, hf⟩ := h0
  rcases open_ints Try.underlying22 Try.underlying5 (by kernel_rfl) hf with ⟨hcs, _⟩ | ⟨x, l, c, zs, hcs, _, hl, hm, hz, _, hcell, hwz⟩
  ·
   simp [Value.cells] at hcs
   obtain ⟨rfl, rfl, rfl⟩ := hcs
   exact ⟨[], .inl ⟨rfl, rfl, rfl, rfl⟩⟩
  ·
   simp [Value.cells] at hcs
   obtain ⟨rfl, rfl, rfl⟩ := hcs
   exact ⟨zs, .inr ⟨_, rfl, hl, hm, by simpa using hz, hcell, hwz⟩⟩
 have y0 : len0 * 1 ≤ 140737488351232 := Go.Proofs.YtggghijamfmenaaW.PrintWords.sized_ints hsz (j := 0) (t := 22) rfl rfl Try.underlying22 Try.underlying5 (by kernel_rfl) (by kernel_rfl) h0
 clear hA0 hval0 hsz0 hsz
 refine (PN.laws_FnFactorEach.walk Pure.FnFactorEach a0 len0 cap0 z0 W w0 y0).mono fun e W' ⟨he, bel⟩ => ?_
 subst he
 exact ⟨_, rfl, _, _, _, [], _, [], hW', trodAll_mk1 (shut_bool Try.underlying4 _), (trodAll_cons_mk (Below.trod laidOut (by kernel_rfl) (of_decide_eq_true (by kernel_rfl)) k0 bel lt0) trodAll_mk0), rfl, bel.frame _, fun h => by cases h⟩
theorem over : Rows.fnFactorEachRow.holds Try.pinned (OpenSpec.ofChange Rows.fnFactorEachSpec) :=
 OpenClaim.holds_of_wide 11 Try.f11 rfl rfl rfl rfl rfl rfl rfl ⟨rfl, rfl, rfl, rfl, rfl⟩ rfl rfl rfl rfl rfl (by kernel_rfl) Try.func11 (by kernel_rfl)
  (of_decide_eq_true (by kernel_rfl)) (by unfold Func.isWrapper; first | (rw [if_pos (by decide +kernel)]; kernel_rfl) | (rw [if_neg (by decide +kernel)]; exact ⟨rfl, rfl⟩))
  (fun os started H enc _ => lifted os started H enc)
theorem proved : Rows.FnFactorEachSaid := over
#print axioms proved
end Go.Proofs.Ytggghijamfmenaa.fnFactorEach
namespace Go.Proofs.Ytggghijamfmenaa
theorem fnFactorEach_holds : Rows.FnFactorEachSaid := fnFactorEach.proved
end Go.Proofs.Ytggghijamfmenaa
