/- Exchanges lead there and back: what FnCutJoin says holds of all codes. There are no conditions beside the given row's own. -/
import Derived.Test.YtggghijamfmenaaKFnCutJoinOwnx2
namespace Go.Proofs.Ytggghijamfmenaa.PN
open Go.RowKit Go.Proofs.YtggghijamfmenaaW.PrintWords Go.Proofs.YtggghijamfmenaaW.PrintLast Go.Proofs.YtggghijamfmenaaW.PrintMore
attribute [local go_sem] max2_int min2_int max_two min_two max_three min_three max_four min_four   -- for this text's walks alone
set_option linter.unusedVariables false
set_option linter.unusedSimpArgs false
mutual
def spec_CutJoin.j0 : Nat → List Int → List Int → Bool → Option (Int)
 | 0, _, _, _ => none
 | k + 1, x0, x1, x27 => if x27 = true then (some (-1)) else ((spec_ClassFirst.f k x0).bind fun bt671 => (spec_CutJoin.l0 k x1 bt671.1 0 0))
def spec_CutJoin.l0 : Nat → List Int → List Int → Int → Int → Option (Int)
 | 0, _, _, _, _ => none
 | k + 1, x1, x5, x7, x8 => if x8 < (x5.length : Int) then (spec_CutJoin.l1 k x1 x5 x7 x8 0) else (some x7)
def spec_CutJoin.l1 : Nat → List Int → List Int → Int → Int → Int → Option (Int)
 | 0, _, _, _, _, _ => none
 | k + 1, x1, x5, x7, x8, x9 => if x9 < x8 then ((spec_l2Copy.f x5).bind fun t675 => (spec_CutJoin.l2 k x1 x5 x7 x8 x9 t675 0)) else (spec_CutJoin.l0 k x1 x5 x7 (wrap64 (x8 + 1)))
def spec_CutJoin.l2 : Nat → List Int → List Int → Int → Int → Int → List Int → Int → Option (Int)
 | 0, _, _, _, _, _, _, _ => none
 | k + 1, x1, x5, x7, x8, x9, x10, x11 => if x11 < (x10.length : Int) then (if 0 ≤ x11 then (if x11 < (x5.length : Int) then (if (rd x5 x11) = x8 then (spec_CutJoin.l2 k x1 x5 x7 x8 x9 (x10.set (x11 : Int).toNat x9) (wrap64 (x11 + 1))) else (if (rd x5 x11) = x9 then (spec_CutJoin.l2 k x1 x5 x7 x8 x9 (x10.set (x11 : Int).toNat x8) (wrap64 (x11 + 1))) else (spec_CutJoin.l2 k x1 x5 x7 x8 x9 x10 (wrap64 (x11 + 1))))) else (none)) else (none)) else ((spec_l1Type.f k x10).bind fun t681 => (if (t681.length : Int) = (x1.length : Int) then ((spec_l2Order.f k t681 x1).bind fun t684 => (if t684 = 0 then (spec_CutJoin.l1 k x1 x5 (wrap64 (x7 + 1)) x8 (wrap64 (x9 + 1))) else (spec_CutJoin.l1 k x1 x5 x7 x8 (wrap64 (x9 + 1))))) else (spec_CutJoin.l1 k x1 x5 x7 x8 (wrap64 (x9 + 1)))))
end
def spec_CutJoin.f (k : Nat) (l0 : List Int) (l1 : List Int) : Option (Int) := (spec_PartsValid.f k l0).bind fun t667 => (if t667 = true then ((spec_PartsValid.f k l1).bind fun t668 => (if t668 = true then ((spec_l5Sum.f k l0).bind fun t669 => ((spec_l5Sum.f k l1).bind fun t670 => (spec_CutJoin.j0 k l0 l1 (t669 != t670)))) else (spec_CutJoin.j0 k l0 l1 true))) else (spec_CutJoin.j0 k l0 l1 true))
set_option maxHeartbeats 8000000 in
set_option maxRecDepth 100000 in
theorem spec_CutJoin.calls (k : Nat) (A0 : Option Addr) (c0 : Nat) (l0 : List Int) (A1 : Option Addr) (c1 : Nat) (l1 : List Int) (r : Int) (w : World) (hr0 : Kd.C (Kd.int .i64) w A0 l0.length l0) (hc0 : l0.length ≤ c0) (hr1 : Kd.C (Kd.int .i64) w A1 l1.length l1) (hc1 : l1.length ≤ c1) (h : spec_CutJoin.f k l0 l1 = some r) :
  Calls Try.prog 47 #[.slice A0 l0.length c0, .slice A1 l1.length c1] w fun e w' => e = .returned (.int .i64 r) ∧ Below w.heap.size w w' := by
 have HR0 := Az hr0; have HC0 := Az hc0; clear hr0 hc0; have HR1 := Az hr1; have HC1 := Az hc1; clear hr1 hc1; have HB := Az (Below.refl w.heap.size w); have H : ((spec_PartsValid.f k l0).bind fun t667 => (if t667 = true then ((spec_PartsValid.f k l1).bind fun t668 => (if t668 = true then ((spec_l5Sum.f k l0).bind fun t669 => ((spec_l5Sum.f k l1).bind fun t670 => (spec_CutJoin.j0 k l0 l1 (t669 != t670)))) else (spec_CutJoin.j0 k l0 l1 true))) else (spec_CutJoin.j0 k l0 l1 true))) = some r := h; clear h; have HC3 := Az H; clear H
 go_enter Try.func47, Try.ntmps47
 go_upto_region 1 with (fail)
 go_cut [27] (fun v27 wc => ∃ (kq : Nat) (x27_2 : Bool), v27 = .bool x27_2 ∧ Aside0 (spec_CutJoin.j0 kq l0 l1 x27_2 = some r) ∧ Aside0 (kq ≤ k) ∧ Aside0 (Below w.heap.size w wc))
 case first =>
  have H := HC3.out; clear HC3; replace H := Option.bind_eq_some_iff.mp H; obtain ⟨t667, A40, H⟩ := H; replace H : (if t667 = true then ((spec_PartsValid.f k l1).bind fun t668 => (if t668 = true then ((spec_l5Sum.f k l0).bind fun t669 => ((spec_l5Sum.f k l1).bind fun t670 => (spec_CutJoin.j0 k l0 l1 (t669 != t670)))) else (spec_CutJoin.j0 k l0 l1 true))) else (spec_CutJoin.j0 k l0 l1 true)) = some r := H; have A4 := Az A40; clear A40
  by_cases c5 : t667 = true
  ·
   subst c5
   have H1 : ((spec_PartsValid.f k l1).bind fun t668 => (if t668 = true then ((spec_l5Sum.f k l0).bind fun t669 => ((spec_l5Sum.f k l1).bind fun t670 => (spec_CutJoin.j0 k l0 l1 (t669 != t670)))) else (spec_CutJoin.j0 k l0 l1 true))) = some r := by rw [if_pos rfl] at H; exact H
   clear H; have H := H1; clear H1; replace H := Option.bind_eq_some_iff.mp H; obtain ⟨t668, A60, H⟩ := H; replace H : (if t668 = true then ((spec_l5Sum.f k l0).bind fun t669 => ((spec_l5Sum.f k l1).bind fun t670 => (spec_CutJoin.j0 k l0 l1 (t669 != t670)))) else (spec_CutJoin.j0 k l0 l1 true)) = some r := H; have A6 := Az A60; clear A60
   by_cases c7 : t668 = true
   ·
    subst c7
    have H1 : ((spec_l5Sum.f k l0).bind fun t669 => ((spec_l5Sum.f k l1).bind fun t670 => (spec_CutJoin.j0 k l0 l1 (t669 != t670)))) = some r := by rw [if_pos rfl] at H; exact H
    clear H; have H := H1; clear H1; replace H := Option.bind_eq_some_iff.mp H; obtain ⟨t669, A80, H⟩ := H; replace H : ((spec_l5Sum.f k l1).bind fun t670 => (spec_CutJoin.j0 k l0 l1 (t669 != t670))) = some r := H; have A8 := Az A80; clear A80; replace H := Option.bind_eq_some_iff.mp H; obtain ⟨t670, A90, H⟩ := H; replace H : (spec_CutJoin.j0 k l0 l1 (t669 != t670)) = some r := H; have A9 := Az A90; clear A90; have H' := Az H; clear H
    go_wp2_with (first | ((with_reducible refine gate_callee (f := 106) rfl ?_); refine goesL_ (some 14) rfl rfl Try.func106 (by kernel_rfl) rfl #[.slice A0 l0.length c0] rfl (by (try simp only [List.map_toArray, List.map_cons, List.map_nil]); first | done | rfl | (simp only [List.length_drop, List.length_take]; rfl)) ?_; (with_reducible refine (spec_PartsValid.calls k _ _ l0 true _ ?side1 ?side2 A4.out).mono ?_); (case side1 => repeat (first | exact (Kd.C_below HR0.out HB.out) | exact HR0.out | (with_reducible refine Kd.C_alloc ?_ _) | (with_reducible refine Kd.C_drewN ?_ _) | (with_reducible refine Kd.C_drew ?_))); (case side2 => exact HC0.out); rintro e w' ⟨rfl, ⟨nd, rfl⟩⟩; refine ⟨_, rfl, ?_⟩) | (go_at_call 106; (with_reducible refine (spec_PartsValid.calls k _ _ l1 true _ ?side1 ?side2 A6.out).mono ?_); (case side1 => exact cU (Kd.C_below HR1.out (bU0 HB.out))); (case side2 => exact HC1.out); rintro e w' ⟨rfl, ⟨nd, rfl⟩⟩) | (go_at_call 92; (with_reducible refine (spec_l5Sum.calls k _ _ l0 t669 _ ?side1 ?side2 A8.out).mono ?_); (case side1 => exact cU (Kd.C_below HR0.out (bU0 HB.out))); (case side2 => exact HC0.out); rintro e w' ⟨rfl, ⟨nd, rfl⟩⟩) | (go_at_call 92; (with_reducible refine (spec_l5Sum.calls k _ _ l1 t670 _ ?side1 ?side2 A9.out).mono ?_); (case side1 => exact cU (Kd.C_below HR1.out (bU0 HB.out))); (case side2 => exact HC1.out); rintro e w' ⟨rfl, ⟨nd, rfl⟩⟩))
    go_meet
    case rel => exact ⟨_, ((t669 != t670)), rS, H', ⟨by first | omega | exact Nat.le_refl _⟩, ⟨bU0 HB.out⟩⟩
   ·
    replace c7 := Bool.eq_false_iff.mpr c7; subst c7
    have H1 : (spec_CutJoin.j0 k l0 l1 true) = some r := by rw [if_neg (show ¬ (false = true) by decide)] at H; exact H
    clear H; have H := H1; clear H1; have H' := Az H; clear H
    go_wp2_with (first | ((with_reducible refine gate_callee (f := 106) rfl ?_); refine goesL_ (some 14) rfl rfl Try.func106 (by kernel_rfl) rfl #[.slice A0 l0.length c0] rfl (by (try simp only [List.map_toArray, List.map_cons, List.map_nil]); first | done | rfl | (simp only [List.length_drop, List.length_take]; rfl)) ?_; (with_reducible refine (spec_PartsValid.calls k _ _ l0 true _ ?side1 ?side2 A4.out).mono ?_); (case side1 => repeat (first | exact (Kd.C_below HR0.out HB.out) | exact HR0.out | (with_reducible refine Kd.C_alloc ?_ _) | (with_reducible refine Kd.C_drewN ?_ _) | (with_reducible refine Kd.C_drew ?_))); (case side2 => exact HC0.out); rintro e w' ⟨rfl, ⟨nd, rfl⟩⟩; refine ⟨_, rfl, ?_⟩) | (go_at_call 106; (with_reducible refine (spec_PartsValid.calls k _ _ l1 false _ ?side1 ?side2 A6.out).mono ?_); (case side1 => exact cU (Kd.C_below HR1.out (bU0 HB.out))); (case side2 => exact HC1.out); rintro e w' ⟨rfl, ⟨nd, rfl⟩⟩))
    go_meet
    case rel => exact ⟨_, (true), rS, H', ⟨by first | omega | exact Nat.le_refl _⟩, ⟨bU0 HB.out⟩⟩
  ·
   replace c5 := Bool.eq_false_iff.mpr c5; subst c5
   have H1 : (spec_CutJoin.j0 k l0 l1 true) = some r := by rw [if_neg (show ¬ (false = true) by decide)] at H; exact H
   clear H; have H := H1; clear H1; have H' := Az H; clear H
   go_wp2_with (first | ((with_reducible refine gate_callee (f := 106) rfl ?_); refine goesL_ (some 14) rfl rfl Try.func106 (by kernel_rfl) rfl #[.slice A0 l0.length c0] rfl (by (try simp only [List.map_toArray, List.map_cons, List.map_nil]); first | done | rfl | (simp only [List.length_drop, List.length_take]; rfl)) ?_; (with_reducible refine (spec_PartsValid.calls k _ _ l0 false _ ?side1 ?side2 A4.out).mono ?_); (case side1 => repeat (first | exact (Kd.C_below HR0.out HB.out) | exact HR0.out | (with_reducible refine Kd.C_alloc ?_ _) | (with_reducible refine Kd.C_drewN ?_ _) | (with_reducible refine Kd.C_drew ?_))); (case side2 => exact HC0.out); rintro e w' ⟨rfl, ⟨nd, rfl⟩⟩; refine ⟨_, rfl, ?_⟩))
   go_meet
   case rel => exact ⟨_, (true), rS, H', ⟨by first | omega | exact Nat.le_refl _⟩, ⟨bU0 HB.out⟩⟩
 case rest =>
  clear HC3; (try clear c1); (try clear p2); (try clear c4); (try clear c5); (try clear c7); obtain ⟨kq, x27_2, rfl, HA, HJ2, HB⟩ := hcut
  cases kq with
  | zero => exact absurd HA.out (by simp [spec_CutJoin.j0])
  | succ kj2 =>
   have H := HA.out; clear HA; simp only [spec_CutJoin.j0] at H
   by_cases c10 : x27_2 = true
   ·
    subst c10
    have H1 : (some (-1)) = some r := by rw [if_pos rfl] at H; exact H
    clear H; have H := H1; clear H1; obtain rfl := Option.some.inj H
    go_wp2
    go_ret
    exact ⟨rE, bU0 HB.out⟩
   ·
    replace c10 := Bool.eq_false_iff.mpr c10; subst c10
    have H1 : ((spec_ClassFirst.f kj2 l0).bind fun bt671 => (spec_CutJoin.l0 kj2 l1 bt671.1 0 0)) = some r := by rw [if_neg (show ¬ (false = true) by decide)] at H; exact H
    clear H; have H := H1; clear H1; replace H := Option.bind_eq_some_iff.mp H; obtain ⟨⟨t671, t672⟩, A110, H⟩ := H; replace H : (spec_CutJoin.l0 kj2 l1 t671 0 0) = some r := H; have A11 := Az A110; clear A110; have H' := Az H; clear H
    go_wp2_with (first | ((with_reducible refine gate_callee (f := 107) rfl ?_); refine goesL_ (some 30) rfl rfl Try.func107 (by kernel_rfl) rfl #[.slice A0 l0.length c0] rfl (by (try simp only [List.map_toArray, List.map_cons, List.map_nil]); first | done | rfl | (simp only [List.length_drop, List.length_take]; rfl)) ?_; (with_reducible refine (spec_ClassFirst.calls kj2 _ _ l0 t671 t672 _ ?side1 ?side2 A11.out).mono ?_); (case side1 => repeat (first | exact (Kd.C_below HR0.out HB.out) | exact HR0.out | (with_reducible refine Kd.C_alloc ?_ _) | (with_reducible refine Kd.C_drewN ?_ _) | (with_reducible refine Kd.C_drew ?_))); (case side2 => exact HC0.out); rintro e w12 ⟨v673, rfl, ho0, hb⟩; refine ⟨_, rfl, ?_⟩; have n0 := Az (Kd.R_lower ho0 (below_size (bU0 HB.out))); have n1 := Az (below_step (bU0 HB.out) hb); clear HB; have HO674 := n0; have HB := n1; clear n0 n1; (try clear hb); (try clear hb2); (try clear hk); (try clear hi); (try clear ho0)))
    go_loopg [7, 8] kj2 (fun kq v7 v8 w' => ∃ (x5_2 : List Int) (x7_2 : Int) (x8_2 : Int), v7 = .int .i64 x7_2 ∧ v8 = .int .i64 x8_2 ∧ Aside0 (spec_CutJoin.l0 kq l1 x5_2 x7_2 x8_2 = some r) ∧ Aside0 (kq ≤ kj2) ∧ Aside0 (Kd.R (Kd.int .i64) 3 w' w.heap.size (fun _ => True) v673 x5_2) ∧ Aside0 (Below w.heap.size w w'))
    case atStart => exact ⟨(t671), (0), (0), rS, rS, H', ⟨Nat.le_refl _⟩, ⟨rU HO674.out⟩, ⟨bU0 HB.out⟩⟩
    case round =>
     clear H'; (try clear c1); (try clear p2); (try clear c4); (try clear c5); (try clear c7); (try clear c10); (try clear p2); obtain ⟨x5_2, x7_2, x8_2, rfl, rfl, HA, HK2, HO_5, HB⟩ := hrel
     cases gk with
     | zero => exact absurd HA.out (by simp [spec_CutJoin.l0])
     | succ k2 =>
      have H := HA.out; clear HA; simp only [spec_CutJoin.l0] at H
      by_cases c13 : x8_2 < (x5_2.length : Int)
      ·
       rw [if_pos c13] at H; have c13b0 := decide_eq_true c13; clear c13; have H' := Az H; clear H; obtain ⟨Ao14, co14, eo14⟩ := Kd.R_slice HO_5.out; subst eo14
       go_wp2
       go_loopg [7, 9] k2 (fun kq v7 v9 w' => ∃ (x5_3 : List Int) (x7_3 : Int) (x9_3 : Int), v7 = .int .i64 x7_3 ∧ v9 = .int .i64 x9_3 ∧ Aside0 (spec_CutJoin.l1 kq l1 x5_3 x7_3 x8_2 x9_3 = some r) ∧ Aside0 (kq ≤ k2) ∧ Aside0 (Kd.R (Kd.int .i64) 3 w' w.heap.size (fun _ => True) (.slice Ao14 x5_2.length co14) x5_3) ∧ Aside0 (Below w.heap.size w w'))
       case atStart => exact ⟨(x5_2), (x7_2), (0), rS, rS, H', ⟨Nat.le_refl _⟩, ⟨rU HO_5.out⟩, ⟨bU0 HB.out⟩⟩
       case round =>
        clear H'; (try clear c1); (try clear p2); (try clear c4); (try clear c5); (try clear c7); (try clear c10); (try clear c13); (try clear c13b0); (try clear p2); obtain ⟨x5_3, x7_3, x9_3, rfl, rfl, HA, HK3, HO_5, HB⟩ := hrel; have hl5_3 := (Kd.R_reads' HO_5.out).1; rw [hl5_3] at HO_5; (try simp only [hl5_3])
        cases gk with
        | zero => exact absurd HA.out (by simp [spec_CutJoin.l1])
        | succ k3 =>
         have H := HA.out; clear HA; simp only [spec_CutJoin.l1] at H
         by_cases c15 : x9_3 < x8_2
         ·
          rw [if_pos c15] at H; have c15b0 := decide_eq_true c15; clear c15; replace H := Option.bind_eq_some_iff.mp H; obtain ⟨t675, A160, H⟩ := H; replace H : (spec_CutJoin.l2 k3 l1 x5_3 x7_3 x8_2 x9_3 t675 0) = some r := H; have A16 := Az A160; clear A160; have H' := Az H; clear H
          go_wp2_with (first | ((with_reducible refine gate_callee (f := 62) rfl ?_); refine goesL_ (some 45) rfl rfl Try.func62 (by kernel_rfl) rfl #[.slice Ao14 x5_3.length co14] rfl (by (try simp only [List.map_toArray, List.map_cons, List.map_nil]); first | done | rfl | (simp only [List.length_drop, List.length_take]; rfl)) ?_; (with_reducible refine (spec_l2Copy.calls _ _ x5_3 t675 _ ?side1 ?side2 A16.out).mono ?_); (case side1 => exact cU ((Kd.R_reads' HO_5.out).2.2)); (case side2 => exact (Kd.R_reads' HO_5.out).2.1); rintro e w17 ⟨v676, rfl, ho0, hb⟩; refine ⟨_, rfl, ?_⟩; have n0 := Az (Kd.R_elder' (rU HO_5.out) (Kd.R_base ho0) hb); have n1 := Az (Kd.R_lower (Kd.R_new' ho0 (Kd.R_lt (rU HO_5.out))) (below_size (bU0 HB.out))); have n2 := Az (below_step (bU0 HB.out) hb); clear HO_5 HB; have HO_5 := n0; have HO677 := n1; have HB := n2; clear n0 n1 n2; (try clear hb); (try clear hb2); (try clear hk); (try clear hi); (try clear ho0)))
          go_loopg [11] k3 (fun kq v11 w' => ∃ (x10_4 : List Int) (x11_4 : Int), v11 = .int .i64 x11_4 ∧ Aside0 (spec_CutJoin.l2 kq l1 x5_3 x7_3 x8_2 x9_3 x10_4 x11_4 = some r) ∧ Aside0 (kq ≤ k3) ∧ Aside0 (Kd.R (Kd.int .i64) 3 w' w.heap.size (fun k_ => some k_ ≠ (v676 : Value).ownBlock) (.slice Ao14 x5_3.length co14) x5_3) ∧ Aside0 (Kd.R (Kd.int .i64) 3 w' w.heap.size (fun k_ => some k_ ≠ ((.slice Ao14 x5_3.length co14) : Value).ownBlock) v676 x10_4) ∧ Aside0 (Below w.heap.size w w'))
          case atStart => exact ⟨(t675), (0), rS, H', ⟨Nat.le_refl _⟩, ⟨by (try simp only [hl5_3]); (with_reducible repeat (first | apply Kd.R_alloc | apply Kd.R_drewN | apply Kd.R_drew)); exact Kd.R_mono HO_5.out (fun _ hk => hk.2)⟩, ⟨by (try simp only [hl5_3]); (with_reducible repeat (first | apply Kd.R_alloc | apply Kd.R_drewN | apply Kd.R_drew)); exact Kd.R_mono HO677.out (fun _ hk => hk.2)⟩, ⟨bU0 HB.out⟩⟩
          case round =>
           clear H'; (try clear c1); (try clear p2); (try clear c4); (try clear c5); (try clear c6); (try clear c7); (try clear c10); (try clear c13); (try clear c13b0); (try clear c15); (try clear c15b0); (try clear p2); obtain ⟨x10_4, x11_4, rfl, HA, HK4, HO_5, HO_10, HB⟩ := hrel
           cases gk with
           | zero => exact absurd HA.out (by simp [spec_CutJoin.l2])
           | succ k4 =>
            have H := HA.out; clear HA; simp only [spec_CutJoin.l2] at H
            by_cases c18 : x11_4 < (x10_4.length : Int)
            ·
             rw [if_pos c18] at H; have c18b0 := decide_eq_true c18; (try (have c18b0hl5_3 := c18b0; rw [hl5_3] at c18b0hl5_3)); clear c18
             by_cases c19 : 0 ≤ x11_4
             ·
              rw [if_pos c19] at H; have c19b0 := decide_eq_true c19; clear c19
              by_cases c20 : x11_4 < (x5_3.length : Int)
              ·
               rw [if_pos c20] at H; have c20b0 := decide_eq_true c20; (try (have c20b0hl5_3 := c20b0; rw [hl5_3] at c20b0hl5_3)); clear c20
               by_cases c21 : (rd x5_3 x11_4) = x8_2
               ·
                rw [if_pos c21] at H; have c21b0 := beq_iff_eq.mpr c21; have c21b1 := bne_eq_false_iff_eq.mpr c21; clear c21; obtain ⟨y679, hy679⟩ : ∃ y_ : List Int, y_ = (x10_4.set (x11_4 : Int).toNat x9_3) := ⟨_, rfl⟩; replace H : (spec_CutJoin.l2 k4 l1 x5_3 x7_3 x8_2 x9_3 y679 (wrap64 (x11_4 + 1))) = some r := hR hy679 H; have Ny679 := Az hy679; clear hy679; have H' := Az H; clear H; obtain ⟨Ao23, co23, eo23⟩ := Kd.R_slice HO_10.out; subst eo23; have p678 : 0 ≤ (x11_4 : Int) := oA; have q678 : x11_4 < (x5_3.length : Int) := oA; obtain ⟨ad678, e678, hx678_0⟩ := Kd.at_int (Kd.R_reads' HO_5.out).2.2 x11_4 p678 q678
                cases e678
                replace p678 := eq_true p678; replace q678 := eq_true q678; have p22 : 0 ≤ (x11_4 : Int) := oA; have q22 : (x11_4 : Int) < ((x10_4.length : Int) : Int) := oA; obtain ⟨go22, co22, eo22, gb22, gl22, cl22, HG22⟩ := Kd.R_form HO_10.out (by omega); (first | cases eo22 | (injection eo22 with ea_ en_ ec_; (first | subst ea_ | (injection ea_ with ea_; subst ea_)); subst ec_; clear en_)); have GB22 := Az gb22; have GG22 := Az HG22; clear gb22 gl22 HG22; obtain ⟨hx22_0, hf22_0⟩ := Kd.R_celln 0 HO_10.out (x11_4 : Int) p22 q22; replace p22 := eq_true p22; replace q22 := eq_true q22; obtain ⟨hy24_, hz24_⟩ := Kd.R_celln 0 HO_10.out (x11_4 : Int) (oA) (oA); have HP24 := Kd.R_putg HO_10.out (x11_4 : Int) x9_3
                go_wp2_with (first | ((with_reducible refine gate_store (t := 3) (p := 62) rfl ?_); refine store_event (t := 3) (p := 62) (v := ?vo_w25) (w1 := (wr.setCell ⟨go22, (x11_4 : Int).toNat, none⟩ (.int .i64 x9_3))) ?hg ?ho ?hn ?hr ?_; (case ho => rfl); (case hg => rfl); (case hn => rfl); (case hr => first | (go_simp; done) | (go_simp; rfl)); intro w25 hw; have hg : wr.grownBy w25 (some go22) := (by rw [hw]; exact HP24.2); have hp_ : Kd.R (Kd.int .i64) 3 w25 w.heap.size (fun k_ => some k_ ≠ (.slice (some ad678) x5_3.length co14 : Value).ownBlock) (.slice (some ⟨go22, 0, none⟩) x10_4.length co23) y679 := (by rw [hw, Ny679.out]; exact HP24.1); clear HP24; have n0 := Az (Kd.R_after (v := (.slice (some ⟨go22, 0, none⟩) x10_4.length co23)) (v1 := (.slice (some ⟨go22, 0, none⟩) x10_4.length co23)) (ok := (fun _ => True)) (by (with_reducible repeat (first | apply Kd.R_alloc | apply Kd.R_drewN | apply Kd.R_drew)); exact Kd.R_mono HO_5.out (fun _ hk => ⟨trivial, hk⟩)) hg (.inl rfl)); have n1 := Az (hp_); have n2 := Az ((by rw [hw]; exact below_set (HB.out) GB22.out : Below w.heap.size w w25)); clear HO_5 HO_10 HB; have HO_5 := n0; have HO_10 := n1; have HB := n2; clear n0 n1 n2; clear hg hw hp_))
                (first | go_roundg k4 | (refine Handed.intro k4 ?measure ?_; rotate_left; go_step; (try simp only [add_plain]); (repeat apply Exists.intro); refine ⟨?rel, rfl⟩))
                case measure => have := HJ2.out; have := HK2.out; have := HK3.out; have := HK4.out; omega
                case rel => exact ⟨(y679), (wrap64 (x11_4 + 1)), rS, H', ⟨by have := HJ2.out; have := HK2.out; have := HK3.out; have := HK4.out; omega⟩, ⟨by (try simp only [hl5_3]); (with_reducible repeat (first | apply Kd.R_alloc | apply Kd.R_drewN | apply Kd.R_drew)); exact Kd.R_mono HO_5.out (fun _ hk => hk.2)⟩, ⟨by (try simp only [hl5_3]); (with_reducible repeat (first | apply Kd.R_alloc | apply Kd.R_drewN | apply Kd.R_drew)); exact HO_10.out⟩, ⟨bU0 HB.out⟩⟩
               ·
                rw [if_neg c21] at H; have c21b0 := beq_eq_false_iff_ne.mpr c21; have c21b1 := bne_iff_ne.mpr c21
                by_cases c26 : (rd x5_3 x11_4) = x9_3
                ·
                 rw [if_pos c26] at H; have c26b0 := beq_iff_eq.mpr c26; have c26b1 := bne_eq_false_iff_eq.mpr c26; clear c26; obtain ⟨y680, hy680⟩ : ∃ y_ : List Int, y_ = (x10_4.set (x11_4 : Int).toNat x8_2) := ⟨_, rfl⟩; replace H : (spec_CutJoin.l2 k4 l1 x5_3 x7_3 x8_2 x9_3 y680 (wrap64 (x11_4 + 1))) = some r := hR hy680 H; have Ny680 := Az hy680; clear hy680; have H' := Az H; clear H; obtain ⟨Ao28, co28, eo28⟩ := Kd.R_slice HO_10.out; subst eo28; have p678 : 0 ≤ (x11_4 : Int) := oA; have q678 : x11_4 < (x5_3.length : Int) := oA; obtain ⟨ad678, e678, hx678_0⟩ := Kd.at_int (Kd.R_reads' HO_5.out).2.2 x11_4 p678 q678
                 cases e678
                 replace p678 := eq_true p678; replace q678 := eq_true q678; have p27 : 0 ≤ (x11_4 : Int) := oA; have q27 : (x11_4 : Int) < ((x10_4.length : Int) : Int) := oA; obtain ⟨go27, co27, eo27, gb27, gl27, cl27, HG27⟩ := Kd.R_form HO_10.out (by omega); (first | cases eo27 | (injection eo27 with ea_ en_ ec_; (first | subst ea_ | (injection ea_ with ea_; subst ea_)); subst ec_; clear en_)); have GB27 := Az gb27; have GG27 := Az HG27; clear gb27 gl27 HG27; obtain ⟨hx27_0, hf27_0⟩ := Kd.R_celln 0 HO_10.out (x11_4 : Int) p27 q27; replace p27 := eq_true p27; replace q27 := eq_true q27; obtain ⟨hy29_, hz29_⟩ := Kd.R_celln 0 HO_10.out (x11_4 : Int) (oA) (oA); have HP29 := Kd.R_putg HO_10.out (x11_4 : Int) x8_2
                 go_wp2_with (first | ((with_reducible refine gate_store (t := 3) (p := 69) rfl ?_); refine store_event (t := 3) (p := 69) (v := ?vo_w30) (w1 := (wr.setCell ⟨go27, (x11_4 : Int).toNat, none⟩ (.int .i64 x8_2))) ?hg ?ho ?hn ?hr ?_; (case ho => rfl); (case hg => rfl); (case hn => rfl); (case hr => first | (go_simp; done) | (go_simp; rfl)); intro w30 hw; have hg : wr.grownBy w30 (some go27) := (by rw [hw]; exact HP29.2); have hp_ : Kd.R (Kd.int .i64) 3 w30 w.heap.size (fun k_ => some k_ ≠ (.slice (some ad678) x5_3.length co14 : Value).ownBlock) (.slice (some ⟨go27, 0, none⟩) x10_4.length co28) y680 := (by rw [hw, Ny680.out]; exact HP29.1); clear HP29; have n0 := Az (Kd.R_after (v := (.slice (some ⟨go27, 0, none⟩) x10_4.length co28)) (v1 := (.slice (some ⟨go27, 0, none⟩) x10_4.length co28)) (ok := (fun _ => True)) (by (with_reducible repeat (first | apply Kd.R_alloc | apply Kd.R_drewN | apply Kd.R_drew)); exact Kd.R_mono HO_5.out (fun _ hk => ⟨trivial, hk⟩)) hg (.inl rfl)); have n1 := Az (hp_); have n2 := Az ((by rw [hw]; exact below_set (HB.out) GB27.out : Below w.heap.size w w30)); clear HO_5 HO_10 HB; have HO_5 := n0; have HO_10 := n1; have HB := n2; clear n0 n1 n2; clear hg hw hp_))
                 (first | go_roundg k4 | (refine Handed.intro k4 ?measure ?_; rotate_left; go_step; (try simp only [add_plain]); (repeat apply Exists.intro); refine ⟨?rel, rfl⟩))
                 case measure => have := HJ2.out; have := HK2.out; have := HK3.out; have := HK4.out; omega
                 case rel => exact ⟨(y680), (wrap64 (x11_4 + 1)), rS, H', ⟨by have := HJ2.out; have := HK2.out; have := HK3.out; have := HK4.out; omega⟩, ⟨by (try simp only [hl5_3]); (with_reducible repeat (first | apply Kd.R_alloc | apply Kd.R_drewN | apply Kd.R_drew)); exact Kd.R_mono HO_5.out (fun _ hk => hk.2)⟩, ⟨by (try simp only [hl5_3]); (with_reducible repeat (first | apply Kd.R_alloc | apply Kd.R_drewN | apply Kd.R_drew)); exact HO_10.out⟩, ⟨bU0 HB.out⟩⟩
                ·
                 rw [if_neg c26] at H; have c26b0 := beq_eq_false_iff_ne.mpr c26; have c26b1 := bne_iff_ne.mpr c26; have H' := Az H; clear H; obtain ⟨Ao31, co31, eo31⟩ := Kd.R_slice HO_10.out; subst eo31; have p678 : 0 ≤ (x11_4 : Int) := oA; have q678 : x11_4 < (x5_3.length : Int) := oA; obtain ⟨ad678, e678, hx678_0⟩ := Kd.at_int (Kd.R_reads' HO_5.out).2.2 x11_4 p678 q678
                 cases e678
                 replace p678 := eq_true p678; replace q678 := eq_true q678
                 go_wp2
                 (first | go_roundg k4 | (refine Handed.intro k4 ?measure ?_; rotate_left; go_step; (try simp only [add_plain]); (repeat apply Exists.intro); refine ⟨?rel, rfl⟩))
                 case measure => have := HJ2.out; have := HK2.out; have := HK3.out; have := HK4.out; omega
                 case rel => exact ⟨(x10_4), (wrap64 (x11_4 + 1)), rS, H', ⟨by have := HJ2.out; have := HK2.out; have := HK3.out; have := HK4.out; omega⟩, ⟨by (try simp only [hl5_3]); (with_reducible repeat (first | apply Kd.R_alloc | apply Kd.R_drewN | apply Kd.R_drew)); exact HO_5.out⟩, ⟨by (try simp only [hl5_3]); (with_reducible repeat (first | apply Kd.R_alloc | apply Kd.R_drewN | apply Kd.R_drew)); exact HO_10.out⟩, ⟨bU0 HB.out⟩⟩
              ·
               rw [if_neg c20] at H
               exact absurd H (by simp)
             ·
              rw [if_neg c19] at H
              exact absurd H (by simp)
            ·
             rw [if_neg c18] at H; have c18b0 := decide_eq_false c18; (try (have c18b0hl5_3 := c18b0; rw [hl5_3] at c18b0hl5_3)); clear c18; replace H := Option.bind_eq_some_iff.mp H; obtain ⟨t681, A320, H⟩ := H; replace H : (if (t681.length : Int) = (l1.length : Int) then ((spec_l2Order.f k4 t681 l1).bind fun t684 => (if t684 = 0 then (spec_CutJoin.l1 k4 l1 x5_3 (wrap64 (x7_3 + 1)) x8_2 (wrap64 (x9_3 + 1))) else (spec_CutJoin.l1 k4 l1 x5_3 x7_3 x8_2 (wrap64 (x9_3 + 1))))) else (spec_CutJoin.l1 k4 l1 x5_3 x7_3 x8_2 (wrap64 (x9_3 + 1)))) = some r := H; have A32 := Az A320; clear A320
             by_cases c33 : (t681.length : Int) = (l1.length : Int)
             ·
              rw [if_pos c33] at H; have c33b0 := beq_iff_eq.mpr c33; (try (have c33b0hl5_3 := c33b0; rw [hl5_3] at c33b0hl5_3)); have c33b1 := bne_eq_false_iff_eq.mpr c33; (try (have c33b1hl5_3 := c33b1; rw [hl5_3] at c33b1hl5_3))
              have c33b2 : (t681.length == l1.length) = true := by first | simpa using c33 | (simp at c33 ⊢; omega)
              (try (have c33b2hl5_3 := c33b2; rw [hl5_3] at c33b2hl5_3)); clear c33; replace H := Option.bind_eq_some_iff.mp H; obtain ⟨t684, A340, H⟩ := H; replace H : (if t684 = 0 then (spec_CutJoin.l1 k4 l1 x5_3 (wrap64 (x7_3 + 1)) x8_2 (wrap64 (x9_3 + 1))) else (spec_CutJoin.l1 k4 l1 x5_3 x7_3 x8_2 (wrap64 (x9_3 + 1)))) = some r := H; have A34 := Az A340; clear A340
              by_cases c35 : t684 = 0
              ·
               rw [if_pos c35] at H; have c35b0 := beq_iff_eq.mpr c35; have c35b1 := bne_eq_false_iff_eq.mpr c35; clear c35; have H' := Az H; clear H; obtain ⟨Ao36, co36, eo36⟩ := Kd.R_slice HO_10.out; subst eo36
               go_wp2_with (first | ((with_reducible refine gate_callee (f := 89) rfl ?_); refine goesL_ (some 71) rfl rfl Try.func89 (by kernel_rfl) rfl #[.slice Ao36 x10_4.length co36] rfl (by (try simp only [List.map_toArray, List.map_cons, List.map_nil]); first | done | rfl | (simp only [List.length_drop, List.length_take]; rfl)) ?_; (with_reducible refine (spec_l1Type.calls k4 _ _ x10_4 t681 _ ?side1 ?side2 A32.out).mono ?_); (case side1 => exact cU ((Kd.R_reads' HO_10.out).2.2)); (case side2 => exact (Kd.R_reads' HO_10.out).2.1); rintro e w37 ⟨v682, rfl, ho0, hb⟩; refine ⟨_, rfl, ?_⟩; have n0 := Az (Kd.R_elder' (rU HO_5.out) (Kd.R_base ho0) hb); have n1 := Az (Kd.R_elder' (rU HO_10.out) (Kd.R_base ho0) hb); have n2 := Az (Kd.R_lower (Kd.R_new' (Kd.R_new' ho0 (Kd.R_lt (rU HO_5.out))) (Kd.R_lt (rU HO_10.out))) (below_size (bU0 HB.out))); have n3 := Az (below_step (bU0 HB.out) hb); clear HO_5 HO_10 HB; have HO_5 := n0; have HO_10 := n1; have HO683 := n2; have HB := n3; clear n0 n1 n2 n3; (try clear hb); (try clear hb2); (try clear hk); (try clear hi); (try clear ho0); obtain ⟨Ao38, co38, eo38⟩ := Kd.R_slice HO683.out; subst eo38) | (go_at_call 108; (with_reducible refine (spec_l2Order.calls k4 _ _ t681 _ _ l1 t684 _ ?side1 ?side2 ?side3 ?side4 A34.out).mono ?_); (case side1 => exact cU ((Kd.R_reads' HO683.out).2.2)); (case side2 => exact (Kd.R_reads' HO683.out).2.1); (case side3 => repeat (first | exact (Kd.C_below HR1.out HB.out) | exact HR1.out | (with_reducible refine Kd.C_alloc ?_ _) | (with_reducible refine Kd.C_drewN ?_ _) | (with_reducible refine Kd.C_drew ?_))); (case side4 => exact HC1.out); rintro e w' ⟨rfl, ⟨nd, rfl⟩⟩))
               (try simp only [← hl5_3]); (first | go_roundg k4 | (refine Handed.intro k4 ?measure ?_; rotate_left; go_step; (try simp only [add_plain]); (repeat apply Exists.intro); refine ⟨?rel, rfl⟩))
               case measure => have := HJ2.out; have := HK2.out; have := HK3.out; have := HK4.out; omega
               case rel => exact ⟨(x5_3), (wrap64 (x7_3 + 1)), (wrap64 (x9_3 + 1)), rS, rS, H', ⟨by have := HJ2.out; have := HK2.out; have := HK3.out; have := HK4.out; omega⟩, ⟨by (try simp only [hl5_3]); (with_reducible repeat (first | apply Kd.R_alloc | apply Kd.R_drewN | apply Kd.R_drew)); exact Kd.R_mono HO_5.out (fun _ hk => trivial)⟩, ⟨bU0 HB.out⟩⟩
              ·
               rw [if_neg c35] at H; have c35b0 := beq_eq_false_iff_ne.mpr c35; have c35b1 := bne_iff_ne.mpr c35; have H' := Az H; clear H; obtain ⟨Ao39, co39, eo39⟩ := Kd.R_slice HO_10.out; subst eo39
               go_wp2_with (first | ((with_reducible refine gate_callee (f := 89) rfl ?_); refine goesL_ (some 71) rfl rfl Try.func89 (by kernel_rfl) rfl #[.slice Ao39 x10_4.length co39] rfl (by (try simp only [List.map_toArray, List.map_cons, List.map_nil]); first | done | rfl | (simp only [List.length_drop, List.length_take]; rfl)) ?_; (with_reducible refine (spec_l1Type.calls k4 _ _ x10_4 t681 _ ?side1 ?side2 A32.out).mono ?_); (case side1 => exact cU ((Kd.R_reads' HO_10.out).2.2)); (case side2 => exact (Kd.R_reads' HO_10.out).2.1); rintro e w40 ⟨v682, rfl, ho0, hb⟩; refine ⟨_, rfl, ?_⟩; have n0 := Az (Kd.R_elder' (rU HO_5.out) (Kd.R_base ho0) hb); have n1 := Az (Kd.R_elder' (rU HO_10.out) (Kd.R_base ho0) hb); have n2 := Az (Kd.R_lower (Kd.R_new' (Kd.R_new' ho0 (Kd.R_lt (rU HO_5.out))) (Kd.R_lt (rU HO_10.out))) (below_size (bU0 HB.out))); have n3 := Az (below_step (bU0 HB.out) hb); clear HO_5 HO_10 HB; have HO_5 := n0; have HO_10 := n1; have HO683 := n2; have HB := n3; clear n0 n1 n2 n3; (try clear hb); (try clear hb2); (try clear hk); (try clear hi); (try clear ho0); obtain ⟨Ao41, co41, eo41⟩ := Kd.R_slice HO683.out; subst eo41) | (go_at_call 108; (with_reducible refine (spec_l2Order.calls k4 _ _ t681 _ _ l1 t684 _ ?side1 ?side2 ?side3 ?side4 A34.out).mono ?_); (case side1 => exact cU ((Kd.R_reads' HO683.out).2.2)); (case side2 => exact (Kd.R_reads' HO683.out).2.1); (case side3 => repeat (first | exact (Kd.C_below HR1.out HB.out) | exact HR1.out | (with_reducible refine Kd.C_alloc ?_ _) | (with_reducible refine Kd.C_drewN ?_ _) | (with_reducible refine Kd.C_drew ?_))); (case side4 => exact HC1.out); rintro e w' ⟨rfl, ⟨nd, rfl⟩⟩))
               (try simp only [← hl5_3]); (first | go_roundg k4 | (refine Handed.intro k4 ?measure ?_; rotate_left; go_step; (try simp only [add_plain]); (repeat apply Exists.intro); refine ⟨?rel, rfl⟩))
               case measure => have := HJ2.out; have := HK2.out; have := HK3.out; have := HK4.out; omega
               case rel => exact ⟨(x5_3), (x7_3), (wrap64 (x9_3 + 1)), rS, rS, H', ⟨by have := HJ2.out; have := HK2.out; have := HK3.out; have := HK4.out; omega⟩, ⟨by (try simp only [hl5_3]); (with_reducible repeat (first | apply Kd.R_alloc | apply Kd.R_drewN | apply Kd.R_drew)); exact Kd.R_mono HO_5.out (fun _ hk => trivial)⟩, ⟨bU0 HB.out⟩⟩
             ·
              rw [if_neg c33] at H; have c33b0 := beq_eq_false_iff_ne.mpr c33; (try (have c33b0hl5_3 := c33b0; rw [hl5_3] at c33b0hl5_3)); have c33b1 := bne_iff_ne.mpr c33; (try (have c33b1hl5_3 := c33b1; rw [hl5_3] at c33b1hl5_3))
              have c33b2 : (t681.length == l1.length) = false := by first | simpa using c33 | (simp at c33 ⊢; omega)
              (try (have c33b2hl5_3 := c33b2; rw [hl5_3] at c33b2hl5_3)); have H' := Az H; clear H; obtain ⟨Ao42, co42, eo42⟩ := Kd.R_slice HO_10.out; subst eo42
              go_wp2_with (first | ((with_reducible refine gate_callee (f := 89) rfl ?_); refine goesL_ (some 71) rfl rfl Try.func89 (by kernel_rfl) rfl #[.slice Ao42 x10_4.length co42] rfl (by (try simp only [List.map_toArray, List.map_cons, List.map_nil]); first | done | rfl | (simp only [List.length_drop, List.length_take]; rfl)) ?_; (with_reducible refine (spec_l1Type.calls k4 _ _ x10_4 t681 _ ?side1 ?side2 A32.out).mono ?_); (case side1 => exact cU ((Kd.R_reads' HO_10.out).2.2)); (case side2 => exact (Kd.R_reads' HO_10.out).2.1); rintro e w43 ⟨v682, rfl, ho0, hb⟩; refine ⟨_, rfl, ?_⟩; have n0 := Az (Kd.R_elder' (rU HO_5.out) (Kd.R_base ho0) hb); have n1 := Az (Kd.R_elder' (rU HO_10.out) (Kd.R_base ho0) hb); have n2 := Az (Kd.R_lower (Kd.R_new' (Kd.R_new' ho0 (Kd.R_lt (rU HO_5.out))) (Kd.R_lt (rU HO_10.out))) (below_size (bU0 HB.out))); have n3 := Az (below_step (bU0 HB.out) hb); clear HO_5 HO_10 HB; have HO_5 := n0; have HO_10 := n1; have HO683 := n2; have HB := n3; clear n0 n1 n2 n3; (try clear hb); (try clear hb2); (try clear hk); (try clear hi); (try clear ho0); obtain ⟨Ao44, co44, eo44⟩ := Kd.R_slice HO683.out; subst eo44))
              (try simp only [← hl5_3]); (first | go_roundg k4 | (refine Handed.intro k4 ?measure ?_; rotate_left; go_step; (try simp only [add_plain]); (repeat apply Exists.intro); refine ⟨?rel, rfl⟩))
              case measure => have := HJ2.out; have := HK2.out; have := HK3.out; have := HK4.out; omega
              case rel => exact ⟨(x5_3), (x7_3), (wrap64 (x9_3 + 1)), rS, rS, H', ⟨by have := HJ2.out; have := HK2.out; have := HK3.out; have := HK4.out; omega⟩, ⟨by (try simp only [hl5_3]); (with_reducible repeat (first | apply Kd.R_alloc | apply Kd.R_drewN | apply Kd.R_drew)); exact Kd.R_mono HO_5.out (fun _ hk => trivial)⟩, ⟨bU0 HB.out⟩⟩
         ·
          rw [if_neg c15] at H; have c15b0 := decide_eq_false c15; clear c15; have H' := Az H; clear H
          go_wp2
          (try simp only [← hl5_3]); (first | go_roundg k3 | (refine Handed.intro k3 ?measure ?_; rotate_left; go_step; (try simp only [add_plain]); (repeat apply Exists.intro); refine ⟨?rel, rfl⟩))
          case measure => have := HJ2.out; have := HK2.out; have := HK3.out; omega
          case rel => exact ⟨(x5_3), (x7_3), (wrap64 (x8_2 + 1)), rS, rS, H', ⟨by have := HJ2.out; have := HK2.out; have := HK3.out; omega⟩, ⟨by (try simp only [hl5_3]); (with_reducible repeat (first | apply Kd.R_alloc | apply Kd.R_drewN | apply Kd.R_drew)); exact HO_5.out⟩, ⟨bU0 HB.out⟩⟩
      ·
       rw [if_neg c13] at H; have c13b0 := decide_eq_false c13; clear c13; obtain rfl := Option.some.inj H; obtain ⟨Ao45, co45, eo45⟩ := Kd.R_slice HO_5.out; subst eo45
       go_wp2
       go_ret
       exact ⟨rE, bU0 HB.out⟩
def laws_swapType.l0 : Nat → Int → List Int → Int → Option (List Int)
 | 0, _, _, _ => none
 | k + 1, x0, x3, x4 => if x4 < x0 then (if x3.length < 17592186044416 then (laws_swapType.l0 k x0 (x3 ++ [1]) (wrap64 (x4 + 1))) else (none)) else (some x3)
def laws_swapType.f (k : Nat) (a0 : Int) : Option (List Int) := laws_swapType.l0 k a0 (([2] : List Int)) 2
theorem laws_swapType.mono_l : ∀ k, (∀ y0 y1 y2, LeO (laws_swapType.l0 k y0 y1 y2) (laws_swapType.l0 (k + 1) y0 y1 y2))
 | 0 => fun _ _ _ r h => by simp [laws_swapType.l0] at h
 | k + 1 => by
  have ih0 := laws_swapType.mono_l k
  ·
   intro y0 y1 y2
   unfold laws_swapType.l0
   repeat' first
   | (with_reducible exact ih0 _ _ _)
   | (with_reducible exact LeO.refl _)
   | (with_reducible exact LeO.none _)
   | (with_reducible refine LeO.ite ?_ ?_)
   | (with_reducible refine LeO.bind ?_ (fun _ => ?_))
   | exact ih0 _ _ _
   | exact LeO.none _
   | refine LeO.ite ?_ ?_
   | refine LeO.bind ?_ (fun _ => ?_)
theorem laws_swapType.mono : ∀ a0 k, LeO (laws_swapType.f k a0) (laws_swapType.f (k + 1) a0) := by
 intro a0 k
 have ih0 := laws_swapType.mono_l k
 unfold laws_swapType.f
 repeat' first
   | (with_reducible exact ih0 _ _ _)
   | (with_reducible exact LeO.refl _)
   | (with_reducible exact LeO.none _)
   | (with_reducible refine LeO.ite ?_ ?_)
   | (with_reducible refine LeO.bind ?_ (fun _ => ?_))
   | exact ih0 _ _ _
   | exact LeO.none _
   | refine LeO.ite ?_ ?_
   | refine LeO.bind ?_ (fun _ => ?_)
set_option maxHeartbeats 8000000 in
set_option maxRecDepth 100000 in
theorem laws_swapType.calls (k : Nat) (a0 : Int) (r : List Int) (w : World) (h : laws_swapType.f k a0 = some r) :
  Calls Try.prog 50 #[.int .i64 a0] w fun e w' => ∃ v0_ : Value, e = .returned (v0_) ∧ Kd.R (Kd.int .i64) 3 w' w.heap.size (fun _ => True) v0_ r ∧ Below w.heap.size w w' := by
 have HB := Az (Below.refl w.heap.size w); have H : (laws_swapType.l0 k a0 (([2] : List Int)) 2) = some r := h; clear h; obtain ⟨y685, hy685⟩ : ∃ y_ : List Int, y_ = (([2] : List Int)) := ⟨_, rfl⟩; replace H : (laws_swapType.l0 k a0 y685 2) = some r := hR hy685 H; have Ny685 := Az hy685; clear hy685; have H' := Az H; clear H
 go_enter Try.func50, Try.ntmps50
 go_wp2_with (first | ((with_reducible refine gate_dst (N := 5) rfl ?_); refine Kd.R_lit (Kd.int .i64) _ 3 ?hg (N := 5) ?hd (xs := ([2] : List Int)) (inner := [.int .i64 2]) (ok := fun _ => True) (okp := fun _ => True) ?hr ?hp (fun _ hk => hk) trivial (Below.refl _ _) (Nat.le_refl _) (by simp) ?_; (case hd => rfl); (case hg => rfl); (case hr => first | (go_simp; done) | (go_simp; rfl)); (case hp => exact (Reps.one (show Kd.M (Kd.int .i64) _ _ _ 2 [.int .i64 2] from rfl) (Reps.none _ _))); intro v686 w2 ho3 hb hg_ hnew_; clear hg_ hnew_; (first | rw [← Ny685.out] at ho3 | (simp only [Int.reduceToNat] at ho3; rw [← Ny685.out] at ho3)); have n0 := Az (Kd.R_lower ho3 (below_size (bU0 HB.out))); have n1 := Az (below_step (bU0 HB.out) hb); clear HB; have HO687 := n0; have HB := n1; clear n0 n1; clear hb ho3))
 go_loopg [3, 4] k (fun kq v3 v4 w' => ∃ (x3_1 : List Int) (x4_1 : Int), v4 = .int .i64 x4_1 ∧ Aside0 (laws_swapType.l0 kq a0 x3_1 x4_1 = some r) ∧ Aside0 (kq ≤ k) ∧ Aside0 (Kd.R (Kd.int .i64) 3 w' w.heap.size (fun _ => True) v3 x3_1) ∧ Aside0 (Below w.heap.size w w'))
 case atStart => exact ⟨(y685), (2), rS, H', ⟨Nat.le_refl _⟩, ⟨rU HO687.out⟩, ⟨bU0 HB.out⟩⟩
 case round =>
  clear H'; (try clear p2); obtain ⟨x3_1, x4_1, rfl, HA, HK1, HO_3, HB⟩ := hrel
  cases gk with
  | zero => exact absurd HA.out (by simp [laws_swapType.l0])
  | succ k1 =>
   have H := HA.out; clear HA; simp only [laws_swapType.l0] at H
   by_cases c4 : x4_1 < a0
   ·
    rw [if_pos c4] at H; have c4b0 := decide_eq_true c4; clear c4
    by_cases c5 : x3_1.length < 17592186044416
    ·
     rw [if_pos c5] at H; have LMc5 := Az c5; clear c5; obtain ⟨y688, hy688⟩ : ∃ y_ : List Int, y_ = (x3_1 ++ [1]) := ⟨_, rfl⟩; replace H : (laws_swapType.l0 k1 a0 y688 (wrap64 (x4_1 + 1))) = some r := hR hy688 H; have Ny688 := Az hy688; clear hy688; have H' := Az H; clear H
     go_wp2_with (first | ((with_reducible refine gate_builtin (b := .append) (xs := #[.tmp 11, .tmp 12]) rfl ?_); at_builtin; refine Kd.R_append (Kd.int .i64) (w0 := w) w.heap.size rfl (.tmp 11) (.tmp 12) 23 3 (.int .i64 0) 8 rfl Try.underlying23 info3 rfl (by decide) (by omega) u3 x3_1 1 [.int .i64 1] (fun _ => True) (fun _ => False) rfl rfl ?aP (fun _ hk => hk.elim) ?aF ?aO ?aB ?aS ?aL ?_; (case aP => exact rfl); (case aB => exact (bU0 HB.out)); (case aF => exact (fun _ _ => trivial)); (case aO => exact (rU HO_3.out)); (case aS => exact (below_size (bU0 HB.out))); (case aL => have := LMc5.out; omega); intro v689 w6 ho hb hg hat; rw [← Ny688.out] at ho; have n0 := Az (hb); have n1 := Az (ho); clear HB HO_3; have HB := n0; have HO690 := n1; clear n0 n1; clear ho hb hg hat))
     (first | go_roundg k1 | (refine Handed.intro k1 ?measure ?_; rotate_left; go_step; (try simp only [add_plain]); (repeat apply Exists.intro); refine ⟨?rel, rfl⟩))
     case measure => have := HK1.out; omega
     case rel => exact ⟨(y688), (wrap64 (x4_1 + 1)), rS, H', ⟨by have := HK1.out; omega⟩, ⟨rU HO690.out⟩, ⟨bU0 HB.out⟩⟩
    ·
     rw [if_neg c5] at H
     exact absurd H (by simp)
   ·
    rw [if_neg c4] at H; have c4b0 := decide_eq_false c4; clear c4; obtain rfl := Option.some.inj H
    go_wp2
    go_ret
    exact ⟨_, rE, rU HO_3.out, bU0 HB.out⟩
def laws_FnCutJoin.j0 : Nat → List Int → List Int → Int → Int → Bool → Option (Bool)
 | 0, _, _, _, _, _ => none
 | k + 1, x3, x4, x5, x6, x29 => if x29 = true then (some (x5 == x6)) else ((laws_sumOf.f k x3).bind fun t699 => (if t699 < 2 then (some (x5 == 0)) else ((impl_ClassSize.f k x3).bind fun t700 => ((impl_ClassSize.f k x4).bind fun t701 => ((impl_CutJoin.f k x4 x3).bind fun t702 => (if (wrap64 (t700 * x5)) = (wrap64 (t701 * t702)) then ((laws_swapType.f k t699).bind fun t703 => ((impl_FactorCount.f k (([x3, t703, x4] : List (List Int)))).bind fun t709 => (some ((wrap64 (t700 * x5)) == t709)))) else (some false)))))))
def laws_FnCutJoin.f (k : Nat) (l0 : List Int) : Option (Bool) := if (l0.length : Int) > 1048576 then (some true) else ((spec_DrawCutJoin.f k l0).bind fun bt691 => ((impl_CutJoin.f k bt691.1 bt691.2).bind fun t697 => ((spec_CutJoin.f k bt691.1 bt691.2).bind fun t698 => (if t697 = t698 then (laws_FnCutJoin.j0 k bt691.1 bt691.2 t697 t698 (decide (t697 < 0))) else (laws_FnCutJoin.j0 k bt691.1 bt691.2 t697 t698 true)))))
set_option maxHeartbeats 8000000 in
set_option maxRecDepth 100000 in
theorem laws_FnCutJoin.calls (k : Nat) (A0 : Option Addr) (c0 : Nat) (l0 : List Int) (r : Bool) (w : World) (hr0 : Kd.C (Kd.int .u8) w A0 l0.length l0) (hc0 : l0.length ≤ c0) (h : laws_FnCutJoin.f k l0 = some r) :
  Calls Try.prog 9 #[.slice A0 l0.length c0] w fun e w' => e = .returned (.bool r) ∧ Below w.heap.size w w' := by
 have HR0 := Az hr0; have HC0 := Az hc0; clear hr0 hc0; have HB := Az (Below.refl w.heap.size w); have H : (if (l0.length : Int) > 1048576 then (some true) else ((spec_DrawCutJoin.f k l0).bind fun bt691 => ((impl_CutJoin.f k bt691.1 bt691.2).bind fun t697 => ((spec_CutJoin.f k bt691.1 bt691.2).bind fun t698 => (if t697 = t698 then (laws_FnCutJoin.j0 k bt691.1 bt691.2 t697 t698 (decide (t697 < 0))) else (laws_FnCutJoin.j0 k bt691.1 bt691.2 t697 t698 true)))))) = some r := h; clear h
 by_cases c2 : (l0.length : Int) > 1048576
 ·
  rw [if_pos c2] at H; have c2b0 := decide_eq_true c2; have c2b1 : decide (1048576 < l0.length) = true := decide_eq_true (by omega); clear c2; obtain rfl := Option.some.inj H
  go_enter Try.func9, Try.ntmps9
  go_wp2
  go_ret
  exact ⟨rE, bU0 HB.out⟩
 ·
  rw [if_neg c2] at H; have c2b0 := decide_eq_false c2; have c2b1 : decide (1048576 < l0.length) = false := decide_eq_false (by omega); clear c2; replace H := Option.bind_eq_some_iff.mp H; obtain ⟨⟨t691, t692⟩, A30, H⟩ := H; replace H : ((impl_CutJoin.f k t691 t692).bind fun t697 => ((spec_CutJoin.f k t691 t692).bind fun t698 => (if t697 = t698 then (laws_FnCutJoin.j0 k t691 t692 t697 t698 (decide (t697 < 0))) else (laws_FnCutJoin.j0 k t691 t692 t697 t698 true)))) = some r := H; have A3 := Az A30; clear A30; replace H := Option.bind_eq_some_iff.mp H; obtain ⟨t697, A40, H⟩ := H; replace H : ((spec_CutJoin.f k t691 t692).bind fun t698 => (if t697 = t698 then (laws_FnCutJoin.j0 k t691 t692 t697 t698 (decide (t697 < 0))) else (laws_FnCutJoin.j0 k t691 t692 t697 t698 true))) = some r := H; have A4 := Az A40; clear A40; replace H := Option.bind_eq_some_iff.mp H; obtain ⟨t698, A50, H⟩ := H; replace H : (if t697 = t698 then (laws_FnCutJoin.j0 k t691 t692 t697 t698 (decide (t697 < 0))) else (laws_FnCutJoin.j0 k t691 t692 t697 t698 true)) = some r := H; have A5 := Az A50; clear A50; have HC6 := Az H; clear H
  go_enter Try.func9, Try.ntmps9
  go_upto_region 6 with (first | ((with_reducible refine gate_callee (f := 45) rfl ?_); refine goesL_ (some 14) rfl rfl Try.func45 (by kernel_rfl) rfl #[.slice A0 l0.length c0] rfl (by (try simp only [List.map_toArray, List.map_cons, List.map_nil]); first | done | rfl | (simp only [List.length_drop, List.length_take]; rfl)) ?_; (with_reducible refine (spec_DrawCutJoin.calls k _ _ l0 t691 t692 _ ?side1 ?side2 A3.out).mono ?_); (case side1 => exact cU (HR0.out)); (case side2 => exact HC0.out); rintro e w7 ⟨v693, v695, rfl, ho0, ho1, hb⟩; refine ⟨_, rfl, ?_⟩; have n0 := Az (Kd.R_lower ho0 (below_size (bU0 HB.out))); have n1 := Az (Kd.R_lower ho1 (below_size (bU0 HB.out))); have n2 := Az (below_step (bU0 HB.out) hb); clear HB; have HO694 := n0; have HO696 := n1; have HB := n2; clear n0 n1 n2; (try clear hb); (try clear hb2); (try clear hk); (try clear hi); (try clear ho0); (try clear ho1); obtain ⟨Ao8, co8, eo8⟩ := Kd.R_slice HO694.out; subst eo8; obtain ⟨Ao9, co9, eo9⟩ := Kd.R_slice HO696.out; subst eo9) | ((with_reducible refine gate_callee (f := 46) rfl ?_); refine goesL_ (some 19) rfl rfl Try.func46 (by kernel_rfl) rfl #[.slice Ao8 t691.length co8, .slice Ao9 t692.length co9] rfl (by (try simp only [List.map_toArray, List.map_cons, List.map_nil]); first | done | rfl | (simp only [List.length_drop, List.length_take]; rfl)) ?_; (with_reducible refine (impl_CutJoin.calls k _ _ t691 _ _ t692 t697 _ ?side1 ?side2 ?side3 ?side4 A4.out).mono ?_); (case side1 => exact cU ((Kd.R_reads' HO694.out).2.2)); (case side2 => exact (Kd.R_reads' HO694.out).2.1); (case side3 => exact cU ((Kd.R_reads' HO696.out).2.2)); (case side4 => exact (Kd.R_reads' HO696.out).2.1); rintro e w10 ⟨rfl, hb⟩; refine ⟨_, rfl, ?_⟩; have n0 := Az (Kd.R_below (rU HO694.out) hb); have n1 := Az (Kd.R_below (rU HO696.out) hb); have n2 := Az (below_step (bU0 HB.out) hb); clear HO694 HO696 HB; have HO694 := n0; have HO696 := n1; have HB := n2; clear n0 n1 n2; (try clear hb); (try clear hb2); (try clear hk); (try clear hi)) | ((with_reducible refine gate_callee (f := 47) rfl ?_); refine goesL_ (some 22) rfl rfl Try.func47 (by kernel_rfl) rfl #[.slice Ao8 t691.length co8, .slice Ao9 t692.length co9] rfl (by (try simp only [List.map_toArray, List.map_cons, List.map_nil]); first | done | rfl | (simp only [List.length_drop, List.length_take]; rfl)) ?_; (with_reducible refine (spec_CutJoin.calls k _ _ t691 _ _ t692 t698 _ ?side1 ?side2 ?side3 ?side4 A5.out).mono ?_); (case side1 => exact cU ((Kd.R_reads' HO694.out).2.2)); (case side2 => exact (Kd.R_reads' HO694.out).2.1); (case side3 => exact cU ((Kd.R_reads' HO696.out).2.2)); (case side4 => exact (Kd.R_reads' HO696.out).2.1); rintro e w11 ⟨rfl, hb⟩; refine ⟨_, rfl, ?_⟩; have n0 := Az (Kd.R_below (rU HO694.out) hb); have n1 := Az (Kd.R_below (rU HO696.out) hb); have n2 := Az (below_step (bU0 HB.out) hb); clear HO694 HO696 HB; have HO694 := n0; have HO696 := n1; have HB := n2; clear n0 n1 n2; (try clear hb); (try clear hb2); (try clear hk); (try clear hi)))
  (try simp only [Act.put, List.setIfInBounds_toArray, List.set_cons_zero, List.set_cons_succ])
  go_cut [29] (fun v29 wc => ∃ (kq : Nat) (x29_5 : Bool), v29 = .bool x29_5 ∧ Aside0 (laws_FnCutJoin.j0 kq t691 t692 t697 t698 x29_5 = some r) ∧ Aside0 (kq ≤ k) ∧ Aside0 (Kd.R (Kd.int .i64) 3 wc w.heap.size (fun k_ => some k_ ≠ ((.slice Ao9 t692.length co9) : Value).ownBlock) (.slice Ao8 t691.length co8) t691) ∧ Aside0 (Kd.R (Kd.int .i64) 3 wc w.heap.size (fun k_ => some k_ ≠ ((.slice Ao8 t691.length co8) : Value).ownBlock) (.slice Ao9 t692.length co9) t692) ∧ Aside0 (Below w.heap.size w wc))
  case first =>
   have H := HC6.out; clear HC6
   by_cases c12 : t697 = t698
   ·
    rw [if_pos c12] at H; have c12b0 := beq_iff_eq.mpr c12; have c12b1 := bne_eq_false_iff_eq.mpr c12; clear c12; (first | rw [c12b0] | (simp only [i64_w, i32_w]; rw [c12b0]) | skip); have H' := Az H; clear H
    go_wp2
    go_meet
    case rel => exact ⟨_, (decide (t697 < 0)), rS, H', ⟨by first | omega | exact Nat.le_refl _⟩, ⟨rU HO694.out⟩, ⟨rU HO696.out⟩, ⟨bU0 HB.out⟩⟩
   ·
    rw [if_neg c12] at H; have c12b0 := beq_eq_false_iff_ne.mpr c12; have c12b1 := bne_iff_ne.mpr c12; (first | rw [c12b0] | (simp only [i64_w, i32_w]; rw [c12b0]) | skip); have H' := Az H; clear H
    go_wp2
    go_meet
    case rel => exact ⟨_, (true), rS, H', ⟨by first | omega | exact Nat.le_refl _⟩, ⟨rU HO694.out⟩, ⟨rU HO696.out⟩, ⟨bU0 HB.out⟩⟩
  case rest =>
   clear HC6; (try clear c1); (try clear c2); (try clear c2b0); (try clear c2b1); (try clear p2); (try clear c4); (try clear c9); (try clear c12); (try clear c12b0); (try clear c12b1); obtain ⟨kq, x29_5, rfl, HA, HJ5, HO_3, HO_4, HB⟩ := hcut
   cases kq with
   | zero => exact absurd HA.out (by simp [laws_FnCutJoin.j0])
   | succ kj5 =>
    have H := HA.out; clear HA; simp only [laws_FnCutJoin.j0] at H
    by_cases c13 : x29_5 = true
    ·
     subst c13
     have H1 : (some (t697 == t698)) = some r := by rw [if_pos rfl] at H; exact H
     clear H; have H := H1; clear H1; obtain rfl := Option.some.inj H
     go_wp2
     go_ret
     exact ⟨rE, bU0 HB.out⟩
    ·
     replace c13 := Bool.eq_false_iff.mpr c13; subst c13
     have H1 : ((laws_sumOf.f kj5 t691).bind fun t699 => (if t699 < 2 then (some (t697 == 0)) else ((impl_ClassSize.f kj5 t691).bind fun t700 => ((impl_ClassSize.f kj5 t692).bind fun t701 => ((impl_CutJoin.f kj5 t692 t691).bind fun t702 => (if (wrap64 (t700 * t697)) = (wrap64 (t701 * t702)) then ((laws_swapType.f kj5 t699).bind fun t703 => ((impl_FactorCount.f kj5 (([t691, t703, t692] : List (List Int)))).bind fun t709 => (some ((wrap64 (t700 * t697)) == t709)))) else (some false))))))) = some r := by rw [if_neg (show ¬ (false = true) by decide)] at H; exact H
     clear H; have H := H1; clear H1; replace H := Option.bind_eq_some_iff.mp H; obtain ⟨t699, A140, H⟩ := H; replace H : (if t699 < 2 then (some (t697 == 0)) else ((impl_ClassSize.f kj5 t691).bind fun t700 => ((impl_ClassSize.f kj5 t692).bind fun t701 => ((impl_CutJoin.f kj5 t692 t691).bind fun t702 => (if (wrap64 (t700 * t697)) = (wrap64 (t701 * t702)) then ((laws_swapType.f kj5 t699).bind fun t703 => ((impl_FactorCount.f kj5 (([t691, t703, t692] : List (List Int)))).bind fun t709 => (some ((wrap64 (t700 * t697)) == t709)))) else (some false)))))) = some r := H; have A14 := Az A140; clear A140
     by_cases c15 : t699 < 2
     ·
      rw [if_pos c15] at H; have c15b0 := decide_eq_true c15; clear c15; obtain rfl := Option.some.inj H
      go_wp2_with (first | ((with_reducible refine gate_callee (f := 37) rfl ?_); refine goesL_ (some 34) rfl rfl Try.func37 (by kernel_rfl) rfl #[.slice Ao8 t691.length co8] rfl (by (try simp only [List.map_toArray, List.map_cons, List.map_nil]); first | done | rfl | (simp only [List.length_drop, List.length_take]; rfl)) ?_; (with_reducible refine (laws_sumOf.calls kj5 _ _ t691 t699 _ ?side1 ?side2 A14.out).mono ?_); (case side1 => exact cU ((Kd.R_reads' HO_3.out).2.2)); (case side2 => exact (Kd.R_reads' HO_3.out).2.1); rintro e w' ⟨rfl, ⟨nd, rfl⟩⟩; refine ⟨_, rfl, ?_⟩))
      go_ret
      exact ⟨rE, bU0 HB.out⟩
     ·
      rw [if_neg c15] at H; have c15b0 := decide_eq_false c15; clear c15; replace H := Option.bind_eq_some_iff.mp H; obtain ⟨t700, A160, H⟩ := H; replace H : ((impl_ClassSize.f kj5 t692).bind fun t701 => ((impl_CutJoin.f kj5 t692 t691).bind fun t702 => (if (wrap64 (t700 * t697)) = (wrap64 (t701 * t702)) then ((laws_swapType.f kj5 t699).bind fun t703 => ((impl_FactorCount.f kj5 (([t691, t703, t692] : List (List Int)))).bind fun t709 => (some ((wrap64 (t700 * t697)) == t709)))) else (some false)))) = some r := H; have A16 := Az A160; clear A160; replace H := Option.bind_eq_some_iff.mp H; obtain ⟨t701, A170, H⟩ := H; replace H : ((impl_CutJoin.f kj5 t692 t691).bind fun t702 => (if (wrap64 (t700 * t697)) = (wrap64 (t701 * t702)) then ((laws_swapType.f kj5 t699).bind fun t703 => ((impl_FactorCount.f kj5 (([t691, t703, t692] : List (List Int)))).bind fun t709 => (some ((wrap64 (t700 * t697)) == t709)))) else (some false))) = some r := H; have A17 := Az A170; clear A170; replace H := Option.bind_eq_some_iff.mp H; obtain ⟨t702, A180, H⟩ := H; replace H : (if (wrap64 (t700 * t697)) = (wrap64 (t701 * t702)) then ((laws_swapType.f kj5 t699).bind fun t703 => ((impl_FactorCount.f kj5 (([t691, t703, t692] : List (List Int)))).bind fun t709 => (some ((wrap64 (t700 * t697)) == t709)))) else (some false)) = some r := H; have A18 := Az A180; clear A180
      by_cases c19 : (wrap64 (t700 * t697)) = (wrap64 (t701 * t702))
      ·
       rw [if_pos c19] at H; have c19b0 := beq_iff_eq.mpr c19; have c19b1 := bne_eq_false_iff_eq.mpr c19; clear c19; replace H := Option.bind_eq_some_iff.mp H; obtain ⟨t703, A200, H⟩ := H; replace H : ((impl_FactorCount.f kj5 (([t691, t703, t692] : List (List Int)))).bind fun t709 => (some ((wrap64 (t700 * t697)) == t709))) = some r := H; have A20 := Az A200; clear A200; obtain ⟨y706, hy706⟩ : ∃ y_ : List (List Int), y_ = (([t691, t703, t692] : List (List Int))) := ⟨_, rfl⟩; replace H : ((impl_FactorCount.f kj5 y706).bind fun t709 => (some ((wrap64 (t700 * t697)) == t709))) = some r := hR hy706 H; have Ny706 := Az hy706; clear hy706; replace H := Option.bind_eq_some_iff.mp H; obtain ⟨t709, A210, H⟩ := H; replace H : (some ((wrap64 (t700 * t697)) == t709)) = some r := H; have A21 := Az A210; clear A210; obtain rfl := Option.some.inj H
       go_wp2_with (first | ((with_reducible refine gate_callee (f := 37) rfl ?_); refine goesL_ (some 34) rfl rfl Try.func37 (by kernel_rfl) rfl #[.slice Ao8 t691.length co8] rfl (by (try simp only [List.map_toArray, List.map_cons, List.map_nil]); first | done | rfl | (simp only [List.length_drop, List.length_take]; rfl)) ?_; (with_reducible refine (laws_sumOf.calls kj5 _ _ t691 t699 _ ?side1 ?side2 A14.out).mono ?_); (case side1 => exact cU ((Kd.R_reads' HO_3.out).2.2)); (case side2 => exact (Kd.R_reads' HO_3.out).2.1); rintro e w' ⟨rfl, ⟨nd, rfl⟩⟩; refine ⟨_, rfl, ?_⟩) | ((with_reducible refine gate_callee (f := 48) rfl ?_); refine goesL_ (some 40) rfl rfl Try.func48 (by kernel_rfl) rfl #[.slice Ao8 t691.length co8] rfl (by (try simp only [List.map_toArray, List.map_cons, List.map_nil]); first | done | rfl | (simp only [List.length_drop, List.length_take]; rfl)) ?_; (with_reducible refine (impl_ClassSize.calls kj5 _ _ t691 t700 _ ?side1 ?side2 A16.out).mono ?_); (case side1 => exact cU ((Kd.R_reads' HO_3.out).2.2)); (case side2 => exact (Kd.R_reads' HO_3.out).2.1); rintro e w22 ⟨rfl, hb⟩; refine ⟨_, rfl, ?_⟩; have n0 := Az (Kd.R_below (rU HO_3.out) hb); have n1 := Az (Kd.R_below (rU HO_4.out) hb); have n2 := Az (below_step (bU0 HB.out) hb); clear HO_3 HO_4 HB; have HO_3 := n0; have HO_4 := n1; have HB := n2; clear n0 n1 n2; (try clear hb); (try clear hb2); (try clear hk); (try clear hi)) | ((with_reducible refine gate_callee (f := 48) rfl ?_); refine goesL_ (some 45) rfl rfl Try.func48 (by kernel_rfl) rfl #[.slice Ao9 t692.length co9] rfl (by (try simp only [List.map_toArray, List.map_cons, List.map_nil]); first | done | rfl | (simp only [List.length_drop, List.length_take]; rfl)) ?_; (with_reducible refine (impl_ClassSize.calls kj5 _ _ t692 t701 _ ?side1 ?side2 A17.out).mono ?_); (case side1 => exact cU ((Kd.R_reads' HO_4.out).2.2)); (case side2 => exact (Kd.R_reads' HO_4.out).2.1); rintro e w23 ⟨rfl, hb⟩; refine ⟨_, rfl, ?_⟩; have n0 := Az (Kd.R_below (rU HO_3.out) hb); have n1 := Az (Kd.R_below (rU HO_4.out) hb); have n2 := Az (below_step (bU0 HB.out) hb); clear HO_3 HO_4 HB; have HO_3 := n0; have HO_4 := n1; have HB := n2; clear n0 n1 n2; (try clear hb); (try clear hb2); (try clear hk); (try clear hi)) | ((with_reducible refine gate_callee (f := 46) rfl ?_); refine goesL_ (some 48) rfl rfl Try.func46 (by kernel_rfl) rfl #[.slice Ao9 t692.length co9, .slice Ao8 t691.length co8] rfl (by (try simp only [List.map_toArray, List.map_cons, List.map_nil]); first | done | rfl | (simp only [List.length_drop, List.length_take]; rfl)) ?_; (with_reducible refine (impl_CutJoin.calls kj5 _ _ t692 _ _ t691 t702 _ ?side1 ?side2 ?side3 ?side4 A18.out).mono ?_); (case side1 => exact cU ((Kd.R_reads' HO_4.out).2.2)); (case side2 => exact (Kd.R_reads' HO_4.out).2.1); (case side3 => exact cU ((Kd.R_reads' HO_3.out).2.2)); (case side4 => exact (Kd.R_reads' HO_3.out).2.1); rintro e w24 ⟨rfl, hb⟩; refine ⟨_, rfl, ?_⟩; have n0 := Az (Kd.R_below (rU HO_3.out) hb); have n1 := Az (Kd.R_below (rU HO_4.out) hb); have n2 := Az (below_step (bU0 HB.out) hb); clear HO_3 HO_4 HB; have HO_3 := n0; have HO_4 := n1; have HB := n2; clear n0 n1 n2; (try clear hb); (try clear hb2); (try clear hk); (try clear hi)) | (go_at_call 50; (with_reducible refine (laws_swapType.calls kj5 t699 t703 _ A20.out).mono ?_); rintro e w25 ⟨v704, rfl, ho0, hb⟩; have n0 := Az (Kd.R_elder' (rU HO_3.out) (Kd.R_base ho0) hb); have n1 := Az (Kd.R_elder' (rU HO_4.out) (Kd.R_base ho0) hb); have n2 := Az (Kd.R_lower (Kd.R_new' (Kd.R_new' ho0 (Kd.R_lt (rU HO_3.out))) (Kd.R_lt (rU HO_4.out))) (below_size (bU0 HB.out))); have n3 := Az (below_step (bU0 HB.out) hb); clear HO_3 HO_4 HB; have HO_3 := n0; have HO_4 := n1; have HO705 := n2; have HB := n3; clear n0 n1 n2 n3; (try clear hb); (try clear hb2); (try clear hk); (try clear hi); (try clear ho0); obtain ⟨Ao26, co26, eo26⟩ := Kd.R_slice HO705.out; subst eo26) | ((with_reducible refine gate_dst (N := 57) rfl ?_); (try (refine gate_guard (by rfl) ?_; dsimp only)); refine Kd.N_lit (Kd.slice 3 (Kd.int .i64)) _ 23 ?hg (N' := 57) ?hd (xs := ([t691, t703, t692] : List (List Int))) (inner := [.slice Ao8 t691.length co8, .slice Ao26 t703.length co26, .slice Ao9 t692.length co9]) (ok := (fun _ => True)) (okp := (fun _ => True)) ?hr ?hp (fun _ hk => hk) ((show ∀ k_, w25.heap.size ≤ k_ → (fun _ => True) k_ from fun k_ hk => trivial) _ (Nat.le_refl _)) (Below.refl _ _) (Nat.le_refl _) (by simp) ?_; (case hd => rfl); (case hg => rfl); (case hr => first | (go_simp; done) | (go_simp; rfl)); (case hp => exact (Reps.one (show Kd.FK (Kd.slice 3 (Kd.int .i64)) _ _ t691 [.slice Ao8 t691.length co8] from (Kd.FK_slice_mk (Kd.R_reads' (Kd.R_mono (ok' := (fun _ => True)) (HO_3.out) (fun k_ hk => trivial))).2.1 (Kd.R_F (Kd.R_mono (ok' := (fun _ => True)) (HO_3.out) (fun k_ hk => trivial))))) (Reps.one (show Kd.FK (Kd.slice 3 (Kd.int .i64)) _ _ t703 [.slice Ao26 t703.length co26] from (Kd.FK_slice_mk (Kd.R_reads' (Kd.R_mono (ok' := (fun _ => True)) (HO705.out) (fun k_ hk => trivial))).2.1 (Kd.R_F (Kd.R_mono (ok' := (fun _ => True)) (HO705.out) (fun k_ hk => trivial))))) (Reps.one (show Kd.FK (Kd.slice 3 (Kd.int .i64)) _ _ t692 [.slice Ao9 t692.length co9] from (Kd.FK_slice_mk (Kd.R_reads' (Kd.R_mono (ok' := (fun _ => True)) (HO_4.out) (fun k_ hk => trivial))).2.1 (Kd.R_F (Kd.R_mono (ok' := (fun _ => True)) (HO_4.out) (fun k_ hk => trivial))))) (Reps.none _ _))))); intro v707 w27 ho28 hb hg_ hnew_; clear hg_ hnew_; (first | rw [← Ny706.out] at ho28 | (simp only [Int.reduceToNat] at ho28; rw [← Ny706.out] at ho28)); have n0 := Az (Kd.N_lower ho28 (below_size (bU0 HB.out))); have n1 := Az (below_step (bU0 HB.out) hb); clear HB HO705 HO_3 HO_4; have HO708 := n0; have HB := n1; clear n0 n1 hb ho28; obtain ⟨Ao29, co29, eo29⟩ := Kd.N_slice HO708.out; subst eo29) | (go_at_call 49; (with_reducible refine (impl_FactorCount.calls kj5 _ _ y706 t709 _ ?side1 ?side2 A21.out).mono ?_); (case side1 => exact cU ((Kd.N_reads' HO708.out).2.2)); (case side2 => exact (Kd.N_reads' HO708.out).2.1); rintro e w30 ⟨rfl, hb⟩; have n0 := Az (Kd.N_below (nU HO708.out) hb); have n1 := Az (below_step (bU0 HB.out) hb); clear HO708 HB; have HO708 := n0; have HB := n1; clear n0 n1; (try clear hb); (try clear hb2); (try clear hk); (try clear hi)))
       go_ret
       exact ⟨rE, bU0 HB.out⟩
      ·
       rw [if_neg c19] at H; have c19b0 := beq_eq_false_iff_ne.mpr c19; have c19b1 := bne_iff_ne.mpr c19; obtain rfl := Option.some.inj H
       go_wp2_with (first | ((with_reducible refine gate_callee (f := 37) rfl ?_); refine goesL_ (some 34) rfl rfl Try.func37 (by kernel_rfl) rfl #[.slice Ao8 t691.length co8] rfl (by (try simp only [List.map_toArray, List.map_cons, List.map_nil]); first | done | rfl | (simp only [List.length_drop, List.length_take]; rfl)) ?_; (with_reducible refine (laws_sumOf.calls kj5 _ _ t691 t699 _ ?side1 ?side2 A14.out).mono ?_); (case side1 => exact cU ((Kd.R_reads' HO_3.out).2.2)); (case side2 => exact (Kd.R_reads' HO_3.out).2.1); rintro e w' ⟨rfl, ⟨nd, rfl⟩⟩; refine ⟨_, rfl, ?_⟩) | ((with_reducible refine gate_callee (f := 48) rfl ?_); refine goesL_ (some 40) rfl rfl Try.func48 (by kernel_rfl) rfl #[.slice Ao8 t691.length co8] rfl (by (try simp only [List.map_toArray, List.map_cons, List.map_nil]); first | done | rfl | (simp only [List.length_drop, List.length_take]; rfl)) ?_; (with_reducible refine (impl_ClassSize.calls kj5 _ _ t691 t700 _ ?side1 ?side2 A16.out).mono ?_); (case side1 => exact cU ((Kd.R_reads' HO_3.out).2.2)); (case side2 => exact (Kd.R_reads' HO_3.out).2.1); rintro e w31 ⟨rfl, hb⟩; refine ⟨_, rfl, ?_⟩; have n0 := Az (Kd.R_below (rU HO_3.out) hb); have n1 := Az (Kd.R_below (rU HO_4.out) hb); have n2 := Az (below_step (bU0 HB.out) hb); clear HO_3 HO_4 HB; have HO_3 := n0; have HO_4 := n1; have HB := n2; clear n0 n1 n2; (try clear hb); (try clear hb2); (try clear hk); (try clear hi)) | ((with_reducible refine gate_callee (f := 48) rfl ?_); refine goesL_ (some 45) rfl rfl Try.func48 (by kernel_rfl) rfl #[.slice Ao9 t692.length co9] rfl (by (try simp only [List.map_toArray, List.map_cons, List.map_nil]); first | done | rfl | (simp only [List.length_drop, List.length_take]; rfl)) ?_; (with_reducible refine (impl_ClassSize.calls kj5 _ _ t692 t701 _ ?side1 ?side2 A17.out).mono ?_); (case side1 => exact cU ((Kd.R_reads' HO_4.out).2.2)); (case side2 => exact (Kd.R_reads' HO_4.out).2.1); rintro e w32 ⟨rfl, hb⟩; refine ⟨_, rfl, ?_⟩; have n0 := Az (Kd.R_below (rU HO_3.out) hb); have n1 := Az (Kd.R_below (rU HO_4.out) hb); have n2 := Az (below_step (bU0 HB.out) hb); clear HO_3 HO_4 HB; have HO_3 := n0; have HO_4 := n1; have HB := n2; clear n0 n1 n2; (try clear hb); (try clear hb2); (try clear hk); (try clear hi)) | ((with_reducible refine gate_callee (f := 46) rfl ?_); refine goesL_ (some 48) rfl rfl Try.func46 (by kernel_rfl) rfl #[.slice Ao9 t692.length co9, .slice Ao8 t691.length co8] rfl (by (try simp only [List.map_toArray, List.map_cons, List.map_nil]); first | done | rfl | (simp only [List.length_drop, List.length_take]; rfl)) ?_; (with_reducible refine (impl_CutJoin.calls kj5 _ _ t692 _ _ t691 t702 _ ?side1 ?side2 ?side3 ?side4 A18.out).mono ?_); (case side1 => exact cU ((Kd.R_reads' HO_4.out).2.2)); (case side2 => exact (Kd.R_reads' HO_4.out).2.1); (case side3 => exact cU ((Kd.R_reads' HO_3.out).2.2)); (case side4 => exact (Kd.R_reads' HO_3.out).2.1); rintro e w33 ⟨rfl, hb⟩; refine ⟨_, rfl, ?_⟩; have n0 := Az (Kd.R_below (rU HO_3.out) hb); have n1 := Az (Kd.R_below (rU HO_4.out) hb); have n2 := Az (below_step (bU0 HB.out) hb); clear HO_3 HO_4 HB; have HO_3 := n0; have HO_4 := n1; have HB := n2; clear n0 n1 n2; (try clear hb); (try clear hb2); (try clear hk); (try clear hi)))
       go_ret
       exact ⟨rE, bU0 HB.out⟩
def laws_FnCutJoin.Pure : Prop := ∀ (l0 : List Int), l0.length ≤ maxLen → l0.length * 1 ≤ 140737488351232 → (∀ x ∈ l0, (Lit.int .u8 x).wf = true) → ∃ k, laws_FnCutJoin.f k l0 = some true
theorem laws_FnCutJoin.walk (P : laws_FnCutJoin.Pure) (a0 : Option Addr) (len0 cap0 : Nat) (z0 : List Int) (w : World) (w0 : (a0 = none ∧ len0 = 0 ∧ cap0 = 0 ∧ z0 = []) ∨ ∃ x, a0 = some x ∧ len0 ≤ cap0 ∧ cap0 ≤ maxLen ∧ z0.length = cap0 ∧ (∀ i, i < z0.length → w.cell? (x.add i) = some (.int .u8 (z0.getD i 0))) ∧ ∀ n ∈ z0, (Lit.int .u8 n).wf = true) (y0 : len0 * 1 ≤ 140737488351232) :
  Calls Try.prog 9 #[.slice a0 len0 cap0] w fun e w' => e = .returned (.bool true) ∧ Below w.heap.size w w' := by
 obtain ⟨l0, rfl, hr0, hm0, hw0, hc0⟩ := ReadsInt.ofRowC w0; obtain ⟨k, h⟩ := P l0 hm0 y0 hw0
 refine (laws_FnCutJoin.calls k _ _ l0 true w (Kd.C_of_reads (d := (0 : Int)) (h1 := fun _ => rfl) hr0) hc0 h).mono ?_
 rintro e w' ⟨rfl, hd⟩
 exact ⟨rfl, hd⟩
end Go.Proofs.Ytggghijamfmenaa.PN

set_option linter.unusedVariables false
set_option linter.unusedSimpArgs false
namespace Go.Proofs.Ytggghijamfmenaa.PN
open Go.RowKit Go.Proofs.YtggghijamfmenaaW.PrintWords Go.Proofs.YtggghijamfmenaaW.PrintLast Go.Proofs.YtggghijamfmenaaW.PrintMore
theorem Ev.s {α : Type} {g : Nat → Option α} {r : α} (h : Ev (fun k => g (k + 1)) r) : Ev g r := Ev.step (fun _ => rfl) h
theorem Ev.const {α : Type} {o : Option α} {r : α} (h : o = some r) : Ev (fun _ => o) r := ⟨0, fun _ _ => h⟩
theorem w64 {x : Int} (h1 : -9223372036854775808 ≤ x) (h2 : x < 9223372036854775808) : wrap64 x = x := by unfold wrap64; omega
theorem w64n {i : Nat} (h : i < 4611686018427387904) : wrap64 ((i : Int) + 1) = ((i + 1 : Nat) : Int) := by rw [w64 (by omega) (by omega)]; omega
theorem rd_lt (l : List Int) (i : Nat) (h : i < l.length) : rd l (i : Int) = l[i] := by
  unfold rd
  rw [Int.toNat_natCast, List.getD_eq_getElem?_getD, List.getElem?_eq_getElem h]
  rfl
def stl (n : Nat) : List Int := (List.range n).map fun (i : Nat) => (i : Int)
theorem stl_length (n : Nat) : (stl n).length = n := by simp [stl]
theorem stl_rd (n i : Nat) (h : i < n) : rd (stl n) i = i := by
  rw [rd_lt _ _ (by rw [stl_length]; exact h)]
  simp [stl]
theorem rd_set_self (l : List Int) (i : Nat) (v : Int) (h : i < l.length) : rd (l.set i v) i = v := by
  rw [rd_lt _ _ (by simpa using h)]; simp
theorem rd_set_ne (l : List Int) (i j : Nat) (v : Int) (h : i ≠ j) : rd (l.set i v) j = rd l j := by
  unfold rd
  rw [Int.toNat_natCast, List.getD_eq_getElem?_getD, List.getD_eq_getElem?_getD, List.getElem?_set_ne h]
theorem rd_app_lt (l m : List Int) (i : Nat) (h : i < l.length) : rd (l ++ m) i = rd l i := by
  unfold rd
  rw [Int.toNat_natCast, List.getD_eq_getElem?_getD, List.getD_eq_getElem?_getD, List.getElem?_append_left h]
theorem list_ext (a b : List Int) (h : a.length = b.length) (hr : ∀ i : Nat, i < a.length → rd a i = rd b i) : a = b := by
  refine List.ext_getElem h fun i h1 h2 => ?_
  have := hr i h1
  rwa [rd_lt a i h1, rd_lt b i h2] at this
theorem still_run (n : Nat) (hn : n ≤ 1048576) : ∀ (d i : Nat) (l : List Int), n - i = d → i ≤ n → l.length = n → l.take i = (stl n).take i → Ev (fun k => impl_still.l0 k l n i) (stl n)
  | 0, i, l, hd, hi, hl, ht => by
    refine Ev.s ?_
    simp only [impl_still.l0, show ¬ (i : Int) < (n : Int) by omega, if_false]
    have : i = n := by omega
    subst this
    have e : (stl i).take i = stl i := by rw [List.take_of_length_le]; rw [stl_length]; exact Nat.le_refl _
    rw [e, List.take_of_length_le (by omega)] at ht
    exact Ev.const (by rw [ht])
  | d + 1, i, l, hd, hi, hl, ht => by
    have hlt : i < l.length := by omega
    refine Ev.s ?_
    simp only [impl_still.l0, show (i : Int) < (n : Int) by omega, show (0 : Int) ≤ i by omega, show (i : Int) < (l.length : Int) by omega, if_true]
    rw [w64 (x := (i : Int) + 1) (by omega) (by omega), show ((i : Int) + 1) = ((i + 1 : Nat) : Int) by omega, Int.toNat_natCast]
    refine still_run n hn d (i + 1) _ (by omega) (by omega) (by simpa using hl) ?_
    have h2 : i < (stl n).length := by rw [stl_length]; omega
    rw [List.take_succ_eq_append_getElem (by simpa using hlt), List.take_succ_eq_append_getElem h2, List.take_set_of_le (Nat.le_refl _), ht]
    simp [stl]
theorem still_ev (n : Nat) (hn : n ≤ 1048576) : Ev (fun k => impl_still.f k n) (stl n) := by
  unfold impl_still.f
  have h1 : n ≤ 35184372088832 := by omega
  have h2 : (0 : Int) ≤ (n : Int) := by omega
  simp only [Int.toNat_natCast, h1, h2, if_true, Option.bind_some, List.length_replicate]
  exact still_run n hn n 0 _ (by omega) (by omega) (by simp) (by simp)
def inR (n : Nat) (p : List Int) : Prop := p.length = n ∧ ∀ i : Nat, i < n → 0 ≤ rd p i ∧ rd p i < n
def closedL (ps : List (List Int)) (n : Nat) (S : Nat → Prop) : Prop := ∀ p ∈ ps, ∀ k, k < n → (S k ↔ S (rd p k).toNat)
def Reach (ps : List (List Int)) (n : Nat) (i j : Nat) : Prop := ∀ S, closedL ps n S → (S i ↔ S j)
theorem Reach.refl (ps : List (List Int)) (n i : Nat) : Reach ps n i i := fun S _ => Iff.rfl
theorem Reach.symm {ps : List (List Int)} {n i j : Nat} (h : Reach ps n i j) : Reach ps n j i := fun S c => (h S c).symm
theorem Reach.trans {ps : List (List Int)} {n i j k : Nat} (h : Reach ps n i j) (h' : Reach ps n j k) : Reach ps n i k := fun S c => (h S c).trans (h' S c)
theorem Reach.step {ps : List (List Int)} {n : Nat} {p : List Int} (hp : p ∈ ps) {k : Nat} (hk : k < n) : Reach ps n k (rd p k).toNat := fun S c => c p hp k hk
theorem rdL_nth (ps : List (List Int)) (q : Nat) (h : q < ps.length) : rd_L1 ps (q : Int) = ps[q] := by
  have e : (q : Int).toNat = q := Int.toNat_natCast q
  unfold rd_L1
  rw [e, List.getD_eq_getElem?_getD, List.getElem?_eq_getElem h]
  rfl
def okP : Int → List Int → Bool
  | _, [] => true
  | prev, x :: xs => decide (1 ≤ x) && decide (x ≤ 6) && decide (x ≤ prev) && okP x xs
def totP : List Int → Int
  | [] => 0
  | x :: xs => x + totP xs
theorem okP_tot : ∀ (p : List Int) (prev : Int), okP prev p = true → (p.length : Int) ≤ totP p
  | [], _, _ => Int.le_refl _
  | x :: xs, prev, h => by
    simp only [okP, Bool.and_eq_true, decide_eq_true_eq] at h
    have := okP_tot xs x h.2
    simp only [totP, List.length_cons]
    omega
theorem okP_at : ∀ (p : List Int) (prev : Int), okP prev p = true → ∀ x ∈ p, 1 ≤ x ∧ x ≤ 6
  | [], _, _, x, hx => by simp at hx
  | y :: ys, prev, h, x, hx => by
    simp only [okP, Bool.and_eq_true, decide_eq_true_eq] at h
    rcases List.mem_cons.1 hx with rfl | hx
    · omega
    · exact okP_at ys y h.2 x hx
def vP (p : List Int) : Bool := okP 6 p && (decide (1 ≤ totP p) && decide (totP p ≤ 6))
theorem drop_rd (p : List Int) (i : Nat) (h : i < p.length) : p.drop i = rd p (i : Int) :: p.drop (i + 1) := by rw [List.drop_eq_getElem_cons h, rd_lt p i h]
theorem l6In_ev (a b c : Int) : spec_l6In.f a b c = some (decide (b ≤ a ∧ a ≤ c)) := by
  unfold spec_l6In.f
  by_cases h : b ≤ a
  · simp [show a ≥ b from h, h]
  · simp [show ¬ a ≥ b from h, h]
theorem implPV_run (p : List Int) (hl : p.length ≤ 1048576) : ∀ (d i : Nat) (s prev : Int), p.length - i = d → i ≤ p.length → 0 ≤ s → s ≤ 6 * i → (i = 0 → prev = 6) → (0 < i → prev = rd p ((i : Int) - 1)) →
    Ev (fun k => impl_PartsValid.l0 k p s p p.length i) (okP prev (p.drop i) && (decide (1 ≤ s + totP (p.drop i)) && decide (s + totP (p.drop i) ≤ 6)))
  | 0, i, s, prev, hd, hi, h0, h1, e0, e1 => by
    refine Ev.s ?_
    have e : i = p.length := by omega
    rw [e, List.drop_length]
    simp only [impl_PartsValid.l0, show ¬ (p.length : Int) < (p.length : Int) by omega, if_false, okP, totP, Int.add_zero, Bool.true_and]
    by_cases h : s ≥ 1
    · simp only [h, if_true, show (1 : Int) ≤ s from h, decide_true, Bool.true_and]; exact Ev.const rfl
    · simp only [h, if_false, show ¬ (1 : Int) ≤ s from h, decide_false, Bool.false_and]; exact Ev.const rfl
  | d + 1, i, s, prev, hd, hi, h0, h1, e0, e1 => by
    have hlt : i < p.length := by omega
    rw [drop_rd p i hlt]
    refine Ev.s ?_
    simp only [impl_PartsValid.l0, show (i : Int) < (p.length : Int) by omega, show (0 : Int) ≤ i by omega, if_true, okP, totP]
    by_cases a : rd p (i : Int) < 1
    · simp only [a, if_true, show ¬ (1 : Int) ≤ rd p (i : Int) by omega, decide_false, Bool.false_and]; exact Ev.const rfl
    by_cases b : rd p (i : Int) > 6
    · simp only [a, b, if_true, if_false, show ¬ rd p (i : Int) ≤ 6 by omega, decide_false, Bool.false_and, Bool.and_false]; exact Ev.const rfl
    have hs : wrap64 (s + rd p (i : Int)) = s + rd p (i : Int) := w64 (by omega) (by omega)
    have ih := implPV_run p hl d (i + 1) (s + rd p (i : Int)) (rd p (i : Int)) (by omega) (by omega) (by omega) (by omega) (fun h => by omega) (fun _ => by rw [show (((i + 1 : Nat) : Int) - 1) = (i : Int) by omega])
    rw [Int.add_assoc] at ih
    simp only [a, b, if_false, hs, show (1 : Int) ≤ rd p (i : Int) by omega, show rd p (i : Int) ≤ 6 by omega, decide_true, Bool.true_and]
    rcases i with _ | i
    · have := e0 rfl
      subst this
      simp only [show rd p ((0 : Nat) : Int) ≤ 6 by omega, decide_true, Bool.true_and, show ¬ (((0 : Nat) : Int) > 0) by omega, if_false]
      rw [w64n (by omega)]
      exact ih
    · have e2 := e1 (by omega)
      have hw : wrap64 (((i + 1 : Nat) : Int) - 1) = (((i + 1 : Nat) : Int) - 1) := w64 (by omega) (by omega)
      simp only [show (((i + 1 : Nat) : Int) > 0) by omega, hw, show (0 : Int) ≤ ((i + 1 : Nat) : Int) - 1 by omega, show ((i + 1 : Nat) : Int) - 1 < (p.length : Int) by omega, if_true, ← e2]
      by_cases c : rd p ((i + 1 : Nat) : Int) > prev
      · simp only [c, if_true, show ¬ rd p ((i + 1 : Nat) : Int) ≤ prev by omega, decide_false, Bool.false_and]; exact Ev.const rfl
      · simp only [c, if_false, show rd p ((i + 1 : Nat) : Int) ≤ prev by omega, decide_true, Bool.true_and]
        rw [w64n (by omega)]
        exact ih
theorem implPV_ev (p : List Int) (hl : p.length ≤ 1048576) : Ev (fun k => impl_PartsValid.f k p) (vP p) := by
  unfold impl_PartsValid.f vP
  have h := implPV_run p hl p.length 0 0 6 (by omega) (by omega) (by omega) (by omega) (fun _ => rfl) (fun h => by omega)
  simpa using h
theorem specPV_run (p : List Int) (hl : p.length ≤ 1048576) : ∀ (d i : Nat) (s prev : Int), p.length - i = d → i ≤ p.length → 0 ≤ s → s ≤ 6 → (i = 0 → prev = 6) → (0 < i → prev = rd p ((i : Int) - 1)) →
    Ev (fun k => spec_PartsValid.l0 k p s i) (okP prev (p.drop i) && (decide (1 ≤ s + totP (p.drop i)) && decide (s + totP (p.drop i) ≤ 6)))
  | 0, i, s, prev, hd, hi, h0, h1, e0, e1 => by
    refine Ev.s ?_
    have e : i = p.length := by omega
    rw [e, List.drop_length]
    simp only [spec_PartsValid.l0, show ¬ (p.length : Int) < (p.length : Int) by omega, if_false, okP, totP, Int.add_zero, Bool.true_and, show s ≤ 6 from h1, decide_true, Bool.and_true]
    exact Ev.const (by congr 1)
  | d + 1, i, s, prev, hd, hi, h0, h1, e0, e1 => by
    have hlt : i < p.length := by omega
    rw [drop_rd p i hlt]
    refine Ev.s ?_
    simp only [spec_PartsValid.l0, show (i : Int) < (p.length : Int) by omega, show (0 : Int) ≤ i by omega, if_true, okP, totP, l6In_ev, Option.bind_some]
    by_cases a : 1 ≤ rd p (i : Int) ∧ rd p (i : Int) ≤ 6
    · have hs : wrap64 (s + rd p (i : Int)) = s + rd p (i : Int) := w64 (by omega) (by omega)
      have fin : ∀ (c : Bool), Ev (fun k => spec_PartsValid.j1 k p s i (!c)) (c && okP (rd p (i : Int)) (p.drop (i + 1)) && (decide (1 ≤ s + (rd p (i : Int) + totP (p.drop (i + 1)))) && decide (s + (rd p (i : Int) + totP (p.drop (i + 1))) ≤ 6))) := by
        intro c
        refine Ev.s ?_
        cases c with
        | false =>
          simp only [spec_PartsValid.j1, Bool.not_false, if_true, Bool.false_and]
          exact Ev.const rfl
        | true =>
          simp only [spec_PartsValid.j1, Bool.not_true, Bool.false_eq_true, if_false, show (0 : Int) ≤ (i : Int) by omega, show (i : Int) < (p.length : Int) by omega, if_true, hs, Bool.true_and]
          by_cases b : s + rd p (i : Int) > 6
          · simp only [b, if_true]
            refine Ev.const (congrArg some ?_)
            symm
            by_cases o : okP (rd p (i : Int)) (p.drop (i + 1)) = true
            · have := okP_tot _ _ o
              simp only [show ¬ s + (rd p (i : Int) + totP (p.drop (i + 1))) ≤ 6 by omega, decide_false, Bool.and_false]
            · rw [Bool.not_eq_true] at o
              rw [o, Bool.false_and]
          · simp only [b, if_false]
            rw [w64n (by omega), ← Int.add_assoc]
            exact specPV_run p hl d (i + 1) (s + rd p (i : Int)) (rd p (i : Int)) (by omega) (by omega) (by omega) (by omega) (fun h => by omega) (fun _ => by rw [show (((i + 1 : Nat) : Int) - 1) = (i : Int) by omega])
      simp only [a, and_self, decide_true, if_true, a.1, a.2, Bool.true_and]
      rcases i with _ | i
      · have := e0 rfl
        subst this
        simp only [show rd p ((0 : Nat) : Int) ≤ 6 from a.2, decide_true, show ¬ (((0 : Nat) : Int) > 0) by omega, if_false]
        exact fin true
      · have e2 := e1 (by omega)
        have hw : wrap64 (((i + 1 : Nat) : Int) - 1) = (((i + 1 : Nat) : Int) - 1) := w64 (by omega) (by omega)
        simp only [show (((i + 1 : Nat) : Int) > 0) by omega, hw, show (0 : Int) ≤ ((i + 1 : Nat) : Int) - 1 by omega, show ((i + 1 : Nat) : Int) - 1 < (p.length : Int) by omega, if_true, ← e2]
        have f := fin (decide (rd p ((i + 1 : Nat) : Int) ≤ prev))
        rw [show (!decide (rd p ((i + 1 : Nat) : Int) ≤ prev)) = decide (rd p ((i + 1 : Nat) : Int) > prev) by
          by_cases c : rd p ((i + 1 : Nat) : Int) ≤ prev
          · rw [decide_eq_true c, decide_eq_false (show ¬ rd p ((i + 1 : Nat) : Int) > prev by omega)]; rfl
          · rw [decide_eq_false c, decide_eq_true (show rd p ((i + 1 : Nat) : Int) > prev by omega)]; rfl] at f
        exact f
    · simp only [a, decide_false, Bool.false_eq_true, if_false]
      have hF : (decide (1 ≤ rd p (i : Int)) && decide (rd p (i : Int) ≤ 6)) = false := by
        by_cases b : 1 ≤ rd p (i : Int)
        · simp [b, show ¬ rd p (i : Int) ≤ 6 from fun h => a ⟨b, h⟩]
        · simp [b]
      rw [hF]
      refine Ev.s ?_
      simp only [spec_PartsValid.j1, if_true, Bool.false_and]
      exact Ev.const rfl
theorem specPV_ev (p : List Int) (hl : p.length ≤ 1048576) : Ev (fun k => spec_PartsValid.f k p) (vP p) := by
  unfold spec_PartsValid.f vP
  have h := specPV_run p hl p.length 0 0 6 (by omega) (by omega) (by omega) (by omega) (fun _ => rfl) (fun h => by omega)
  simpa using h
theorem vP_len (p : List Int) (h : vP p = true) : p.length ≤ 6 ∧ 1 ≤ totP p ∧ totP p ≤ 6 ∧ ∀ x ∈ p, 1 ≤ x ∧ x ≤ 6 := by
  simp only [vP, Bool.and_eq_true, decide_eq_true_eq] at h
  have := okP_tot _ _ h.1
  exact ⟨by omega, h.2.1, h.2.2, okP_at _ _ h.1⟩
theorem implSum_run (p : List Int) (hl : p.length ≤ 6) (h6 : ∀ x ∈ p, 1 ≤ x ∧ x ≤ 6) : ∀ (d i : Nat) (s : Int), p.length - i = d → i ≤ p.length → 0 ≤ s → s ≤ 6 * i → Ev (fun k => impl_sumOf.l0 k s p p.length i) (s + totP (p.drop i))
  | 0, i, s, hd, hi, h0, h1 => by
    refine Ev.s ?_
    have e : i = p.length := by omega
    rw [e, List.drop_length]
    simp only [impl_sumOf.l0, show ¬ (p.length : Int) < (p.length : Int) by omega, if_false, totP, Int.add_zero]
    exact Ev.const rfl
  | d + 1, i, s, hd, hi, h0, h1 => by
    have hlt : i < p.length := by omega
    have hx := h6 _ (List.getElem_mem hlt)
    rw [← rd_lt p i hlt] at hx
    rw [drop_rd p i hlt]
    refine Ev.s ?_
    simp only [impl_sumOf.l0, show (i : Int) < (p.length : Int) by omega, show (0 : Int) ≤ i by omega, if_true, totP]
    rw [w64n (by omega), w64 (x := s + rd p (i : Int)) (by omega) (by omega), ← Int.add_assoc]
    exact implSum_run p hl h6 d (i + 1) _ (by omega) (by omega) (by omega) (by omega)
theorem implSum_ev (p : List Int) (h : vP p = true) : Ev (fun k => impl_sumOf.f k p) (totP p) := by
  have h2 := vP_len p h
  unfold impl_sumOf.f
  have h := implSum_run p h2.1 h2.2.2.2 p.length 0 0 (by omega) (by omega) (by omega) (by omega)
  simpa using h
theorem specSum_run (p : List Int) (hl : p.length ≤ 6) (h6 : ∀ x ∈ p, 0 ≤ x ∧ x ≤ 6) : ∀ (d i : Nat) (s : Int), p.length - i = d → i ≤ p.length → 0 ≤ s → s ≤ 6 * i → Ev (fun k => spec_l5Sum.l0 k p s i) (s + totP (p.drop i))
  | 0, i, s, hd, hi, h0, h1 => by
    refine Ev.s ?_
    have e : i = p.length := by omega
    rw [e, List.drop_length]
    simp only [spec_l5Sum.l0, show ¬ (p.length : Int) < (p.length : Int) by omega, if_false, totP, Int.add_zero]
    exact Ev.const rfl
  | d + 1, i, s, hd, hi, h0, h1 => by
    have hlt : i < p.length := by omega
    have hx := h6 _ (List.getElem_mem hlt)
    rw [← rd_lt p i hlt] at hx
    rw [drop_rd p i hlt]
    refine Ev.s ?_
    simp only [spec_l5Sum.l0, show (i : Int) < (p.length : Int) by omega, show (0 : Int) ≤ i by omega, if_true, totP]
    rw [w64n (by omega), w64 (x := s + rd p (i : Int)) (by omega) (by omega), ← Int.add_assoc]
    exact specSum_run p hl h6 d (i + 1) _ (by omega) (by omega) (by omega) (by omega)
theorem specSum_of (p : List Int) (hl : p.length ≤ 6) (h6 : ∀ x ∈ p, 0 ≤ x ∧ x ≤ 6) : Ev (fun k => spec_l5Sum.f k p) (totP p) := by
  unfold spec_l5Sum.f
  have h := specSum_run p hl h6 p.length 0 0 (by omega) (by omega) (by omega) (by omega)
  simpa using h
theorem specSum_ev (p : List Int) (h : vP p = true) : Ev (fun k => spec_l5Sum.f k p) (totP p) := by
  have h2 := vP_len p h
  exact specSum_of p h2.1 (fun x hx => by have := h2.2.2.2 x hx; omega)
def okT (l : List (List Int)) (j : Nat) : Prop := vP (rd_L1 l (j : Int)) = true ∧ totP (rd_L1 l (j : Int)) = totP (rd_L1 l 0)
def goodT (l : List (List Int)) : Prop := 1 ≤ l.length ∧ l.length ≤ 6 ∧ ∀ j : Nat, j < l.length → okT l j
theorem implTypes_run (l : List (List Int)) (hl : l.length ≤ 1048576) (h2 : ∀ j : Nat, j < l.length → (rd_L1 l (j : Int)).length ≤ 1048576) (h0 : 0 < l.length) : ∀ (d i : Nat), l.length - i = d → i ≤ l.length → (∀ j : Nat, j < i → okT l j) → ∃ r, Ev (fun k => impl_typesSum.l0 k l l l.length i) r ∧ (((∀ j : Nat, j < l.length → okT l j) ∧ r = totP (rd_L1 l 0)) ∨ (¬ (∀ j : Nat, j < l.length → okT l j) ∧ r = -1))
  | 0, i, hd, hi, ho => by
    have e : i = l.length := by omega
    subst e
    refine ⟨_, Ev.s ?_, Or.inl ⟨ho, rfl⟩⟩
    simp only [impl_typesSum.l0, show ¬ (l.length : Int) < (l.length : Int) by omega, if_false, show (0 : Int) < (l.length : Int) by omega, if_true]
    exact Ev.bind (implSum_ev _ (ho 0 h0).1) (Ev.const rfl)
  | d + 1, i, hd, hi, ho => by
    have hlt : i < l.length := by omega
    have hv := implPV_ev _ (h2 i hlt)
    by_cases a : vP (rd_L1 l (i : Int)) = true
    · rw [a] at hv
      have hs := implSum_ev _ a
      have a0 : vP (rd_L1 l 0) = true := by
        by_cases e : i = 0
        · subst e; exact a
        · exact (ho 0 (by omega)).1
      have hs0 := implSum_ev _ a0
      by_cases b : totP (rd_L1 l (i : Int)) = totP (rd_L1 l 0)
      · obtain ⟨r, e, h⟩ := implTypes_run l hl h2 h0 d (i + 1) (by omega) (by omega) (fun j hj => by
          by_cases e : j = i
          · subst e; exact ⟨a, b⟩
          · exact ho j (by omega))
        refine ⟨r, Ev.s ?_, h⟩
        simp only [impl_typesSum.l0, show (i : Int) < (l.length : Int) by omega, show (0 : Int) ≤ i by omega, show (0 : Int) < (l.length : Int) by omega, if_true]
        refine Ev.bind hv ?_
        simp only [if_true]
        refine Ev.bind hs (Ev.bind hs0 ?_)
        simp only [b, if_true]
        rw [w64n (by omega)]
        exact e
      · refine ⟨-1, Ev.s ?_, Or.inr ⟨fun h => b (h i hlt).2, rfl⟩⟩
        simp only [impl_typesSum.l0, show (i : Int) < (l.length : Int) by omega, show (0 : Int) ≤ i by omega, show (0 : Int) < (l.length : Int) by omega, if_true]
        refine Ev.bind hv ?_
        simp only [if_true]
        refine Ev.bind hs (Ev.bind hs0 ?_)
        simp only [b, if_false]
        exact Ev.const rfl
    · refine ⟨-1, Ev.s ?_, Or.inr ⟨fun h => a (h i hlt).1, rfl⟩⟩
      rw [Bool.not_eq_true] at a
      rw [a] at hv
      simp only [impl_typesSum.l0, show (i : Int) < (l.length : Int) by omega, show (0 : Int) ≤ i by omega, if_true]
      refine Ev.bind hv ?_
      simp only [Bool.false_eq_true, if_false]
      exact Ev.const rfl
theorem implTypes_ev (l : List (List Int)) (hl : l.length ≤ 1048576) (h2 : ∀ j : Nat, j < l.length → (rd_L1 l (j : Int)).length ≤ 1048576) : ∃ r, Ev (fun k => impl_typesSum.f k l) r ∧ ((goodT l ∧ r = totP (rd_L1 l 0)) ∨ (¬ goodT l ∧ r = -1)) := by
  unfold impl_typesSum.f
  by_cases a : (l.length : Int) < 1
  · refine ⟨-1, ?_, Or.inr ⟨fun h => by have := h.1; omega, rfl⟩⟩
    simp only [a, if_true]
    refine Ev.s ?_
    simp only [impl_typesSum.j0, if_true]
    exact Ev.const rfl
  · by_cases b : (l.length : Int) > 6
    · refine ⟨-1, ?_, Or.inr ⟨fun h => by have := h.2.1; omega, rfl⟩⟩
      simp only [a, b, if_false, decide_true]
      refine Ev.s ?_
      simp only [impl_typesSum.j0, if_true]
      exact Ev.const rfl
    · obtain ⟨r, e, h⟩ := implTypes_run l hl h2 (by omega) l.length 0 (by omega) (by omega) (fun j hj => by omega)
      refine ⟨r, ?_, h.imp (fun h => ⟨⟨by omega, by omega, h.1⟩, h.2⟩) (fun h => ⟨fun g => h.1 g.2.2, h.2⟩)⟩
      simp only [a, b, if_false, decide_false]
      refine Ev.s ?_
      simp only [impl_typesSum.j0, Bool.false_eq_true, if_false]
      exact e
def prt : Nat → Nat → Nat → List (List Int)
  | 0, left, _ => if left = 0 then [[]] else []
  | f + 1, left, prev => if left = 0 then [[]] else (List.range' 1 (min left prev)).reverse.flatMap fun (x : Nat) => (prt f (left - x) x).map fun p => (x : Int) :: p
def PT (n : Nat) : List (List Int) := prt n n n
theorem prt_mem : ∀ (f : Nat) (p : List Int) (left prev : Nat), p.length ≤ f → okP prev p = true → totP p = left → p ∈ prt f left prev
  | 0, p, left, prev, hl, ho, ht => by
    have e : p = [] := List.length_eq_zero_iff.1 (by omega)
    subst e
    have : left = 0 := by simp only [totP] at ht; omega
    subst this
    simp [prt]
  | f + 1, [], left, prev, hl, ho, ht => by
    have : left = 0 := by simp only [totP] at ht; omega
    subst this
    simp [prt]
  | f + 1, x :: p, left, prev, hl, ho, ht => by
    simp only [okP, Bool.and_eq_true, decide_eq_true_eq] at ho
    have h2 := okP_tot p x ho.2
    simp only [totP] at ht
    simp only [List.length_cons] at hl
    obtain ⟨y, rfl⟩ := Int.eq_ofNat_of_zero_le (show 0 ≤ x by omega)
    have ih := prt_mem f p (left - y) y (by omega) ho.2 (by omega)
    simp only [prt, show ¬ left = 0 by omega, if_false, List.mem_flatMap, List.mem_reverse, List.mem_range'_1, List.mem_map]
    exact ⟨y, ⟨by omega, by omega⟩, p, ih, rfl⟩
theorem PT_mem (n : Nat) (h6 : n ≤ 6) (p : List Int) (h : vP p = true) (ht : totP p = n) : p ∈ PT n := by
  simp only [vP, Bool.and_eq_true, decide_eq_true_eq] at h
  have h2 := okP_tot p 6 h.1
  refine prt_mem n p n n (by omega) ?_ ht
  rcases p with _ | ⟨x, p⟩
  · rfl
  · have h1 := h.1
    simp only [okP, Bool.and_eq_true, decide_eq_true_eq] at h1 ⊢
    have h3 := okP_tot p x h1.2
    simp only [totP] at ht
    exact ⟨⟨⟨h1.1.1.1, h1.1.1.2⟩, by omega⟩, h1.2⟩
def ixP (n : Nat) (p : List Int) : Nat := (PT n).findIdx fun q => decide (q = p)
def chTab : Nat → List (List Int)
  | 1 => [[1]]
  | 2 => [[1, 1], [(-1), 1]]
  | 3 => [[1, 1, 1], [(-1), 0, 2], [1, (-1), 1]]
  | 4 => [[1, 1, 1, 1, 1], [(-1), 0, (-1), 1, 3], [0, (-1), 2, 0, 2], [1, 0, (-1), (-1), 3], [(-1), 1, 1, (-1), 1]]
  | 5 => [[1, 1, 1, 1, 1, 1, 1], [(-1), 0, (-1), 1, 0, 2, 4], [0, (-1), 1, (-1), 1, 1, 5], [1, 0, 0, 0, (-2), 0, 6], [0, 1, (-1), (-1), 1, (-1), 5], [(-1), 0, 1, 1, 0, (-2), 4], [1, (-1), (-1), 1, 1, (-1), 1]]
  | 6 => [[1, 1, 1, 1, 1, 1, 1, 1, 1, 1, 1], [(-1), 0, (-1), 1, (-1), 0, 2, (-1), 1, 3, 5], [0, (-1), 1, (-1), 0, 0, 0, 3, 1, 3, 9], [1, 0, 0, 0, 1, (-1), 1, (-2), (-2), 2, 10], [0, 0, (-1), (-1), 2, 1, (-1), (-3), 1, 1, 5], [0, 1, 0, 0, (-2), 0, (-2), 0, 0, 0, 16], [(-1), 0, 0, 0, 1, 1, 1, 2, (-2), (-2), 10], [0, 0, (-1), 1, 2, (-1), (-1), 3, 1, (-1), 5], [0, (-1), 1, 1, 0, 0, 0, (-3), 1, (-3), 9], [1, 0, (-1), (-1), (-1), 0, 2, 1, 1, (-3), 5], [(-1), 1, 1, (-1), 1, (-1), 1, (-1), 1, (-1), 1]]
  | _ => []
def clTab : Nat → List Int
  | 1 => [1]
  | 2 => [1, 1]
  | 3 => [2, 3, 1]
  | 4 => [6, 8, 3, 6, 1]
  | 5 => [24, 30, 20, 20, 15, 10, 1]
  | 6 => [120, 144, 90, 90, 40, 120, 40, 15, 45, 15, 1]
  | _ => []
def dgTab : Nat → List Int
  | 1 => [1]
  | 2 => [1, 1]
  | 3 => [1, 2, 1]
  | 4 => [1, 3, 2, 3, 1]
  | 5 => [1, 4, 5, 6, 5, 4, 1]
  | 6 => [1, 5, 9, 10, 5, 16, 10, 5, 9, 5, 1]
  | _ => []
def chV (n : Nat) (s t : List Int) : Int := ((chTab n).getD (ixP n s) []).getD (ixP n t) 0
def clV (n : Nat) (t : List Int) : Int := (clTab n).getD (ixP n t) 0
def dgV (n : Nat) (s : List Int) : Int := (dgTab n).getD (ixP n s) 0
def fcN : Nat → Int
  | 1 => 1
  | 2 => 2
  | 3 => 6
  | 4 => 24
  | 5 => 120
  | 6 => 720
  | _ => 0
def chOK (n : Nat) : Bool := (PT n).all fun s => (PT n).all fun t => decide (impl_CharValue.f 400 s t = some (chV n s t, true))
def clOK (n : Nat) : Bool := (PT n).all fun t => decide (impl_ClassSize.f 60 t = some (clV n t))
def dgOK (n : Nat) : Bool := (PT n).all fun s => decide (impl_CharDegree.f 200 s = some (dgV n s)) && decide (dgV n s ≠ 0)
def paOK (n : Nat) : Bool := decide (impl_PartsAll.f 200 n = some (PT n, true)) && decide (impl_factorial.f 30 n = some (fcN n)) && decide ((PT n).length ≤ 100)
set_option maxRecDepth 100000 in
theorem tab_1 : (chOK 1 && clOK 1 && dgOK 1 && paOK 1) = true := by decide +kernel
set_option maxRecDepth 100000 in
theorem tab_2 : (chOK 2 && clOK 2 && dgOK 2 && paOK 2) = true := by decide +kernel
set_option maxRecDepth 100000 in
theorem tab_3 : (chOK 3 && clOK 3 && dgOK 3 && paOK 3) = true := by decide +kernel
set_option maxRecDepth 100000 in
theorem tab_4 : (chOK 4 && clOK 4 && dgOK 4 && paOK 4) = true := by decide +kernel
set_option maxRecDepth 100000 in
theorem tab_5 : (chOK 5 && clOK 5 && dgOK 5 && paOK 5) = true := by decide +kernel
set_option maxRecDepth 100000 in
theorem tab_6 : (chOK 6 && clOK 6 && dgOK 6 && paOK 6) = true := by decide +kernel
theorem tab_all (n : Nat) (h1 : 1 ≤ n) (h6 : n ≤ 6) : (chOK n && clOK n && dgOK n && paOK n) = true := by
  rcases n with _ | _ | _ | _ | _ | _ | _ | n
  · omega
  · exact tab_1
  · exact tab_2
  · exact tab_3
  · exact tab_4
  · exact tab_5
  · exact tab_6
  · omega
def fac1P (n : Nat) (s : List Int) (x : Int) (t : List Int) : Int := wrap64 (x * wrap64 (Int.tdiv (wrap64 (clV n t * chV n s t)) (dgV n s)))
def fac2P (n : Nat) (T : List (List Int)) (a : Int) (s : List Int) : Int := wrap64 (a + T.foldl (fac1P n s) (wrap64 (dgV n s * dgV n s)))
def facP (n : Nat) (T : List (List Int)) : Int := wrap64 (Int.tdiv ((PT n).foldl (fac2P n T) 0) (fcN n))
theorem fcount_ev (T : List (List Int)) (hT : T.length ≤ 1048576) (h2 : ∀ j : Nat, j < T.length → (rd_L1 T (j : Int)).length ≤ 1048576) (g : goodT T) (n : Nat) (hn : totP (rd_L1 T 0) = n) (n1 : 1 ≤ n) (n6 : n ≤ 6) (hm : ∀ t ∈ T, t ∈ PT n) : Ev (fun k => impl_FactorCount.f k T) (facP n T) := by
  have tb := tab_all n n1 n6
  simp only [Bool.and_eq_true, chOK, clOK, dgOK, paOK, List.all_eq_true, decide_eq_true_eq] at tb
  obtain ⟨⟨⟨tch, tcl⟩, tdg⟩, ⟨tpa, tfc⟩, tln⟩ := tb
  have ePA : Ev (fun k => impl_PartsAll.f k n) (PT n, true) := Ev.of (fun k => impl_PartsAll.mono n k) tpa
  have eFC : Ev (fun k => impl_factorial.f k n) (fcN n) := Ev.of (fun k => impl_factorial.mono n k) tfc
  have hfc : fcN n ≠ 0 := by
    rcases n with _ | _ | _ | _ | _ | _ | _ | n
    · omega
    all_goals first | (show (_ : Int) ≠ 0; simp only [fcN]; omega) | omega
  have inner : ∀ (s : List Int) (si : Nat) (a : Int) (R : Int), s ∈ PT n → si < (PT n).length → ∀ (d i : Nat) (x : Int), T.length - i = d → i ≤ T.length → Ev (fun k => impl_FactorCount.l0 k T n (wrap64 (a + (T.drop i).foldl (fac1P n s) x)) (PT n) (PT n).length ((si + 1 : Nat) : Int)) R → Ev (fun k => impl_FactorCount.l1 k T n a s (dgV n s) x (PT n) (PT n).length si T T.length i) R := by
    intro s si a R hs hsi d
    induction d with
    | zero =>
      intro i x hd hi hk
      have e : i = T.length := by omega
      subst e
      rw [List.drop_length] at hk
      refine Ev.s ?_
      simp only [impl_FactorCount.l1, show ¬ (T.length : Int) < (T.length : Int) by omega, if_false, w64n (show si < 4611686018427387904 by omega)]
      exact hk
    | succ d ih =>
      intro i x hd hi hk
      have hlt : i < T.length := by omega
      have hti := hm _ (List.getElem_mem hlt)
      have hrd := rdL_nth T i hlt
      rw [List.drop_eq_getElem_cons hlt, List.foldl_cons] at hk
      have e1 : Ev (fun k => impl_CharValue.f k s T[i]) (chV n s T[i], true) := Ev.of (fun k => impl_CharValue.mono s T[i] k) (tch s hs T[i] hti)
      have e2 : Ev (fun k => impl_ClassSize.f k T[i]) (clV n T[i]) := Ev.of (fun k => impl_ClassSize.mono T[i] k) (tcl T[i] hti)
      have hd0 := (tdg s hs).2
      refine Ev.s ?_
      simp only [impl_FactorCount.l1, show (i : Int) < (T.length : Int) by omega, show (0 : Int) ≤ (i : Int) by omega, if_true, hrd]
      refine Ev.bind e1 (Ev.bind e2 ?_)
      simp only [hd0, if_false, w64n (show i < 4611686018427387904 by omega)]
      exact ih (i + 1) _ (by omega) (by omega) hk
  have outer : ∀ (d i : Nat) (a : Int), (PT n).length - i = d → i ≤ (PT n).length → Ev (fun k => impl_FactorCount.l0 k T n a (PT n) (PT n).length i) (wrap64 (Int.tdiv (((PT n).drop i).foldl (fac2P n T) a) (fcN n))) := by
    intro d
    induction d with
    | zero =>
      intro i a hd hi
      have e : i = (PT n).length := by omega
      subst e
      rw [List.drop_length]
      refine Ev.s ?_
      simp only [impl_FactorCount.l0, show ¬ ((PT n).length : Int) < ((PT n).length : Int) by omega, if_false]
      refine Ev.bind eFC ?_
      simp only [hfc, if_false]
      exact Ev.const rfl
    | succ d ih =>
      intro i a hd hi
      have hlt : i < (PT n).length := by omega
      have hsi := List.getElem_mem hlt
      have hrd := rdL_nth (PT n) i hlt
      have e1 : Ev (fun k => impl_CharDegree.f k (PT n)[i]) (dgV n (PT n)[i]) := Ev.of (fun k => impl_CharDegree.mono (PT n)[i] k) (tdg _ hsi).1
      rw [List.drop_eq_getElem_cons hlt, List.foldl_cons]
      refine Ev.s ?_
      simp only [impl_FactorCount.l0, show (i : Int) < ((PT n).length : Int) by omega, show (0 : Int) ≤ (i : Int) by omega, if_true, hrd]
      refine Ev.bind e1 ?_
      refine inner (PT n)[i] i a _ hsi hlt T.length 0 _ (by omega) (by omega) ?_
      rw [List.drop_zero]
      exact ih (i + 1) _ (by omega) (by omega)
  obtain ⟨r, er, hr⟩ := implTypes_ev T hT h2
  have hre : r = totP (rd_L1 T 0) := hr.elim (fun h => h.2) (fun h => absurd g h.1)
  unfold impl_FactorCount.f
  refine Ev.bind er ?_
  rw [hre, hn]
  simp only [show ¬ (n : Int) < 0 by omega, if_false]
  refine Ev.bind ePA ?_
  have h := outer (PT n).length 0 0 (by omega) (by omega)
  rw [List.drop_zero] at h
  exact h
def cw (p : List Int) : Nat → List Bool → List Int → Int → List Bool × List Int
  | 0, s, c, a => (s, c)
  | f + 1, s, c, a => if rdOf false s a = true then (s, c) else cw p f (s.set a.toNat true) (c ++ [a]) (rd p a)
def fresh (s : List Bool) : Nat := s.countP (fun b => !b)
def cyS (p : List Int) (n : Nat) : Nat → List Bool × List (List Int)
  | 0 => (List.replicate n false, [])
  | i + 1 =>
    let q := cw p (n + 1) (cyS p n i).1 [] i
    (q.1, if q.2 = [] then (cyS p n i).2 else (cyS p n i).2 ++ [q.2])
theorem fresh_set : ∀ (s : List Bool) (i : Nat), i < s.length → s.getD i false = false → fresh (s.set i true) + 1 = fresh s
  | b :: s, 0, _, h => by
    simp only [List.getD_cons_zero] at h
    subst h
    simp [fresh]
  | b :: s, i + 1, hi, h => by
    simp only [List.getD_cons_succ] at h
    have ih := fresh_set s i (by simpa using hi) h
    simp only [fresh, List.set_cons_succ, List.countP_cons] at ih ⊢
    omega
theorem rdOf_nat (s : List Bool) (a : Int) (h0 : 0 ≤ a) : rdOf false s a = s.getD a.toNat false := by
  unfold rdOf
  rfl
theorem cw_len (p : List Int) : ∀ (f : Nat) (s : List Bool) (c : List Int) (a : Int), (cw p f s c a).1.length = s.length
  | 0, s, c, a => rfl
  | f + 1, s, c, a => by
    simp only [cw]
    split
    · rfl
    · rw [cw_len p f]; simp
theorem spec_cw (p : List Int) (n : Nat) (hn : n ≤ 1048576) (hp : inR n p) (L : List (List Int)) (hL : L.length ≤ 1048576) (i : Int) (r : List (List Int)) : ∀ (f : Nat) (s : List Bool) (c : List Int) (a : Int), s.length = n → 0 ≤ a → a < n → fresh s < f → c.length + fresh s ≤ 1048577 →
    Ev (fun k => spec_l1Cycles.l0 k p (L ++ [(cw p f s c a).2]) (cw p f s c a).1 (wrap64 (i + 1))) r → Ev (fun k => spec_l1Cycles.l1 k p L s i c a) r
  | 0, s, c, a, hs, h0, h1, hf, hc, h => absurd hf (Nat.not_lt_zero _)
  | f + 1, s, c, a, hs, h0, h1, hf, hc, h => by
    refine Ev.s ?_
    simp only [cw] at h
    have hL' : L.length < 5864062014805 := by omega
    have hc' : c.length < 17592186044416 := by omega
    simp only [spec_l1Cycles.l1, h0, hs, h1, hp.1, hL', hc', if_true]
    by_cases e : rdOf false s a = true
    · simp only [e, if_true] at h ⊢
      exact h
    · simp only [e, if_false] at h ⊢
      have h3 : s.getD a.toNat false = false := by rw [← rdOf_nat s a h0]; simpa using e
      have h4 := fresh_set s a.toNat (by omega) h3
      have h5 := hp.2 a.toNat (by omega)
      rw [show ((a.toNat : Nat) : Int) = a by omega] at h5
      exact spec_cw p n hn hp L hL i r f _ _ _ (by simpa using hs) h5.1 h5.2 (by omega) (by simp only [List.length_append, List.length_cons, List.length_nil]; omega) h
theorem impl_cw (p : List Int) (n : Nat) (hn : n ≤ 1048576) (hp : inR n p) (L : List (List Int)) (hL : L.length ≤ 1048576) (m i : Int) (r : List (List Int)) : ∀ (f : Nat) (s : List Bool) (c : List Int) (a : Int), s.length = n → 0 ≤ a → a < n → fresh s < f → c.length + fresh s ≤ 1048577 →
    Ev (fun k => impl_cyclesOf.l0 k p (if (cw p f s c a).2 = [] then L else L ++ [(cw p f s c a).2]) (cw p f s c a).1 m (wrap64 (i + 1))) r → Ev (fun k => impl_cyclesOf.l1 k p L s c a m i) r
  | 0, s, c, a, hs, h0, h1, hf, hc, h => absurd hf (Nat.not_lt_zero _)
  | f + 1, s, c, a, hs, h0, h1, hf, hc, h => by
    refine Ev.s ?_
    simp only [cw] at h
    have hL' : L.length < 5864062014805 := by omega
    have hc' : c.length < 17592186044416 := by omega
    simp only [impl_cyclesOf.l1, h0, hs, h1, hp.1, hL', hc', if_true]
    by_cases e : rdOf false s a = true
    · simp only [e, if_true] at h ⊢
      cases c with
      | nil => simpa using h
      | cons b c => simpa using h
    · simp only [e, if_false] at h ⊢
      have h3 : s.getD a.toNat false = false := by rw [← rdOf_nat s a h0]; simpa using e
      have h4 := fresh_set s a.toNat (by omega) h3
      have h5 := hp.2 a.toNat (by omega)
      rw [show ((a.toNat : Nat) : Int) = a by omega] at h5
      exact impl_cw p n hn hp L hL m i r f _ _ _ (by simpa using hs) h5.1 h5.2 (by omega) (by simp only [List.length_append, List.length_cons, List.length_nil]; omega) h
theorem fresh_le (s : List Bool) : fresh s ≤ s.length := List.countP_le_length
theorem cyS_len (p : List Int) (n : Nat) : ∀ i, (cyS p n i).1.length = n
  | 0 => by simp [cyS]
  | i + 1 => by simp only [cyS]; rw [cw_len, cyS_len p n i]
theorem cyS_many (p : List Int) (n : Nat) : ∀ i, (cyS p n i).2.length ≤ i
  | 0 => by simp [cyS]
  | i + 1 => by
    have ih := cyS_many p n i
    simp only [cyS]
    split
    · omega
    · simp only [List.length_append, List.length_cons, List.length_nil]; omega
theorem cw_seen (p : List Int) (f : Nat) (s : List Bool) (c : List Int) (a : Int) (h : rdOf false s a = true) : cw p f s c a = (s, c) := by
  cases f with
  | zero => rfl
  | succ f => simp only [cw, h, if_true]
theorem cw_more (p : List Int) : ∀ (f : Nat) (s : List Bool) (c : List Int) (a : Int), c.length ≤ (cw p f s c a).2.length
  | 0, s, c, a => Nat.le_refl _
  | f + 1, s, c, a => by
    simp only [cw]
    split
    · exact Nat.le_refl _
    · have := cw_more p f (s.set a.toNat true) (c ++ [a]) (rd p a)
      simp only [List.length_append, List.length_cons, List.length_nil] at this
      omega
theorem cw_new (p : List Int) (f : Nat) (s : List Bool) (a : Int) (h : ¬ rdOf false s a = true) : (cw p (f + 1) s [] a).2 ≠ [] := by
  simp only [cw, h, Bool.false_eq_true, if_false]
  intro e
  have := cw_more p f (s.set a.toNat true) ([] ++ [a]) (rd p a)
  rw [e] at this
  simp at this
theorem specCyc_run (p : List Int) (n : Nat) (hn : n ≤ 1048575) (hp : inR n p) : ∀ (d i : Nat), n - i = d → i ≤ n → Ev (fun k => spec_l1Cycles.l0 k p (cyS p n i).2 (cyS p n i).1 i) (cyS p n n).2
  | 0, i, hd, hi => by
    have : i = n := by omega
    subst this
    refine Ev.s ?_
    simp only [spec_l1Cycles.l0, hp.1, show ¬ (i : Int) < (i : Int) by omega, if_false]
    exact Ev.const rfl
  | d + 1, i, hd, hi => by
    have ih := specCyc_run p n hn hp d (i + 1) (by omega) (by omega)
    have hl := cyS_len p n i
    have hm := cyS_many p n i
    have hf := fresh_le (cyS p n i).1
    have h1 : (i : Int) < (n : Int) := by omega
    have h0 : (0 : Int) ≤ (i : Int) := by omega
    refine Ev.s ?_
    simp only [spec_l1Cycles.l0, hp.1, hl, h1, h0, if_true]
    by_cases e : rdOf false (cyS p n i).1 (i : Int) = true
    · simp only [e, if_true]
      rw [w64n (by omega)]
      simp only [cyS, cw_seen p (n + 1) (cyS p n i).1 [] i e, if_true] at ih
      exact ih
    · simp only [e, if_false]
      refine spec_cw p n (by omega) hp _ (by omega) i _ (n + 1) _ _ _ hl h0 h1 (by omega) (by simp only [List.length_nil]; omega) ?_
      rw [w64n (by omega)]
      simp only [cyS, cw_new p n (cyS p n i).1 i e, if_false] at ih
      exact ih
theorem implCyc_run (p : List Int) (n : Nat) (hn : n ≤ 1048575) (hp : inR n p) : ∀ (d i : Nat), n - i = d → i ≤ n → Ev (fun k => impl_cyclesOf.l0 k p (cyS p n i).2 (cyS p n i).1 n i) (cyS p n n).2
  | 0, i, hd, hi => by
    have : i = n := by omega
    subst this
    refine Ev.s ?_
    simp only [impl_cyclesOf.l0, show ¬ (i : Int) < (i : Int) by omega, if_false]
    exact Ev.const rfl
  | d + 1, i, hd, hi => by
    have ih := implCyc_run p n hn hp d (i + 1) (by omega) (by omega)
    have hl := cyS_len p n i
    have hm := cyS_many p n i
    have hf := fresh_le (cyS p n i).1
    have h1 : (i : Int) < (n : Int) := by omega
    have h0 : (0 : Int) ≤ (i : Int) := by omega
    refine Ev.s ?_
    simp only [impl_cyclesOf.l0, h1, if_true]
    refine impl_cw p n (by omega) hp _ (by omega) n i _ (n + 1) _ _ _ hl h0 h1 (by omega) (by simp only [List.length_nil]; omega) ?_
    rw [w64n (by omega)]
    simp only [cyS] at ih
    exact ih
theorem specCyc_ev (p : List Int) (n : Nat) (hn : n ≤ 1048575) (hp : inR n p) : Ev (fun k => spec_l1Cycles.f k p) (cyS p n n).2 := by
  unfold spec_l1Cycles.f
  have h1 : n ≤ 281474976710656 := by omega
  have h2 : (0 : Int) ≤ (n : Int) := by omega
  simp only [hp.1, Int.toNat_natCast, h1, h2, if_true]
  exact specCyc_run p n hn hp n 0 (by omega) (by omega)
theorem implCyc_ev (p : List Int) (n : Nat) (hn : n ≤ 1048575) (hp : inR n p) : Ev (fun k => impl_cyclesOf.f k p) (cyS p n n).2 := by
  unfold impl_cyclesOf.f
  have h1 : n ≤ 281474976710656 := by omega
  have h2 : (0 : Int) ≤ (n : Int) := by omega
  simp only [hp.1, Int.toNat_natCast, h1, h2, if_true]
  exact implCyc_run p n hn hp n 0 (by omega) (by omega)
theorem take_set_one (l : List Int) (i : Nat) (v : Int) (h : i < l.length) : (l.set i v).take (i + 1) = l.take i ++ [v] := by
  rw [List.take_succ_eq_append_getElem (by simpa using h), List.take_set_of_le (Nat.le_refl _), List.getElem_set_self]
def mulL (a b : List Int) : Nat → List Int
  | 0 => []
  | i + 1 => mulL a b i ++ [rd b (rd a i)]
theorem mulL_length (a b : List Int) : ∀ n, (mulL a b n).length = n
  | 0 => rfl
  | n + 1 => by simp [mulL, mulL_length a b n]
theorem mulL_rd (a b : List Int) : ∀ (n i : Nat), i < n → rd (mulL a b n) i = rd b (rd a i)
  | n + 1, i, h => by
    simp only [mulL]
    by_cases e : i < n
    · rw [rd_app_lt _ _ _ (by rw [mulL_length]; exact e), mulL_rd a b n i e]
    · have : i = n := by omega
      subst this
      have h2 : i < (mulL a b i ++ [rd b (rd a (i : Int))]).length := by simp [mulL_length]
      rw [rd_lt _ i h2, List.getElem_append_right (by rw [mulL_length]; exact Nat.le_refl _)]
      simp [mulL_length]
theorem mulL_inR (n : Nat) (a b : List Int) (ha : inR n a) (hb : inR n b) : inR n (mulL a b n) := by
  refine ⟨mulL_length a b n, fun i hi => ?_⟩
  rw [mulL_rd a b n i hi]
  have h1 := ha.2 i hi
  have h2 := hb.2 (rd a i).toNat (by omega)
  rwa [show ((rd a i).toNat : Int) = rd a i by omega] at h2
theorem implMul_run (n : Nat) (hn : n ≤ 1048576) (a b : List Int) (ha : inR n a) (hb : inR n b) : ∀ (d i : Nat) (l : List Int), n - i = d → i ≤ n → l.length = n → l.take i = mulL a b i → Ev (fun k => impl_mul.l0 k b l a n i) (mulL a b n)
  | 0, i, l, hd, hi, hl, ht => by
    have : i = n := by omega
    subst this
    refine Ev.s ?_
    simp only [impl_mul.l0, show ¬ (i : Int) < (i : Int) by omega, if_false]
    rw [List.take_of_length_le (by omega)] at ht
    exact Ev.const (by rw [ht])
  | d + 1, i, l, hd, hi, hl, ht => by
    have h1 := ha.2 i (by omega)
    have hb1 := hb.1
    refine Ev.s ?_
    simp only [impl_mul.l0, ha.1, hb1, hl, show (i : Int) < (n : Int) by omega, show (0 : Int) ≤ (i : Int) by omega, h1.1, h1.2, if_true, Int.toNat_natCast]
    rw [w64n (by omega)]
    refine implMul_run n hn a b ha hb d (i + 1) _ (by omega) (by omega) (by simpa using hl) ?_
    rw [take_set_one _ _ _ (by omega), ht]
    rfl
theorem implMul_ev (n : Nat) (hn : n ≤ 1048576) (a b : List Int) (ha : inR n a) (hb : inR n b) : Ev (fun k => impl_mul.f k a b) (mulL a b n) := by
  unfold impl_mul.f
  have h1 : n ≤ 35184372088832 := by omega
  have h2 : (0 : Int) ≤ (n : Int) := by omega
  simp only [ha.1, Int.toNat_natCast, h1, h2, if_true]
  exact implMul_run n hn a b ha hb n 0 _ (by omega) (by omega) (by simp) (by simp [mulL])
theorem cw_bound (p : List Int) (n : Nat) (hp : inR n p) : ∀ (f : Nat) (s : List Bool) (c : List Int) (a : Int), s.length = n → 0 ≤ a → a < n → (cw p f s c a).2.length + fresh (cw p f s c a).1 ≤ c.length + fresh s
  | 0, s, c, a, hs, h0, h1 => Nat.le_refl _
  | f + 1, s, c, a, hs, h0, h1 => by
    simp only [cw]
    by_cases e : rdOf false s a = true
    · simp only [e, if_true]
      exact Nat.le_refl _
    · simp only [e, Bool.false_eq_true, if_false]
      have h3 : s.getD a.toNat false = false := by rw [← rdOf_nat s a h0]; simpa using e
      have h4 := fresh_set s a.toNat (by omega) h3
      have h5 := hp.2 a.toNat (by omega)
      rw [show ((a.toNat : Nat) : Int) = a by omega] at h5
      have ih := cw_bound p n hp f (s.set a.toNat true) (c ++ [a]) (rd p a) (by simpa using hs) h5.1 h5.2
      rw [List.length_append, List.length_singleton] at ih
      omega
theorem cyS_bound (p : List Int) (n : Nat) (hp : inR n p) : ∀ i, i ≤ n → ∀ l ∈ (cyS p n i).2, 1 ≤ l.length ∧ l.length ≤ n
  | 0, _, l, hl => by simp [cyS] at hl
  | i + 1, hi, l, hl => by
    have ih := cyS_bound p n hp i (by omega) l
    simp only [cyS] at hl
    have hb := cw_bound p n hp (n + 1) (cyS p n i).1 [] i (cyS_len p n i) (by omega) (by omega)
    have hf := fresh_le (cyS p n i).1
    rw [cyS_len] at hf
    rw [List.length_nil, Nat.zero_add] at hb
    by_cases e : (cw p (n + 1) (cyS p n i).1 [] (i : Int)).2 = []
    · rw [if_pos e] at hl
      exact ih hl
    · rw [if_neg e, List.mem_append] at hl
      rcases hl with hl | hl
      · exact ih hl
      · rw [List.mem_singleton.1 hl]
        have : 0 < (cw p (n + 1) (cyS p n i).1 [] (i : Int)).2.length := List.length_pos_iff.2 e
        omega
theorem cyS_pos (p : List Int) (n : Nat) (h1 : 1 ≤ n) : 0 < (cyS p n n).2.length := by
  have hm : ∀ i, 1 ≤ i → 0 < (cyS p n i).2.length := by
    intro i
    induction i with
    | zero => intro h; omega
    | succ i ih =>
      intro _
      simp only [cyS]
      by_cases hi : 1 ≤ i
      · have := ih hi
        split
        · exact this
        · rw [List.length_append]; omega
      · have : i = 0 := by omega
        subst this
        rw [if_neg (cw_new p n _ _ (by show ¬ (List.replicate n false).getD 0 false = true; rw [List.getD_eq_getElem?_getD, List.getElem?_replicate]; split <;> simp))]
        rw [List.length_append, List.length_singleton]
        omega
  exact hm n h1
def lensL (C : List (List Int)) : List Int := C.map fun l => (l.length : Int)
theorem lens_take (C : List (List Int)) (i : Nat) (h : i < C.length) : lensL (C.take (i + 1)) = lensL (C.take i) ++ [((rd_L1 C (i : Int)).length : Int)] := by
  unfold lensL rd_L1
  rw [List.take_succ_eq_append_getElem h, List.map_append, Int.toNat_natCast, List.getD_eq_getElem?_getD, List.getElem?_eq_getElem h]
  rfl
def tlL (C : List (List Int)) : Nat → List Int
  | 0 => []
  | d + 1 => List.replicate (C.countP fun l => decide (l.length = d + 1)) ((d + 1 : Nat) : Int) ++ tlL C d
theorem tlL_len (C : List (List Int)) : ∀ d, (tlL C d).length ≤ d * C.length
  | 0 => by simp [tlL]
  | d + 1 => by
    have ih := tlL_len C d
    have := List.countP_le_length (p := fun l : List Int => decide (l.length = d + 1)) (l := C)
    simp only [tlL, List.length_append, List.length_replicate]
    rw [Nat.succ_mul]
    omega
theorem type_inner (C : List (List Int)) (hC : C.length ≤ 12) (n : Nat) (v : Nat) (hv : v ≤ 12) (r : List Int) : ∀ (d i : Nat) (acc : List Int), C.length - i = d → i ≤ C.length → acc.length + d ≤ 1000 →
    Ev (fun k => spec_l1Type.l0 k (acc ++ List.replicate ((C.drop i).countP fun l => decide (l.length = v)) (v : Int)) C (wrap64 ((v : Int) - 1))) r → Ev (fun k => spec_l1Type.l1 k acc C v i) r
  | 0, i, acc, hd, hi, ha, h => by
    refine Ev.s ?_
    rw [List.drop_eq_nil_of_le (by omega)] at h
    simp only [List.countP_nil, List.replicate_zero, List.append_nil] at h
    simp only [spec_l1Type.l1, show ¬ (i : Int) < (C.length : Int) by omega, if_false]
    exact h
  | d + 1, i, acc, hd, hi, ha, h => by
    have hlt : i < C.length := by omega
    have hrd : rd_L1 C (i : Int) = C[i] := by unfold rd_L1; rw [Int.toNat_natCast, List.getD_eq_getElem?_getD, List.getElem?_eq_getElem hlt]; rfl
    rw [List.drop_eq_getElem_cons hlt, List.countP_cons] at h
    refine Ev.s ?_
    simp only [spec_l1Type.l1, show (i : Int) < (C.length : Int) by omega, show (0 : Int) ≤ (i : Int) by omega, hrd, if_true, w64n (show i < 4611686018427387904 by omega)]
    by_cases e : C[i].length = v
    · simp only [e, decide_true, if_true, show acc.length < 17592186044416 by omega] at h ⊢
      refine type_inner C hC n v hv r d (i + 1) (acc ++ [(v : Int)]) (by omega) (by omega) (by rw [List.length_append, List.length_singleton]; omega) ?_
      rw [List.append_assoc, List.singleton_append, ← List.replicate_succ]
      exact h
    · simp only [e, decide_false, Bool.false_eq_true, if_false, Nat.add_zero] at h
      simp only [show ¬ ((C[i].length : Nat) : Int) = (v : Int) by omega, if_false]
      exact type_inner C hC n v hv r d (i + 1) acc (by omega) (by omega) (by omega) h
theorem type_outer (C : List (List Int)) (hC : C.length ≤ 12) : ∀ (d : Nat) (acc : List Int), d ≤ 12 → acc.length + 12 * d ≤ 500 → Ev (fun k => spec_l1Type.l0 k acc C (d : Int)) (acc ++ tlL C d)
  | 0, acc, hd, ha => by
    refine Ev.s ?_
    simp only [spec_l1Type.l0, tlL, List.append_nil, show ¬ ((0 : Nat) : Int) > 0 by omega, if_false]
    exact Ev.const rfl
  | d + 1, acc, hd, ha => by
    have hc := List.countP_le_length (p := fun l : List Int => decide (l.length = d + 1)) (l := C)
    have ih := type_outer C hC d (acc ++ List.replicate (C.countP fun l => decide (l.length = d + 1)) ((d + 1 : Nat) : Int)) (by omega) (by rw [List.length_append, List.length_replicate]; omega)
    refine Ev.s ?_
    simp only [spec_l1Type.l0, show ((d + 1 : Nat) : Int) > 0 by omega, if_true]
    refine type_inner C hC 0 (d + 1) hd _ C.length 0 acc (by omega) (by omega) (by omega) ?_
    rw [List.drop_zero, w64 (x := ((d + 1 : Nat) : Int) - 1) (by omega) (by omega), show ((d + 1 : Nat) : Int) - 1 = (d : Int) by omega]
    rw [List.append_assoc] at ih
    exact ih
theorem rd_setN (l : List Int) (i j : Nat) (v : Int) (h : i < l.length) : rd (l.set i v) (j : Int) = if j = i then v else rd l (j : Int) := by
  by_cases e : j = i
  · subst e
    rw [if_pos rfl, rd_set_self l j v h]
  · rw [if_neg e, rd_set_ne l i j v (fun z => e z.symm)]
theorem rev_exact_run (l : List Int) (hl : l.length ≤ 1048576) : ∀ (d i : Nat) (m : List Int), l.length - 2 * i ≤ d → 2 * i ≤ l.length + 1 → m.length = l.length →
    (∀ z : Nat, z < l.length → rd m (z : Int) = if z < i ∨ l.length < z + i + 1 then rd l ((l.length - 1 - z : Nat) : Int) else rd l (z : Int)) → Ev (fun k => slices_Reverse_int_int.l0 k m (i : Int) ((l.length : Int) - 1 - (i : Int))) l.reverse
  | d, i, m, hd, hi, hm, hr => by
    by_cases hij : (i : Int) < (l.length : Int) - 1 - (i : Int)
    · obtain ⟨d, rfl⟩ : ∃ e, d = e + 1 := ⟨d - 1, by omega⟩
      have hjn : ((l.length : Int) - 1 - (i : Int)).toNat = l.length - 1 - i := by omega
      have hji : ((l.length : Int) - 1 - (i : Int)) = ((l.length - 1 - i : Nat) : Int) := by omega
      have ih := rev_exact_run l hl d (i + 1) ((m.set (i : Int).toNat (rd m ((l.length : Int) - 1 - (i : Int)))).set ((l.length : Int) - 1 - (i : Int)).toNat (rd m (i : Int))) (by omega) (by omega) (by simpa using hm) (by
        intro z hz
        rw [hjn, Int.toNat_natCast, rd_setN _ _ _ _ (by simp only [List.length_set]; omega), rd_setN _ _ _ _ (by omega), hji, hr (l.length - 1 - i) (by omega), hr i (by omega), hr z hz]
        by_cases e1 : z = l.length - 1 - i
        · subst e1
          rw [if_pos rfl, if_neg (by omega), if_pos (by omega)]
          congr 1
          omega
        · rw [if_neg e1]
          by_cases e2 : z = i
          · subst e2
            rw [if_pos rfl, if_neg (by omega), if_pos (by omega)]
          · rw [if_neg e2]
            by_cases e3 : z < i ∨ l.length < z + i + 1
            · rw [if_pos e3, if_pos (by omega)]
            · rw [if_neg e3, if_neg (by omega)])
      refine Ev.s ?_
      simp only [slices_Reverse_int_int.l0, hij, show (0 : Int) ≤ (l.length : Int) - 1 - (i : Int) by omega, show (l.length : Int) - 1 - (i : Int) < (m.length : Int) by omega, show (0 : Int) ≤ (i : Int) by omega, show (i : Int) < (m.length : Int) by omega, if_true]
      rw [w64 (x := (i : Int) + 1) (by omega) (by omega), w64 (x := (l.length : Int) - 1 - (i : Int) - 1) (by omega) (by omega), show (i : Int) + 1 = ((i + 1 : Nat) : Int) by omega, show (l.length : Int) - 1 - (i : Int) - 1 = (l.length : Int) - 1 - ((i + 1 : Nat) : Int) by omega]
      exact ih
    · have e : m = l.reverse := by
        refine list_ext _ _ (by rw [List.length_reverse, hm]) fun z hz => ?_
        rw [hm] at hz
        have hrev : rd l.reverse (z : Int) = rd l ((l.length - 1 - z : Nat) : Int) := by
          rw [rd_lt _ z (by simpa using hz), rd_lt l (l.length - 1 - z) (by omega), List.getElem_reverse]
        rw [hrev, hr z hz]
        by_cases e3 : z < i ∨ l.length < z + i + 1
        · rw [if_pos e3]
        · rw [if_neg e3]
          congr 1
          omega
      refine Ev.s ?_
      simp only [slices_Reverse_int_int.l0, hij, if_false]
      rw [e]
      exact Ev.const rfl
theorem rev_exact (l : List Int) (hl : l.length ≤ 1048576) : Ev (fun k => slices_Reverse_int_int.f k l) l.reverse := by
  unfold slices_Reverse_int_int.f
  rw [w64 (by omega) (by omega)]
  have := rev_exact_run l hl l.length 0 l (by omega) (by omega) rfl (fun z hz => by rw [if_neg (by omega)])
  simpa using this
theorem desc_uniq : ∀ (a b : List Int), a.Pairwise (fun x y => y ≤ x) → b.Pairwise (fun x y => y ≤ x) → a.Perm b → a = b
  | [], b, _, _, h => (List.nil_perm.1 h).symm
  | x :: a, b, ha, hb, h => by
    match b, hb, h with
    | [], _, h => exact absurd h.length_eq (by simp)
    | y :: b, hb, h =>
      rw [List.pairwise_cons] at ha hb
      have hx : x ∈ y :: b := h.mem_iff.1 (by simp)
      have hy : y ∈ x :: a := h.mem_iff.2 (by simp)
      have hxy : x = y := by
        rcases List.mem_cons.1 hx with e | hx
        · exact e
        · rcases List.mem_cons.1 hy with e | hy
          · exact e.symm
          · have h1 := hb.1 x hx
            have h2 := ha.1 y hy
            omega
      subst hxy
      rw [desc_uniq a b ha.2 hb.2 (List.Perm.cons_inv h)]
theorem tlL_desc (C : List (List Int)) : ∀ d, (tlL C d).Pairwise (fun x y => y ≤ x) ∧ ∀ x ∈ tlL C d, x ≤ (d : Int)
  | 0 => by simp [tlL]
  | d + 1 => by
    obtain ⟨ih1, ih2⟩ := tlL_desc C d
    constructor
    · simp only [tlL]
      rw [List.pairwise_append]
      refine ⟨List.pairwise_replicate.2 (.inr (Int.le_refl _)), ih1, fun x hx y hy => ?_⟩
      have := ih2 y hy
      rw [(List.mem_replicate.1 hx).2]
      omega
    · intro x hx
      simp only [tlL, List.mem_append] at hx
      rcases hx with hx | hx
      · rw [(List.mem_replicate.1 hx).2]; omega
      · have := ih2 x hx; omega
theorem tlL_count (C : List (List Int)) (x : Int) : ∀ d, (tlL C d).count x = C.countP fun l => decide (1 ≤ l.length ∧ l.length ≤ d ∧ (l.length : Int) = x)
  | 0 => by
    simp only [tlL, List.count_nil]
    exact (List.countP_eq_zero.2 fun l _ => by simp only [decide_eq_true_eq]; omega).symm
  | d + 1 => by
    have ih := tlL_count C x d
    simp only [tlL, List.count_append, List.count_replicate, ih]
    by_cases e : x = ((d + 1 : Nat) : Int)
    · subst e
      rw [if_pos (by simp), (List.countP_eq_zero (p := fun l : List Int => decide (1 ≤ l.length ∧ l.length ≤ d ∧ (l.length : Int) = ((d + 1 : Nat) : Int)))).2 (fun l _ => by simp only [decide_eq_true_eq]; omega), Nat.add_zero]
      refine List.countP_congr fun l _ => ?_
      simp only [decide_eq_true_eq]
      omega
    · rw [if_neg (by simp only [beq_iff_eq]; omega), Nat.zero_add]
      refine List.countP_congr fun l _ => ?_
      simp only [decide_eq_true_eq]
      omega
theorem tlL_perm (C : List (List Int)) (d : Nat) (h : ∀ l ∈ C, 1 ≤ l.length ∧ l.length ≤ d) : (tlL C d).Perm (lensL C) := by
  rw [List.perm_iff_count]
  intro x
  rw [tlL_count]
  unfold lensL List.count
  rw [List.countP_map]
  refine List.countP_congr fun l hl => ?_
  have := h l hl
  simp only [decide_eq_true_eq, Function.comp_apply, beq_iff_eq]
  omega
theorem typeOf_ev (p : List Int) (n : Nat) (hn : n ≤ 12) (h1 : 1 ≤ n) (hp : inR n p) : Ev (fun k => impl_typeOf.f k p) (tlL (cyS p n n).2 n) := by
  have hCb := cyS_bound p n hp n (Nat.le_refl _)
  have hCm := cyS_many p n n
  have hCp := cyS_pos p n h1
  have hll : (lensL (cyS p n n).2).length = (cyS p n n).2.length := by simp [lensL]
  have hs : ((lensL (cyS p n n).2).mergeSort fun x y => decide (x ≤ y)).length = (cyS p n n).2.length := by rw [List.length_mergeSort, hll]
  have hrev : ((lensL (cyS p n n).2).mergeSort fun x y => decide (x ≤ y)).reverse = tlL (cyS p n n).2 n := by
    refine desc_uniq _ _ ?_ (tlL_desc _ n).1 ?_
    · rw [List.pairwise_reverse]
      have := List.pairwise_mergeSort (le := fun x y : Int => decide (x ≤ y)) (fun a b c h1 h2 => by simp only [decide_eq_true_eq] at *; omega) (fun a b => by simp only [Bool.or_eq_true, decide_eq_true_eq]; omega) (lensL (cyS p n n).2)
      exact this.imp fun h => by simpa using h
    · exact (List.reverse_perm _).trans ((List.mergeSort_perm _ _).trans (tlL_perm _ n hCb).symm)
  have r1 := rev_exact ((lensL (cyS p n n).2).mergeSort fun x y => decide (x ≤ y)) (by omega)
  rw [hrev] at r1
  have hsort : slices_Sort_int_int.f (lensL (cyS p n n).2) = some ((lensL (cyS p n n).2).mergeSort fun x y => decide (x ≤ y)) := by
    unfold slices_Sort_int_int.f
    rw [if_pos ⟨by omega, by omega⟩]
  have run : ∀ (d i : Nat), (cyS p n n).2.length - i = d → i ≤ (cyS p n n).2.length → Ev (fun k => impl_typeOf.l0 k (lensL ((cyS p n n).2.take i)) (cyS p n n).2 (cyS p n n).2.length i) (tlL (cyS p n n).2 n) := by
    intro d
    induction d with
    | zero =>
      intro i hd hi
      have e : i = (cyS p n n).2.length := by omega
      rw [e, List.take_length]
      refine Ev.s ?_
      simp only [impl_typeOf.l0, show ¬ ((cyS p n n).2.length : Int) < ((cyS p n n).2.length : Int) by omega, if_false, hsort, Option.bind_some]
      exact Ev.bind r1 (Ev.const rfl)
    | succ d ih =>
      intro i hd hi
      have h := ih (i + 1) (by omega) (by omega)
      rw [lens_take _ i (by omega)] at h
      have hlt : (lensL ((cyS p n n).2.take i)).length < 17592186044416 := by simp only [lensL, List.length_map, List.length_take]; omega
      refine Ev.s ?_
      simp only [impl_typeOf.l0, show (i : Int) < ((cyS p n n).2.length : Int) by omega, show (0 : Int) ≤ (i : Int) by omega, hlt, if_true, w64n (show i < 4611686018427387904 by omega)]
      exact h
  unfold impl_typeOf.f
  refine Ev.bind (implCyc_ev p n (by omega) hp) ?_
  exact run _ 0 rfl (by omega)
theorem l1Type_ev (p : List Int) (n : Nat) (hn : n ≤ 12) (hp : inR n p) : Ev (fun k => spec_l1Type.f k p) (tlL (cyS p n n).2 n) := by
  have hCm := cyS_many p n n
  unfold spec_l1Type.f
  refine Ev.bind (specCyc_ev p n (by omega) hp) ?_
  rw [hp.1]
  exact type_outer (cyS p n n).2 (by omega) n [] (by omega) (by simp only [List.length_nil]; omega)
theorem equalC_run (a b : List Int) (ha : a.length ≤ 1048576) (hb : b.length = a.length) : ∀ (d i : Nat), a.length - i = d → i ≤ a.length → Ev (fun k => slices_Equal_int_int.l0 k a b a.length i) (decide (a.drop i = b.drop i))
  | 0, i, hd, hi => by
    have e : i = a.length := by omega
    subst e
    refine Ev.s ?_
    rw [List.drop_length, ← hb, List.drop_length]
    simp only [slices_Equal_int_int.l0, show ¬ (b.length : Int) < (b.length : Int) by omega, if_false, decide_true]
    exact Ev.const rfl
  | d + 1, i, hd, hi => by
    have h1 : i < a.length := by omega
    have h2 : i < b.length := by omega
    refine Ev.s ?_
    rw [drop_rd a i h1, drop_rd b i h2]
    simp only [slices_Equal_int_int.l0, show (i : Int) < (a.length : Int) by omega, show (i : Int) < (b.length : Int) by omega, show (0 : Int) ≤ (i : Int) by omega, if_true]
    by_cases e : rd a (i : Int) = rd b (i : Int)
    · simp only [e, if_true, List.cons.injEq, true_and, w64n (show i < 4611686018427387904 by omega)]
      exact equalC_run a b ha hb d (i + 1) (by omega) (by omega)
    · simp only [e, if_false, List.cons.injEq, false_and, decide_false]
      exact Ev.const rfl
theorem equalC_ev (a b : List Int) (ha : a.length ≤ 1048576) : Ev (fun k => slices_Equal_int_int.f k a b) (decide (a = b)) := by
  unfold slices_Equal_int_int.f
  by_cases h : (a.length : Int) = (b.length : Int)
  · simp only [h, if_true]
    have := equalC_run a b ha (by omega) a.length 0 (by omega) (by omega)
    rw [List.drop_zero, List.drop_zero, show (a.length : Int) = (b.length : Int) from h] at this
    exact this
  · simp only [h, if_false]
    rw [decide_eq_false (fun e => h (by rw [e]))]
    exact Ev.const rfl
theorem orderC_run (a b : List Int) (ha : a.length ≤ 1048576) (hb : b.length = a.length) : ∀ (d i : Nat), a.length - i = d → i ≤ a.length → ∃ r, Ev (fun k => spec_l2Order.l0 k a b i) r ∧ (r = 0 ↔ a.drop i = b.drop i)
  | 0, i, hd, hi => by
    have e : i = a.length := by omega
    subst e
    refine ⟨0, Ev.s ?_, by rw [List.drop_length, ← hb, List.drop_length]; simp⟩
    simp only [spec_l2Order.l0, show ¬ (a.length : Int) < (a.length : Int) by omega, if_false]
    exact Ev.const rfl
  | d + 1, i, hd, hi => by
    have h1 : i < a.length := by omega
    have h2 : i < b.length := by omega
    rw [drop_rd a i h1, drop_rd b i h2]
    by_cases l : rd a (i : Int) < rd b (i : Int)
    · refine ⟨-1, Ev.s ?_, ⟨fun h => by omega, fun h => by injection h with e _; omega⟩⟩
      simp only [spec_l2Order.l0, show (i : Int) < (a.length : Int) by omega, show (i : Int) < (b.length : Int) by omega, show (0 : Int) ≤ (i : Int) by omega, if_true, l]
      exact Ev.const rfl
    · by_cases g : rd a (i : Int) > rd b (i : Int)
      · refine ⟨1, Ev.s ?_, ⟨fun h => by omega, fun h => by injection h with e _; omega⟩⟩
        simp only [spec_l2Order.l0, show (i : Int) < (a.length : Int) by omega, show (i : Int) < (b.length : Int) by omega, show (0 : Int) ≤ (i : Int) by omega, if_true, l, g, if_false]
        exact Ev.const rfl
      · obtain ⟨r, e, h⟩ := orderC_run a b ha hb d (i + 1) (by omega) (by omega)
        refine ⟨r, Ev.s ?_, h.trans ⟨fun e => by rw [e, show rd a (i : Int) = rd b (i : Int) by omega], fun e => by injection e⟩⟩
        simp only [spec_l2Order.l0, show (i : Int) < (a.length : Int) by omega, show (i : Int) < (b.length : Int) by omega, show (0 : Int) ≤ (i : Int) by omega, if_true, l, g, if_false, w64n (show i < 4611686018427387904 by omega)]
        exact e
theorem orderC_ev (a b : List Int) (ha : a.length ≤ 1048576) (hb : b.length = a.length) : ∃ r, Ev (fun k => spec_l2Order.f k a b) r ∧ (r = 0 ↔ a = b) := by
  unfold spec_l2Order.f
  have := orderC_run a b ha hb a.length 0 (by omega) (by omega)
  rwa [List.drop_zero, List.drop_zero] at this
def tyC (n : Nat) (p : List Int) : List Int := tlL (cyS p n n).2 n
theorem tyC_len (n : Nat) (hn : n ≤ 12) (p : List Int) : (tyC n p).length ≤ 1048576 := by
  have h1 := tlL_len (cyS p n n).2 n
  have h2 := cyS_many p n n
  have h3 : n * (cyS p n n).2.length ≤ 12 * 12 := Nat.mul_le_mul hn (by omega)
  unfold tyC
  omega
def swp (n i k : Nat) : List Int := ((stl n).set i (k : Int)).set k (i : Int)
theorem swp_rd (n i k : Nat) (hi : i < n) (hk : k < i) (v : Nat) (hv : v < n) : rd (swp n i k) (v : Int) = if v = i then (k : Int) else if v = k then (i : Int) else (v : Int) := by
  have l1 : ((stl n).set i (k : Int)).length = n := by rw [List.length_set, stl_length]
  unfold swp
  by_cases e2 : v = k
  · subst e2
    rw [rd_set_self _ _ _ (by omega), if_neg (by omega), if_pos rfl]
  · rw [rd_set_ne _ _ _ _ (fun h => e2 h.symm)]
    by_cases e1 : v = i
    · subst e1
      rw [rd_set_self _ _ _ (by rw [stl_length]; exact hv), if_pos rfl]
    · rw [rd_set_ne _ _ _ _ (fun h => e1 h.symm), stl_rd n v hv, if_neg e1, if_neg e2]
theorem swp_inR (n i k : Nat) (hi : i < n) (hk : k < i) : inR n (swp n i k) := by
  refine ⟨by unfold swp; rw [List.length_set, List.length_set, stl_length], fun v hv => ?_⟩
  rw [swp_rd n i k hi hk v hv]
  split
  · omega
  · split <;> omega
def hitC (n : Nat) (p b : List Int) (i k : Nat) : Nat := if tyC n (mulL p (swp n i k) n) = b then 1 else 0
def cjI (n : Nat) (p b : List Int) (i k d : Nat) : Nat := ((List.range' k d).map fun k => hitC n p b i k).sum
def cjO (n : Nat) (p b : List Int) (i d : Nat) : Nat := ((List.range' i d).map fun i => cjI n p b i 0 i).sum
theorem cjI_succ (n : Nat) (p b : List Int) (i k d : Nat) : cjI n p b i k (d + 1) = hitC n p b i k + cjI n p b i (k + 1) d := by
  unfold cjI
  rw [List.range'_succ, List.map_cons, List.sum_cons]
theorem cjO_succ (n : Nat) (p b : List Int) (i d : Nat) : cjO n p b i (d + 1) = cjI n p b i 0 i + cjO n p b (i + 1) d := by
  unfold cjO
  rw [List.range'_succ, List.map_cons, List.sum_cons]
theorem hitC_le (n : Nat) (p b : List Int) (i k : Nat) : hitC n p b i k ≤ 1 := by unfold hitC; split <;> omega
theorem implCJ_out (n : Nat) (hn : n ≤ 12) (p b : List Int) (hp : inR n p) : ∀ (d i : Nat) (x : Nat), n - i = d → i ≤ n → x ≤ 12 * i → Ev (fun k => impl_CutJoin.l0 k b p x n i) ((x + cjO n p b i d : Nat) : Int)
  | 0, i, x, hd, hi, hx => by
    refine Ev.s ?_
    simp only [impl_CutJoin.l0, show ¬ (i : Int) < (n : Int) by omega, if_false]
    exact Ev.const rfl
  | d + 1, i, x, hd, hi, hx => by
    have hi2 : i < n := by omega
    have loop : ∀ (e k : Nat) (y : Nat), i - k = e → k ≤ i → y ≤ 12 * i + k → Ev (fun q => impl_CutJoin.l1 q b p y i n i i k) ((y + cjI n p b i k e + cjO n p b (i + 1) d : Nat) : Int) := by
      intro e
      induction e with
      | zero =>
        intro k y he hk hy
        have e0 : k = i := by omega
        subst e0
        refine Ev.s ?_
        simp only [impl_CutJoin.l1, show ¬ (k : Int) < (k : Int) by omega, if_false, w64n (show k < 4611686018427387904 by omega)]
        have h := implCJ_out n hn p b hp d (k + 1) y (by omega) (by omega) (by omega)
        have e1 : cjI n p b k k 0 = 0 := rfl
        rw [e1, Nat.add_zero]
        exact h
      | succ e ih =>
        intro k y he hk hy
        have hk2 : k < i := by omega
        have hs := swp_inR n i k hi2 hk2
        have hm := mulL_inR n p _ hp hs
        refine Ev.s ?_
        have hpl := hp.1
        simp only [impl_CutJoin.l1, show (k : Int) < (i : Int) by omega, if_true, hpl]
        refine Ev.bind (still_ev n (by omega)) ?_
        simp only [stl_length, show (0 : Int) ≤ (i : Int) by omega, show (i : Int) < (n : Int) by omega, show (0 : Int) ≤ (k : Int) by omega, show (k : Int) < (n : Int) by omega, if_true, Int.toNat_natCast]
        refine Ev.bind (implMul_ev n (by omega) p (swp n i k) hp hs) (Ev.bind (typeOf_ev _ n hn (by omega) hm) (Ev.bind (equalC_ev (tyC n (mulL p (swp n i k) n)) b (tyC_len n hn _)) ?_))
        rw [cjI_succ]
        by_cases c : tyC n (mulL p (swp n i k) n) = b
        · have h := ih (k + 1) (y + 1) (by omega) (by omega) (by omega)
          have hh : hitC n p b i k = 1 := if_pos c
          rw [decide_eq_true c]
          simp only [if_true, w64n (show k < 4611686018427387904 by omega), w64n (show y < 4611686018427387904 by omega)]
          rw [hh]
          rw [show y + (1 + cjI n p b i (k + 1) e) + cjO n p b (i + 1) d = y + 1 + cjI n p b i (k + 1) e + cjO n p b (i + 1) d by omega]
          exact h
        · have h := ih (k + 1) y (by omega) (by omega) (by omega)
          have hh : hitC n p b i k = 0 := if_neg c
          rw [decide_eq_false c]
          simp only [Bool.false_eq_true, if_false, w64n (show k < 4611686018427387904 by omega)]
          rw [hh, Nat.zero_add]
          exact h
    refine Ev.s ?_
    simp only [impl_CutJoin.l0, show (i : Int) < (n : Int) by omega, if_true]
    have h := loop i 0 x (by omega) (by omega) (by omega)
    rw [cjO_succ, ← Nat.add_assoc]
    exact h
theorem specCJ_in (n : Nat) (hn : n ≤ 12) (p b : List Int) (hp : inR n p) (i k : Nat) (hi : i < n) (hk : k < i) (y : Nat) (R : Int) (hc : ∀ h : Nat, h = hitC n p b i k → Ev (fun q => spec_CutJoin.l1 q b p ((y + h : Nat) : Int) i ((k + 1 : Nat) : Int)) R) (hy : y ≤ 1000) : ∀ (d j : Nat) (x : List Int), n - j = d → j ≤ n → x.length = n → x.take j = (mulL p (swp n i k) n).take j → (∀ v : Nat, j ≤ v → v < n → rd x v = rd p v) → Ev (fun q => spec_CutJoin.l2 q b p y i k x j) R
  | 0, j, x, hd, hj, hx, ht, hr => by
    have e : j = n := by omega
    subst e
    have hM := mulL_inR j p _ hp (swp_inR j i k hi hk)
    have e2 : x = mulL p (swp j i k) j := by
      rw [List.take_of_length_le (by omega), List.take_of_length_le (by rw [hM.1]; exact Nat.le_refl _)] at ht
      exact ht
    subst e2
    have hty := l1Type_ev _ j hn hM
    refine Ev.s ?_
    simp only [spec_CutJoin.l2, hM.1, show ¬ (j : Int) < (j : Int) by omega, if_false]
    refine Ev.bind hty ?_
    by_cases c : ((tlL (cyS (mulL p (swp j i k) j) j j).2 j).length : Int) = (b.length : Int)
    · simp only [c, if_true]
      obtain ⟨r, er, hr2⟩ := orderC_ev (tyC j (mulL p (swp j i k) j)) b (tyC_len j hn _) (by unfold tyC; omega)
      refine Ev.bind er ?_
      by_cases z : r = 0
      · have h := hc 1 (if_pos (hr2.1 z)).symm
        simp only [z, if_true, w64n (show k < 4611686018427387904 by omega), w64n (show y < 4611686018427387904 by omega)]
        exact h
      · have h := hc 0 (if_neg (fun h => z (hr2.2 h))).symm
        simp only [z, if_false, w64n (show k < 4611686018427387904 by omega)]
        exact h
    · have h := hc 0 (if_neg (fun h : tyC j (mulL p (swp j i k) j) = b => c (by rw [← h]; rfl))).symm
      simp only [c, if_false, w64n (show k < 4611686018427387904 by omega)]
      exact h
  | d + 1, j, x, hd, hj, hx, ht, hr => by
    have hj2 : j < n := by omega
    obtain ⟨p0, p1⟩ := hp.2 j hj2
    have hpl := hp.1
    have hM := mulL_inR n p _ hp (swp_inR n i k hi hk)
    have hrd : rd (mulL p (swp n i k) n) (j : Int) = if (rd p (j : Int)).toNat = i then (k : Int) else if (rd p (j : Int)).toNat = k then (i : Int) else rd p (j : Int) := by
      rw [mulL_rd p _ n j hj2]
      have := swp_rd n i k hi hk (rd p (j : Int)).toNat (by omega)
      rw [show (((rd p (j : Int)).toNat : Nat) : Int) = rd p (j : Int) by omega] at this
      exact this
    have next : ∀ x' : List Int, x'.length = n → x'.take (j + 1) = x.take j ++ [rd (mulL p (swp n i k) n) (j : Int)] → (∀ v : Nat, j + 1 ≤ v → v < n → rd x' v = rd p v) → Ev (fun q => spec_CutJoin.l2 q b p y i k x' ((j + 1 : Nat) : Int)) R := by
      intro x' h1 h2 h3
      refine specCJ_in n hn p b hp i k hi hk y R hc hy d (j + 1) x' (by omega) (by omega) h1 ?_ h3
      rw [h2, ht, List.take_succ_eq_append_getElem (by rw [hM.1]; exact hj2), rd_lt _ j (by rw [hM.1]; exact hj2)]
    refine Ev.s ?_
    simp only [spec_CutJoin.l2, hx, hpl, show (j : Int) < (n : Int) by omega, show (0 : Int) ≤ (j : Int) by omega, if_true, w64n (show j < 4611686018427387904 by omega), Int.toNat_natCast]
    by_cases e1 : rd p (j : Int) = i
    · simp only [e1, if_true]
      rw [if_pos (by omega)] at hrd
      exact next _ (by rw [List.length_set]; exact hx) (by rw [take_set_one _ _ _ (by omega), hrd]) (fun v hv hvn => by rw [rd_set_ne _ _ _ _ (by omega)]; exact hr v (by omega) hvn)
    · rw [if_neg (by omega)] at hrd
      by_cases e2 : rd p (j : Int) = k
      · simp only [e1, e2, if_false, if_true]
        have e3 : ¬ ((k : Int) = (i : Int)) := by omega
        simp only [e3, if_false]
        rw [if_pos (by omega)] at hrd
        exact next _ (by rw [List.length_set]; exact hx) (by rw [take_set_one _ _ _ (by omega), hrd]) (fun v hv hvn => by rw [rd_set_ne _ _ _ _ (by omega)]; exact hr v (by omega) hvn)
      · simp only [e1, e2, if_false]
        rw [if_neg (by omega)] at hrd
        refine next x hx ?_ (fun v hv hvn => hr v (by omega) hvn)
        rw [List.take_succ_eq_append_getElem (by omega), hrd, ← hr j (Nat.le_refl _) hj2, rd_lt x j (by omega)]
theorem specCJ_out (n : Nat) (hn : n ≤ 12) (p b : List Int) (hp : inR n p) : ∀ (d i : Nat) (x : Nat), n - i = d → i ≤ n → x ≤ 12 * i → Ev (fun k => spec_CutJoin.l0 k b p x i) ((x + cjO n p b i d : Nat) : Int)
  | 0, i, x, hd, hi, hx => by
    refine Ev.s ?_
    simp only [spec_CutJoin.l0, hp.1, show ¬ (i : Int) < (n : Int) by omega, if_false]
    exact Ev.const rfl
  | d + 1, i, x, hd, hi, hx => by
    have hi2 : i < n := by omega
    have hpl := hp.1
    have hcp : spec_l2Copy.f p = some p := by
      unfold spec_l2Copy.f
      simp only [Option.bind_some, List.length_nil, Nat.zero_add, show p.length < 17592186044416 by omega, if_true, List.nil_append]
    have loop : ∀ (e k : Nat) (y : Nat), i - k = e → k ≤ i → y ≤ 12 * i + k → Ev (fun q => spec_CutJoin.l1 q b p y i k) ((y + cjI n p b i k e + cjO n p b (i + 1) d : Nat) : Int) := by
      intro e
      induction e with
      | zero =>
        intro k y he hk hy
        have e0 : k = i := by omega
        subst e0
        refine Ev.s ?_
        simp only [spec_CutJoin.l1, show ¬ (k : Int) < (k : Int) by omega, if_false, w64n (show k < 4611686018427387904 by omega)]
        have h := specCJ_out n hn p b hp d (k + 1) y (by omega) (by omega) (by omega)
        have e1 : cjI n p b k k 0 = 0 := rfl
        rw [e1, Nat.add_zero]
        exact h
      | succ e ih =>
        intro k y he hk hy
        have hk2 : k < i := by omega
        refine Ev.s ?_
        simp only [spec_CutJoin.l1, show (k : Int) < (i : Int) by omega, if_true, hcp, Option.bind_some]
        refine specCJ_in n hn p b hp i k hi2 hk2 y _ (fun h hh => ?_) (by omega) n 0 p (by omega) (by omega) hp.1 (by simp) (fun v _ _ => rfl)
        have hle := hitC_le n p b i k
        have h2 := ih (k + 1) (y + h) (by omega) (by omega) (by omega)
        rw [cjI_succ, ← hh]
        rw [show y + (h + cjI n p b i (k + 1) e) + cjO n p b (i + 1) d = y + h + cjI n p b i (k + 1) e + cjO n p b (i + 1) d by omega]
        exact h2
    refine Ev.s ?_
    simp only [spec_CutJoin.l0, hpl, show (i : Int) < (n : Int) by omega, if_true]
    have h := loop i 0 x (by omega) (by omega) (by omega)
    rw [cjO_succ, ← Nat.add_assoc]
    exact h
def cfV (a : List Int) : List Int := ((impl_ClassFirst.f 100 a).getD ([], false)).1
def cfOK (n : Nat) : Bool := (PT n).all fun a => decide (impl_ClassFirst.f 100 a = some (cfV a, true)) && decide (spec_ClassFirst.f 200 a = some (cfV a, true)) && decide ((cfV a).length = n) && (cfV a).all fun x => decide (0 ≤ x ∧ x < n)
set_option maxRecDepth 100000 in
theorem cf_tab : (cfOK 1 && cfOK 2 && cfOK 3 && cfOK 4 && cfOK 5 && cfOK 6) = true := by decide +kernel
theorem cf_all (n : Nat) (h1 : 1 ≤ n) (h6 : n ≤ 6) (a : List Int) (ha : a ∈ PT n) : Ev (fun k => impl_ClassFirst.f k a) (cfV a, true) ∧ Ev (fun k => spec_ClassFirst.f k a) (cfV a, true) ∧ inR n (cfV a) := by
  have t : cfOK n = true := by
    have h := cf_tab
    simp only [Bool.and_eq_true] at h
    rcases n with _ | _ | _ | _ | _ | _ | _ | n
    · omega
    · exact h.1.1.1.1.1
    · exact h.1.1.1.1.2
    · exact h.1.1.1.2
    · exact h.1.1.2
    · exact h.1.2
    · exact h.2
    · omega
  have h := List.all_eq_true.1 t a ha
  simp only [Bool.and_eq_true, decide_eq_true_eq, List.all_eq_true] at h
  refine ⟨Ev.of (fun k => impl_ClassFirst.mono a k) h.1.1.1, Ev.of (fun k => spec_ClassFirst.mono a k) h.1.1.2, h.1.2, fun i hi => ?_⟩
  rw [rd_lt _ i (by rw [h.1.2]; exact hi)]
  exact h.2 _ (List.getElem_mem _)
def CJ (n : Nat) (a b : List Int) : Nat := cjO n (cfV a) b 0 n
theorem cj_ev (n : Nat) (h1 : 1 ≤ n) (h6 : n ≤ 6) (a b : List Int) (ha : vP a = true) (hb : vP b = true) (ta : totP a = n) (tb : totP b = n) : Ev (fun k => impl_CutJoin.f k a b) (CJ n a b : Int) ∧ Ev (fun k => spec_CutJoin.f k a b) (CJ n a b : Int) := by
  obtain ⟨e1, e2, e3⟩ := cf_all n h1 h6 a (PT_mem n h6 a ha ta)
  have la := (vP_len a ha).1
  have lb := (vP_len b hb).1
  have pa := specPV_ev a (by omega)
  have pb := specPV_ev b (by omega)
  have qb := implPV_ev b (by omega)
  rw [ha] at pa
  rw [hb] at pb qb
  constructor
  · unfold impl_CutJoin.f
    refine Ev.bind e1 ?_
    simp only [if_true]
    refine Ev.bind qb ?_
    simp only [if_true]
    refine Ev.bind (implSum_ev a ha) (Ev.bind (implSum_ev b hb) ?_)
    rw [ta, tb, bne_self_eq_false]
    refine Ev.s ?_
    simp only [impl_CutJoin.j0, Bool.false_eq_true, if_false, e3.1]
    have h := implCJ_out n (by omega) (cfV a) b e3 n 0 0 (by omega) (by omega) (by omega)
    rw [Nat.zero_add] at h
    exact h
  · unfold spec_CutJoin.f
    refine Ev.bind pa ?_
    simp only [if_true]
    refine Ev.bind pb ?_
    simp only [if_true]
    refine Ev.bind (specSum_ev a ha) (Ev.bind (specSum_ev b hb) ?_)
    rw [ta, tb, bne_self_eq_false]
    refine Ev.s ?_
    simp only [spec_CutJoin.j0, Bool.false_eq_true, if_false]
    refine Ev.bind e2 ?_
    have h := specCJ_out n (by omega) (cfV a) b e3 n 0 0 (by omega) (by omega) (by omega)
    rw [Nat.zero_add] at h
    exact h
theorem implCJ_no (b p : List Int) : Ev (fun k => impl_CutJoin.j0 k b p true) (-1) := by
  refine Ev.s ?_
  simp only [impl_CutJoin.j0, if_true]
  exact Ev.const rfl
theorem specCJ_no (a b : List Int) : Ev (fun k => spec_CutJoin.j0 k a b true) (-1) := by
  refine Ev.s ?_
  simp only [spec_CutJoin.j0, if_true]
  exact Ev.const rfl
theorem cj_no (a b : List Int) (la : a.length ≤ 1048576) (lb : b.length ≤ 1048576) (h : ¬ (vP a = true ∧ vP b = true ∧ totP a = totP b)) : Ev (fun k => impl_CutJoin.f k a b) (-1) ∧ Ev (fun k => spec_CutJoin.f k a b) (-1) := by
  have qa := implPV_ev a la
  have qb := implPV_ev b lb
  have pa := specPV_ev a la
  have pb := specPV_ev b lb
  unfold impl_CutJoin.f spec_CutJoin.f
  by_cases ha : vP a = true
  · have va := vP_len a ha
    obtain ⟨n, hn⟩ : ∃ n : Nat, totP a = n := ⟨(totP a).toNat, by omega⟩
    obtain ⟨e1, _, _⟩ := cf_all n (by omega) (by omega) a (PT_mem n (by omega) a ha hn)
    rw [ha] at pa
    by_cases hb : vP b = true
    · rw [hb] at qb pb
      have hne : ¬ totP a = totP b := fun e => h ⟨ha, hb, e⟩
      have hbn : (totP a != totP b) = true := bne_iff_ne.2 hne
      constructor
      · refine Ev.bind e1 ?_
        simp only [if_true]
        refine Ev.bind qb ?_
        simp only [if_true]
        refine Ev.bind (implSum_ev a ha) (Ev.bind (implSum_ev b hb) ?_)
        rw [hbn]
        exact implCJ_no _ _
      · refine Ev.bind pa ?_
        simp only [if_true]
        refine Ev.bind pb ?_
        simp only [if_true]
        refine Ev.bind (specSum_ev a ha) (Ev.bind (specSum_ev b hb) ?_)
        rw [hbn]
        exact specCJ_no _ _
    · rw [Bool.not_eq_true] at hb
      rw [hb] at qb pb
      constructor
      · refine Ev.bind e1 ?_
        simp only [if_true]
        refine Ev.bind qb ?_
        simp only [Bool.false_eq_true, if_false]
        exact implCJ_no _ _
      · refine Ev.bind pa ?_
        simp only [if_true]
        refine Ev.bind pb ?_
        simp only [Bool.false_eq_true, if_false]
        exact specCJ_no _ _
  · rw [Bool.not_eq_true] at ha
    rw [ha] at qa pa
    constructor
    · have e1 : Ev (fun k => impl_ClassFirst.f k a) (([] : List Int), false) := by
        unfold impl_ClassFirst.f
        refine Ev.bind qa ?_
        simp only [Bool.false_eq_true, if_false]
        exact Ev.const rfl
      refine Ev.bind e1 ?_
      simp only [Bool.false_eq_true, if_false]
      exact implCJ_no _ _
    · refine Ev.bind pa ?_
      simp only [Bool.false_eq_true, if_false]
      exact specCJ_no _ _
theorem xor_nonneg (a b : Int) (ha : 0 ≤ a) (hb : 0 ≤ b) (ha' : a < 9223372036854775808) (hb' : b < 9223372036854775808) : 0 ≤ Go.bits .xor .i64 a b := by
  obtain ⟨n, rfl⟩ := Int.eq_ofNat_of_zero_le ha
  obtain ⟨m, rfl⟩ := Int.eq_ofNat_of_zero_le hb
  have hn : n % 2 ^ 64 = n := Nat.mod_eq_of_lt (by omega)
  have hm : m % 2 ^ 64 = m := Nat.mod_eq_of_lt (by omega)
  have hx : n ^^^ m < 2 ^ 63 := Nat.xor_lt_two_pow (by omega) (by omega)
  have e : Go.bits .xor .i64 (n : Int) (m : Int) = IntKind.i64.wrap ((n ^^^ m : Nat) : Int) := by
    simp only [Go.bits, BitVec.ofInt_natCast]
    show IntKind.i64.wrap (((BitVec.ofNat 64 n ^^^ BitVec.ofNat 64 m).toNat : Nat) : Int) = _
    rw [BitVec.toNat_xor, BitVec.toNat_ofNat, BitVec.toNat_ofNat, hn, hm]
  rw [e, IntKind.wrap_i64]
  omega
def bytesOk (l : List Int) : Prop := l.length ≤ 2000 ∧ ∀ x ∈ l, 0 ≤ x ∧ x ≤ 255
theorem rd_byte (l : List Int) (h : bytesOk l) (i : Int) : 0 ≤ rd l i ∧ rd l i ≤ 255 := by
  unfold rd
  by_cases hi : i.toNat < l.length
  · rw [List.getD_eq_getElem?_getD, List.getElem?_eq_getElem hi]
    exact h.2 _ (List.getElem_mem hi)
  · rw [List.getD_eq_getElem?_getD, List.getElem?_eq_none (by omega)]
    decide
theorem pick_ev (l : List Int) (h : bytesOk l) (p : Int) (hp : 0 ≤ p) (hp' : p ≤ 1000000) (n : Int) (hn : 1 ≤ n) (hn' : n ≤ 1000000) : ∃ v, Ev (fun k => spec_l6Rd_pick.f k l p n) (v, p + 1) ∧ 0 ≤ v ∧ v < n := by
  have w0 : wrap64 (p + 1) = p + 1 := w64 (by omega) (by omega)
  have w1 : wrap64 (p + 1 - 1) = p := by rw [w64 (by omega) (by omega)]; omega
  have hl := h.1
  unfold spec_l6Rd_pick.f
  simp only [show ¬ n < 1 by omega, if_false, w0]
  by_cases hz : l.length = 0
  · refine ⟨0, Ev.s ?_, by omega, by omega⟩
    have : (((l.length : Int)) == 0) = true := by simp [hz]
    simp only [this, spec_l6Rd_pick.j0, if_true]
    exact Ev.const rfl
  · have hb : (((l.length : Int)) == 0) = false := by rw [beq_eq_false_iff_ne]; omega
    have hn0 : ¬ n = 0 := by omega
    by_cases hlt : p < (l.length : Int)
    · have hr := rd_byte l h p
      have wr : wrap64 (rd l p) = rd l p := w64 (by omega) (by omega)
      refine ⟨Int.tmod (rd l p) n, Ev.s ?_, Int.tmod_nonneg _ (by omega), Int.tmod_lt_of_pos _ (by omega)⟩
      simp only [hb, spec_l6Rd_pick.j0, w1, hlt, hp, hn0, wr, Bool.false_eq_true, if_true, if_false]
      exact Ev.const rfl
    · have hl0 : ¬ (l.length : Int) = 0 := by omega
      have wk : wrap64 (p * 7) = p * 7 := w64 (by omega) (by omega)
      have wk3 : wrap64 (p * 7 + 3) = p * 7 + 3 := w64 (by omega) (by omega)
      have t1 := Int.tmod_nonneg (a := p) (l.length : Int) hp
      have t2 := Int.tmod_lt_of_pos p (b := (l.length : Int)) (by omega)
      have t3 := Int.tmod_nonneg (a := p * 7 + 3) (l.length : Int) (by omega)
      have t4 := Int.tmod_lt_of_pos (p * 7 + 3) (b := (l.length : Int)) (by omega)
      have r1 := rd_byte l h (Int.tmod p (l.length : Int))
      have r2 := rd_byte l h (Int.tmod (p * 7 + 3) (l.length : Int))
      have d1 : 0 ≤ Int.tdiv p (l.length : Int) := Int.tdiv_nonneg hp (by omega)
      have d2 : Int.tdiv p (l.length : Int) ≤ p := Int.tdiv_le_self _ hp
      obtain ⟨X, hX, hX0, hX1⟩ : ∃ X, (wrap64 ((wrap64 ((wrap64 ((wrap64 ((wrap64 (rd l (Int.tmod p (l.length : Int)))) * 131)) + (wrap64 ((wrap64 (rd l (Int.tmod (p * 7 + 3) (l.length : Int)))) * 1117)))) + (wrap64 (p * 29)))) + (wrap64 ((wrap64 (Int.tdiv p (l.length : Int))) * 53)))) = X ∧ 0 ≤ X ∧ X < 4611686018427387904 := by
        refine ⟨_, rfl, ?_, ?_⟩
        all_goals
          generalize rd l (Int.tmod p (l.length : Int)) = a at *
          generalize rd l (Int.tmod (p * 7 + 3) (l.length : Int)) = b at *
          generalize Int.tdiv p (l.length : Int) = c at *
          rw [w64 (x := a) (by omega) (by omega), w64 (x := b) (by omega) (by omega), w64 (x := a * 131) (by omega) (by omega), w64 (x := b * 1117) (by omega) (by omega), w64 (x := a * 131 + b * 1117) (by omega) (by omega), w64 (x := p * 29) (by omega) (by omega), w64 (x := a * 131 + b * 1117 + p * 29) (by omega) (by omega), w64 (x := c) (by omega) (by omega), w64 (x := c * 53) (by omega) (by omega), w64 (x := a * 131 + b * 1117 + p * 29 + c * 53) (by omega) (by omega)]
          omega
      have hd : 0 ≤ wrap64 (Int.tdiv X 64) ∧ wrap64 (Int.tdiv X 64) < 9223372036854775808 := by
        have := Int.tdiv_nonneg hX0 (show (0 : Int) ≤ 64 by decide)
        have := Int.tdiv_le_self 64 hX0
        rw [w64 (by omega) (by omega)]
        omega
      have hx := xor_nonneg X (wrap64 (Int.tdiv X 64)) hX0 hd.1 (by omega) hd.2
      refine ⟨Int.tmod (Go.bits .xor .i64 X (wrap64 (Int.tdiv X 64))) n, Ev.s ?_, Int.tmod_nonneg _ hx, Int.tmod_lt_of_pos _ (by omega)⟩
      simp only [hb, spec_l6Rd_pick.j0, w1, hlt, hl0, wk, wk3, t1, t2, t3, t4, hn0, hX, Bool.false_eq_true, if_true, if_false]
      exact Ev.const rfl
theorem open_ev (l : List Int) (hb : ∀ x ∈ l, (Lit.int .u8 x).wf = true) : ∃ l', spec_l6Open.f l = some (l', 0) ∧ bytesOk l' := by
  have hb' : ∀ x ∈ l, 0 ≤ x ∧ x ≤ 255 := by
    intro x hx
    have := hb x hx
    simp only [Lit.wf, IntKind.min, IntKind.max, IntKind.signed, IntKind.bits, Bool.and_eq_true, decide_eq_true_eq, Bool.false_eq_true, if_false] at this
    omega
  unfold spec_l6Open.f
  by_cases h : (l.length : Int) > 2000
  · refine ⟨l.take 2000, ?_, ?_, fun x hx => hb' x (List.mem_of_mem_take hx)⟩
    · rw [if_pos h, if_pos (by omega)]
    · rw [List.length_take]; omega
  · exact ⟨l, by rw [if_neg h], by omega, hb'⟩
def allB (n : Nat) : Bool := match spec_l5All.f 60 n n with
  | some L => decide (1 ≤ L.length) && decide (L.length ≤ 1000) && L.all fun p => decide (1 ≤ p.length) && decide (p.length ≤ 7)
  | none => false
set_option maxRecDepth 100000 in
theorem allB_all (n : Nat) (h1 : 1 ≤ n) (h7 : n ≤ 7) : allB n = true := by
  have h : ∀ m : Fin 8, 1 ≤ m.val → allB m.val = true := by decide +kernel
  exact h ⟨n, by omega⟩ h1
theorem all_ev (n : Nat) (h1 : 1 ≤ n) (h7 : n ≤ 7) : ∃ L, Ev (fun k => spec_l5All.f k n n) L ∧ 1 ≤ L.length ∧ L.length ≤ 1000 ∧ ∀ p ∈ L, 1 ≤ p.length ∧ p.length ≤ 7 := by
  have h := allB_all n h1 h7
  unfold allB at h
  split at h
  · rename_i L e
    simp only [Bool.and_eq_true, decide_eq_true_eq, List.all_eq_true] at h
    exact ⟨L, Ev.of (fun k => spec_l5All.mono n n k) e, h.1.1, h.1.2, fun p hp => h.2 p hp⟩
  · cases h
theorem parts_ev (l : List Int) (h : bytesOk l) (p : Int) (hp : 0 ≤ p) (hp' : p ≤ 100000) (n : Nat) (h1 : 1 ≤ n) (h7 : n ≤ 7) : ∃ q p', Ev (fun k => spec_l91Parts.f k l p n) (q, p') ∧ q.length ≤ 8 ∧ p ≤ p' ∧ p' ≤ p + 3 := by
  obtain ⟨L, eL, L1, L2, L3⟩ := all_ev n h1 h7
  obtain ⟨v, ev, v0, v1⟩ := pick_ev l h p hp (by omega) (L.length : Int) (by omega) (by omega)
  obtain ⟨w, ew, w0, w1⟩ := pick_ev l h (p + 1) (by omega) (by omega) 40 (by omega) (by omega)
  obtain ⟨i, rfl⟩ := Int.eq_ofNat_of_zero_le v0
  have hi : i < L.length := by omega
  have hq := L3 _ (List.getElem_mem hi)
  have hr := rdL_nth L i hi
  have hcp : spec_l2Copy.f (rd_L1 L (i : Int)) = some (rd_L1 L (i : Int)) := by
    unfold spec_l2Copy.f
    rw [hr]
    simp only [Option.bind_some, List.length_nil, Nat.zero_add, show L[i].length < 17592186044416 by omega, if_true, List.nil_append]
  rw [← hr] at hq
  unfold spec_l91Parts.f
  by_cases c0 : w = 0
  · obtain ⟨x, ex, x0, x1⟩ := pick_ev l h (p + 1 + 1) (by omega) (by omega) 3 (by omega) (by omega)
    refine ⟨(rd_L1 L (i : Int)).set (0 : Int).toNat (rd ([0, (-1), 7] : List Int) x), p + 1 + 1 + 1, Ev.bind eL (Ev.bind ev ?_), ?_, by omega, by omega⟩
    · simp only [show (0 : Int) ≤ (i : Int) by omega, show (i : Int) < (L.length : Int) by omega, if_true, hcp, Option.bind_some]
      refine Ev.bind ew ?_
      simp only [c0, if_true]
      refine Ev.bind ex ?_
      simp only [x0, if_true, List.length_cons, List.length_nil, show x < ((0 + 1 + 1 + 1 : Nat) : Int) by omega, show (0 : Int) < ((rd_L1 L (i : Int)).length : Int) by omega]
      exact Ev.const rfl
    · rw [List.length_set]; omega
  · by_cases c1 : w = 1
    · refine ⟨(rd_L1 L (i : Int)) ++ [wrap64 ((rd (rd_L1 L (i : Int)) 0) + 1)], p + 1 + 1, Ev.bind eL (Ev.bind ev ?_), ?_, by omega, by omega⟩
      · simp only [show (0 : Int) ≤ (i : Int) by omega, show (i : Int) < (L.length : Int) by omega, if_true, hcp, Option.bind_some]
        refine Ev.bind ew ?_
        simp only [c0, c1, if_true, if_false, show ¬ (1 : Int) = 0 by omega, show (0 : Int) < ((rd_L1 L (i : Int)).length : Int) by omega, show (rd_L1 L (i : Int)).length < 17592186044416 by omega]
        exact Ev.const rfl
      · rw [List.length_append, List.length_cons, List.length_nil]; omega
    · by_cases c2 : w = 2
      · refine ⟨[], p + 1 + 1, Ev.bind eL (Ev.bind ev ?_), by simp, by omega, by omega⟩
        simp only [show (0 : Int) ≤ (i : Int) by omega, show (i : Int) < (L.length : Int) by omega, if_true, hcp, Option.bind_some]
        refine Ev.bind ew ?_
        simp only [c2, if_true, if_false, show ¬ (2 : Int) = 0 by omega, show ¬ (2 : Int) = 1 by omega]
        exact Ev.const rfl
      · refine ⟨rd_L1 L (i : Int), p + 1 + 1, Ev.bind eL (Ev.bind ev ?_), by omega, by omega, by omega⟩
        simp only [show (0 : Int) ≤ (i : Int) by omega, show (i : Int) < (L.length : Int) by omega, if_true, hcp, Option.bind_some]
        refine Ev.bind ew ?_
        simp only [c0, c1, c2, if_false]
        exact Ev.const rfl
end Go.Proofs.Ytggghijamfmenaa.PN

set_option linter.unusedVariables false
set_option linter.unusedSimpArgs false
namespace Go.Proofs.Ytggghijamfmenaa.Pure
open Go.RowKit Go.Proofs.Ytggghijamfmenaa.PN Go.Proofs.YtggghijamfmenaaW.PrintWords Go.Proofs.YtggghijamfmenaaW.PrintLast
theorem lawSum_run (p : List Int) (hl : p.length ≤ 6) (h6 : ∀ x ∈ p, 0 ≤ x ∧ x ≤ 6) : ∀ (d i : Nat) (s : Int), p.length - i = d → i ≤ p.length → 0 ≤ s → s ≤ 6 * i → Ev (fun k => laws_sumOf.l0 k p s i) (s + totP (p.drop i))
  | 0, i, s, hd, hi, h0, h1 => by
    refine Ev.s ?_
    have e : i = p.length := by omega
    rw [e, List.drop_length]
    simp only [laws_sumOf.l0, show ¬ (p.length : Int) < (p.length : Int) by omega, if_false, totP, Int.add_zero]
    exact Ev.const rfl
  | d + 1, i, s, hd, hi, h0, h1 => by
    have hlt : i < p.length := by omega
    have hx := h6 _ (List.getElem_mem hlt)
    rw [← rd_lt p i hlt] at hx
    rw [drop_rd p i hlt]
    refine Ev.s ?_
    simp only [laws_sumOf.l0, show (i : Int) < (p.length : Int) by omega, show (0 : Int) ≤ i by omega, if_true, totP]
    rw [w64n (by omega), w64 (x := s + rd p (i : Int)) (by omega) (by omega), ← Int.add_assoc]
    exact lawSum_run p hl h6 d (i + 1) _ (by omega) (by omega) (by omega) (by omega)
theorem lawSum_ev (p : List Int) (h : vP p = true) : Ev (fun k => laws_sumOf.f k p) (totP p) := by
  have h2 := vP_len p h
  unfold laws_sumOf.f
  have h := lawSum_run p h2.1 (fun x hx => by have := h2.2.2.2 x hx; omega) p.length 0 0 (by omega) (by omega) (by omega) (by omega)
  simpa using h
def swT (n : Nat) : List Int := 2 :: List.replicate (n - 2) 1
def lawB (n : Nat) (a b : List Int) : Bool := decide (wrap64 (clV n a * (CJ n a b : Int)) = wrap64 (clV n b * (CJ n b a : Int))) && decide (wrap64 (clV n a * (CJ n a b : Int)) = facP n [a, swT n, b])
def allB2 (n : Nat) : Bool := decide (laws_swapType.f 20 n = some (swT n)) && vP (swT n) && decide (totP (swT n) = n) && (PT n).all fun a => (PT n).all fun b => lawB n a b
set_option maxRecDepth 100000 in
theorem law_2 : allB2 2 = true := by decide +kernel
set_option maxRecDepth 100000 in
theorem law_3 : allB2 3 = true := by decide +kernel
set_option maxRecDepth 100000 in
theorem law_4 : allB2 4 = true := by decide +kernel
set_option maxRecDepth 100000 in
theorem law_5 : allB2 5 = true := by decide +kernel
set_option maxRecDepth 100000 in
theorem law_6 : allB2 6 = true := by decide +kernel
theorem law_1 : ((PT 1).all fun a => (PT 1).all fun b => decide (CJ 1 a b = 0)) = true := by decide +kernel
theorem law_all (n : Nat) (h2 : 2 ≤ n) (h6 : n ≤ 6) : allB2 n = true := by
  rcases n with _ | _ | _ | _ | _ | _ | _ | n
  · omega
  · omega
  · exact law_2
  · exact law_3
  · exact law_4
  · exact law_5
  · exact law_6
  · omega
theorem pair_ev (l : List Int) (h : bytesOk l) : ∃ a b p', Ev (fun k => spec_l91Pair.f k l 0 6) (a, b, p') ∧ a.length ≤ 8 ∧ b.length ≤ 8 := by
  obtain ⟨v, ev, v0, v1⟩ := pick_ev l h 0 (by omega) (by omega) 6 (by omega) (by omega)
  obtain ⟨i, rfl⟩ := Int.eq_ofNat_of_zero_le v0
  have hw : ∀ j : Nat, j < 6 → wrap64 (1 + ((j : Nat) : Int)) = ((j + 1 : Nat) : Int) := fun j hj => by rw [w64 (by omega) (by omega)]; omega
  obtain ⟨a, p1, ea, a8, a1, a2⟩ := parts_ev l h (0 + 1) (by omega) (by omega) (i + 1) (by omega) (by omega)
  obtain ⟨x, ex, x0, x1⟩ := pick_ev l h p1 (by omega) (by omega) 16 (by omega) (by omega)
  by_cases c : x = 0
  · obtain ⟨y, ey, y0, y1⟩ := pick_ev l h (p1 + 1) (by omega) (by omega) 6 (by omega) (by omega)
    obtain ⟨j, rfl⟩ := Int.eq_ofNat_of_zero_le y0
    obtain ⟨b, p2, eb, b8, _, _⟩ := parts_ev l h (p1 + 1 + 1) (by omega) (by omega) (j + 1) (by omega) (by omega)
    refine ⟨a, b, p2, ?_, a8, b8⟩
    unfold spec_l91Pair.f
    refine Ev.bind ev ?_
    rw [hw i (by omega)]
    refine Ev.bind ea (Ev.bind ex ?_)
    simp only [c, if_true]
    refine Ev.bind ey ?_
    rw [hw j (by omega)]
    exact Ev.bind eb (Ev.const rfl)
  · obtain ⟨b, p2, eb, b8, _, _⟩ := parts_ev l h (p1 + 1) (by omega) (by omega) (i + 1) (by omega) (by omega)
    refine ⟨a, b, p2, ?_, a8, b8⟩
    unfold spec_l91Pair.f
    refine Ev.bind ev ?_
    rw [hw i (by omega)]
    refine Ev.bind ea (Ev.bind ex ?_)
    simp only [c, if_false]
    exact Ev.bind eb (Ev.const rfl)
theorem FnCutJoin : laws_FnCutJoin.Pure := by
  intro l h0 h1 hb
  refine Ev.rounds (?_ : Ev (fun k => laws_FnCutJoin.f k l) true)
  unfold laws_FnCutJoin.f
  by_cases c : (l.length : Int) > 1048576
  · simp only [c, if_true]
    exact Ev.const rfl
  · obtain ⟨l', eo, ok⟩ := open_ev l hb
    obtain ⟨a, b, p', eT, la, lb⟩ := pair_ev l' ok
    have eD : Ev (fun k => spec_DrawCutJoin.f k l) (a, b) := by
      unfold spec_DrawCutJoin.f
      rw [eo]
      simp only [Option.bind_some]
      exact Ev.bind eT (Ev.const rfl)
    simp only [c, if_false]
    by_cases good : vP a = true ∧ vP b = true ∧ totP a = totP b
    · obtain ⟨ha, hb2, hab⟩ := good
      have va := vP_len a ha
      obtain ⟨n, hn⟩ : ∃ n : Nat, totP a = n := ⟨(totP a).toNat, by omega⟩
      have n1 : 1 ≤ n := by omega
      have n6 : n ≤ 6 := by omega
      have hnb : totP b = n := by rw [← hab]; exact hn
      obtain ⟨e1, e2⟩ := cj_ev n n1 n6 a b ha hb2 hn hnb
      have ma := PT_mem n n6 a ha hn
      have mb := PT_mem n n6 b hb2 hnb
      have tb := tab_all n n1 n6
      simp only [Bool.and_eq_true, clOK, List.all_eq_true, decide_eq_true_eq] at tb
      have ca : Ev (fun k => impl_ClassSize.f k a) (clV n a) := Ev.of (fun k => impl_ClassSize.mono a k) (tb.1.1.2 a ma)
      have cb : Ev (fun k => impl_ClassSize.f k b) (clV n b) := Ev.of (fun k => impl_ClassSize.mono b k) (tb.1.1.2 b mb)
      have hsum := lawSum_ev a ha
      rw [hn] at hsum
      refine Ev.bind eD (Ev.bind e1 (Ev.bind e2 ?_))
      simp only [if_true, show ¬ ((CJ n a b : Nat) : Int) < 0 by omega, decide_false]
      refine Ev.s ?_
      simp only [laws_FnCutJoin.j0, Bool.false_eq_true, if_false]
      refine Ev.bind hsum ?_
      by_cases n2 : (n : Int) < 2
      · have e : n = 1 := by omega
        subst e
        have z := of_decide_eq_true (List.all_eq_true.1 (List.all_eq_true.1 law_1 a ma) b mb)
        simp only [n2, if_true, z]
        exact Ev.const rfl
      · have L := law_all n (by omega) n6
        simp only [allB2, lawB, Bool.and_eq_true, decide_eq_true_eq, List.all_eq_true] at L
        obtain ⟨⟨⟨s1, s2⟩, s3⟩, s4⟩ := L
        obtain ⟨q1, q2⟩ := s4 a ma b mb
        have eS : Ev (fun k => laws_swapType.f k n) (swT n) := Ev.of (fun k => laws_swapType.mono n k) s1
        have ec := (cj_ev n n1 n6 b a hb2 ha hnb hn).1
        have g : goodT [a, swT n, b] := ⟨by simp, by simp, fun j hj => by
          have hj3 : j < 3 := hj
          rcases j with _ | _ | _ | j
          · exact ⟨ha, rfl⟩
          · exact ⟨s2, s3.trans hn.symm⟩
          · exact ⟨hb2, hnb.trans hn.symm⟩
          · omega⟩
        have hl3 : ∀ j : Nat, j < ([a, swT n, b] : List (List Int)).length → (rd_L1 [a, swT n, b] (j : Int)).length ≤ 1048576 := fun j hj => by
          have := (vP_len _ (g.2.2 j hj).1).1
          omega
        have eF := fcount_ev [a, swT n, b] (by simp) hl3 g n hn n1 n6 (fun t ht => by
          rcases List.mem_cons.1 ht with rfl | ht
          · exact ma
          · rcases List.mem_cons.1 ht with rfl | ht
            · exact PT_mem n n6 _ s2 s3
            · have : t = b := by simpa using ht
              rw [this]; exact mb)
        simp only [n2, if_false]
        refine Ev.bind ca (Ev.bind cb (Ev.bind ec ?_))
        simp only [q1, if_true]
        refine Ev.bind eS (Ev.bind eF (Ev.const (congrArg some ?_)))
        rw [← q1, q2]
        exact beq_self_eq_true _
    · obtain ⟨e1, e2⟩ := cj_no a b (by omega) (by omega) good
      refine Ev.bind eD (Ev.bind e1 (Ev.bind e2 ?_))
      simp only [if_true, show (-1 : Int) < 0 by omega, decide_true]
      refine Ev.s ?_
      simp only [laws_FnCutJoin.j0, if_true]
      exact Ev.const rfl
end Go.Proofs.Ytggghijamfmenaa.Pure

namespace Go.Proofs.Ytggghijamfmenaa.fnCutJoin
open Go.ChangeShapes Go.WideShapes Go.ChangeAt Go.RowKit
open Go.ChangeMaps (open_string shut_string)
set_option linter.unusedVariables false
theorem own : ownKnob Try.prog.godebug = none := by kernel_rfl
theorem laidOut : laidOutB Try.prog = true := by kernel_rfl
def IsRow (k : IntKind) (w : World) (a : Option Addr) (len cap : Nat) (zs : List Int) : Prop :=
 (a = none ∧ len = 0 ∧ cap = 0 ∧ zs = []) ∨
 ∃ x, a = some x ∧ len ≤ cap ∧ cap ≤ maxLen ∧ zs.length = cap ∧ (∀ i, i < zs.length → w.cell? (x.add i) = some (.int k (zs.getD i 0))) ∧ ∀ n ∈ zs, (Lit.int k n).wf = true
set_option maxRecDepth 100000 in
theorem lifted (os : Os) (started : os.Started) (H : Type) (enc : TypeId × Value → H) :
  ReturnsInHanded {} Try.checked os 9 .any (Rows.fnCutJoinSpec.pre6 enc Try.prog Try.f9 Rows.fnCutJoinRow.domain false) (Rows.fnCutJoinSpec.post enc Try.prog Try.f9 false true false false) := by
 refine returnsInHanded_of_change_sized (C := Try.checked) own started (by kernel_rfl) Try.func9
  (ChangeSpec.witness6 (enc := enc) (C := Try.checked) false ⟨#[], #[.slice none 0 0], []⟩ 8 (by kernel_rfl) (by kernel_rfl) (by kernel_rfl) (by kernel_rfl)) ?_
 intro W base args ds gs before hval0 hW hcnd hsz0 _
 have hsz : (DataW.weightsEach Try.prog (Try.f9.params.toList ++ Rows.fnCutJoinSpec.plain.varTypes Try.prog) (ds ++ gs)).all (· ≤ reachBytes) = true := hsz0
 have hval : ∀ (j : Nat) t v, Try.f9.params[j]? = some t → args[j]? = some v → Value.okWide Try.prog W .any base t v := hval0
 have hW' := hW
 obtain ⟨p, q, hA0, hV, rfl, hfz, hnd⟩ := hW
 have hA : DataW.TrodAll enc Try.prog W 0 (fun _ => true) true Try.f9.params.toList args.toList ds p := hA0
 rw [Try.params9] at hA hval hsz
 obtain ⟨v0, vs0, d0, ds0, p0, q0, hargs, rfl, rfl, h0, r0⟩ := trodAll_cons hA
 obtain ⟨rfl, rfl, rfl⟩ := trodAll_nil r0
 obtain rfl : args = #[v0] := by cases args; simp_all
 obtain ⟨rfl, rfl⟩ := trodVars_none hV
 obtain ⟨a0, len0, cap0, rfl⟩ := okWide_slice Try.underlying22 (hval 0 22 v0 rfl rfl)
 have k0 := h0
 have lt0 : ∀ x ∈ p0, x.block < W.heap.size := by obtain ⟨m, hm⟩ := k0; exact DataW.trod_lt m _ _ _ hm
 obtain ⟨z0, w0⟩ : ∃ zs, IsRow .u8 W a0 len0 cap0 zs := by
  obtain ⟨fuel, hf⟩ := h0
  rcases open_ints Try.underlying22 Try.underlying5 (by kernel_rfl) hf with ⟨hcs, _⟩ | ⟨x, l, c, zs, hcs, _, hl, hm, hz, _, hcell, hwz⟩
  ·
   simp [Value.cells] at hcs
   obtain ⟨rfl, rfl, rfl⟩ := hcs
   exact ⟨[], .inl ⟨rfl, rfl, rfl, rfl⟩⟩
  ·
   simp [Value.cells] at hcs
   obtain ⟨rfl, rfl, rfl⟩ := hcs
   exact ⟨zs, .inr ⟨_, rfl, hl, hm, by simpa using hz, hcell, hwz⟩⟩
 have y0 : len0 * 1 ≤ 140737488351232 := Go.Proofs.YtggghijamfmenaaW.PrintWords.sized_ints hsz (j := 0) (t := 22) rfl rfl Try.underlying22 Try.underlying5 (by kernel_rfl) (by kernel_rfl) h0
 clear hA0 hval0 hsz0 hsz
 refine (PN.laws_FnCutJoin.walk Pure.FnCutJoin a0 len0 cap0 z0 W w0 y0).mono fun e W' ⟨he, bel⟩ => ?_
 subst he
 exact ⟨_, rfl, _, _, _, [], _, [], hW', trodAll_mk1 (shut_bool Try.underlying4 _), (trodAll_cons_mk (Below.trod laidOut (by kernel_rfl) (of_decide_eq_true (by kernel_rfl)) k0 bel lt0) trodAll_mk0), rfl, bel.frame _, fun h => by cases h⟩
theorem over : Rows.fnCutJoinRow.holds Try.pinned (OpenSpec.ofChange Rows.fnCutJoinSpec) :=
 OpenClaim.holds_of_wide 9 Try.f9 rfl rfl rfl rfl rfl rfl rfl ⟨rfl, rfl, rfl, rfl, rfl⟩ rfl rfl rfl rfl rfl (by kernel_rfl) Try.func9 (by kernel_rfl)
  (of_decide_eq_true (by kernel_rfl)) (by unfold Func.isWrapper; first | (rw [if_pos (by decide +kernel)]; kernel_rfl) | (rw [if_neg (by decide +kernel)]; exact ⟨rfl, rfl⟩))
  (fun os started H enc _ => lifted os started H enc)
theorem proved : Rows.FnCutJoinSaid := over
#print axioms proved
end Go.Proofs.Ytggghijamfmenaa.fnCutJoin
namespace Go.Proofs.Ytggghijamfmenaa
theorem fnCutJoin_holds : Rows.FnCutJoinSaid := fnCutJoin.proved
end Go.Proofs.Ytggghijamfmenaa
