/- A part of the proof of FnTreeQuad. There are no conditions. -/
import Derived.Test.YtlpbalebodlipaaKFnTreeQuadOwnx5
namespace Go.Proofs.Ytlpbalebodlipaa.PK
open Go.RowKit Go.Proofs.YtlpbalebodlipaaW.PrintWords Go.Proofs.YtlpbalebodlipaaW.PrintLast Go.Proofs.YtlpbalebodlipaaW.PrintMore
theorem z6_0 {p : Prop} (h : p := by exact (below_step (bU1 HB.out GW491.out) hb)) : p := h
theorem z6_1 {p : Prop} (h : p := by exact (Kd.S_mono (ok' := fun k_ => oS k_ Ao14 x3_1.length co14) (Kd.S_keptB (HO_8.out) hkp (fun k_ hk_ hs_ => (hk_) hs_)) (fun k_ hk_ => hk_.1))) : p := h
attribute [local go_sem] max2_int min2_int max_two min_two max_three min_three max_four min_four   -- for this text's walks alone
set_option linter.unusedVariables false
set_option linter.unusedSimpArgs false
mutual
def impl_cyclesOf.l0 : Nat → List Int → List (List Int) → List Bool → Int → Int → Option ((List (List Int)))
 | 0, _, _, _, _, _ => none
 | k + 1, x0, x3, x4, x13, x14 => if x14 < x13 then (impl_cyclesOf.l1 k x0 x3 x4 (([] : List Int)) x14 x13 x14) else (some x3)
def impl_cyclesOf.l1 : Nat → List Int → List (List Int) → List Bool → List Int → Int → Int → Int → Option ((List (List Int)))
 | 0, _, _, _, _, _, _, _ => none
 | k + 1, x0, x3, x4, x6, x7, x13, x14 => if 0 ≤ x7 then (if x7 < (x4.length : Int) then (if rdOf false x4 x7 = true then (if (x6.length : Int) > 0 then (if x3.length < 5864062014805 then (impl_cyclesOf.l0 k x0 (x3 ++ [x6]) x4 x13 (wrap64 (x14 + 1))) else (none)) else (impl_cyclesOf.l0 k x0 x3 x4 x13 (wrap64 (x14 + 1)))) else (if x6.length < 17592186044416 then (if x7 < (x0.length : Int) then (impl_cyclesOf.l1 k x0 x3 (x4.set (x7 : Int).toNat true) (x6 ++ [x7]) (rd x0 x7) x13 x14) else (none)) else (none))) else (none)) else (none)
end
def impl_cyclesOf.f (k : Nat) (l0 : List Int) : Option ((List (List Int))) := if 0 ≤ (l0.length : Int) then (if ((l0.length : Int) : Int).toNat ≤ 281474976710656 then (impl_cyclesOf.l0 k l0 (([] : List (List Int))) (List.replicate ((l0.length : Int) : Int).toNat false) (l0.length : Int) 0) else (none)) else (none)
theorem impl_cyclesOf.mono_l : ∀ k, (∀ y0 y1 y2 y3 y4, LeO (impl_cyclesOf.l0 k y0 y1 y2 y3 y4) (impl_cyclesOf.l0 (k + 1) y0 y1 y2 y3 y4)) ∧ (∀ y0 y1 y2 y3 y4 y5 y6, LeO (impl_cyclesOf.l1 k y0 y1 y2 y3 y4 y5 y6) (impl_cyclesOf.l1 (k + 1) y0 y1 y2 y3 y4 y5 y6))
 | 0 => ⟨fun _ _ _ _ _ r h => by simp [impl_cyclesOf.l0] at h, fun _ _ _ _ _ _ _ r h => by simp [impl_cyclesOf.l1] at h⟩
 | k + 1 => by
  obtain ⟨ih0, ih1⟩ := impl_cyclesOf.mono_l k; refine ⟨?_, ?_⟩
  ·
   intro y0 y1 y2 y3 y4
   unfold impl_cyclesOf.l0
   repeat' first
   | (with_reducible exact ih0 _ _ _ _ _)
   | (with_reducible exact ih1 _ _ _ _ _ _ _)
   | (with_reducible exact LeO.refl _)
   | (with_reducible exact LeO.none _)
   | (with_reducible refine LeO.ite ?_ ?_)
   | (with_reducible refine LeO.bind ?_ (fun _ => ?_))
   | exact ih0 _ _ _ _ _
   | exact ih1 _ _ _ _ _ _ _
   | exact LeO.none _
   | refine LeO.ite ?_ ?_
   | refine LeO.bind ?_ (fun _ => ?_)
  ·
   intro y0 y1 y2 y3 y4 y5 y6
   unfold impl_cyclesOf.l1
   repeat' first
   | (with_reducible exact ih0 _ _ _ _ _)
   | (with_reducible exact ih1 _ _ _ _ _ _ _)
   | (with_reducible exact LeO.refl _)
   | (with_reducible exact LeO.none _)
   | (with_reducible refine LeO.ite ?_ ?_)
   | (with_reducible refine LeO.bind ?_ (fun _ => ?_))
   | exact ih0 _ _ _ _ _
   | exact ih1 _ _ _ _ _ _ _
   | exact LeO.none _
   | refine LeO.ite ?_ ?_
   | refine LeO.bind ?_ (fun _ => ?_)
theorem impl_cyclesOf.mono : ∀ a0 k, LeO (impl_cyclesOf.f k a0) (impl_cyclesOf.f (k + 1) a0) := by
 intro a0 k; obtain ⟨ih0, ih1⟩ := impl_cyclesOf.mono_l k
 unfold impl_cyclesOf.f
 repeat' first
   | (with_reducible exact ih0 _ _ _ _ _)
   | (with_reducible exact ih1 _ _ _ _ _ _ _)
   | (with_reducible exact LeO.refl _)
   | (with_reducible exact LeO.none _)
   | (with_reducible refine LeO.ite ?_ ?_)
   | (with_reducible refine LeO.bind ?_ (fun _ => ?_))
   | exact ih0 _ _ _ _ _
   | exact ih1 _ _ _ _ _ _ _
   | exact LeO.none _
   | refine LeO.ite ?_ ?_
   | refine LeO.bind ?_ (fun _ => ?_)
set_option maxHeartbeats 8000000 in
set_option maxRecDepth 100000 in
theorem impl_cyclesOf.calls (k : Nat) (A0 : Option Addr) (c0 : Nat) (l0 : List Int) (r : List (List Int)) (w : World) (hr0 : Kd.C (Kd.int .i64) w A0 l0.length l0) (hc0 : l0.length ≤ c0) (h : impl_cyclesOf.f k l0 = some r) :
  Calls Try.prog 67 #[.slice A0 l0.length c0] w fun e w' => ∃ v0_ : Value, e = .returned (v0_) ∧ Kd.S (Kd.slice 3 (Kd.int .i64)) 23 w' w.heap.size (fun _ => True) v0_ r ∧ Below w.heap.size w w' := by
 have HR0 := Az hr0; have HC0 := Az hc0; clear hr0 hc0; have HB := bZ w; have H := h; clear h; unfold impl_cyclesOf.f at H; generalize Ny467 : (([] : List (List Int)) : List (List Int)) = y467 at H; replace Ny467 := Ay Ny467; replace H := gE H; obtain ⟨c2b0, c2b1, H⟩ := H; replace H := gE H; obtain ⟨c3b0, c3b1, H⟩ := H; generalize Ny470 : (List.replicate ((l0.length : Int) : Int).toNat false : List Bool) = y470 at H; replace Ny470 := Ay Ny470; have H' := Az H; clear H; go_enter Try.func67, Try.ntmps67
 go_wp2_with (first | ((with_reducible refine gd 8 rfl ?_); refine Kd.S_lit (Kd.slice 3 (Kd.int .i64)) _ 23 rfl (N := 8) rfl (xs := ([] : List (List Int))) (inner := []) (ok := fun _ => True) (okp := fun _ => True) hS ?hp (fun _ hk => hk) trivial (Below.refl _ _) (Nat.le_refl _) (by simp) ?_; (case hp => exact (Reps.none _ _)); intro v468 w4 ho5 hb hg_ hnew_; clear hg_ hnew_; (first | rw [← Ny467.out] at ho5 | (simp only [Int.reduceToNat] at ho5; rw [← Ny467.out] at ho5)); have HO469 := Az (Kd.S_lower ho5 (below_size (bU0 HB.out))); replace HB := Az (below_step (bU0 HB.out) hb); clear hb ho5) | ((with_reducible refine gd 11 rfl ?_); refine Kd.R_make Kd.bool _ 4 rfl (N := 11) rfl 93 _ _ rfl (l0.length : Int) rfl rfl Try.underlying93 (.bool false) 1 info4 rfl (by decide) (by omega) false (ok := fun _ => True) (okp := fun _ => True) rfl (fun _ hk => hk) trivial (oA) (Nat.le_trans (Nat.mul_le_mul_right _ (oA : (l0.length : Int).toNat ≤ 281474976710656)) (by omega)) (Below.refl _ _) (Nat.le_refl _) ?_; intro v471 w6 ho7 hb hg_ hnew_; clear hg_ hnew_; (first | rw [← Ny470.out] at ho7 | (simp only [Int.reduceToNat] at ho7; rw [← Ny470.out] at ho7)); replace HO469 := sB HO469.out hb; have HO472 := Az (Kd.R_lower ho7 (below_size (bU0 HB.out))); replace HB := Az (below_step (bU0 HB.out) hb); clear hb ho7))
 go_loopg [3, 14] k (fun kq v3 v14 w' => ∃ (x3_1 : List (List Int)) (x4_1 : List Bool) (x14_1 : Int), v14 = .int .i64 x14_1 ∧ Aside0 (impl_cyclesOf.l0 kq l0 x3_1 x4_1 (l0.length : Int) x14_1 = some r) ∧ Aside0 (kq ≤ k) ∧ Aside0 (Kd.S (Kd.slice 3 (Kd.int .i64)) 23 w' w.heap.size (fun _ => True) v3 x3_1) ∧ Aside0 (Kd.R Kd.bool 4 w' w.heap.size (fun _ => True) v471 x4_1) ∧ Aside0 (Below w.heap.size w w'))
 case atStart => exact ⟨(y467), (y470), (0), rS, H', ⟨Nat.le_refl _⟩, ⟨sU HO469.out⟩, ⟨rU HO472.out⟩, ⟨bU0 HB.out⟩⟩
 case round =>
  clear H'; obtain ⟨x3_1, x4_1, x14_1, rfl, HA, HK1, HO_3, HO_4, HB⟩ := hrel
  rcases gk with _ | k1
  exact (nN HA.out).elim; have H := HA.out; clear HA; simp only [impl_cyclesOf.l0] at H
  by_cases c8 : x14_1 < (l0.length : Int)
  ·
   rw [if_pos c8] at H; have c8b0 := decide_eq_true c8; clear c8; generalize Ny473 : (([] : List Int) : List Int) = y473 at H; replace Ny473 := Ay Ny473; have H' := Az H; clear H
   go_wp2_with (first | ((with_reducible refine gd 17 rfl ?_); refine Kd.R_lit (Kd.int .i64) _ 3 rfl (N := 17) rfl (xs := ([] : List Int)) (inner := []) (ok := fun _ => True) (okp := fun _ => True) hS ?hp (fun _ hk => hk) trivial (Below.refl _ _) (Nat.le_refl _) (by simp) ?_; (case hp => exact (Reps.none _ _)); intro v474 w9 ho10 hb hg_ hnew_; clear hg_ hnew_; (first | rw [← Ny473.out] at ho10 | (simp only [Int.reduceToNat] at ho10; rw [← Ny473.out] at ho10)); replace HO_3 := Az (Kd.S_elder' (sU HO_3.out) (Kd.R_base ho10) hb); replace HO_4 := rB HO_4.out hb; have HO475 := Az (Kd.R_lower ho10 (below_size (bU0 HB.out))); replace HB := Az (below_step (bU0 HB.out) hb); clear hb ho10))
   go_loopg [6, 7] k1 (fun kq v6 v7 w' => ∃ (x4_2 : List Bool) (x6_2 : List Int) (x7_2 : Int), v7 = .int .i64 x7_2 ∧ Aside0 (impl_cyclesOf.l1 kq l0 x3_1 x4_2 x6_2 x7_2 (l0.length : Int) x14_1 = some r) ∧ Aside0 (kq ≤ k1) ∧ Aside0 (Kd.S (Kd.slice 3 (Kd.int .i64)) 23 w' w.heap.size (fun k_ => oV k_ v6) u3 x3_1) ∧ Aside0 (Kd.R Kd.bool 4 w' w.heap.size (fun _ => True) v471 x4_2) ∧ Aside0 (Kd.R (Kd.int .i64) 3 w' w.heap.size (fun _ => True) v6 x6_2) ∧ Aside0 (Below w.heap.size w w'))
   case atStart => exact ⟨(x4_1), (y473), (x14_1), rS, H', ⟨Nat.le_refl _⟩, ⟨by (with_reducible repeat (first | apply Kd.S_alloc | apply Kd.S_drewN | apply Kd.S_drew)); exact Kd.S_mono HO_3.out (fun _ hk => hk.2)⟩, ⟨rU HO_4.out⟩, ⟨rU HO475.out⟩, ⟨bU0 HB.out⟩⟩
   case round =>
    clear H'; obtain ⟨x4_2, x6_2, x7_2, rfl, HA, HK2, HO_3, HO_4, HO_6, HB⟩ := hrel
    rcases gk with _ | k2
    exact (nN HA.out).elim; have H := HA.out; clear HA; simp only [impl_cyclesOf.l1] at H; replace H := gD2 H; obtain ⟨c11b0, c12b0, H⟩ := H; obtain ⟨bq13, hbq13⟩ : ∃ b_ : Bool, b_ = (rdOf false x4_2 x7_2) := ⟨_, rfl⟩
    replace H : (if bq13 = true then (if (x6_2.length : Int) > 0 then (if x3_1.length < 5864062014805 then (impl_cyclesOf.l0 k2 l0 (x3_1 ++ [x6_2]) x4_2 (l0.length : Int) (wrap64 (x14_1 + 1))) else (none)) else (impl_cyclesOf.l0 k2 l0 x3_1 x4_2 (l0.length : Int) (wrap64 (x14_1 + 1)))) else (if x6_2.length < 17592186044416 then (if x7_2 < (l0.length : Int) then (impl_cyclesOf.l1 k2 l0 x3_1 (x4_2.set (x7_2 : Int).toNat true) (x6_2 ++ [x7_2]) (rd l0 x7_2) (l0.length : Int) x14_1) else (none)) else (none))) = some r := by rw [← hbq13] at H; exact H
    have Nbq13 := Az hbq13; clear hbq13
    by_cases c14 : bq13 = true
    ·
     subst c14; rw [if_pos rfl] at H
     by_cases c15 : (x6_2.length : Int) > 0
     ·
      rw [if_pos c15] at H; have c15b0 := decide_eq_true c15; have c15b1 : decide (0 < x6_2.length) = true := decide_eq_true (by omega); clear c15; replace H := gP H; obtain ⟨c16, H⟩ := H; have LMc16 := Az c16; clear c16; generalize Ny477 : (x3_1 ++ [x6_2] : List (List Int)) = y477 at H; replace Ny477 := Ay Ny477; have H' := Az H; clear H; obtain ⟨Ao17, co17, eo17⟩ := Kd.R_slice HO_4.out; subst eo17; obtain ⟨ad476, e476, p476, q476, hx476_0⟩ := aB (Kd.R_reads' HO_4.out).2.2 x7_2; rw [← Nbq13.out] at hx476_0
      cases e476; obtain ⟨Ao18, co18, eo18⟩ := Kd.R_slice HO_6.out; subst eo18
      go_wp2_with (first | ((with_reducible refine gate_builtin (b := .append) (xs := #[.tmp 38, .tmp 40]) rfl ?_); at_builtin; refine Kd.S_append (Kd.slice 3 (Kd.int .i64)) (w0 := w) w.heap.size rfl (.tmp 38) (.tmp 40) 82 23 (.slice none 0 0) 24 rfl Try.underlying82 info23 rfl (by decide) (by omega) u3 x3_1 x6_2 [.slice Ao18 x6_2.length co18] (fun _ => True) (fun k_ => some k_ = (.slice Ao18 x6_2.length co18 : Value).ownBlock) rfl rfl ?aP (fun k_ hk_ => ((Kd.R_mono (ok' := fun k_ => ((fun _ => True)) k_ ∧ oV k_ u3) (Kd.R_apart' (HO_6.out) (Kd.S_typed HO_3.out) (by decide)) (fun k_ hk => ⟨trivial, hk.2⟩))).1 k_ hk_.symm) ?aF ?aO ?aB ?aS ?aL ?_; (case aP => exact Kd.M_row (Kd.R_mono (Kd.R_tight rfl (Kd.R_mono (ok' := fun k_ => ((fun _ => True)) k_ ∧ oV k_ u3) (Kd.R_apart' (HO_6.out) (Kd.S_typed HO_3.out) (by decide)) (fun k_ hk => ⟨trivial, hk.2⟩))) (fun _ h_ => h_))); (case aB => exact (bU0 HB.out)); (case aF => exact (fun _ _ => trivial)); (case aO => exact (by (with_reducible repeat (first | apply Kd.S_alloc | apply Kd.S_drewN | apply Kd.S_drew)); exact Kd.S_mono HO_3.out (fun k_ hk => ⟨trivial, fun e_ => hk e_⟩))); (case aS => exact (below_size (bU0 HB.out))); (case aL => have := LMc16.out; omega); intro v478 w19 ho hb hg hat; rw [← Ny477.out] at ho; replace HO_4 := Az (Kd.R_over' (rU HO_4.out) (Kd.S_typed (sU HO_3.out)) (by decide) hg); replace HB := Az (hb); have HO479 := Az (ho); clear HO_3 HO_6 ho hb hg hat))
      go_roundg k2
      case measure => exact mO
      case rel => exact ⟨(y477), (x4_2), (wrap64 (x14_1 + 1)), rS, H', ⟨mO⟩, ⟨sU HO479.out⟩, ⟨rU HO_4.out⟩, ⟨bU0 HB.out⟩⟩
     ·
      rw [if_neg c15] at H; have c15b0 := decide_eq_false c15; have c15b1 : decide (0 < x6_2.length) = false := decide_eq_false (by omega); clear c15; have H' := Az H; clear H; obtain ⟨Ao20, co20, eo20⟩ := Kd.R_slice HO_4.out; subst eo20; obtain ⟨ad476, e476, p476, q476, hx476_0⟩ := aB (Kd.R_reads' HO_4.out).2.2 x7_2; rw [← Nbq13.out] at hx476_0
      cases e476; obtain ⟨Ao21, co21, eo21⟩ := Kd.R_slice HO_6.out; subst eo21; go_wp2; go_roundg k2
      case measure => exact mO
      case rel => exact ⟨(x3_1), (x4_2), (wrap64 (x14_1 + 1)), rS, H', ⟨mO⟩, ⟨sM HO_3.out⟩, ⟨rU HO_4.out⟩, ⟨bU0 HB.out⟩⟩
    ·
     replace c14 := Bool.eq_false_iff.mpr c14; subst c14; rw [if_neg nT] at H; generalize Ny480 : (x4_2.set (x7_2 : Int).toNat true : List Bool) = y480 at H; replace Ny480 := Ay Ny480; replace H := gP H; obtain ⟨c23, H⟩ := H; have LMc23 := Az c23; clear c23; generalize Ny481 : (x6_2 ++ [x7_2] : List Int) = y481 at H; replace Ny481 := Ay Ny481; replace H := gD1 H; obtain ⟨c24b0, H⟩ := H; have H' := Az H; clear H; obtain ⟨Ao25, co25, eo25⟩ := Kd.R_slice HO_4.out; subst eo25; obtain ⟨ad476, e476, p476, q476, hx476_0⟩ := aB (Kd.R_reads' HO_4.out).2.2 x7_2; rw [← Nbq13.out] at hx476_0
     cases e476; have p22 : 0 ≤ (x7_2 : Int) := oA; have q22 : (x7_2 : Int) < ((x4_2.length : Int) : Int) := oA; obtain ⟨go22, co22, eo22, gb22, gl22, cl22, HG22⟩ := Kd.R_form HO_4.out (by omega); (first | cases eo22 | (injection eo22 with ea_ en_ ec_; (first | subst ea_ | (injection ea_ with ea_; subst ea_)); subst ec_; clear en_)); have GB22 := Az gb22; have GG22 := Az HG22; clear gb22 gl22 HG22; simp only [add_plain] at hx476_0; obtain ⟨hx22_0, hf22_0⟩ := Kd.R_celln false HO_4.out (x7_2 : Int) p22 q22; replace p22 := eq_true p22; replace q22 := eq_true q22; obtain ⟨hy26_, hz26_⟩ := Kd.R_celln false HO_4.out (x7_2 : Int) (oA) (oA); have HP26 := Kd.R_putg HO_4.out (x7_2 : Int) true
     go_wp2_with (first | ((with_reducible refine gs 4 30 rfl ?_); refine sE 4 30 (wr.setCell ⟨go22, (x7_2 : Int).toNat, none⟩ (.bool true)) ?_; intro w27 hw; have hg : wr.grownBy w27 (some go22) := (by rw [hw]; exact HP26.2); have hp_ : Kd.R Kd.bool 4 w27 w.heap.size (fun _ => True) (.slice (some ⟨go22, 0, none⟩) x4_2.length co25) y480 := (by rw [hw, Ny480.out]; exact HP26.1); clear HP26; replace HO_3 := Az (Kd.S_over' (v := (.slice (some ⟨go22, 0, none⟩) x4_2.length co25)) (sU HO_3.out) (Kd.R_typed HO_4.out) (by decide) hg); replace HO_6 := Az (Kd.R_over' (v := (.slice (some ⟨go22, 0, none⟩) x4_2.length co25)) (rU HO_6.out) (Kd.R_typed HO_4.out) (by decide) hg); replace HO_4 := Az (hp_); replace HB := Az ((by rw [hw]; exact below_set (HB.out) GB22.out : Below w.heap.size w w27)); clear hg hw hp_) | ((with_reducible refine gate_builtin (b := .append) (xs := #[.tmp 31, .tmp 33]) rfl ?_); at_builtin; refine Kd.R_append (Kd.int .i64) (w0 := w) w.heap.size rfl (.tmp 31) (.tmp 33) 23 3 (.int .i64 0) 8 rfl Try.underlying23 info3 rfl (by decide) (by omega) u6 x6_2 x7_2 [.int .i64 x7_2] (fun _ => True) (fun _ => False) rfl rfl ?aP (fun _ hk => hk.elim) ?aF ?aO ?aB ?aS ?aL ?_; (case aP => exact rfl); (case aB => exact (bU0 HB.out)); (case aF => exact (fun _ _ => trivial)); (case aO => exact (rU HO_6.out)); (case aS => exact (below_size (bU0 HB.out))); (case aL => have := LMc23.out; omega); intro v482 w28 ho hb hg hat; rw [← Ny481.out] at ho; replace HO_3 := Az (Kd.S_after (ok := (fun _ => True)) (by (with_reducible repeat (first | apply Kd.S_alloc | apply Kd.S_drewN | apply Kd.S_drew)); exact Kd.S_mono HO_3.out (fun _ hk => ⟨trivial, hk⟩)) hg hat); replace HO_4 := Az (Kd.R_over' (rU HO_4.out) (Kd.R_typed (rU HO_6.out)) (by decide) hg); replace HB := Az (hb); have HO483 := Az (ho); clear HO_6 ho hb hg hat; obtain ⟨ad484, e484, _, _, hx484_0⟩ := aI HR0.out x7_2; cases e484; replace hx484_0 := hT HB.out hx484_0))
     go_roundg k2
     case measure => exact mO
     case rel => exact ⟨(y480), (y481), (rd l0 x7_2), rS, H', ⟨mO⟩, ⟨by (with_reducible repeat (first | apply Kd.S_alloc | apply Kd.S_drewN | apply Kd.S_drew)); exact Kd.S_mono HO_3.out (fun _ hk => hk.2)⟩, ⟨rU HO_4.out⟩, ⟨rU HO483.out⟩, ⟨bU0 HB.out⟩⟩
  · rw [if_neg c8] at H; have c8b0 := decide_eq_false c8; clear c8; obtain rfl := Option.some.inj H; go_wp2; go_ret; exact ⟨_, rE, sU HO_3.out, bU0 HB.out⟩
def impl_mul.l0 : Nat → List Int → List Int → List Int → Int → Int → Option (List Int)
 | 0, _, _, _, _, _ => none
 | k + 1, x1, x5, x11, x12, x13 => if x13 < x12 then (if 0 ≤ x13 then (if x13 < (x11.length : Int) then (if 0 ≤ (rd x11 x13) then (if (rd x11 x13) < (x1.length : Int) then (if x13 < (x5.length : Int) then (impl_mul.l0 k x1 (x5.set (x13 : Int).toNat (rd x1 (rd x11 x13))) x11 x12 (wrap64 (x13 + 1))) else (none)) else (none)) else (none)) else (none)) else (none)) else (some x5)
def impl_mul.f (k : Nat) (l0 : List Int) (l1 : List Int) : Option (List Int) := if 0 ≤ (l0.length : Int) then (if ((l0.length : Int) : Int).toNat ≤ 35184372088832 then (impl_mul.l0 k l1 (List.replicate ((l0.length : Int) : Int).toNat 0) l0 (l0.length : Int) 0) else (none)) else (none)
theorem impl_mul.mono_l : ∀ k, (∀ y0 y1 y2 y3 y4, LeO (impl_mul.l0 k y0 y1 y2 y3 y4) (impl_mul.l0 (k + 1) y0 y1 y2 y3 y4))
 | 0 => fun _ _ _ _ _ r h => by simp [impl_mul.l0] at h
 | k + 1 => by
  have ih0 := impl_mul.mono_l k
  ·
   intro y0 y1 y2 y3 y4
   unfold impl_mul.l0
   repeat' first
   | (with_reducible exact ih0 _ _ _ _ _)
   | (with_reducible exact LeO.refl _)
   | (with_reducible exact LeO.none _)
   | (with_reducible refine LeO.ite ?_ ?_)
   | (with_reducible refine LeO.bind ?_ (fun _ => ?_))
   | exact ih0 _ _ _ _ _
   | exact LeO.none _
   | refine LeO.ite ?_ ?_
   | refine LeO.bind ?_ (fun _ => ?_)
theorem impl_mul.mono : ∀ a0 a1 k, LeO (impl_mul.f k a0 a1) (impl_mul.f (k + 1) a0 a1) := by
 intro a0 a1 k; have ih0 := impl_mul.mono_l k
 unfold impl_mul.f
 repeat' first
   | (with_reducible exact ih0 _ _ _ _ _)
   | (with_reducible exact LeO.refl _)
   | (with_reducible exact LeO.none _)
   | (with_reducible refine LeO.ite ?_ ?_)
   | (with_reducible refine LeO.bind ?_ (fun _ => ?_))
   | exact ih0 _ _ _ _ _
   | exact LeO.none _
   | refine LeO.ite ?_ ?_
   | refine LeO.bind ?_ (fun _ => ?_)
set_option maxHeartbeats 8000000 in
set_option maxRecDepth 100000 in
theorem impl_mul.calls (k : Nat) (A0 : Option Addr) (c0 : Nat) (l0 : List Int) (A1 : Option Addr) (c1 : Nat) (l1 : List Int) (r : List Int) (w : World) (hr0 : Kd.C (Kd.int .i64) w A0 l0.length l0) (hc0 : l0.length ≤ c0) (hr1 : Kd.C (Kd.int .i64) w A1 l1.length l1) (hc1 : l1.length ≤ c1) (h : impl_mul.f k l0 l1 = some r) :
  Calls Try.prog 68 #[.slice A0 l0.length c0, .slice A1 l1.length c1] w fun e w' => ∃ v0_ : Value, e = .returned (v0_) ∧ Kd.R (Kd.int .i64) 3 w' w.heap.size (fun _ => True) v0_ r ∧ Below w.heap.size w w' := by
 have HR0 := Az hr0; have HC0 := Az hc0; clear hr0 hc0; have HR1 := Az hr1; have HC1 := Az hc1; clear hr1 hc1; have HB := bZ w; have H := h; clear h; unfold impl_mul.f at H; replace H := gE H; obtain ⟨c3b0, c3b1, H⟩ := H; replace H := gE H; obtain ⟨c4b0, c4b1, H⟩ := H; generalize Ny485 : (List.replicate ((l0.length : Int) : Int).toNat 0 : List Int) = y485 at H; replace Ny485 := Ay Ny485; have H' := Az H; clear H; go_enter Try.func68, Try.ntmps68
 go_wp2_with (first | ((with_reducible refine gd 10 rfl ?_); refine Kd.R_make (Kd.int .i64) _ 3 rfl (N := 10) rfl 23 _ _ rfl (l0.length : Int) rfl rfl Try.underlying23 (.int .i64 0) 8 info3 rfl (by decide) (by omega) 0 (ok := fun _ => True) (okp := fun _ => True) rfl (fun _ hk => hk) trivial (oA) (Nat.le_trans (Nat.mul_le_mul_right _ (oA : (l0.length : Int).toNat ≤ 35184372088832)) (by omega)) (Below.refl _ _) (Nat.le_refl _) ?_; intro v486 w5 ho6 hb hg_ hnew_; clear hg_ hnew_; (first | rw [← Ny485.out] at ho6 | (simp only [Int.reduceToNat] at ho6; rw [← Ny485.out] at ho6)); have HO487 := Az (Kd.R_lower ho6 (below_size (bU0 HB.out))); replace HB := Az (below_step (bU0 HB.out) hb); clear hb ho6))
 go_loopg [13] k (fun kq v13 w' => ∃ (x5_1 : List Int) (x13_1 : Int), v13 = .int .i64 x13_1 ∧ Aside0 (impl_mul.l0 kq l1 x5_1 l0 (l0.length : Int) x13_1 = some r) ∧ Aside0 (kq ≤ k) ∧ Aside0 (Kd.R (Kd.int .i64) 3 w' w.heap.size (fun _ => True) v486 x5_1) ∧ Aside0 (Below w.heap.size w w'))
 case atStart => exact ⟨(y485), (0), rS, H', ⟨Nat.le_refl _⟩, ⟨rU HO487.out⟩, ⟨bU0 HB.out⟩⟩
 case round =>
  clear H'; obtain ⟨x5_1, x13_1, rfl, HA, HK1, HO_5, HB⟩ := hrel
  rcases gk with _ | k1
  exact (nN HA.out).elim; have H := HA.out; clear HA; simp only [impl_mul.l0] at H
  replace H := gB H; rcases H with ⟨c7b0, H⟩ | ⟨c7b0, H⟩
  ·
   replace H := gD5 H; obtain ⟨c8b0, c9b0, c10b0, c11b0, c12b0, H⟩ := H; generalize Ny490 : (x5_1.set (x13_1 : Int).toNat (rd l1 (rd l0 x13_1)) : List Int) = y490 at H; replace Ny490 := Ay Ny490; have H' := Az H; clear H; obtain ⟨ad488, e488, _, _, hx488_0⟩ := aI HR0.out x13_1
   cases e488
   replace hx488_0 := hT HB.out hx488_0; obtain ⟨ad489, e489, _, _, hx489_0⟩ := aI HR1.out (rd l0 x13_1)
   cases e489
   replace hx489_0 := hT HB.out hx489_0; have p13 : 0 ≤ (x13_1 : Int) := oA; have q13 : (x13_1 : Int) < ((x5_1.length : Int) : Int) := oA; obtain ⟨go13, co13, eo13, gb13, gl13, cl13, HG13⟩ := Kd.R_form HO_5.out (by omega); (first | cases eo13 | (injection eo13 with ea_ en_ ec_; (first | subst ea_ | (injection ea_ with ea_; subst ea_)); subst ec_; clear en_)); have GB13 := Az gb13; have GG13 := Az HG13; clear gb13 gl13 HG13; obtain ⟨hx13_0, hf13_0⟩ := Kd.R_celln 0 HO_5.out (x13_1 : Int) p13 q13; replace p13 := eq_true p13; replace q13 := eq_true q13; obtain ⟨hy14_, hz14_⟩ := Kd.R_celln 0 HO_5.out (x13_1 : Int) (oA) (oA); have HP14 := Kd.R_putg HO_5.out (x13_1 : Int) (rd l1 (rd l0 x13_1))
   go_wp2_with (first | ((with_reducible refine gs 3 24 rfl ?_); refine sE 3 24 (wr.setCell ⟨go13, (x13_1 : Int).toNat, none⟩ (.int .i64 (rd l1 (rd l0 x13_1)))) ?_; intro w15 hw; have hg : wr.grownBy w15 (some go13) := (by rw [hw]; exact HP14.2); have hp_ : Kd.R (Kd.int .i64) 3 w15 w.heap.size (fun _ => True) (.slice (some ⟨go13, 0, none⟩) x5_1.length co13) y490 := (by rw [hw, Ny490.out]; exact HP14.1); clear HP14; replace HO_5 := Az (hp_); replace HB := Az ((by rw [hw]; exact below_set (HB.out) GB13.out : Below w.heap.size w w15)); clear hg hw hp_))
   go_roundg k1
   case measure => exact mO
   case rel => exact ⟨(y490), (wrap64 (x13_1 + 1)), rS, H', ⟨mO⟩, ⟨rU HO_5.out⟩, ⟨bU0 HB.out⟩⟩
  · obtain rfl := Option.some.inj H; go_wp2; go_ret; exact ⟨_, rE, rU HO_5.out, bU0 HB.out⟩
def impl_MapCounts.f (k : Nat) (l0_0 : List Int) (l0_1 : List Int) : Option (List Int × Bool) := (impl_MapValid.f k l0_0 l0_1).bind fun t492 => (if t492 = true then ((impl_cyclesOf.f k l0_0).bind fun t493 => ((impl_mul.f k l0_1 l0_0).bind fun t496 => ((impl_cyclesOf.f k t496).bind fun t499 => (some ((([(t493.length : Int), wrap64 ((l0_1.length : Int) / 2), (t499.length : Int)] : List Int)), true))))) else (some (([] : List Int), false)))
theorem impl_MapCounts.mono : ∀ a0 a1 k, LeO (impl_MapCounts.f k a0 a1) (impl_MapCounts.f (k + 1) a0 a1) := by
 intro a0 a1 k
 unfold impl_MapCounts.f
 repeat' first
   | (with_reducible exact impl_MapValid.mono _ _ _)
   | (with_reducible exact impl_cyclesOf.mono _ _)
   | (with_reducible exact impl_mul.mono _ _ _)
   | (with_reducible exact LeO.refl _)
   | (with_reducible exact LeO.none _)
   | (with_reducible refine LeO.ite ?_ ?_)
   | (with_reducible refine LeO.bind ?_ (fun _ => ?_))
   | exact impl_MapValid.mono _ _ _
   | exact impl_cyclesOf.mono _ _
   | exact impl_mul.mono _ _ _
   | exact LeO.none _
   | refine LeO.ite ?_ ?_
   | refine LeO.bind ?_ (fun _ => ?_)
def impl_MapCounts.T3 : Bool × List (List Nat × List Nat) := (true, [([], []), ([0], [0]), ([1], [1]), ([2], [2]), ([], []), ([4], [4]), ([5], [5]), ([6], [6]), ([], []), ([8], [8]), ([], []), ([10], [10]), ([9, 11, 2], [9, 11]), ([12, 12], [12]), ([13], [13]), ([3, 7, 14], [3, 7, 14]), ([15, 13, 0, 1, 2, 3, 4, 5, 6, 7, 8, 9, 10, 11, 12, 13, 14, 15], [15]), ([16, 0, 1, 2, 3, 4, 5, 6, 7, 8, 9, 10, 11, 12, 13, 14, 15, 16], [])])
def impl_MapCounts.B3 : List Nat := [0, 1, 3, 7, 0, 16, 48, 112, 0, 256, 0, 1024, 3847, 7943, 16135, 32767, 65535, 131071]
theorem impl_MapCounts.tab3 : rtab .any (opsOf Try.f19 3) = impl_MapCounts.T3 := by kernel_rfl
theorem impl_MapCounts.bits3 : waitsOk impl_MapCounts.T3.2 impl_MapCounts.B3 = true := by kernel_rfl
set_option maxHeartbeats 8000000 in
set_option maxRecDepth 100000 in
theorem impl_MapCounts.calls (k : Nat) (A0_0 : Option Addr) (c0_0 : Nat) (l0_0 : List Int) (A0_1 : Option Addr) (c0_1 : Nat) (l0_1 : List Int) (r1 : List Int) (r2 : Bool) (w : World) (hr0_0 : Kd.C (Kd.int .i64) w A0_0 l0_0.length l0_0) (hc0_0 : l0_0.length ≤ c0_0) (hr0_1 : Kd.C (Kd.int .i64) w A0_1 l0_1.length l0_1) (hc0_1 : l0_1.length ≤ c0_1) (h : impl_MapCounts.f k l0_0 l0_1 = some (r1, r2)) :
  Calls Try.prog 19 #[.agg #[.slice A0_0 l0_0.length c0_0, .slice A0_1 l0_1.length c0_1]] w fun e w' => ∃ v0_ : Value, e = .returned (.tuple #[v0_, .bool r2]) ∧ Kd.R (Kd.int .i64) 3 w' w.heap.size (fun _ => True) v0_ r1 ∧ Below w.heap.size w w' := by
 have hu29 := Try.underlying29; have HR0_0 := Az hr0_0; have HC0_0 := Az hc0_0; clear hr0_0 hc0_0; have HR0_1 := Az hr0_1; have HC0_1 := Az hc0_1; clear hr0_1 hc0_1; have HB := bZ w; have H := h; clear h; unfold impl_MapCounts.f at H; replace H := bd H; obtain ⟨t492, A2, H⟩ := H
 by_cases c3 : t492 = true
 ·
  subst c3; rw [if_pos rfl] at H; replace H := bd H; obtain ⟨t493, A4, H⟩ := H; replace H := bd H; obtain ⟨t496, A5, H⟩ := H; replace H := bd H; obtain ⟨t499, A6, H⟩ := H; generalize Ny502 : (([(t493.length : Int), wrap64 ((l0_1.length : Int) / 2), (t499.length : Int)] : List Int) : List Int) = y502 at H; replace Ny502 := Ay Ny502; simp only [Option.some.injEq, Prod.mk.injEq] at H; obtain ⟨rfl, rfl⟩ := H; go_enter Try.func19, Try.ntmps19
  try go_wp2_with (first | ((with_reducible refine gd 1 rfl ?_); refine bE 1 #[.slice A0_0 l0_0.length c0_0, .slice A0_1 l0_1.length c0_1] 29 ?_; intro gb491 hg w7 hbox hb; have BK491 := Az (hbox); have GW491 := gW hg (bU0 HB.out); replace HB := Az (below_step (bU0 HB.out) hb); clear hb hbox hg; have hz8 := bc2 BK491.out) | ((with_reducible refine gK 66 rfl ?_); refine gC (some 5) Try.func66 #[.agg #[.slice A0_0 l0_0.length c0_0, .slice A0_1 l0_1.length c0_1]] ?_; (with_reducible refine (impl_MapValid.calls k (fun k_ => k_ < w.heap.size) _ _ l0_0 (fun k_ => k_ < w.heap.size) _ _ l0_1 true _ ?_ ?_ A2.out).mono ?_); exact Kd.V_mk HC0_0.out (Kd.F_below (Kd.C_F (Kd.heap_int .i64) HR0_0.out) (bU1 HB.out GW491.out)); exact Kd.V_mk HC0_1.out (Kd.F_below (Kd.C_F (Kd.heap_int .i64) HR0_1.out) (bU1 HB.out GW491.out)); rintro e w9 ⟨rfl, hb⟩; refine ⟨_, rfl, ?_⟩; replace BK491 := kB BK491.out hb; replace HB := Az z6_0; clear hb))
  replace BK491 := Az (blk_drew BK491.out); replace HB := Az (below_drew1 HB.out); refine start_ (n := 18) (S := fun w' => w'.cell? ⟨gb491, 0, none⟩ = some (.slice A0_0 l0_0.length c0_0) ∧ w'.cell? ⟨gb491, 1, none⟩ = some (.slice A0_1 l0_1.length c0_1)) (ds := []) (bv 18 0) (by kernel_rfl) rfl rfl ⟨(blk_cell BK491.out 0).trans rfl, (blk_cell BK491.out 1).trans rfl⟩ (fun hHeld => ?_); refine with_tabW impl_MapCounts.tab3 impl_MapCounts.bits3 (fun HT_ HW_ => ?_); generalize w9.drew = w10 at BK491 HB hHeld ⊢; refine pure_ (i := 0) (N := some 7) (v := ?_) (a' := ?_) (bv 18 1) rfl rfl (any_of HT_.out (by kernel_rfl)) (fun _ _ _ h => h) (Or.inl ⟨by rfl, ?_⟩) ?_ ?_; rotate_left; (exact yP); rotate_left; (exact aP); refine pure_ (i := 4) (N := some 11) (v := ?_) (a' := ?_) (bv 18 17) rfl rfl (any_of HT_.out (by kernel_rfl)) (fun _ _ _ h => h) (Or.inl ⟨by rfl, ?_⟩) ?_ ?_; rotate_left; (exact yP); rotate_left; (exact aP); refine pure_ (i := 8) (N := some 15) (v := ?_) (a' := ?_) (bv 18 273) rfl rfl (any_of HT_.out (by kernel_rfl)) (fun _ _ _ h => h) (Or.inl ⟨by rfl, ?_⟩) ?_ ?_; rotate_left; (exact yP); rotate_left; (exact aP); refine pure_ (i := 10) (N := some 17) (v := ?_) (a' := ?_) (bv 18 1297) rfl rfl (any_of HT_.out (by kernel_rfl)) (fun _ _ _ h => h) (Or.inl ⟨by rfl, ?_⟩) ?_ ?_; rotate_left; (exact yP); rotate_left; (exact aP); refine take_ (i := 1) (N := some 8) (v := ?_) (a' := ?_) (bv 18 1299) rfl rfl (take_ofW HT_.out HW_.out (by kernel_rfl)) (fun _ _ _ h => h) (Or.inl ⟨by rfl, ?_⟩) hHeld ?_ ?_; rotate_left
  ·
   rintro w' ⟨s0, s1⟩; go_simp
   with_reducible rfl
  rotate_left; (exact aP); refine take_ (i := 5) (N := some 12) (v := ?_) (a' := ?_) (bv 18 1331) rfl rfl (take_ofW HT_.out HW_.out (by kernel_rfl)) (fun _ _ _ h => h) (Or.inl ⟨by rfl, ?_⟩) hHeld ?_ ?_; rotate_left
  ·
   rintro w' ⟨s0, s1⟩; go_simp
   with_reducible rfl
  rotate_left; (exact aP); refine pure_ (i := 6) (N := some 13) (v := ?_) (a' := ?_) (bv 18 1395) rfl rfl (any_of HT_.out (by kernel_rfl)) (fun _ _ _ h => h) (Or.inl ⟨by rfl, ?_⟩) ?_ ?_; rotate_left; (exact yP); rotate_left; (exact aP); refine pure_ (i := 7) (N := some 14) (v := ?_) (a' := ?_) (bv 18 1523) rfl rfl (any_of HT_.out (by kernel_rfl)) (fun _ _ _ h => h) (Or.inl ⟨by rfl, ?_⟩) ?_ ?_; rotate_left; (exact yP); rotate_left; (exact aP); refine take_ (i := 9) (N := some 16) (v := ?_) (a' := ?_) (bv 18 2035) rfl rfl (take_ofW HT_.out HW_.out (by kernel_rfl)) (fun _ _ _ h => h) (Or.inl ⟨by rfl, ?_⟩) hHeld ?_ ?_; rotate_left
  ·
   rintro w' ⟨s0, s1⟩; go_simp
   with_reducible rfl
  rotate_left; (exact aP); refine take_ (i := 11) (N := some 18) (v := ?_) (a' := ?_) (bv 18 4083) rfl rfl (take_ofW HT_.out HW_.out (by kernel_rfl)) (fun _ _ _ h => h) (Or.inl ⟨by rfl, ?_⟩) hHeld ?_ ?_; rotate_left
  ·
   rintro w' ⟨s0, s1⟩; go_simp
   with_reducible rfl
  rotate_left; (exact aP); refine one_ (i := 2) (N := some 9) (bv 18 4087) rfl rfl (one_of HT_.out (by kernel_rfl)) (by decide) (fun K hK => ?_); refine goes_ Try.func67 (by kernel_rfl) rfl #[.slice A0_0 l0_0.length c0_0] (by rfl) rfl rfl lQ ?_
  with_reducible refine (impl_cyclesOf.calls k _ _ l0_0 t493 _ ?side1 ?side2 A4.out).mono ?_
  (case side1 => exact cU (Kd.C_below HR0_0.out HB.out))
  (case side2 => exact HC0_0.out)
  rintro e w11 ⟨v494, rfl, ho0, hb⟩; refine ⟨_, rfl, ?_⟩; have HO495 := Az (Kd.S_lower ho0 (below_size (bU1 HB.out GW491.out))); replace BK491 := kB BK491.out hb; replace HB := Az z6_0; clear hb ho0; obtain ⟨Ao12, co12, eo12⟩ := Kd.S_slice HO495.out; (first | subst eo12 | (injection eo12 with f1_ f2_ f3_; have f4_ := f1_.symm; have f5_ := f3_.symm; clear f1_ f2_ f3_; subst f4_; subst f5_)); refine hK.out _ _ ⟨(blk_cell BK491.out 0).trans rfl, (blk_cell BK491.out 1).trans rfl⟩ (fun hHeld => ?_); clear hK K; refine norm_ (a' := ?_) ?_ ?_; rotate_left
  ·
   show Act.put _ (some 9) _ = _
   simp only [Act.put, List.setIfInBounds_toArray, List.set_cons_zero, List.set_cons_succ, i64_w, i32_w]; rfl
  refine pure_ (i := 3) (N := some 10) (v := ?_) (a' := ?_) (bv 18 4095) rfl rfl (any_of HT_.out (by kernel_rfl)) (fun _ _ _ h => h) (Or.inl ⟨by rfl, ?_⟩) ?_ ?_; rotate_left; (exact yP); rotate_left; (exact aP); refine one_ (i := 12) (N := some 19) (bv 18 8191) rfl rfl (one_of HT_.out (by kernel_rfl)) (by decide) (fun K hK => ?_); refine goes_ Try.func68 (by kernel_rfl) rfl #[.slice A0_1 l0_1.length c0_1, .slice A0_0 l0_0.length c0_0] (by rfl) rfl rfl lQ ?_
  with_reducible refine (impl_mul.calls k _ _ l0_1 _ _ l0_0 t496 _ ?side1 ?side2 ?side3 ?side4 A5.out).mono ?_
  (case side1 => exact cU (Kd.C_below HR0_1.out HB.out))
  (case side2 => exact HC0_1.out)
  (case side3 => exact cU (Kd.C_below HR0_0.out HB.out))
  (case side4 => exact HC0_0.out)
  rintro e w13 ⟨v497, rfl, ho0, hb⟩; refine ⟨_, rfl, ?_⟩; replace HO495 := Az (Kd.S_elder' (sU HO495.out) (Kd.R_base ho0) hb); have HO498 := Az (Kd.R_lower ho0 (below_size (bU1 HB.out GW491.out))); replace BK491 := kB BK491.out hb; replace HB := Az z6_0; clear hb ho0; obtain ⟨Ao14, co14, eo14⟩ := Kd.R_slice HO498.out; (first | subst eo14 | (injection eo14 with f1_ f2_ f3_; have f4_ := f1_.symm; have f5_ := f3_.symm; clear f1_ f2_ f3_; subst f4_; subst f5_)); refine hK.out _ _ ⟨(blk_cell BK491.out 0).trans rfl, (blk_cell BK491.out 1).trans rfl⟩ (fun hHeld => ?_); clear hK K; refine norm_ (a' := ?_) ?_ ?_; rotate_left
  ·
   show Act.put _ (some 19) _ = _
   simp only [Act.put, List.setIfInBounds_toArray, List.set_cons_zero, List.set_cons_succ, i64_w, i32_w]; rfl
  refine one_ (i := 13) (N := some 20) (bv 18 16383) rfl rfl (one_of HT_.out (by kernel_rfl)) (by decide) (fun K hK => ?_); refine goes_ Try.func67 (by kernel_rfl) rfl #[.slice Ao14 t496.length co14] (by rfl) rfl rfl lQ ?_
  with_reducible refine (impl_cyclesOf.calls k _ _ t496 t499 _ ?side1 ?side2 A6.out).mono ?_
  (case side1 => exact cU ((Kd.R_reads' HO498.out).2.2))
  (case side2 => exact (Kd.R_reads' HO498.out).2.1)
  rintro e w15 ⟨v500, rfl, ho0, hb⟩; refine ⟨_, rfl, ?_⟩; have HO501 := Az (Kd.S_lower (Kd.S_new' (Kd.S_new' ho0 (Kd.S_lt (sU HO495.out))) (Kd.R_lt (rU HO498.out))) (below_size (bU1 HB.out GW491.out))); replace HO495 := Az (Kd.S_elder' (sU HO495.out) (Kd.S_base ho0) hb); replace HO498 := rB HO498.out hb; replace BK491 := kB BK491.out hb; replace HB := Az z6_0; clear hb ho0; obtain ⟨Ao16, co16, eo16⟩ := Kd.S_slice HO501.out; (first | subst eo16 | (injection eo16 with f1_ f2_ f3_; have f4_ := f1_.symm; have f5_ := f3_.symm; clear f1_ f2_ f3_; subst f4_; subst f5_)); refine hK.out _ _ ⟨(blk_cell BK491.out 0).trans rfl, (blk_cell BK491.out 1).trans rfl⟩ (fun hHeld => ?_); clear hK K; refine norm_ (a' := ?_) ?_ ?_; rotate_left
  ·
   show Act.put _ (some 20) _ = _
   simp only [Act.put, List.setIfInBounds_toArray, List.set_cons_zero, List.set_cons_succ, i64_w, i32_w]; rfl
  refine pure_ (i := 14) (N := some 21) (v := ?_) (a' := ?_) (bv 18 32767) rfl rfl (any_of HT_.out (by kernel_rfl)) (fun _ _ _ h => h) (Or.inl ⟨by rfl, ?_⟩) ?_ ?_; rotate_left; (exact yP); rotate_left; (exact aP); refine one_ (i := 15) (N := some 22) (bv 18 65535) rfl rfl (one_of HT_.out (by kernel_rfl)) (by decide) (fun K hK => ?_); refine Kd.R_lit_step (Kd.int .i64) _ 3 ?hg (N := 22) ?hd (xs := ([(t493.length : Int), wrap64 ((l0_1.length : Int) / 2), (t499.length : Int)] : List Int)) (inner := [.int .i64 (t493.length : Int), .int .i64 (wrap64 ((l0_1.length : Int) / 2)), .int .i64 (t499.length : Int)]) (ok := fun _ => True) (okp := fun _ => True) ?hr ?hp (fun _ hk => hk) trivial (Below.refl _ _) (Nat.le_refl _) (by simp) ?_; (case hd => rfl); (case hg => rfl); (case hr => first | (go_simp; done) | (go_simp; rfl)); (case hp => exact (Reps.one (show Kd.M (Kd.int .i64) _ _ _ (t493.length : Int) [.int .i64 (t493.length : Int)] from rfl) (Reps.one (show Kd.M (Kd.int .i64) _ _ _ (wrap64 ((l0_1.length : Int) / 2)) [.int .i64 (wrap64 ((l0_1.length : Int) / 2))] from rfl) (Reps.one (show Kd.M (Kd.int .i64) _ _ _ (t499.length : Int) [.int .i64 (t499.length : Int)] from rfl) (Reps.none _ _))))); intro v503 w17 ho18 hb hg_ hnew_; clear hg_ hnew_; (first | rw [← Ny502.out] at ho18 | (simp only [Int.reduceToNat] at ho18; rw [← Ny502.out] at ho18)); replace HO495 := Az (Kd.S_elder' (sU HO495.out) (Kd.R_base ho18) hb); replace HO501 := Az (Kd.S_elder' (sU HO501.out) (Kd.R_base ho18) hb); have HO504 := Az (Kd.R_lower (Kd.R_new' ho18 (Kd.R_lt (rU HO498.out))) (below_size (bU1 HB.out GW491.out))); replace HO498 := Az (Kd.R_elder' (rU HO498.out) (Kd.R_base ho18) hb); replace BK491 := kB BK491.out hb; replace HB := Az z6_0; clear hb ho18; refine hK.out _ _ ⟨(blk_cell BK491.out 0).trans rfl, (blk_cell BK491.out 1).trans rfl⟩ (fun hHeld => ?_); clear hK K; refine norm_ (a' := ?_) ?_ ?_; rotate_left
  ·
   show Act.put _ (some 22) _ = _
   simp only [Act.put, List.setIfInBounds_toArray, List.set_cons_zero, List.set_cons_succ, i64_w, i32_w]; rfl
  refine pure_ (i := 16) (N := some 2) (v := ?_) (a' := ?_) (bv 18 131071) rfl rfl (any_of HT_.out (by kernel_rfl)) (fun _ _ _ h => h) (Or.inl ⟨by rfl, ?_⟩) ?_ ?_; rotate_left; (exact yP); rotate_left; (exact aP); refine pure_ (i := 17) (N := some 3) (v := ?_) (a' := ?_) (bv 18 262143) rfl rfl (any_of HT_.out (by kernel_rfl)) (fun _ _ _ h => h) (Or.inl ⟨by rfl, ?_⟩) ?_ ?_; rotate_left; (exact yP); rotate_left; (exact aP); refine done_ (done_of HT_.out (by kernel_rfl)) ?_
  try go_wp2
  go_ret2
  exact ⟨_, rE, by (with_reducible repeat (first | apply Kd.R_alloc | apply Kd.R_drewN | apply Kd.R_drew)); exact Kd.R_mono HO504.out (fun _ hk => trivial), bU1 HB.out GW491.out⟩
 ·
  replace c3 := Bool.eq_false_iff.mpr c3; subst c3; rw [if_neg nT] at H; simp only [Option.some.injEq, Prod.mk.injEq] at H; obtain ⟨rfl, rfl⟩ := H; go_enter Try.func19, Try.ntmps19
  go_wp2_with (first | ((with_reducible refine gd 1 rfl ?_); refine bE 1 #[.slice A0_0 l0_0.length c0_0, .slice A0_1 l0_1.length c0_1] 29 ?_; intro gb491 hg w19 hbox hb; have BK491 := Az (hbox); have GW491 := gW hg (bU0 HB.out); replace HB := Az (below_step (bU0 HB.out) hb); clear hb hbox hg; have hz20 := bc2 BK491.out) | ((with_reducible refine gK 66 rfl ?_); refine gC (some 5) Try.func66 #[.agg #[.slice A0_0 l0_0.length c0_0, .slice A0_1 l0_1.length c0_1]] ?_; (with_reducible refine (impl_MapValid.calls k (fun k_ => k_ < w.heap.size) _ _ l0_0 (fun k_ => k_ < w.heap.size) _ _ l0_1 false _ ?_ ?_ A2.out).mono ?_); exact Kd.V_mk HC0_0.out (Kd.F_below (Kd.C_F (Kd.heap_int .i64) HR0_0.out) (bU1 HB.out GW491.out)); exact Kd.V_mk HC0_1.out (Kd.F_below (Kd.C_F (Kd.heap_int .i64) HR0_1.out) (bU1 HB.out GW491.out)); rintro e w21 ⟨rfl, hb⟩; refine ⟨_, rfl, ?_⟩; replace BK491 := kB BK491.out hb; replace HB := Az z6_0; clear hb))
  go_ret2
  exact ⟨_, rE, by first | exact Kd.R_nil _ _ _ _ _ | exact Kd.N_nil _ _ _ _ _ | exact Kd.V_nil _ _ _ _ _ | exact Kd.Q_nil _ _ _ _ _ | exact Kd.S_nil _ _ _ _ _, bU1 HB.out GW491.out⟩
def laws_sameTree.f (k : Nat) (a0_0 : ByteArray) (l0_1 : List Int) (a1_0 : ByteArray) (l1_1 : List Int) : Option (Bool) := if a0_0.toList = a1_0.toList then ((laws_sameInts.f k l0_1 l1_1).bind fun t507 => (some t507)) else (some false)
theorem laws_sameTree.mono : ∀ a0 a1 a2 a3 k, LeO (laws_sameTree.f k a0 a1 a2 a3) (laws_sameTree.f (k + 1) a0 a1 a2 a3) := by
 intro a0 a1 a2 a3 k
 unfold laws_sameTree.f
 repeat' first
   | (with_reducible exact laws_sameInts.mono _ _ _)
   | (with_reducible exact LeO.refl _)
   | (with_reducible exact LeO.none _)
   | (with_reducible refine LeO.ite ?_ ?_)
   | (with_reducible refine LeO.bind ?_ (fun _ => ?_))
   | exact laws_sameInts.mono _ _ _
   | exact LeO.none _
   | refine LeO.ite ?_ ?_
   | refine LeO.bind ?_ (fun _ => ?_)
set_option maxHeartbeats 8000000 in
set_option maxRecDepth 100000 in
theorem laws_sameTree.calls (k : Nat) (a0_0 : ByteArray) (A0_1 : Option Addr) (c0_1 : Nat) (l0_1 : List Int) (a1_0 : ByteArray) (A1_1 : Option Addr) (c1_1 : Nat) (l1_1 : List Int) (r : Bool) (w : World) (hr0_1 : Kd.C (Kd.int .i64) w A0_1 l0_1.length l0_1) (hc0_1 : l0_1.length ≤ c0_1) (hr1_1 : Kd.C (Kd.int .i64) w A1_1 l1_1.length l1_1) (hc1_1 : l1_1.length ≤ c1_1) (h : laws_sameTree.f k a0_0 l0_1 a1_0 l1_1 = some r) :
  Calls Try.prog 35 #[.agg #[.string a0_0, .slice A0_1 l0_1.length c0_1], .agg #[.string a1_0, .slice A1_1 l1_1.length c1_1]] w fun e w' => e = .returned (.bool r) ∧ Below w.heap.size w w' := by
 have hu25 := Try.underlying25; have HR0_1 := Az hr0_1; have HC0_1 := Az hc0_1; clear hr0_1 hc0_1; have HR1_1 := Az hr1_1; have HC1_1 := Az hc1_1; clear hr1_1 hc1_1; have HB := bZ w; have H := h; clear h; unfold laws_sameTree.f at H
 replace H := gQ H; rcases H with ⟨c3b0, c3b1, H⟩ | ⟨c3b0, c3b1, H⟩
 ·
  replace H := bd H; obtain ⟨t507, A4, H⟩ := H; obtain rfl := Option.some.inj H; go_enter Try.func35, Try.ntmps35
  go_wp2_with (first | ((with_reducible refine gd 2 rfl ?_); refine bE 2 #[.string a0_0, .slice A0_1 l0_1.length c0_1] 25 ?_; intro gb505 hg w5 hbox hb; have BK505 := Az (hbox); have GW505 := gW hg (bU0 HB.out); replace HB := Az (below_step (bU0 HB.out) hb); clear hb hbox hg) | ((with_reducible refine gd 3 rfl ?_); refine bE 3 #[.string a1_0, .slice A1_1 l1_1.length c1_1] 25 ?_; intro gb506 hg w6 hbox hb; have BK506 := Az (hbox); have GW506 := gW hg (bU1 HB.out GW505.out); replace HB := Az (below_step (bU1 HB.out GW505.out) hb); have NB505_506 := nL hg (kU BK505.out); replace BK505 := kB BK505.out hb; clear hb hbox hg; have hnb7 := NB505_506.out; have hnc7 := (NB505_506.out).symm; have hz8 := bc2 BK505.out; have hz9 := bc2 BK506.out) | (go_at_call 41; (with_reducible refine (laws_sameInts.calls k _ _ l0_1 _ _ l1_1 t507 _ ?_ ?_ ?_ ?_ A4.out).mono ?_); exact cU (Kd.C_below HR0_1.out HB.out); exact HC0_1.out; exact cU (Kd.C_below HR1_1.out HB.out); exact HC1_1.out; rintro e w' ⟨rfl, ⟨nd, rfl⟩⟩))
  go_ret; exact ⟨rE, bU2 HB.out GW505.out GW506.out⟩
 ·
  obtain rfl := Option.some.inj H; go_enter Try.func35, Try.ntmps35
  go_wp2_with (first | ((with_reducible refine gd 2 rfl ?_); refine bE 2 #[.string a0_0, .slice A0_1 l0_1.length c0_1] 25 ?_; intro gb505 hg w10 hbox hb; have BK505 := Az (hbox); have GW505 := gW hg (bU0 HB.out); replace HB := Az (below_step (bU0 HB.out) hb); clear hb hbox hg) | ((with_reducible refine gd 3 rfl ?_); refine bE 3 #[.string a1_0, .slice A1_1 l1_1.length c1_1] 25 ?_; intro gb506 hg w11 hbox hb; have BK506 := Az (hbox); have GW506 := gW hg (bU1 HB.out GW505.out); replace HB := Az (below_step (bU1 HB.out GW505.out) hb); have NB505_506 := nL hg (kU BK505.out); replace BK505 := kB BK505.out hb; clear hb hbox hg; have hnb12 := NB505_506.out; have hnc12 := (NB505_506.out).symm; have hz13 := bc2 BK505.out; have hz14 := bc2 BK506.out))
  go_ret; exact ⟨rE, bU2 HB.out GW505.out GW506.out⟩
def impl_genusOf.f (k : Nat) (l0_0 : List Int) (l0_1 : List Int) : Option (Int) := (impl_cyclesOf.f k l0_0).bind fun t509 => ((impl_mul.f k l0_1 l0_0).bind fun t512 => ((impl_cyclesOf.f k t512).bind fun t515 => (some (wrap64 (Int.tdiv (wrap64 ((wrap64 ((wrap64 (2 - (t509.length : Int))) + (wrap64 ((l0_1.length : Int) / 2)))) - (t515.length : Int))) 2)))))
theorem impl_genusOf.mono : ∀ a0 a1 k, LeO (impl_genusOf.f k a0 a1) (impl_genusOf.f (k + 1) a0 a1) := by
 intro a0 a1 k
 unfold impl_genusOf.f
 repeat' first
   | (with_reducible exact impl_cyclesOf.mono _ _)
   | (with_reducible exact impl_mul.mono _ _ _)
   | (with_reducible exact LeO.refl _)
   | (with_reducible exact LeO.none _)
   | (with_reducible refine LeO.ite ?_ ?_)
   | (with_reducible refine LeO.bind ?_ (fun _ => ?_))
   | exact impl_cyclesOf.mono _ _
   | exact impl_mul.mono _ _ _
   | exact LeO.none _
   | refine LeO.ite ?_ ?_
   | refine LeO.bind ?_ (fun _ => ?_)
def impl_genusOf.T1 : Bool × List (List Nat × List Nat) := (true, [([], []), ([0], [0]), ([1], [1]), ([2], [2]), ([3], [3]), ([], []), ([5], [5]), ([6], [6]), ([7], [7]), ([4, 8], [4, 8]), ([], []), ([10], [10]), ([], []), ([12], [12]), ([11, 13, 2], [11, 13]), ([14, 14], [14]), ([15], [15]), ([9, 16], [9, 16]), ([17], [17]), ([18, 15, 0, 1, 2, 3, 4, 5, 6, 7, 8, 9, 10, 11, 12, 13, 14, 15, 16, 17, 18], [18])])
def impl_genusOf.B1 : List Nat := [0, 1, 3, 7, 15, 0, 32, 96, 224, 511, 0, 1024, 0, 4096, 15367, 31751, 64519, 131071, 262143, 524287]
theorem impl_genusOf.tab1 : rtab .any (opsOf Try.f87 1) = impl_genusOf.T1 := by kernel_rfl
theorem impl_genusOf.bits1 : waitsOk impl_genusOf.T1.2 impl_genusOf.B1 = true := by kernel_rfl
set_option maxHeartbeats 8000000 in
set_option maxRecDepth 100000 in
theorem impl_genusOf.calls (k : Nat) (A0_0 : Option Addr) (c0_0 : Nat) (l0_0 : List Int) (A0_1 : Option Addr) (c0_1 : Nat) (l0_1 : List Int) (r : Int) (w : World) (hr0_0 : Kd.C (Kd.int .i64) w A0_0 l0_0.length l0_0) (hc0_0 : l0_0.length ≤ c0_0) (hr0_1 : Kd.C (Kd.int .i64) w A0_1 l0_1.length l0_1) (hc0_1 : l0_1.length ≤ c0_1) (h : impl_genusOf.f k l0_0 l0_1 = some r) :
  Calls Try.prog 87 #[.agg #[.slice A0_0 l0_0.length c0_0, .slice A0_1 l0_1.length c0_1]] w fun e w' => e = .returned (.int .i64 r) ∧ Below w.heap.size w w' := by
 have hu29 := Try.underlying29; have HR0_0 := Az hr0_0; have HC0_0 := Az hc0_0; clear hr0_0 hc0_0; have HR0_1 := Az hr0_1; have HC0_1 := Az hc0_1; clear hr0_1 hc0_1; have HB := bZ w; have H := h; clear h; unfold impl_genusOf.f at H; replace H := bd H; obtain ⟨t509, A2, H⟩ := H; replace H := bd H; obtain ⟨t512, A3, H⟩ := H; replace H := bd H; obtain ⟨t515, A4, H⟩ := H; obtain rfl := Option.some.inj H; go_enter Try.func87, Try.ntmps87
 try go_wp2_with (first | ((with_reducible refine gd 1 rfl ?_); refine bE 1 #[.slice A0_0 l0_0.length c0_0, .slice A0_1 l0_1.length c0_1] 29 ?_; intro gb508 hg w5 hbox hb; have BK508 := Az (hbox); have GW508 := gW hg (bU0 HB.out); replace HB := Az (below_step (bU0 HB.out) hb); clear hb hbox hg))
 replace BK508 := Az (blk_drew BK508.out); replace HB := Az (below_drew1 HB.out); refine start_ (n := 20) (S := fun w' => w'.cell? ⟨gb508, 0, none⟩ = some (.slice A0_0 l0_0.length c0_0) ∧ w'.cell? ⟨gb508, 1, none⟩ = some (.slice A0_1 l0_1.length c0_1)) (ds := []) (bv 20 0) (by kernel_rfl) rfl rfl ⟨(blk_cell BK508.out 0).trans rfl, (blk_cell BK508.out 1).trans rfl⟩ (fun hHeld => ?_); refine with_tabW impl_genusOf.tab1 impl_genusOf.bits1 (fun HT_ HW_ => ?_); generalize w5.drew = w6 at BK508 HB hHeld ⊢; refine pure_ (i := 0) (N := some 3) (v := ?_) (a' := ?_) (bv 20 1) rfl rfl (any_of HT_.out (by kernel_rfl)) (fun _ _ _ h => h) (Or.inl ⟨by rfl, ?_⟩) ?_ ?_; rotate_left; (exact yP); rotate_left; (exact aP); refine pure_ (i := 5) (N := some 8) (v := ?_) (a' := ?_) (bv 20 33) rfl rfl (any_of HT_.out (by kernel_rfl)) (fun _ _ _ h => h) (Or.inl ⟨by rfl, ?_⟩) ?_ ?_; rotate_left; (exact yP); rotate_left; (exact aP); refine pure_ (i := 10) (N := some 13) (v := ?_) (a' := ?_) (bv 20 1057) rfl rfl (any_of HT_.out (by kernel_rfl)) (fun _ _ _ h => h) (Or.inl ⟨by rfl, ?_⟩) ?_ ?_; rotate_left; (exact yP); rotate_left; (exact aP); refine pure_ (i := 12) (N := some 15) (v := ?_) (a' := ?_) (bv 20 5153) rfl rfl (any_of HT_.out (by kernel_rfl)) (fun _ _ _ h => h) (Or.inl ⟨by rfl, ?_⟩) ?_ ?_; rotate_left; (exact yP); rotate_left; (exact aP); refine take_ (i := 1) (N := some 4) (v := ?_) (a' := ?_) (bv 20 5155) rfl rfl (take_ofW HT_.out HW_.out (by kernel_rfl)) (fun _ _ _ h => h) (Or.inl ⟨by rfl, ?_⟩) hHeld ?_ ?_; rotate_left
 ·
  rintro w' ⟨s0, s1⟩; go_simp
  with_reducible rfl
 rotate_left; (exact aP); refine take_ (i := 6) (N := some 9) (v := ?_) (a' := ?_) (bv 20 5219) rfl rfl (take_ofW HT_.out HW_.out (by kernel_rfl)) (fun _ _ _ h => h) (Or.inl ⟨by rfl, ?_⟩) hHeld ?_ ?_; rotate_left
 ·
  rintro w' ⟨s0, s1⟩; go_simp
  with_reducible rfl
 rotate_left; (exact aP); refine pure_ (i := 7) (N := some 10) (v := ?_) (a' := ?_) (bv 20 5347) rfl rfl (any_of HT_.out (by kernel_rfl)) (fun _ _ _ h => h) (Or.inl ⟨by rfl, ?_⟩) ?_ ?_; rotate_left; (exact yP); rotate_left; (exact aP); refine pure_ (i := 8) (N := some 11) (v := ?_) (a' := ?_) (bv 20 5603) rfl rfl (any_of HT_.out (by kernel_rfl)) (fun _ _ _ h => h) (Or.inl ⟨by rfl, ?_⟩) ?_ ?_; rotate_left; (exact yP); rotate_left; (exact aP); refine take_ (i := 11) (N := some 14) (v := ?_) (a' := ?_) (bv 20 7651) rfl rfl (take_ofW HT_.out HW_.out (by kernel_rfl)) (fun _ _ _ h => h) (Or.inl ⟨by rfl, ?_⟩) hHeld ?_ ?_; rotate_left
 ·
  rintro w' ⟨s0, s1⟩; go_simp
  with_reducible rfl
 rotate_left; (exact aP); refine take_ (i := 13) (N := some 16) (v := ?_) (a' := ?_) (bv 20 15843) rfl rfl (take_ofW HT_.out HW_.out (by kernel_rfl)) (fun _ _ _ h => h) (Or.inl ⟨by rfl, ?_⟩) hHeld ?_ ?_; rotate_left
 ·
  rintro w' ⟨s0, s1⟩; go_simp
  with_reducible rfl
 rotate_left; (exact aP); refine one_ (i := 2) (N := some 5) (bv 20 15847) rfl rfl (one_of HT_.out (by kernel_rfl)) (by decide) (fun K hK => ?_); refine goes_ Try.func67 (by kernel_rfl) rfl #[.slice A0_0 l0_0.length c0_0] (by rfl) rfl rfl lQ ?_
 with_reducible refine (impl_cyclesOf.calls k _ _ l0_0 t509 _ ?side1 ?side2 A2.out).mono ?_
 (case side1 => exact cU (Kd.C_below HR0_0.out HB.out))
 (case side2 => exact HC0_0.out)
 rintro e w7 ⟨v510, rfl, ho0, hb⟩; refine ⟨_, rfl, ?_⟩; have HO511 := Az (Kd.S_lower ho0 (below_size (bU1 HB.out GW508.out))); replace BK508 := kB BK508.out hb; replace HB := Az (below_step (bU1 HB.out GW508.out) hb); clear hb ho0; obtain ⟨Ao8, co8, eo8⟩ := Kd.S_slice HO511.out; (first | subst eo8 | (injection eo8 with f1_ f2_ f3_; have f4_ := f1_.symm; have f5_ := f3_.symm; clear f1_ f2_ f3_; subst f4_; subst f5_)); refine hK.out _ _ ⟨(blk_cell BK508.out 0).trans rfl, (blk_cell BK508.out 1).trans rfl⟩ (fun hHeld => ?_); clear hK K; refine norm_ (a' := ?_) ?_ ?_; rotate_left
 ·
  show Act.put _ (some 5) _ = _
  simp only [Act.put, List.setIfInBounds_toArray, List.set_cons_zero, List.set_cons_succ, i64_w, i32_w]; rfl
 refine pure_ (i := 3) (N := some 6) (v := ?_) (a' := ?_) (bv 20 15855) rfl rfl (any_of HT_.out (by kernel_rfl)) (fun _ _ _ h => h) (Or.inl ⟨by rfl, ?_⟩) ?_ ?_; rotate_left; (exact yP); rotate_left; (exact aP); refine pure_ (i := 4) (N := some 7) (v := ?_) (a' := ?_) (bv 20 15871) rfl rfl (any_of HT_.out (by kernel_rfl)) (fun _ _ _ h => h) (Or.inl ⟨by rfl, ?_⟩) ?_ ?_; rotate_left; (exact yP); rotate_left; (exact aP); refine pure_ (i := 9) (N := some 12) (v := ?_) (a' := ?_) (bv 20 16383) rfl rfl (any_of HT_.out (by kernel_rfl)) (fun _ _ _ h => h) (Or.inl ⟨by rfl, ?_⟩) ?_ ?_; rotate_left; (exact yP); rotate_left; (exact aP); refine one_ (i := 14) (N := some 17) (bv 20 32767) rfl rfl (one_of HT_.out (by kernel_rfl)) (by decide) (fun K hK => ?_); refine goes_ Try.func68 (by kernel_rfl) rfl #[.slice A0_1 l0_1.length c0_1, .slice A0_0 l0_0.length c0_0] (by rfl) rfl rfl lQ ?_
 with_reducible refine (impl_mul.calls k _ _ l0_1 _ _ l0_0 t512 _ ?side1 ?side2 ?side3 ?side4 A3.out).mono ?_
 (case side1 => exact cU (Kd.C_below HR0_1.out HB.out))
 (case side2 => exact HC0_1.out)
 (case side3 => exact cU (Kd.C_below HR0_0.out HB.out))
 (case side4 => exact HC0_0.out)
 rintro e w9 ⟨v513, rfl, ho0, hb⟩; refine ⟨_, rfl, ?_⟩; replace HO511 := Az (Kd.S_elder' (sU HO511.out) (Kd.R_base ho0) hb); have HO514 := Az (Kd.R_lower ho0 (below_size (bU1 HB.out GW508.out))); replace BK508 := kB BK508.out hb; replace HB := Az (below_step (bU1 HB.out GW508.out) hb); clear hb ho0; obtain ⟨Ao10, co10, eo10⟩ := Kd.R_slice HO514.out; (first | subst eo10 | (injection eo10 with f1_ f2_ f3_; have f4_ := f1_.symm; have f5_ := f3_.symm; clear f1_ f2_ f3_; subst f4_; subst f5_)); refine hK.out _ _ ⟨(blk_cell BK508.out 0).trans rfl, (blk_cell BK508.out 1).trans rfl⟩ (fun hHeld => ?_); clear hK K; refine norm_ (a' := ?_) ?_ ?_; rotate_left
 ·
  show Act.put _ (some 17) _ = _
  simp only [Act.put, List.setIfInBounds_toArray, List.set_cons_zero, List.set_cons_succ, i64_w, i32_w]; rfl
 refine one_ (i := 15) (N := some 18) (bv 20 65535) rfl rfl (one_of HT_.out (by kernel_rfl)) (by decide) (fun K hK => ?_); refine goes_ Try.func67 (by kernel_rfl) rfl #[.slice Ao10 t512.length co10] (by rfl) rfl rfl lQ ?_
 with_reducible refine (impl_cyclesOf.calls k _ _ t512 t515 _ ?side1 ?side2 A4.out).mono ?_
 (case side1 => exact cU ((Kd.R_reads' HO514.out).2.2))
 (case side2 => exact (Kd.R_reads' HO514.out).2.1)
 rintro e w11 ⟨v516, rfl, ho0, hb⟩; refine ⟨_, rfl, ?_⟩; have HO517 := Az (Kd.S_lower (Kd.S_new' (Kd.S_new' ho0 (Kd.S_lt (sU HO511.out))) (Kd.R_lt (rU HO514.out))) (below_size (bU1 HB.out GW508.out))); replace HO511 := Az (Kd.S_elder' (sU HO511.out) (Kd.S_base ho0) hb); replace HO514 := rB HO514.out hb; replace BK508 := kB BK508.out hb; replace HB := Az (below_step (bU1 HB.out GW508.out) hb); clear hb ho0; obtain ⟨Ao12, co12, eo12⟩ := Kd.S_slice HO517.out; (first | subst eo12 | (injection eo12 with f1_ f2_ f3_; have f4_ := f1_.symm; have f5_ := f3_.symm; clear f1_ f2_ f3_; subst f4_; subst f5_)); refine hK.out _ _ ⟨(blk_cell BK508.out 0).trans rfl, (blk_cell BK508.out 1).trans rfl⟩ (fun hHeld => ?_); clear hK K; refine norm_ (a' := ?_) ?_ ?_; rotate_left
 ·
  show Act.put _ (some 18) _ = _
  simp only [Act.put, List.setIfInBounds_toArray, List.set_cons_zero, List.set_cons_succ, i64_w, i32_w]; rfl
 refine pure_ (i := 16) (N := some 19) (v := ?_) (a' := ?_) (bv 20 131071) rfl rfl (any_of HT_.out (by kernel_rfl)) (fun _ _ _ h => h) (Or.inl ⟨by rfl, ?_⟩) ?_ ?_; rotate_left; (exact yP); rotate_left; (exact aP); refine pure_ (i := 17) (N := some 20) (v := ?_) (a' := ?_) (bv 20 262143) rfl rfl (any_of HT_.out (by kernel_rfl)) (fun _ _ _ h => h) (Or.inl ⟨by rfl, ?_⟩) ?_ ?_; rotate_left; (exact yP); rotate_left; (exact aP); refine pure_ (i := 18) (N := some 21) (v := ?_) (a' := ?_) (bv 20 524287) rfl rfl (any_of HT_.out (by kernel_rfl)) (fun _ _ _ h => h) (Or.inl ⟨by rfl, ?_⟩) ?_ ?_; rotate_left; (exact yP); rotate_left; (exact aP); refine pure_ (i := 19) (N := some 2) (v := ?_) (a' := ?_) (bv 20 1048575) rfl rfl (any_of HT_.out (by kernel_rfl)) (fun _ _ _ h => h) (Or.inl ⟨by rfl, ?_⟩) ?_ ?_; rotate_left; (exact yP); rotate_left; (exact aP); refine done_ (done_of HT_.out (by kernel_rfl)) ?_
 try go_wp2
 go_ret; exact ⟨rE, bU1 HB.out GW508.out⟩
def laysSort_ren : Go.Shelf.Ren := ⟨fun | 189 => 123 | 125 => 130 | 257 => 129 | 128 => 141 | 129 => 142 | 294 => 132 | 295 => 133 | 296 => 134 | 297 => 135 | 298 => 136 | 299 => 137 | 216 => 138 | 300 => 139 | 301 => 140 | 328 => 143 | 329 => 144 | 330 => 145 | 331 => 146 | 332 => 147 | 215 => 131 | 343 => 148 | n => n, fun | 28 => 23 | 3 => 3 | 46 => 115 | 0 => 0 | 51 => 127 | 53 => 129 | 4 => 4 | 183 => 119 | 182 => 118 | 131 => 124 | 5 => 5 | 9 => 9 | 218 => 130 | 222 => 134 | 228 => 136 | 229 => 137 | n => n, fun | n => n⟩
theorem laysSort : Lays.n189 Try.prog laysSort_ren := { mixed := by kernel_rfl, f125 := Try.func130.trans (congrArg some (by kernel_rfl)), f128 := Try.func141.trans (congrArg some (by kernel_rfl)), f129 := Try.func142.trans (congrArg some (by kernel_rfl)), f189 := Try.func123.trans (congrArg some (by kernel_rfl)), f215 := Try.func131.trans (congrArg some (by kernel_rfl)), f216 := Try.func138.trans (congrArg some (by kernel_rfl)), f257 := Try.func129.trans (congrArg some (by kernel_rfl)), f294 := Try.func132.trans (congrArg some (by kernel_rfl)), f295 := Try.func133.trans (congrArg some (by kernel_rfl)), f296 := Try.func134.trans (congrArg some (by kernel_rfl)), f297 := Try.func135.trans (congrArg some (by kernel_rfl)), f298 := Try.func136.trans (congrArg some (by kernel_rfl)), f299 := Try.func137.trans (congrArg some (by kernel_rfl)), f300 := Try.func139.trans (congrArg some (by kernel_rfl)), f301 := Try.func140.trans (congrArg some (by kernel_rfl)), f328 := Try.func143.trans (congrArg some (by kernel_rfl)), f329 := Try.func144.trans (congrArg some (by kernel_rfl)), f330 := Try.func145.trans (congrArg some (by kernel_rfl)), f331 := Try.func146.trans (congrArg some (by kernel_rfl)), f332 := Try.func147.trans (congrArg some (by kernel_rfl)), f343 := Try.func148.trans (congrArg some (by kernel_rfl)), t0 := Try.underlying0, a0 := Try.isAgg0, z0 := Try.sizeOf0, v0 := Try.zeroValue0, t3 := Try.underlying3, a3 := Try.isAgg3, z3 := Try.sizeOf3, v3 := Try.zeroValue3, t4 := Try.underlying4, a4 := Try.isAgg4, z4 := Try.sizeOf4, v4 := Try.zeroValue4, t5 := Try.underlying5, a5 := Try.isAgg5, z5 := Try.sizeOf5, v5 := Try.zeroValue5, t9 := Try.underlying9, a9 := Try.isAgg9, z9 := Try.sizeOf9, v9 := Try.zeroValue9, t28 := Try.underlying23, a28 := Try.isAgg23, z28 := Try.sizeOf23, v28 := Try.zeroValue23, t46 := Try.underlying115, a46 := Try.isAgg115, z46 := Try.sizeOf115, v46 := Try.zeroValue115, t51 := Try.underlying127, a51 := Try.isAgg127, z51 := Try.sizeOf127, v51 := Try.zeroValue127, t53 := Try.underlying129, a53 := Try.isAgg129, z53 := Try.sizeOf129, v53 := Try.zeroValue129, t131 := Try.underlying124, a131 := Try.isAgg124, z131 := Try.sizeOf124, v131 := Try.zeroValue124, t182 := Try.underlying118, a182 := Try.isAgg118, z182 := Try.sizeOf118, v182 := Try.zeroValue118, t183 := Try.underlying119, a183 := Try.isAgg119, z183 := Try.sizeOf119, v183 := Try.zeroValue119, t218 := Try.underlying130, a218 := Try.isAgg130, z218 := Try.sizeOf130, v218 := Try.zeroValue130, t222 := Try.underlying134, a222 := Try.isAgg134, z222 := Try.sizeOf134, v222 := Try.zeroValue134, t228 := Try.underlying136, a228 := Try.isAgg136, z228 := Try.sizeOf136, v228 := Try.zeroValue136, t229 := Try.underlying137, a229 := Try.isAgg137, z229 := Try.sizeOf137, v229 := Try.zeroValue137 }
def slices_Sort_int_int.f (l0 : List Int) : Option (List Int) := if 0 < l0.length ∧ l0.length < 4611686018427387904 then some (l0.mergeSort fun x y => decide (x ≤ y)) else none
theorem slices_Sort_int_int.calls (P0_ : Nat → Prop) (u9000_ : Value) (l0 : List Int) (r : List Int) (w0 w : World) (hB : Below w0.heap.size w0 w) (ho0 : Kd.R (Kd.int .i64) 3 w w0.heap.size P0_ u9000_ l0) (h : slices_Sort_int_int.f l0 = some r) :
  Calls Try.prog 123 #[u9000_] w fun e w' => e = .returned (.tuple #[]) ∧ Kd.R (Kd.int .i64) 3 w' w0.heap.size (fun k_ => (P0_ k_ ∨ w.heap.size ≤ k_)) u9000_ r ∧ Below w0.heap.size w0 w' ∧ Kept w w' (fun k_ => P0_ k_) := by
 unfold slices_Sort_int_int.f at h
 split at h
 ·
  rename_i hn
  obtain rfl := Option.some.inj h; have ow := Kd.own_of_R ho0; obtain ⟨hlen, ⟨_, h0⟩ | ⟨g, cap, cur, hv, hbase, hb, h1, h2, h3, h4⟩⟩ := ow
  · omega
  subst hv; have hg : g < w.heap.size := (Array.getElem?_eq_some_iff.1 hb).1; have hP : P0_ g := ho0.1 g rfl; have hH := holds_of_blockI (ss := l0) hb (by rw [← Nat.mul_one l0.length, h4]; rfl); refine (Any.slices_Sort_int laysSort g 0 cap l0 w hH hg hn.2).mono ?_; rintro e w' ⟨rfl, n, os, rfl⟩; have hgr := grownBy_sortedI (w := w) (g := g) (n := n) (os := os) (l0.mergeSort fun x y => decide (x ≤ y)).toArray; have hl : (l0.mergeSort fun x y => decide (x ≤ y)).length = l0.length := List.length_mergeSort _; have own := ownsRow_sortedI (n := n) (os := os) (ts := l0.mergeSort fun x y => decide (x ≤ y)) hl hbase hb h1 h2 (by rw [h3]); refine ⟨rfl, ?_, ?_, ?_⟩
  ·
   refine Kd.R_of_own ?_ (fun k hk => .inl ?_)
   · rw [hl]; exact own
   · have : g = k := Option.some.inj hk; rw [← this]; exact hP
  · exact hB.grown hgr (by have := hB.size; omega) (fun k hk => by have := Option.some.inj hk; omega)
  · exact Kept.of_grown hgr (Kept.refl w _) (fun k hk => .inl (by have := Option.some.inj hk; rw [← this]; exact hP))
 · cases h
def slices_Reverse_int_int.l0 : Nat → List Int → Int → Int → Option (List Int)
 | 0, _, _, _ => none
 | k + 1, x0, x2, x3 => if x2 < x3 then (if 0 ≤ x3 then (if x3 < (x0.length : Int) then (if 0 ≤ x2 then (if x2 < (x0.length : Int) then (slices_Reverse_int_int.l0 k ((x0.set (x2 : Int).toNat (rd x0 x3)).set (x3 : Int).toNat (rd x0 x2)) (wrap64 (x2 + 1)) (wrap64 (x3 - 1))) else (none)) else (none)) else (none)) else (none)) else (some x0)
def slices_Reverse_int_int.f (k : Nat) (l0 : List Int) : Option (List Int) := slices_Reverse_int_int.l0 k l0 0 (wrap64 ((l0.length : Int) - 1))
theorem slices_Reverse_int_int.mono_l : ∀ k, (∀ y0 y1 y2, LeO (slices_Reverse_int_int.l0 k y0 y1 y2) (slices_Reverse_int_int.l0 (k + 1) y0 y1 y2))
 | 0 => fun _ _ _ r h => by simp [slices_Reverse_int_int.l0] at h
 | k + 1 => by
  have ih0 := slices_Reverse_int_int.mono_l k
  ·
   intro y0 y1 y2
   unfold slices_Reverse_int_int.l0
   repeat' first
   | (with_reducible exact ih0 _ _ _)
   | (with_reducible exact LeO.refl _)
   | (with_reducible exact LeO.none _)
   | (with_reducible refine LeO.ite ?_ ?_)
   | (with_reducible refine LeO.bind ?_ (fun _ => ?_))
   | exact ih0 _ _ _
   | exact LeO.none _
   | refine LeO.ite ?_ ?_
   | refine LeO.bind ?_ (fun _ => ?_)
theorem slices_Reverse_int_int.mono : ∀ a0 k, LeO (slices_Reverse_int_int.f k a0) (slices_Reverse_int_int.f (k + 1) a0) := by
 intro a0 k; have ih0 := slices_Reverse_int_int.mono_l k
 unfold slices_Reverse_int_int.f
 repeat' first
   | (with_reducible exact ih0 _ _ _)
   | (with_reducible exact LeO.refl _)
   | (with_reducible exact LeO.none _)
   | (with_reducible refine LeO.ite ?_ ?_)
   | (with_reducible refine LeO.bind ?_ (fun _ => ?_))
   | exact ih0 _ _ _
   | exact LeO.none _
   | refine LeO.ite ?_ ?_
   | refine LeO.bind ?_ (fun _ => ?_)
def slices_Reverse_int_int.T3 : Bool × List (List Nat × List Nat) := (true, [([], []), ([], []), ([], []), ([], []), ([], []), ([], []), ([4, 5], [4, 5]), ([6], [6]), ([], []), ([], []), ([8, 9], [8, 9]), ([10], [10]), ([0, 1, 0, 1, 4, 5, 6, 7, 11], [0, 1]), ([12, 7, 0, 1, 4, 5, 6, 7, 11], [7, 12]), ([2, 3, 0, 1, 2, 3, 4, 5, 6, 7, 8, 9, 10, 11, 12, 13], [2, 3]), ([14, 11, 13, 0, 1, 2, 3, 4, 5, 6, 7, 8, 9, 10, 11, 12, 13], [11, 14])])
def slices_Reverse_int_int.B3 : List Nat := [0, 0, 0, 0, 0, 0, 48, 112, 0, 0, 768, 1792, 4083, 8179, 16383, 32767]
theorem slices_Reverse_int_int.tab3 : rtab .any (opsOf Try.f124 3) = slices_Reverse_int_int.T3 := by kernel_rfl
theorem slices_Reverse_int_int.bits3 : waitsOk slices_Reverse_int_int.T3.2 slices_Reverse_int_int.B3 = true := by kernel_rfl
set_option maxHeartbeats 8000000 in
set_option maxRecDepth 100000 in
theorem slices_Reverse_int_int.calls (k : Nat) (P0_ : Nat → Prop) (u9000_ : Value) (l0 : List Int) (r : List Int) (w0 w : World) (hB : Below w0.heap.size w0 w) (ho0 : Kd.R (Kd.int .i64) 3 w w0.heap.size P0_ u9000_ l0) (h : slices_Reverse_int_int.f k l0 = some r) :
  Calls Try.prog 124 #[u9000_] w fun e w' => e = .returned (.tuple #[]) ∧ Kd.R (Kd.int .i64) 3 w' w0.heap.size (fun k_ => (P0_ k_ ∨ w.heap.size ≤ k_)) u9000_ r ∧ Below w0.heap.size w0 w' ∧ Kept w w' (fun k_ => P0_ k_) := by
 have HO0 := Az (show Kd.R (Kd.int .i64) 3 w w0.heap.size (fun k_ => (P0_ k_ ∨ w.heap.size ≤ k_)) u9000_ l0 from Kd.R_mono ho0 (fun k_ hk => (.inl hk))); have HK := Az (Kept.refl w (fun k_ => P0_ k_)); have HW0 := Az hB.size; have HB := Az hB; clear hB; have H := h; clear h; unfold slices_Reverse_int_int.f at H; have H' := Az H; clear H; obtain ⟨Ao2, co2, eo2⟩ := Kd.R_slice HO0.out; subst eo2; go_enter Try.func124, Try.ntmps124; go_wp2
 go_loopg [2, 3] k (fun kq v2 v3 w' => ∃ (x0_1 : List Int) (x2_1 : Int) (x3_1 : Int), v2 = .int .i64 x2_1 ∧ v3 = .int .i64 x3_1 ∧ Aside0 (slices_Reverse_int_int.l0 kq x0_1 x2_1 x3_1 = some r) ∧ Aside0 (kq ≤ k) ∧ Aside0 (Kd.R (Kd.int .i64) 3 w' w0.heap.size (fun k_ => (P0_ k_ ∨ w.heap.size ≤ k_)) (.slice Ao2 l0.length co2) x0_1) ∧ Aside0 (Kept w w' (fun k_ => P0_ k_)) ∧ Aside0 (Below w0.heap.size w0 w'))
 case atStart => exact ⟨(l0), (0), (wrap64 ((l0.length : Int) - 1)), rS, rS, H', ⟨Nat.le_refl _⟩, ⟨rU HO0.out⟩, ⟨by repeat (first | (with_reducible first | exact HK.out | apply Kept.alloc | apply Kept.drewN | apply Kept.drew) | exact HK.out)⟩, ⟨bU0 HB.out⟩⟩
 case round =>
  clear H'; obtain ⟨x0_1, x2_1, x3_1, rfl, rfl, HA, HK1, HO_0, HK, HB⟩ := hrel; have hl0_1 := (Kd.R_reads' HO_0.out).1; rw [hl0_1] at HO_0; simp only [hl0_1]
  rcases gk with _ | k1
  exact (nN HA.out).elim; have H := HA.out; clear HA; simp only [slices_Reverse_int_int.l0] at H
  replace H := gB H; rcases H with ⟨c3b0, H⟩ | ⟨c3b0, H⟩
  ·
   replace H := gD1 H; obtain ⟨c4b0, H⟩ := H; replace H := gP H; obtain ⟨c5, H⟩ := H; have c5b0 := decide_eq_true c5; clear c5; replace H := gD1 H; obtain ⟨c6b0, H⟩ := H; replace H := gP H; obtain ⟨c7, H⟩ := H; have c7b0 := decide_eq_true c7; clear c7; generalize Ny642 : (x0_1.set (x2_1 : Int).toNat (rd x0_1 x3_1) : List Int) = y642 at H; replace Ny642 := Ay Ny642; generalize Ny643 : (y642.set (x3_1 : Int).toNat (rd x0_1 x2_1) : List Int) = y643 at H; replace Ny643 := Ay Ny643; have H' := Az H; clear H
   try go_wp2
   replace HO_0 := Az (Kd.R_drew HO_0.out); replace HK := Az (Kept.drew HK.out); replace HB := Az (below_drew1 HB.out); obtain ⟨ad640, e640, _, _, hx640_0⟩ := aI (Kd.R_reads' HO_0.out).2.2 x3_1
   cases e640; obtain ⟨_, _, hx641_0⟩ := aJ (Kd.R_reads' HO_0.out).2.2 x2_1; have p8 : 0 ≤ (x2_1 : Int) := oA; have q8 : (x2_1 : Int) < ((x0_1.length : Int) : Int) := oA; obtain ⟨go8, co8, eo8, gb8, gl8, cl8, HG8⟩ := Kd.R_form HO_0.out (by omega); (first | cases eo8 | (injection eo8 with ea_ en_ ec_; (first | subst ea_ | (injection ea_ with ea_; subst ea_)); subst ec_; clear en_)); have GB8 := Az gb8; have GG8 := Az HG8; clear gb8 gl8 HG8; have HMgo8 := Az (show (P0_ go8 ∨ w.heap.size ≤ go8) from (HO_0.out.1 _ rfl)); simp only [add_plain] at hx640_0; simp only [add_plain] at hx641_0; obtain ⟨hx8_0, hf8_0⟩ := Kd.R_celln 0 HO_0.out (x2_1 : Int) p8 q8; replace p8 := eq_true p8; replace q8 := eq_true q8; have HP11 := Kd.R_putn HO_0.out (x2_1 : Int) (rd x0_1 x3_1); rw [← Ny642.out] at HP11; have HQ11 := Az HP11; clear HP11; have p9 : 0 ≤ (x3_1 : Int) := oA; have q9 : (x3_1 : Int) < ((x0_1.length : Int) : Int) := oA; obtain ⟨hx9_0, hf9_0⟩ := Kd.R_celln 0 HQ11.out (x3_1 : Int) p9 q9; replace p9 := eq_true p9; replace q9 := eq_true q9; have HP12 := Kd.R_putn HQ11.out (x3_1 : Int) (rd x0_1 x2_1); rw [← Ny643.out] at HP12; have HQ12 := Az HP12; clear HP12; refine start_ (n := 16) (S := fun w' => w'.cell? ⟨go8, (x3_1).toNat, none⟩ = some (.int .i64 (rd x0_1 x3_1)) ∧ w'.cell? ⟨go8, (x2_1).toNat, none⟩ = some (.int .i64 (rd x0_1 x2_1))) (ds := [13, 15]) (bv 16 0) (by kernel_rfl) rfl rfl ⟨hx640_0, hx641_0⟩ (fun hHeld => ?_); refine with_tabW slices_Reverse_int_int.tab3 slices_Reverse_int_int.bits3 (fun HT_ HW_ => ?_); generalize wr.drew = w10 at HO_0 HK HB GG8 HQ11 HQ12 hf8_0 hf9_0 hx640_0 hx641_0 hx8_0 hx9_0 hHeld ⊢; refine pure_ (i := 0) (N := some 14) (v := ?_) (a' := ?_) (bv 16 1) rfl rfl (any_of HT_.out (by kernel_rfl)) (fun _ _ _ h => h) (Or.inl ⟨by rfl, ?_⟩) ?_ ?_; rotate_left; (exact yP); rotate_left; (exact aP); refine pure_ (i := 1) (N := some 15) (v := ?_) (a' := ?_) (bv 16 3) rfl rfl (any_of HT_.out (by kernel_rfl)) (fun _ _ _ h => h) (Or.inl ⟨by rfl, ?_⟩) ?_ ?_; rotate_left; (exact yP); rotate_left; (exact aP); refine pure_ (i := 2) (N := some 16) (v := ?_) (a' := ?_) (bv 16 7) rfl rfl (any_of HT_.out (by kernel_rfl)) (fun _ _ _ h => h) (Or.inl ⟨by rfl, ?_⟩) ?_ ?_; rotate_left; (exact yP); rotate_left; (exact aP); refine pure_ (i := 3) (N := some 17) (v := ?_) (a' := ?_) (bv 16 15) rfl rfl (any_of HT_.out (by kernel_rfl)) (fun _ _ _ h => h) (Or.inl ⟨by rfl, ?_⟩) ?_ ?_; rotate_left; (exact yP); rotate_left; (exact aP); refine pure_ (i := 4) (N := some 18) (v := ?_) (a' := ?_) (bv 16 31) rfl rfl (any_of HT_.out (by kernel_rfl)) (fun _ _ _ h => h) (Or.inl ⟨by rfl, ?_⟩) ?_ ?_; rotate_left; (exact yP); rotate_left; (exact aP); refine pure_ (i := 5) (N := some 19) (v := ?_) (a' := ?_) (bv 16 63) rfl rfl (any_of HT_.out (by kernel_rfl)) (fun _ _ _ h => h) (Or.inl ⟨by rfl, ?_⟩) ?_ ?_; rotate_left; (exact yP); rotate_left; (exact aP); refine pure_ (i := 6) (N := some 20) (v := ?_) (a' := ?_) (bv 16 127) rfl rfl (any_of HT_.out (by kernel_rfl)) (fun _ _ _ h => h) (Or.inl ⟨by rfl, ?_⟩) ?_ ?_; rotate_left; (exact yP); rotate_left; (exact aP); refine pure_ (i := 8) (N := some 22) (v := ?_) (a' := ?_) (bv 16 383) rfl rfl (any_of HT_.out (by kernel_rfl)) (fun _ _ _ h => h) (Or.inl ⟨by rfl, ?_⟩) ?_ ?_; rotate_left; (exact yP); rotate_left; (exact aP); refine pure_ (i := 9) (N := some 23) (v := ?_) (a' := ?_) (bv 16 895) rfl rfl (any_of HT_.out (by kernel_rfl)) (fun _ _ _ h => h) (Or.inl ⟨by rfl, ?_⟩) ?_ ?_; rotate_left; (exact yP); rotate_left; (exact aP); refine pure_ (i := 10) (N := some 24) (v := ?_) (a' := ?_) (bv 16 1919) rfl rfl (any_of HT_.out (by kernel_rfl)) (fun _ _ _ h => h) (Or.inl ⟨by rfl, ?_⟩) ?_ ?_; rotate_left; (exact yP); rotate_left; (exact aP); refine take_ (i := 7) (N := some 21) (v := ?_) (a' := ?_) (bv 16 2047) rfl rfl (take_ofW HT_.out HW_.out (by kernel_rfl)) (fun _ _ _ h => h) (Or.inl ⟨by rfl, ?_⟩) hHeld ?_ ?_; rotate_left
   ·
    rintro w' ⟨s0, s1⟩; go_simp
    with_reducible rfl
   rotate_left; (exact aP); refine take_ (i := 11) (N := some 25) (v := ?_) (a' := ?_) (bv 16 4095) rfl rfl (take_ofW HT_.out HW_.out (by kernel_rfl)) (fun _ _ _ h => h) (Or.inl ⟨by rfl, ?_⟩) hHeld ?_ ?_; rotate_left
   ·
    rintro w' ⟨s0, s1⟩; go_simp
    with_reducible rfl
   rotate_left; (exact aP); refine pure_ (i := 12) (N := some 26) (v := ?_) (a' := ?_) (bv 16 8191) rfl rfl (any_of HT_.out (by kernel_rfl)) (fun _ _ _ h => h) (Or.inl ⟨by rfl, ?_⟩) ?_ ?_; rotate_left; (exact yP); rotate_left; (exact aP); refine last_ (i := 13) (N := none) (bv 16 16383) rfl rfl (one_of HT_.out (by kernel_rfl)) (by decide) (fun K hK => ?_); refine skip_ (w1 := ?_) (by rfl) rfl ?_ ?_; rotate_left
   · go_simp; rfl
   refine hK.out _ _ ?_; clear hK K; refine pure_ (i := 14) (N := some 27) (v := ?_) (a' := ?_) (bv 16 32767) rfl rfl (any_of HT_.out (by kernel_rfl)) (fun _ _ _ h => h) (Or.inl ⟨by rfl, ?_⟩) ?_ ?_; rotate_left; (exact yP); rotate_left; (exact aP); refine last_ (i := 15) (N := none) (bv 16 65535) rfl rfl (one_of HT_.out (by kernel_rfl)) (by decide) (fun K hK => ?_); refine skip_ (w1 := ?_) (by rfl) rfl ?_ ?_; rotate_left
   · go_simp; rfl
   refine hK.out _ _ ?_; clear hK K; refine done_ (done_of HT_.out (by kernel_rfl)) ?_
   try go_wp2
   simp only [← hl0_1]; go_roundg k1
   case measure => exact mO
   case rel => exact ⟨(y643), (wrap64 (x2_1 + 1)), (wrap64 (x3_1 - 1)), rS, rS, H', ⟨mO⟩, ⟨by simp only [hl0_1]; (with_reducible repeat (first | apply Kd.R_alloc | apply Kd.R_drewN | apply Kd.R_drew)); exact HQ12.out⟩, ⟨by repeat (first | (with_reducible first | exact HK.out | apply Kept.alloc | apply Kept.drewN | apply Kept.drew | refine Kept.setCell ?_ HMgo8.out _ | refine Kept.setCell ?_ HMgo8.out _) | exact HK.out)⟩, ⟨bU2 HB.out GB8.out GB8.out⟩⟩
  ·
   obtain rfl := Option.some.inj H; go_wp2
   first | go_end0 | ((try simp only [Exit.inBlock, Exit.then]); refine bodyPost_ret (results_none rfl _ _ _) rfl ?_)
   exact ⟨rE, (by first | exact (rU HO_0.out) | (simp only [hl0_1]; exact (rU HO_0.out))), bU0 HB.out, by repeat (first | (with_reducible first | exact HK.out | apply Kept.alloc | apply Kept.drewN | apply Kept.drew) | exact HK.out)⟩
def impl_typeOf.l0 : Nat → List Int → List (List Int) → Int → Int → Option (List Int)
 | 0, _, _, _, _ => none
 | k + 1, x3, x8, x9, x10 => if x10 < x9 then (if 0 ≤ x10 then (if x10 < (x8.length : Int) then (if x3.length < 17592186044416 then (impl_typeOf.l0 k (x3 ++ [((rd_L1 x8 x10).length : Int)]) x8 x9 (wrap64 (x10 + 1))) else (none)) else (none)) else (none)) else ((slices_Sort_int_int.f x3).bind fun t654 => ((slices_Reverse_int_int.f k t654).bind fun t655 => (some t655)))
def impl_typeOf.f (k : Nat) (l0 : List Int) : Option (List Int) := (impl_cyclesOf.f k l0).bind fun t647 => (impl_typeOf.l0 k (([] : List Int)) t647 (t647.length : Int) 0)
theorem impl_typeOf.mono_l : ∀ k, (∀ y0 y1 y2 y3, LeO (impl_typeOf.l0 k y0 y1 y2 y3) (impl_typeOf.l0 (k + 1) y0 y1 y2 y3))
 | 0 => fun _ _ _ _ r h => by simp [impl_typeOf.l0] at h
 | k + 1 => by
  have ih0 := impl_typeOf.mono_l k
  ·
   intro y0 y1 y2 y3
   unfold impl_typeOf.l0
   repeat' first
   | (with_reducible exact ih0 _ _ _ _)
   | (with_reducible exact impl_cyclesOf.mono _ _)
   | (with_reducible exact slices_Reverse_int_int.mono _ _)
   | (with_reducible exact LeO.refl _)
   | (with_reducible exact LeO.none _)
   | (with_reducible refine LeO.ite ?_ ?_)
   | (with_reducible refine LeO.bind ?_ (fun _ => ?_))
   | exact ih0 _ _ _ _
   | exact impl_cyclesOf.mono _ _
   | exact slices_Reverse_int_int.mono _ _
   | exact LeO.none _
   | refine LeO.ite ?_ ?_
   | refine LeO.bind ?_ (fun _ => ?_)
theorem impl_typeOf.mono : ∀ a0 k, LeO (impl_typeOf.f k a0) (impl_typeOf.f (k + 1) a0) := by
 intro a0 k; have ih0 := impl_typeOf.mono_l k
 unfold impl_typeOf.f
 repeat' first
   | (with_reducible exact ih0 _ _ _ _)
   | (with_reducible exact impl_cyclesOf.mono _ _)
   | (with_reducible exact slices_Reverse_int_int.mono _ _)
   | (with_reducible exact LeO.refl _)
   | (with_reducible exact LeO.none _)
   | (with_reducible refine LeO.ite ?_ ?_)
   | (with_reducible refine LeO.bind ?_ (fun _ => ?_))
   | exact ih0 _ _ _ _
   | exact impl_cyclesOf.mono _ _
   | exact slices_Reverse_int_int.mono _ _
   | exact LeO.none _
   | refine LeO.ite ?_ ?_
   | refine LeO.bind ?_ (fun _ => ?_)
set_option maxHeartbeats 8000000 in
set_option maxRecDepth 100000 in
theorem impl_typeOf.calls (k : Nat) (A0 : Option Addr) (c0 : Nat) (l0 : List Int) (r : List Int) (w : World) (hr0 : Kd.C (Kd.int .i64) w A0 l0.length l0) (hc0 : l0.length ≤ c0) (h : impl_typeOf.f k l0 = some r) :
  Calls Try.prog 110 #[.slice A0 l0.length c0] w fun e w' => ∃ v0_ : Value, e = .returned (v0_) ∧ Kd.R (Kd.int .i64) 3 w' w.heap.size (fun _ => True) v0_ r ∧ Below w.heap.size w w' := by
 have HR0 := Az hr0; have HC0 := Az hc0; clear hr0 hc0; have HB := bZ w; have H := h; clear h; unfold impl_typeOf.f at H; generalize Ny644 : (([] : List Int) : List Int) = y644 at H; replace Ny644 := Ay Ny644; replace H := bd H; obtain ⟨t647, A2, H⟩ := H; have H' := Az H; clear H; go_enter Try.func110, Try.ntmps110
 go_wp2_with (first | ((with_reducible refine gd 6 rfl ?_); refine Kd.R_lit (Kd.int .i64) _ 3 rfl (N := 6) rfl (xs := ([] : List Int)) (inner := []) (ok := fun _ => True) (okp := fun _ => True) hS ?hp (fun _ hk => hk) trivial (Below.refl _ _) (Nat.le_refl _) (by simp) ?_; (case hp => exact (Reps.none _ _)); intro v645 w3 ho4 hb hg_ hnew_; clear hg_ hnew_; (first | rw [← Ny644.out] at ho4 | (simp only [Int.reduceToNat] at ho4; rw [← Ny644.out] at ho4)); have HO646 := Az (Kd.R_lower ho4 (below_size (bU0 HB.out))); replace HB := Az (below_step (bU0 HB.out) hb); clear hb ho4) | ((with_reducible refine gK 67 rfl ?_); refine gC (some 8) Try.func67 #[.slice A0 l0.length c0] ?_; (with_reducible refine (impl_cyclesOf.calls k _ _ l0 t647 _ ?_ ?_ A2.out).mono ?_); exact cU (Kd.C_below HR0.out HB.out); exact HC0.out; rintro e w5 ⟨v648, rfl, ho0, hb⟩; refine ⟨_, rfl, ?_⟩; have HO649 := Az (Kd.S_lower (Kd.S_new' ho0 (Kd.R_lt (rU HO646.out))) (below_size (bU0 HB.out))); replace HO646 := rB HO646.out hb; replace HB := Az (below_step (bU0 HB.out) hb); clear hb ho0; obtain ⟨Ao6, co6, eo6⟩ := Kd.S_slice HO649.out; subst eo6))
 go_loopg [3, 10] k (fun kq v3 v10 w' => ∃ (x3_1 : List Int) (x10_1 : Int), v10 = .int .i64 x10_1 ∧ Aside0 (impl_typeOf.l0 kq x3_1 t647 (t647.length : Int) x10_1 = some r) ∧ Aside0 (kq ≤ k) ∧ Aside0 (Kd.R (Kd.int .i64) 3 w' w.heap.size (fun _ => True) v3 x3_1) ∧ Aside0 (Kd.S (Kd.slice 3 (Kd.int .i64)) 23 w' w.heap.size (fun k_ => oV k_ v3) (.slice Ao6 t647.length co6) t647) ∧ Aside0 (Below w.heap.size w w'))
 case atStart => exact ⟨(y644), (0), rS, H', ⟨Nat.le_refl _⟩, ⟨rU HO646.out⟩, ⟨by (with_reducible repeat (first | apply Kd.S_alloc | apply Kd.S_drewN | apply Kd.S_drew)); exact Kd.S_mono HO649.out (fun _ hk => hk.2)⟩, ⟨bU0 HB.out⟩⟩
 case round =>
  clear H'; obtain ⟨x3_1, x10_1, rfl, HA, HK1, HO_3, HO_8, HB⟩ := hrel
  rcases gk with _ | k1
  exact (nN HA.out).elim; have H := HA.out; clear HA; simp only [impl_typeOf.l0] at H
  replace H := gB H; rcases H with ⟨c7b0, H⟩ | ⟨c7b0, H⟩
  ·
   replace H := gD2 H; obtain ⟨c8b0, c9b0, H⟩ := H; replace H := gP H; obtain ⟨c10, H⟩ := H; have LMc10 := Az c10; clear c10; generalize Ny651 : (x3_1 ++ [((rd_L1 t647 x10_1).length : Int)] : List Int) = y651 at H; replace Ny651 := Ay Ny651; have H' := Az H; clear H; have p650 : 0 ≤ (x10_1 : Int) := oA; have q650 : x10_1 < (t647.length : Int) := oA; obtain ⟨ad650, A650_0, c650_0, e650, hx650_0, hl650_0, hi650_0⟩ := at_L1 (Kd.S_reads' HO_8.out).2.2 x10_1 p650 q650
   cases e650
   obtain ⟨ce650, hce650, hMe650, hcc650⟩ := Kd.S_get HO_8.out [] x10_1 p650 (by first | exact q650 | exact oA | (have e_ := (Kd.S_reads' HO_8.out).1; omega)); obtain ⟨ve650_0, rfl, ge650_0⟩ := hMe650; have hv650_0 := hcc650 0 _ rfl; rw [Nat.add_zero, show ((Kd.slice 3 (Kd.int .i64))).sz = 1 from rfl, Nat.mul_one] at hv650_0; replace hv650_0 := Option.some.inj (hv650_0.symm.trans hx650_0); rw [hv650_0] at ge650_0; have HL650_0 := Az (show Kd.R (Kd.int .i64) 3 _ _ _ _ (rd_L1 t647 x10_1) from ge650_0); clear hv650_0 ge650_0 hcc650 hce650; have HR650_0 := Az hi650_0; have HC650_0 := Az hl650_0; clear hi650_0 hl650_0; replace p650 := eq_true p650; replace q650 := eq_true q650
   go_wp2_with (first | ((with_reducible refine gate_builtin (b := .append) (xs := #[.tmp 14, .tmp 17]) rfl ?_); at_builtin; refine Kd.R_append (Kd.int .i64) (w0 := w) w.heap.size rfl (.tmp 14) (.tmp 17) 23 3 (.int .i64 0) 8 rfl Try.underlying23 info3 rfl (by decide) (by omega) u3 x3_1 ((rd_L1 t647 x10_1).length : Int) [.int .i64 ((rd_L1 t647 x10_1).length : Int)] (fun _ => True) (fun _ => False) rfl rfl ?aP (fun _ hk => hk.elim) ?aF ?aO ?aB ?aS ?aL ?_; (case aP => exact rfl); (case aB => exact (bU0 HB.out)); (case aF => exact (fun _ _ => trivial)); (case aO => exact (rU HO_3.out)); (case aS => exact (below_size (bU0 HB.out))); (case aL => have := LMc10.out; omega); intro v652 w11 ho hb hg hat; rw [← Ny651.out] at ho; replace HO_8 := Az (Kd.S_after (ok := (fun _ => True)) (by (with_reducible repeat (first | apply Kd.S_alloc | apply Kd.S_drewN | apply Kd.S_drew)); exact Kd.S_mono HO_8.out (fun _ hk => ⟨trivial, hk⟩)) hg hat); replace HL650_0 := Az (Kd.R_after (ok := (fun k_ => some k_ ≠ (.slice (some ad650) t647.length co6 : Value).ownBlock)) (by (with_reducible repeat (first | apply Kd.R_alloc | apply Kd.R_drewN | apply Kd.R_drew)); exact Kd.R_mono HL650_0.out (fun _ hk => ⟨hk.2, hk.1⟩)) hg hat); replace HB := Az (hb); have HO653 := Az (ho); clear HO_3 ho hb hg hat))
   go_roundg k1
   case measure => exact mO
   case rel => exact ⟨(y651), (wrap64 (x10_1 + 1)), rS, H', ⟨mO⟩, ⟨rU HO653.out⟩, ⟨by (with_reducible repeat (first | apply Kd.S_alloc | apply Kd.S_drewN | apply Kd.S_drew)); exact Kd.S_mono HO_8.out (fun _ hk => hk.2)⟩, ⟨bU0 HB.out⟩⟩
  ·
   replace H := bd H; obtain ⟨t654, A12, H⟩ := H; replace H := bd H; obtain ⟨t655, A13, H⟩ := H; obtain rfl := Option.some.inj H; obtain ⟨Ao14, co14, eo14⟩ := Kd.R_slice HO_3.out; subst eo14
   go_wp2_with (first | ((with_reducible refine gK 123 rfl ?_); refine gC (some 21) Try.func123 #[.slice Ao14 x3_1.length co14] ?_; (with_reducible refine (slices_Sort_int_int.calls (fun k_ => some k_ = (.slice Ao14 x3_1.length co14 : Value).ownBlock) (.slice Ao14 x3_1.length co14) x3_1 t654 w _ ?_ ?_ A12.out).mono ?_); (repeat (first | (with_reducible first | exact HB.out | apply below_alloc | apply pw_below_drewN | apply below_drew1) | exact HB.out)); exact Kd.R_tight rfl HO_3.out; rintro e w15 ⟨rfl, hy0, hb, hkp⟩; refine ⟨_, rfl, ?_⟩; replace HO_3 := Az (Kd.R_reok rfl hy0 (fun k_ e_ => HO_3.out.1 k_ e_)); replace HO_8 := Az z6_1; replace HB := Az (hb); clear hb) | ((with_reducible refine gK 124 rfl ?_); refine gC (some 23) Try.func124 #[.slice Ao14 x3_1.length co14] ?_; (with_reducible refine (slices_Reverse_int_int.calls k1 (fun k_ => some k_ = (.slice Ao14 x3_1.length co14 : Value).ownBlock) (.slice Ao14 x3_1.length co14) t654 t655 w _ ?_ ?_ A13.out).mono ?_); (repeat (first | (with_reducible first | exact HB.out | apply below_alloc | apply pw_below_drewN | apply below_drew1) | exact HB.out)); exact Kd.R_tight rfl HO_3.out; rintro e w16 ⟨rfl, hy0, hb, hkp⟩; refine ⟨_, rfl, ?_⟩; replace HO_3 := Az (Kd.R_reok rfl hy0 (fun k_ e_ => HO_3.out.1 k_ e_)); replace HO_8 := Az z6_1; replace HB := Az (hb); clear hb))
   go_ret; exact ⟨_, rE, rU HO_3.out, bU0 HB.out⟩
def impl_isQuad.l0 : Nat → List Int → Int → Int → Option (Bool)
 | 0, _, _, _ => none
 | k + 1, x13, x14, x15 => if x15 < x14 then (if 0 ≤ x15 then (if x15 < (x13.length : Int) then (if (rd x13 x15) = 4 then (impl_isQuad.l0 k x13 x14 (wrap64 (x15 + 1))) else (some false)) else (none)) else (none)) else (some true)
def impl_isQuad.f (k : Nat) (l0_0 : List Int) (l0_1 : List Int) : Option (Bool) := (impl_MapValid.f k l0_0 l0_1).bind fun t657 => (if t657 = true then ((impl_mul.f k l0_1 l0_0).bind fun t658 => ((impl_typeOf.f k t658).bind fun t661 => (impl_isQuad.l0 k t661 (t661.length : Int) 0))) else (some false))
theorem impl_isQuad.mono_l : ∀ k, (∀ y0 y1 y2, LeO (impl_isQuad.l0 k y0 y1 y2) (impl_isQuad.l0 (k + 1) y0 y1 y2))
 | 0 => fun _ _ _ r h => by simp [impl_isQuad.l0] at h
 | k + 1 => by
  have ih0 := impl_isQuad.mono_l k
  ·
   intro y0 y1 y2
   unfold impl_isQuad.l0
   repeat' first
   | (with_reducible exact ih0 _ _ _)
   | (with_reducible exact impl_MapValid.mono _ _ _)
   | (with_reducible exact impl_mul.mono _ _ _)
   | (with_reducible exact impl_typeOf.mono _ _)
   | (with_reducible exact LeO.refl _)
   | (with_reducible exact LeO.none _)
   | (with_reducible refine LeO.ite ?_ ?_)
   | (with_reducible refine LeO.bind ?_ (fun _ => ?_))
   | exact ih0 _ _ _
   | exact impl_MapValid.mono _ _ _
   | exact impl_mul.mono _ _ _
   | exact impl_typeOf.mono _ _
   | exact LeO.none _
   | refine LeO.ite ?_ ?_
   | refine LeO.bind ?_ (fun _ => ?_)
theorem impl_isQuad.mono : ∀ a0 a1 k, LeO (impl_isQuad.f k a0 a1) (impl_isQuad.f (k + 1) a0 a1) := by
 intro a0 a1 k; have ih0 := impl_isQuad.mono_l k
 unfold impl_isQuad.f
 repeat' first
   | (with_reducible exact ih0 _ _ _)
   | (with_reducible exact impl_MapValid.mono _ _ _)
   | (with_reducible exact impl_mul.mono _ _ _)
   | (with_reducible exact impl_typeOf.mono _ _)
   | (with_reducible exact LeO.refl _)
   | (with_reducible exact LeO.none _)
   | (with_reducible refine LeO.ite ?_ ?_)
   | (with_reducible refine LeO.bind ?_ (fun _ => ?_))
   | exact ih0 _ _ _
   | exact impl_MapValid.mono _ _ _
   | exact impl_mul.mono _ _ _
   | exact impl_typeOf.mono _ _
   | exact LeO.none _
   | refine LeO.ite ?_ ?_
   | refine LeO.bind ?_ (fun _ => ?_)
set_option maxHeartbeats 8000000 in
set_option maxRecDepth 100000 in
theorem impl_isQuad.calls (k : Nat) (A0_0 : Option Addr) (c0_0 : Nat) (l0_0 : List Int) (A0_1 : Option Addr) (c0_1 : Nat) (l0_1 : List Int) (r : Bool) (w : World) (hr0_0 : Kd.C (Kd.int .i64) w A0_0 l0_0.length l0_0) (hc0_0 : l0_0.length ≤ c0_0) (hr0_1 : Kd.C (Kd.int .i64) w A0_1 l0_1.length l0_1) (hc0_1 : l0_1.length ≤ c0_1) (h : impl_isQuad.f k l0_0 l0_1 = some r) :
  Calls Try.prog 89 #[.agg #[.slice A0_0 l0_0.length c0_0, .slice A0_1 l0_1.length c0_1]] w fun e w' => e = .returned (.bool r) ∧ Below w.heap.size w w' := by
 have hu29 := Try.underlying29; have HR0_0 := Az hr0_0; have HC0_0 := Az hc0_0; clear hr0_0 hc0_0; have HR0_1 := Az hr0_1; have HC0_1 := Az hc0_1; clear hr0_1 hc0_1; have HB := bZ w; have H := h; clear h; unfold impl_isQuad.f at H; replace H := bd H; obtain ⟨t657, A2, H⟩ := H
 by_cases c3 : t657 = true
 ·
  subst c3; rw [if_pos rfl] at H; replace H := bd H; obtain ⟨t658, A4, H⟩ := H; replace H := bd H; obtain ⟨t661, A5, H⟩ := H; have H' := Az H; clear H; go_enter Try.func89, Try.ntmps89
  go_wp2_with (first | ((with_reducible refine gd 1 rfl ?_); refine bE 1 #[.slice A0_0 l0_0.length c0_0, .slice A0_1 l0_1.length c0_1] 29 ?_; intro gb656 hg w6 hbox hb; have BK656 := Az (hbox); have GW656 := gW hg (bU0 HB.out); replace HB := Az (below_step (bU0 HB.out) hb); clear hb hbox hg; have hz7 := bc2 BK656.out) | ((with_reducible refine gK 66 rfl ?_); refine gC (some 6) Try.func66 #[.agg #[.slice A0_0 l0_0.length c0_0, .slice A0_1 l0_1.length c0_1]] ?_; (with_reducible refine (impl_MapValid.calls k (fun k_ => k_ < w.heap.size) _ _ l0_0 (fun k_ => k_ < w.heap.size) _ _ l0_1 true _ ?_ ?_ A2.out).mono ?_); exact Kd.V_mk HC0_0.out (Kd.F_below (Kd.C_F (Kd.heap_int .i64) HR0_0.out) (bU1 HB.out GW656.out)); exact Kd.V_mk HC0_1.out (Kd.F_below (Kd.C_F (Kd.heap_int .i64) HR0_1.out) (bU1 HB.out GW656.out)); rintro e w8 ⟨rfl, hb⟩; refine ⟨_, rfl, ?_⟩; replace BK656 := kB BK656.out hb; replace HB := Az (below_step (bU1 HB.out GW656.out) hb); clear hb; have hz9 := bc2 BK656.out) | ((with_reducible refine gK 68 rfl ?_); refine gC (some 12) Try.func68 #[.slice A0_1 l0_1.length c0_1, .slice A0_0 l0_0.length c0_0] ?_; (with_reducible refine (impl_mul.calls k _ _ l0_1 _ _ l0_0 t658 _ ?_ ?_ ?_ ?_ A4.out).mono ?_); exact cU (Kd.C_below HR0_1.out HB.out); exact HC0_1.out; exact cU (Kd.C_below HR0_0.out HB.out); exact HC0_0.out; rintro e w10 ⟨v659, rfl, ho0, hb⟩; refine ⟨_, rfl, ?_⟩; have HO660 := Az (Kd.R_lower ho0 (below_size (bU1 HB.out GW656.out))); replace BK656 := kB BK656.out hb; replace HB := Az (below_step (bU1 HB.out GW656.out) hb); clear hb ho0; obtain ⟨Ao11, co11, eo11⟩ := Kd.R_slice HO660.out; subst eo11) | ((with_reducible refine gK 110 rfl ?_); refine gC (some 13) Try.func110 #[.slice Ao11 t658.length co11] ?_; (with_reducible refine (impl_typeOf.calls k _ _ t658 t661 _ ?_ ?_ A5.out).mono ?_); exact cU ((Kd.R_reads' HO660.out).2.2); exact (Kd.R_reads' HO660.out).2.1; rintro e w12 ⟨v662, rfl, ho0, hb⟩; refine ⟨_, rfl, ?_⟩; have HO663 := Az (Kd.R_lower (Kd.R_new' ho0 (Kd.R_lt (rU HO660.out))) (below_size (bU1 HB.out GW656.out))); replace HO660 := Az (Kd.R_elder' (rU HO660.out) (Kd.R_base ho0) hb); replace BK656 := kB BK656.out hb; replace HB := Az (below_step (bU1 HB.out GW656.out) hb); clear hb ho0; obtain ⟨Ao13, co13, eo13⟩ := Kd.R_slice HO663.out; subst eo13))
  go_loopg [15] k (fun kq v15 w' => ∃ (x15_1 : Int), v15 = .int .i64 x15_1 ∧ Aside0 (impl_isQuad.l0 kq t661 (t661.length : Int) x15_1 = some r) ∧ Aside0 (kq ≤ k) ∧ Aside0 (Kd.R (Kd.int .i64) 3 w' w.heap.size (fun _ => True) (.slice Ao13 t661.length co13) t661) ∧ Aside0 (w'.heap[gb656]? = some (.cells #[(.slice A0_0 l0_0.length c0_0), (.slice A0_1 l0_1.length c0_1)] 29 (0, 0))) ∧ Aside0 (Below w.heap.size w w'))
  case atStart => exact ⟨(0), rS, H', ⟨Nat.le_refl _⟩, ⟨rM HO663.out⟩, ⟨kU BK656.out⟩, ⟨bU1 HB.out GW656.out⟩⟩
  case round =>
   clear H'; obtain ⟨x15_1, rfl, HA, HK1, HO_13, BK656, HB⟩ := hrel
   rcases gk with _ | k1
   exact (nN HA.out).elim; have H := HA.out; clear HA; simp only [impl_isQuad.l0] at H
   replace H := gB H; rcases H with ⟨c14b0, H⟩ | ⟨c14b0, H⟩
   ·
    replace H := gD2 H; obtain ⟨c15b0, c16b0, H⟩ := H
    replace H := gQ H; rcases H with ⟨c17b0, c17b1, H⟩ | ⟨c17b0, c17b1, H⟩
    ·
     have H' := Az H; clear H; obtain ⟨ad664, e664, p664, q664, hx664_0⟩ := aI (Kd.R_reads' HO_13.out).2.2 x15_1
     cases e664; go_wp2; go_roundg k1
     case measure => exact mO
     case rel => exact ⟨(wrap64 (x15_1 + 1)), rS, H', ⟨mO⟩, ⟨rU HO_13.out⟩, ⟨kU BK656.out⟩, ⟨bU1 HB.out GW656.out⟩⟩
    ·
     obtain rfl := Option.some.inj H; obtain ⟨ad664, e664, p664, q664, hx664_0⟩ := aI (Kd.R_reads' HO_13.out).2.2 x15_1
     cases e664; go_wp2; go_ret; exact ⟨rE, bU1 HB.out GW656.out⟩
   · obtain rfl := Option.some.inj H; go_wp2; go_ret; exact ⟨rE, bU1 HB.out GW656.out⟩
 ·
  replace c3 := Bool.eq_false_iff.mpr c3; subst c3; rw [if_neg nT] at H; obtain rfl := Option.some.inj H; go_enter Try.func89, Try.ntmps89
  go_wp2_with (first | ((with_reducible refine gd 1 rfl ?_); refine bE 1 #[.slice A0_0 l0_0.length c0_0, .slice A0_1 l0_1.length c0_1] 29 ?_; intro gb656 hg w18 hbox hb; have BK656 := Az (hbox); have GW656 := gW hg (bU0 HB.out); replace HB := Az (below_step (bU0 HB.out) hb); clear hb hbox hg; have hz19 := bc2 BK656.out) | ((with_reducible refine gK 66 rfl ?_); refine gC (some 6) Try.func66 #[.agg #[.slice A0_0 l0_0.length c0_0, .slice A0_1 l0_1.length c0_1]] ?_; (with_reducible refine (impl_MapValid.calls k (fun k_ => k_ < w.heap.size) _ _ l0_0 (fun k_ => k_ < w.heap.size) _ _ l0_1 false _ ?_ ?_ A2.out).mono ?_); exact Kd.V_mk HC0_0.out (Kd.F_below (Kd.C_F (Kd.heap_int .i64) HR0_0.out) (bU1 HB.out GW656.out)); exact Kd.V_mk HC0_1.out (Kd.F_below (Kd.C_F (Kd.heap_int .i64) HR0_1.out) (bU1 HB.out GW656.out)); rintro e w20 ⟨rfl, hb⟩; refine ⟨_, rfl, ?_⟩; replace BK656 := kB BK656.out hb; replace HB := Az (below_step (bU1 HB.out GW656.out) hb); clear hb))
  go_ret; exact ⟨rE, bU1 HB.out GW656.out⟩
def impl_QuadIs.f (k : Nat) (l0_0 : List Int) (l0_1 : List Int) : Option (Bool) := (impl_isQuad.f k l0_0 l0_1).bind fun t666 => (if t666 = true then ((impl_genusOf.f k l0_0 l0_1).bind fun t667 => (some (t667 == 0))) else (some false))
theorem impl_QuadIs.mono : ∀ a0 a1 k, LeO (impl_QuadIs.f k a0 a1) (impl_QuadIs.f (k + 1) a0 a1) := by
 intro a0 a1 k
 unfold impl_QuadIs.f
 repeat' first
   | (with_reducible exact impl_genusOf.mono _ _ _)
   | (with_reducible exact impl_isQuad.mono _ _ _)
   | (with_reducible exact LeO.refl _)
   | (with_reducible exact LeO.none _)
   | (with_reducible refine LeO.ite ?_ ?_)
   | (with_reducible refine LeO.bind ?_ (fun _ => ?_))
   | exact impl_genusOf.mono _ _ _
   | exact impl_isQuad.mono _ _ _
   | exact LeO.none _
   | refine LeO.ite ?_ ?_
   | refine LeO.bind ?_ (fun _ => ?_)
set_option maxHeartbeats 8000000 in
set_option maxRecDepth 100000 in
theorem impl_QuadIs.calls (k : Nat) (A0_0 : Option Addr) (c0_0 : Nat) (l0_0 : List Int) (A0_1 : Option Addr) (c0_1 : Nat) (l0_1 : List Int) (r : Bool) (w : World) (hr0_0 : Kd.C (Kd.int .i64) w A0_0 l0_0.length l0_0) (hc0_0 : l0_0.length ≤ c0_0) (hr0_1 : Kd.C (Kd.int .i64) w A0_1 l0_1.length l0_1) (hc0_1 : l0_1.length ≤ c0_1) (h : impl_QuadIs.f k l0_0 l0_1 = some r) :
  Calls Try.prog 48 #[.agg #[.slice A0_0 l0_0.length c0_0, .slice A0_1 l0_1.length c0_1]] w fun e w' => e = .returned (.bool r) ∧ Below w.heap.size w w' := by
 have hu29 := Try.underlying29; have HR0_0 := Az hr0_0; have HC0_0 := Az hc0_0; clear hr0_0 hc0_0; have HR0_1 := Az hr0_1; have HC0_1 := Az hc0_1; clear hr0_1 hc0_1; have HB := bZ w; have H := h; clear h; unfold impl_QuadIs.f at H; replace H := bd H; obtain ⟨t666, A2, H⟩ := H
 by_cases c3 : t666 = true
 ·
  subst c3; rw [if_pos rfl] at H; replace H := bd H; obtain ⟨t667, A4, H⟩ := H; obtain rfl := Option.some.inj H; go_enter Try.func48, Try.ntmps48
  go_wp2_with (first | ((with_reducible refine gd 1 rfl ?_); refine bE 1 #[.slice A0_0 l0_0.length c0_0, .slice A0_1 l0_1.length c0_1] 29 ?_; intro gb665 hg w5 hbox hb; have BK665 := Az (hbox); have GW665 := gW hg (bU0 HB.out); replace HB := Az (below_step (bU0 HB.out) hb); clear hb hbox hg; have hz6 := bc2 BK665.out) | ((with_reducible refine gK 89 rfl ?_); refine gC (some 4) Try.func89 #[.agg #[.slice A0_0 l0_0.length c0_0, .slice A0_1 l0_1.length c0_1]] ?_; (with_reducible refine (impl_isQuad.calls k _ _ l0_0 _ _ l0_1 true _ ?_ ?_ ?_ ?_ A2.out).mono ?_); exact cU (Kd.C_below HR0_0.out HB.out); exact HC0_0.out; exact cU (Kd.C_below HR0_1.out HB.out); exact HC0_1.out; rintro e w7 ⟨rfl, hb⟩; refine ⟨_, rfl, ?_⟩; replace BK665 := kB BK665.out hb; replace HB := Az (below_step (bU1 HB.out GW665.out) hb); clear hb; have hz8 := bc2 BK665.out) | (go_at_call 87; (with_reducible refine (impl_genusOf.calls k _ _ l0_0 _ _ l0_1 t667 _ ?_ ?_ ?_ ?_ A4.out).mono ?_); exact cU (Kd.C_below HR0_0.out HB.out); exact HC0_0.out; exact cU (Kd.C_below HR0_1.out HB.out); exact HC0_1.out; rintro e w9 ⟨rfl, hb⟩; replace BK665 := kB BK665.out hb; replace HB := Az (below_step (bU1 HB.out GW665.out) hb); clear hb))
  go_ret; exact ⟨rE, bU1 HB.out GW665.out⟩
 ·
  replace c3 := Bool.eq_false_iff.mpr c3; subst c3; rw [if_neg nT] at H; obtain rfl := Option.some.inj H; go_enter Try.func48, Try.ntmps48
  go_wp2_with (first | ((with_reducible refine gd 1 rfl ?_); refine bE 1 #[.slice A0_0 l0_0.length c0_0, .slice A0_1 l0_1.length c0_1] 29 ?_; intro gb665 hg w10 hbox hb; have BK665 := Az (hbox); have GW665 := gW hg (bU0 HB.out); replace HB := Az (below_step (bU0 HB.out) hb); clear hb hbox hg; have hz11 := bc2 BK665.out) | ((with_reducible refine gK 89 rfl ?_); refine gC (some 4) Try.func89 #[.agg #[.slice A0_0 l0_0.length c0_0, .slice A0_1 l0_1.length c0_1]] ?_; (with_reducible refine (impl_isQuad.calls k _ _ l0_0 _ _ l0_1 false _ ?_ ?_ ?_ ?_ A2.out).mono ?_); exact cU (Kd.C_below HR0_0.out HB.out); exact HC0_0.out; exact cU (Kd.C_below HR0_1.out HB.out); exact HC0_1.out; rintro e w12 ⟨rfl, hb⟩; refine ⟨_, rfl, ?_⟩; replace BK665 := kB BK665.out hb; replace HB := Az (below_step (bU1 HB.out GW665.out) hb); clear hb))
  go_ret; exact ⟨rE, bU1 HB.out GW665.out⟩
end Go.Proofs.Ytlpbalebodlipaa.PK
