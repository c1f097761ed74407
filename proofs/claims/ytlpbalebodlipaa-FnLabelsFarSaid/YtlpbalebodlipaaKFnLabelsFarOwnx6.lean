/- For every list of bytes, the law FnLabelsFar answers true: for the tree that it draws, TreeQuad of the program answers what the reference answers, and the labels of a valid tree's corners are the distances from the point, one more than above the least. There are no conditions. -/
import Derived.Test.YtlpbalebodlipaaKFnLabelsFarOwnx5
namespace Go.Proofs.Ytlpbalebodlipaa.PK
open Go.RowKit Go.Proofs.YtlpbalebodlipaaW.PrintWords Go.Proofs.YtlpbalebodlipaaW.PrintLast Go.Proofs.YtlpbalebodlipaaW.PrintMore
attribute [local go_sem] max2_int min2_int max_two min_two max_three min_three max_four min_four   -- for this text's walks alone
set_option linter.unusedVariables false
set_option linter.unusedSimpArgs false
mutual
def laws_FnLabelsFar.j0 : Nat → Int → Bool → Int → Bool → Bool → ByteArray → List Int → List Int → List Int → List Int → List Int → Option (Bool)
 | 0, _, _, _, _, _, _, _, _, _, _, _ => none
 | k + 1, x5, x6, x8, x9, x49, xZ0, xZ1, xZ2, xZ3, xZ4, xZ5 => if x49 = true then (if (x6 == x9) = true then ((laws_sameMap.f k xZ2 xZ3 xZ4 xZ5).bind fun t457 => (if t457 = true then (some (x5 == x8)) else (some false))) else (some false)) else ((impl_TreeLabels.f k xZ0 xZ1).bind fun bt458 => (if 0 < (bt458.1.length : Int) then (laws_FnLabelsFar.l0 k x5 bt458.1 bt458.2 (rd bt458.1 0) 0 xZ2 xZ3) else (none)))
def laws_FnLabelsFar.l0 : Nat → Int → List Int → Bool → Int → Int → List Int → List Int → Option (Bool)
 | 0, _, _, _, _, _, _, _ => none
 | k + 1, x5, x10, x11, x12, x13, xZ2, xZ3 => if x13 < (x10.length : Int) then (if 0 ≤ x13 then (laws_FnLabelsFar.l0 k x5 x10 x11 (mn x12 (rd x10 x13)) (wrap64 (x13 + 1)) xZ2 xZ3) else (none)) else (laws_FnLabelsFar.l1 k x5 x10 x11 x12 0 xZ2 xZ3)
def laws_FnLabelsFar.l1 : Nat → Int → List Int → Bool → Int → Int → List Int → List Int → Option (Bool)
 | 0, _, _, _, _, _, _, _ => none
 | k + 1, x5, x10, x11, x12, x14, xZ2, xZ3 => if x14 < (x10.length : Int) then ((impl_MapFar.f k xZ2 xZ3 x5 (wrap64 (2 * x14))).bind fun t464 => (if 0 ≤ x14 then (if t464 = (wrap64 ((wrap64 ((rd x10 x14) - x12)) + 1)) then (laws_FnLabelsFar.l1 k x5 x10 x11 x12 (wrap64 (x14 + 1)) xZ2 xZ3) else (some false)) else (none))) else (if x11 = true then ((impl_MapFar.f k xZ2 xZ3 x5 x5).bind fun t466 => (some (t466 == 0))) else (some false))
end
def laws_FnLabelsFar.f (k : Nat) (l0 : List Int) : Option (Bool) := if (l0.length : Int) > 1048576 then (some true) else ((spec_DrawTreeQuad.f k l0).bind fun bt433 => ((impl_TreeQuad.f k bt433.1 bt433.2).bind fun bt438 => ((spec_TreeQuad.f k bt433.1 bt433.2).bind fun bt447 => (if (bt438.2.2.2 != bt447.2.2.2) = true then (laws_FnLabelsFar.j0 k bt438.2.2.1 bt438.2.2.2 bt447.2.2.1 bt447.2.2.2 true bt433.1 bt433.2 bt438.1 bt438.2.1 bt447.1 bt447.2.1) else ((laws_sameMap.f k bt438.1 bt438.2.1 bt447.1 bt447.2.1).bind fun t456 => (if t456 = true then (if bt438.2.2.1 = bt447.2.2.1 then (laws_FnLabelsFar.j0 k bt438.2.2.1 bt438.2.2.2 bt447.2.2.1 bt447.2.2.2 (!bt438.2.2.2) bt433.1 bt433.2 bt438.1 bt438.2.1 bt447.1 bt447.2.1) else (laws_FnLabelsFar.j0 k bt438.2.2.1 bt438.2.2.2 bt447.2.2.1 bt447.2.2.2 true bt433.1 bt433.2 bt438.1 bt438.2.1 bt447.1 bt447.2.1)) else (laws_FnLabelsFar.j0 k bt438.2.2.1 bt438.2.2.2 bt447.2.2.1 bt447.2.2.2 true bt433.1 bt433.2 bt438.1 bt438.2.1 bt447.1 bt447.2.1)))))))
theorem laws_FnLabelsFar.mono_l : ∀ k, (∀ y0 y1 y2 y3 y4 y5 y6 y7 y8 y9 y10, LeO (laws_FnLabelsFar.j0 k y0 y1 y2 y3 y4 y5 y6 y7 y8 y9 y10) (laws_FnLabelsFar.j0 (k + 1) y0 y1 y2 y3 y4 y5 y6 y7 y8 y9 y10)) ∧ (∀ y0 y1 y2 y3 y4 y5 y6, LeO (laws_FnLabelsFar.l0 k y0 y1 y2 y3 y4 y5 y6) (laws_FnLabelsFar.l0 (k + 1) y0 y1 y2 y3 y4 y5 y6)) ∧ (∀ y0 y1 y2 y3 y4 y5 y6, LeO (laws_FnLabelsFar.l1 k y0 y1 y2 y3 y4 y5 y6) (laws_FnLabelsFar.l1 (k + 1) y0 y1 y2 y3 y4 y5 y6))
 | 0 => ⟨fun _ _ _ _ _ _ _ _ _ _ _ r h => by simp [laws_FnLabelsFar.j0] at h, fun _ _ _ _ _ _ _ r h => by simp [laws_FnLabelsFar.l0] at h, fun _ _ _ _ _ _ _ r h => by simp [laws_FnLabelsFar.l1] at h⟩
 | k + 1 => by
  obtain ⟨ih0, ih1, ih2⟩ := laws_FnLabelsFar.mono_l k
  refine ⟨?_, ?_, ?_⟩
  ·
   intro y0 y1 y2 y3 y4 y5 y6 y7 y8 y9 y10
   unfold laws_FnLabelsFar.j0
   repeat' first
   | (with_reducible exact ih0 _ _ _ _ _ _ _ _ _ _ _)
   | (with_reducible exact ih1 _ _ _ _ _ _ _)
   | (with_reducible exact ih2 _ _ _ _ _ _ _)
   | (with_reducible exact impl_MapFar.mono _ _ _ _ _)
   | (with_reducible exact impl_TreeLabels.mono _ _ _)
   | (with_reducible exact impl_TreeQuad.mono _ _ _)
   | (with_reducible exact laws_sameMap.mono _ _ _ _ _)
   | (with_reducible exact spec_DrawTreeQuad.mono _ _)
   | (with_reducible exact spec_TreeQuad.mono _ _ _)
   | (with_reducible exact LeO.refl _)
   | (with_reducible exact LeO.none _)
   | (with_reducible refine LeO.ite ?_ ?_)
   | (with_reducible refine LeO.bind ?_ (fun _ => ?_))
   | exact ih0 _ _ _ _ _ _ _ _ _ _ _
   | exact ih1 _ _ _ _ _ _ _
   | exact ih2 _ _ _ _ _ _ _
   | exact impl_MapFar.mono _ _ _ _ _
   | exact impl_TreeLabels.mono _ _ _
   | exact impl_TreeQuad.mono _ _ _
   | exact laws_sameMap.mono _ _ _ _ _
   | exact spec_DrawTreeQuad.mono _ _
   | exact spec_TreeQuad.mono _ _ _
   | exact LeO.none _
   | refine LeO.ite ?_ ?_
   | refine LeO.bind ?_ (fun _ => ?_)
  ·
   intro y0 y1 y2 y3 y4 y5 y6
   unfold laws_FnLabelsFar.l0
   repeat' first
   | (with_reducible exact ih0 _ _ _ _ _ _ _ _ _ _ _)
   | (with_reducible exact ih1 _ _ _ _ _ _ _)
   | (with_reducible exact ih2 _ _ _ _ _ _ _)
   | (with_reducible exact impl_MapFar.mono _ _ _ _ _)
   | (with_reducible exact impl_TreeLabels.mono _ _ _)
   | (with_reducible exact impl_TreeQuad.mono _ _ _)
   | (with_reducible exact laws_sameMap.mono _ _ _ _ _)
   | (with_reducible exact spec_DrawTreeQuad.mono _ _)
   | (with_reducible exact spec_TreeQuad.mono _ _ _)
   | (with_reducible exact LeO.refl _)
   | (with_reducible exact LeO.none _)
   | (with_reducible refine LeO.ite ?_ ?_)
   | (with_reducible refine LeO.bind ?_ (fun _ => ?_))
   | exact ih0 _ _ _ _ _ _ _ _ _ _ _
   | exact ih1 _ _ _ _ _ _ _
   | exact ih2 _ _ _ _ _ _ _
   | exact impl_MapFar.mono _ _ _ _ _
   | exact impl_TreeLabels.mono _ _ _
   | exact impl_TreeQuad.mono _ _ _
   | exact laws_sameMap.mono _ _ _ _ _
   | exact spec_DrawTreeQuad.mono _ _
   | exact spec_TreeQuad.mono _ _ _
   | exact LeO.none _
   | refine LeO.ite ?_ ?_
   | refine LeO.bind ?_ (fun _ => ?_)
  ·
   intro y0 y1 y2 y3 y4 y5 y6
   unfold laws_FnLabelsFar.l1
   repeat' first
   | (with_reducible exact ih0 _ _ _ _ _ _ _ _ _ _ _)
   | (with_reducible exact ih1 _ _ _ _ _ _ _)
   | (with_reducible exact ih2 _ _ _ _ _ _ _)
   | (with_reducible exact impl_MapFar.mono _ _ _ _ _)
   | (with_reducible exact impl_TreeLabels.mono _ _ _)
   | (with_reducible exact impl_TreeQuad.mono _ _ _)
   | (with_reducible exact laws_sameMap.mono _ _ _ _ _)
   | (with_reducible exact spec_DrawTreeQuad.mono _ _)
   | (with_reducible exact spec_TreeQuad.mono _ _ _)
   | (with_reducible exact LeO.refl _)
   | (with_reducible exact LeO.none _)
   | (with_reducible refine LeO.ite ?_ ?_)
   | (with_reducible refine LeO.bind ?_ (fun _ => ?_))
   | exact ih0 _ _ _ _ _ _ _ _ _ _ _
   | exact ih1 _ _ _ _ _ _ _
   | exact ih2 _ _ _ _ _ _ _
   | exact impl_MapFar.mono _ _ _ _ _
   | exact impl_TreeLabels.mono _ _ _
   | exact impl_TreeQuad.mono _ _ _
   | exact laws_sameMap.mono _ _ _ _ _
   | exact spec_DrawTreeQuad.mono _ _
   | exact spec_TreeQuad.mono _ _ _
   | exact LeO.none _
   | refine LeO.ite ?_ ?_
   | refine LeO.bind ?_ (fun _ => ?_)
def laws_FnLabelsFar.T17 : Bool × List (List Nat × List Nat) := (true, [([], []), ([], []), ([], []), ([2], [2]), ([0, 1, 3], [0, 1, 3]), ([], []), ([], []), ([5, 6], [5, 6]), ([7], [7]), ([], []), ([8, 9], [8, 9]), ([10], [10]), ([4, 11], [4, 11])])
def laws_FnLabelsFar.B17 : List Nat := [0, 0, 0, 4, 15, 0, 0, 96, 224, 0, 992, 2016, 4095]
theorem laws_FnLabelsFar.tab17 : rtab .any (opsOf Try.f7 17) = laws_FnLabelsFar.T17 := by kernel_rfl
theorem laws_FnLabelsFar.bits17 : waitsOk laws_FnLabelsFar.T17.2 laws_FnLabelsFar.B17 = true := by kernel_rfl
set_option maxHeartbeats 8000000 in
set_option maxRecDepth 100000 in
theorem laws_FnLabelsFar.calls (k : Nat) (A0 : Option Addr) (c0 : Nat) (l0 : List Int) (r : Bool) (w : World) (hr0 : Kd.C (Kd.int .u8) w A0 l0.length l0) (hc0 : l0.length ≤ c0) (h : laws_FnLabelsFar.f k l0 = some r) :
  Calls Try.prog 7 #[.slice A0 l0.length c0] w fun e w' => e = .returned (.bool r) ∧ Below w.heap.size w w' := by
 have hu25 := Try.underlying25; have hu29 := Try.underlying29; have HR0 := Az hr0; have HC0 := Az hc0; clear hr0 hc0; have HB := Az (Below.refl w.heap.size w); have H : (if (l0.length : Int) > 1048576 then (some true) else ((spec_DrawTreeQuad.f k l0).bind fun bt433 => ((impl_TreeQuad.f k bt433.1 bt433.2).bind fun bt438 => ((spec_TreeQuad.f k bt433.1 bt433.2).bind fun bt447 => (if (bt438.2.2.2 != bt447.2.2.2) = true then (laws_FnLabelsFar.j0 k bt438.2.2.1 bt438.2.2.2 bt447.2.2.1 bt447.2.2.2 true bt433.1 bt433.2 bt438.1 bt438.2.1 bt447.1 bt447.2.1) else ((laws_sameMap.f k bt438.1 bt438.2.1 bt447.1 bt447.2.1).bind fun t456 => (if t456 = true then (if bt438.2.2.1 = bt447.2.2.1 then (laws_FnLabelsFar.j0 k bt438.2.2.1 bt438.2.2.2 bt447.2.2.1 bt447.2.2.2 (!bt438.2.2.2) bt433.1 bt433.2 bt438.1 bt438.2.1 bt447.1 bt447.2.1) else (laws_FnLabelsFar.j0 k bt438.2.2.1 bt438.2.2.2 bt447.2.2.1 bt447.2.2.2 true bt433.1 bt433.2 bt438.1 bt438.2.1 bt447.1 bt447.2.1)) else (laws_FnLabelsFar.j0 k bt438.2.2.1 bt438.2.2.2 bt447.2.2.1 bt447.2.2.2 true bt433.1 bt433.2 bt438.1 bt438.2.1 bt447.1 bt447.2.1)))))))) = some r := h; clear h
 by_cases c2 : (l0.length : Int) > 1048576
 ·
  rw [if_pos c2] at H; have c2b0 := decide_eq_true c2; have c2b1 : decide (1048576 < l0.length) = true := decide_eq_true (by omega); clear c2; obtain rfl := Option.some.inj H
  go_enter Try.func7, Try.ntmps7
  go_wp2
  go_ret
  exact ⟨rE, bU0 HB.out⟩
 ·
  rw [if_neg c2] at H; have c2b0 := decide_eq_false c2; have c2b1 : decide (1048576 < l0.length) = false := decide_eq_false (by omega); clear c2; replace H := Option.bind_eq_some_iff.mp H; obtain ⟨⟨t433, t434⟩, A30, H⟩ := H; replace H : ((impl_TreeQuad.f k t433 t434).bind fun bt438 => ((spec_TreeQuad.f k t433 t434).bind fun bt447 => (if (bt438.2.2.2 != bt447.2.2.2) = true then (laws_FnLabelsFar.j0 k bt438.2.2.1 bt438.2.2.2 bt447.2.2.1 bt447.2.2.2 true t433 t434 bt438.1 bt438.2.1 bt447.1 bt447.2.1) else ((laws_sameMap.f k bt438.1 bt438.2.1 bt447.1 bt447.2.1).bind fun t456 => (if t456 = true then (if bt438.2.2.1 = bt447.2.2.1 then (laws_FnLabelsFar.j0 k bt438.2.2.1 bt438.2.2.2 bt447.2.2.1 bt447.2.2.2 (!bt438.2.2.2) t433 t434 bt438.1 bt438.2.1 bt447.1 bt447.2.1) else (laws_FnLabelsFar.j0 k bt438.2.2.1 bt438.2.2.2 bt447.2.2.1 bt447.2.2.2 true t433 t434 bt438.1 bt438.2.1 bt447.1 bt447.2.1)) else (laws_FnLabelsFar.j0 k bt438.2.2.1 bt438.2.2.2 bt447.2.2.1 bt447.2.2.2 true t433 t434 bt438.1 bt438.2.1 bt447.1 bt447.2.1)))))) = some r := H; have A3 := Az A30; clear A30; replace H := Option.bind_eq_some_iff.mp H; obtain ⟨⟨t438, t441, t444, t445⟩, A40, H⟩ := H; replace H : ((spec_TreeQuad.f k t433 t434).bind fun bt447 => (if (t445 != bt447.2.2.2) = true then (laws_FnLabelsFar.j0 k t444 t445 bt447.2.2.1 bt447.2.2.2 true t433 t434 t438 t441 bt447.1 bt447.2.1) else ((laws_sameMap.f k t438 t441 bt447.1 bt447.2.1).bind fun t456 => (if t456 = true then (if t444 = bt447.2.2.1 then (laws_FnLabelsFar.j0 k t444 t445 bt447.2.2.1 bt447.2.2.2 (!t445) t433 t434 t438 t441 bt447.1 bt447.2.1) else (laws_FnLabelsFar.j0 k t444 t445 bt447.2.2.1 bt447.2.2.2 true t433 t434 t438 t441 bt447.1 bt447.2.1)) else (laws_FnLabelsFar.j0 k t444 t445 bt447.2.2.1 bt447.2.2.2 true t433 t434 t438 t441 bt447.1 bt447.2.1))))) = some r := H; have A4 := Az A40; clear A40; replace H := Option.bind_eq_some_iff.mp H; obtain ⟨⟨t447, t450, t453, t454⟩, A50, H⟩ := H; replace H : (if (t445 != t454) = true then (laws_FnLabelsFar.j0 k t444 t445 t453 t454 true t433 t434 t438 t441 t447 t450) else ((laws_sameMap.f k t438 t441 t447 t450).bind fun t456 => (if t456 = true then (if t444 = t453 then (laws_FnLabelsFar.j0 k t444 t445 t453 t454 (!t445) t433 t434 t438 t441 t447 t450) else (laws_FnLabelsFar.j0 k t444 t445 t453 t454 true t433 t434 t438 t441 t447 t450)) else (laws_FnLabelsFar.j0 k t444 t445 t453 t454 true t433 t434 t438 t441 t447 t450)))) = some r := H; have A5 := Az A50; clear A50; have HC6 := Az H; clear H
  go_enter Try.func7, Try.ntmps7
  go_upto_region 6 with (first | ((with_reducible refine gate_callee (f := 44) rfl ?_); refine goesL_ (some 19) rfl rfl Try.func44 (by kernel_rfl) rfl #[.slice A0 l0.length c0] rfl (by (try simp only [List.map_toArray, List.map_cons, List.map_nil]); first | done | rfl | (simp only [List.length_drop, List.length_take]; rfl)) ?_; (with_reducible refine (spec_DrawTreeQuad.calls k _ _ l0 t433 t434 _ ?side1 ?side2 A3.out).mono ?_); (case side1 => exact cU (HR0.out)); (case side2 => exact HC0.out); rintro e w7 ⟨v435, rfl, ho0, hb⟩; refine ⟨_, rfl, ?_⟩; have n0 := Az (Kd.Q_lower ho0 (below_size (bU0 HB.out))); have n1 := Az (below_step (bU0 HB.out) hb); clear HB; have HO436 := n0; have HB := n1; clear n0 n1; (try clear hb); (try clear hb2); (try clear hk); (try clear hi); (try clear ho0)) | ((with_reducible refine gate_dst (N := 3) rfl ?_); refine box_event ?hg (N := 3) ?hd (cs := #[.string (⟨#[]⟩ : ByteArray), .slice none 0 0]) (t := 25) ?hr ?_; (case hd => rfl); (case hg => rfl); (case hr => first | (go_simp; done) | (go_simp; rfl)); intro gb437 hg w8 hbox hb; have n0 := Az (Kd.Q_below (qU HO436.out) hb); have n1 := Az (below_step (bU0 HB.out) hb); have n2 := Az (hbox); have n3 := Az ((by rw [hg]; exact (below_size (bU0 HB.out)) : w.heap.size ≤ gb437)); have n4 := n3; clear HO436 HB; have HO436 := n0; have HB := n1; have BK437 := n2; have GW437 := n3; have GE437 := n4; clear n0 n1 n2 n3 n4 hb hbox hg; have hcz9_0 : w8.cell? ⟨gb437, 0, none⟩ = some (.string (⟨#[]⟩ : ByteArray)) := (blk_cell BK437.out 0).trans rfl; have hcz9_1 : w8.cell? ⟨gb437, 1, none⟩ = some (.slice none 0 0) := (blk_cell BK437.out 1).trans rfl; have hfz9_0 := blk_frozen BK437.out 0; have hfz9_1 := blk_frozen BK437.out 1; obtain ⟨Ao10, co10, eo10, _⟩ := Kd.Q_slice HO436.out; subst eo10) | ((with_reducible refine gate_callee (f := 23) rfl ?_); refine goesL_ (some 22) rfl rfl Try.func23 (by kernel_rfl) rfl #[.agg #[.string t433, .slice Ao10 t434.length co10]] rfl (by (try simp only [List.map_toArray, List.map_cons, List.map_nil]); first | done | rfl | (simp only [List.length_drop, List.length_take]; rfl)) ?_; (with_reducible refine (impl_TreeQuad.calls k t433 _ _ t434 t438 t441 t444 t445 _ ?side1 ?side2 A4.out).mono ?_); (case side1 => refine (Kd.Q_reads' (e := 3) (base := w.heap.size) (ok := fun k_ => True) (n := t434.length) (c := co10) ?_).2.2; exact (by (with_reducible repeat (first | apply Kd.Q_alloc | apply Kd.Q_drewN | apply Kd.Q_drew)); exact (Kd.Q_mono (Kd.Q_far (p := ⟨gb437, 1, none⟩) (Kd.Q_far (p := ⟨gb437, 0, none⟩) (Kd.Q_types HO436.out BK437.out (by decide)) (fun _ hk => hk.2) (.string t433)) (fun _ hk => hk.2) (.slice Ao10 t434.length co10)) (fun _ h_ => h_.1)))); (case side2 => exact (Kd.Q_reads' HO436.out).2.1); rintro e w11 ⟨v439, v442, rfl, ho0, ho1, hb⟩; refine ⟨_, rfl, ?_⟩; have n0 := Az (Kd.Q_mono (Kd.Q_told (Kd.Q_told (Kd.Q_old (by (with_reducible repeat (first | apply Kd.Q_alloc | apply Kd.Q_drewN | apply Kd.Q_drew)); exact (Kd.Q_mono (Kd.Q_far (p := ⟨gb437, 1, none⟩) (Kd.Q_far (p := ⟨gb437, 0, none⟩) (Kd.Q_types HO436.out BK437.out (by decide)) (fun _ hk => hk.2) (.string t433)) (fun _ hk => hk.2) (.slice Ao10 t434.length co10)) (fun _ h_ => h_.1))) hb) (Kd.R_base ho0)) (Kd.R_base ho1)) (fun _ h_ => h_.1)); have n1 := Az (Kd.R_lower (Kd.R_new' ho0 (Kd.Q_lt (by (with_reducible repeat (first | apply Kd.Q_alloc | apply Kd.Q_drewN | apply Kd.Q_drew)); exact (Kd.Q_mono (Kd.Q_far (p := ⟨gb437, 1, none⟩) (Kd.Q_far (p := ⟨gb437, 0, none⟩) (Kd.Q_types HO436.out BK437.out (by decide)) (fun _ hk => hk.2) (.string t433)) (fun _ hk => hk.2) (.slice Ao10 t434.length co10)) (fun _ h_ => h_.1))))) (below_size (bU1 HB.out GE437.out))); have n2 := Az (Kd.R_lower (Kd.R_new' ho1 (Kd.Q_lt (by (with_reducible repeat (first | apply Kd.Q_alloc | apply Kd.Q_drewN | apply Kd.Q_drew)); exact (Kd.Q_mono (Kd.Q_far (p := ⟨gb437, 1, none⟩) (Kd.Q_far (p := ⟨gb437, 0, none⟩) (Kd.Q_types HO436.out BK437.out (by decide)) (fun _ hk => hk.2) (.string t433)) (fun _ hk => hk.2) (.slice Ao10 t434.length co10)) (fun _ h_ => h_.1))))) (below_size (bU1 HB.out GE437.out))); have n3 := Az (blk_below (g := gb437) (o := .cells #[.string t433, .slice Ao10 t434.length co10] 25 (0, 0)) (by (with_reducible repeat (first | refine blk_drewN ?_ _ | refine blk_drew ?_ | refine blk_alloc ?_ _)); refine blk_put (cs := #[.string t433, .slice none 0 0]) ?_ 1 _ rfl; (with_reducible repeat (first | refine blk_drewN ?_ _ | refine blk_drew ?_ | refine blk_alloc ?_ _)); refine blk_put (cs := #[.string (⟨#[]⟩ : ByteArray), .slice none 0 0]) ?_ 0 _ rfl; (with_reducible repeat (first | refine blk_drewN ?_ _ | refine blk_drew ?_ | refine blk_alloc ?_ _)); exact BK437.out) hb); have n4 := Az (below_step (bU1 HB.out GE437.out) hb); clear HO436 BK437 HB; have HO436 := n0; have HO440 := n1; have HO443 := n2; have BK437 := n3; have HB := n4; clear n0 n1 n2 n3 n4; (try clear hb); (try clear hb2); (try clear hk); (try clear hi); (try clear ho0); (try clear ho1)) | ((with_reducible refine gate_dst (N := 4) rfl ?_); refine box_event ?hg (N := 4) ?hd (cs := #[.slice none 0 0, .slice none 0 0]) (t := 29) ?hr ?_; (case hd => rfl); (case hg => rfl); (case hr => first | (go_simp; done) | (go_simp; rfl)); intro gb446 hg w12 hbox hb; have n0 := Az (Kd.Q_below (qU HO436.out) hb); have n1 := Az (Kd.R_below (rU HO440.out) hb); have n2 := Az (Kd.R_below (rU HO443.out) hb); have n3 := Az (blk_below (g := gb437) (o := .cells #[.string t433, .slice Ao10 t434.length co10] 25 (0, 0)) (kU BK437.out) hb); have n4 := Az (below_step (bU1 HB.out GE437.out) hb); have n5 := Az (hbox); have n6 := Az ((by rw [hg]; exact (below_size (bU1 HB.out GE437.out)) : w.heap.size ≤ gb446)); have n7 := n6; have n8 := Az ((by rw [hg]; exact Nat.ne_of_lt (blk_lt (g := gb437) (o := .cells #[.string t433, .slice Ao10 t434.length co10] 25 (0, 0)) (kU BK437.out)) : gb437 ≠ gb446)); have n9 := Az ((by rw [hg]; exact Nat.ne_of_gt (blk_lt (g := gb437) (o := .cells #[.string t433, .slice Ao10 t434.length co10] 25 (0, 0)) (kU BK437.out)) : gb446 ≠ gb437)); clear HO436 HO440 HO443 BK437 HB; have HO436 := n0; have HO440 := n1; have HO443 := n2; have BK437 := n3; have HB := n4; have BK446 := n5; have GW446 := n6; have GE446 := n7; have NB437_446 := n8; have NB446_437 := n9; clear n0 n1 n2 n3 n4 n5 n6 n7 n8 n9 hb hbox hg; obtain ⟨Ao13, co13, eo13⟩ := Kd.R_slice HO440.out; subst eo13; have hnb14 := NB446_437.out; have hnc14 := NB437_446.out; have hcz15_0 : w12.cell? ⟨gb446, 0, none⟩ = some (.slice none 0 0) := (blk_cell BK446.out 0).trans rfl; have hcz15_1 : w12.cell? ⟨gb446, 1, none⟩ = some (.slice none 0 0) := (blk_cell BK446.out 1).trans rfl; have hfz15_0 := blk_frozen BK446.out 0; have hfz15_1 := blk_frozen BK446.out 1; obtain ⟨Ao16, co16, eo16⟩ := Kd.R_slice HO443.out; subst eo16; have hcz17_0 : w12.cell? ⟨gb437, 0, none⟩ = some (.string t433) := (blk_cell BK437.out 0).trans rfl; have hcz17_1 : w12.cell? ⟨gb437, 1, none⟩ = some (.slice Ao10 t434.length co10) := (blk_cell BK437.out 1).trans rfl; have hfz17_0 := blk_frozen BK437.out 0; have hfz17_1 := blk_frozen BK437.out 1) | ((with_reducible refine gate_callee (f := 21) rfl ?_); refine goesL_ (some 28) rfl rfl Try.func21 (by kernel_rfl) rfl #[.agg #[.string t433, .slice Ao10 t434.length co10]] rfl (by (try simp only [List.map_toArray, List.map_cons, List.map_nil]); first | done | rfl | (simp only [List.length_drop, List.length_take]; rfl)) ?_; (with_reducible refine (spec_TreeQuad.calls k t433 _ _ t434 t447 t450 t453 t454 _ ?side1 ?side2 A5.out).mono ?_); (case side1 => refine (Kd.Q_reads' (e := 3) (base := w.heap.size) (ok := fun k_ => ((True ∧ some k_ ≠ (.slice Ao13 t438.length co13 : Value).ownBlock) ∧ some k_ ≠ (.slice Ao16 t441.length co16 : Value).ownBlock)) (n := t434.length) (c := co10) ?_).2.2; exact (by (with_reducible repeat (first | apply Kd.Q_alloc | apply Kd.Q_drewN | apply Kd.Q_drew)); exact (Kd.Q_mono (Kd.Q_far (p := ⟨gb446, 1, none⟩) (Kd.Q_far (p := ⟨gb446, 0, none⟩) (Kd.Q_types HO436.out BK446.out (by decide)) (fun _ hk => hk.2) (.slice Ao13 t438.length co13)) (fun _ hk => hk.2) (.slice Ao16 t441.length co16)) (fun _ h_ => h_.1)))); (case side2 => exact (Kd.Q_reads' HO436.out).2.1); rintro e w18 ⟨v448, v451, rfl, ho0, ho1, hb⟩; refine ⟨_, rfl, ?_⟩; have n0 := Az (Kd.Q_mono (Kd.Q_told (Kd.Q_told (Kd.Q_old (by (with_reducible repeat (first | apply Kd.Q_alloc | apply Kd.Q_drewN | apply Kd.Q_drew)); exact (Kd.Q_mono (Kd.Q_far (p := ⟨gb446, 1, none⟩) (Kd.Q_far (p := ⟨gb446, 0, none⟩) (Kd.Q_types HO436.out BK446.out (by decide)) (fun _ hk => hk.2) (.slice Ao13 t438.length co13)) (fun _ hk => hk.2) (.slice Ao16 t441.length co16)) (fun _ h_ => h_.1))) hb) (Kd.R_base ho0)) (Kd.R_base ho1)) (fun _ h_ => h_.1)); have n1 := Az (Kd.R_mono (Kd.R_told (Kd.R_told (Kd.R_old (by (with_reducible repeat (first | apply Kd.R_alloc | apply Kd.R_drewN | apply Kd.R_drew)); exact (Kd.R_mono (Kd.R_far (p := ⟨gb446, 1, none⟩) (Kd.R_far (p := ⟨gb446, 0, none⟩) (Kd.R_types HO440.out BK446.out (by decide)) (fun _ hk => hk.2) (.slice Ao13 t438.length co13)) (fun _ hk => hk.2) (.slice Ao16 t441.length co16)) (fun _ h_ => h_.1))) hb) (Kd.R_base ho0)) (Kd.R_base ho1)) (fun _ h_ => h_.1)); have n2 := Az (Kd.R_mono (Kd.R_told (Kd.R_told (Kd.R_old (by (with_reducible repeat (first | apply Kd.R_alloc | apply Kd.R_drewN | apply Kd.R_drew)); exact (Kd.R_mono (Kd.R_far (p := ⟨gb446, 1, none⟩) (Kd.R_far (p := ⟨gb446, 0, none⟩) (Kd.R_types HO443.out BK446.out (by decide)) (fun _ hk => hk.2) (.slice Ao13 t438.length co13)) (fun _ hk => hk.2) (.slice Ao16 t441.length co16)) (fun _ h_ => h_.1))) hb) (Kd.R_base ho0)) (Kd.R_base ho1)) (fun _ h_ => h_.1)); have n3 := Az (Kd.R_lower (Kd.R_new' (Kd.R_new' (Kd.R_new' ho0 (Kd.Q_lt (by (with_reducible repeat (first | apply Kd.Q_alloc | apply Kd.Q_drewN | apply Kd.Q_drew)); exact (Kd.Q_mono (Kd.Q_far (p := ⟨gb446, 1, none⟩) (Kd.Q_far (p := ⟨gb446, 0, none⟩) (Kd.Q_types HO436.out BK446.out (by decide)) (fun _ hk => hk.2) (.slice Ao13 t438.length co13)) (fun _ hk => hk.2) (.slice Ao16 t441.length co16)) (fun _ h_ => h_.1))))) (Kd.R_lt (by (with_reducible repeat (first | apply Kd.R_alloc | apply Kd.R_drewN | apply Kd.R_drew)); exact (Kd.R_mono (Kd.R_far (p := ⟨gb446, 1, none⟩) (Kd.R_far (p := ⟨gb446, 0, none⟩) (Kd.R_types HO440.out BK446.out (by decide)) (fun _ hk => hk.2) (.slice Ao13 t438.length co13)) (fun _ hk => hk.2) (.slice Ao16 t441.length co16)) (fun _ h_ => h_.1))))) (Kd.R_lt (by (with_reducible repeat (first | apply Kd.R_alloc | apply Kd.R_drewN | apply Kd.R_drew)); exact (Kd.R_mono (Kd.R_far (p := ⟨gb446, 1, none⟩) (Kd.R_far (p := ⟨gb446, 0, none⟩) (Kd.R_types HO443.out BK446.out (by decide)) (fun _ hk => hk.2) (.slice Ao13 t438.length co13)) (fun _ hk => hk.2) (.slice Ao16 t441.length co16)) (fun _ h_ => h_.1))))) (below_size (bU2 HB.out GE437.out GE446.out))); have n4 := Az (Kd.R_lower (Kd.R_new' (Kd.R_new' (Kd.R_new' ho1 (Kd.Q_lt (by (with_reducible repeat (first | apply Kd.Q_alloc | apply Kd.Q_drewN | apply Kd.Q_drew)); exact (Kd.Q_mono (Kd.Q_far (p := ⟨gb446, 1, none⟩) (Kd.Q_far (p := ⟨gb446, 0, none⟩) (Kd.Q_types HO436.out BK446.out (by decide)) (fun _ hk => hk.2) (.slice Ao13 t438.length co13)) (fun _ hk => hk.2) (.slice Ao16 t441.length co16)) (fun _ h_ => h_.1))))) (Kd.R_lt (by (with_reducible repeat (first | apply Kd.R_alloc | apply Kd.R_drewN | apply Kd.R_drew)); exact (Kd.R_mono (Kd.R_far (p := ⟨gb446, 1, none⟩) (Kd.R_far (p := ⟨gb446, 0, none⟩) (Kd.R_types HO440.out BK446.out (by decide)) (fun _ hk => hk.2) (.slice Ao13 t438.length co13)) (fun _ hk => hk.2) (.slice Ao16 t441.length co16)) (fun _ h_ => h_.1))))) (Kd.R_lt (by (with_reducible repeat (first | apply Kd.R_alloc | apply Kd.R_drewN | apply Kd.R_drew)); exact (Kd.R_mono (Kd.R_far (p := ⟨gb446, 1, none⟩) (Kd.R_far (p := ⟨gb446, 0, none⟩) (Kd.R_types HO443.out BK446.out (by decide)) (fun _ hk => hk.2) (.slice Ao13 t438.length co13)) (fun _ hk => hk.2) (.slice Ao16 t441.length co16)) (fun _ h_ => h_.1))))) (below_size (bU2 HB.out GE437.out GE446.out))); have n5 := Az (blk_below (g := gb437) (o := .cells #[.string t433, .slice Ao10 t434.length co10] 25 (0, 0)) (by (with_reducible repeat (first | refine blk_drewN ?_ _ | refine blk_drew ?_ | refine blk_alloc ?_ _)); refine blk_far ?_ NB437_446.out _; (with_reducible repeat (first | refine blk_drewN ?_ _ | refine blk_drew ?_ | refine blk_alloc ?_ _)); refine blk_far ?_ NB437_446.out _; (with_reducible repeat (first | refine blk_drewN ?_ _ | refine blk_drew ?_ | refine blk_alloc ?_ _)); exact BK437.out) hb); have n6 := Az (blk_below (g := gb446) (o := .cells #[.slice Ao13 t438.length co13, .slice Ao16 t441.length co16] 29 (0, 0)) (by (with_reducible repeat (first | refine blk_drewN ?_ _ | refine blk_drew ?_ | refine blk_alloc ?_ _)); refine blk_put (cs := #[.slice Ao13 t438.length co13, .slice none 0 0]) ?_ 1 _ rfl; (with_reducible repeat (first | refine blk_drewN ?_ _ | refine blk_drew ?_ | refine blk_alloc ?_ _)); refine blk_put (cs := #[.slice none 0 0, .slice none 0 0]) ?_ 0 _ rfl; (with_reducible repeat (first | refine blk_drewN ?_ _ | refine blk_drew ?_ | refine blk_alloc ?_ _)); exact BK446.out) hb); have n7 := Az (below_step (bU2 HB.out GE437.out GE446.out) hb); clear HO436 HO440 HO443 BK437 BK446 HB; have HO436 := n0; have HO440 := n1; have HO443 := n2; have HO449 := n3; have HO452 := n4; have BK437 := n5; have BK446 := n6; have HB := n7; clear n0 n1 n2 n3 n4 n5 n6 n7; (try clear hb); (try clear hb2); (try clear hk); (try clear hi); (try clear ho0); (try clear ho1)) | ((with_reducible refine gate_dst (N := 7) rfl ?_); refine box_event ?hg (N := 7) ?hd (cs := #[.slice none 0 0, .slice none 0 0]) (t := 29) ?hr ?_; (case hd => rfl); (case hg => rfl); (case hr => first | (go_simp; done) | (go_simp; rfl)); intro gb455 hg w19 hbox hb; have n0 := Az (Kd.Q_below (qU HO436.out) hb); have n1 := Az (Kd.R_below (rU HO440.out) hb); have n2 := Az (Kd.R_below (rU HO443.out) hb); have n3 := Az (Kd.R_below (rU HO449.out) hb); have n4 := Az (Kd.R_below (rU HO452.out) hb); have n5 := Az (blk_below (g := gb437) (o := .cells #[.string t433, .slice Ao10 t434.length co10] 25 (0, 0)) (kU BK437.out) hb); have n6 := Az (blk_below (g := gb446) (o := .cells #[.slice Ao13 t438.length co13, .slice Ao16 t441.length co16] 29 (0, 0)) (kU BK446.out) hb); have n7 := Az (below_step (bU2 HB.out GE437.out GE446.out) hb); have n8 := Az (hbox); have n9 := Az ((by rw [hg]; exact (below_size (bU2 HB.out GE437.out GE446.out)) : w.heap.size ≤ gb455)); have n10 := n9; have n11 := Az ((by rw [hg]; exact Nat.ne_of_lt (blk_lt (g := gb437) (o := .cells #[.string t433, .slice Ao10 t434.length co10] 25 (0, 0)) (kU BK437.out)) : gb437 ≠ gb455)); have n12 := Az ((by rw [hg]; exact Nat.ne_of_gt (blk_lt (g := gb437) (o := .cells #[.string t433, .slice Ao10 t434.length co10] 25 (0, 0)) (kU BK437.out)) : gb455 ≠ gb437)); have n13 := Az ((by rw [hg]; exact Nat.ne_of_lt (blk_lt (g := gb446) (o := .cells #[.slice Ao13 t438.length co13, .slice Ao16 t441.length co16] 29 (0, 0)) (kU BK446.out)) : gb446 ≠ gb455)); have n14 := Az ((by rw [hg]; exact Nat.ne_of_gt (blk_lt (g := gb446) (o := .cells #[.slice Ao13 t438.length co13, .slice Ao16 t441.length co16] 29 (0, 0)) (kU BK446.out)) : gb455 ≠ gb446)); clear HO436 HO440 HO443 HO449 HO452 BK437 BK446 HB; have HO436 := n0; have HO440 := n1; have HO443 := n2; have HO449 := n3; have HO452 := n4; have BK437 := n5; have BK446 := n6; have HB := n7; have BK455 := n8; have GW455 := n9; have GE455 := n10; have NB437_455 := n11; have NB455_437 := n12; have NB446_455 := n13; have NB455_446 := n14; clear n0 n1 n2 n3 n4 n5 n6 n7 n8 n9 n10 n11 n12 n13 n14 hb hbox hg; obtain ⟨Ao20, co20, eo20⟩ := Kd.R_slice HO449.out; subst eo20; have hnb21 := NB455_437.out; have hnc21 := NB437_455.out; have hnb22 := NB455_446.out; have hnc22 := NB446_455.out; have hcz23_0 : w19.cell? ⟨gb455, 0, none⟩ = some (.slice none 0 0) := (blk_cell BK455.out 0).trans rfl; have hcz23_1 : w19.cell? ⟨gb455, 1, none⟩ = some (.slice none 0 0) := (blk_cell BK455.out 1).trans rfl; have hfz23_0 := blk_frozen BK455.out 0; have hfz23_1 := blk_frozen BK455.out 1; obtain ⟨Ao24, co24, eo24⟩ := Kd.R_slice HO452.out; subst eo24))
  (try simp only [Act.put, List.setIfInBounds_toArray, List.set_cons_zero, List.set_cons_succ])
  go_cut [49] (fun v49 wc => ∃ (kq : Nat) (x49_5 : Bool), v49 = .bool x49_5 ∧ Aside0 (laws_FnLabelsFar.j0 kq t444 t445 t453 t454 x49_5 t433 t434 t438 t441 t447 t450 = some r) ∧ Aside0 (kq ≤ k) ∧ Aside0 (Kd.Q (Kd.int .i64) 3 wc w.heap.size (fun k_ => some k_ ≠ ((.slice Ao13 t438.length co13) : Value).ownBlock ∧ some k_ ≠ ((.slice Ao16 t441.length co16) : Value).ownBlock ∧ some k_ ≠ ((.slice Ao20 t447.length co20) : Value).ownBlock ∧ some k_ ≠ ((.slice Ao24 t450.length co24) : Value).ownBlock) (.slice Ao10 t434.length co10) t434) ∧ Aside0 (Kd.R (Kd.int .i64) 3 wc w.heap.size (fun k_ => some k_ ≠ ((.slice Ao10 t434.length co10) : Value).ownBlock ∧ some k_ ≠ ((.slice Ao16 t441.length co16) : Value).ownBlock ∧ some k_ ≠ ((.slice Ao20 t447.length co20) : Value).ownBlock ∧ some k_ ≠ ((.slice Ao24 t450.length co24) : Value).ownBlock) (.slice Ao13 t438.length co13) t438) ∧ Aside0 (Kd.R (Kd.int .i64) 3 wc w.heap.size (fun k_ => some k_ ≠ ((.slice Ao10 t434.length co10) : Value).ownBlock ∧ some k_ ≠ ((.slice Ao13 t438.length co13) : Value).ownBlock ∧ some k_ ≠ ((.slice Ao20 t447.length co20) : Value).ownBlock ∧ some k_ ≠ ((.slice Ao24 t450.length co24) : Value).ownBlock) (.slice Ao16 t441.length co16) t441) ∧ Aside0 (Kd.R (Kd.int .i64) 3 wc w.heap.size (fun k_ => some k_ ≠ ((.slice Ao10 t434.length co10) : Value).ownBlock ∧ some k_ ≠ ((.slice Ao13 t438.length co13) : Value).ownBlock ∧ some k_ ≠ ((.slice Ao16 t441.length co16) : Value).ownBlock ∧ some k_ ≠ ((.slice Ao24 t450.length co24) : Value).ownBlock) (.slice Ao20 t447.length co20) t447) ∧ Aside0 (Kd.R (Kd.int .i64) 3 wc w.heap.size (fun k_ => some k_ ≠ ((.slice Ao10 t434.length co10) : Value).ownBlock ∧ some k_ ≠ ((.slice Ao13 t438.length co13) : Value).ownBlock ∧ some k_ ≠ ((.slice Ao16 t441.length co16) : Value).ownBlock ∧ some k_ ≠ ((.slice Ao20 t447.length co20) : Value).ownBlock) (.slice Ao24 t450.length co24) t450) ∧ Aside0 (wc.heap[gb437]? = some (.cells #[.string t433, (.slice Ao10 t434.length co10)] 25 (0, 0))) ∧ Aside0 (wc.heap[gb446]? = some (.cells #[(.slice Ao13 t438.length co13), (.slice Ao16 t441.length co16)] 29 (0, 0))) ∧ Aside0 (wc.heap[gb455]? = some (.cells #[(.slice Ao20 t447.length co20), (.slice Ao24 t450.length co24)] 29 (0, 0))) ∧ Aside0 (Below w.heap.size w wc))
  case first =>
   have H := HC6.out; clear HC6
   by_cases c25 : (t445 != t454) = true
   ·
    rw [if_pos c25] at H; have c25b0 : (t445 != t454) = true := c25; (try (have c25b1 : decide (t445 = t454) = false := by simpa using c25)); (try (have c25b2 : (t445 == t454) = false := by simpa using c25)); (try (have c25b3 : ¬ (t445 = t454) := by simpa using c25)); clear c25; (first | rw [c25b0] | (simp only [i64_w, i32_w]; rw [c25b0]) | skip); have H' := Az H; clear H
    go_wp2
    go_meet
    case rel => exact ⟨_, (true), rS, H', ⟨by first | omega | exact Nat.le_refl _⟩, ⟨by (with_reducible repeat (first | apply Kd.Q_alloc | apply Kd.Q_drewN | apply Kd.Q_drew)); exact Kd.Q_mono (Kd.Q_far (p := ⟨gb455, 1, none⟩) (Kd.Q_far (p := ⟨gb455, 0, none⟩) (Kd.Q_types HO436.out BK455.out (by decide)) (fun _ hk => hk.2) (.slice Ao20 t447.length co20)) (fun _ hk => hk.2) (.slice Ao24 t450.length co24)) (fun _ hk => ⟨hk.1.1.1.1.2, ⟨hk.1.1.1.2, ⟨hk.1.1.2, hk.1.2⟩⟩⟩)⟩, ⟨by (with_reducible repeat (first | apply Kd.R_alloc | apply Kd.R_drewN | apply Kd.R_drew)); exact Kd.R_mono (Kd.R_far (p := ⟨gb455, 1, none⟩) (Kd.R_far (p := ⟨gb455, 0, none⟩) (Kd.R_types HO440.out BK455.out (by decide)) (fun _ hk => hk.2) (.slice Ao20 t447.length co20)) (fun _ hk => hk.2) (.slice Ao24 t450.length co24)) (fun _ hk => ⟨hk.1.1.1.2, ⟨hk.1.1.1.1, ⟨hk.1.1.2, hk.1.2⟩⟩⟩)⟩, ⟨by (with_reducible repeat (first | apply Kd.R_alloc | apply Kd.R_drewN | apply Kd.R_drew)); exact Kd.R_mono (Kd.R_far (p := ⟨gb455, 1, none⟩) (Kd.R_far (p := ⟨gb455, 0, none⟩) (Kd.R_types HO443.out BK455.out (by decide)) (fun _ hk => hk.2) (.slice Ao20 t447.length co20)) (fun _ hk => hk.2) (.slice Ao24 t450.length co24)) (fun _ hk => ⟨hk.1.1.1.2, ⟨hk.1.1.1.1, ⟨hk.1.1.2, hk.1.2⟩⟩⟩)⟩, ⟨by (with_reducible repeat (first | apply Kd.R_alloc | apply Kd.R_drewN | apply Kd.R_drew)); exact Kd.R_mono (Kd.R_far (p := ⟨gb455, 1, none⟩) (Kd.R_far (p := ⟨gb455, 0, none⟩) (Kd.R_types HO449.out BK455.out (by decide)) (fun _ hk => hk.2) (.slice Ao20 t447.length co20)) (fun _ hk => hk.2) (.slice Ao24 t450.length co24)) (fun _ hk => ⟨hk.1.1.1.2, ⟨hk.1.1.2, ⟨hk.1.2, hk.1.1.1.1⟩⟩⟩)⟩, ⟨by (with_reducible repeat (first | apply Kd.R_alloc | apply Kd.R_drewN | apply Kd.R_drew)); exact Kd.R_mono (Kd.R_far (p := ⟨gb455, 1, none⟩) (Kd.R_far (p := ⟨gb455, 0, none⟩) (Kd.R_types HO452.out BK455.out (by decide)) (fun _ hk => hk.2) (.slice Ao20 t447.length co20)) (fun _ hk => hk.2) (.slice Ao24 t450.length co24)) (fun _ hk => ⟨hk.1.1.1.2, ⟨hk.1.1.2, ⟨hk.1.2, hk.1.1.1.1⟩⟩⟩)⟩, ⟨by (with_reducible repeat (first | refine blk_drewN ?_ _ | refine blk_drew ?_ | refine blk_alloc ?_ _)); refine blk_far ?_ NB437_455.out _; (with_reducible repeat (first | refine blk_drewN ?_ _ | refine blk_drew ?_ | refine blk_alloc ?_ _)); refine blk_far ?_ NB437_455.out _; (with_reducible repeat (first | refine blk_drewN ?_ _ | refine blk_drew ?_ | refine blk_alloc ?_ _)); exact BK437.out⟩, ⟨by (with_reducible repeat (first | refine blk_drewN ?_ _ | refine blk_drew ?_ | refine blk_alloc ?_ _)); refine blk_far ?_ NB446_455.out _; (with_reducible repeat (first | refine blk_drewN ?_ _ | refine blk_drew ?_ | refine blk_alloc ?_ _)); refine blk_far ?_ NB446_455.out _; (with_reducible repeat (first | refine blk_drewN ?_ _ | refine blk_drew ?_ | refine blk_alloc ?_ _)); exact BK446.out⟩, ⟨by (with_reducible repeat (first | refine blk_drewN ?_ _ | refine blk_drew ?_ | refine blk_alloc ?_ _)); refine blk_put (cs := #[.slice Ao20 t447.length co20, .slice none 0 0]) ?_ 1 _ rfl; (with_reducible repeat (first | refine blk_drewN ?_ _ | refine blk_drew ?_ | refine blk_alloc ?_ _)); refine blk_put (cs := #[.slice none 0 0, .slice none 0 0]) ?_ 0 _ rfl; (with_reducible repeat (first | refine blk_drewN ?_ _ | refine blk_drew ?_ | refine blk_alloc ?_ _)); exact BK455.out⟩, ⟨bU3 HB.out GE437.out GE446.out GE455.out⟩⟩
   ·
    rw [if_neg c25] at H
    have c25b0 : (t445 != t454) = false := by simpa using c25
    (try (have c25b1 : decide (t445 = t454) = true := by simpa using c25)); (try (have c25b2 : (t445 == t454) = true := by simpa using c25)); clear c25; (first | rw [c25b0] | (simp only [i64_w, i32_w]; rw [c25b0]) | skip); replace H := Option.bind_eq_some_iff.mp H; obtain ⟨t456, A260, H⟩ := H; replace H : (if t456 = true then (if t444 = t453 then (laws_FnLabelsFar.j0 k t444 t445 t453 t454 (!t445) t433 t434 t438 t441 t447 t450) else (laws_FnLabelsFar.j0 k t444 t445 t453 t454 true t433 t434 t438 t441 t447 t450)) else (laws_FnLabelsFar.j0 k t444 t445 t453 t454 true t433 t434 t438 t441 t447 t450)) = some r := H; have A26 := Az A260; clear A260
    by_cases c27 : t456 = true
    ·
     subst c27
     have H1 : (if t444 = t453 then (laws_FnLabelsFar.j0 k t444 t445 t453 t454 (!t445) t433 t434 t438 t441 t447 t450) else (laws_FnLabelsFar.j0 k t444 t445 t453 t454 true t433 t434 t438 t441 t447 t450)) = some r := by rw [if_pos rfl] at H; exact H
     clear H; have H := H1; clear H1
     by_cases c28 : t444 = t453
     ·
      rw [if_pos c28] at H; have c28b0 := beq_iff_eq.mpr c28; have c28b1 := bne_eq_false_iff_eq.mpr c28; clear c28; have H' := Az H; clear H; have hnb29 := NB446_437.out; have hnc29 := NB437_446.out; have hnb30 := NB446_455.out; have hnc30 := NB455_446.out; have hcz31_0 : w19.cell? ⟨gb446, 0, none⟩ = some (.slice Ao13 t438.length co13) := (blk_cell BK446.out 0).trans rfl; have hcz31_1 : w19.cell? ⟨gb446, 1, none⟩ = some (.slice Ao16 t441.length co16) := (blk_cell BK446.out 1).trans rfl; have hfz31_0 := blk_frozen BK446.out 0; have hfz31_1 := blk_frozen BK446.out 1; have hnb32 := NB455_437.out; have hnc32 := NB437_455.out; have hcz33_0 : w19.cell? ⟨gb455, 0, none⟩ = some (.slice none 0 0) := (blk_cell BK455.out 0).trans rfl; have hcz33_1 : w19.cell? ⟨gb455, 1, none⟩ = some (.slice none 0 0) := (blk_cell BK455.out 1).trans rfl; have hfz33_0 := blk_frozen BK455.out 0; have hfz33_1 := blk_frozen BK455.out 1
      go_wp2_with (first | (go_at_call 34; (with_reducible refine (laws_sameMap.calls k _ _ t438 _ _ t441 _ _ t447 _ _ t450 true _ ?side1 ?side2 ?side3 ?side4 ?side5 ?side6 ?side7 ?side8 A26.out).mono ?_); (case side1 => refine (Kd.R_reads' (e := 3) (base := w.heap.size) (ok := fun k_ => (((some k_ ≠ (.slice Ao16 t441.length co16 : Value).ownBlock ∧ some k_ ≠ (.slice Ao10 t434.length co10 : Value).ownBlock) ∧ some k_ ≠ (.slice Ao20 t447.length co20 : Value).ownBlock) ∧ some k_ ≠ (.slice Ao24 t450.length co24 : Value).ownBlock)) (n := t438.length) (c := co13) ?_).2.2; exact (by (with_reducible repeat (first | apply Kd.R_alloc | apply Kd.R_drewN | apply Kd.R_drew)); exact (Kd.R_mono (Kd.R_far (p := ⟨gb455, 1, none⟩) (Kd.R_far (p := ⟨gb455, 0, none⟩) (Kd.R_types HO440.out BK455.out (by decide)) (fun _ hk => hk.2) (.slice Ao20 t447.length co20)) (fun _ hk => hk.2) (.slice Ao24 t450.length co24)) (fun _ h_ => h_.1)))); (case side2 => exact (Kd.R_reads' HO440.out).2.1); (case side3 => refine (Kd.R_reads' (e := 3) (base := w.heap.size) (ok := fun k_ => (((some k_ ≠ (.slice Ao13 t438.length co13 : Value).ownBlock ∧ some k_ ≠ (.slice Ao10 t434.length co10 : Value).ownBlock) ∧ some k_ ≠ (.slice Ao20 t447.length co20 : Value).ownBlock) ∧ some k_ ≠ (.slice Ao24 t450.length co24 : Value).ownBlock)) (n := t441.length) (c := co16) ?_).2.2; exact (by (with_reducible repeat (first | apply Kd.R_alloc | apply Kd.R_drewN | apply Kd.R_drew)); exact (Kd.R_mono (Kd.R_far (p := ⟨gb455, 1, none⟩) (Kd.R_far (p := ⟨gb455, 0, none⟩) (Kd.R_types HO443.out BK455.out (by decide)) (fun _ hk => hk.2) (.slice Ao20 t447.length co20)) (fun _ hk => hk.2) (.slice Ao24 t450.length co24)) (fun _ h_ => h_.1)))); (case side4 => exact (Kd.R_reads' HO443.out).2.1); (case side5 => refine (Kd.R_reads' (e := 3) (base := w.heap.size) (ok := fun k_ => (((some k_ ≠ (.slice Ao24 t450.length co24 : Value).ownBlock ∧ some k_ ≠ (.slice Ao10 t434.length co10 : Value).ownBlock) ∧ some k_ ≠ (.slice Ao13 t438.length co13 : Value).ownBlock) ∧ some k_ ≠ (.slice Ao16 t441.length co16 : Value).ownBlock)) (n := t447.length) (c := co20) ?_).2.2; exact (by (with_reducible repeat (first | apply Kd.R_alloc | apply Kd.R_drewN | apply Kd.R_drew)); exact (Kd.R_mono (Kd.R_far (p := ⟨gb455, 1, none⟩) (Kd.R_far (p := ⟨gb455, 0, none⟩) (Kd.R_types HO449.out BK455.out (by decide)) (fun _ hk => hk.2) (.slice Ao20 t447.length co20)) (fun _ hk => hk.2) (.slice Ao24 t450.length co24)) (fun _ h_ => h_.1)))); (case side6 => exact (Kd.R_reads' HO449.out).2.1); (case side7 => refine (Kd.R_reads' (e := 3) (base := w.heap.size) (ok := fun k_ => (((some k_ ≠ (.slice Ao20 t447.length co20 : Value).ownBlock ∧ some k_ ≠ (.slice Ao10 t434.length co10 : Value).ownBlock) ∧ some k_ ≠ (.slice Ao13 t438.length co13 : Value).ownBlock) ∧ some k_ ≠ (.slice Ao16 t441.length co16 : Value).ownBlock)) (n := t450.length) (c := co24) ?_).2.2; exact (by (with_reducible repeat (first | apply Kd.R_alloc | apply Kd.R_drewN | apply Kd.R_drew)); exact (Kd.R_mono (Kd.R_far (p := ⟨gb455, 1, none⟩) (Kd.R_far (p := ⟨gb455, 0, none⟩) (Kd.R_types HO452.out BK455.out (by decide)) (fun _ hk => hk.2) (.slice Ao20 t447.length co20)) (fun _ hk => hk.2) (.slice Ao24 t450.length co24)) (fun _ h_ => h_.1)))); (case side8 => exact (Kd.R_reads' HO452.out).2.1); rintro e w34 ⟨rfl, hb⟩; have n0 := Az (Kd.Q_below (by (with_reducible repeat (first | apply Kd.Q_alloc | apply Kd.Q_drewN | apply Kd.Q_drew)); exact (Kd.Q_mono (Kd.Q_far (p := ⟨gb455, 1, none⟩) (Kd.Q_far (p := ⟨gb455, 0, none⟩) (Kd.Q_types HO436.out BK455.out (by decide)) (fun _ hk => hk.2) (.slice Ao20 t447.length co20)) (fun _ hk => hk.2) (.slice Ao24 t450.length co24)) (fun _ h_ => h_.1))) hb); have n1 := Az (Kd.R_below (by (with_reducible repeat (first | apply Kd.R_alloc | apply Kd.R_drewN | apply Kd.R_drew)); exact (Kd.R_mono (Kd.R_far (p := ⟨gb455, 1, none⟩) (Kd.R_far (p := ⟨gb455, 0, none⟩) (Kd.R_types HO440.out BK455.out (by decide)) (fun _ hk => hk.2) (.slice Ao20 t447.length co20)) (fun _ hk => hk.2) (.slice Ao24 t450.length co24)) (fun _ h_ => h_.1))) hb); have n2 := Az (Kd.R_below (by (with_reducible repeat (first | apply Kd.R_alloc | apply Kd.R_drewN | apply Kd.R_drew)); exact (Kd.R_mono (Kd.R_far (p := ⟨gb455, 1, none⟩) (Kd.R_far (p := ⟨gb455, 0, none⟩) (Kd.R_types HO443.out BK455.out (by decide)) (fun _ hk => hk.2) (.slice Ao20 t447.length co20)) (fun _ hk => hk.2) (.slice Ao24 t450.length co24)) (fun _ h_ => h_.1))) hb); have n3 := Az (Kd.R_below (by (with_reducible repeat (first | apply Kd.R_alloc | apply Kd.R_drewN | apply Kd.R_drew)); exact (Kd.R_mono (Kd.R_far (p := ⟨gb455, 1, none⟩) (Kd.R_far (p := ⟨gb455, 0, none⟩) (Kd.R_types HO449.out BK455.out (by decide)) (fun _ hk => hk.2) (.slice Ao20 t447.length co20)) (fun _ hk => hk.2) (.slice Ao24 t450.length co24)) (fun _ h_ => h_.1))) hb); have n4 := Az (Kd.R_below (by (with_reducible repeat (first | apply Kd.R_alloc | apply Kd.R_drewN | apply Kd.R_drew)); exact (Kd.R_mono (Kd.R_far (p := ⟨gb455, 1, none⟩) (Kd.R_far (p := ⟨gb455, 0, none⟩) (Kd.R_types HO452.out BK455.out (by decide)) (fun _ hk => hk.2) (.slice Ao20 t447.length co20)) (fun _ hk => hk.2) (.slice Ao24 t450.length co24)) (fun _ h_ => h_.1))) hb); have n5 := Az (blk_below (g := gb437) (o := .cells #[.string t433, .slice Ao10 t434.length co10] 25 (0, 0)) (by (with_reducible repeat (first | refine blk_drewN ?_ _ | refine blk_drew ?_ | refine blk_alloc ?_ _)); refine blk_far ?_ NB437_455.out _; (with_reducible repeat (first | refine blk_drewN ?_ _ | refine blk_drew ?_ | refine blk_alloc ?_ _)); refine blk_far ?_ NB437_455.out _; (with_reducible repeat (first | refine blk_drewN ?_ _ | refine blk_drew ?_ | refine blk_alloc ?_ _)); exact BK437.out) hb); have n6 := Az (blk_below (g := gb446) (o := .cells #[.slice Ao13 t438.length co13, .slice Ao16 t441.length co16] 29 (0, 0)) (by (with_reducible repeat (first | refine blk_drewN ?_ _ | refine blk_drew ?_ | refine blk_alloc ?_ _)); refine blk_far ?_ NB446_455.out _; (with_reducible repeat (first | refine blk_drewN ?_ _ | refine blk_drew ?_ | refine blk_alloc ?_ _)); refine blk_far ?_ NB446_455.out _; (with_reducible repeat (first | refine blk_drewN ?_ _ | refine blk_drew ?_ | refine blk_alloc ?_ _)); exact BK446.out) hb); have n7 := Az (blk_below (g := gb455) (o := .cells #[.slice Ao20 t447.length co20, .slice Ao24 t450.length co24] 29 (0, 0)) (by (with_reducible repeat (first | refine blk_drewN ?_ _ | refine blk_drew ?_ | refine blk_alloc ?_ _)); refine blk_put (cs := #[.slice Ao20 t447.length co20, .slice none 0 0]) ?_ 1 _ rfl; (with_reducible repeat (first | refine blk_drewN ?_ _ | refine blk_drew ?_ | refine blk_alloc ?_ _)); refine blk_put (cs := #[.slice none 0 0, .slice none 0 0]) ?_ 0 _ rfl; (with_reducible repeat (first | refine blk_drewN ?_ _ | refine blk_drew ?_ | refine blk_alloc ?_ _)); exact BK455.out) hb); have n8 := Az (below_step (bU3 HB.out GE437.out GE446.out GE455.out) hb); clear HO436 HO440 HO443 HO449 HO452 BK437 BK446 BK455 HB; have HO436 := n0; have HO440 := n1; have HO443 := n2; have HO449 := n3; have HO452 := n4; have BK437 := n5; have BK446 := n6; have BK455 := n7; have HB := n8; clear n0 n1 n2 n3 n4 n5 n6 n7 n8; (try clear hb); (try clear hb2); (try clear hk); (try clear hi)))
      go_meet
      case rel => exact ⟨_, (!t445), rS, H', ⟨by first | omega | exact Nat.le_refl _⟩, ⟨by (with_reducible repeat (first | apply Kd.Q_alloc | apply Kd.Q_drewN | apply Kd.Q_drew)); exact Kd.Q_mono HO436.out (fun _ hk => ⟨hk.1.1.1.2, ⟨hk.1.1.2, ⟨hk.1.2, hk.2⟩⟩⟩)⟩, ⟨by (with_reducible repeat (first | apply Kd.R_alloc | apply Kd.R_drewN | apply Kd.R_drew)); exact Kd.R_mono HO440.out (fun _ hk => ⟨hk.1.1.2, ⟨hk.1.1.1, ⟨hk.1.2, hk.2⟩⟩⟩)⟩, ⟨by (with_reducible repeat (first | apply Kd.R_alloc | apply Kd.R_drewN | apply Kd.R_drew)); exact Kd.R_mono HO443.out (fun _ hk => ⟨hk.1.1.2, ⟨hk.1.1.1, ⟨hk.1.2, hk.2⟩⟩⟩)⟩, ⟨by (with_reducible repeat (first | apply Kd.R_alloc | apply Kd.R_drewN | apply Kd.R_drew)); exact Kd.R_mono HO449.out (fun _ hk => ⟨hk.1.1.2, ⟨hk.1.2, ⟨hk.2, hk.1.1.1⟩⟩⟩)⟩, ⟨by (with_reducible repeat (first | apply Kd.R_alloc | apply Kd.R_drewN | apply Kd.R_drew)); exact Kd.R_mono HO452.out (fun _ hk => ⟨hk.1.1.2, ⟨hk.1.2, ⟨hk.2, hk.1.1.1⟩⟩⟩)⟩, ⟨kU BK437.out⟩, ⟨kU BK446.out⟩, ⟨kU BK455.out⟩, ⟨bU3 HB.out GE437.out GE446.out GE455.out⟩⟩
     ·
      rw [if_neg c28] at H; have c28b0 := beq_eq_false_iff_ne.mpr c28; have c28b1 := bne_iff_ne.mpr c28; have H' := Az H; clear H; have hnb35 := NB446_437.out; have hnc35 := NB437_446.out; have hnb36 := NB446_455.out; have hnc36 := NB455_446.out; have hcz37_0 : w19.cell? ⟨gb446, 0, none⟩ = some (.slice Ao13 t438.length co13) := (blk_cell BK446.out 0).trans rfl; have hcz37_1 : w19.cell? ⟨gb446, 1, none⟩ = some (.slice Ao16 t441.length co16) := (blk_cell BK446.out 1).trans rfl; have hfz37_0 := blk_frozen BK446.out 0; have hfz37_1 := blk_frozen BK446.out 1; have hnb38 := NB455_437.out; have hnc38 := NB437_455.out; have hcz39_0 : w19.cell? ⟨gb455, 0, none⟩ = some (.slice none 0 0) := (blk_cell BK455.out 0).trans rfl; have hcz39_1 : w19.cell? ⟨gb455, 1, none⟩ = some (.slice none 0 0) := (blk_cell BK455.out 1).trans rfl; have hfz39_0 := blk_frozen BK455.out 0; have hfz39_1 := blk_frozen BK455.out 1
      go_wp2_with (first | (go_at_call 34; (with_reducible refine (laws_sameMap.calls k _ _ t438 _ _ t441 _ _ t447 _ _ t450 true _ ?side1 ?side2 ?side3 ?side4 ?side5 ?side6 ?side7 ?side8 A26.out).mono ?_); (case side1 => refine (Kd.R_reads' (e := 3) (base := w.heap.size) (ok := fun k_ => (((some k_ ≠ (.slice Ao16 t441.length co16 : Value).ownBlock ∧ some k_ ≠ (.slice Ao10 t434.length co10 : Value).ownBlock) ∧ some k_ ≠ (.slice Ao20 t447.length co20 : Value).ownBlock) ∧ some k_ ≠ (.slice Ao24 t450.length co24 : Value).ownBlock)) (n := t438.length) (c := co13) ?_).2.2; exact (by (with_reducible repeat (first | apply Kd.R_alloc | apply Kd.R_drewN | apply Kd.R_drew)); exact (Kd.R_mono (Kd.R_far (p := ⟨gb455, 1, none⟩) (Kd.R_far (p := ⟨gb455, 0, none⟩) (Kd.R_types HO440.out BK455.out (by decide)) (fun _ hk => hk.2) (.slice Ao20 t447.length co20)) (fun _ hk => hk.2) (.slice Ao24 t450.length co24)) (fun _ h_ => h_.1)))); (case side2 => exact (Kd.R_reads' HO440.out).2.1); (case side3 => refine (Kd.R_reads' (e := 3) (base := w.heap.size) (ok := fun k_ => (((some k_ ≠ (.slice Ao13 t438.length co13 : Value).ownBlock ∧ some k_ ≠ (.slice Ao10 t434.length co10 : Value).ownBlock) ∧ some k_ ≠ (.slice Ao20 t447.length co20 : Value).ownBlock) ∧ some k_ ≠ (.slice Ao24 t450.length co24 : Value).ownBlock)) (n := t441.length) (c := co16) ?_).2.2; exact (by (with_reducible repeat (first | apply Kd.R_alloc | apply Kd.R_drewN | apply Kd.R_drew)); exact (Kd.R_mono (Kd.R_far (p := ⟨gb455, 1, none⟩) (Kd.R_far (p := ⟨gb455, 0, none⟩) (Kd.R_types HO443.out BK455.out (by decide)) (fun _ hk => hk.2) (.slice Ao20 t447.length co20)) (fun _ hk => hk.2) (.slice Ao24 t450.length co24)) (fun _ h_ => h_.1)))); (case side4 => exact (Kd.R_reads' HO443.out).2.1); (case side5 => refine (Kd.R_reads' (e := 3) (base := w.heap.size) (ok := fun k_ => (((some k_ ≠ (.slice Ao24 t450.length co24 : Value).ownBlock ∧ some k_ ≠ (.slice Ao10 t434.length co10 : Value).ownBlock) ∧ some k_ ≠ (.slice Ao13 t438.length co13 : Value).ownBlock) ∧ some k_ ≠ (.slice Ao16 t441.length co16 : Value).ownBlock)) (n := t447.length) (c := co20) ?_).2.2; exact (by (with_reducible repeat (first | apply Kd.R_alloc | apply Kd.R_drewN | apply Kd.R_drew)); exact (Kd.R_mono (Kd.R_far (p := ⟨gb455, 1, none⟩) (Kd.R_far (p := ⟨gb455, 0, none⟩) (Kd.R_types HO449.out BK455.out (by decide)) (fun _ hk => hk.2) (.slice Ao20 t447.length co20)) (fun _ hk => hk.2) (.slice Ao24 t450.length co24)) (fun _ h_ => h_.1)))); (case side6 => exact (Kd.R_reads' HO449.out).2.1); (case side7 => refine (Kd.R_reads' (e := 3) (base := w.heap.size) (ok := fun k_ => (((some k_ ≠ (.slice Ao20 t447.length co20 : Value).ownBlock ∧ some k_ ≠ (.slice Ao10 t434.length co10 : Value).ownBlock) ∧ some k_ ≠ (.slice Ao13 t438.length co13 : Value).ownBlock) ∧ some k_ ≠ (.slice Ao16 t441.length co16 : Value).ownBlock)) (n := t450.length) (c := co24) ?_).2.2; exact (by (with_reducible repeat (first | apply Kd.R_alloc | apply Kd.R_drewN | apply Kd.R_drew)); exact (Kd.R_mono (Kd.R_far (p := ⟨gb455, 1, none⟩) (Kd.R_far (p := ⟨gb455, 0, none⟩) (Kd.R_types HO452.out BK455.out (by decide)) (fun _ hk => hk.2) (.slice Ao20 t447.length co20)) (fun _ hk => hk.2) (.slice Ao24 t450.length co24)) (fun _ h_ => h_.1)))); (case side8 => exact (Kd.R_reads' HO452.out).2.1); rintro e w40 ⟨rfl, hb⟩; have n0 := Az (Kd.Q_below (by (with_reducible repeat (first | apply Kd.Q_alloc | apply Kd.Q_drewN | apply Kd.Q_drew)); exact (Kd.Q_mono (Kd.Q_far (p := ⟨gb455, 1, none⟩) (Kd.Q_far (p := ⟨gb455, 0, none⟩) (Kd.Q_types HO436.out BK455.out (by decide)) (fun _ hk => hk.2) (.slice Ao20 t447.length co20)) (fun _ hk => hk.2) (.slice Ao24 t450.length co24)) (fun _ h_ => h_.1))) hb); have n1 := Az (Kd.R_below (by (with_reducible repeat (first | apply Kd.R_alloc | apply Kd.R_drewN | apply Kd.R_drew)); exact (Kd.R_mono (Kd.R_far (p := ⟨gb455, 1, none⟩) (Kd.R_far (p := ⟨gb455, 0, none⟩) (Kd.R_types HO440.out BK455.out (by decide)) (fun _ hk => hk.2) (.slice Ao20 t447.length co20)) (fun _ hk => hk.2) (.slice Ao24 t450.length co24)) (fun _ h_ => h_.1))) hb); have n2 := Az (Kd.R_below (by (with_reducible repeat (first | apply Kd.R_alloc | apply Kd.R_drewN | apply Kd.R_drew)); exact (Kd.R_mono (Kd.R_far (p := ⟨gb455, 1, none⟩) (Kd.R_far (p := ⟨gb455, 0, none⟩) (Kd.R_types HO443.out BK455.out (by decide)) (fun _ hk => hk.2) (.slice Ao20 t447.length co20)) (fun _ hk => hk.2) (.slice Ao24 t450.length co24)) (fun _ h_ => h_.1))) hb); have n3 := Az (Kd.R_below (by (with_reducible repeat (first | apply Kd.R_alloc | apply Kd.R_drewN | apply Kd.R_drew)); exact (Kd.R_mono (Kd.R_far (p := ⟨gb455, 1, none⟩) (Kd.R_far (p := ⟨gb455, 0, none⟩) (Kd.R_types HO449.out BK455.out (by decide)) (fun _ hk => hk.2) (.slice Ao20 t447.length co20)) (fun _ hk => hk.2) (.slice Ao24 t450.length co24)) (fun _ h_ => h_.1))) hb); have n4 := Az (Kd.R_below (by (with_reducible repeat (first | apply Kd.R_alloc | apply Kd.R_drewN | apply Kd.R_drew)); exact (Kd.R_mono (Kd.R_far (p := ⟨gb455, 1, none⟩) (Kd.R_far (p := ⟨gb455, 0, none⟩) (Kd.R_types HO452.out BK455.out (by decide)) (fun _ hk => hk.2) (.slice Ao20 t447.length co20)) (fun _ hk => hk.2) (.slice Ao24 t450.length co24)) (fun _ h_ => h_.1))) hb); have n5 := Az (blk_below (g := gb437) (o := .cells #[.string t433, .slice Ao10 t434.length co10] 25 (0, 0)) (by (with_reducible repeat (first | refine blk_drewN ?_ _ | refine blk_drew ?_ | refine blk_alloc ?_ _)); refine blk_far ?_ NB437_455.out _; (with_reducible repeat (first | refine blk_drewN ?_ _ | refine blk_drew ?_ | refine blk_alloc ?_ _)); refine blk_far ?_ NB437_455.out _; (with_reducible repeat (first | refine blk_drewN ?_ _ | refine blk_drew ?_ | refine blk_alloc ?_ _)); exact BK437.out) hb); have n6 := Az (blk_below (g := gb446) (o := .cells #[.slice Ao13 t438.length co13, .slice Ao16 t441.length co16] 29 (0, 0)) (by (with_reducible repeat (first | refine blk_drewN ?_ _ | refine blk_drew ?_ | refine blk_alloc ?_ _)); refine blk_far ?_ NB446_455.out _; (with_reducible repeat (first | refine blk_drewN ?_ _ | refine blk_drew ?_ | refine blk_alloc ?_ _)); refine blk_far ?_ NB446_455.out _; (with_reducible repeat (first | refine blk_drewN ?_ _ | refine blk_drew ?_ | refine blk_alloc ?_ _)); exact BK446.out) hb); have n7 := Az (blk_below (g := gb455) (o := .cells #[.slice Ao20 t447.length co20, .slice Ao24 t450.length co24] 29 (0, 0)) (by (with_reducible repeat (first | refine blk_drewN ?_ _ | refine blk_drew ?_ | refine blk_alloc ?_ _)); refine blk_put (cs := #[.slice Ao20 t447.length co20, .slice none 0 0]) ?_ 1 _ rfl; (with_reducible repeat (first | refine blk_drewN ?_ _ | refine blk_drew ?_ | refine blk_alloc ?_ _)); refine blk_put (cs := #[.slice none 0 0, .slice none 0 0]) ?_ 0 _ rfl; (with_reducible repeat (first | refine blk_drewN ?_ _ | refine blk_drew ?_ | refine blk_alloc ?_ _)); exact BK455.out) hb); have n8 := Az (below_step (bU3 HB.out GE437.out GE446.out GE455.out) hb); clear HO436 HO440 HO443 HO449 HO452 BK437 BK446 BK455 HB; have HO436 := n0; have HO440 := n1; have HO443 := n2; have HO449 := n3; have HO452 := n4; have BK437 := n5; have BK446 := n6; have BK455 := n7; have HB := n8; clear n0 n1 n2 n3 n4 n5 n6 n7 n8; (try clear hb); (try clear hb2); (try clear hk); (try clear hi)))
      go_meet
      case rel => exact ⟨_, (true), rS, H', ⟨by first | omega | exact Nat.le_refl _⟩, ⟨by (with_reducible repeat (first | apply Kd.Q_alloc | apply Kd.Q_drewN | apply Kd.Q_drew)); exact Kd.Q_mono HO436.out (fun _ hk => ⟨hk.1.1.1.2, ⟨hk.1.1.2, ⟨hk.1.2, hk.2⟩⟩⟩)⟩, ⟨by (with_reducible repeat (first | apply Kd.R_alloc | apply Kd.R_drewN | apply Kd.R_drew)); exact Kd.R_mono HO440.out (fun _ hk => ⟨hk.1.1.2, ⟨hk.1.1.1, ⟨hk.1.2, hk.2⟩⟩⟩)⟩, ⟨by (with_reducible repeat (first | apply Kd.R_alloc | apply Kd.R_drewN | apply Kd.R_drew)); exact Kd.R_mono HO443.out (fun _ hk => ⟨hk.1.1.2, ⟨hk.1.1.1, ⟨hk.1.2, hk.2⟩⟩⟩)⟩, ⟨by (with_reducible repeat (first | apply Kd.R_alloc | apply Kd.R_drewN | apply Kd.R_drew)); exact Kd.R_mono HO449.out (fun _ hk => ⟨hk.1.1.2, ⟨hk.1.2, ⟨hk.2, hk.1.1.1⟩⟩⟩)⟩, ⟨by (with_reducible repeat (first | apply Kd.R_alloc | apply Kd.R_drewN | apply Kd.R_drew)); exact Kd.R_mono HO452.out (fun _ hk => ⟨hk.1.1.2, ⟨hk.1.2, ⟨hk.2, hk.1.1.1⟩⟩⟩)⟩, ⟨kU BK437.out⟩, ⟨kU BK446.out⟩, ⟨kU BK455.out⟩, ⟨bU3 HB.out GE437.out GE446.out GE455.out⟩⟩
    ·
     replace c27 := Bool.eq_false_iff.mpr c27; subst c27
     have H1 : (laws_FnLabelsFar.j0 k t444 t445 t453 t454 true t433 t434 t438 t441 t447 t450) = some r := by rw [if_neg (show ¬ (false = true) by decide)] at H; exact H
     clear H; have H := H1; clear H1; have H' := Az H; clear H; have hnb41 := NB446_437.out; have hnc41 := NB437_446.out; have hnb42 := NB446_455.out; have hnc42 := NB455_446.out; have hcz43_0 : w19.cell? ⟨gb446, 0, none⟩ = some (.slice Ao13 t438.length co13) := (blk_cell BK446.out 0).trans rfl; have hcz43_1 : w19.cell? ⟨gb446, 1, none⟩ = some (.slice Ao16 t441.length co16) := (blk_cell BK446.out 1).trans rfl; have hfz43_0 := blk_frozen BK446.out 0; have hfz43_1 := blk_frozen BK446.out 1; have hnb44 := NB455_437.out; have hnc44 := NB437_455.out; have hcz45_0 : w19.cell? ⟨gb455, 0, none⟩ = some (.slice none 0 0) := (blk_cell BK455.out 0).trans rfl; have hcz45_1 : w19.cell? ⟨gb455, 1, none⟩ = some (.slice none 0 0) := (blk_cell BK455.out 1).trans rfl; have hfz45_0 := blk_frozen BK455.out 0; have hfz45_1 := blk_frozen BK455.out 1
     go_wp2_with (first | (go_at_call 34; (with_reducible refine (laws_sameMap.calls k _ _ t438 _ _ t441 _ _ t447 _ _ t450 false _ ?side1 ?side2 ?side3 ?side4 ?side5 ?side6 ?side7 ?side8 A26.out).mono ?_); (case side1 => refine (Kd.R_reads' (e := 3) (base := w.heap.size) (ok := fun k_ => (((some k_ ≠ (.slice Ao16 t441.length co16 : Value).ownBlock ∧ some k_ ≠ (.slice Ao10 t434.length co10 : Value).ownBlock) ∧ some k_ ≠ (.slice Ao20 t447.length co20 : Value).ownBlock) ∧ some k_ ≠ (.slice Ao24 t450.length co24 : Value).ownBlock)) (n := t438.length) (c := co13) ?_).2.2; exact (by (with_reducible repeat (first | apply Kd.R_alloc | apply Kd.R_drewN | apply Kd.R_drew)); exact (Kd.R_mono (Kd.R_far (p := ⟨gb455, 1, none⟩) (Kd.R_far (p := ⟨gb455, 0, none⟩) (Kd.R_types HO440.out BK455.out (by decide)) (fun _ hk => hk.2) (.slice Ao20 t447.length co20)) (fun _ hk => hk.2) (.slice Ao24 t450.length co24)) (fun _ h_ => h_.1)))); (case side2 => exact (Kd.R_reads' HO440.out).2.1); (case side3 => refine (Kd.R_reads' (e := 3) (base := w.heap.size) (ok := fun k_ => (((some k_ ≠ (.slice Ao13 t438.length co13 : Value).ownBlock ∧ some k_ ≠ (.slice Ao10 t434.length co10 : Value).ownBlock) ∧ some k_ ≠ (.slice Ao20 t447.length co20 : Value).ownBlock) ∧ some k_ ≠ (.slice Ao24 t450.length co24 : Value).ownBlock)) (n := t441.length) (c := co16) ?_).2.2; exact (by (with_reducible repeat (first | apply Kd.R_alloc | apply Kd.R_drewN | apply Kd.R_drew)); exact (Kd.R_mono (Kd.R_far (p := ⟨gb455, 1, none⟩) (Kd.R_far (p := ⟨gb455, 0, none⟩) (Kd.R_types HO443.out BK455.out (by decide)) (fun _ hk => hk.2) (.slice Ao20 t447.length co20)) (fun _ hk => hk.2) (.slice Ao24 t450.length co24)) (fun _ h_ => h_.1)))); (case side4 => exact (Kd.R_reads' HO443.out).2.1); (case side5 => refine (Kd.R_reads' (e := 3) (base := w.heap.size) (ok := fun k_ => (((some k_ ≠ (.slice Ao24 t450.length co24 : Value).ownBlock ∧ some k_ ≠ (.slice Ao10 t434.length co10 : Value).ownBlock) ∧ some k_ ≠ (.slice Ao13 t438.length co13 : Value).ownBlock) ∧ some k_ ≠ (.slice Ao16 t441.length co16 : Value).ownBlock)) (n := t447.length) (c := co20) ?_).2.2; exact (by (with_reducible repeat (first | apply Kd.R_alloc | apply Kd.R_drewN | apply Kd.R_drew)); exact (Kd.R_mono (Kd.R_far (p := ⟨gb455, 1, none⟩) (Kd.R_far (p := ⟨gb455, 0, none⟩) (Kd.R_types HO449.out BK455.out (by decide)) (fun _ hk => hk.2) (.slice Ao20 t447.length co20)) (fun _ hk => hk.2) (.slice Ao24 t450.length co24)) (fun _ h_ => h_.1)))); (case side6 => exact (Kd.R_reads' HO449.out).2.1); (case side7 => refine (Kd.R_reads' (e := 3) (base := w.heap.size) (ok := fun k_ => (((some k_ ≠ (.slice Ao20 t447.length co20 : Value).ownBlock ∧ some k_ ≠ (.slice Ao10 t434.length co10 : Value).ownBlock) ∧ some k_ ≠ (.slice Ao13 t438.length co13 : Value).ownBlock) ∧ some k_ ≠ (.slice Ao16 t441.length co16 : Value).ownBlock)) (n := t450.length) (c := co24) ?_).2.2; exact (by (with_reducible repeat (first | apply Kd.R_alloc | apply Kd.R_drewN | apply Kd.R_drew)); exact (Kd.R_mono (Kd.R_far (p := ⟨gb455, 1, none⟩) (Kd.R_far (p := ⟨gb455, 0, none⟩) (Kd.R_types HO452.out BK455.out (by decide)) (fun _ hk => hk.2) (.slice Ao20 t447.length co20)) (fun _ hk => hk.2) (.slice Ao24 t450.length co24)) (fun _ h_ => h_.1)))); (case side8 => exact (Kd.R_reads' HO452.out).2.1); rintro e w46 ⟨rfl, hb⟩; have n0 := Az (Kd.Q_below (by (with_reducible repeat (first | apply Kd.Q_alloc | apply Kd.Q_drewN | apply Kd.Q_drew)); exact (Kd.Q_mono (Kd.Q_far (p := ⟨gb455, 1, none⟩) (Kd.Q_far (p := ⟨gb455, 0, none⟩) (Kd.Q_types HO436.out BK455.out (by decide)) (fun _ hk => hk.2) (.slice Ao20 t447.length co20)) (fun _ hk => hk.2) (.slice Ao24 t450.length co24)) (fun _ h_ => h_.1))) hb); have n1 := Az (Kd.R_below (by (with_reducible repeat (first | apply Kd.R_alloc | apply Kd.R_drewN | apply Kd.R_drew)); exact (Kd.R_mono (Kd.R_far (p := ⟨gb455, 1, none⟩) (Kd.R_far (p := ⟨gb455, 0, none⟩) (Kd.R_types HO440.out BK455.out (by decide)) (fun _ hk => hk.2) (.slice Ao20 t447.length co20)) (fun _ hk => hk.2) (.slice Ao24 t450.length co24)) (fun _ h_ => h_.1))) hb); have n2 := Az (Kd.R_below (by (with_reducible repeat (first | apply Kd.R_alloc | apply Kd.R_drewN | apply Kd.R_drew)); exact (Kd.R_mono (Kd.R_far (p := ⟨gb455, 1, none⟩) (Kd.R_far (p := ⟨gb455, 0, none⟩) (Kd.R_types HO443.out BK455.out (by decide)) (fun _ hk => hk.2) (.slice Ao20 t447.length co20)) (fun _ hk => hk.2) (.slice Ao24 t450.length co24)) (fun _ h_ => h_.1))) hb); have n3 := Az (Kd.R_below (by (with_reducible repeat (first | apply Kd.R_alloc | apply Kd.R_drewN | apply Kd.R_drew)); exact (Kd.R_mono (Kd.R_far (p := ⟨gb455, 1, none⟩) (Kd.R_far (p := ⟨gb455, 0, none⟩) (Kd.R_types HO449.out BK455.out (by decide)) (fun _ hk => hk.2) (.slice Ao20 t447.length co20)) (fun _ hk => hk.2) (.slice Ao24 t450.length co24)) (fun _ h_ => h_.1))) hb); have n4 := Az (Kd.R_below (by (with_reducible repeat (first | apply Kd.R_alloc | apply Kd.R_drewN | apply Kd.R_drew)); exact (Kd.R_mono (Kd.R_far (p := ⟨gb455, 1, none⟩) (Kd.R_far (p := ⟨gb455, 0, none⟩) (Kd.R_types HO452.out BK455.out (by decide)) (fun _ hk => hk.2) (.slice Ao20 t447.length co20)) (fun _ hk => hk.2) (.slice Ao24 t450.length co24)) (fun _ h_ => h_.1))) hb); have n5 := Az (blk_below (g := gb437) (o := .cells #[.string t433, .slice Ao10 t434.length co10] 25 (0, 0)) (by (with_reducible repeat (first | refine blk_drewN ?_ _ | refine blk_drew ?_ | refine blk_alloc ?_ _)); refine blk_far ?_ NB437_455.out _; (with_reducible repeat (first | refine blk_drewN ?_ _ | refine blk_drew ?_ | refine blk_alloc ?_ _)); refine blk_far ?_ NB437_455.out _; (with_reducible repeat (first | refine blk_drewN ?_ _ | refine blk_drew ?_ | refine blk_alloc ?_ _)); exact BK437.out) hb); have n6 := Az (blk_below (g := gb446) (o := .cells #[.slice Ao13 t438.length co13, .slice Ao16 t441.length co16] 29 (0, 0)) (by (with_reducible repeat (first | refine blk_drewN ?_ _ | refine blk_drew ?_ | refine blk_alloc ?_ _)); refine blk_far ?_ NB446_455.out _; (with_reducible repeat (first | refine blk_drewN ?_ _ | refine blk_drew ?_ | refine blk_alloc ?_ _)); refine blk_far ?_ NB446_455.out _; (with_reducible repeat (first | refine blk_drewN ?_ _ | refine blk_drew ?_ | refine blk_alloc ?_ _)); exact BK446.out) hb); have n7 := Az (blk_below (g := gb455) (o := .cells #[.slice Ao20 t447.length co20, .slice Ao24 t450.length co24] 29 (0, 0)) (by (with_reducible repeat (first | refine blk_drewN ?_ _ | refine blk_drew ?_ | refine blk_alloc ?_ _)); refine blk_put (cs := #[.slice Ao20 t447.length co20, .slice none 0 0]) ?_ 1 _ rfl; (with_reducible repeat (first | refine blk_drewN ?_ _ | refine blk_drew ?_ | refine blk_alloc ?_ _)); refine blk_put (cs := #[.slice none 0 0, .slice none 0 0]) ?_ 0 _ rfl; (with_reducible repeat (first | refine blk_drewN ?_ _ | refine blk_drew ?_ | refine blk_alloc ?_ _)); exact BK455.out) hb); have n8 := Az (below_step (bU3 HB.out GE437.out GE446.out GE455.out) hb); clear HO436 HO440 HO443 HO449 HO452 BK437 BK446 BK455 HB; have HO436 := n0; have HO440 := n1; have HO443 := n2; have HO449 := n3; have HO452 := n4; have BK437 := n5; have BK446 := n6; have BK455 := n7; have HB := n8; clear n0 n1 n2 n3 n4 n5 n6 n7 n8; (try clear hb); (try clear hb2); (try clear hk); (try clear hi)))
     go_meet
     case rel => exact ⟨_, (true), rS, H', ⟨by first | omega | exact Nat.le_refl _⟩, ⟨by (with_reducible repeat (first | apply Kd.Q_alloc | apply Kd.Q_drewN | apply Kd.Q_drew)); exact Kd.Q_mono HO436.out (fun _ hk => ⟨hk.1.1.1.2, ⟨hk.1.1.2, ⟨hk.1.2, hk.2⟩⟩⟩)⟩, ⟨by (with_reducible repeat (first | apply Kd.R_alloc | apply Kd.R_drewN | apply Kd.R_drew)); exact Kd.R_mono HO440.out (fun _ hk => ⟨hk.1.1.2, ⟨hk.1.1.1, ⟨hk.1.2, hk.2⟩⟩⟩)⟩, ⟨by (with_reducible repeat (first | apply Kd.R_alloc | apply Kd.R_drewN | apply Kd.R_drew)); exact Kd.R_mono HO443.out (fun _ hk => ⟨hk.1.1.2, ⟨hk.1.1.1, ⟨hk.1.2, hk.2⟩⟩⟩)⟩, ⟨by (with_reducible repeat (first | apply Kd.R_alloc | apply Kd.R_drewN | apply Kd.R_drew)); exact Kd.R_mono HO449.out (fun _ hk => ⟨hk.1.1.2, ⟨hk.1.2, ⟨hk.2, hk.1.1.1⟩⟩⟩)⟩, ⟨by (with_reducible repeat (first | apply Kd.R_alloc | apply Kd.R_drewN | apply Kd.R_drew)); exact Kd.R_mono HO452.out (fun _ hk => ⟨hk.1.1.2, ⟨hk.1.2, ⟨hk.2, hk.1.1.1⟩⟩⟩)⟩, ⟨kU BK437.out⟩, ⟨kU BK446.out⟩, ⟨kU BK455.out⟩, ⟨bU3 HB.out GE437.out GE446.out GE455.out⟩⟩
  case rest =>
   clear HC6; (try clear c1); (try clear c2); (try clear c2b0); (try clear c2b1); (try clear p2); (try clear c3); (try clear c4); (try clear c7); (try clear c14); (try clear c21); (try clear c22); (try clear c23); (try clear c25); (try clear c25b0); (try clear c25b1); (try clear c25b2); (try clear c27); (try clear c28); (try clear c28b0); (try clear c28b1); (try clear c29); (try clear c30); (try clear c32); (try clear c35); (try clear c36); (try clear c38); (try clear c41); (try clear c42); (try clear c44); (try clear hcz15_0); (try clear hcz15_1); (try clear hcz17_0); (try clear hcz17_1); (try clear hcz23_0); (try clear hcz23_1); (try clear hcz31_0); (try clear hcz31_1); (try clear hcz33_0); (try clear hcz33_1); (try clear hcz37_0); (try clear hcz37_1); (try clear hcz39_0); (try clear hcz39_1); (try clear hcz43_0); (try clear hcz43_1); (try clear hcz45_0); (try clear hcz45_1); (try clear hcz9_0); (try clear hcz9_1); (try clear hfz15_0); (try clear hfz15_1); (try clear hfz17_0); (try clear hfz17_1); (try clear hfz23_0); (try clear hfz23_1); (try clear hfz31_0); (try clear hfz31_1); (try clear hfz33_0); (try clear hfz33_1); (try clear hfz37_0); (try clear hfz37_1); (try clear hfz39_0); (try clear hfz39_1); (try clear hfz43_0); (try clear hfz43_1); (try clear hfz45_0); (try clear hfz45_1); (try clear hfz9_0); (try clear hfz9_1); obtain ⟨kq, x49_5, rfl, HA, HJ5, HO_Z1, HO_Z2, HO_Z3, HO_Z4, HO_Z5, BK437, BK446, BK455, HB⟩ := hcut
   cases kq with
   | zero => exact absurd HA.out (by simp [laws_FnLabelsFar.j0])
   | succ kj5 =>
    have H := HA.out; clear HA; simp only [laws_FnLabelsFar.j0] at H
    by_cases c47 : x49_5 = true
    ·
     subst c47
     have H1 : (if (t445 == t454) = true then ((laws_sameMap.f kj5 t438 t441 t447 t450).bind fun t457 => (if t457 = true then (some (t444 == t453)) else (some false))) else (some false)) = some r := by rw [if_pos rfl] at H; exact H
     clear H; have H := H1; clear H1
     by_cases c48 : (t445 == t454) = true
     ·
      rw [if_pos c48] at H; have c48b0 : (t445 == t454) = true := c48; (try (have c48b1 : decide (t445 = t454) = true := by simpa using c48)); (try (have c48b2 : (t445 == t454) = true := by simpa using c48)); clear c48; replace H := Option.bind_eq_some_iff.mp H; obtain ⟨t457, A490, H⟩ := H; replace H : (if t457 = true then (some (t444 == t453)) else (some false)) = some r := H; have A49 := Az A490; clear A490
      by_cases c50 : t457 = true
      ·
       subst c50
       have H1 : (some (t444 == t453)) = some r := by rw [if_pos rfl] at H; exact H
       clear H; have H := H1; clear H1; obtain rfl := Option.some.inj H; have hnb51 := NB446_437.out; have hnc51 := NB437_446.out; have hnb52 := NB446_455.out; have hnc52 := NB455_446.out; have hcz53_0 : wc.cell? ⟨gb446, 0, none⟩ = some (.slice Ao13 t438.length co13) := (blk_cell BK446.out 0).trans rfl; have hcz53_1 : wc.cell? ⟨gb446, 1, none⟩ = some (.slice Ao16 t441.length co16) := (blk_cell BK446.out 1).trans rfl; have hfz53_0 := blk_frozen BK446.out 0; have hfz53_1 := blk_frozen BK446.out 1; have hnb54 := NB455_437.out; have hnc54 := NB437_455.out; have hcz55_0 : wc.cell? ⟨gb455, 0, none⟩ = some (.slice Ao20 t447.length co20) := (blk_cell BK455.out 0).trans rfl; have hcz55_1 : wc.cell? ⟨gb455, 1, none⟩ = some (.slice Ao24 t450.length co24) := (blk_cell BK455.out 1).trans rfl; have hfz55_0 := blk_frozen BK455.out 0; have hfz55_1 := blk_frozen BK455.out 1
       go_wp2_with (first | (go_at_call 34; (with_reducible refine (laws_sameMap.calls kj5 _ _ t438 _ _ t441 _ _ t447 _ _ t450 true _ ?side1 ?side2 ?side3 ?side4 ?side5 ?side6 ?side7 ?side8 A49.out).mono ?_); (case side1 => exact cU ((Kd.R_reads' HO_Z2.out).2.2)); (case side2 => exact (Kd.R_reads' HO_Z2.out).2.1); (case side3 => exact cU ((Kd.R_reads' HO_Z3.out).2.2)); (case side4 => exact (Kd.R_reads' HO_Z3.out).2.1); (case side5 => exact cU ((Kd.R_reads' HO_Z4.out).2.2)); (case side6 => exact (Kd.R_reads' HO_Z4.out).2.1); (case side7 => exact cU ((Kd.R_reads' HO_Z5.out).2.2)); (case side8 => exact (Kd.R_reads' HO_Z5.out).2.1); rintro e w56 ⟨rfl, hb⟩; have n0 := Az (Kd.Q_below (qU HO_Z1.out) hb); have n1 := Az (Kd.R_below (rU HO_Z2.out) hb); have n2 := Az (Kd.R_below (rU HO_Z3.out) hb); have n3 := Az (Kd.R_below (rU HO_Z4.out) hb); have n4 := Az (Kd.R_below (rU HO_Z5.out) hb); have n5 := Az (blk_below (g := gb437) (o := .cells #[.string t433, .slice Ao10 t434.length co10] 25 (0, 0)) (kU BK437.out) hb); have n6 := Az (blk_below (g := gb446) (o := .cells #[.slice Ao13 t438.length co13, .slice Ao16 t441.length co16] 29 (0, 0)) (kU BK446.out) hb); have n7 := Az (blk_below (g := gb455) (o := .cells #[.slice Ao20 t447.length co20, .slice Ao24 t450.length co24] 29 (0, 0)) (kU BK455.out) hb); have n8 := Az (below_step (bU3 HB.out GE437.out GE446.out GE455.out) hb); clear HO_Z1 HO_Z2 HO_Z3 HO_Z4 HO_Z5 BK437 BK446 BK455 HB; have HO_Z1 := n0; have HO_Z2 := n1; have HO_Z3 := n2; have HO_Z4 := n3; have HO_Z5 := n4; have BK437 := n5; have BK446 := n6; have BK455 := n7; have HB := n8; clear n0 n1 n2 n3 n4 n5 n6 n7 n8; (try clear hb); (try clear hb2); (try clear hk); (try clear hi)))
       go_ret
       exact ⟨rE, bU3 HB.out GE437.out GE446.out GE455.out⟩
      ·
       replace c50 := Bool.eq_false_iff.mpr c50; subst c50
       have H1 : (some false) = some r := by rw [if_neg (show ¬ (false = true) by decide)] at H; exact H
       clear H; have H := H1; clear H1; obtain rfl := Option.some.inj H; have hnb57 := NB446_437.out; have hnc57 := NB437_446.out; have hnb58 := NB446_455.out; have hnc58 := NB455_446.out; have hcz59_0 : wc.cell? ⟨gb446, 0, none⟩ = some (.slice Ao13 t438.length co13) := (blk_cell BK446.out 0).trans rfl; have hcz59_1 : wc.cell? ⟨gb446, 1, none⟩ = some (.slice Ao16 t441.length co16) := (blk_cell BK446.out 1).trans rfl; have hfz59_0 := blk_frozen BK446.out 0; have hfz59_1 := blk_frozen BK446.out 1; have hnb60 := NB455_437.out; have hnc60 := NB437_455.out; have hcz61_0 : wc.cell? ⟨gb455, 0, none⟩ = some (.slice Ao20 t447.length co20) := (blk_cell BK455.out 0).trans rfl; have hcz61_1 : wc.cell? ⟨gb455, 1, none⟩ = some (.slice Ao24 t450.length co24) := (blk_cell BK455.out 1).trans rfl; have hfz61_0 := blk_frozen BK455.out 0; have hfz61_1 := blk_frozen BK455.out 1
       go_wp2_with (first | (go_at_call 34; (with_reducible refine (laws_sameMap.calls kj5 _ _ t438 _ _ t441 _ _ t447 _ _ t450 false _ ?side1 ?side2 ?side3 ?side4 ?side5 ?side6 ?side7 ?side8 A49.out).mono ?_); (case side1 => exact cU ((Kd.R_reads' HO_Z2.out).2.2)); (case side2 => exact (Kd.R_reads' HO_Z2.out).2.1); (case side3 => exact cU ((Kd.R_reads' HO_Z3.out).2.2)); (case side4 => exact (Kd.R_reads' HO_Z3.out).2.1); (case side5 => exact cU ((Kd.R_reads' HO_Z4.out).2.2)); (case side6 => exact (Kd.R_reads' HO_Z4.out).2.1); (case side7 => exact cU ((Kd.R_reads' HO_Z5.out).2.2)); (case side8 => exact (Kd.R_reads' HO_Z5.out).2.1); rintro e w62 ⟨rfl, hb⟩; have n0 := Az (Kd.Q_below (qU HO_Z1.out) hb); have n1 := Az (Kd.R_below (rU HO_Z2.out) hb); have n2 := Az (Kd.R_below (rU HO_Z3.out) hb); have n3 := Az (Kd.R_below (rU HO_Z4.out) hb); have n4 := Az (Kd.R_below (rU HO_Z5.out) hb); have n5 := Az (blk_below (g := gb437) (o := .cells #[.string t433, .slice Ao10 t434.length co10] 25 (0, 0)) (kU BK437.out) hb); have n6 := Az (blk_below (g := gb446) (o := .cells #[.slice Ao13 t438.length co13, .slice Ao16 t441.length co16] 29 (0, 0)) (kU BK446.out) hb); have n7 := Az (blk_below (g := gb455) (o := .cells #[.slice Ao20 t447.length co20, .slice Ao24 t450.length co24] 29 (0, 0)) (kU BK455.out) hb); have n8 := Az (below_step (bU3 HB.out GE437.out GE446.out GE455.out) hb); clear HO_Z1 HO_Z2 HO_Z3 HO_Z4 HO_Z5 BK437 BK446 BK455 HB; have HO_Z1 := n0; have HO_Z2 := n1; have HO_Z3 := n2; have HO_Z4 := n3; have HO_Z5 := n4; have BK437 := n5; have BK446 := n6; have BK455 := n7; have HB := n8; clear n0 n1 n2 n3 n4 n5 n6 n7 n8; (try clear hb); (try clear hb2); (try clear hk); (try clear hi)))
       go_ret
       exact ⟨rE, bU3 HB.out GE437.out GE446.out GE455.out⟩
     ·
      rw [if_neg c48] at H
      have c48b0 : (t445 == t454) = false := by simpa using c48
      (try (have c48b1 : decide (t445 = t454) = false := by simpa using c48)); (try (have c48b2 : (t445 == t454) = false := by simpa using c48)); (try (have c48b3 : ¬ (t445 = t454) := by simpa using c48)); clear c48; obtain rfl := Option.some.inj H
      go_wp2
      go_ret
      exact ⟨rE, bU3 HB.out GE437.out GE446.out GE455.out⟩
    ·
     replace c47 := Bool.eq_false_iff.mpr c47; subst c47
     have H1 : ((impl_TreeLabels.f kj5 t433 t434).bind fun bt458 => (if 0 < (bt458.1.length : Int) then (laws_FnLabelsFar.l0 kj5 t444 bt458.1 bt458.2 (rd bt458.1 0) 0 t438 t441) else (none))) = some r := by rw [if_neg (show ¬ (false = true) by decide)] at H; exact H
     clear H; have H := H1; clear H1; replace H := Option.bind_eq_some_iff.mp H; obtain ⟨⟨t458, t461⟩, A630, H⟩ := H; replace H : (if 0 < (t458.length : Int) then (laws_FnLabelsFar.l0 kj5 t444 t458 t461 (rd t458 0) 0 t438 t441) else (none)) = some r := H; have A63 := Az A630; clear A630
     by_cases c64 : 0 < (t458.length : Int)
     ·
      rw [if_pos c64] at H; have c64b0 := decide_eq_true c64; have c64b1 : decide (0 < t458.length) = true := decide_eq_true (by omega); clear c64; have H' := Az H; clear H; have hnb65 := NB437_446.out; have hnc65 := NB446_437.out; have hnb66 := NB437_455.out; have hnc66 := NB455_437.out; have hcz67_0 : wc.cell? ⟨gb437, 0, none⟩ = some (.string t433) := (blk_cell BK437.out 0).trans rfl; have hcz67_1 : wc.cell? ⟨gb437, 1, none⟩ = some (.slice Ao10 t434.length co10) := (blk_cell BK437.out 1).trans rfl; have hfz67_0 := blk_frozen BK437.out 0; have hfz67_1 := blk_frozen BK437.out 1
      go_wp2_with (first | ((with_reducible refine gate_callee (f := 45) rfl ?_); refine goesL_ (some 65) rfl rfl Try.func45 (by kernel_rfl) rfl #[.agg #[.string t433, .slice Ao10 t434.length co10]] rfl (by (try simp only [List.map_toArray, List.map_cons, List.map_nil]); first | done | rfl | (simp only [List.length_drop, List.length_take]; rfl)) ?_; (with_reducible refine (impl_TreeLabels.calls kj5 t433 _ _ t434 t458 t461 _ ?side1 ?side2 A63.out).mono ?_); (case side1 => exact cU ((Kd.Q_reads' HO_Z1.out).2.2)); (case side2 => exact (Kd.Q_reads' HO_Z1.out).2.1); rintro e w68 ⟨v459, rfl, ho0, hb⟩; refine ⟨_, rfl, ?_⟩; have n0 := Az (Kd.Q_elder' (qU HO_Z1.out) (Kd.R_base ho0) hb); have n1 := Az (Kd.R_elder' (rU HO_Z2.out) (Kd.R_base ho0) hb); have n2 := Az (Kd.R_elder' (rU HO_Z3.out) (Kd.R_base ho0) hb); have n3 := Az (Kd.R_elder' (rU HO_Z4.out) (Kd.R_base ho0) hb); have n4 := Az (Kd.R_elder' (rU HO_Z5.out) (Kd.R_base ho0) hb); have n5 := Az (Kd.R_lower (Kd.R_new' (Kd.R_new' (Kd.R_new' (Kd.R_new' (Kd.R_new' ho0 (Kd.Q_lt (qU HO_Z1.out))) (Kd.R_lt (rU HO_Z2.out))) (Kd.R_lt (rU HO_Z3.out))) (Kd.R_lt (rU HO_Z4.out))) (Kd.R_lt (rU HO_Z5.out))) (below_size (bU3 HB.out GE437.out GE446.out GE455.out))); have n6 := Az (blk_below (g := gb437) (o := .cells #[.string t433, .slice Ao10 t434.length co10] 25 (0, 0)) (kU BK437.out) hb); have n7 := Az (blk_below (g := gb446) (o := .cells #[.slice Ao13 t438.length co13, .slice Ao16 t441.length co16] 29 (0, 0)) (kU BK446.out) hb); have n8 := Az (blk_below (g := gb455) (o := .cells #[.slice Ao20 t447.length co20, .slice Ao24 t450.length co24] 29 (0, 0)) (kU BK455.out) hb); have n9 := Az (below_step (bU3 HB.out GE437.out GE446.out GE455.out) hb); clear HO_Z1 HO_Z2 HO_Z3 HO_Z4 HO_Z5 BK437 BK446 BK455 HB; have HO_Z1 := n0; have HO_Z2 := n1; have HO_Z3 := n2; have HO_Z4 := n3; have HO_Z5 := n4; have HO460 := n5; have BK437 := n6; have BK446 := n7; have BK455 := n8; have HB := n9; clear n0 n1 n2 n3 n4 n5 n6 n7 n8 n9; (try clear hb); (try clear hb2); (try clear hk); (try clear hi); (try clear ho0); obtain ⟨Ao69, co69, eo69⟩ := Kd.R_slice HO460.out; subst eo69; have p462 : 0 ≤ (0 : Int) := (by omega); have q462 : 0 < (t458.length : Int) := oA; obtain ⟨ad462, e462, hx462_0⟩ := Kd.at_int (Kd.R_reads' HO460.out).2.2 0 p462 q462; cases e462; have qi462 : (0 < t458.length) = True := eq_true (by omega); (try rw [show ((0 : Int)).toNat = 0 from rfl] at hx462_0); (try rw [Addr.add_zero'] at hx462_0); replace p462 := eq_true p462; replace q462 := eq_true q462))
      go_loopg [12, 13] kj5 (fun kq v12 v13 w' => ∃ (x12_2 : Int) (x13_2 : Int), v12 = .int .i64 x12_2 ∧ v13 = .int .i64 x13_2 ∧ Aside0 (laws_FnLabelsFar.l0 kq t444 t458 t461 x12_2 x13_2 t438 t441 = some r) ∧ Aside0 (kq ≤ kj5) ∧ Aside0 (Kd.R (Kd.int .i64) 3 w' w.heap.size (fun k_ => some k_ ≠ ((.slice Ao10 t434.length co10) : Value).ownBlock ∧ some k_ ≠ ((.slice Ao13 t438.length co13) : Value).ownBlock ∧ some k_ ≠ ((.slice Ao16 t441.length co16) : Value).ownBlock ∧ some k_ ≠ ((.slice Ao20 t447.length co20) : Value).ownBlock ∧ some k_ ≠ ((.slice Ao24 t450.length co24) : Value).ownBlock) (.slice (some ad462) t458.length co69) t458) ∧ Aside0 (Kd.Q (Kd.int .i64) 3 w' w.heap.size (fun k_ => some k_ ≠ ((.slice (some ad462) t458.length co69) : Value).ownBlock ∧ some k_ ≠ ((.slice Ao13 t438.length co13) : Value).ownBlock ∧ some k_ ≠ ((.slice Ao16 t441.length co16) : Value).ownBlock ∧ some k_ ≠ ((.slice Ao20 t447.length co20) : Value).ownBlock ∧ some k_ ≠ ((.slice Ao24 t450.length co24) : Value).ownBlock) (.slice Ao10 t434.length co10) t434) ∧ Aside0 (Kd.R (Kd.int .i64) 3 w' w.heap.size (fun k_ => some k_ ≠ ((.slice (some ad462) t458.length co69) : Value).ownBlock ∧ some k_ ≠ ((.slice Ao10 t434.length co10) : Value).ownBlock ∧ some k_ ≠ ((.slice Ao16 t441.length co16) : Value).ownBlock ∧ some k_ ≠ ((.slice Ao20 t447.length co20) : Value).ownBlock ∧ some k_ ≠ ((.slice Ao24 t450.length co24) : Value).ownBlock) (.slice Ao13 t438.length co13) t438) ∧ Aside0 (Kd.R (Kd.int .i64) 3 w' w.heap.size (fun k_ => some k_ ≠ ((.slice (some ad462) t458.length co69) : Value).ownBlock ∧ some k_ ≠ ((.slice Ao10 t434.length co10) : Value).ownBlock ∧ some k_ ≠ ((.slice Ao13 t438.length co13) : Value).ownBlock ∧ some k_ ≠ ((.slice Ao20 t447.length co20) : Value).ownBlock ∧ some k_ ≠ ((.slice Ao24 t450.length co24) : Value).ownBlock) (.slice Ao16 t441.length co16) t441) ∧ Aside0 (Kd.R (Kd.int .i64) 3 w' w.heap.size (fun k_ => some k_ ≠ ((.slice (some ad462) t458.length co69) : Value).ownBlock ∧ some k_ ≠ ((.slice Ao10 t434.length co10) : Value).ownBlock ∧ some k_ ≠ ((.slice Ao13 t438.length co13) : Value).ownBlock ∧ some k_ ≠ ((.slice Ao16 t441.length co16) : Value).ownBlock ∧ some k_ ≠ ((.slice Ao24 t450.length co24) : Value).ownBlock) (.slice Ao20 t447.length co20) t447) ∧ Aside0 (Kd.R (Kd.int .i64) 3 w' w.heap.size (fun k_ => some k_ ≠ ((.slice (some ad462) t458.length co69) : Value).ownBlock ∧ some k_ ≠ ((.slice Ao10 t434.length co10) : Value).ownBlock ∧ some k_ ≠ ((.slice Ao13 t438.length co13) : Value).ownBlock ∧ some k_ ≠ ((.slice Ao16 t441.length co16) : Value).ownBlock ∧ some k_ ≠ ((.slice Ao20 t447.length co20) : Value).ownBlock) (.slice Ao24 t450.length co24) t450) ∧ Aside0 (w'.heap[gb437]? = some (.cells #[.string t433, (.slice Ao10 t434.length co10)] 25 (0, 0))) ∧ Aside0 (w'.heap[gb446]? = some (.cells #[(.slice Ao13 t438.length co13), (.slice Ao16 t441.length co16)] 29 (0, 0))) ∧ Aside0 (w'.heap[gb455]? = some (.cells #[(.slice Ao20 t447.length co20), (.slice Ao24 t450.length co24)] 29 (0, 0))) ∧ Aside0 (Below w.heap.size w w'))
      case atStart => exact ⟨(rd t458 0), (0), rS, rS, H', ⟨Nat.le_refl _⟩, ⟨by (with_reducible repeat (first | apply Kd.R_alloc | apply Kd.R_drewN | apply Kd.R_drew)); exact Kd.R_mono HO460.out (fun _ hk => ⟨hk.1.1.1.1.2, ⟨hk.1.1.1.2, ⟨hk.1.1.2, ⟨hk.1.2, hk.2⟩⟩⟩⟩)⟩, ⟨by (with_reducible repeat (first | apply Kd.Q_alloc | apply Kd.Q_drewN | apply Kd.Q_drew)); exact Kd.Q_mono HO_Z1.out (fun _ hk => ⟨hk.2, ⟨hk.1.1, ⟨hk.1.2.1, ⟨hk.1.2.2.1, hk.1.2.2.2⟩⟩⟩⟩)⟩, ⟨by (with_reducible repeat (first | apply Kd.R_alloc | apply Kd.R_drewN | apply Kd.R_drew)); exact Kd.R_mono HO_Z2.out (fun _ hk => ⟨hk.2, ⟨hk.1.1, ⟨hk.1.2.1, ⟨hk.1.2.2.1, hk.1.2.2.2⟩⟩⟩⟩)⟩, ⟨by (with_reducible repeat (first | apply Kd.R_alloc | apply Kd.R_drewN | apply Kd.R_drew)); exact Kd.R_mono HO_Z3.out (fun _ hk => ⟨hk.2, ⟨hk.1.1, ⟨hk.1.2.1, ⟨hk.1.2.2.1, hk.1.2.2.2⟩⟩⟩⟩)⟩, ⟨by (with_reducible repeat (first | apply Kd.R_alloc | apply Kd.R_drewN | apply Kd.R_drew)); exact Kd.R_mono HO_Z4.out (fun _ hk => ⟨hk.2, ⟨hk.1.1, ⟨hk.1.2.1, ⟨hk.1.2.2.1, hk.1.2.2.2⟩⟩⟩⟩)⟩, ⟨by (with_reducible repeat (first | apply Kd.R_alloc | apply Kd.R_drewN | apply Kd.R_drew)); exact Kd.R_mono HO_Z5.out (fun _ hk => ⟨hk.2, ⟨hk.1.1, ⟨hk.1.2.1, ⟨hk.1.2.2.1, hk.1.2.2.2⟩⟩⟩⟩)⟩, ⟨kU BK437.out⟩, ⟨kU BK446.out⟩, ⟨kU BK455.out⟩, ⟨bU3 HB.out GE437.out GE446.out GE455.out⟩⟩
      case round =>
       clear H'; (try clear c1); (try clear c2); (try clear c2b0); (try clear c2b1); (try clear p2); (try clear c3); (try clear c4); (try clear p4); (try clear q4); (try clear hx4); (try clear qi4); (try clear c5); (try clear c6); (try clear c7); (try clear c14); (try clear c21); (try clear c22); (try clear c23); (try clear c25); (try clear c25b0); (try clear c25b1); (try clear c25b2); (try clear c27); (try clear c28); (try clear c28b0); (try clear c28b1); (try clear c29); (try clear c30); (try clear c32); (try clear c35); (try clear c36); (try clear c38); (try clear c41); (try clear c42); (try clear c44); (try clear c45); (try clear p46); (try clear q46); (try clear hx46); (try clear qi46); (try clear c47); (try clear c48); (try clear c48b0); (try clear c48b1); (try clear c48b2); (try clear c50); (try clear c51); (try clear c52); (try clear c54); (try clear c57); (try clear c58); (try clear c60); (try clear c64); (try clear c64b0); (try clear c64b1); (try clear c65); (try clear c66); (try clear hcz15_0); (try clear hcz15_1); (try clear hcz17_0); (try clear hcz17_1); (try clear hcz23_0); (try clear hcz23_1); (try clear hcz31_0); (try clear hcz31_1); (try clear hcz33_0); (try clear hcz33_1); (try clear hcz37_0); (try clear hcz37_1); (try clear hcz39_0); (try clear hcz39_1); (try clear hcz43_0); (try clear hcz43_1); (try clear hcz45_0); (try clear hcz45_1); (try clear hcz53_0); (try clear hcz53_1); (try clear hcz55_0); (try clear hcz55_1); (try clear hcz59_0); (try clear hcz59_1); (try clear hcz61_0); (try clear hcz61_1); (try clear hcz67_0); (try clear hcz67_1); (try clear hcz9_0); (try clear hcz9_1); (try clear hfz15_0); (try clear hfz15_1); (try clear hfz17_0); (try clear hfz17_1); (try clear hfz23_0); (try clear hfz23_1); (try clear hfz31_0); (try clear hfz31_1); (try clear hfz33_0); (try clear hfz33_1); (try clear hfz37_0); (try clear hfz37_1); (try clear hfz39_0); (try clear hfz39_1); (try clear hfz43_0); (try clear hfz43_1); (try clear hfz45_0); (try clear hfz45_1); (try clear hfz53_0); (try clear hfz53_1); (try clear hfz55_0); (try clear hfz55_1); (try clear hfz59_0); (try clear hfz59_1); (try clear hfz61_0); (try clear hfz61_1); (try clear hfz67_0); (try clear hfz67_1); (try clear hfz9_0); (try clear hfz9_1); (try clear hx462_0); (try clear p2); (try clear p462); (try clear q462); obtain ⟨x12_2, x13_2, rfl, rfl, HA, HK2, HO_10, HO_Z1, HO_Z2, HO_Z3, HO_Z4, HO_Z5, BK437, BK446, BK455, HB⟩ := hrel
       cases gk with
       | zero => exact absurd HA.out (by simp [laws_FnLabelsFar.l0])
       | succ k2 =>
        have H := HA.out; clear HA; simp only [laws_FnLabelsFar.l0] at H
        by_cases c70 : x13_2 < (t458.length : Int)
        ·
         rw [if_pos c70] at H; have c70b0 := decide_eq_true c70; clear c70
         by_cases c71 : 0 ≤ x13_2
         ·
          rw [if_pos c71] at H; have c71b0 := decide_eq_true c71; clear c71; obtain ⟨ji72, hji72⟩ : ∃ j_ : Int, (mn x12_2 (rd t458 x13_2)) = j_ := ⟨_, rfl⟩
          replace H : (laws_FnLabelsFar.l0 k2 t444 t458 t461 ji72 (wrap64 (x13_2 + 1)) t438 t441) = some r := by first | (rw [hji72] at H; exact H) | (simp only [hji72] at H ⊢; exact H)
          have hji72_ : (if (rd t458 x13_2) < x12_2 then (rd t458 x13_2) else x12_2) = ji72 := hji72; have H' := Az H; clear H; have p463 : 0 ≤ (x13_2 : Int) := oA; have q463 : x13_2 < (t458.length : Int) := oA; obtain ⟨ad463, e463, hx463_0⟩ := Kd.at_int (Kd.R_reads' HO_10.out).2.2 x13_2 p463 q463; obtain rfl : ad462 = ad463 := (by injection e463); replace p463 := eq_true p463; replace q463 := eq_true q463
          go_wp2
          (first | go_roundg k2 | (refine Handed.intro k2 ?measure ?_; rotate_left; go_step; (try simp only [add_plain]); (repeat apply Exists.intro); refine ⟨?rel, rfl⟩))
          case measure => have := HJ5.out; have := HK2.out; omega
          case rel => exact ⟨(ji72), (wrap64 (x13_2 + 1)), (by first | rfl | (simp; done) | (simp only [← hji72] <;> (first | rfl | simp)) | (simp [*]; done)), rS, H', ⟨by have := HJ5.out; have := HK2.out; omega⟩, ⟨rU HO_10.out⟩, ⟨qU HO_Z1.out⟩, ⟨rU HO_Z2.out⟩, ⟨rU HO_Z3.out⟩, ⟨rU HO_Z4.out⟩, ⟨rU HO_Z5.out⟩, ⟨kU BK437.out⟩, ⟨kU BK446.out⟩, ⟨kU BK455.out⟩, ⟨bU3 HB.out GE437.out GE446.out GE455.out⟩⟩
         ·
          rw [if_neg c71] at H
          exact absurd H (by simp)
        ·
         rw [if_neg c70] at H; have c70b0 := decide_eq_false c70; clear c70; have H' := Az H; clear H
         go_wp2
         go_loopg [14] k2 (fun kq v14 w' => ∃ (x14_3 : Int), v14 = .int .i64 x14_3 ∧ Aside0 (laws_FnLabelsFar.l1 kq t444 t458 t461 x12_2 x14_3 t438 t441 = some r) ∧ Aside0 (kq ≤ k2) ∧ Aside0 (Kd.R (Kd.int .i64) 3 w' w.heap.size (fun k_ => some k_ ≠ ((.slice Ao10 t434.length co10) : Value).ownBlock ∧ some k_ ≠ ((.slice Ao13 t438.length co13) : Value).ownBlock ∧ some k_ ≠ ((.slice Ao16 t441.length co16) : Value).ownBlock ∧ some k_ ≠ ((.slice Ao20 t447.length co20) : Value).ownBlock ∧ some k_ ≠ ((.slice Ao24 t450.length co24) : Value).ownBlock) (.slice (some ad462) t458.length co69) t458) ∧ Aside0 (Kd.Q (Kd.int .i64) 3 w' w.heap.size (fun k_ => some k_ ≠ ((.slice (some ad462) t458.length co69) : Value).ownBlock ∧ some k_ ≠ ((.slice Ao13 t438.length co13) : Value).ownBlock ∧ some k_ ≠ ((.slice Ao16 t441.length co16) : Value).ownBlock ∧ some k_ ≠ ((.slice Ao20 t447.length co20) : Value).ownBlock ∧ some k_ ≠ ((.slice Ao24 t450.length co24) : Value).ownBlock) (.slice Ao10 t434.length co10) t434) ∧ Aside0 (Kd.R (Kd.int .i64) 3 w' w.heap.size (fun k_ => some k_ ≠ ((.slice (some ad462) t458.length co69) : Value).ownBlock ∧ some k_ ≠ ((.slice Ao10 t434.length co10) : Value).ownBlock ∧ some k_ ≠ ((.slice Ao16 t441.length co16) : Value).ownBlock ∧ some k_ ≠ ((.slice Ao20 t447.length co20) : Value).ownBlock ∧ some k_ ≠ ((.slice Ao24 t450.length co24) : Value).ownBlock) (.slice Ao13 t438.length co13) t438) ∧ Aside0 (Kd.R (Kd.int .i64) 3 w' w.heap.size (fun k_ => some k_ ≠ ((.slice (some ad462) t458.length co69) : Value).ownBlock ∧ some k_ ≠ ((.slice Ao10 t434.length co10) : Value).ownBlock ∧ some k_ ≠ ((.slice Ao13 t438.length co13) : Value).ownBlock ∧ some k_ ≠ ((.slice Ao20 t447.length co20) : Value).ownBlock ∧ some k_ ≠ ((.slice Ao24 t450.length co24) : Value).ownBlock) (.slice Ao16 t441.length co16) t441) ∧ Aside0 (Kd.R (Kd.int .i64) 3 w' w.heap.size (fun k_ => some k_ ≠ ((.slice (some ad462) t458.length co69) : Value).ownBlock ∧ some k_ ≠ ((.slice Ao10 t434.length co10) : Value).ownBlock ∧ some k_ ≠ ((.slice Ao13 t438.length co13) : Value).ownBlock ∧ some k_ ≠ ((.slice Ao16 t441.length co16) : Value).ownBlock ∧ some k_ ≠ ((.slice Ao24 t450.length co24) : Value).ownBlock) (.slice Ao20 t447.length co20) t447) ∧ Aside0 (Kd.R (Kd.int .i64) 3 w' w.heap.size (fun k_ => some k_ ≠ ((.slice (some ad462) t458.length co69) : Value).ownBlock ∧ some k_ ≠ ((.slice Ao10 t434.length co10) : Value).ownBlock ∧ some k_ ≠ ((.slice Ao13 t438.length co13) : Value).ownBlock ∧ some k_ ≠ ((.slice Ao16 t441.length co16) : Value).ownBlock ∧ some k_ ≠ ((.slice Ao20 t447.length co20) : Value).ownBlock) (.slice Ao24 t450.length co24) t450) ∧ Aside0 (w'.heap[gb437]? = some (.cells #[.string t433, (.slice Ao10 t434.length co10)] 25 (0, 0))) ∧ Aside0 (w'.heap[gb446]? = some (.cells #[(.slice Ao13 t438.length co13), (.slice Ao16 t441.length co16)] 29 (0, 0))) ∧ Aside0 (w'.heap[gb455]? = some (.cells #[(.slice Ao20 t447.length co20), (.slice Ao24 t450.length co24)] 29 (0, 0))) ∧ Aside0 (Below w.heap.size w w'))
         case atStart => exact ⟨(0), rS, H', ⟨Nat.le_refl _⟩, ⟨rU HO_10.out⟩, ⟨qU HO_Z1.out⟩, ⟨rU HO_Z2.out⟩, ⟨rU HO_Z3.out⟩, ⟨rU HO_Z4.out⟩, ⟨rU HO_Z5.out⟩, ⟨kU BK437.out⟩, ⟨kU BK446.out⟩, ⟨kU BK455.out⟩, ⟨bU3 HB.out GE437.out GE446.out GE455.out⟩⟩
         case round =>
          clear H'; (try clear c1); (try clear c2); (try clear c2b0); (try clear c2b1); (try clear p2); (try clear c3); (try clear c4); (try clear p4); (try clear q4); (try clear hx4); (try clear qi4); (try clear c5); (try clear c6); (try clear p6); (try clear c7); (try clear c14); (try clear c21); (try clear c22); (try clear c23); (try clear c25); (try clear c25b0); (try clear c25b1); (try clear c25b2); (try clear c27); (try clear c28); (try clear c28b0); (try clear c28b1); (try clear c29); (try clear c30); (try clear c32); (try clear c35); (try clear c36); (try clear c38); (try clear c41); (try clear c42); (try clear c44); (try clear c45); (try clear p46); (try clear q46); (try clear hx46); (try clear qi46); (try clear c47); (try clear c48); (try clear c48b0); (try clear c48b1); (try clear c48b2); (try clear c50); (try clear c51); (try clear c52); (try clear c54); (try clear c57); (try clear c58); (try clear c60); (try clear c64); (try clear c64b0); (try clear c64b1); (try clear p64); (try clear c65); (try clear c66); (try clear c70); (try clear c70b0); (try clear c71); (try clear c71b0); (try clear hcz15_0); (try clear hcz15_1); (try clear hcz17_0); (try clear hcz17_1); (try clear hcz23_0); (try clear hcz23_1); (try clear hcz31_0); (try clear hcz31_1); (try clear hcz33_0); (try clear hcz33_1); (try clear hcz37_0); (try clear hcz37_1); (try clear hcz39_0); (try clear hcz39_1); (try clear hcz43_0); (try clear hcz43_1); (try clear hcz45_0); (try clear hcz45_1); (try clear hcz53_0); (try clear hcz53_1); (try clear hcz55_0); (try clear hcz55_1); (try clear hcz59_0); (try clear hcz59_1); (try clear hcz61_0); (try clear hcz61_1); (try clear hcz67_0); (try clear hcz67_1); (try clear hcz9_0); (try clear hcz9_1); (try clear hfz15_0); (try clear hfz15_1); (try clear hfz17_0); (try clear hfz17_1); (try clear hfz23_0); (try clear hfz23_1); (try clear hfz31_0); (try clear hfz31_1); (try clear hfz33_0); (try clear hfz33_1); (try clear hfz37_0); (try clear hfz37_1); (try clear hfz39_0); (try clear hfz39_1); (try clear hfz43_0); (try clear hfz43_1); (try clear hfz45_0); (try clear hfz45_1); (try clear hfz53_0); (try clear hfz53_1); (try clear hfz55_0); (try clear hfz55_1); (try clear hfz59_0); (try clear hfz59_1); (try clear hfz61_0); (try clear hfz61_1); (try clear hfz67_0); (try clear hfz67_1); (try clear hfz9_0); (try clear hfz9_1); (try clear hx462_0); (try clear hx463_0); (try clear p2); (try clear p4); (try clear p46); (try clear p462); (try clear p463); (try clear q4); (try clear q46); (try clear q462); (try clear q463); obtain ⟨x14_3, rfl, HA, HK3, HO_10, HO_Z1, HO_Z2, HO_Z3, HO_Z4, HO_Z5, BK437, BK446, BK455, HB⟩ := hrel
          cases gk with
          | zero => exact absurd HA.out (by simp [laws_FnLabelsFar.l1])
          | succ k3 =>
           have H := HA.out; clear HA; simp only [laws_FnLabelsFar.l1] at H
           by_cases c73 : x14_3 < (t458.length : Int)
           ·
            rw [if_pos c73] at H; have c73b0 := decide_eq_true c73; clear c73; replace H := Option.bind_eq_some_iff.mp H; obtain ⟨t464, A740, H⟩ := H; replace H : (if 0 ≤ x14_3 then (if t464 = (wrap64 ((wrap64 ((rd t458 x14_3) - x12_2)) + 1)) then (laws_FnLabelsFar.l1 k3 t444 t458 t461 x12_2 (wrap64 (x14_3 + 1)) t438 t441) else (some false)) else (none)) = some r := H; have A74 := Az A740; clear A740
            by_cases c75 : 0 ≤ x14_3
            ·
             rw [if_pos c75] at H; have c75b0 := decide_eq_true c75; clear c75
             by_cases c76 : t464 = (wrap64 ((wrap64 ((rd t458 x14_3) - x12_2)) + 1))
             ·
              rw [if_pos c76] at H; have c76b0 := beq_iff_eq.mpr c76; have c76b1 := bne_eq_false_iff_eq.mpr c76; clear c76; have H' := Az H; clear H
              try go_wp2
              have n0 := Az (Kd.R_drew HO_10.out); have n1 := Az (Kd.Q_drew HO_Z1.out); have n2 := Az (Kd.R_drew HO_Z2.out); have n3 := Az (Kd.R_drew HO_Z3.out); have n4 := Az (Kd.R_drew HO_Z4.out); have n5 := Az (Kd.R_drew HO_Z5.out); have n6 := Az (blk_drew BK437.out); have n7 := Az (blk_drew BK446.out); have n8 := Az (blk_drew BK455.out); have n9 := Az (below_drew1 HB.out); clear HO_10 HO_Z1 HO_Z2 HO_Z3 HO_Z4 HO_Z5 BK437 BK446 BK455 HB; have HO_10 := n0; have HO_Z1 := n1; have HO_Z2 := n2; have HO_Z3 := n3; have HO_Z4 := n4; have HO_Z5 := n5; have BK437 := n6; have BK446 := n7; have BK455 := n8; have HB := n9; clear n0 n1 n2 n3 n4 n5 n6 n7 n8 n9; have p465 : 0 ≤ (x14_3 : Int) := oA; have q465 : x14_3 < (t458.length : Int) := oA; obtain ⟨ad465, e465, hx465_0⟩ := Kd.at_int (Kd.R_reads' HO_10.out).2.2 x14_3 p465 q465; obtain rfl : ad462 = ad465 := (by injection e465); replace p465 := eq_true p465; replace q465 := eq_true q465
              refine start_ (n := 13) (S := fun w' => w'.cell? ⟨gb446, 0, none⟩ = some (.slice Ao13 t438.length co13) ∧ w'.cell? ⟨gb446, 1, none⟩ = some (.slice Ao16 t441.length co16) ∧ w'.cell? (ad462.add (x14_3).toNat) = some (.int .i64 (rd t458 x14_3))) (ds := []) #[false, false, false, false, false, false, false, false, false, false, false, false, false] (by kernel_rfl) rfl rfl ⟨(blk_cell BK446.out 0).trans rfl, (blk_cell BK446.out 1).trans rfl, hx465_0⟩ (fun hHeld => ?_); refine with_tabW laws_FnLabelsFar.tab17 laws_FnLabelsFar.bits17 (fun HT_ HW_ => ?_)
              generalize wr.drew = w77 at HO_10 HO_Z1 HO_Z2 HO_Z3 HO_Z4 HO_Z5 BK437 BK446 BK455 HB hx465_0 hHeld ⊢
              refine pure_ (i := 1) (N := some 90) (v := ?_) (a' := ?_) #[false, true, false, false, false, false, false, false, false, false, false, false, false] rfl rfl (any_of HT_.out (by kernel_rfl)) (fun _ _ _ h => h) (Or.inl ⟨by rfl, ?_⟩) ?_ ?_
              rotate_left
              ·
               intro w'
               go_simp
               with_reducible rfl
              rotate_left
              ·
               simp only [Act.put, List.setIfInBounds_toArray, List.set_cons_zero, List.set_cons_succ, i64_w, i32_w]
               rfl
              refine pure_ (i := 2) (N := some 91) (v := ?_) (a' := ?_) #[false, true, true, false, false, false, false, false, false, false, false, false, false] rfl rfl (any_of HT_.out (by kernel_rfl)) (fun _ _ _ h => h) (Or.inl ⟨by rfl, ?_⟩) ?_ ?_
              rotate_left
              ·
               intro w'
               go_simp
               with_reducible rfl
              rotate_left
              ·
               simp only [Act.put, List.setIfInBounds_toArray, List.set_cons_zero, List.set_cons_succ, i64_w, i32_w]
               rfl
              refine pure_ (i := 3) (N := some 92) (v := ?_) (a' := ?_) #[false, true, true, true, false, false, false, false, false, false, false, false, false] rfl rfl (any_of HT_.out (by kernel_rfl)) (fun _ _ _ h => h) (Or.inl ⟨by rfl, ?_⟩) ?_ ?_
              rotate_left
              ·
               intro w'
               go_simp
               with_reducible rfl
              rotate_left
              ·
               simp only [Act.put, List.setIfInBounds_toArray, List.set_cons_zero, List.set_cons_succ, i64_w, i32_w]
               rfl
              refine pure_ (i := 5) (N := some 94) (v := ?_) (a' := ?_) #[false, true, true, true, false, true, false, false, false, false, false, false, false] rfl rfl (any_of HT_.out (by kernel_rfl)) (fun _ _ _ h => h) (Or.inl ⟨by rfl, ?_⟩) ?_ ?_
              rotate_left
              ·
               intro w'
               go_simp
               with_reducible rfl
              rotate_left
              ·
               simp only [Act.put, List.setIfInBounds_toArray, List.set_cons_zero, List.set_cons_succ, i64_w, i32_w]
               rfl
              refine pure_ (i := 6) (N := some 95) (v := ?_) (a' := ?_) #[false, true, true, true, false, true, true, false, false, false, false, false, false] rfl rfl (any_of HT_.out (by kernel_rfl)) (fun _ _ _ h => h) (Or.inl ⟨by rfl, ?_⟩) ?_ ?_
              rotate_left
              ·
               intro w'
               go_simp
               with_reducible rfl
              rotate_left
              ·
               simp only [Act.put, List.setIfInBounds_toArray, List.set_cons_zero, List.set_cons_succ, i64_w, i32_w]
               rfl
              refine pure_ (i := 7) (N := some 96) (v := ?_) (a' := ?_) #[false, true, true, true, false, true, true, true, false, false, false, false, false] rfl rfl (any_of HT_.out (by kernel_rfl)) (fun _ _ _ h => h) (Or.inl ⟨by rfl, ?_⟩) ?_ ?_
              rotate_left
              ·
               intro w'
               go_simp
               with_reducible rfl
              rotate_left
              ·
               simp only [Act.put, List.setIfInBounds_toArray, List.set_cons_zero, List.set_cons_succ, i64_w, i32_w]
               rfl
              refine pure_ (i := 9) (N := some 98) (v := ?_) (a' := ?_) #[false, true, true, true, false, true, true, true, false, true, false, false, false] rfl rfl (any_of HT_.out (by kernel_rfl)) (fun _ _ _ h => h) (Or.inl ⟨by rfl, ?_⟩) ?_ ?_
              rotate_left
              ·
               intro w'
               go_simp
               with_reducible rfl
              rotate_left
              ·
               simp only [Act.put, List.setIfInBounds_toArray, List.set_cons_zero, List.set_cons_succ, i64_w, i32_w]
               rfl
              refine take_ (i := 0) (N := some 89) (v := ?_) (a' := ?_) #[true, true, true, true, false, true, true, true, false, true, false, false, false] rfl rfl (take_ofW HT_.out HW_.out (by kernel_rfl)) (fun _ _ _ h => h) (Or.inl ⟨by rfl, ?_⟩) hHeld ?_ ?_
              rotate_left
              ·
               rintro w' ⟨s0, s1, s2⟩
               go_simp
               with_reducible rfl
              rotate_left
              ·
               simp only [Act.put, List.setIfInBounds_toArray, List.set_cons_zero, List.set_cons_succ, i64_w, i32_w]
               rfl
              refine take_ (i := 8) (N := some 97) (v := ?_) (a' := ?_) #[true, true, true, true, false, true, true, true, true, true, false, false, false] rfl rfl (take_ofW HT_.out HW_.out (by kernel_rfl)) (fun _ _ _ h => h) (Or.inl ⟨by rfl, ?_⟩) hHeld ?_ ?_
              rotate_left
              ·
               rintro w' ⟨s0, s1, s2⟩
               go_simp
               with_reducible rfl
              rotate_left
              ·
               simp only [Act.put, List.setIfInBounds_toArray, List.set_cons_zero, List.set_cons_succ, i64_w, i32_w]
               rfl
              refine pure_ (i := 10) (N := some 99) (v := ?_) (a' := ?_) #[true, true, true, true, false, true, true, true, true, true, true, false, false] rfl rfl (any_of HT_.out (by kernel_rfl)) (fun _ _ _ h => h) (Or.inl ⟨by rfl, ?_⟩) ?_ ?_
              rotate_left
              ·
               intro w'
               go_simp
               with_reducible rfl
              rotate_left
              ·
               simp only [Act.put, List.setIfInBounds_toArray, List.set_cons_zero, List.set_cons_succ, i64_w, i32_w]
               rfl
              refine pure_ (i := 11) (N := some 100) (v := ?_) (a' := ?_) #[true, true, true, true, false, true, true, true, true, true, true, true, false] rfl rfl (any_of HT_.out (by kernel_rfl)) (fun _ _ _ h => h) (Or.inl ⟨by rfl, ?_⟩) ?_ ?_
              rotate_left
              ·
               intro w'
               go_simp
               with_reducible rfl
              rotate_left
              ·
               simp only [Act.put, List.setIfInBounds_toArray, List.set_cons_zero, List.set_cons_succ, i64_w, i32_w]
               rfl
              refine one_ (i := 4) (N := some 93) #[true, true, true, true, true, true, true, true, true, true, true, true, false] rfl rfl (one_of HT_.out (by kernel_rfl)) (by decide) (fun K hK => ?_)
              refine goes_ Try.func46 (by kernel_rfl) rfl #[.agg #[.slice Ao13 t438.length co13, .slice Ao16 t441.length co16], .int .i64 t444, .int .i64 (wrap64 (2 * x14_3))] (by rfl) rfl rfl (by (try simp only [List.map_toArray, List.map_cons, List.map_nil]); first | done | rfl | (simp only [List.length_drop, List.length_take]; rfl)) ?_
              with_reducible refine (impl_MapFar.calls k3 _ _ t438 _ _ t441 t444 (wrap64 (2 * x14_3)) t464 _ ?side1 ?side2 ?side3 ?side4 A74.out).mono ?_
              (case side1 => exact cU ((Kd.R_reads' HO_Z2.out).2.2))
              (case side2 => exact (Kd.R_reads' HO_Z2.out).2.1)
              (case side3 => exact cU ((Kd.R_reads' HO_Z3.out).2.2))
              (case side4 => exact (Kd.R_reads' HO_Z3.out).2.1)
              rintro e w78 ⟨rfl, hb⟩
              have HS2_ := (hb.cell (World.block_lt_of_cell? _ _ (hHeld.2.2))).trans (hHeld.2.2)
              refine ⟨_, rfl, ?_⟩
              have n0 := Az (Kd.R_below (rU HO_10.out) hb); have n1 := Az (Kd.Q_below (qU HO_Z1.out) hb); have n2 := Az (Kd.R_below (rU HO_Z2.out) hb); have n3 := Az (Kd.R_below (rU HO_Z3.out) hb); have n4 := Az (Kd.R_below (rU HO_Z4.out) hb); have n5 := Az (Kd.R_below (rU HO_Z5.out) hb); have n6 := Az (blk_below (g := gb437) (o := .cells #[.string t433, .slice Ao10 t434.length co10] 25 (0, 0)) (kU BK437.out) hb); have n7 := Az (blk_below (g := gb446) (o := .cells #[.slice Ao13 t438.length co13, .slice Ao16 t441.length co16] 29 (0, 0)) (kU BK446.out) hb); have n8 := Az (blk_below (g := gb455) (o := .cells #[.slice Ao20 t447.length co20, .slice Ao24 t450.length co24] 29 (0, 0)) (kU BK455.out) hb); have n9 := Az (below_step (bU3 HB.out GE437.out GE446.out GE455.out) hb); clear HO_10 HO_Z1 HO_Z2 HO_Z3 HO_Z4 HO_Z5 BK437 BK446 BK455 HB; have HO_10 := n0; have HO_Z1 := n1; have HO_Z2 := n2; have HO_Z3 := n3; have HO_Z4 := n4; have HO_Z5 := n5; have BK437 := n6; have BK446 := n7; have BK455 := n8; have HB := n9; clear n0 n1 n2 n3 n4 n5 n6 n7 n8 n9; (try clear hb); (try clear hb2); (try clear hk); (try clear hi)
              refine hK.out _ _ ⟨(blk_cell BK446.out 0).trans rfl, (blk_cell BK446.out 1).trans rfl, HS2_⟩ (fun hHeld => ?_)
              clear hK K
              refine norm_ (a' := ?_) ?_ ?_
              rotate_left
              ·
               show Act.put _ (some 93) _ = _
               simp only [Act.put, List.setIfInBounds_toArray, List.set_cons_zero, List.set_cons_succ, i64_w, i32_w]
               rfl
              refine pure_ (i := 12) (N := some 101) (v := ?_) (a' := ?_) #[true, true, true, true, true, true, true, true, true, true, true, true, true] rfl rfl (any_of HT_.out (by kernel_rfl)) (fun _ _ _ h => h) (Or.inl ⟨by rfl, ?_⟩) ?_ ?_
              rotate_left
              ·
               intro w'
               go_simp
               with_reducible rfl
              rotate_left
              ·
               simp only [Act.put, List.setIfInBounds_toArray, List.set_cons_zero, List.set_cons_succ, i64_w, i32_w]
               rfl
              refine done_ (done_of HT_.out (by kernel_rfl)) ?_
              try go_wp2
              (first | go_roundg k3 | (refine Handed.intro k3 ?measure ?_; rotate_left; go_step; (try simp only [add_plain]); (repeat apply Exists.intro); refine ⟨?rel, rfl⟩))
              case measure => have := HJ5.out; have := HK2.out; have := HK3.out; omega
              case rel => exact ⟨(wrap64 (x14_3 + 1)), rS, H', ⟨by have := HJ5.out; have := HK2.out; have := HK3.out; omega⟩, ⟨rU HO_10.out⟩, ⟨qU HO_Z1.out⟩, ⟨rU HO_Z2.out⟩, ⟨rU HO_Z3.out⟩, ⟨rU HO_Z4.out⟩, ⟨rU HO_Z5.out⟩, ⟨kU BK437.out⟩, ⟨kU BK446.out⟩, ⟨kU BK455.out⟩, ⟨bU3 HB.out GE437.out GE446.out GE455.out⟩⟩
             ·
              rw [if_neg c76] at H; have c76b0 := beq_eq_false_iff_ne.mpr c76; have c76b1 := bne_iff_ne.mpr c76; obtain rfl := Option.some.inj H
              try go_wp2
              have n0 := Az (Kd.R_drew HO_10.out); have n1 := Az (Kd.Q_drew HO_Z1.out); have n2 := Az (Kd.R_drew HO_Z2.out); have n3 := Az (Kd.R_drew HO_Z3.out); have n4 := Az (Kd.R_drew HO_Z4.out); have n5 := Az (Kd.R_drew HO_Z5.out); have n6 := Az (blk_drew BK437.out); have n7 := Az (blk_drew BK446.out); have n8 := Az (blk_drew BK455.out); have n9 := Az (below_drew1 HB.out); clear HO_10 HO_Z1 HO_Z2 HO_Z3 HO_Z4 HO_Z5 BK437 BK446 BK455 HB; have HO_10 := n0; have HO_Z1 := n1; have HO_Z2 := n2; have HO_Z3 := n3; have HO_Z4 := n4; have HO_Z5 := n5; have BK437 := n6; have BK446 := n7; have BK455 := n8; have HB := n9; clear n0 n1 n2 n3 n4 n5 n6 n7 n8 n9; have p465 : 0 ≤ (x14_3 : Int) := oA; have q465 : x14_3 < (t458.length : Int) := oA; obtain ⟨ad465, e465, hx465_0⟩ := Kd.at_int (Kd.R_reads' HO_10.out).2.2 x14_3 p465 q465; obtain rfl : ad462 = ad465 := (by injection e465); replace p465 := eq_true p465; replace q465 := eq_true q465
              refine start_ (n := 13) (S := fun w' => w'.cell? ⟨gb446, 0, none⟩ = some (.slice Ao13 t438.length co13) ∧ w'.cell? ⟨gb446, 1, none⟩ = some (.slice Ao16 t441.length co16) ∧ w'.cell? (ad462.add (x14_3).toNat) = some (.int .i64 (rd t458 x14_3))) (ds := []) #[false, false, false, false, false, false, false, false, false, false, false, false, false] (by kernel_rfl) rfl rfl ⟨(blk_cell BK446.out 0).trans rfl, (blk_cell BK446.out 1).trans rfl, hx465_0⟩ (fun hHeld => ?_); refine with_tabW laws_FnLabelsFar.tab17 laws_FnLabelsFar.bits17 (fun HT_ HW_ => ?_)
              generalize wr.drew = w79 at HO_10 HO_Z1 HO_Z2 HO_Z3 HO_Z4 HO_Z5 BK437 BK446 BK455 HB hx465_0 hHeld ⊢
              refine pure_ (i := 1) (N := some 90) (v := ?_) (a' := ?_) #[false, true, false, false, false, false, false, false, false, false, false, false, false] rfl rfl (any_of HT_.out (by kernel_rfl)) (fun _ _ _ h => h) (Or.inl ⟨by rfl, ?_⟩) ?_ ?_
              rotate_left
              ·
               intro w'
               go_simp
               with_reducible rfl
              rotate_left
              ·
               simp only [Act.put, List.setIfInBounds_toArray, List.set_cons_zero, List.set_cons_succ, i64_w, i32_w]
               rfl
              refine pure_ (i := 2) (N := some 91) (v := ?_) (a' := ?_) #[false, true, true, false, false, false, false, false, false, false, false, false, false] rfl rfl (any_of HT_.out (by kernel_rfl)) (fun _ _ _ h => h) (Or.inl ⟨by rfl, ?_⟩) ?_ ?_
              rotate_left
              ·
               intro w'
               go_simp
               with_reducible rfl
              rotate_left
              ·
               simp only [Act.put, List.setIfInBounds_toArray, List.set_cons_zero, List.set_cons_succ, i64_w, i32_w]
               rfl
              refine pure_ (i := 3) (N := some 92) (v := ?_) (a' := ?_) #[false, true, true, true, false, false, false, false, false, false, false, false, false] rfl rfl (any_of HT_.out (by kernel_rfl)) (fun _ _ _ h => h) (Or.inl ⟨by rfl, ?_⟩) ?_ ?_
              rotate_left
              ·
               intro w'
               go_simp
               with_reducible rfl
              rotate_left
              ·
               simp only [Act.put, List.setIfInBounds_toArray, List.set_cons_zero, List.set_cons_succ, i64_w, i32_w]
               rfl
              refine pure_ (i := 5) (N := some 94) (v := ?_) (a' := ?_) #[false, true, true, true, false, true, false, false, false, false, false, false, false] rfl rfl (any_of HT_.out (by kernel_rfl)) (fun _ _ _ h => h) (Or.inl ⟨by rfl, ?_⟩) ?_ ?_
              rotate_left
              ·
               intro w'
               go_simp
               with_reducible rfl
              rotate_left
              ·
               simp only [Act.put, List.setIfInBounds_toArray, List.set_cons_zero, List.set_cons_succ, i64_w, i32_w]
               rfl
              refine pure_ (i := 6) (N := some 95) (v := ?_) (a' := ?_) #[false, true, true, true, false, true, true, false, false, false, false, false, false] rfl rfl (any_of HT_.out (by kernel_rfl)) (fun _ _ _ h => h) (Or.inl ⟨by rfl, ?_⟩) ?_ ?_
              rotate_left
              ·
               intro w'
               go_simp
               with_reducible rfl
              rotate_left
              ·
               simp only [Act.put, List.setIfInBounds_toArray, List.set_cons_zero, List.set_cons_succ, i64_w, i32_w]
               rfl
              refine pure_ (i := 7) (N := some 96) (v := ?_) (a' := ?_) #[false, true, true, true, false, true, true, true, false, false, false, false, false] rfl rfl (any_of HT_.out (by kernel_rfl)) (fun _ _ _ h => h) (Or.inl ⟨by rfl, ?_⟩) ?_ ?_
              rotate_left
              ·
               intro w'
               go_simp
               with_reducible rfl
              rotate_left
              ·
               simp only [Act.put, List.setIfInBounds_toArray, List.set_cons_zero, List.set_cons_succ, i64_w, i32_w]
               rfl
              refine pure_ (i := 9) (N := some 98) (v := ?_) (a' := ?_) #[false, true, true, true, false, true, true, true, false, true, false, false, false] rfl rfl (any_of HT_.out (by kernel_rfl)) (fun _ _ _ h => h) (Or.inl ⟨by rfl, ?_⟩) ?_ ?_
              rotate_left
              ·
               intro w'
               go_simp
               with_reducible rfl
              rotate_left
              ·
               simp only [Act.put, List.setIfInBounds_toArray, List.set_cons_zero, List.set_cons_succ, i64_w, i32_w]
               rfl
              refine take_ (i := 0) (N := some 89) (v := ?_) (a' := ?_) #[true, true, true, true, false, true, true, true, false, true, false, false, false] rfl rfl (take_ofW HT_.out HW_.out (by kernel_rfl)) (fun _ _ _ h => h) (Or.inl ⟨by rfl, ?_⟩) hHeld ?_ ?_
              rotate_left
              ·
               rintro w' ⟨s0, s1, s2⟩
               go_simp
               with_reducible rfl
              rotate_left
              ·
               simp only [Act.put, List.setIfInBounds_toArray, List.set_cons_zero, List.set_cons_succ, i64_w, i32_w]
               rfl
              refine take_ (i := 8) (N := some 97) (v := ?_) (a' := ?_) #[true, true, true, true, false, true, true, true, true, true, false, false, false] rfl rfl (take_ofW HT_.out HW_.out (by kernel_rfl)) (fun _ _ _ h => h) (Or.inl ⟨by rfl, ?_⟩) hHeld ?_ ?_
              rotate_left
              ·
               rintro w' ⟨s0, s1, s2⟩
               go_simp
               with_reducible rfl
              rotate_left
              ·
               simp only [Act.put, List.setIfInBounds_toArray, List.set_cons_zero, List.set_cons_succ, i64_w, i32_w]
               rfl
              refine pure_ (i := 10) (N := some 99) (v := ?_) (a' := ?_) #[true, true, true, true, false, true, true, true, true, true, true, false, false] rfl rfl (any_of HT_.out (by kernel_rfl)) (fun _ _ _ h => h) (Or.inl ⟨by rfl, ?_⟩) ?_ ?_
              rotate_left
              ·
               intro w'
               go_simp
               with_reducible rfl
              rotate_left
              ·
               simp only [Act.put, List.setIfInBounds_toArray, List.set_cons_zero, List.set_cons_succ, i64_w, i32_w]
               rfl
              refine pure_ (i := 11) (N := some 100) (v := ?_) (a' := ?_) #[true, true, true, true, false, true, true, true, true, true, true, true, false] rfl rfl (any_of HT_.out (by kernel_rfl)) (fun _ _ _ h => h) (Or.inl ⟨by rfl, ?_⟩) ?_ ?_
              rotate_left
              ·
               intro w'
               go_simp
               with_reducible rfl
              rotate_left
              ·
               simp only [Act.put, List.setIfInBounds_toArray, List.set_cons_zero, List.set_cons_succ, i64_w, i32_w]
               rfl
              refine one_ (i := 4) (N := some 93) #[true, true, true, true, true, true, true, true, true, true, true, true, false] rfl rfl (one_of HT_.out (by kernel_rfl)) (by decide) (fun K hK => ?_)
              refine goes_ Try.func46 (by kernel_rfl) rfl #[.agg #[.slice Ao13 t438.length co13, .slice Ao16 t441.length co16], .int .i64 t444, .int .i64 (wrap64 (2 * x14_3))] (by rfl) rfl rfl (by (try simp only [List.map_toArray, List.map_cons, List.map_nil]); first | done | rfl | (simp only [List.length_drop, List.length_take]; rfl)) ?_
              with_reducible refine (impl_MapFar.calls k3 _ _ t438 _ _ t441 t444 (wrap64 (2 * x14_3)) t464 _ ?side1 ?side2 ?side3 ?side4 A74.out).mono ?_
              (case side1 => exact cU ((Kd.R_reads' HO_Z2.out).2.2))
              (case side2 => exact (Kd.R_reads' HO_Z2.out).2.1)
              (case side3 => exact cU ((Kd.R_reads' HO_Z3.out).2.2))
              (case side4 => exact (Kd.R_reads' HO_Z3.out).2.1)
              rintro e w80 ⟨rfl, hb⟩
              have HS2_ := (hb.cell (World.block_lt_of_cell? _ _ (hHeld.2.2))).trans (hHeld.2.2)
              refine ⟨_, rfl, ?_⟩
              have n0 := Az (Kd.R_below (rU HO_10.out) hb); have n1 := Az (Kd.Q_below (qU HO_Z1.out) hb); have n2 := Az (Kd.R_below (rU HO_Z2.out) hb); have n3 := Az (Kd.R_below (rU HO_Z3.out) hb); have n4 := Az (Kd.R_below (rU HO_Z4.out) hb); have n5 := Az (Kd.R_below (rU HO_Z5.out) hb); have n6 := Az (blk_below (g := gb437) (o := .cells #[.string t433, .slice Ao10 t434.length co10] 25 (0, 0)) (kU BK437.out) hb); have n7 := Az (blk_below (g := gb446) (o := .cells #[.slice Ao13 t438.length co13, .slice Ao16 t441.length co16] 29 (0, 0)) (kU BK446.out) hb); have n8 := Az (blk_below (g := gb455) (o := .cells #[.slice Ao20 t447.length co20, .slice Ao24 t450.length co24] 29 (0, 0)) (kU BK455.out) hb); have n9 := Az (below_step (bU3 HB.out GE437.out GE446.out GE455.out) hb); clear HO_10 HO_Z1 HO_Z2 HO_Z3 HO_Z4 HO_Z5 BK437 BK446 BK455 HB; have HO_10 := n0; have HO_Z1 := n1; have HO_Z2 := n2; have HO_Z3 := n3; have HO_Z4 := n4; have HO_Z5 := n5; have BK437 := n6; have BK446 := n7; have BK455 := n8; have HB := n9; clear n0 n1 n2 n3 n4 n5 n6 n7 n8 n9; (try clear hb); (try clear hb2); (try clear hk); (try clear hi)
              refine hK.out _ _ ⟨(blk_cell BK446.out 0).trans rfl, (blk_cell BK446.out 1).trans rfl, HS2_⟩ (fun hHeld => ?_)
              clear hK K
              refine norm_ (a' := ?_) ?_ ?_
              rotate_left
              ·
               show Act.put _ (some 93) _ = _
               simp only [Act.put, List.setIfInBounds_toArray, List.set_cons_zero, List.set_cons_succ, i64_w, i32_w]
               rfl
              refine pure_ (i := 12) (N := some 101) (v := ?_) (a' := ?_) #[true, true, true, true, true, true, true, true, true, true, true, true, true] rfl rfl (any_of HT_.out (by kernel_rfl)) (fun _ _ _ h => h) (Or.inl ⟨by rfl, ?_⟩) ?_ ?_
              rotate_left
              ·
               intro w'
               go_simp
               with_reducible rfl
              rotate_left
              ·
               simp only [Act.put, List.setIfInBounds_toArray, List.set_cons_zero, List.set_cons_succ, i64_w, i32_w]
               rfl
              refine done_ (done_of HT_.out (by kernel_rfl)) ?_
              try go_wp2
              go_ret
              exact ⟨rE, bU3 HB.out GE437.out GE446.out GE455.out⟩
            ·
             rw [if_neg c75] at H
             exact absurd H (by simp)
           ·
            rw [if_neg c73] at H; have c73b0 := decide_eq_false c73; clear c73
            by_cases c81 : t461 = true
            ·
             subst c81
             have H1 : ((impl_MapFar.f k3 t438 t441 t444 t444).bind fun t466 => (some (t466 == 0))) = some r := by rw [if_pos rfl] at H; exact H
             clear H; have H := H1; clear H1; replace H := Option.bind_eq_some_iff.mp H; obtain ⟨t466, A820, H⟩ := H; replace H : (some (t466 == 0)) = some r := H; have A82 := Az A820; clear A820; obtain rfl := Option.some.inj H; have hnb83 := NB446_437.out; have hnc83 := NB437_446.out; have hnb84 := NB446_455.out; have hnc84 := NB455_446.out; have hcz85_0 : wr.cell? ⟨gb446, 0, none⟩ = some (.slice Ao13 t438.length co13) := (blk_cell BK446.out 0).trans rfl; have hcz85_1 : wr.cell? ⟨gb446, 1, none⟩ = some (.slice Ao16 t441.length co16) := (blk_cell BK446.out 1).trans rfl; have hfz85_0 := blk_frozen BK446.out 0; have hfz85_1 := blk_frozen BK446.out 1
             go_wp2_with (first | (go_at_call 46; (with_reducible refine (impl_MapFar.calls k3 _ _ t438 _ _ t441 t444 t444 t466 _ ?side1 ?side2 ?side3 ?side4 A82.out).mono ?_); (case side1 => exact cU ((Kd.R_reads' HO_Z2.out).2.2)); (case side2 => exact (Kd.R_reads' HO_Z2.out).2.1); (case side3 => exact cU ((Kd.R_reads' HO_Z3.out).2.2)); (case side4 => exact (Kd.R_reads' HO_Z3.out).2.1); rintro e w86 ⟨rfl, hb⟩; have n0 := Az (Kd.R_below (rU HO_10.out) hb); have n1 := Az (Kd.Q_below (qU HO_Z1.out) hb); have n2 := Az (Kd.R_below (rU HO_Z2.out) hb); have n3 := Az (Kd.R_below (rU HO_Z3.out) hb); have n4 := Az (Kd.R_below (rU HO_Z4.out) hb); have n5 := Az (Kd.R_below (rU HO_Z5.out) hb); have n6 := Az (blk_below (g := gb437) (o := .cells #[.string t433, .slice Ao10 t434.length co10] 25 (0, 0)) (kU BK437.out) hb); have n7 := Az (blk_below (g := gb446) (o := .cells #[.slice Ao13 t438.length co13, .slice Ao16 t441.length co16] 29 (0, 0)) (kU BK446.out) hb); have n8 := Az (blk_below (g := gb455) (o := .cells #[.slice Ao20 t447.length co20, .slice Ao24 t450.length co24] 29 (0, 0)) (kU BK455.out) hb); have n9 := Az (below_step (bU3 HB.out GE437.out GE446.out GE455.out) hb); clear HO_10 HO_Z1 HO_Z2 HO_Z3 HO_Z4 HO_Z5 BK437 BK446 BK455 HB; have HO_10 := n0; have HO_Z1 := n1; have HO_Z2 := n2; have HO_Z3 := n3; have HO_Z4 := n4; have HO_Z5 := n5; have BK437 := n6; have BK446 := n7; have BK455 := n8; have HB := n9; clear n0 n1 n2 n3 n4 n5 n6 n7 n8 n9; (try clear hb); (try clear hb2); (try clear hk); (try clear hi)))
             go_ret
             exact ⟨rE, bU3 HB.out GE437.out GE446.out GE455.out⟩
            ·
             replace c81 := Bool.eq_false_iff.mpr c81; subst c81
             have H1 : (some false) = some r := by rw [if_neg (show ¬ (false = true) by decide)] at H; exact H
             clear H; have H := H1; clear H1; obtain rfl := Option.some.inj H
             go_wp2
             go_ret
             exact ⟨rE, bU3 HB.out GE437.out GE446.out GE455.out⟩
     ·
      rw [if_neg c64] at H
      exact absurd H (by simp)
def laws_FnLabelsFar.Pure : Prop := ∀ (l0 : List Int), l0.length ≤ maxLen → l0.length * 1 ≤ 140737488351232 → (∀ x ∈ l0, (Lit.int .u8 x).wf = true) → ∃ k, laws_FnLabelsFar.f k l0 = some true
theorem laws_FnLabelsFar.walk (P : laws_FnLabelsFar.Pure) (a0 : Option Addr) (len0 cap0 : Nat) (z0 : List Int) (w : World) (w0 : (a0 = none ∧ len0 = 0 ∧ cap0 = 0 ∧ z0 = []) ∨ ∃ x, a0 = some x ∧ len0 ≤ cap0 ∧ cap0 ≤ maxLen ∧ z0.length = cap0 ∧ (∀ i, i < z0.length → w.cell? (x.add i) = some (.int .u8 (z0.getD i 0))) ∧ ∀ n ∈ z0, (Lit.int .u8 n).wf = true) (y0 : len0 * 1 ≤ 140737488351232) :
  Calls Try.prog 7 #[.slice a0 len0 cap0] w fun e w' => e = .returned (.bool true) ∧ Below w.heap.size w w' := by
 obtain ⟨l0, rfl, hr0, hm0, hw0, hc0⟩ := ReadsInt.ofRowC w0; obtain ⟨k, h⟩ := P l0 hm0 y0 hw0
 refine (laws_FnLabelsFar.calls k _ _ l0 true w (Kd.C_of_reads (d := (0 : Int)) (h1 := fun _ => rfl) hr0) hc0 h).mono ?_
 rintro e w' ⟨rfl, hd⟩
 exact ⟨rfl, hd⟩
end Go.Proofs.Ytlpbalebodlipaa.PK

set_option linter.unusedVariables false
set_option linter.unusedSimpArgs false
namespace Go.Proofs.Ytlpbalebodlipaa.PK
open Go.RowKit Go.Proofs.YtlpbalebodlipaaW.PrintWords Go.Proofs.YtlpbalebodlipaaW.PrintLast Go.Proofs.YtlpbalebodlipaaW.PrintMore
theorem Ev.s {α : Type} {g : Nat → Option α} {r : α} (h : Ev (fun k => g (k + 1)) r) : Ev g r := Ev.step (fun _ => rfl) h
theorem Ev.const {α : Type} {o : Option α} {r : α} (h : o = some r) : Ev (fun _ => o) r := ⟨0, fun _ _ => h⟩
theorem w64 {x : Int} (h1 : -9223372036854775808 ≤ x) (h2 : x < 9223372036854775808) : wrap64 x = x := by unfold wrap64; omega
theorem rd_lt (l : List Int) (i : Nat) (h : i < l.length) : rd l (i : Int) = l[i] := by
  unfold rd
  rw [Int.toNat_natCast, List.getD_eq_getElem?_getD, List.getElem?_eq_getElem h]
  rfl
def walkT (s : ByteArray) : Nat → Int → Option (Int × Int)
  | 0, g => some (g, 0)
  | d + 1, g => if bt s ((s.size : Int) - (d + 1 : Nat)) = 40 then (walkT s d (g + 1)).map (fun p => (p.1, p.2 + 1)) else if bt s ((s.size : Int) - (d + 1 : Nat)) = 41 then (if g - 1 < 0 then none else walkT s d (g - 1)) else none
theorem walkT_range (s : ByteArray) : ∀ (d : Nat) (g : Int) (p : Int × Int), 0 ≤ g → walkT s d g = some p → 0 ≤ p.1 ∧ 0 ≤ p.2 ∧ p.2 ≤ d ∧ p.1 = g + 2 * p.2 - d
  | 0, g, p, hg, h => by simp only [walkT, Option.some.injEq] at h; subst h; simp; omega
  | d + 1, g, p, hg, h => by
    simp only [walkT] at h
    split at h
    · cases e : walkT s d (g + 1) with
      | none => rw [e] at h; cases h
      | some q =>
        rw [e] at h
        obtain rfl := Option.some.inj h
        have := walkT_range s d (g + 1) q (by omega) e
        simp only
        omega
    · split at h
      · split at h
        · cases h
        · have := walkT_range s d (g - 1) p (by omega) h
          omega
      · cases h
theorem spec_steps (x3 x4 : Int) (s : ByteArray) (l : List Int) (hl : l.length ≤ 1048576) : ∀ (d i : Nat), l.length - i = d → i ≤ l.length →
    ((∀ j, i ≤ j → j < l.length → -1 ≤ rd l j ∧ rd l j ≤ 1) → Ev (fun k => spec_TreeValid.l1 k x3 x4 i s l) (decide (x3 = 0 ∧ (1 ≤ x4 ∧ x4 ≤ 3) ∧ (l.length : Int) = x4))) ∧
    (¬ (∀ j, i ≤ j → j < l.length → -1 ≤ rd l j ∧ rd l j ≤ 1) → Ev (fun k => spec_TreeValid.l1 k x3 x4 i s l) false)
  | 0, i, hd, hi => by
    refine ⟨fun _ => Ev.s ?_, fun h => absurd (fun j h1 h2 => by omega) h⟩
    simp only [spec_TreeValid.l1, show ¬ (i : Int) < (l.length : Int) by omega, if_false]
    refine Ev.const ?_
    unfold spec_l6In.f
    by_cases h1 : x3 = 0
    · by_cases h2 : x4 ≥ 1
      · by_cases h3 : x4 ≤ 3
        · by_cases h4 : (l.length : Int) = x4 <;> simp [h1, h2, h3, h4] <;> (try omega)
        · simp [h1, h2, h3]
      · simp [h1, h2] <;> (first | done | omega)
    · simp [h1]
  | d + 1, i, hd, hi => by
    have ih := spec_steps x3 x4 s l hl d (i + 1) (by omega) (by omega)
    have hw : wrap64 ((i : Int) + 1) = ((i + 1 : Nat) : Int) := by rw [w64 (by omega) (by omega)]; omega
    by_cases hb : -1 ≤ rd l i ∧ rd l i ≤ 1
    · have hin : spec_l6In.f (rd l i) (-1) 1 = some true := by unfold spec_l6In.f; rw [if_pos hb.1, decide_eq_true hb.2]
      refine ⟨fun h => Ev.s ?_, fun h => Ev.s ?_⟩
      · simp only [spec_TreeValid.l1, show (i : Int) < (l.length : Int) by omega, show (0 : Int) ≤ i by omega, if_true, hin, Option.bind_some, hw]
        exact ih.1 fun j h1 h2 => h j (by omega) h2
      · simp only [spec_TreeValid.l1, show (i : Int) < (l.length : Int) by omega, show (0 : Int) ≤ i by omega, if_true, hin, Option.bind_some, hw]
        refine ih.2 fun h' => h fun j h1 h2 => ?_
        by_cases e : j = i
        · rw [e]; exact hb
        · exact h' j (by omega) h2
    · have hin : spec_l6In.f (rd l i) (-1) 1 = some false := by
        unfold spec_l6In.f
        by_cases h1 : rd l i ≥ -1
        · rw [if_pos h1, decide_eq_false (by omega)]
        · rw [if_neg h1]
      refine ⟨fun h => absurd (h i (Nat.le_refl _) (by omega)) hb, fun h => Ev.s ?_⟩
      simp only [spec_TreeValid.l1, show (i : Int) < (l.length : Int) by omega, show (0 : Int) ≤ i by omega, if_true, hin, Option.bind_some]
      exact Ev.const rfl
theorem spec_walk (s : ByteArray) (hs : s.size ≤ 1048576) (l : List Int) : ∀ (d : Nat) (i g c : Int), 0 ≤ i → (s.size : Int) - i = d → 0 ≤ g → g ≤ i → 0 ≤ c → c ≤ i →
    (∀ p, walkT s d g = some p → ∀ r, Ev (fun k => spec_TreeValid.l1 k p.1 (c + p.2) 0 s l) r → Ev (fun k => spec_TreeValid.l0 k g c i s l) r) ∧ (walkT s d g = none → Ev (fun k => spec_TreeValid.l0 k g c i s l) false)
  | 0, i, g, c, hi, hd, hg, hgi, hc, hci => by
    refine ⟨fun p hp r h => Ev.s ?_, fun h => by simp [walkT] at h⟩
    simp only [spec_TreeValid.l0, show ¬ i < (s.size : Int) by omega, if_false]
    simp only [walkT, Option.some.injEq] at hp
    subst hp
    simpa using h
  | d + 1, i, g, c, hi, hd, hg, hgi, hc, hci => by
    have hj : (s.size : Int) - ((d + 1 : Nat) : Int) = i := by omega
    have w1 : wrap64 (g + 1) = g + 1 := w64 (by omega) (by omega)
    have w2 : wrap64 (g - 1) = g - 1 := w64 (by omega) (by omega)
    have w3 : wrap64 (c + 1) = c + 1 := w64 (by omega) (by omega)
    have w4 : wrap64 (i + 1) = i + 1 := w64 (by omega) (by omega)
    simp only [walkT, hj]
    by_cases b0 : bt s i = 40
    · simp only [b0, if_true]
      have ih := spec_walk s hs l d (i + 1) (g + 1) (c + 1) (by omega) (by omega) (by omega) (by omega) (by omega) (by omega)
      refine ⟨fun p hp r h => Ev.s ?_, fun h => Ev.s ?_⟩
      · simp only [spec_TreeValid.l0, show i < (s.size : Int) by omega, hi, b0, if_true, w1, w3, w4, show ¬ g + 1 < 0 by omega, if_false]
        cases e : walkT s d (g + 1) with
        | none => rw [e] at hp; cases hp
        | some q =>
          rw [e] at hp
          obtain rfl := Option.some.inj hp
          refine ih.1 q e r ?_
          have : c + 1 + q.2 = c + (q.2 + 1) := by omega
          rw [this]
          exact h
      · simp only [spec_TreeValid.l0, show i < (s.size : Int) by omega, hi, b0, if_true, w1, w3, w4, show ¬ g + 1 < 0 by omega, if_false]
        exact ih.2 (by simpa using h)
    · by_cases b1 : bt s i = 41
      · simp only [b1, if_true, show ¬ ((41 : Int) = 40) by decide, if_false]
        by_cases hz : g - 1 < 0
        · refine ⟨fun p hp => by simp [hz] at hp, fun _ => Ev.s ?_⟩
          simp only [spec_TreeValid.l0, show i < (s.size : Int) by omega, hi, b1, if_true, w2, hz, show ¬ ((41 : Int) = 40) by decide, if_false]
          exact Ev.const rfl
        · have ih := spec_walk s hs l d (i + 1) (g - 1) c (by omega) (by omega) (by omega) (by omega) (by omega) (by omega)
          simp only [hz, if_false]
          refine ⟨fun p hp r h => Ev.s ?_, fun h => Ev.s ?_⟩
          · simp only [spec_TreeValid.l0, show i < (s.size : Int) by omega, hi, b1, if_true, w2, w4, hz, show ¬ ((41 : Int) = 40) by decide, if_false]
            exact ih.1 p hp r h
          · simp only [spec_TreeValid.l0, show i < (s.size : Int) by omega, hi, b1, if_true, w2, w4, hz, show ¬ ((41 : Int) = 40) by decide, if_false]
            exact ih.2 h
      · simp only [b0, b1, if_false]
        refine ⟨fun p hp => by simp at hp, fun _ => Ev.s ?_⟩
        simp only [spec_TreeValid.l0, show i < (s.size : Int) by omega, hi, b0, b1, if_true, if_false]
        exact Ev.const rfl
theorem impl_walk (s : ByteArray) (hs : s.size ≤ 1048576) : ∀ (d i : Nat) (g : Int), (s.size : Int) - i = d → 0 ≤ g → g ≤ i →
    (∀ p, walkT s d g = some p → Ev (fun k => impl_TreeValid.l1 k s i g) (p.1 == 0)) ∧ (walkT s d g = none → Ev (fun k => impl_TreeValid.l1 k s i g) false)
  | 0, i, g, hd, hg, hgi => by
    refine ⟨fun p hp => Ev.s ?_, fun h => by simp [walkT] at h⟩
    simp only [impl_TreeValid.l1, show ¬ i < s.size by omega, if_false]
    simp only [walkT, Option.some.injEq] at hp
    subst hp
    exact Ev.const rfl
  | d + 1, i, g, hd, hg, hgi => by
    have hj : (s.size : Int) - ((d + 1 : Nat) : Int) = (i : Int) := by omega
    have w1 : wrap64 (g + 1) = g + 1 := w64 (by omega) (by omega)
    have w2 : wrap64 (g - 1) = g - 1 := w64 (by omega) (by omega)
    simp only [walkT, hj]
    by_cases b0 : bt s i = 40
    · simp only [b0, if_true]
      have ih := impl_walk s hs d (i + 1) (g + 1) (by omega) (by omega) (by omega)
      refine ⟨fun p hp => Ev.s ?_, fun h => Ev.s ?_⟩
      · simp only [impl_TreeValid.l1, show i < s.size by omega, b0, if_true, w1, show ¬ g + 1 < 0 by omega, if_false]
        cases e : walkT s d (g + 1) with
        | none => rw [e] at hp; cases hp
        | some q =>
          rw [e] at hp
          obtain rfl := Option.some.inj hp
          exact ih.1 q e
      · simp only [impl_TreeValid.l1, show i < s.size by omega, b0, if_true, w1, show ¬ g + 1 < 0 by omega, if_false]
        exact ih.2 (by simpa using h)
    · by_cases b1 : bt s i = 41
      · simp only [b1, if_true, show ¬ ((41 : Int) = 40) by decide, if_false]
        by_cases hz : g - 1 < 0
        · refine ⟨fun p hp => by simp [hz] at hp, fun _ => Ev.s ?_⟩
          simp only [impl_TreeValid.l1, show i < s.size by omega, b1, if_true, w2, hz, show ¬ ((41 : Int) = 40) by decide, if_false]
          exact Ev.const rfl
        · have ih := impl_walk s hs d (i + 1) (g - 1) (by omega) (by omega) (by omega)
          simp only [hz, if_false]
          refine ⟨fun p hp => Ev.s ?_, fun h => Ev.s ?_⟩
          · simp only [impl_TreeValid.l1, show i < s.size by omega, b1, if_true, w2, hz, show ¬ ((41 : Int) = 40) by decide, if_false]
            exact ih.1 p hp
          · simp only [impl_TreeValid.l1, show i < s.size by omega, b1, if_true, w2, hz, show ¬ ((41 : Int) = 40) by decide, if_false]
            exact ih.2 h
      · simp only [b0, b1, if_false]
        refine ⟨fun p hp => by simp at hp, fun _ => Ev.s ?_⟩
        simp only [impl_TreeValid.l1, show i < s.size by omega, b0, b1, if_true, if_false]
        exact Ev.const rfl
theorem impl_steps (s : ByteArray) (l : List Int) (hl : l.length ≤ 3) : ∀ (d i : Nat), l.length - i = d → i ≤ l.length →
    ((∀ j, i ≤ j → j < l.length → -1 ≤ rd l j ∧ rd l j ≤ 1) → ∀ r, Ev (fun k => impl_TreeValid.l1 k s 0 0) r → Ev (fun k => impl_TreeValid.l0 k s l i) r) ∧
    (¬ (∀ j, i ≤ j → j < l.length → -1 ≤ rd l j ∧ rd l j ≤ 1) → Ev (fun k => impl_TreeValid.l0 k s l i) false)
  | 0, i, hd, hi => by
    refine ⟨fun _ r h => Ev.s ?_, fun h => absurd (fun j h1 h2 => by omega) h⟩
    simp only [impl_TreeValid.l0, show ¬ (i : Int) < (l.length : Int) by omega, if_false]
    exact h
  | d + 1, i, hd, hi => by
    have ih := impl_steps s l hl d (i + 1) (by omega) (by omega)
    have hw : wrap64 ((i : Int) + 1) = ((i + 1 : Nat) : Int) := by rw [w64 (by omega) (by omega)]; omega
    by_cases hb1 : rd l i < -1
    · refine ⟨fun h => absurd (h i (Nat.le_refl _) (by omega)) (by omega), fun h => Ev.s ?_⟩
      simp only [impl_TreeValid.l0, show (i : Int) < (l.length : Int) by omega, show (0 : Int) ≤ i by omega, hb1, if_true]
      exact Ev.const rfl
    · by_cases hb2 : rd l i > 1
      · refine ⟨fun h => absurd (h i (Nat.le_refl _) (by omega)) (by omega), fun h => Ev.s ?_⟩
        simp only [impl_TreeValid.l0, show (i : Int) < (l.length : Int) by omega, show (0 : Int) ≤ i by omega, hb1, hb2, if_true, if_false]
        exact Ev.const rfl
      · refine ⟨fun h r hr => Ev.s ?_, fun h => Ev.s ?_⟩
        · simp only [impl_TreeValid.l0, show (i : Int) < (l.length : Int) by omega, show (0 : Int) ≤ i by omega, hb1, hb2, if_true, if_false, hw]
          exact ih.1 (fun j h1 h2 => h j (by omega) h2) r hr
        · simp only [impl_TreeValid.l0, show (i : Int) < (l.length : Int) by omega, show (0 : Int) ≤ i by omega, hb1, hb2, if_true, if_false, hw]
          refine ih.2 fun h' => h fun j h1 h2 => ?_
          by_cases e : j = i
          · rw [e]; omega
          · exact h' j (by omega) h2
def treeOk (s : ByteArray) (l : List Int) : Prop := 1 ≤ l.length ∧ l.length ≤ 3 ∧ s.size = 2 * l.length ∧ (∀ j : Nat, j < l.length → -1 ≤ rd l j ∧ rd l j ≤ 1) ∧ ∃ c, walkT s s.size 0 = some (0, c)
theorem treeValid_both (s : ByteArray) (hs : s.size ≤ 1048576) (l : List Int) (hl : l.length ≤ 1048576) :
    ∃ b : Bool, Ev (fun k => spec_TreeValid.f k s l) b ∧ Ev (fun k => impl_TreeValid.f k s l) b ∧ (b = true → treeOk s l) := by
  have hsp := spec_walk s hs l s.size 0 0 0 (by omega) (by omega) (by omega) (by omega) (by omega) (by omega)
  have hst := fun x3 x4 => spec_steps x3 x4 s l hl l.length 0 (by omega) (by omega)
  simp only [spec_TreeValid.f, impl_TreeValid.f]
  cases hw : walkT s s.size 0 with
  | none =>
    refine ⟨false, hsp.2 hw, ?_, fun h => by cases h⟩
    by_cases h1 : (l.length : Int) < 1
    · simp only [h1, if_true]; exact Ev.const rfl
    · by_cases h3 : (l.length : Int) > 3
      · simp only [h1, h3, if_true, if_false]; exact Ev.const rfl
      · by_cases h2 : (s.size : Int) = wrap64 (2 * (l.length : Int))
        · simp only [h1, h3, if_false]
          simp only [if_pos h2]
          by_cases hb : ∀ j : Nat, 0 ≤ j → j < l.length → -1 ≤ rd l j ∧ rd l j ≤ 1
          · exact (impl_steps s l (by omega) l.length 0 (by omega) (by omega)).1 hb _ ((impl_walk s hs s.size 0 0 (by omega) (by omega) (by omega)).2 hw)
          · exact (impl_steps s l (by omega) l.length 0 (by omega) (by omega)).2 hb
        · simp only [h1, h3, h2, if_false]
          exact Ev.const rfl
  | some p =>
    have hr := walkT_range s s.size 0 p (by omega) hw
    have hc0 : (0 : Int) + p.2 = p.2 := by omega
    by_cases hb : ∀ j : Nat, 0 ≤ j → j < l.length → -1 ≤ rd l j ∧ rd l j ≤ 1
    · refine ⟨decide (p.1 = 0 ∧ (1 ≤ p.2 ∧ p.2 ≤ 3) ∧ (l.length : Int) = p.2), hsp.1 p hw _ ?_, ?_, fun h => ?_⟩
      · rw [hc0]; exact (hst p.1 p.2).1 hb
      · by_cases h1 : (l.length : Int) < 1
        · simp only [h1, if_true]
          exact Ev.const (by congr 1; symm; rw [decide_eq_false_iff_not]; omega)
        · by_cases h3 : (l.length : Int) > 3
          · simp only [h1, h3, if_true, if_false]
            exact Ev.const (by congr 1; symm; rw [decide_eq_false_iff_not]; omega)
          · have h2w : wrap64 (2 * (l.length : Int)) = 2 * (l.length : Int) := w64 (by omega) (by omega)
            by_cases h2 : (s.size : Int) = 2 * (l.length : Int)
            · simp only [h1, h3, if_false, h2w]
              simp only [if_pos h2]
              have hi := (impl_steps s l (by omega) l.length 0 (by omega) (by omega)).1 hb _ ((impl_walk s hs s.size 0 0 (by omega) (by omega) (by omega)).1 p hw)
              have e : (p.1 == 0) = decide (p.1 = 0 ∧ (1 ≤ p.2 ∧ p.2 ≤ 3) ∧ (l.length : Int) = p.2) := by
                rw [Bool.eq_iff_iff]
                simp only [beq_iff_eq, decide_eq_true_eq]
                omega
              rw [e] at hi
              exact hi
            · simp only [h1, h3, h2, if_false, h2w]
              exact Ev.const (by congr 1; symm; rw [decide_eq_false_iff_not]; omega)
      · have := of_decide_eq_true h
        refine ⟨by omega, by omega, by omega, fun j hj => hb j (by omega) hj, p.2, ?_⟩
        rw [hw]
        congr 1
        exact Prod.ext this.1 rfl
    · refine ⟨false, hsp.1 p hw _ ?_, ?_, fun h => by cases h⟩
      · exact (hst p.1 _).2 hb
      · by_cases h1 : (l.length : Int) < 1
        · simp only [h1, if_true]; exact Ev.const rfl
        · by_cases h3 : (l.length : Int) > 3
          · simp only [h1, h3, if_true, if_false]; exact Ev.const rfl
          · by_cases h2 : (s.size : Int) = wrap64 (2 * (l.length : Int))
            · simp only [h1, h3, if_false]
              simp only [if_pos h2]
              exact (impl_steps s l (by omega) l.length 0 (by omega) (by omega)).2 hb
            · simp only [h1, h3, h2, if_false]
              exact Ev.const rfl
def stepsAll : Nat → List (List Int)
  | 0 => [[]]
  | n + 1 => [-1, 0, 1].flatMap fun a => (stepsAll n).map fun l => a :: l
def wordsAll : Nat → List ByteArray
  | 1 => [⟨#[40, 41]⟩]
  | 2 => [⟨#[40, 40, 41, 41]⟩, ⟨#[40, 41, 40, 41]⟩]
  | 3 => [⟨#[40, 40, 40, 41, 41, 41]⟩, ⟨#[40, 40, 41, 40, 41, 41]⟩, ⟨#[40, 40, 41, 41, 40, 41]⟩, ⟨#[40, 41, 40, 40, 41, 41]⟩, ⟨#[40, 41, 40, 41, 40, 41]⟩]
  | _ => []
def chkN (P : ByteArray → List Int → Bool) (n : Nat) : Bool := (wordsAll n).all fun s => (stepsAll n).all fun l => P s l
theorem stepsAll_mem : ∀ (l : List Int), (∀ x ∈ l, -1 ≤ x ∧ x ≤ 1) → l ∈ stepsAll l.length
  | [], _ => by simp [stepsAll]
  | a :: l, h => by
    have ih := stepsAll_mem l fun x hx => h x (by simp [hx])
    have ha := h a (by simp)
    simp only [List.length_cons, stepsAll, List.mem_flatMap, List.mem_map]
    exact ⟨a, by simp; omega, l, ih, rfl⟩
theorem walkT_bytes (s : ByteArray) : ∀ (d : Nat) (g : Int) (p : Int × Int), walkT s d g = some p → ∀ q : Int, (s.size : Int) - d ≤ q → q < s.size → bt s q = 40 ∨ bt s q = 41
  | 0, g, p, h, q, h1, h2 => by omega
  | d + 1, g, p, h, q, h1, h2 => by
    simp only [walkT] at h
    by_cases e : q = (s.size : Int) - ((d + 1 : Nat) : Int)
    · rw [e]
      by_cases b0 : bt s ((s.size : Int) - ((d + 1 : Nat) : Int)) = 40
      · exact .inl b0
      · by_cases b1 : bt s ((s.size : Int) - ((d + 1 : Nat) : Int)) = 41
        · exact .inr b1
        · rw [if_neg b0, if_neg b1] at h
          cases h
    · split at h
      · cases e2 : walkT s d (g + 1) with
        | none => rw [e2] at h; cases h
        | some q' => exact walkT_bytes s d (g + 1) q' e2 q (by omega) h2
      · split at h
        · split at h
          · cases h
          · exact walkT_bytes s d (g - 1) p h q (by omega) h2
        · cases h
theorem byte_of (b : UInt8) (h : ((b.toNat : Int) = 40) ∨ ((b.toNat : Int) = 41)) : b = 40 ∨ b = 41 := by
  rcases h with h | h
  · left; apply UInt8.toNat_inj.1; simpa using (by omega : b.toNat = 40)
  · right; apply UInt8.toNat_inj.1; simpa using (by omega : b.toNat = 41)
theorem bytes_of (s : ByteArray) (n : Nat) (hn : s.size = n) : ∃ l : List UInt8, l.length = n ∧ s = ⟨l.toArray⟩ := by
  refine ⟨s.data.toList, ?_, ?_⟩
  · rw [Array.length_toList]; exact hn
  · apply ByteArray.ext; simp
theorem bt_nth (l : List UInt8) (i : Nat) (h : i < l.length) : bt ⟨l.toArray⟩ (i : Int) = (l[i].toNat : Int) := by
  have := (bt_at ⟨l.toArray⟩ (i : Int) (by simpa [ByteArray.size] using h)).symm
  rw [this]
  rfl
theorem words_mem (s : ByteArray) (n : Nat) (h1 : 1 ≤ n) (h3 : n ≤ 3) (hs : s.size = 2 * n) (c : Int) (hw : walkT s s.size 0 = some (0, c)) : s ∈ wordsAll n := by
  have hb := walkT_bytes s s.size 0 (0, c) hw
  have hw' : (walkT s s.size 0).map (fun p => p.1) = some 0 := by rw [hw]; rfl
  clear hw
  obtain ⟨l, hl, rfl⟩ := bytes_of s (2 * n) hs
  have hbl : ∀ i (h : i < l.length), l[i] = 40 ∨ l[i] = 41 := fun i h => byte_of _ (by
    have := hb (i : Int) (by omega) (by rw [hs]; omega)
    rwa [bt_nth l i h] at this)
  clear hb
  have hc : n = 1 ∨ n = 2 ∨ n = 3 := by omega
  rcases hc with rfl | rfl | rfl
  · obtain ⟨a, b, rfl⟩ : ∃ a b, l = [a, b] := by
      match l, hl with
      | [a, b], _ => exact ⟨a, b, rfl⟩
    · skip
      have h0 : a = 40 ∨ a = 41 := hbl 0 (show 0 < 2 by decide); have h1' : b = 40 ∨ b = 41 := hbl 1 (show 1 < 2 by decide)
      rcases h0 with rfl | rfl <;> rcases h1' with rfl | rfl <;> first | (exact absurd hw' (by decide +kernel)) | (simp [wordsAll]; done)
  · obtain ⟨a, b, c, d, rfl⟩ : ∃ a b c d, l = [a, b, c, d] := by
      match l, hl with
      | [a, b, c, d], _ => exact ⟨a, b, c, d, rfl⟩
    · skip
      have g0 : a = 40 ∨ a = 41 := hbl 0 (show 0 < 4 by decide); have g1 : b = 40 ∨ b = 41 := hbl 1 (show 1 < 4 by decide); have g2 : c = 40 ∨ c = 41 := hbl 2 (show 2 < 4 by decide); have g3 : d = 40 ∨ d = 41 := hbl 3 (show 3 < 4 by decide)
      rcases g0 with rfl | rfl <;> rcases g1 with rfl | rfl <;> rcases g2 with rfl | rfl <;> rcases g3 with rfl | rfl <;> first | (exact absurd hw' (by decide +kernel)) | (simp [wordsAll]; done)
  · obtain ⟨a, b, c, d, e, f, rfl⟩ : ∃ a b c d e f, l = [a, b, c, d, e, f] := by
      match l, hl with
      | [a, b, c, d, e, f], _ => exact ⟨a, b, c, d, e, f, rfl⟩
    · skip
      have g0 : a = 40 ∨ a = 41 := hbl 0 (show 0 < 6 by decide); have g1 : b = 40 ∨ b = 41 := hbl 1 (show 1 < 6 by decide); have g2 : c = 40 ∨ c = 41 := hbl 2 (show 2 < 6 by decide); have g3 : d = 40 ∨ d = 41 := hbl 3 (show 3 < 6 by decide); have g4 : e = 40 ∨ e = 41 := hbl 4 (show 4 < 6 by decide); have g5 : f = 40 ∨ f = 41 := hbl 5 (show 5 < 6 by decide)
      rcases g0 with rfl | rfl <;> rcases g1 with rfl | rfl <;> rcases g2 with rfl | rfl <;> rcases g3 with rfl | rfl <;> rcases g4 with rfl | rfl <;> rcases g5 with rfl | rfl <;> first | (exact absurd hw' (by decide +kernel)) | (simp [wordsAll]; done)
theorem chk_all (P : ByteArray → List Int → Bool) (h1 : chkN P 1 = true) (h2 : chkN P 2 = true) (h3 : chkN P 3 = true) (s : ByteArray) (l : List Int) (h : treeOk s l) : P s l = true := by
  obtain ⟨a1, a3, hs, hst, c, hw⟩ := h
  have hm := words_mem s l.length a1 a3 hs c hw
  have hl : ∀ x ∈ l, -1 ≤ x ∧ x ≤ 1 := by
    intro x hx
    obtain ⟨i, hi, rfl⟩ := List.mem_iff_getElem.1 hx
    have := hst i hi
    rwa [rd_lt l i hi] at this
  have hsm := stepsAll_mem l hl
  have hn : chkN P l.length = true := by
    have hc : l.length = 1 ∨ l.length = 2 ∨ l.length = 3 := by omega
    rcases hc with e | e | e <;> rw [e] <;> assumption
  unfold chkN at hn
  rw [List.all_eq_true] at hn
  have := hn s hm
  rw [List.all_eq_true] at this
  exact this l hsm
theorem xor_nonneg (a b : Int) (ha : 0 ≤ a) (hb : 0 ≤ b) (ha' : a < 9223372036854775808) (hb' : b < 9223372036854775808) : 0 ≤ Go.bits .xor .i64 a b := by
  obtain ⟨n, rfl⟩ := Int.eq_ofNat_of_zero_le ha
  obtain ⟨m, rfl⟩ := Int.eq_ofNat_of_zero_le hb
  have hn : n % 2 ^ 64 = n := Nat.mod_eq_of_lt (by omega)
  have hm : m % 2 ^ 64 = m := Nat.mod_eq_of_lt (by omega)
  have hx : n ^^^ m < 2 ^ 63 := Nat.xor_lt_two_pow (by omega) (by omega)
  have e : Go.bits .xor .i64 (n : Int) (m : Int) = IntKind.i64.wrap ((n ^^^ m : Nat) : Int) := by
    simp only [Go.bits, BitVec.ofInt_natCast]
    show IntKind.i64.wrap (((BitVec.ofNat 64 n ^^^ BitVec.ofNat 64 m).toNat : Nat) : Int) = _
    rw [BitVec.toNat_xor, BitVec.toNat_ofNat, BitVec.toNat_ofNat, hn, hm]
  rw [e, IntKind.wrap_i64]
  omega
def bytesOk (l : List Int) : Prop := l.length ≤ 2000 ∧ ∀ x ∈ l, 0 ≤ x ∧ x ≤ 255
theorem rd_byte (l : List Int) (h : bytesOk l) (i : Int) : 0 ≤ rd l i ∧ rd l i ≤ 255 := by
  unfold rd
  by_cases hi : i.toNat < l.length
  · rw [List.getD_eq_getElem?_getD, List.getElem?_eq_getElem hi]
    exact h.2 _ (List.getElem_mem hi)
  · rw [List.getD_eq_getElem?_getD, List.getElem?_eq_none (by omega)]
    decide
theorem pick_ev (l : List Int) (h : bytesOk l) (p : Int) (hp : 0 ≤ p) (hp' : p ≤ 1000000) (n : Int) (hn : 1 ≤ n) (hn' : n ≤ 1000000) : ∃ v, Ev (fun k => spec_l6Rd_pick.f k l p n) (v, p + 1) ∧ 0 ≤ v ∧ v < n := by
  have w0 : wrap64 (p + 1) = p + 1 := w64 (by omega) (by omega)
  have w1 : wrap64 (p + 1 - 1) = p := by rw [w64 (by omega) (by omega)]; omega
  have hl := h.1
  unfold spec_l6Rd_pick.f
  simp only [show ¬ n < 1 by omega, if_false, w0]
  by_cases hz : l.length = 0
  · refine ⟨0, Ev.s ?_, by omega, by omega⟩
    have : (((l.length : Int)) == 0) = true := by simp [hz]
    simp only [this, spec_l6Rd_pick.j0, if_true]
    exact Ev.const rfl
  · have hb : (((l.length : Int)) == 0) = false := by rw [beq_eq_false_iff_ne]; omega
    have hn0 : ¬ n = 0 := by omega
    by_cases hlt : p < (l.length : Int)
    · have hr := rd_byte l h p
      have wr : wrap64 (rd l p) = rd l p := w64 (by omega) (by omega)
      refine ⟨Int.tmod (rd l p) n, Ev.s ?_, Int.tmod_nonneg _ (by omega), Int.tmod_lt_of_pos _ (by omega)⟩
      simp only [hb, spec_l6Rd_pick.j0, w1, hlt, hp, hn0, wr, Bool.false_eq_true, if_true, if_false]
      exact Ev.const rfl
    · have hl0 : ¬ (l.length : Int) = 0 := by omega
      have wk : wrap64 (p * 7) = p * 7 := w64 (by omega) (by omega)
      have wk3 : wrap64 (p * 7 + 3) = p * 7 + 3 := w64 (by omega) (by omega)
      have t1 := Int.tmod_nonneg (a := p) (l.length : Int) hp
      have t2 := Int.tmod_lt_of_pos p (b := (l.length : Int)) (by omega)
      have t3 := Int.tmod_nonneg (a := p * 7 + 3) (l.length : Int) (by omega)
      have t4 := Int.tmod_lt_of_pos (p * 7 + 3) (b := (l.length : Int)) (by omega)
      have r1 := rd_byte l h (Int.tmod p (l.length : Int))
      have r2 := rd_byte l h (Int.tmod (p * 7 + 3) (l.length : Int))
      have d1 : 0 ≤ Int.tdiv p (l.length : Int) := Int.tdiv_nonneg hp (by omega)
      have d2 : Int.tdiv p (l.length : Int) ≤ p := Int.tdiv_le_self _ hp
      obtain ⟨X, hX, hX0, hX1⟩ : ∃ X, (wrap64 ((wrap64 ((wrap64 ((wrap64 ((wrap64 (rd l (Int.tmod p (l.length : Int)))) * 131)) + (wrap64 ((wrap64 (rd l (Int.tmod (p * 7 + 3) (l.length : Int)))) * 1117)))) + (wrap64 (p * 29)))) + (wrap64 ((wrap64 (Int.tdiv p (l.length : Int))) * 53)))) = X ∧ 0 ≤ X ∧ X < 4611686018427387904 := by
        refine ⟨_, rfl, ?_, ?_⟩
        all_goals
          generalize rd l (Int.tmod p (l.length : Int)) = a at *
          generalize rd l (Int.tmod (p * 7 + 3) (l.length : Int)) = b at *
          generalize Int.tdiv p (l.length : Int) = c at *
          rw [w64 (x := a) (by omega) (by omega), w64 (x := b) (by omega) (by omega), w64 (x := a * 131) (by omega) (by omega), w64 (x := b * 1117) (by omega) (by omega), w64 (x := a * 131 + b * 1117) (by omega) (by omega), w64 (x := p * 29) (by omega) (by omega), w64 (x := a * 131 + b * 1117 + p * 29) (by omega) (by omega), w64 (x := c) (by omega) (by omega), w64 (x := c * 53) (by omega) (by omega), w64 (x := a * 131 + b * 1117 + p * 29 + c * 53) (by omega) (by omega)]
          omega
      have hd : 0 ≤ wrap64 (Int.tdiv X 64) ∧ wrap64 (Int.tdiv X 64) < 9223372036854775808 := by
        have := Int.tdiv_nonneg hX0 (show (0 : Int) ≤ 64 by decide)
        have := Int.tdiv_le_self 64 hX0
        rw [w64 (by omega) (by omega)]
        omega
      have hx := xor_nonneg X (wrap64 (Int.tdiv X 64)) hX0 hd.1 (by omega) hd.2
      refine ⟨Int.tmod (Go.bits .xor .i64 X (wrap64 (Int.tdiv X 64))) n, Ev.s ?_, Int.tmod_nonneg _ hx, Int.tmod_lt_of_pos _ (by omega)⟩
      simp only [hb, spec_l6Rd_pick.j0, w1, hlt, hl0, wk, wk3, t1, t2, t3, t4, hn0, hX, Bool.false_eq_true, if_true, if_false]
      exact Ev.const rfl
theorem open_ev (l : List Int) (hb : ∀ x ∈ l, (Lit.int .u8 x).wf = true) : ∃ l', spec_l6Open.f l = some (l', 0) ∧ bytesOk l' := by
  have hb' : ∀ x ∈ l, 0 ≤ x ∧ x ≤ 255 := by
    intro x hx
    have := hb x hx
    simp only [Lit.wf, IntKind.min, IntKind.max, IntKind.signed, IntKind.bits, Bool.and_eq_true, decide_eq_true_eq, Bool.false_eq_true, if_false] at this
    omega
  unfold spec_l6Open.f
  by_cases h : (l.length : Int) > 2000
  · refine ⟨l.take 2000, ?_, ?_, fun x hx => hb' x (List.mem_of_mem_take hx)⟩
    · rw [if_pos h, if_pos (by omega)]
    · rw [List.length_take]; omega
  · exact ⟨l, by rw [if_neg h], by omega, hb'⟩
theorem of_ev (l : List Int) (h : bytesOk l) (p : Int) (hp : 0 ≤ p) (hp' : p ≤ 1000000) (L : List ByteArray) (h1 : 1 ≤ L.length) (h2 : L.length ≤ 100) : ∃ v : Int, Ev (fun k => spec_l6Rd_of.f k l p L) (rdOf ByteArray.empty L v, p + 1) ∧ 0 ≤ v ∧ v < L.length := by
  obtain ⟨v, hv, v0, v1⟩ := pick_ev l h p hp hp' (L.length : Int) (by omega) (by omega)
  refine ⟨v, ?_, v0, v1⟩
  unfold spec_l6Rd_of.f
  refine Ev.bind hv ?_
  simp only [v0, v1, if_true]
  exact Ev.const rfl
theorem size_push (s : ByteArray) (b : UInt8) : (s ++ (⟨#[b]⟩ : ByteArray)).size = s.size + 1 := by
  rw [ByteArray.size_append]; rfl
theorem tree_end (l : List Int) (h : bytesOk l) (n up p : Int) (s : ByteArray) (st : List Int) (hn : 1 ≤ n) (hn' : n ≤ 4) (hs : ¬ (s.size : Int) < 2 * n) (hs' : s.size ≤ 8) (h1 : 1 ≤ st.length) (h8 : st.length ≤ 8) (hp : 0 ≤ p) (hp' : p ≤ 10000) :
    ∃ s' st' p', Ev (fun k => spec_l92Tree.l0 k n up l p s st) (s', st', p') ∧ s'.size ≤ 10 ∧ st'.length ≤ 10 := by
  have w2 : wrap64 (2 * n) = 2 * n := w64 (by omega) (by omega)
  obtain ⟨v, hv, v0, v1⟩ := pick_ev l h p hp (by omega) 40 (by omega) (by omega)
  by_cases c0 : v = 0
  · obtain ⟨q, hq, q0, q1⟩ := of_ev l h (p + 1) (by omega) (by omega) ([(⟨#[40]⟩ : ByteArray), (⟨#[41]⟩ : ByteArray), (⟨#[120]⟩ : ByteArray), (⟨#[40, 41]⟩ : ByteArray)] : List ByteArray) (by decide) (by decide)
    have hz : (rdOf ByteArray.empty ([(⟨#[40]⟩ : ByteArray), (⟨#[41]⟩ : ByteArray), (⟨#[120]⟩ : ByteArray), (⟨#[40, 41]⟩ : ByteArray)] : List ByteArray) q).size ≤ 2 := by
      have hc : q = 0 ∨ q = 1 ∨ q = 2 ∨ q = 3 := by
        have : q < 4 := q1
        omega
      rcases hc with rfl | rfl | rfl | rfl <;> decide
    generalize rdOf ByteArray.empty ([(⟨#[40]⟩ : ByteArray), (⟨#[41]⟩ : ByteArray), (⟨#[120]⟩ : ByteArray), (⟨#[40, 41]⟩ : ByteArray)] : List ByteArray) q = y at hq hz
    refine ⟨s ++ y, st, p + 1 + 1, Ev.s ?_, ?_, by omega⟩
    · simp only [spec_l92Tree.l0, w2, hs, if_false]
      refine Ev.bind hv ?_
      simp only [c0, if_true]
      refine Ev.bind hq ?_
      simp only [show s.size + y.size ≤ 9223372036854775807 by omega, if_true]
      exact Ev.const rfl
    · rw [ByteArray.size_append]; omega
  · by_cases c1 : v = 1
    · obtain ⟨q, hq, q0, q1⟩ := pick_ev l h (p + 1) (by omega) (by omega) 2 (by omega) (by omega)
      refine ⟨s, st.set (Int.toNat 0) (rd [(-2), 2] q), p + 1 + 1, Ev.s ?_, by omega, by simp; omega⟩
      simp only [spec_l92Tree.l0, w2, hs, if_false]
      refine Ev.bind hv ?_
      simp only [c1, show ¬ ((1 : Int) = 0) by decide, if_false, if_true, Option.bind_some]
      refine Ev.bind hq ?_
      simp only [q0, show q < (([(-2), 2] : List Int).length : Int) from q1, show (0 : Int) < (st.length : Int) by omega, if_true]
      exact Ev.const rfl
    · by_cases c2 : v = 2
      · refine ⟨s, st.drop (Int.toNat 1), p + 1, Ev.s ?_, by omega, by simp; omega⟩
        simp only [spec_l92Tree.l0, w2, hs, if_false]
        refine Ev.bind hv ?_
        simp only [c2, show ¬ ((2 : Int) = 0) by decide, show ¬ ((2 : Int) = 1) by decide, show (1 : Int) ≤ (st.length : Int) by omega, if_false, if_true]
        exact Ev.const rfl
      · refine ⟨s, st, p + 1, Ev.s ?_, by omega, by omega⟩
        simp only [spec_l92Tree.l0, w2, hs, if_false]
        refine Ev.bind hv ?_
        simp only [c0, c1, c2, if_false]
        exact Ev.const rfl
theorem tree_run (l : List Int) (h : bytesOk l) (n : Int) (hn : 1 ≤ n) (hn' : n ≤ 4) : ∀ (d : Nat) (up p : Int) (s : ByteArray) (st : List Int), 0 ≤ up → up ≤ st.length → (s.size : Int) + up = 2 * st.length → 2 * n - s.size = d → 0 ≤ p → p + 2 * d ≤ 1000 →
    ∃ s' st' p', Ev (fun k => spec_l92Tree.l0 k n up l p s st) (s', st', p') ∧ s'.size ≤ 10 ∧ st'.length ≤ 10
  | 0, up, p, s, st, hu, hu', hs, hd, hp, hp' => tree_end l h n up p s st hn hn' (by omega) (by omega) (by omega) (by omega) hp (by omega)
  | d + 1, up, p, s, st, hu, hu', hs, hd, hp, hp' => by
    have w2 : wrap64 (2 * n) = 2 * n := w64 (by omega) (by omega)
    have wm : wrap64 (up - 1) = up - 1 := w64 (by omega) (by omega)
    have wp : wrap64 (up + 1) = up + 1 := w64 (by omega) (by omega)
    have hlt : (s.size : Int) < 2 * n := by omega
    have hs1 : s.size + 1 ≤ 9223372036854775807 := by omega
    have hst : st.length < 17592186044416 := by omega
    have down : ∀ p1 : Int, 0 ≤ p1 → p1 ≤ p + 2 → up > 0 → ∃ s' st' p', Ev (fun k => spec_l92Tree.l0 k n (up - 1) l p1 (s ++ (⟨#[41]⟩ : ByteArray)) st) (s', st', p') ∧ s'.size ≤ 10 ∧ st'.length ≤ 10 := fun p1 h0 h1 hup =>
      tree_run l h n hn hn' d (up - 1) p1 _ st (by omega) (by omega) (by rw [size_push]; omega) (by rw [size_push]; omega) h0 (by omega)
    have over : ∀ (p1 x : Int), 0 ≤ p1 → p1 ≤ p + 2 → ∃ s' st' p', Ev (fun k => spec_l92Tree.l0 k n (up + 1) l p1 (s ++ (⟨#[40]⟩ : ByteArray)) (st ++ [x])) (s', st', p') ∧ s'.size ≤ 10 ∧ st'.length ≤ 10 := fun p1 x h0 h1 =>
      tree_run l h n hn hn' d (up + 1) p1 _ _ (by omega) (by simp; omega) (by rw [size_push]; simp; omega) (by rw [size_push]; omega) h0 (by omega)
    by_cases c1 : up > 0
    · by_cases c2 : (st.length : Int) = n
      · obtain ⟨s', st', p', e, z1, z2⟩ := down p hp (by omega) c1
        refine ⟨s', st', p', Ev.s ?_, z1, z2⟩
        simp only [spec_l92Tree.l0, w2, hlt, c1, c2, hs1, wm, if_true]
        exact e
      · obtain ⟨v, hv, v0, v1⟩ := pick_ev l h p hp (by omega) 2 (by omega) (by omega)
        by_cases c3 : v = 0
        · obtain ⟨s', st', p', e, z1, z2⟩ := down (p + 1) (by omega) (by omega) c1
          refine ⟨s', st', p', Ev.s ?_, z1, z2⟩
          simp only [spec_l92Tree.l0, w2, hlt, c1, c2, if_true, if_false]
          refine Ev.bind hv ?_
          simp only [c3, hs1, wm, if_true]
          exact e
        · obtain ⟨q, hq, q0, q1⟩ := pick_ev l h (p + 1) (by omega) (by omega) 3 (by omega) (by omega)
          obtain ⟨s', st', p', e, z1, z2⟩ := over (p + 1 + 1) (wrap64 (q - 1)) (by omega) (by omega)
          refine ⟨s', st', p', Ev.s ?_, z1, z2⟩
          simp only [spec_l92Tree.l0, w2, hlt, c1, c2, if_true, if_false]
          refine Ev.bind hv ?_
          simp only [c3, hs1, if_true, if_false]
          refine Ev.bind hq ?_
          simp only [hst, wp, if_true]
          exact e
    · obtain ⟨q, hq, q0, q1⟩ := pick_ev l h p hp (by omega) 3 (by omega) (by omega)
      obtain ⟨s', st', p', e, z1, z2⟩ := over (p + 1) (wrap64 (q - 1)) (by omega) (by omega)
      refine ⟨s', st', p', Ev.s ?_, z1, z2⟩
      simp only [spec_l92Tree.l0, w2, hlt, c1, hs1, if_true, if_false]
      refine Ev.bind hq ?_
      simp only [hst, wp, if_true]
      exact e
theorem l92Tree_ev (l : List Int) (h : bytesOk l) (most : Int) (hm : 1 ≤ most) (hm' : most ≤ 4) : ∃ s st p, Ev (fun k => spec_l92Tree.f k l 0 most) (s, st, p) ∧ s.size ≤ 10 ∧ st.length ≤ 10 := by
  obtain ⟨v, hv, v0, v1⟩ := pick_ev l h 0 (by omega) (by omega) most hm (by omega)
  obtain ⟨s, st, p, e, z1, z2⟩ := tree_run l h (1 + v) (by omega) (by omega) (2 * (1 + v)).toNat 0 (0 + 1) (⟨#[]⟩ : ByteArray) [] (by omega) (by simp) (by rfl) (by
    show 2 * (1 + v) - ((0 : Nat) : Int) = _
    omega) (by omega) (by omega)
  refine ⟨s, st, p, ?_, z1, z2⟩
  unfold spec_l92Tree.f
  refine Ev.bind hv ?_
  rw [w64 (x := 1 + v) (by omega) (by omega)]
  exact e
end Go.Proofs.Ytlpbalebodlipaa.PK

set_option linter.unusedVariables false
set_option linter.unusedSimpArgs false
namespace Go.Proofs.Ytlpbalebodlipaa.Pure
open Go.RowKit Go.Proofs.Ytlpbalebodlipaa.PK Go.Proofs.YtlpbalebodlipaaW.PrintWords Go.Proofs.YtlpbalebodlipaaW.PrintLast Go.Proofs.YtlpbalebodlipaaW.PrintMore
def chkFnLabelsFar (s : ByteArray) (l : List Int) : Bool :=
  match impl_TreeQuad.f 3000 s l with
  | some (t, f, p, true) => decide (spec_TreeQuad.f 3000 s l = some (t, f, p, true)) && (decide (laws_sameMap.f 3000 t f t f = some true) && decide (laws_FnLabelsFar.j0 3000 p true p true false s l t f t f = some true))
  | _ => false
theorem chkFnLabelsFar_1 : chkN chkFnLabelsFar 1 = true := by decide +kernel
theorem chkFnLabelsFar_2 : chkN chkFnLabelsFar 2 = true := by decide +kernel
set_option maxHeartbeats 40000000 in
theorem chkFnLabelsFar_3s : ∀ s ∈ wordsAll 3, ∀ a ∈ ([-1, 0, 1] : List Int), ∀ b ∈ ([-1, 0, 1] : List Int), (stepsAll 1).all (fun l => chkFnLabelsFar s (a :: b :: l)) = true := by
  intro s hs a ha b hb
  simp only [wordsAll, List.mem_cons, List.not_mem_nil, or_false] at hs ha hb
  rcases hs with rfl | rfl | rfl | rfl | rfl <;> rcases ha with rfl | rfl | rfl <;> rcases hb with rfl | rfl | rfl <;> decide +kernel
theorem chkFnLabelsFar_3 : chkN chkFnLabelsFar 3 = true := by
  unfold chkN
  rw [List.all_eq_true]
  intro s hs
  rw [List.all_eq_true]
  intro l hl
  rw [stepsAll, List.mem_flatMap] at hl
  obtain ⟨a, ha, hl⟩ := hl
  obtain ⟨l1, hl1, rfl⟩ := List.mem_map.1 hl
  rw [stepsAll, List.mem_flatMap] at hl1
  obtain ⟨b, hb, hl1⟩ := hl1
  obtain ⟨l2, hl2, rfl⟩ := List.mem_map.1 hl1
  exact List.all_eq_true.1 (chkFnLabelsFar_3s s hs a ha b hb) l2 hl2
theorem chkFnLabelsFar_all (s : ByteArray) (l : List Int) (h : treeOk s l) : chkFnLabelsFar s l = true := chk_all chkFnLabelsFar chkFnLabelsFar_1 chkFnLabelsFar_2 chkFnLabelsFar_3 s l h
theorem FnLabelsFar : laws_FnLabelsFar.Pure := by
  intro c _ _ hc
  by_cases hs : (c.length : Int) > 1048576
  · exact ⟨0, by unfold laws_FnLabelsFar.f; rw [if_pos hs]⟩
  · refine Ev.rounds (r := true) ?_
    unfold laws_FnLabelsFar.f
    simp only [hs, if_false]
    obtain ⟨c', ho, hb'⟩ := open_ev c hc
    obtain ⟨s, l, p, hd, z1, z2⟩ := l92Tree_ev c' hb' 3 (by omega) (by omega)
    have hdraw : Ev (fun k => spec_DrawTreeQuad.f k c) (s, l) := by
      unfold spec_DrawTreeQuad.f
      simp only [ho, Option.bind_some]
      exact Ev.bind hd (Ev.const rfl)
    refine Ev.bind hdraw ?_
    obtain ⟨b, b1, b2, b3⟩ := treeValid_both s (by omega) l (by omega)
    cases b with
    | false =>
      have hs1 : Ev (fun k => spec_TreeQuad.f k s l) ([], [], 0, false) := by
        unfold spec_TreeQuad.f
        refine Ev.bind b1 ?_
        simp only [Bool.false_eq_true, if_false]
        exact Ev.const rfl
      have hi1 : Ev (fun k => impl_TreeQuad.f k s l) ([], [], 0, false) := by
        unfold impl_TreeQuad.f
        refine Ev.bind b2 ?_
        simp only [Bool.false_eq_true, if_false]
        exact Ev.const rfl
      have hm : Ev (fun k => laws_sameMap.f k [] [] [] []) true := Ev.of (fun k => laws_sameMap.mono [] [] [] [] k) (by decide +kernel : laws_sameMap.f 10 [] [] [] [] = some true)
      refine Ev.bind hi1 ?_
      refine Ev.bind hs1 ?_
      simp only [bne_self_eq_false, Bool.false_eq_true, if_false]
      refine Ev.bind hm ?_
      simp only [if_true]
      refine Ev.s ?_
      simp only [laws_FnLabelsFar.j0, Bool.not_false, if_true, beq_self_eq_true]
      exact Ev.bind hm (Ev.const rfl)
    | true =>
      have hck := chkFnLabelsFar_all s l (b3 rfl)
      unfold chkFnLabelsFar at hck
      split at hck
      · rename_i t f q e1
        simp only [Bool.and_eq_true, decide_eq_true_eq] at hck
        obtain ⟨e2, e3, e4⟩ := hck
        refine Ev.bind (Ev.of (fun k => impl_TreeQuad.mono _ _ k) e1) ?_
        refine Ev.bind (Ev.of (fun k => spec_TreeQuad.mono _ _ k) e2) ?_
        simp only [bne_self_eq_false, Bool.false_eq_true, if_false]
        refine Ev.bind (Ev.of (fun k => laws_sameMap.mono _ _ _ _ k) e3) ?_
        simp only [if_true, Bool.not_true]
        exact Ev.of (fun k => (laws_FnLabelsFar.mono_l k).1 _ _ _ _ _ _ _ _ _ _ _) e4
      · cases hck
end Go.Proofs.Ytlpbalebodlipaa.Pure

namespace Go.Proofs.Ytlpbalebodlipaa.fnLabelsFar
open Go.ChangeShapes Go.WideShapes Go.ChangeAt Go.RowKit
open Go.ChangeMaps (open_string shut_string)
set_option linter.unusedVariables false
theorem own : ownKnob Try.prog.godebug = none := by kernel_rfl
theorem laidOut : laidOutB Try.prog = true := by kernel_rfl
def IsRow (k : IntKind) (w : World) (a : Option Addr) (len cap : Nat) (zs : List Int) : Prop :=
 (a = none ∧ len = 0 ∧ cap = 0 ∧ zs = []) ∨
 ∃ x, a = some x ∧ len ≤ cap ∧ cap ≤ maxLen ∧ zs.length = cap ∧ (∀ i, i < zs.length → w.cell? (x.add i) = some (.int k (zs.getD i 0))) ∧ ∀ n ∈ zs, (Lit.int k n).wf = true
set_option maxRecDepth 100000 in
theorem lifted (os : Os) (started : os.Started) (H : Type) (enc : TypeId × Value → H) :
  ReturnsInHanded {} Try.checked os 7 .any (Rows.fnLabelsFarSpec.pre6 enc Try.prog Try.f7 Rows.fnLabelsFarRow.domain false) (Rows.fnLabelsFarSpec.post enc Try.prog Try.f7 false true false false) := by
 refine returnsInHanded_of_change_sized (C := Try.checked) own started (by kernel_rfl) Try.func7
  (ChangeSpec.witness6 (enc := enc) (C := Try.checked) false ⟨#[], #[.slice none 0 0], []⟩ 8 (by kernel_rfl) (by kernel_rfl) (by kernel_rfl) (by kernel_rfl)) ?_
 intro W base args ds gs before hval0 hW hcnd hsz0 _
 have hsz : (DataW.weightsEach Try.prog (Try.f7.params.toList ++ Rows.fnLabelsFarSpec.plain.varTypes Try.prog) (ds ++ gs)).all (· ≤ reachBytes) = true := hsz0
 have hval : ∀ (j : Nat) t v, Try.f7.params[j]? = some t → args[j]? = some v → Value.okWide Try.prog W .any base t v := hval0
 have hW' := hW
 obtain ⟨p, q, hA0, hV, rfl, hfz, hnd⟩ := hW
 have hA : DataW.TrodAll enc Try.prog W 0 (fun _ => true) true Try.f7.params.toList args.toList ds p := hA0
 rw [Try.params7] at hA hval hsz
 obtain ⟨v0, vs0, d0, ds0, p0, q0, hargs, rfl, rfl, h0, r0⟩ := trodAll_cons hA
 obtain ⟨rfl, rfl, rfl⟩ := trodAll_nil r0
 obtain rfl : args = #[v0] := by cases args; simp_all
 obtain ⟨rfl, rfl⟩ := trodVars_none hV
 obtain ⟨a0, len0, cap0, rfl⟩ := okWide_slice Try.underlying22 (hval 0 22 v0 rfl rfl)
 have k0 := h0
 have lt0 : ∀ x ∈ p0, x.block < W.heap.size := by obtain ⟨m, hm⟩ := k0; exact DataW.trod_lt m _ _ _ hm
 obtain ⟨z0, w0⟩ : ∃ zs, IsRow .u8 W a0 len0 cap0 zs := by
  obtain ⟨fuel, hf⟩ := h0
  rcases open_ints Try.underlying22 Try.underlying5 (by kernel_rfl) hf with ⟨hcs, _⟩ | ⟨x, l, c, zs, hcs, _, hl, hm, hz, _, hcell, hwz⟩
  ·
   simp [Value.cells] at hcs
   obtain ⟨rfl, rfl, rfl⟩ := hcs
   exact ⟨[], .inl ⟨rfl, rfl, rfl, rfl⟩⟩
  ·
   simp [Value.cells] at hcs
   obtain ⟨rfl, rfl, rfl⟩ := hcs
   exact ⟨zs, .inr ⟨_, rfl, hl, hm, by simpa using hz, hcell, hwz⟩⟩
 have y0 : len0 * 1 ≤ 140737488351232 := Go.Proofs.YtlpbalebodlipaaW.PrintWords.sized_ints hsz (j := 0) (t := 22) rfl rfl Try.underlying22 Try.underlying5 (by kernel_rfl) (by kernel_rfl) h0
 clear hA0 hval0 hsz0 hsz
 refine (PK.laws_FnLabelsFar.walk Pure.FnLabelsFar a0 len0 cap0 z0 W w0 y0).mono fun e W' ⟨he, bel⟩ => ?_
 subst he
 exact ⟨_, rfl, _, _, _, [], _, [], hW', trodAll_mk1 (shut_bool Try.underlying4 _), (trodAll_cons_mk (Below.trod laidOut (by kernel_rfl) (of_decide_eq_true (by kernel_rfl)) k0 bel lt0) trodAll_mk0), rfl, bel.frame _, fun h => by cases h⟩
theorem over : Rows.fnLabelsFarRow.holds Try.pinned (OpenSpec.ofChange Rows.fnLabelsFarSpec) :=
 OpenClaim.holds_of_wide 7 Try.f7 rfl rfl rfl rfl rfl rfl rfl ⟨rfl, rfl, rfl, rfl, rfl⟩ rfl rfl rfl rfl rfl (by kernel_rfl) Try.func7 (by kernel_rfl)
  (of_decide_eq_true (by kernel_rfl)) (by unfold Func.isWrapper; first | (rw [if_pos (by decide +kernel)]; kernel_rfl) | (rw [if_neg (by decide +kernel)]; exact ⟨rfl, rfl⟩))
  (fun os started H enc _ => lifted os started H enc)
theorem proved : Rows.FnLabelsFarSaid := over
#print axioms proved
end Go.Proofs.Ytlpbalebodlipaa.fnLabelsFar
namespace Go.Proofs.Ytlpbalebodlipaa
theorem fnLabelsFar_holds : Rows.FnLabelsFarSaid := fnLabelsFar.proved
end Go.Proofs.Ytlpbalebodlipaa
