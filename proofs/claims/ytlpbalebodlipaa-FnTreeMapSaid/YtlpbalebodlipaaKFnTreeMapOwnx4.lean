/- For every list of bytes, the law FnTreeMap answers true: for the tree that it draws, TreeMap of the program answers what the reference answers, and a valid tree's map is a planar gluing of genus 0 that its steps do not change. There are no conditions. -/
import Derived.Test.YtlpbalebodlipaaKFnTreeMapOwnx3
namespace Go.Proofs.Ytlpbalebodlipaa.PG
open Go.RowKit Go.Proofs.YtlpbalebodlipaaW.PrintWords Go.Proofs.YtlpbalebodlipaaW.PrintLast Go.Proofs.YtlpbalebodlipaaW.PrintMore
attribute [local go_sem] max2_int min2_int max_two min_two max_three min_three max_four min_four   -- for this text's walks alone
set_option linter.unusedVariables false
set_option linter.unusedSimpArgs false
def laws_FnTreeMap.j0 : Nat → Bool → Bool → Bool → ByteArray → List Int → List Int → List Int → List Int → List Int → Option (Bool)
 | 0, _, _, _, _, _, _, _, _, _ => none
 | k + 1, x5, x7, x39, xZ0, xZ1, xZ2, xZ3, xZ4, xZ5 => if x39 = true then (if (x5 == x7) = true then ((laws_sameMap.f k xZ2 xZ3 xZ4 xZ5).bind fun t437 => (some t437)) else (some false)) else ((impl_GluingOf.f k xZ2 xZ3 0).bind fun bt438 => (if 0 ≤ (xZ1.length : Int) then (if ((xZ1.length : Int) : Int).toNat ≤ 35184372088832 then ((impl_TreeMap.f k xZ0 (List.replicate ((xZ1.length : Int) : Int).toNat 0)).bind fun bt445 => (if bt438.2 = true then (if bt445.2.2 = true then ((laws_sameInts.f k bt438.1 xZ3).bind fun t453 => (if t453 = true then ((impl_GluingPlanar.f k bt438.1).bind fun t454 => (if t454 = true then ((impl_MapGenus.f k xZ2 xZ3).bind fun t455 => (if t455 = 0 then ((laws_sameMap.f k bt445.1 bt445.2.1 xZ2 xZ3).bind fun t456 => (some t456)) else (some false))) else (some false))) else (some false))) else (some false)) else (some false))) else (none)) else (none)))
def laws_FnTreeMap.f (k : Nat) (l0 : List Int) : Option (Bool) := if (l0.length : Int) > 1048576 then (some true) else ((spec_DrawTreeMap.f k l0).bind fun bt415 => ((impl_TreeMap.f k bt415.1 bt415.2).bind fun bt420 => ((spec_TreeMap.f k bt415.1 bt415.2).bind fun bt428 => (if (bt420.2.2 != bt428.2.2) = true then (laws_FnTreeMap.j0 k bt420.2.2 bt428.2.2 true bt415.1 bt415.2 bt420.1 bt420.2.1 bt428.1 bt428.2.1) else ((laws_sameMap.f k bt420.1 bt420.2.1 bt428.1 bt428.2.1).bind fun t436 => (if t436 = true then (laws_FnTreeMap.j0 k bt420.2.2 bt428.2.2 (!bt420.2.2) bt415.1 bt415.2 bt420.1 bt420.2.1 bt428.1 bt428.2.1) else (laws_FnTreeMap.j0 k bt420.2.2 bt428.2.2 true bt415.1 bt415.2 bt420.1 bt420.2.1 bt428.1 bt428.2.1)))))))
theorem laws_FnTreeMap.mono_l : ∀ k, (∀ y0 y1 y2 y3 y4 y5 y6 y7 y8, LeO (laws_FnTreeMap.j0 k y0 y1 y2 y3 y4 y5 y6 y7 y8) (laws_FnTreeMap.j0 (k + 1) y0 y1 y2 y3 y4 y5 y6 y7 y8))
 | 0 => fun _ _ _ _ _ _ _ _ _ r h => by simp [laws_FnTreeMap.j0] at h
 | k + 1 => by
  have ih0 := laws_FnTreeMap.mono_l k
  ·
   intro y0 y1 y2 y3 y4 y5 y6 y7 y8
   unfold laws_FnTreeMap.j0
   repeat' first
   | (with_reducible exact ih0 _ _ _ _ _ _ _ _ _)
   | (with_reducible exact impl_GluingOf.mono _ _ _ _)
   | (with_reducible exact impl_GluingPlanar.mono _ _)
   | (with_reducible exact impl_MapGenus.mono _ _ _)
   | (with_reducible exact impl_TreeMap.mono _ _ _)
   | (with_reducible exact laws_sameInts.mono _ _ _)
   | (with_reducible exact laws_sameMap.mono _ _ _ _ _)
   | (with_reducible exact spec_DrawTreeMap.mono _ _)
   | (with_reducible exact spec_TreeMap.mono _ _ _)
   | (with_reducible exact LeO.refl _)
   | (with_reducible exact LeO.none _)
   | (with_reducible refine LeO.ite ?_ ?_)
   | (with_reducible refine LeO.bind ?_ (fun _ => ?_))
   | exact ih0 _ _ _ _ _ _ _ _ _
   | exact impl_GluingOf.mono _ _ _ _
   | exact impl_GluingPlanar.mono _ _
   | exact impl_MapGenus.mono _ _ _
   | exact impl_TreeMap.mono _ _ _
   | exact laws_sameInts.mono _ _ _
   | exact laws_sameMap.mono _ _ _ _ _
   | exact spec_DrawTreeMap.mono _ _
   | exact spec_TreeMap.mono _ _ _
   | exact LeO.none _
   | refine LeO.ite ?_ ?_
   | refine LeO.bind ?_ (fun _ => ?_)
def laws_FnTreeMap.T9 : Bool × List (List Nat × List Nat) := (true, [([], []), ([0], [0]), ([], []), ([2], [2]), ([3], [3]), ([4, 4], [4]), ([1, 5], [1, 5]), ([6], [6]), ([7], [7]), ([8], [8]), ([8], [8]), ([], []), ([11, 9, 7, 0, 1, 2, 3, 4, 5, 6, 7, 8, 9, 11], [9, 11]), ([10, 12, 0, 1, 2, 3, 4, 5, 6, 7, 8, 9, 10, 11, 12], [10])])
def laws_FnTreeMap.B9 : List Nat := [0, 1, 0, 4, 12, 28, 63, 127, 255, 511, 511, 0, 3071, 8191]
theorem laws_FnTreeMap.tab9 : rtab .any (opsOf Try.f6 9) = laws_FnTreeMap.T9 := by kernel_rfl
theorem laws_FnTreeMap.bits9 : waitsOk laws_FnTreeMap.T9.2 laws_FnTreeMap.B9 = true := by kernel_rfl
set_option maxHeartbeats 8000000 in
set_option maxRecDepth 100000 in
theorem laws_FnTreeMap.calls (k : Nat) (A0 : Option Addr) (c0 : Nat) (l0 : List Int) (r : Bool) (w : World) (hr0 : Kd.C (Kd.int .u8) w A0 l0.length l0) (hc0 : l0.length ≤ c0) (h : laws_FnTreeMap.f k l0 = some r) :
  Calls Try.prog 6 #[.slice A0 l0.length c0] w fun e w' => e = .returned (.bool r) ∧ Below w.heap.size w w' := by
 have hu25 := Try.underlying25; have hu29 := Try.underlying29; have HR0 := Az hr0; have HC0 := Az hc0; clear hr0 hc0; have HB := Az (Below.refl w.heap.size w); have H : (if (l0.length : Int) > 1048576 then (some true) else ((spec_DrawTreeMap.f k l0).bind fun bt415 => ((impl_TreeMap.f k bt415.1 bt415.2).bind fun bt420 => ((spec_TreeMap.f k bt415.1 bt415.2).bind fun bt428 => (if (bt420.2.2 != bt428.2.2) = true then (laws_FnTreeMap.j0 k bt420.2.2 bt428.2.2 true bt415.1 bt415.2 bt420.1 bt420.2.1 bt428.1 bt428.2.1) else ((laws_sameMap.f k bt420.1 bt420.2.1 bt428.1 bt428.2.1).bind fun t436 => (if t436 = true then (laws_FnTreeMap.j0 k bt420.2.2 bt428.2.2 (!bt420.2.2) bt415.1 bt415.2 bt420.1 bt420.2.1 bt428.1 bt428.2.1) else (laws_FnTreeMap.j0 k bt420.2.2 bt428.2.2 true bt415.1 bt415.2 bt420.1 bt420.2.1 bt428.1 bt428.2.1)))))))) = some r := h; clear h
 by_cases c2 : (l0.length : Int) > 1048576
 ·
  rw [if_pos c2] at H; have c2b0 := decide_eq_true c2; have c2b1 : decide (1048576 < l0.length) = true := decide_eq_true (by omega); clear c2; obtain rfl := Option.some.inj H
  go_enter Try.func6, Try.ntmps6
  go_wp2
  go_ret
  exact ⟨rE, bU0 HB.out⟩
 ·
  rw [if_neg c2] at H; have c2b0 := decide_eq_false c2; have c2b1 : decide (1048576 < l0.length) = false := decide_eq_false (by omega); clear c2; replace H := Option.bind_eq_some_iff.mp H; obtain ⟨⟨t415, t416⟩, A30, H⟩ := H; replace H : ((impl_TreeMap.f k t415 t416).bind fun bt420 => ((spec_TreeMap.f k t415 t416).bind fun bt428 => (if (bt420.2.2 != bt428.2.2) = true then (laws_FnTreeMap.j0 k bt420.2.2 bt428.2.2 true t415 t416 bt420.1 bt420.2.1 bt428.1 bt428.2.1) else ((laws_sameMap.f k bt420.1 bt420.2.1 bt428.1 bt428.2.1).bind fun t436 => (if t436 = true then (laws_FnTreeMap.j0 k bt420.2.2 bt428.2.2 (!bt420.2.2) t415 t416 bt420.1 bt420.2.1 bt428.1 bt428.2.1) else (laws_FnTreeMap.j0 k bt420.2.2 bt428.2.2 true t415 t416 bt420.1 bt420.2.1 bt428.1 bt428.2.1)))))) = some r := H; have A3 := Az A30; clear A30; replace H := Option.bind_eq_some_iff.mp H; obtain ⟨⟨t420, t423, t426⟩, A40, H⟩ := H; replace H : ((spec_TreeMap.f k t415 t416).bind fun bt428 => (if (t426 != bt428.2.2) = true then (laws_FnTreeMap.j0 k t426 bt428.2.2 true t415 t416 t420 t423 bt428.1 bt428.2.1) else ((laws_sameMap.f k t420 t423 bt428.1 bt428.2.1).bind fun t436 => (if t436 = true then (laws_FnTreeMap.j0 k t426 bt428.2.2 (!t426) t415 t416 t420 t423 bt428.1 bt428.2.1) else (laws_FnTreeMap.j0 k t426 bt428.2.2 true t415 t416 t420 t423 bt428.1 bt428.2.1))))) = some r := H; have A4 := Az A40; clear A40; replace H := Option.bind_eq_some_iff.mp H; obtain ⟨⟨t428, t431, t434⟩, A50, H⟩ := H; replace H : (if (t426 != t434) = true then (laws_FnTreeMap.j0 k t426 t434 true t415 t416 t420 t423 t428 t431) else ((laws_sameMap.f k t420 t423 t428 t431).bind fun t436 => (if t436 = true then (laws_FnTreeMap.j0 k t426 t434 (!t426) t415 t416 t420 t423 t428 t431) else (laws_FnTreeMap.j0 k t426 t434 true t415 t416 t420 t423 t428 t431)))) = some r := H; have A5 := Az A50; clear A50; have HC6 := Az H; clear H
  go_enter Try.func6, Try.ntmps6
  go_upto_region 6 with (first | ((with_reducible refine gate_callee (f := 38) rfl ?_); refine goesL_ (some 16) rfl rfl Try.func38 (by kernel_rfl) rfl #[.slice A0 l0.length c0] rfl (by (try simp only [List.map_toArray, List.map_cons, List.map_nil]); first | done | rfl | (simp only [List.length_drop, List.length_take]; rfl)) ?_; (with_reducible refine (spec_DrawTreeMap.calls k _ _ l0 t415 t416 _ ?side1 ?side2 A3.out).mono ?_); (case side1 => exact cU (HR0.out)); (case side2 => exact HC0.out); rintro e w7 ⟨v417, rfl, ho0, hb⟩; refine ⟨_, rfl, ?_⟩; have n0 := Az (Kd.Q_lower ho0 (below_size (bU0 HB.out))); have n1 := Az (below_step (bU0 HB.out) hb); clear HB; have HO418 := n0; have HB := n1; clear n0 n1; (try clear hb); (try clear hb2); (try clear hk); (try clear hi); (try clear ho0)) | ((with_reducible refine gate_dst (N := 3) rfl ?_); refine box_event ?hg (N := 3) ?hd (cs := #[.string (⟨#[]⟩ : ByteArray), .slice none 0 0]) (t := 25) ?hr ?_; (case hd => rfl); (case hg => rfl); (case hr => first | (go_simp; done) | (go_simp; rfl)); intro gb419 hg w8 hbox hb; have n0 := Az (Kd.Q_below (qU HO418.out) hb); have n1 := Az (below_step (bU0 HB.out) hb); have n2 := Az (hbox); have n3 := Az ((by rw [hg]; exact (below_size (bU0 HB.out)) : w.heap.size ≤ gb419)); have n4 := n3; clear HO418 HB; have HO418 := n0; have HB := n1; have BK419 := n2; have GW419 := n3; have GE419 := n4; clear n0 n1 n2 n3 n4 hb hbox hg; have hcz9_0 : w8.cell? ⟨gb419, 0, none⟩ = some (.string (⟨#[]⟩ : ByteArray)) := (blk_cell BK419.out 0).trans rfl; have hcz9_1 : w8.cell? ⟨gb419, 1, none⟩ = some (.slice none 0 0) := (blk_cell BK419.out 1).trans rfl; have hfz9_0 := blk_frozen BK419.out 0; have hfz9_1 := blk_frozen BK419.out 1; obtain ⟨Ao10, co10, eo10, _⟩ := Kd.Q_slice HO418.out; subst eo10) | ((with_reducible refine gate_callee (f := 18) rfl ?_); refine goesL_ (some 19) rfl rfl Try.func18 (by kernel_rfl) rfl #[.agg #[.string t415, .slice Ao10 t416.length co10]] rfl (by (try simp only [List.map_toArray, List.map_cons, List.map_nil]); first | done | rfl | (simp only [List.length_drop, List.length_take]; rfl)) ?_; (with_reducible refine (impl_TreeMap.calls k t415 _ _ t416 t420 t423 t426 _ ?side1 ?side2 A4.out).mono ?_); (case side1 => refine (Kd.Q_reads' (e := 3) (base := w.heap.size) (ok := fun k_ => True) (n := t416.length) (c := co10) ?_).2.2; exact (by (with_reducible repeat (first | apply Kd.Q_alloc | apply Kd.Q_drewN | apply Kd.Q_drew)); exact (Kd.Q_mono (Kd.Q_far (p := ⟨gb419, 1, none⟩) (Kd.Q_far (p := ⟨gb419, 0, none⟩) (Kd.Q_types HO418.out BK419.out (by decide)) (fun _ hk => hk.2) (.string t415)) (fun _ hk => hk.2) (.slice Ao10 t416.length co10)) (fun _ h_ => h_.1)))); (case side2 => exact (Kd.Q_reads' HO418.out).2.1); rintro e w11 ⟨v421, v424, rfl, ho0, ho1, hb⟩; refine ⟨_, rfl, ?_⟩; have n0 := Az (Kd.Q_mono (Kd.Q_told (Kd.Q_told (Kd.Q_old (by (with_reducible repeat (first | apply Kd.Q_alloc | apply Kd.Q_drewN | apply Kd.Q_drew)); exact (Kd.Q_mono (Kd.Q_far (p := ⟨gb419, 1, none⟩) (Kd.Q_far (p := ⟨gb419, 0, none⟩) (Kd.Q_types HO418.out BK419.out (by decide)) (fun _ hk => hk.2) (.string t415)) (fun _ hk => hk.2) (.slice Ao10 t416.length co10)) (fun _ h_ => h_.1))) hb) (Kd.R_base ho0)) (Kd.R_base ho1)) (fun _ h_ => h_.1)); have n1 := Az (Kd.R_lower (Kd.R_new' ho0 (Kd.Q_lt (by (with_reducible repeat (first | apply Kd.Q_alloc | apply Kd.Q_drewN | apply Kd.Q_drew)); exact (Kd.Q_mono (Kd.Q_far (p := ⟨gb419, 1, none⟩) (Kd.Q_far (p := ⟨gb419, 0, none⟩) (Kd.Q_types HO418.out BK419.out (by decide)) (fun _ hk => hk.2) (.string t415)) (fun _ hk => hk.2) (.slice Ao10 t416.length co10)) (fun _ h_ => h_.1))))) (below_size (bU1 HB.out GE419.out))); have n2 := Az (Kd.R_lower (Kd.R_new' ho1 (Kd.Q_lt (by (with_reducible repeat (first | apply Kd.Q_alloc | apply Kd.Q_drewN | apply Kd.Q_drew)); exact (Kd.Q_mono (Kd.Q_far (p := ⟨gb419, 1, none⟩) (Kd.Q_far (p := ⟨gb419, 0, none⟩) (Kd.Q_types HO418.out BK419.out (by decide)) (fun _ hk => hk.2) (.string t415)) (fun _ hk => hk.2) (.slice Ao10 t416.length co10)) (fun _ h_ => h_.1))))) (below_size (bU1 HB.out GE419.out))); have n3 := Az (blk_below (g := gb419) (o := .cells #[.string t415, .slice Ao10 t416.length co10] 25 (0, 0)) (by (with_reducible repeat (first | refine blk_drewN ?_ _ | refine blk_drew ?_ | refine blk_alloc ?_ _)); refine blk_put (cs := #[.string t415, .slice none 0 0]) ?_ 1 _ rfl; (with_reducible repeat (first | refine blk_drewN ?_ _ | refine blk_drew ?_ | refine blk_alloc ?_ _)); refine blk_put (cs := #[.string (⟨#[]⟩ : ByteArray), .slice none 0 0]) ?_ 0 _ rfl; (with_reducible repeat (first | refine blk_drewN ?_ _ | refine blk_drew ?_ | refine blk_alloc ?_ _)); exact BK419.out) hb); have n4 := Az (below_step (bU1 HB.out GE419.out) hb); clear HO418 BK419 HB; have HO418 := n0; have HO422 := n1; have HO425 := n2; have BK419 := n3; have HB := n4; clear n0 n1 n2 n3 n4; (try clear hb); (try clear hb2); (try clear hk); (try clear hi); (try clear ho0); (try clear ho1)) | ((with_reducible refine gate_dst (N := 4) rfl ?_); refine box_event ?hg (N := 4) ?hd (cs := #[.slice none 0 0, .slice none 0 0]) (t := 29) ?hr ?_; (case hd => rfl); (case hg => rfl); (case hr => first | (go_simp; done) | (go_simp; rfl)); intro gb427 hg w12 hbox hb; have n0 := Az (Kd.Q_below (qU HO418.out) hb); have n1 := Az (Kd.R_below (rU HO422.out) hb); have n2 := Az (Kd.R_below (rU HO425.out) hb); have n3 := Az (blk_below (g := gb419) (o := .cells #[.string t415, .slice Ao10 t416.length co10] 25 (0, 0)) (kU BK419.out) hb); have n4 := Az (below_step (bU1 HB.out GE419.out) hb); have n5 := Az (hbox); have n6 := Az ((by rw [hg]; exact (below_size (bU1 HB.out GE419.out)) : w.heap.size ≤ gb427)); have n7 := n6; have n8 := Az ((by rw [hg]; exact Nat.ne_of_lt (blk_lt (g := gb419) (o := .cells #[.string t415, .slice Ao10 t416.length co10] 25 (0, 0)) (kU BK419.out)) : gb419 ≠ gb427)); have n9 := Az ((by rw [hg]; exact Nat.ne_of_gt (blk_lt (g := gb419) (o := .cells #[.string t415, .slice Ao10 t416.length co10] 25 (0, 0)) (kU BK419.out)) : gb427 ≠ gb419)); clear HO418 HO422 HO425 BK419 HB; have HO418 := n0; have HO422 := n1; have HO425 := n2; have BK419 := n3; have HB := n4; have BK427 := n5; have GW427 := n6; have GE427 := n7; have NB419_427 := n8; have NB427_419 := n9; clear n0 n1 n2 n3 n4 n5 n6 n7 n8 n9 hb hbox hg; obtain ⟨Ao13, co13, eo13⟩ := Kd.R_slice HO422.out; subst eo13; have hnb14 := NB427_419.out; have hnc14 := NB419_427.out; have hcz15_0 : w12.cell? ⟨gb427, 0, none⟩ = some (.slice none 0 0) := (blk_cell BK427.out 0).trans rfl; have hcz15_1 : w12.cell? ⟨gb427, 1, none⟩ = some (.slice none 0 0) := (blk_cell BK427.out 1).trans rfl; have hfz15_0 := blk_frozen BK427.out 0; have hfz15_1 := blk_frozen BK427.out 1; obtain ⟨Ao16, co16, eo16⟩ := Kd.R_slice HO425.out; subst eo16; have hcz17_0 : w12.cell? ⟨gb419, 0, none⟩ = some (.string t415) := (blk_cell BK419.out 0).trans rfl; have hcz17_1 : w12.cell? ⟨gb419, 1, none⟩ = some (.slice Ao10 t416.length co10) := (blk_cell BK419.out 1).trans rfl; have hfz17_0 := blk_frozen BK419.out 0; have hfz17_1 := blk_frozen BK419.out 1) | ((with_reducible refine gate_callee (f := 39) rfl ?_); refine goesL_ (some 24) rfl rfl Try.func39 (by kernel_rfl) rfl #[.agg #[.string t415, .slice Ao10 t416.length co10]] rfl (by (try simp only [List.map_toArray, List.map_cons, List.map_nil]); first | done | rfl | (simp only [List.length_drop, List.length_take]; rfl)) ?_; (with_reducible refine (spec_TreeMap.calls k t415 _ _ t416 t428 t431 t434 _ ?side1 ?side2 A5.out).mono ?_); (case side1 => refine (Kd.Q_reads' (e := 3) (base := w.heap.size) (ok := fun k_ => ((True ∧ some k_ ≠ (.slice Ao13 t420.length co13 : Value).ownBlock) ∧ some k_ ≠ (.slice Ao16 t423.length co16 : Value).ownBlock)) (n := t416.length) (c := co10) ?_).2.2; exact (by (with_reducible repeat (first | apply Kd.Q_alloc | apply Kd.Q_drewN | apply Kd.Q_drew)); exact (Kd.Q_mono (Kd.Q_far (p := ⟨gb427, 1, none⟩) (Kd.Q_far (p := ⟨gb427, 0, none⟩) (Kd.Q_types HO418.out BK427.out (by decide)) (fun _ hk => hk.2) (.slice Ao13 t420.length co13)) (fun _ hk => hk.2) (.slice Ao16 t423.length co16)) (fun _ h_ => h_.1)))); (case side2 => exact (Kd.Q_reads' HO418.out).2.1); rintro e w18 ⟨v429, v432, rfl, ho0, ho1, hb⟩; refine ⟨_, rfl, ?_⟩; have n0 := Az (Kd.Q_mono (Kd.Q_told (Kd.Q_told (Kd.Q_old (by (with_reducible repeat (first | apply Kd.Q_alloc | apply Kd.Q_drewN | apply Kd.Q_drew)); exact (Kd.Q_mono (Kd.Q_far (p := ⟨gb427, 1, none⟩) (Kd.Q_far (p := ⟨gb427, 0, none⟩) (Kd.Q_types HO418.out BK427.out (by decide)) (fun _ hk => hk.2) (.slice Ao13 t420.length co13)) (fun _ hk => hk.2) (.slice Ao16 t423.length co16)) (fun _ h_ => h_.1))) hb) (Kd.R_base ho0)) (Kd.R_base ho1)) (fun _ h_ => h_.1)); have n1 := Az (Kd.R_mono (Kd.R_told (Kd.R_told (Kd.R_old (by (with_reducible repeat (first | apply Kd.R_alloc | apply Kd.R_drewN | apply Kd.R_drew)); exact (Kd.R_mono (Kd.R_far (p := ⟨gb427, 1, none⟩) (Kd.R_far (p := ⟨gb427, 0, none⟩) (Kd.R_types HO422.out BK427.out (by decide)) (fun _ hk => hk.2) (.slice Ao13 t420.length co13)) (fun _ hk => hk.2) (.slice Ao16 t423.length co16)) (fun _ h_ => h_.1))) hb) (Kd.R_base ho0)) (Kd.R_base ho1)) (fun _ h_ => h_.1)); have n2 := Az (Kd.R_mono (Kd.R_told (Kd.R_told (Kd.R_old (by (with_reducible repeat (first | apply Kd.R_alloc | apply Kd.R_drewN | apply Kd.R_drew)); exact (Kd.R_mono (Kd.R_far (p := ⟨gb427, 1, none⟩) (Kd.R_far (p := ⟨gb427, 0, none⟩) (Kd.R_types HO425.out BK427.out (by decide)) (fun _ hk => hk.2) (.slice Ao13 t420.length co13)) (fun _ hk => hk.2) (.slice Ao16 t423.length co16)) (fun _ h_ => h_.1))) hb) (Kd.R_base ho0)) (Kd.R_base ho1)) (fun _ h_ => h_.1)); have n3 := Az (Kd.R_lower (Kd.R_new' (Kd.R_new' (Kd.R_new' ho0 (Kd.Q_lt (by (with_reducible repeat (first | apply Kd.Q_alloc | apply Kd.Q_drewN | apply Kd.Q_drew)); exact (Kd.Q_mono (Kd.Q_far (p := ⟨gb427, 1, none⟩) (Kd.Q_far (p := ⟨gb427, 0, none⟩) (Kd.Q_types HO418.out BK427.out (by decide)) (fun _ hk => hk.2) (.slice Ao13 t420.length co13)) (fun _ hk => hk.2) (.slice Ao16 t423.length co16)) (fun _ h_ => h_.1))))) (Kd.R_lt (by (with_reducible repeat (first | apply Kd.R_alloc | apply Kd.R_drewN | apply Kd.R_drew)); exact (Kd.R_mono (Kd.R_far (p := ⟨gb427, 1, none⟩) (Kd.R_far (p := ⟨gb427, 0, none⟩) (Kd.R_types HO422.out BK427.out (by decide)) (fun _ hk => hk.2) (.slice Ao13 t420.length co13)) (fun _ hk => hk.2) (.slice Ao16 t423.length co16)) (fun _ h_ => h_.1))))) (Kd.R_lt (by (with_reducible repeat (first | apply Kd.R_alloc | apply Kd.R_drewN | apply Kd.R_drew)); exact (Kd.R_mono (Kd.R_far (p := ⟨gb427, 1, none⟩) (Kd.R_far (p := ⟨gb427, 0, none⟩) (Kd.R_types HO425.out BK427.out (by decide)) (fun _ hk => hk.2) (.slice Ao13 t420.length co13)) (fun _ hk => hk.2) (.slice Ao16 t423.length co16)) (fun _ h_ => h_.1))))) (below_size (bU2 HB.out GE419.out GE427.out))); have n4 := Az (Kd.R_lower (Kd.R_new' (Kd.R_new' (Kd.R_new' ho1 (Kd.Q_lt (by (with_reducible repeat (first | apply Kd.Q_alloc | apply Kd.Q_drewN | apply Kd.Q_drew)); exact (Kd.Q_mono (Kd.Q_far (p := ⟨gb427, 1, none⟩) (Kd.Q_far (p := ⟨gb427, 0, none⟩) (Kd.Q_types HO418.out BK427.out (by decide)) (fun _ hk => hk.2) (.slice Ao13 t420.length co13)) (fun _ hk => hk.2) (.slice Ao16 t423.length co16)) (fun _ h_ => h_.1))))) (Kd.R_lt (by (with_reducible repeat (first | apply Kd.R_alloc | apply Kd.R_drewN | apply Kd.R_drew)); exact (Kd.R_mono (Kd.R_far (p := ⟨gb427, 1, none⟩) (Kd.R_far (p := ⟨gb427, 0, none⟩) (Kd.R_types HO422.out BK427.out (by decide)) (fun _ hk => hk.2) (.slice Ao13 t420.length co13)) (fun _ hk => hk.2) (.slice Ao16 t423.length co16)) (fun _ h_ => h_.1))))) (Kd.R_lt (by (with_reducible repeat (first | apply Kd.R_alloc | apply Kd.R_drewN | apply Kd.R_drew)); exact (Kd.R_mono (Kd.R_far (p := ⟨gb427, 1, none⟩) (Kd.R_far (p := ⟨gb427, 0, none⟩) (Kd.R_types HO425.out BK427.out (by decide)) (fun _ hk => hk.2) (.slice Ao13 t420.length co13)) (fun _ hk => hk.2) (.slice Ao16 t423.length co16)) (fun _ h_ => h_.1))))) (below_size (bU2 HB.out GE419.out GE427.out))); have n5 := Az (blk_below (g := gb419) (o := .cells #[.string t415, .slice Ao10 t416.length co10] 25 (0, 0)) (by (with_reducible repeat (first | refine blk_drewN ?_ _ | refine blk_drew ?_ | refine blk_alloc ?_ _)); refine blk_far ?_ NB419_427.out _; (with_reducible repeat (first | refine blk_drewN ?_ _ | refine blk_drew ?_ | refine blk_alloc ?_ _)); refine blk_far ?_ NB419_427.out _; (with_reducible repeat (first | refine blk_drewN ?_ _ | refine blk_drew ?_ | refine blk_alloc ?_ _)); exact BK419.out) hb); have n6 := Az (blk_below (g := gb427) (o := .cells #[.slice Ao13 t420.length co13, .slice Ao16 t423.length co16] 29 (0, 0)) (by (with_reducible repeat (first | refine blk_drewN ?_ _ | refine blk_drew ?_ | refine blk_alloc ?_ _)); refine blk_put (cs := #[.slice Ao13 t420.length co13, .slice none 0 0]) ?_ 1 _ rfl; (with_reducible repeat (first | refine blk_drewN ?_ _ | refine blk_drew ?_ | refine blk_alloc ?_ _)); refine blk_put (cs := #[.slice none 0 0, .slice none 0 0]) ?_ 0 _ rfl; (with_reducible repeat (first | refine blk_drewN ?_ _ | refine blk_drew ?_ | refine blk_alloc ?_ _)); exact BK427.out) hb); have n7 := Az (below_step (bU2 HB.out GE419.out GE427.out) hb); clear HO418 HO422 HO425 BK419 BK427 HB; have HO418 := n0; have HO422 := n1; have HO425 := n2; have HO430 := n3; have HO433 := n4; have BK419 := n5; have BK427 := n6; have HB := n7; clear n0 n1 n2 n3 n4 n5 n6 n7; (try clear hb); (try clear hb2); (try clear hk); (try clear hi); (try clear ho0); (try clear ho1)) | ((with_reducible refine gate_dst (N := 6) rfl ?_); refine box_event ?hg (N := 6) ?hd (cs := #[.slice none 0 0, .slice none 0 0]) (t := 29) ?hr ?_; (case hd => rfl); (case hg => rfl); (case hr => first | (go_simp; done) | (go_simp; rfl)); intro gb435 hg w19 hbox hb; have n0 := Az (Kd.Q_below (qU HO418.out) hb); have n1 := Az (Kd.R_below (rU HO422.out) hb); have n2 := Az (Kd.R_below (rU HO425.out) hb); have n3 := Az (Kd.R_below (rU HO430.out) hb); have n4 := Az (Kd.R_below (rU HO433.out) hb); have n5 := Az (blk_below (g := gb419) (o := .cells #[.string t415, .slice Ao10 t416.length co10] 25 (0, 0)) (kU BK419.out) hb); have n6 := Az (blk_below (g := gb427) (o := .cells #[.slice Ao13 t420.length co13, .slice Ao16 t423.length co16] 29 (0, 0)) (kU BK427.out) hb); have n7 := Az (below_step (bU2 HB.out GE419.out GE427.out) hb); have n8 := Az (hbox); have n9 := Az ((by rw [hg]; exact (below_size (bU2 HB.out GE419.out GE427.out)) : w.heap.size ≤ gb435)); have n10 := n9; have n11 := Az ((by rw [hg]; exact Nat.ne_of_lt (blk_lt (g := gb419) (o := .cells #[.string t415, .slice Ao10 t416.length co10] 25 (0, 0)) (kU BK419.out)) : gb419 ≠ gb435)); have n12 := Az ((by rw [hg]; exact Nat.ne_of_gt (blk_lt (g := gb419) (o := .cells #[.string t415, .slice Ao10 t416.length co10] 25 (0, 0)) (kU BK419.out)) : gb435 ≠ gb419)); have n13 := Az ((by rw [hg]; exact Nat.ne_of_lt (blk_lt (g := gb427) (o := .cells #[.slice Ao13 t420.length co13, .slice Ao16 t423.length co16] 29 (0, 0)) (kU BK427.out)) : gb427 ≠ gb435)); have n14 := Az ((by rw [hg]; exact Nat.ne_of_gt (blk_lt (g := gb427) (o := .cells #[.slice Ao13 t420.length co13, .slice Ao16 t423.length co16] 29 (0, 0)) (kU BK427.out)) : gb435 ≠ gb427)); clear HO418 HO422 HO425 HO430 HO433 BK419 BK427 HB; have HO418 := n0; have HO422 := n1; have HO425 := n2; have HO430 := n3; have HO433 := n4; have BK419 := n5; have BK427 := n6; have HB := n7; have BK435 := n8; have GW435 := n9; have GE435 := n10; have NB419_435 := n11; have NB435_419 := n12; have NB427_435 := n13; have NB435_427 := n14; clear n0 n1 n2 n3 n4 n5 n6 n7 n8 n9 n10 n11 n12 n13 n14 hb hbox hg; obtain ⟨Ao20, co20, eo20⟩ := Kd.R_slice HO430.out; subst eo20; have hnb21 := NB435_419.out; have hnc21 := NB419_435.out; have hnb22 := NB435_427.out; have hnc22 := NB427_435.out; have hcz23_0 : w19.cell? ⟨gb435, 0, none⟩ = some (.slice none 0 0) := (blk_cell BK435.out 0).trans rfl; have hcz23_1 : w19.cell? ⟨gb435, 1, none⟩ = some (.slice none 0 0) := (blk_cell BK435.out 1).trans rfl; have hfz23_0 := blk_frozen BK435.out 0; have hfz23_1 := blk_frozen BK435.out 1; obtain ⟨Ao24, co24, eo24⟩ := Kd.R_slice HO433.out; subst eo24))
  (try simp only [Act.put, List.setIfInBounds_toArray, List.set_cons_zero, List.set_cons_succ])
  go_cut [39] (fun v39 wc => ∃ (kq : Nat) (x39_5 : Bool), v39 = .bool x39_5 ∧ Aside0 (laws_FnTreeMap.j0 kq t426 t434 x39_5 t415 t416 t420 t423 t428 t431 = some r) ∧ Aside0 (kq ≤ k) ∧ Aside0 (Kd.Q (Kd.int .i64) 3 wc w.heap.size (fun k_ => some k_ ≠ ((.slice Ao13 t420.length co13) : Value).ownBlock ∧ some k_ ≠ ((.slice Ao16 t423.length co16) : Value).ownBlock ∧ some k_ ≠ ((.slice Ao20 t428.length co20) : Value).ownBlock ∧ some k_ ≠ ((.slice Ao24 t431.length co24) : Value).ownBlock) (.slice Ao10 t416.length co10) t416) ∧ Aside0 (Kd.R (Kd.int .i64) 3 wc w.heap.size (fun k_ => some k_ ≠ ((.slice Ao10 t416.length co10) : Value).ownBlock ∧ some k_ ≠ ((.slice Ao16 t423.length co16) : Value).ownBlock ∧ some k_ ≠ ((.slice Ao20 t428.length co20) : Value).ownBlock ∧ some k_ ≠ ((.slice Ao24 t431.length co24) : Value).ownBlock) (.slice Ao13 t420.length co13) t420) ∧ Aside0 (Kd.R (Kd.int .i64) 3 wc w.heap.size (fun k_ => some k_ ≠ ((.slice Ao10 t416.length co10) : Value).ownBlock ∧ some k_ ≠ ((.slice Ao13 t420.length co13) : Value).ownBlock ∧ some k_ ≠ ((.slice Ao20 t428.length co20) : Value).ownBlock ∧ some k_ ≠ ((.slice Ao24 t431.length co24) : Value).ownBlock) (.slice Ao16 t423.length co16) t423) ∧ Aside0 (Kd.R (Kd.int .i64) 3 wc w.heap.size (fun k_ => some k_ ≠ ((.slice Ao10 t416.length co10) : Value).ownBlock ∧ some k_ ≠ ((.slice Ao13 t420.length co13) : Value).ownBlock ∧ some k_ ≠ ((.slice Ao16 t423.length co16) : Value).ownBlock ∧ some k_ ≠ ((.slice Ao24 t431.length co24) : Value).ownBlock) (.slice Ao20 t428.length co20) t428) ∧ Aside0 (Kd.R (Kd.int .i64) 3 wc w.heap.size (fun k_ => some k_ ≠ ((.slice Ao10 t416.length co10) : Value).ownBlock ∧ some k_ ≠ ((.slice Ao13 t420.length co13) : Value).ownBlock ∧ some k_ ≠ ((.slice Ao16 t423.length co16) : Value).ownBlock ∧ some k_ ≠ ((.slice Ao20 t428.length co20) : Value).ownBlock) (.slice Ao24 t431.length co24) t431) ∧ Aside0 (wc.heap[gb419]? = some (.cells #[.string t415, (.slice Ao10 t416.length co10)] 25 (0, 0))) ∧ Aside0 (wc.heap[gb427]? = some (.cells #[(.slice Ao13 t420.length co13), (.slice Ao16 t423.length co16)] 29 (0, 0))) ∧ Aside0 (wc.heap[gb435]? = some (.cells #[(.slice Ao20 t428.length co20), (.slice Ao24 t431.length co24)] 29 (0, 0))) ∧ Aside0 (Below w.heap.size w wc))
  case first =>
   have H := HC6.out; clear HC6
   by_cases c25 : (t426 != t434) = true
   ·
    rw [if_pos c25] at H; have c25b0 : (t426 != t434) = true := c25; (try (have c25b1 : decide (t426 = t434) = false := by simpa using c25)); (try (have c25b2 : (t426 == t434) = false := by simpa using c25)); (try (have c25b3 : ¬ (t426 = t434) := by simpa using c25)); clear c25; (first | rw [c25b0] | (simp only [i64_w, i32_w]; rw [c25b0]) | skip); have H' := Az H; clear H
    go_wp2
    go_meet
    case rel => exact ⟨_, (true), rS, H', ⟨by first | omega | exact Nat.le_refl _⟩, ⟨by (with_reducible repeat (first | apply Kd.Q_alloc | apply Kd.Q_drewN | apply Kd.Q_drew)); exact Kd.Q_mono (Kd.Q_far (p := ⟨gb435, 1, none⟩) (Kd.Q_far (p := ⟨gb435, 0, none⟩) (Kd.Q_types HO418.out BK435.out (by decide)) (fun _ hk => hk.2) (.slice Ao20 t428.length co20)) (fun _ hk => hk.2) (.slice Ao24 t431.length co24)) (fun _ hk => ⟨hk.1.1.1.1.2, ⟨hk.1.1.1.2, ⟨hk.1.1.2, hk.1.2⟩⟩⟩)⟩, ⟨by (with_reducible repeat (first | apply Kd.R_alloc | apply Kd.R_drewN | apply Kd.R_drew)); exact Kd.R_mono (Kd.R_far (p := ⟨gb435, 1, none⟩) (Kd.R_far (p := ⟨gb435, 0, none⟩) (Kd.R_types HO422.out BK435.out (by decide)) (fun _ hk => hk.2) (.slice Ao20 t428.length co20)) (fun _ hk => hk.2) (.slice Ao24 t431.length co24)) (fun _ hk => ⟨hk.1.1.1.2, ⟨hk.1.1.1.1, ⟨hk.1.1.2, hk.1.2⟩⟩⟩)⟩, ⟨by (with_reducible repeat (first | apply Kd.R_alloc | apply Kd.R_drewN | apply Kd.R_drew)); exact Kd.R_mono (Kd.R_far (p := ⟨gb435, 1, none⟩) (Kd.R_far (p := ⟨gb435, 0, none⟩) (Kd.R_types HO425.out BK435.out (by decide)) (fun _ hk => hk.2) (.slice Ao20 t428.length co20)) (fun _ hk => hk.2) (.slice Ao24 t431.length co24)) (fun _ hk => ⟨hk.1.1.1.2, ⟨hk.1.1.1.1, ⟨hk.1.1.2, hk.1.2⟩⟩⟩)⟩, ⟨by (with_reducible repeat (first | apply Kd.R_alloc | apply Kd.R_drewN | apply Kd.R_drew)); exact Kd.R_mono (Kd.R_far (p := ⟨gb435, 1, none⟩) (Kd.R_far (p := ⟨gb435, 0, none⟩) (Kd.R_types HO430.out BK435.out (by decide)) (fun _ hk => hk.2) (.slice Ao20 t428.length co20)) (fun _ hk => hk.2) (.slice Ao24 t431.length co24)) (fun _ hk => ⟨hk.1.1.1.2, ⟨hk.1.1.2, ⟨hk.1.2, hk.1.1.1.1⟩⟩⟩)⟩, ⟨by (with_reducible repeat (first | apply Kd.R_alloc | apply Kd.R_drewN | apply Kd.R_drew)); exact Kd.R_mono (Kd.R_far (p := ⟨gb435, 1, none⟩) (Kd.R_far (p := ⟨gb435, 0, none⟩) (Kd.R_types HO433.out BK435.out (by decide)) (fun _ hk => hk.2) (.slice Ao20 t428.length co20)) (fun _ hk => hk.2) (.slice Ao24 t431.length co24)) (fun _ hk => ⟨hk.1.1.1.2, ⟨hk.1.1.2, ⟨hk.1.2, hk.1.1.1.1⟩⟩⟩)⟩, ⟨by (with_reducible repeat (first | refine blk_drewN ?_ _ | refine blk_drew ?_ | refine blk_alloc ?_ _)); refine blk_far ?_ NB419_435.out _; (with_reducible repeat (first | refine blk_drewN ?_ _ | refine blk_drew ?_ | refine blk_alloc ?_ _)); refine blk_far ?_ NB419_435.out _; (with_reducible repeat (first | refine blk_drewN ?_ _ | refine blk_drew ?_ | refine blk_alloc ?_ _)); exact BK419.out⟩, ⟨by (with_reducible repeat (first | refine blk_drewN ?_ _ | refine blk_drew ?_ | refine blk_alloc ?_ _)); refine blk_far ?_ NB427_435.out _; (with_reducible repeat (first | refine blk_drewN ?_ _ | refine blk_drew ?_ | refine blk_alloc ?_ _)); refine blk_far ?_ NB427_435.out _; (with_reducible repeat (first | refine blk_drewN ?_ _ | refine blk_drew ?_ | refine blk_alloc ?_ _)); exact BK427.out⟩, ⟨by (with_reducible repeat (first | refine blk_drewN ?_ _ | refine blk_drew ?_ | refine blk_alloc ?_ _)); refine blk_put (cs := #[.slice Ao20 t428.length co20, .slice none 0 0]) ?_ 1 _ rfl; (with_reducible repeat (first | refine blk_drewN ?_ _ | refine blk_drew ?_ | refine blk_alloc ?_ _)); refine blk_put (cs := #[.slice none 0 0, .slice none 0 0]) ?_ 0 _ rfl; (with_reducible repeat (first | refine blk_drewN ?_ _ | refine blk_drew ?_ | refine blk_alloc ?_ _)); exact BK435.out⟩, ⟨bU3 HB.out GE419.out GE427.out GE435.out⟩⟩
   ·
    rw [if_neg c25] at H
    have c25b0 : (t426 != t434) = false := by simpa using c25
    (try (have c25b1 : decide (t426 = t434) = true := by simpa using c25)); (try (have c25b2 : (t426 == t434) = true := by simpa using c25)); clear c25; (first | rw [c25b0] | (simp only [i64_w, i32_w]; rw [c25b0]) | skip); replace H := Option.bind_eq_some_iff.mp H; obtain ⟨t436, A260, H⟩ := H; replace H : (if t436 = true then (laws_FnTreeMap.j0 k t426 t434 (!t426) t415 t416 t420 t423 t428 t431) else (laws_FnTreeMap.j0 k t426 t434 true t415 t416 t420 t423 t428 t431)) = some r := H; have A26 := Az A260; clear A260
    by_cases c27 : t436 = true
    ·
     subst c27
     have H1 : (laws_FnTreeMap.j0 k t426 t434 (!t426) t415 t416 t420 t423 t428 t431) = some r := by rw [if_pos rfl] at H; exact H
     clear H; have H := H1; clear H1; have H' := Az H; clear H; have hnb28 := NB427_419.out; have hnc28 := NB419_427.out; have hnb29 := NB427_435.out; have hnc29 := NB435_427.out; have hcz30_0 : w19.cell? ⟨gb427, 0, none⟩ = some (.slice Ao13 t420.length co13) := (blk_cell BK427.out 0).trans rfl; have hcz30_1 : w19.cell? ⟨gb427, 1, none⟩ = some (.slice Ao16 t423.length co16) := (blk_cell BK427.out 1).trans rfl; have hfz30_0 := blk_frozen BK427.out 0; have hfz30_1 := blk_frozen BK427.out 1; have hnb31 := NB435_419.out; have hnc31 := NB419_435.out; have hcz32_0 : w19.cell? ⟨gb435, 0, none⟩ = some (.slice none 0 0) := (blk_cell BK435.out 0).trans rfl; have hcz32_1 : w19.cell? ⟨gb435, 1, none⟩ = some (.slice none 0 0) := (blk_cell BK435.out 1).trans rfl; have hfz32_0 := blk_frozen BK435.out 0; have hfz32_1 := blk_frozen BK435.out 1
     go_wp2_with (first | (go_at_call 34; (with_reducible refine (laws_sameMap.calls k _ _ t420 _ _ t423 _ _ t428 _ _ t431 true _ ?side1 ?side2 ?side3 ?side4 ?side5 ?side6 ?side7 ?side8 A26.out).mono ?_); (case side1 => refine (Kd.R_reads' (e := 3) (base := w.heap.size) (ok := fun k_ => (((some k_ ≠ (.slice Ao16 t423.length co16 : Value).ownBlock ∧ some k_ ≠ (.slice Ao10 t416.length co10 : Value).ownBlock) ∧ some k_ ≠ (.slice Ao20 t428.length co20 : Value).ownBlock) ∧ some k_ ≠ (.slice Ao24 t431.length co24 : Value).ownBlock)) (n := t420.length) (c := co13) ?_).2.2; exact (by (with_reducible repeat (first | apply Kd.R_alloc | apply Kd.R_drewN | apply Kd.R_drew)); exact (Kd.R_mono (Kd.R_far (p := ⟨gb435, 1, none⟩) (Kd.R_far (p := ⟨gb435, 0, none⟩) (Kd.R_types HO422.out BK435.out (by decide)) (fun _ hk => hk.2) (.slice Ao20 t428.length co20)) (fun _ hk => hk.2) (.slice Ao24 t431.length co24)) (fun _ h_ => h_.1)))); (case side2 => exact (Kd.R_reads' HO422.out).2.1); (case side3 => refine (Kd.R_reads' (e := 3) (base := w.heap.size) (ok := fun k_ => (((some k_ ≠ (.slice Ao13 t420.length co13 : Value).ownBlock ∧ some k_ ≠ (.slice Ao10 t416.length co10 : Value).ownBlock) ∧ some k_ ≠ (.slice Ao20 t428.length co20 : Value).ownBlock) ∧ some k_ ≠ (.slice Ao24 t431.length co24 : Value).ownBlock)) (n := t423.length) (c := co16) ?_).2.2; exact (by (with_reducible repeat (first | apply Kd.R_alloc | apply Kd.R_drewN | apply Kd.R_drew)); exact (Kd.R_mono (Kd.R_far (p := ⟨gb435, 1, none⟩) (Kd.R_far (p := ⟨gb435, 0, none⟩) (Kd.R_types HO425.out BK435.out (by decide)) (fun _ hk => hk.2) (.slice Ao20 t428.length co20)) (fun _ hk => hk.2) (.slice Ao24 t431.length co24)) (fun _ h_ => h_.1)))); (case side4 => exact (Kd.R_reads' HO425.out).2.1); (case side5 => refine (Kd.R_reads' (e := 3) (base := w.heap.size) (ok := fun k_ => (((some k_ ≠ (.slice Ao24 t431.length co24 : Value).ownBlock ∧ some k_ ≠ (.slice Ao10 t416.length co10 : Value).ownBlock) ∧ some k_ ≠ (.slice Ao13 t420.length co13 : Value).ownBlock) ∧ some k_ ≠ (.slice Ao16 t423.length co16 : Value).ownBlock)) (n := t428.length) (c := co20) ?_).2.2; exact (by (with_reducible repeat (first | apply Kd.R_alloc | apply Kd.R_drewN | apply Kd.R_drew)); exact (Kd.R_mono (Kd.R_far (p := ⟨gb435, 1, none⟩) (Kd.R_far (p := ⟨gb435, 0, none⟩) (Kd.R_types HO430.out BK435.out (by decide)) (fun _ hk => hk.2) (.slice Ao20 t428.length co20)) (fun _ hk => hk.2) (.slice Ao24 t431.length co24)) (fun _ h_ => h_.1)))); (case side6 => exact (Kd.R_reads' HO430.out).2.1); (case side7 => refine (Kd.R_reads' (e := 3) (base := w.heap.size) (ok := fun k_ => (((some k_ ≠ (.slice Ao20 t428.length co20 : Value).ownBlock ∧ some k_ ≠ (.slice Ao10 t416.length co10 : Value).ownBlock) ∧ some k_ ≠ (.slice Ao13 t420.length co13 : Value).ownBlock) ∧ some k_ ≠ (.slice Ao16 t423.length co16 : Value).ownBlock)) (n := t431.length) (c := co24) ?_).2.2; exact (by (with_reducible repeat (first | apply Kd.R_alloc | apply Kd.R_drewN | apply Kd.R_drew)); exact (Kd.R_mono (Kd.R_far (p := ⟨gb435, 1, none⟩) (Kd.R_far (p := ⟨gb435, 0, none⟩) (Kd.R_types HO433.out BK435.out (by decide)) (fun _ hk => hk.2) (.slice Ao20 t428.length co20)) (fun _ hk => hk.2) (.slice Ao24 t431.length co24)) (fun _ h_ => h_.1)))); (case side8 => exact (Kd.R_reads' HO433.out).2.1); rintro e w33 ⟨rfl, hb⟩; have n0 := Az (Kd.Q_below (by (with_reducible repeat (first | apply Kd.Q_alloc | apply Kd.Q_drewN | apply Kd.Q_drew)); exact (Kd.Q_mono (Kd.Q_far (p := ⟨gb435, 1, none⟩) (Kd.Q_far (p := ⟨gb435, 0, none⟩) (Kd.Q_types HO418.out BK435.out (by decide)) (fun _ hk => hk.2) (.slice Ao20 t428.length co20)) (fun _ hk => hk.2) (.slice Ao24 t431.length co24)) (fun _ h_ => h_.1))) hb); have n1 := Az (Kd.R_below (by (with_reducible repeat (first | apply Kd.R_alloc | apply Kd.R_drewN | apply Kd.R_drew)); exact (Kd.R_mono (Kd.R_far (p := ⟨gb435, 1, none⟩) (Kd.R_far (p := ⟨gb435, 0, none⟩) (Kd.R_types HO422.out BK435.out (by decide)) (fun _ hk => hk.2) (.slice Ao20 t428.length co20)) (fun _ hk => hk.2) (.slice Ao24 t431.length co24)) (fun _ h_ => h_.1))) hb); have n2 := Az (Kd.R_below (by (with_reducible repeat (first | apply Kd.R_alloc | apply Kd.R_drewN | apply Kd.R_drew)); exact (Kd.R_mono (Kd.R_far (p := ⟨gb435, 1, none⟩) (Kd.R_far (p := ⟨gb435, 0, none⟩) (Kd.R_types HO425.out BK435.out (by decide)) (fun _ hk => hk.2) (.slice Ao20 t428.length co20)) (fun _ hk => hk.2) (.slice Ao24 t431.length co24)) (fun _ h_ => h_.1))) hb); have n3 := Az (Kd.R_below (by (with_reducible repeat (first | apply Kd.R_alloc | apply Kd.R_drewN | apply Kd.R_drew)); exact (Kd.R_mono (Kd.R_far (p := ⟨gb435, 1, none⟩) (Kd.R_far (p := ⟨gb435, 0, none⟩) (Kd.R_types HO430.out BK435.out (by decide)) (fun _ hk => hk.2) (.slice Ao20 t428.length co20)) (fun _ hk => hk.2) (.slice Ao24 t431.length co24)) (fun _ h_ => h_.1))) hb); have n4 := Az (Kd.R_below (by (with_reducible repeat (first | apply Kd.R_alloc | apply Kd.R_drewN | apply Kd.R_drew)); exact (Kd.R_mono (Kd.R_far (p := ⟨gb435, 1, none⟩) (Kd.R_far (p := ⟨gb435, 0, none⟩) (Kd.R_types HO433.out BK435.out (by decide)) (fun _ hk => hk.2) (.slice Ao20 t428.length co20)) (fun _ hk => hk.2) (.slice Ao24 t431.length co24)) (fun _ h_ => h_.1))) hb); have n5 := Az (blk_below (g := gb419) (o := .cells #[.string t415, .slice Ao10 t416.length co10] 25 (0, 0)) (by (with_reducible repeat (first | refine blk_drewN ?_ _ | refine blk_drew ?_ | refine blk_alloc ?_ _)); refine blk_far ?_ NB419_435.out _; (with_reducible repeat (first | refine blk_drewN ?_ _ | refine blk_drew ?_ | refine blk_alloc ?_ _)); refine blk_far ?_ NB419_435.out _; (with_reducible repeat (first | refine blk_drewN ?_ _ | refine blk_drew ?_ | refine blk_alloc ?_ _)); exact BK419.out) hb); have n6 := Az (blk_below (g := gb427) (o := .cells #[.slice Ao13 t420.length co13, .slice Ao16 t423.length co16] 29 (0, 0)) (by (with_reducible repeat (first | refine blk_drewN ?_ _ | refine blk_drew ?_ | refine blk_alloc ?_ _)); refine blk_far ?_ NB427_435.out _; (with_reducible repeat (first | refine blk_drewN ?_ _ | refine blk_drew ?_ | refine blk_alloc ?_ _)); refine blk_far ?_ NB427_435.out _; (with_reducible repeat (first | refine blk_drewN ?_ _ | refine blk_drew ?_ | refine blk_alloc ?_ _)); exact BK427.out) hb); have n7 := Az (blk_below (g := gb435) (o := .cells #[.slice Ao20 t428.length co20, .slice Ao24 t431.length co24] 29 (0, 0)) (by (with_reducible repeat (first | refine blk_drewN ?_ _ | refine blk_drew ?_ | refine blk_alloc ?_ _)); refine blk_put (cs := #[.slice Ao20 t428.length co20, .slice none 0 0]) ?_ 1 _ rfl; (with_reducible repeat (first | refine blk_drewN ?_ _ | refine blk_drew ?_ | refine blk_alloc ?_ _)); refine blk_put (cs := #[.slice none 0 0, .slice none 0 0]) ?_ 0 _ rfl; (with_reducible repeat (first | refine blk_drewN ?_ _ | refine blk_drew ?_ | refine blk_alloc ?_ _)); exact BK435.out) hb); have n8 := Az (below_step (bU3 HB.out GE419.out GE427.out GE435.out) hb); clear HO418 HO422 HO425 HO430 HO433 BK419 BK427 BK435 HB; have HO418 := n0; have HO422 := n1; have HO425 := n2; have HO430 := n3; have HO433 := n4; have BK419 := n5; have BK427 := n6; have BK435 := n7; have HB := n8; clear n0 n1 n2 n3 n4 n5 n6 n7 n8; (try clear hb); (try clear hb2); (try clear hk); (try clear hi)))
     go_meet
     case rel => exact ⟨_, (!t426), rS, H', ⟨by first | omega | exact Nat.le_refl _⟩, ⟨by (with_reducible repeat (first | apply Kd.Q_alloc | apply Kd.Q_drewN | apply Kd.Q_drew)); exact Kd.Q_mono HO418.out (fun _ hk => ⟨hk.1.1.1.2, ⟨hk.1.1.2, ⟨hk.1.2, hk.2⟩⟩⟩)⟩, ⟨by (with_reducible repeat (first | apply Kd.R_alloc | apply Kd.R_drewN | apply Kd.R_drew)); exact Kd.R_mono HO422.out (fun _ hk => ⟨hk.1.1.2, ⟨hk.1.1.1, ⟨hk.1.2, hk.2⟩⟩⟩)⟩, ⟨by (with_reducible repeat (first | apply Kd.R_alloc | apply Kd.R_drewN | apply Kd.R_drew)); exact Kd.R_mono HO425.out (fun _ hk => ⟨hk.1.1.2, ⟨hk.1.1.1, ⟨hk.1.2, hk.2⟩⟩⟩)⟩, ⟨by (with_reducible repeat (first | apply Kd.R_alloc | apply Kd.R_drewN | apply Kd.R_drew)); exact Kd.R_mono HO430.out (fun _ hk => ⟨hk.1.1.2, ⟨hk.1.2, ⟨hk.2, hk.1.1.1⟩⟩⟩)⟩, ⟨by (with_reducible repeat (first | apply Kd.R_alloc | apply Kd.R_drewN | apply Kd.R_drew)); exact Kd.R_mono HO433.out (fun _ hk => ⟨hk.1.1.2, ⟨hk.1.2, ⟨hk.2, hk.1.1.1⟩⟩⟩)⟩, ⟨kU BK419.out⟩, ⟨kU BK427.out⟩, ⟨kU BK435.out⟩, ⟨bU3 HB.out GE419.out GE427.out GE435.out⟩⟩
    ·
     replace c27 := Bool.eq_false_iff.mpr c27; subst c27
     have H1 : (laws_FnTreeMap.j0 k t426 t434 true t415 t416 t420 t423 t428 t431) = some r := by rw [if_neg (show ¬ (false = true) by decide)] at H; exact H
     clear H; have H := H1; clear H1; have H' := Az H; clear H; have hnb34 := NB427_419.out; have hnc34 := NB419_427.out; have hnb35 := NB427_435.out; have hnc35 := NB435_427.out; have hcz36_0 : w19.cell? ⟨gb427, 0, none⟩ = some (.slice Ao13 t420.length co13) := (blk_cell BK427.out 0).trans rfl; have hcz36_1 : w19.cell? ⟨gb427, 1, none⟩ = some (.slice Ao16 t423.length co16) := (blk_cell BK427.out 1).trans rfl; have hfz36_0 := blk_frozen BK427.out 0; have hfz36_1 := blk_frozen BK427.out 1; have hnb37 := NB435_419.out; have hnc37 := NB419_435.out; have hcz38_0 : w19.cell? ⟨gb435, 0, none⟩ = some (.slice none 0 0) := (blk_cell BK435.out 0).trans rfl; have hcz38_1 : w19.cell? ⟨gb435, 1, none⟩ = some (.slice none 0 0) := (blk_cell BK435.out 1).trans rfl; have hfz38_0 := blk_frozen BK435.out 0; have hfz38_1 := blk_frozen BK435.out 1
     go_wp2_with (first | (go_at_call 34; (with_reducible refine (laws_sameMap.calls k _ _ t420 _ _ t423 _ _ t428 _ _ t431 false _ ?side1 ?side2 ?side3 ?side4 ?side5 ?side6 ?side7 ?side8 A26.out).mono ?_); (case side1 => refine (Kd.R_reads' (e := 3) (base := w.heap.size) (ok := fun k_ => (((some k_ ≠ (.slice Ao16 t423.length co16 : Value).ownBlock ∧ some k_ ≠ (.slice Ao10 t416.length co10 : Value).ownBlock) ∧ some k_ ≠ (.slice Ao20 t428.length co20 : Value).ownBlock) ∧ some k_ ≠ (.slice Ao24 t431.length co24 : Value).ownBlock)) (n := t420.length) (c := co13) ?_).2.2; exact (by (with_reducible repeat (first | apply Kd.R_alloc | apply Kd.R_drewN | apply Kd.R_drew)); exact (Kd.R_mono (Kd.R_far (p := ⟨gb435, 1, none⟩) (Kd.R_far (p := ⟨gb435, 0, none⟩) (Kd.R_types HO422.out BK435.out (by decide)) (fun _ hk => hk.2) (.slice Ao20 t428.length co20)) (fun _ hk => hk.2) (.slice Ao24 t431.length co24)) (fun _ h_ => h_.1)))); (case side2 => exact (Kd.R_reads' HO422.out).2.1); (case side3 => refine (Kd.R_reads' (e := 3) (base := w.heap.size) (ok := fun k_ => (((some k_ ≠ (.slice Ao13 t420.length co13 : Value).ownBlock ∧ some k_ ≠ (.slice Ao10 t416.length co10 : Value).ownBlock) ∧ some k_ ≠ (.slice Ao20 t428.length co20 : Value).ownBlock) ∧ some k_ ≠ (.slice Ao24 t431.length co24 : Value).ownBlock)) (n := t423.length) (c := co16) ?_).2.2; exact (by (with_reducible repeat (first | apply Kd.R_alloc | apply Kd.R_drewN | apply Kd.R_drew)); exact (Kd.R_mono (Kd.R_far (p := ⟨gb435, 1, none⟩) (Kd.R_far (p := ⟨gb435, 0, none⟩) (Kd.R_types HO425.out BK435.out (by decide)) (fun _ hk => hk.2) (.slice Ao20 t428.length co20)) (fun _ hk => hk.2) (.slice Ao24 t431.length co24)) (fun _ h_ => h_.1)))); (case side4 => exact (Kd.R_reads' HO425.out).2.1); (case side5 => refine (Kd.R_reads' (e := 3) (base := w.heap.size) (ok := fun k_ => (((some k_ ≠ (.slice Ao24 t431.length co24 : Value).ownBlock ∧ some k_ ≠ (.slice Ao10 t416.length co10 : Value).ownBlock) ∧ some k_ ≠ (.slice Ao13 t420.length co13 : Value).ownBlock) ∧ some k_ ≠ (.slice Ao16 t423.length co16 : Value).ownBlock)) (n := t428.length) (c := co20) ?_).2.2; exact (by (with_reducible repeat (first | apply Kd.R_alloc | apply Kd.R_drewN | apply Kd.R_drew)); exact (Kd.R_mono (Kd.R_far (p := ⟨gb435, 1, none⟩) (Kd.R_far (p := ⟨gb435, 0, none⟩) (Kd.R_types HO430.out BK435.out (by decide)) (fun _ hk => hk.2) (.slice Ao20 t428.length co20)) (fun _ hk => hk.2) (.slice Ao24 t431.length co24)) (fun _ h_ => h_.1)))); (case side6 => exact (Kd.R_reads' HO430.out).2.1); (case side7 => refine (Kd.R_reads' (e := 3) (base := w.heap.size) (ok := fun k_ => (((some k_ ≠ (.slice Ao20 t428.length co20 : Value).ownBlock ∧ some k_ ≠ (.slice Ao10 t416.length co10 : Value).ownBlock) ∧ some k_ ≠ (.slice Ao13 t420.length co13 : Value).ownBlock) ∧ some k_ ≠ (.slice Ao16 t423.length co16 : Value).ownBlock)) (n := t431.length) (c := co24) ?_).2.2; exact (by (with_reducible repeat (first | apply Kd.R_alloc | apply Kd.R_drewN | apply Kd.R_drew)); exact (Kd.R_mono (Kd.R_far (p := ⟨gb435, 1, none⟩) (Kd.R_far (p := ⟨gb435, 0, none⟩) (Kd.R_types HO433.out BK435.out (by decide)) (fun _ hk => hk.2) (.slice Ao20 t428.length co20)) (fun _ hk => hk.2) (.slice Ao24 t431.length co24)) (fun _ h_ => h_.1)))); (case side8 => exact (Kd.R_reads' HO433.out).2.1); rintro e w39 ⟨rfl, hb⟩; have n0 := Az (Kd.Q_below (by (with_reducible repeat (first | apply Kd.Q_alloc | apply Kd.Q_drewN | apply Kd.Q_drew)); exact (Kd.Q_mono (Kd.Q_far (p := ⟨gb435, 1, none⟩) (Kd.Q_far (p := ⟨gb435, 0, none⟩) (Kd.Q_types HO418.out BK435.out (by decide)) (fun _ hk => hk.2) (.slice Ao20 t428.length co20)) (fun _ hk => hk.2) (.slice Ao24 t431.length co24)) (fun _ h_ => h_.1))) hb); have n1 := Az (Kd.R_below (by (with_reducible repeat (first | apply Kd.R_alloc | apply Kd.R_drewN | apply Kd.R_drew)); exact (Kd.R_mono (Kd.R_far (p := ⟨gb435, 1, none⟩) (Kd.R_far (p := ⟨gb435, 0, none⟩) (Kd.R_types HO422.out BK435.out (by decide)) (fun _ hk => hk.2) (.slice Ao20 t428.length co20)) (fun _ hk => hk.2) (.slice Ao24 t431.length co24)) (fun _ h_ => h_.1))) hb); have n2 := Az (Kd.R_below (by (with_reducible repeat (first | apply Kd.R_alloc | apply Kd.R_drewN | apply Kd.R_drew)); exact (Kd.R_mono (Kd.R_far (p := ⟨gb435, 1, none⟩) (Kd.R_far (p := ⟨gb435, 0, none⟩) (Kd.R_types HO425.out BK435.out (by decide)) (fun _ hk => hk.2) (.slice Ao20 t428.length co20)) (fun _ hk => hk.2) (.slice Ao24 t431.length co24)) (fun _ h_ => h_.1))) hb); have n3 := Az (Kd.R_below (by (with_reducible repeat (first | apply Kd.R_alloc | apply Kd.R_drewN | apply Kd.R_drew)); exact (Kd.R_mono (Kd.R_far (p := ⟨gb435, 1, none⟩) (Kd.R_far (p := ⟨gb435, 0, none⟩) (Kd.R_types HO430.out BK435.out (by decide)) (fun _ hk => hk.2) (.slice Ao20 t428.length co20)) (fun _ hk => hk.2) (.slice Ao24 t431.length co24)) (fun _ h_ => h_.1))) hb); have n4 := Az (Kd.R_below (by (with_reducible repeat (first | apply Kd.R_alloc | apply Kd.R_drewN | apply Kd.R_drew)); exact (Kd.R_mono (Kd.R_far (p := ⟨gb435, 1, none⟩) (Kd.R_far (p := ⟨gb435, 0, none⟩) (Kd.R_types HO433.out BK435.out (by decide)) (fun _ hk => hk.2) (.slice Ao20 t428.length co20)) (fun _ hk => hk.2) (.slice Ao24 t431.length co24)) (fun _ h_ => h_.1))) hb); have n5 := Az (blk_below (g := gb419) (o := .cells #[.string t415, .slice Ao10 t416.length co10] 25 (0, 0)) (by (with_reducible repeat (first | refine blk_drewN ?_ _ | refine blk_drew ?_ | refine blk_alloc ?_ _)); refine blk_far ?_ NB419_435.out _; (with_reducible repeat (first | refine blk_drewN ?_ _ | refine blk_drew ?_ | refine blk_alloc ?_ _)); refine blk_far ?_ NB419_435.out _; (with_reducible repeat (first | refine blk_drewN ?_ _ | refine blk_drew ?_ | refine blk_alloc ?_ _)); exact BK419.out) hb); have n6 := Az (blk_below (g := gb427) (o := .cells #[.slice Ao13 t420.length co13, .slice Ao16 t423.length co16] 29 (0, 0)) (by (with_reducible repeat (first | refine blk_drewN ?_ _ | refine blk_drew ?_ | refine blk_alloc ?_ _)); refine blk_far ?_ NB427_435.out _; (with_reducible repeat (first | refine blk_drewN ?_ _ | refine blk_drew ?_ | refine blk_alloc ?_ _)); refine blk_far ?_ NB427_435.out _; (with_reducible repeat (first | refine blk_drewN ?_ _ | refine blk_drew ?_ | refine blk_alloc ?_ _)); exact BK427.out) hb); have n7 := Az (blk_below (g := gb435) (o := .cells #[.slice Ao20 t428.length co20, .slice Ao24 t431.length co24] 29 (0, 0)) (by (with_reducible repeat (first | refine blk_drewN ?_ _ | refine blk_drew ?_ | refine blk_alloc ?_ _)); refine blk_put (cs := #[.slice Ao20 t428.length co20, .slice none 0 0]) ?_ 1 _ rfl; (with_reducible repeat (first | refine blk_drewN ?_ _ | refine blk_drew ?_ | refine blk_alloc ?_ _)); refine blk_put (cs := #[.slice none 0 0, .slice none 0 0]) ?_ 0 _ rfl; (with_reducible repeat (first | refine blk_drewN ?_ _ | refine blk_drew ?_ | refine blk_alloc ?_ _)); exact BK435.out) hb); have n8 := Az (below_step (bU3 HB.out GE419.out GE427.out GE435.out) hb); clear HO418 HO422 HO425 HO430 HO433 BK419 BK427 BK435 HB; have HO418 := n0; have HO422 := n1; have HO425 := n2; have HO430 := n3; have HO433 := n4; have BK419 := n5; have BK427 := n6; have BK435 := n7; have HB := n8; clear n0 n1 n2 n3 n4 n5 n6 n7 n8; (try clear hb); (try clear hb2); (try clear hk); (try clear hi)))
     go_meet
     case rel => exact ⟨_, (true), rS, H', ⟨by first | omega | exact Nat.le_refl _⟩, ⟨by (with_reducible repeat (first | apply Kd.Q_alloc | apply Kd.Q_drewN | apply Kd.Q_drew)); exact Kd.Q_mono HO418.out (fun _ hk => ⟨hk.1.1.1.2, ⟨hk.1.1.2, ⟨hk.1.2, hk.2⟩⟩⟩)⟩, ⟨by (with_reducible repeat (first | apply Kd.R_alloc | apply Kd.R_drewN | apply Kd.R_drew)); exact Kd.R_mono HO422.out (fun _ hk => ⟨hk.1.1.2, ⟨hk.1.1.1, ⟨hk.1.2, hk.2⟩⟩⟩)⟩, ⟨by (with_reducible repeat (first | apply Kd.R_alloc | apply Kd.R_drewN | apply Kd.R_drew)); exact Kd.R_mono HO425.out (fun _ hk => ⟨hk.1.1.2, ⟨hk.1.1.1, ⟨hk.1.2, hk.2⟩⟩⟩)⟩, ⟨by (with_reducible repeat (first | apply Kd.R_alloc | apply Kd.R_drewN | apply Kd.R_drew)); exact Kd.R_mono HO430.out (fun _ hk => ⟨hk.1.1.2, ⟨hk.1.2, ⟨hk.2, hk.1.1.1⟩⟩⟩)⟩, ⟨by (with_reducible repeat (first | apply Kd.R_alloc | apply Kd.R_drewN | apply Kd.R_drew)); exact Kd.R_mono HO433.out (fun _ hk => ⟨hk.1.1.2, ⟨hk.1.2, ⟨hk.2, hk.1.1.1⟩⟩⟩)⟩, ⟨kU BK419.out⟩, ⟨kU BK427.out⟩, ⟨kU BK435.out⟩, ⟨bU3 HB.out GE419.out GE427.out GE435.out⟩⟩
  case rest =>
   clear HC6; (try clear c1); (try clear c2); (try clear c2b0); (try clear c2b1); (try clear p2); (try clear c3); (try clear c6); (try clear c14); (try clear c18); (try clear c21); (try clear c22); (try clear c25); (try clear c25b0); (try clear c25b1); (try clear c25b2); (try clear c27); (try clear c28); (try clear c29); (try clear c31); (try clear c34); (try clear c35); (try clear c37); (try clear c38); (try clear c39); (try clear hcz15_0); (try clear hcz15_1); (try clear hcz17_0); (try clear hcz17_1); (try clear hcz23_0); (try clear hcz23_1); (try clear hcz30_0); (try clear hcz30_1); (try clear hcz32_0); (try clear hcz32_1); (try clear hcz36_0); (try clear hcz36_1); (try clear hcz38_0); (try clear hcz38_1); (try clear hcz9_0); (try clear hcz9_1); (try clear hfz15_0); (try clear hfz15_1); (try clear hfz17_0); (try clear hfz17_1); (try clear hfz23_0); (try clear hfz23_1); (try clear hfz30_0); (try clear hfz30_1); (try clear hfz32_0); (try clear hfz32_1); (try clear hfz36_0); (try clear hfz36_1); (try clear hfz38_0); (try clear hfz38_1); (try clear hfz9_0); (try clear hfz9_1); obtain ⟨kq, x39_5, rfl, HA, HJ5, HO_Z1, HO_Z2, HO_Z3, HO_Z4, HO_Z5, BK419, BK427, BK435, HB⟩ := hcut
   cases kq with
   | zero => exact absurd HA.out (by simp [laws_FnTreeMap.j0])
   | succ kj5 =>
    have H := HA.out; clear HA; simp only [laws_FnTreeMap.j0] at H
    by_cases c40 : x39_5 = true
    ·
     subst c40
     have H1 : (if (t426 == t434) = true then ((laws_sameMap.f kj5 t420 t423 t428 t431).bind fun t437 => (some t437)) else (some false)) = some r := by rw [if_pos rfl] at H; exact H
     clear H; have H := H1; clear H1
     by_cases c41 : (t426 == t434) = true
     ·
      rw [if_pos c41] at H; have c41b0 : (t426 == t434) = true := c41; (try (have c41b1 : decide (t426 = t434) = true := by simpa using c41)); (try (have c41b2 : (t426 == t434) = true := by simpa using c41)); clear c41; replace H := Option.bind_eq_some_iff.mp H; obtain ⟨t437, A420, H⟩ := H; replace H : (some t437) = some r := H; have A42 := Az A420; clear A420; obtain rfl := Option.some.inj H; have hnb43 := NB427_419.out; have hnc43 := NB419_427.out; have hnb44 := NB427_435.out; have hnc44 := NB435_427.out; have hcz45_0 : wc.cell? ⟨gb427, 0, none⟩ = some (.slice Ao13 t420.length co13) := (blk_cell BK427.out 0).trans rfl; have hcz45_1 : wc.cell? ⟨gb427, 1, none⟩ = some (.slice Ao16 t423.length co16) := (blk_cell BK427.out 1).trans rfl; have hfz45_0 := blk_frozen BK427.out 0; have hfz45_1 := blk_frozen BK427.out 1; have hnb46 := NB435_419.out; have hnc46 := NB419_435.out; have hcz47_0 : wc.cell? ⟨gb435, 0, none⟩ = some (.slice Ao20 t428.length co20) := (blk_cell BK435.out 0).trans rfl; have hcz47_1 : wc.cell? ⟨gb435, 1, none⟩ = some (.slice Ao24 t431.length co24) := (blk_cell BK435.out 1).trans rfl; have hfz47_0 := blk_frozen BK435.out 0; have hfz47_1 := blk_frozen BK435.out 1
      go_wp2_with (first | (go_at_call 34; (with_reducible refine (laws_sameMap.calls kj5 _ _ t420 _ _ t423 _ _ t428 _ _ t431 t437 _ ?side1 ?side2 ?side3 ?side4 ?side5 ?side6 ?side7 ?side8 A42.out).mono ?_); (case side1 => exact cU ((Kd.R_reads' HO_Z2.out).2.2)); (case side2 => exact (Kd.R_reads' HO_Z2.out).2.1); (case side3 => exact cU ((Kd.R_reads' HO_Z3.out).2.2)); (case side4 => exact (Kd.R_reads' HO_Z3.out).2.1); (case side5 => exact cU ((Kd.R_reads' HO_Z4.out).2.2)); (case side6 => exact (Kd.R_reads' HO_Z4.out).2.1); (case side7 => exact cU ((Kd.R_reads' HO_Z5.out).2.2)); (case side8 => exact (Kd.R_reads' HO_Z5.out).2.1); rintro e w48 ⟨rfl, hb⟩; have n0 := Az (Kd.Q_below (qU HO_Z1.out) hb); have n1 := Az (Kd.R_below (rU HO_Z2.out) hb); have n2 := Az (Kd.R_below (rU HO_Z3.out) hb); have n3 := Az (Kd.R_below (rU HO_Z4.out) hb); have n4 := Az (Kd.R_below (rU HO_Z5.out) hb); have n5 := Az (blk_below (g := gb419) (o := .cells #[.string t415, .slice Ao10 t416.length co10] 25 (0, 0)) (kU BK419.out) hb); have n6 := Az (blk_below (g := gb427) (o := .cells #[.slice Ao13 t420.length co13, .slice Ao16 t423.length co16] 29 (0, 0)) (kU BK427.out) hb); have n7 := Az (blk_below (g := gb435) (o := .cells #[.slice Ao20 t428.length co20, .slice Ao24 t431.length co24] 29 (0, 0)) (kU BK435.out) hb); have n8 := Az (below_step (bU3 HB.out GE419.out GE427.out GE435.out) hb); clear HO_Z1 HO_Z2 HO_Z3 HO_Z4 HO_Z5 BK419 BK427 BK435 HB; have HO_Z1 := n0; have HO_Z2 := n1; have HO_Z3 := n2; have HO_Z4 := n3; have HO_Z5 := n4; have BK419 := n5; have BK427 := n6; have BK435 := n7; have HB := n8; clear n0 n1 n2 n3 n4 n5 n6 n7 n8; (try clear hb); (try clear hb2); (try clear hk); (try clear hi)))
      go_ret
      exact ⟨rE, bU3 HB.out GE419.out GE427.out GE435.out⟩
     ·
      rw [if_neg c41] at H
      have c41b0 : (t426 == t434) = false := by simpa using c41
      (try (have c41b1 : decide (t426 = t434) = false := by simpa using c41)); (try (have c41b2 : (t426 == t434) = false := by simpa using c41)); (try (have c41b3 : ¬ (t426 = t434) := by simpa using c41)); clear c41; obtain rfl := Option.some.inj H
      go_wp2
      go_ret
      exact ⟨rE, bU3 HB.out GE419.out GE427.out GE435.out⟩
    ·
     replace c40 := Bool.eq_false_iff.mpr c40; subst c40
     have H1 : ((impl_GluingOf.f kj5 t420 t423 0).bind fun bt438 => (if 0 ≤ (t416.length : Int) then (if ((t416.length : Int) : Int).toNat ≤ 35184372088832 then ((impl_TreeMap.f kj5 t415 (List.replicate ((t416.length : Int) : Int).toNat 0)).bind fun bt445 => (if bt438.2 = true then (if bt445.2.2 = true then ((laws_sameInts.f kj5 bt438.1 t423).bind fun t453 => (if t453 = true then ((impl_GluingPlanar.f kj5 bt438.1).bind fun t454 => (if t454 = true then ((impl_MapGenus.f kj5 t420 t423).bind fun t455 => (if t455 = 0 then ((laws_sameMap.f kj5 bt445.1 bt445.2.1 t420 t423).bind fun t456 => (some t456)) else (some false))) else (some false))) else (some false))) else (some false)) else (some false))) else (none)) else (none))) = some r := by rw [if_neg (show ¬ (false = true) by decide)] at H; exact H
     clear H; have H := H1; clear H1; replace H := Option.bind_eq_some_iff.mp H; obtain ⟨⟨t438, t441⟩, A490, H⟩ := H; replace H : (if 0 ≤ (t416.length : Int) then (if ((t416.length : Int) : Int).toNat ≤ 35184372088832 then ((impl_TreeMap.f kj5 t415 (List.replicate ((t416.length : Int) : Int).toNat 0)).bind fun bt445 => (if t441 = true then (if bt445.2.2 = true then ((laws_sameInts.f kj5 t438 t423).bind fun t453 => (if t453 = true then ((impl_GluingPlanar.f kj5 t438).bind fun t454 => (if t454 = true then ((impl_MapGenus.f kj5 t420 t423).bind fun t455 => (if t455 = 0 then ((laws_sameMap.f kj5 bt445.1 bt445.2.1 t420 t423).bind fun t456 => (some t456)) else (some false))) else (some false))) else (some false))) else (some false)) else (some false))) else (none)) else (none)) = some r := H; have A49 := Az A490; clear A490
     by_cases c50 : 0 ≤ (t416.length : Int)
     ·
      rw [if_pos c50] at H; have c50b0 := eq_true c50; have c50b1 := decide_eq_true c50; clear c50
      by_cases c51 : ((t416.length : Int) : Int).toNat ≤ 35184372088832
      ·
       rw [if_pos c51] at H; have c51b0 := eq_true c51; have c51b1 := decide_eq_true c51; clear c51; obtain ⟨y442, hy442⟩ : ∃ y_ : List Int, y_ = (List.replicate ((t416.length : Int) : Int).toNat 0) := ⟨_, rfl⟩; replace H : ((impl_TreeMap.f kj5 t415 y442).bind fun bt445 => (if t441 = true then (if bt445.2.2 = true then ((laws_sameInts.f kj5 t438 t423).bind fun t453 => (if t453 = true then ((impl_GluingPlanar.f kj5 t438).bind fun t454 => (if t454 = true then ((impl_MapGenus.f kj5 t420 t423).bind fun t455 => (if t455 = 0 then ((laws_sameMap.f kj5 bt445.1 bt445.2.1 t420 t423).bind fun t456 => (some t456)) else (some false))) else (some false))) else (some false))) else (some false)) else (some false))) = some r := hR hy442 H; have Ny442 := Az hy442; clear hy442; replace H := Option.bind_eq_some_iff.mp H; obtain ⟨⟨t445, t448, t451⟩, A520, H⟩ := H; replace H : (if t441 = true then (if t451 = true then ((laws_sameInts.f kj5 t438 t423).bind fun t453 => (if t453 = true then ((impl_GluingPlanar.f kj5 t438).bind fun t454 => (if t454 = true then ((impl_MapGenus.f kj5 t420 t423).bind fun t455 => (if t455 = 0 then ((laws_sameMap.f kj5 t445 t448 t420 t423).bind fun t456 => (some t456)) else (some false))) else (some false))) else (some false))) else (some false)) else (some false)) = some r := H; have A52 := Az A520; clear A520; have hnb62 := NB427_419.out; have hnc62 := NB419_427.out; have hnb63 := NB427_435.out; have hnc63 := NB435_427.out; have hcz64_0 : wc.cell? ⟨gb427, 0, none⟩ = some (.slice Ao13 t420.length co13) := (blk_cell BK427.out 0).trans rfl; have hcz64_1 : wc.cell? ⟨gb427, 1, none⟩ = some (.slice Ao16 t423.length co16) := (blk_cell BK427.out 1).trans rfl; have hfz64_0 := blk_frozen BK427.out 0; have hfz64_1 := blk_frozen BK427.out 1
       try go_wp2_with (first | ((with_reducible refine gate_callee (f := 40) rfl ?_); refine goesL_ (some 50) rfl rfl Try.func40 (by kernel_rfl) rfl #[.agg #[.slice Ao13 t420.length co13, .slice Ao16 t423.length co16], .int .i64 0] rfl (by (try simp only [List.map_toArray, List.map_cons, List.map_nil]); first | done | rfl | (simp only [List.length_drop, List.length_take]; rfl)) ?_; (with_reducible refine (impl_GluingOf.calls kj5 _ _ t420 _ _ t423 0 t438 t441 _ ?side1 ?side2 ?side3 ?side4 A49.out).mono ?_); (case side1 => exact cU ((Kd.R_reads' HO_Z2.out).2.2)); (case side2 => exact (Kd.R_reads' HO_Z2.out).2.1); (case side3 => exact cU ((Kd.R_reads' HO_Z3.out).2.2)); (case side4 => exact (Kd.R_reads' HO_Z3.out).2.1); rintro e w65 ⟨v439, rfl, ho0, hb⟩; refine ⟨_, rfl, ?_⟩; have n0 := Az (Kd.Q_elder' (qU HO_Z1.out) (Kd.R_base ho0) hb); have n1 := Az (Kd.R_elder' (rU HO_Z2.out) (Kd.R_base ho0) hb); have n2 := Az (Kd.R_elder' (rU HO_Z3.out) (Kd.R_base ho0) hb); have n3 := Az (Kd.R_elder' (rU HO_Z4.out) (Kd.R_base ho0) hb); have n4 := Az (Kd.R_elder' (rU HO_Z5.out) (Kd.R_base ho0) hb); have n5 := Az (Kd.R_lower (Kd.R_new' (Kd.R_new' (Kd.R_new' (Kd.R_new' (Kd.R_new' ho0 (Kd.Q_lt (qU HO_Z1.out))) (Kd.R_lt (rU HO_Z2.out))) (Kd.R_lt (rU HO_Z3.out))) (Kd.R_lt (rU HO_Z4.out))) (Kd.R_lt (rU HO_Z5.out))) (below_size (bU3 HB.out GE419.out GE427.out GE435.out))); have n6 := Az (blk_below (g := gb419) (o := .cells #[.string t415, .slice Ao10 t416.length co10] 25 (0, 0)) (kU BK419.out) hb); have n7 := Az (blk_below (g := gb427) (o := .cells #[.slice Ao13 t420.length co13, .slice Ao16 t423.length co16] 29 (0, 0)) (kU BK427.out) hb); have n8 := Az (blk_below (g := gb435) (o := .cells #[.slice Ao20 t428.length co20, .slice Ao24 t431.length co24] 29 (0, 0)) (kU BK435.out) hb); have n9 := Az (below_step (bU3 HB.out GE419.out GE427.out GE435.out) hb); clear HO_Z1 HO_Z2 HO_Z3 HO_Z4 HO_Z5 BK419 BK427 BK435 HB; have HO_Z1 := n0; have HO_Z2 := n1; have HO_Z3 := n2; have HO_Z4 := n3; have HO_Z5 := n4; have HO440 := n5; have BK419 := n6; have BK427 := n7; have BK435 := n8; have HB := n9; clear n0 n1 n2 n3 n4 n5 n6 n7 n8 n9; (try clear hb); (try clear hb2); (try clear hk); (try clear hi); (try clear ho0)))
       have n0 := Az (Kd.Q_drew HO_Z1.out); have n1 := Az (Kd.R_drew HO_Z2.out); have n2 := Az (Kd.R_drew HO_Z3.out); have n3 := Az (Kd.R_drew HO_Z4.out); have n4 := Az (Kd.R_drew HO_Z5.out); have n5 := Az (Kd.R_drew HO440.out); have n6 := Az (blk_drew BK419.out); have n7 := Az (blk_drew BK427.out); have n8 := Az (blk_drew BK435.out); have n9 := Az (below_drew1 HB.out); clear HO_Z1 HO_Z2 HO_Z3 HO_Z4 HO_Z5 HO440 BK419 BK427 BK435 HB; have HO_Z1 := n0; have HO_Z2 := n1; have HO_Z3 := n2; have HO_Z4 := n3; have HO_Z5 := n4; have HO440 := n5; have BK419 := n6; have BK427 := n7; have BK435 := n8; have HB := n9; clear n0 n1 n2 n3 n4 n5 n6 n7 n8 n9
       refine start_ (n := 14) (S := fun w' => w'.cell? ⟨gb419, 0, none⟩ = some (.string t415) ∧ w'.cell? ⟨gb419, 1, none⟩ = some (.slice Ao10 t416.length co10)) (ds := []) #[false, false, false, false, false, false, false, false, false, false, false, false, false, false] (by kernel_rfl) rfl rfl ⟨(blk_cell BK419.out 0).trans rfl, (blk_cell BK419.out 1).trans rfl⟩ (fun hHeld => ?_); refine with_tabW laws_FnTreeMap.tab9 laws_FnTreeMap.bits9 (fun HT_ HW_ => ?_)
       generalize w65.drew = w66 at HO_Z1 HO_Z2 HO_Z3 HO_Z4 HO_Z5 HO440 BK419 BK427 BK435 HB hHeld ⊢
       refine pure_ (i := 0) (N := some 54) (v := ?_) (a' := ?_) #[true, false, false, false, false, false, false, false, false, false, false, false, false, false] rfl rfl (any_of HT_.out (by kernel_rfl)) (fun _ _ _ h => h) (Or.inl ⟨by rfl, ?_⟩) ?_ ?_
       rotate_left
       ·
        intro w'
        go_simp
        with_reducible rfl
       rotate_left
       ·
        simp only [Act.put, List.setIfInBounds_toArray, List.set_cons_zero, List.set_cons_succ, i64_w, i32_w]
        rfl
       refine pure_ (i := 2) (N := some 56) (v := ?_) (a' := ?_) #[true, false, true, false, false, false, false, false, false, false, false, false, false, false] rfl rfl (any_of HT_.out (by kernel_rfl)) (fun _ _ _ h => h) (Or.inl ⟨by rfl, ?_⟩) ?_ ?_
       rotate_left
       ·
        intro w'
        go_simp
        with_reducible rfl
       rotate_left
       ·
        simp only [Act.put, List.setIfInBounds_toArray, List.set_cons_zero, List.set_cons_succ, i64_w, i32_w]
        rfl
       refine take_ (i := 1) (N := some 55) (v := ?_) (a' := ?_) #[true, true, true, false, false, false, false, false, false, false, false, false, false, false] rfl rfl (take_ofW HT_.out HW_.out (by kernel_rfl)) (fun _ _ _ h => h) (Or.inl ⟨by rfl, ?_⟩) hHeld ?_ ?_
       rotate_left
       ·
        rintro w' ⟨s0, s1⟩
        go_simp
        with_reducible rfl
       rotate_left
       ·
        simp only [Act.put, List.setIfInBounds_toArray, List.set_cons_zero, List.set_cons_succ, i64_w, i32_w]
        rfl
       refine take_ (i := 3) (N := some 57) (v := ?_) (a' := ?_) #[true, true, true, true, false, false, false, false, false, false, false, false, false, false] rfl rfl (take_ofW HT_.out HW_.out (by kernel_rfl)) (fun _ _ _ h => h) (Or.inl ⟨by rfl, ?_⟩) hHeld ?_ ?_
       rotate_left
       ·
        rintro w' ⟨s0, s1⟩
        go_simp
        with_reducible rfl
       rotate_left
       ·
        simp only [Act.put, List.setIfInBounds_toArray, List.set_cons_zero, List.set_cons_succ, i64_w, i32_w]
        rfl
       refine pure_ (i := 4) (N := some 58) (v := ?_) (a' := ?_) #[true, true, true, true, true, false, false, false, false, false, false, false, false, false] rfl rfl (any_of HT_.out (by kernel_rfl)) (fun _ _ _ h => h) (Or.inl ⟨by rfl, ?_⟩) ?_ ?_
       rotate_left
       ·
        intro w'
        go_simp
        with_reducible rfl
       rotate_left
       ·
        simp only [Act.put, List.setIfInBounds_toArray, List.set_cons_zero, List.set_cons_succ, i64_w, i32_w]
        rfl
       refine join_ (σ := Value × Value × Value × Nat) 2 #[true, true, true, true, true, true, true, true, true, true, true, true, false, false] (fun s_ => [(59, s_.1), (61, .tuple #[.agg #[s_.2.1, s_.2.2.1], .bool t451]), (10, .pointer (some ⟨s_.2.2.2, 0, none⟩)), (60, .agg #[.string t415, s_.1]), (53, .tuple #[.agg #[s_.2.1, s_.2.2.1], .bool t451]), (62, .agg #[s_.2.1, s_.2.2.1]), (63, .bool t451)]) (fun s_ w' => (w'.cell? ⟨gb419, 0, none⟩ = some (.string t415) ∧ w'.cell? ⟨gb419, 1, none⟩ = some (.slice Ao10 t416.length co10)) ∧ (Kd.R (Kd.int .i64) 3 w' w.heap.size (fun k_ => some k_ ≠ (s_.1 : Value).ownBlock ∧ some k_ ≠ (s_.2.1 : Value).ownBlock ∧ some k_ ≠ (s_.2.2.1 : Value).ownBlock ∧ some k_ ≠ (.slice Ao10 t416.length co10 : Value).ownBlock ∧ some k_ ≠ (.slice Ao13 t420.length co13 : Value).ownBlock ∧ some k_ ≠ (.slice Ao16 t423.length co16 : Value).ownBlock ∧ some k_ ≠ (.slice Ao20 t428.length co20 : Value).ownBlock ∧ some k_ ≠ (.slice Ao24 t431.length co24 : Value).ownBlock) v439 t438) ∧ (Kd.R (Kd.int .i64) 3 w' w.heap.size (fun k_ => some k_ ≠ (v439 : Value).ownBlock ∧ some k_ ≠ (s_.2.1 : Value).ownBlock ∧ some k_ ≠ (s_.2.2.1 : Value).ownBlock ∧ some k_ ≠ (.slice Ao10 t416.length co10 : Value).ownBlock ∧ some k_ ≠ (.slice Ao13 t420.length co13 : Value).ownBlock ∧ some k_ ≠ (.slice Ao16 t423.length co16 : Value).ownBlock ∧ some k_ ≠ (.slice Ao20 t428.length co20 : Value).ownBlock ∧ some k_ ≠ (.slice Ao24 t431.length co24 : Value).ownBlock) s_.1 y442) ∧ (Kd.R (Kd.int .i64) 3 w' w.heap.size (fun k_ => some k_ ≠ (v439 : Value).ownBlock ∧ some k_ ≠ (s_.1 : Value).ownBlock ∧ some k_ ≠ (s_.2.2.1 : Value).ownBlock ∧ some k_ ≠ (.slice Ao10 t416.length co10 : Value).ownBlock ∧ some k_ ≠ (.slice Ao13 t420.length co13 : Value).ownBlock ∧ some k_ ≠ (.slice Ao16 t423.length co16 : Value).ownBlock ∧ some k_ ≠ (.slice Ao20 t428.length co20 : Value).ownBlock ∧ some k_ ≠ (.slice Ao24 t431.length co24 : Value).ownBlock) s_.2.1 t445) ∧ (Kd.R (Kd.int .i64) 3 w' w.heap.size (fun k_ => some k_ ≠ (v439 : Value).ownBlock ∧ some k_ ≠ (s_.1 : Value).ownBlock ∧ some k_ ≠ (s_.2.1 : Value).ownBlock ∧ some k_ ≠ (.slice Ao10 t416.length co10 : Value).ownBlock ∧ some k_ ≠ (.slice Ao13 t420.length co13 : Value).ownBlock ∧ some k_ ≠ (.slice Ao16 t423.length co16 : Value).ownBlock ∧ some k_ ≠ (.slice Ao20 t428.length co20 : Value).ownBlock ∧ some k_ ≠ (.slice Ao24 t431.length co24 : Value).ownBlock) s_.2.2.1 t448) ∧ (Kd.Q (Kd.int .i64) 3 w' w.heap.size (fun k_ => some k_ ≠ (v439 : Value).ownBlock ∧ some k_ ≠ (s_.1 : Value).ownBlock ∧ some k_ ≠ (s_.2.1 : Value).ownBlock ∧ some k_ ≠ (s_.2.2.1 : Value).ownBlock ∧ some k_ ≠ (.slice Ao13 t420.length co13 : Value).ownBlock ∧ some k_ ≠ (.slice Ao16 t423.length co16 : Value).ownBlock ∧ some k_ ≠ (.slice Ao20 t428.length co20 : Value).ownBlock ∧ some k_ ≠ (.slice Ao24 t431.length co24 : Value).ownBlock) (.slice Ao10 t416.length co10) t416) ∧ (Kd.R (Kd.int .i64) 3 w' w.heap.size (fun k_ => some k_ ≠ (v439 : Value).ownBlock ∧ some k_ ≠ (s_.1 : Value).ownBlock ∧ some k_ ≠ (s_.2.1 : Value).ownBlock ∧ some k_ ≠ (s_.2.2.1 : Value).ownBlock ∧ some k_ ≠ (.slice Ao10 t416.length co10 : Value).ownBlock ∧ some k_ ≠ (.slice Ao16 t423.length co16 : Value).ownBlock ∧ some k_ ≠ (.slice Ao20 t428.length co20 : Value).ownBlock ∧ some k_ ≠ (.slice Ao24 t431.length co24 : Value).ownBlock) (.slice Ao13 t420.length co13) t420) ∧ (Kd.R (Kd.int .i64) 3 w' w.heap.size (fun k_ => some k_ ≠ (v439 : Value).ownBlock ∧ some k_ ≠ (s_.1 : Value).ownBlock ∧ some k_ ≠ (s_.2.1 : Value).ownBlock ∧ some k_ ≠ (s_.2.2.1 : Value).ownBlock ∧ some k_ ≠ (.slice Ao10 t416.length co10 : Value).ownBlock ∧ some k_ ≠ (.slice Ao13 t420.length co13 : Value).ownBlock ∧ some k_ ≠ (.slice Ao20 t428.length co20 : Value).ownBlock ∧ some k_ ≠ (.slice Ao24 t431.length co24 : Value).ownBlock) (.slice Ao16 t423.length co16) t423) ∧ (Kd.R (Kd.int .i64) 3 w' w.heap.size (fun k_ => some k_ ≠ (v439 : Value).ownBlock ∧ some k_ ≠ (s_.1 : Value).ownBlock ∧ some k_ ≠ (s_.2.1 : Value).ownBlock ∧ some k_ ≠ (s_.2.2.1 : Value).ownBlock ∧ some k_ ≠ (.slice Ao10 t416.length co10 : Value).ownBlock ∧ some k_ ≠ (.slice Ao13 t420.length co13 : Value).ownBlock ∧ some k_ ≠ (.slice Ao16 t423.length co16 : Value).ownBlock ∧ some k_ ≠ (.slice Ao24 t431.length co24 : Value).ownBlock) (.slice Ao20 t428.length co20) t428) ∧ (Kd.R (Kd.int .i64) 3 w' w.heap.size (fun k_ => some k_ ≠ (v439 : Value).ownBlock ∧ some k_ ≠ (s_.1 : Value).ownBlock ∧ some k_ ≠ (s_.2.1 : Value).ownBlock ∧ some k_ ≠ (s_.2.2.1 : Value).ownBlock ∧ some k_ ≠ (.slice Ao10 t416.length co10 : Value).ownBlock ∧ some k_ ≠ (.slice Ao13 t420.length co13 : Value).ownBlock ∧ some k_ ≠ (.slice Ao16 t423.length co16 : Value).ownBlock ∧ some k_ ≠ (.slice Ao20 t428.length co20 : Value).ownBlock) (.slice Ao24 t431.length co24) t431) ∧ (w'.heap[gb419]? = some (.cells #[.string t415, .slice Ao10 t416.length co10] 25 (0, 0))) ∧ (w'.heap[gb427]? = some (.cells #[.slice Ao13 t420.length co13, .slice Ao16 t423.length co16] 29 (0, 0))) ∧ (w'.heap[gb435]? = some (.cells #[.slice Ao20 t428.length co20, .slice Ao24 t431.length co24] 29 (0, 0))) ∧ (w'.heap[s_.2.2.2]? = some (.cells #[.slice none 0 0, .slice none 0 0] 29 (0, 0))) ∧ (w.heap.size ≤ s_.2.2.2) ∧ (w.heap.size ≤ s_.2.2.2) ∧ (gb419 ≠ s_.2.2.2) ∧ (s_.2.2.2 ≠ gb419) ∧ (gb427 ≠ s_.2.2.2) ∧ (s_.2.2.2 ≠ gb427) ∧ (gb435 ≠ s_.2.2.2) ∧ (s_.2.2.2 ≠ gb435) ∧ (Below w.heap.size w w')) ?_ ?_
       rotate_left
       ·
        intro hCont
        refine two_ (i := 5) (j := 11) (Ni := some 59) (Nj := some 10) #[true, true, true, true, true, true, false, false, false, false, false, false, false, false] #[true, true, true, true, true, false, false, false, false, false, false, true, false, false] rfl rfl rfl rfl (two_of HT_.out (by kernel_rfl)) (by decide) (by decide) (fun K hK => ?_) (fun K hK => ?_)
        ·
         skip
         refine Kd.R_make_step (Kd.int .i64) _ 3 (by rfl) (N := 59) rfl 23 _ _ rfl (t416.length : Int) rfl rfl Try.underlying23 (.int .i64 0) 8 info3 rfl (by decide) (by omega) 0 (ok := fun _ => True) (okp := fun _ => True) rfl (fun _ hk => hk) trivial (oA) (Nat.le_trans (Nat.mul_le_mul_right _ (oA : (t416.length : Int).toNat ≤ 35184372088832)) (by omega)) (Below.refl _ _) (Nat.le_refl _) ?_
         intro v443 w67 ho68 hb hg_ hnew_
         clear hg_ hnew_; (first | rw [← Ny442.out] at ho68 | (simp only [Int.reduceToNat] at ho68; rw [← Ny442.out] at ho68)); have n0 := Az (Kd.Q_elder' (qU HO_Z1.out) (Kd.R_base ho68) hb); have n1 := Az (Kd.R_elder' (rU HO_Z2.out) (Kd.R_base ho68) hb); have n2 := Az (Kd.R_elder' (rU HO_Z3.out) (Kd.R_base ho68) hb); have n3 := Az (Kd.R_elder' (rU HO_Z4.out) (Kd.R_base ho68) hb); have n4 := Az (Kd.R_elder' (rU HO_Z5.out) (Kd.R_base ho68) hb); have n5 := Az (Kd.R_elder' (rU HO440.out) (Kd.R_base ho68) hb); have n6 := Az (Kd.R_lower (Kd.R_new' (Kd.R_new' (Kd.R_new' (Kd.R_new' (Kd.R_new' (Kd.R_new' ho68 (Kd.Q_lt (qU HO_Z1.out))) (Kd.R_lt (rU HO_Z2.out))) (Kd.R_lt (rU HO_Z3.out))) (Kd.R_lt (rU HO_Z4.out))) (Kd.R_lt (rU HO_Z5.out))) (Kd.R_lt (rU HO440.out))) (below_size (bU3 HB.out GE419.out GE427.out GE435.out))); have n7 := Az (blk_below (g := gb419) (o := .cells #[.string t415, .slice Ao10 t416.length co10] 25 (0, 0)) (kU BK419.out) hb); have n8 := Az (blk_below (g := gb427) (o := .cells #[.slice Ao13 t420.length co13, .slice Ao16 t423.length co16] 29 (0, 0)) (kU BK427.out) hb); have n9 := Az (blk_below (g := gb435) (o := .cells #[.slice Ao20 t428.length co20, .slice Ao24 t431.length co24] 29 (0, 0)) (kU BK435.out) hb); have n10 := Az (below_step (bU3 HB.out GE419.out GE427.out GE435.out) hb); clear HO_Z1 HO_Z2 HO_Z3 HO_Z4 HO_Z5 HO440 BK419 BK427 BK435 HB; have HO_Z1 := n0; have HO_Z2 := n1; have HO_Z3 := n2; have HO_Z4 := n3; have HO_Z5 := n4; have HO440 := n5; have HO444 := n6; have BK419 := n7; have BK427 := n8; have BK435 := n9; have HB := n10; clear n0 n1 n2 n3 n4 n5 n6 n7 n8 n9 n10 hb ho68; obtain ⟨Ao69, co69, eo69⟩ := Kd.R_slice HO444.out; (first | subst eo69 | (injection eo69 with f1_ f2_ f3_; have f4_ := f1_.symm; have f5_ := f3_.symm; clear f1_ f2_ f3_; subst f4_; subst f5_))
         refine hK.out _ _ ⟨(blk_cell BK419.out 0).trans rfl, (blk_cell BK419.out 1).trans rfl⟩ (fun hHeld => ?_)
         clear hK K
         refine norm_ (a' := ?_) ?_ ?_
         rotate_left
         ·
          show Act.put _ (some 59) _ = _
          simp only [Act.put, List.setIfInBounds_toArray, List.set_cons_zero, List.set_cons_succ, i64_w, i32_w]
          rfl
         refine pure_ (i := 6) (N := some 60) (v := ?_) (a' := ?_) #[true, true, true, true, true, true, true, false, false, false, false, false, false, false] rfl rfl (any_of HT_.out (by kernel_rfl)) (fun _ _ _ h => h) (Or.inl ⟨by rfl, ?_⟩) ?_ ?_
         rotate_left
         ·
          intro w'
          go_simp
          with_reducible rfl
         rotate_left
         ·
          simp only [Act.put, List.setIfInBounds_toArray, List.set_cons_zero, List.set_cons_succ, i64_w, i32_w]
          rfl
         refine two_ (i := 7) (j := 11) (Ni := some 61) (Nj := some 10) #[true, true, true, true, true, true, true, true, false, false, false, false, false, false] #[true, true, true, true, true, true, true, false, false, false, false, true, false, false] rfl rfl rfl rfl (two_of HT_.out (by kernel_rfl)) (by decide) (by decide) (fun K hK => ?_) (fun K hK => ?_)
         ·
          skip
          refine goes_ Try.func18 (by kernel_rfl) rfl #[.agg #[.string t415, .slice Ao69 y442.length co69]] (by rfl) rfl rfl (by (try simp only [List.map_toArray, List.map_cons, List.map_nil]); first | done | rfl | (simp only [List.length_drop, List.length_take]; rfl)) ?_
          with_reducible refine (impl_TreeMap.calls kj5 t415 _ _ y442 t445 t448 t451 _ ?side1 ?side2 A52.out).mono ?_
          (case side1 => exact cU ((Kd.R_reads' HO444.out).2.2))
          (case side2 => exact (Kd.R_reads' HO444.out).2.1)
          rintro e w70 ⟨v446, v449, rfl, ho0, ho1, hb⟩
          refine ⟨_, rfl, ?_⟩
          have n0 := Az (Kd.Q_mono (Kd.Q_told (Kd.Q_told (Kd.Q_old (qU HO_Z1.out) hb) (Kd.R_base ho0)) (Kd.R_base ho1)) (fun _ h_ => h_.1)); have n1 := Az (Kd.R_mono (Kd.R_told (Kd.R_told (Kd.R_old (rU HO_Z2.out) hb) (Kd.R_base ho0)) (Kd.R_base ho1)) (fun _ h_ => h_.1)); have n2 := Az (Kd.R_mono (Kd.R_told (Kd.R_told (Kd.R_old (rU HO_Z3.out) hb) (Kd.R_base ho0)) (Kd.R_base ho1)) (fun _ h_ => h_.1)); have n3 := Az (Kd.R_mono (Kd.R_told (Kd.R_told (Kd.R_old (rU HO_Z4.out) hb) (Kd.R_base ho0)) (Kd.R_base ho1)) (fun _ h_ => h_.1)); have n4 := Az (Kd.R_mono (Kd.R_told (Kd.R_told (Kd.R_old (rU HO_Z5.out) hb) (Kd.R_base ho0)) (Kd.R_base ho1)) (fun _ h_ => h_.1)); have n5 := Az (Kd.R_mono (Kd.R_told (Kd.R_told (Kd.R_old (rU HO440.out) hb) (Kd.R_base ho0)) (Kd.R_base ho1)) (fun _ h_ => h_.1)); have n6 := Az (Kd.R_mono (Kd.R_told (Kd.R_told (Kd.R_old (rU HO444.out) hb) (Kd.R_base ho0)) (Kd.R_base ho1)) (fun _ h_ => h_.1)); have n7 := Az (Kd.R_lower (Kd.R_new' (Kd.R_new' (Kd.R_new' (Kd.R_new' (Kd.R_new' (Kd.R_new' (Kd.R_new' ho0 (Kd.Q_lt (qU HO_Z1.out))) (Kd.R_lt (rU HO_Z2.out))) (Kd.R_lt (rU HO_Z3.out))) (Kd.R_lt (rU HO_Z4.out))) (Kd.R_lt (rU HO_Z5.out))) (Kd.R_lt (rU HO440.out))) (Kd.R_lt (rU HO444.out))) (below_size (bU3 HB.out GE419.out GE427.out GE435.out))); have n8 := Az (Kd.R_lower (Kd.R_new' (Kd.R_new' (Kd.R_new' (Kd.R_new' (Kd.R_new' (Kd.R_new' (Kd.R_new' ho1 (Kd.Q_lt (qU HO_Z1.out))) (Kd.R_lt (rU HO_Z2.out))) (Kd.R_lt (rU HO_Z3.out))) (Kd.R_lt (rU HO_Z4.out))) (Kd.R_lt (rU HO_Z5.out))) (Kd.R_lt (rU HO440.out))) (Kd.R_lt (rU HO444.out))) (below_size (bU3 HB.out GE419.out GE427.out GE435.out))); have n9 := Az (blk_below (g := gb419) (o := .cells #[.string t415, .slice Ao10 t416.length co10] 25 (0, 0)) (kU BK419.out) hb); have n10 := Az (blk_below (g := gb427) (o := .cells #[.slice Ao13 t420.length co13, .slice Ao16 t423.length co16] 29 (0, 0)) (kU BK427.out) hb); have n11 := Az (blk_below (g := gb435) (o := .cells #[.slice Ao20 t428.length co20, .slice Ao24 t431.length co24] 29 (0, 0)) (kU BK435.out) hb); have n12 := Az (below_step (bU3 HB.out GE419.out GE427.out GE435.out) hb); clear HO_Z1 HO_Z2 HO_Z3 HO_Z4 HO_Z5 HO440 HO444 BK419 BK427 BK435 HB; have HO_Z1 := n0; have HO_Z2 := n1; have HO_Z3 := n2; have HO_Z4 := n3; have HO_Z5 := n4; have HO440 := n5; have HO444 := n6; have HO447 := n7; have HO450 := n8; have BK419 := n9; have BK427 := n10; have BK435 := n11; have HB := n12; clear n0 n1 n2 n3 n4 n5 n6 n7 n8 n9 n10 n11 n12; (try clear hb); (try clear hb2); (try clear hk); (try clear hi); (try clear ho0); (try clear ho1)
          refine hK.out _ _ ⟨(blk_cell BK419.out 0).trans rfl, (blk_cell BK419.out 1).trans rfl⟩ (fun hHeld => ?_)
          clear hK K
          refine norm_ (a' := ?_) ?_ ?_
          rotate_left
          ·
           show Act.put _ (some 61) _ = _
           simp only [Act.put, List.setIfInBounds_toArray, List.set_cons_zero, List.set_cons_succ, i64_w, i32_w]
           rfl
          refine pure_ (i := 8) (N := some 53) (v := ?_) (a' := ?_) #[true, true, true, true, true, true, true, true, true, false, false, false, false, false] rfl rfl (any_of HT_.out (by kernel_rfl)) (fun _ _ _ h => h) (Or.inl ⟨by rfl, ?_⟩) ?_ ?_
          rotate_left
          ·
           intro w'
           go_simp
           with_reducible rfl
          rotate_left
          ·
           simp only [Act.put, List.setIfInBounds_toArray, List.set_cons_zero, List.set_cons_succ, i64_w, i32_w]
           rfl
          refine pure_ (i := 9) (N := some 62) (v := ?_) (a' := ?_) #[true, true, true, true, true, true, true, true, true, true, false, false, false, false] rfl rfl (any_of HT_.out (by kernel_rfl)) (fun _ _ _ h => h) (Or.inl ⟨by rfl, ?_⟩) ?_ ?_
          rotate_left
          ·
           intro w'
           go_simp
           with_reducible rfl
          rotate_left
          ·
           simp only [Act.put, List.setIfInBounds_toArray, List.set_cons_zero, List.set_cons_succ, i64_w, i32_w]
           rfl
          refine pure_ (i := 10) (N := some 63) (v := ?_) (a' := ?_) #[true, true, true, true, true, true, true, true, true, true, true, false, false, false] rfl rfl (any_of HT_.out (by kernel_rfl)) (fun _ _ _ h => h) (Or.inl ⟨by rfl, ?_⟩) ?_ ?_
          rotate_left
          ·
           intro w'
           go_simp
           with_reducible rfl
          rotate_left
          ·
           simp only [Act.put, List.setIfInBounds_toArray, List.set_cons_zero, List.set_cons_succ, i64_w, i32_w]
           rfl
          refine one_ (i := 11) (N := some 10) #[true, true, true, true, true, true, true, true, true, true, true, true, false, false] rfl rfl (one_of HT_.out (by kernel_rfl)) (by decide) (fun K hK => ?_)
          refine box_step ?hg (N := 10) ?hd (cs := #[.slice none 0 0, .slice none 0 0]) (t := 29) ?hr ?_; (case hd => rfl); (case hg => rfl); (case hr => first | (go_simp; done) | (go_simp; rfl))
          intro gb452 hg w71 hbox hb
          have n0 := Az (Kd.Q_below (qU HO_Z1.out) hb); have n1 := Az (Kd.R_below (rU HO_Z2.out) hb); have n2 := Az (Kd.R_below (rU HO_Z3.out) hb); have n3 := Az (Kd.R_below (rU HO_Z4.out) hb); have n4 := Az (Kd.R_below (rU HO_Z5.out) hb); have n5 := Az (Kd.R_below (rU HO440.out) hb); have n6 := Az (Kd.R_below (rU HO444.out) hb); have n7 := Az (Kd.R_below (rU HO447.out) hb); have n8 := Az (Kd.R_below (rU HO450.out) hb); have n9 := Az (blk_below (g := gb419) (o := .cells #[.string t415, .slice Ao10 t416.length co10] 25 (0, 0)) (kU BK419.out) hb); have n10 := Az (blk_below (g := gb427) (o := .cells #[.slice Ao13 t420.length co13, .slice Ao16 t423.length co16] 29 (0, 0)) (kU BK427.out) hb); have n11 := Az (blk_below (g := gb435) (o := .cells #[.slice Ao20 t428.length co20, .slice Ao24 t431.length co24] 29 (0, 0)) (kU BK435.out) hb); have n12 := Az (below_step (bU3 HB.out GE419.out GE427.out GE435.out) hb); have n13 := Az (hbox); have n14 := Az ((by rw [hg]; exact (below_size (bU3 HB.out GE419.out GE427.out GE435.out)) : w.heap.size ≤ gb452)); have n15 := Az ((by rw [hg]; exact (below_size (bU3 HB.out GE419.out GE427.out GE435.out)) : w.heap.size ≤ gb452)); have n16 := Az ((by rw [hg]; exact Nat.ne_of_lt (blk_lt (g := gb419) (o := .cells #[.string t415, .slice Ao10 t416.length co10] 25 (0, 0)) (kU BK419.out)) : gb419 ≠ gb452)); have n17 := Az ((by rw [hg]; exact Nat.ne_of_gt (blk_lt (g := gb419) (o := .cells #[.string t415, .slice Ao10 t416.length co10] 25 (0, 0)) (kU BK419.out)) : gb452 ≠ gb419)); have n18 := Az ((by rw [hg]; exact Nat.ne_of_lt (blk_lt (g := gb427) (o := .cells #[.slice Ao13 t420.length co13, .slice Ao16 t423.length co16] 29 (0, 0)) (kU BK427.out)) : gb427 ≠ gb452)); have n19 := Az ((by rw [hg]; exact Nat.ne_of_gt (blk_lt (g := gb427) (o := .cells #[.slice Ao13 t420.length co13, .slice Ao16 t423.length co16] 29 (0, 0)) (kU BK427.out)) : gb452 ≠ gb427)); have n20 := Az ((by rw [hg]; exact Nat.ne_of_lt (blk_lt (g := gb435) (o := .cells #[.slice Ao20 t428.length co20, .slice Ao24 t431.length co24] 29 (0, 0)) (kU BK435.out)) : gb435 ≠ gb452)); have n21 := Az ((by rw [hg]; exact Nat.ne_of_gt (blk_lt (g := gb435) (o := .cells #[.slice Ao20 t428.length co20, .slice Ao24 t431.length co24] 29 (0, 0)) (kU BK435.out)) : gb452 ≠ gb435)); clear HO_Z1 HO_Z2 HO_Z3 HO_Z4 HO_Z5 HO440 HO444 HO447 HO450 BK419 BK427 BK435 HB; have HO_Z1 := n0; have HO_Z2 := n1; have HO_Z3 := n2; have HO_Z4 := n3; have HO_Z5 := n4; have HO440 := n5; have HO444 := n6; have HO447 := n7; have HO450 := n8; have BK419 := n9; have BK427 := n10; have BK435 := n11; have HB := n12; have BK452 := n13; have GW452 := n14; have GE452 := n15; have NB419_452 := n16; have NB452_419 := n17; have NB427_452 := n18; have NB452_427 := n19; have NB435_452 := n20; have NB452_435 := n21; clear n0 n1 n2 n3 n4 n5 n6 n7 n8 n9 n10 n11 n12 n13 n14 n15 n16 n17 n18 n19 n20 n21 hb hbox hg
          refine hK.out _ _ ⟨(blk_cell BK419.out 0).trans rfl, (blk_cell BK419.out 1).trans rfl⟩ (fun hHeld => ?_)
          clear hK K
          refine norm_ (a' := ?_) ?_ ?_
          rotate_left
          ·
           show Act.put _ (some 10) _ = _
           simp only [Act.put, List.setIfInBounds_toArray, List.set_cons_zero, List.set_cons_succ, i64_w, i32_w]
           rfl
          exact norm_ (by simp only [putAll, Act.put, List.setIfInBounds_toArray, List.set_cons_zero, List.set_cons_succ]) (hCont (.slice Ao69 y442.length co69, v446, v449, gb452) _ ⟨hHeld, (by (with_reducible repeat (first | apply Kd.R_alloc | apply Kd.R_drewN | apply Kd.R_drew)); exact Kd.R_mono HO440.out (fun _ hk => ⟨hk.1.1.2, ⟨hk.1.2, ⟨hk.2, ⟨hk.1.1.1.1.1.1.1.2, ⟨hk.1.1.1.1.1.1.2, ⟨hk.1.1.1.1.1.2, ⟨hk.1.1.1.1.2, hk.1.1.1.2⟩⟩⟩⟩⟩⟩⟩)), (by (with_reducible repeat (first | apply Kd.R_alloc | apply Kd.R_drewN | apply Kd.R_drew)); exact Kd.R_mono HO444.out (fun _ hk => ⟨hk.1.1.2, ⟨hk.1.2, ⟨hk.2, ⟨hk.1.1.1.1.1.1.1.2, ⟨hk.1.1.1.1.1.1.2, ⟨hk.1.1.1.1.1.2, ⟨hk.1.1.1.1.2, hk.1.1.1.2⟩⟩⟩⟩⟩⟩⟩)), (by (with_reducible repeat (first | apply Kd.R_alloc | apply Kd.R_drewN | apply Kd.R_drew)); exact Kd.R_mono HO447.out (fun _ hk => ⟨hk.1.2, ⟨hk.2, ⟨hk.1.1.1.1.1.1.1, ⟨hk.1.1.1.1.1.1.2, ⟨hk.1.1.1.1.1.2, ⟨hk.1.1.1.1.2, ⟨hk.1.1.1.2, hk.1.1.2⟩⟩⟩⟩⟩⟩⟩)), (by (with_reducible repeat (first | apply Kd.R_alloc | apply Kd.R_drewN | apply Kd.R_drew)); exact Kd.R_mono HO450.out (fun _ hk => ⟨hk.1.2, ⟨hk.2, ⟨hk.1.1.1.1.1.1.1, ⟨hk.1.1.1.1.1.1.2, ⟨hk.1.1.1.1.1.2, ⟨hk.1.1.1.1.2, ⟨hk.1.1.1.2, hk.1.1.2⟩⟩⟩⟩⟩⟩⟩)), (by (with_reducible repeat (first | apply Kd.Q_alloc | apply Kd.Q_drewN | apply Kd.Q_drew)); exact Kd.Q_mono HO_Z1.out (fun _ hk => ⟨hk.1.1.1.2, ⟨hk.1.1.2, ⟨hk.1.2, ⟨hk.2, ⟨hk.1.1.1.1.1, ⟨hk.1.1.1.1.2.1, ⟨hk.1.1.1.1.2.2.1, hk.1.1.1.1.2.2.2⟩⟩⟩⟩⟩⟩⟩)), (by (with_reducible repeat (first | apply Kd.R_alloc | apply Kd.R_drewN | apply Kd.R_drew)); exact Kd.R_mono HO_Z2.out (fun _ hk => ⟨hk.1.1.1.2, ⟨hk.1.1.2, ⟨hk.1.2, ⟨hk.2, ⟨hk.1.1.1.1.1, ⟨hk.1.1.1.1.2.1, ⟨hk.1.1.1.1.2.2.1, hk.1.1.1.1.2.2.2⟩⟩⟩⟩⟩⟩⟩)), (by (with_reducible repeat (first | apply Kd.R_alloc | apply Kd.R_drewN | apply Kd.R_drew)); exact Kd.R_mono HO_Z3.out (fun _ hk => ⟨hk.1.1.1.2, ⟨hk.1.1.2, ⟨hk.1.2, ⟨hk.2, ⟨hk.1.1.1.1.1, ⟨hk.1.1.1.1.2.1, ⟨hk.1.1.1.1.2.2.1, hk.1.1.1.1.2.2.2⟩⟩⟩⟩⟩⟩⟩)), (by (with_reducible repeat (first | apply Kd.R_alloc | apply Kd.R_drewN | apply Kd.R_drew)); exact Kd.R_mono HO_Z4.out (fun _ hk => ⟨hk.1.1.1.2, ⟨hk.1.1.2, ⟨hk.1.2, ⟨hk.2, ⟨hk.1.1.1.1.1, ⟨hk.1.1.1.1.2.1, ⟨hk.1.1.1.1.2.2.1, hk.1.1.1.1.2.2.2⟩⟩⟩⟩⟩⟩⟩)), (by (with_reducible repeat (first | apply Kd.R_alloc | apply Kd.R_drewN | apply Kd.R_drew)); exact Kd.R_mono HO_Z5.out (fun _ hk => ⟨hk.1.1.1.2, ⟨hk.1.1.2, ⟨hk.1.2, ⟨hk.2, ⟨hk.1.1.1.1.1, ⟨hk.1.1.1.1.2.1, ⟨hk.1.1.1.1.2.2.1, hk.1.1.1.1.2.2.2⟩⟩⟩⟩⟩⟩⟩)), (kU BK419.out), (kU BK427.out), (kU BK435.out), (kU BK452.out), GW452.out, GE452.out, NB419_452.out, NB452_419.out, NB427_452.out, NB452_427.out, NB435_452.out, NB452_435.out, (bU4 HB.out GE419.out GE427.out GE435.out GE452.out)⟩)
         ·
          skip
          refine box_step ?hg (N := 10) ?hd (cs := #[.slice none 0 0, .slice none 0 0]) (t := 29) ?hr ?_; (case hd => rfl); (case hg => rfl); (case hr => first | (go_simp; done) | (go_simp; rfl))
          intro gb452 hg w70 hbox hb
          have n0 := Az (Kd.Q_below (qU HO_Z1.out) hb); have n1 := Az (Kd.R_below (rU HO_Z2.out) hb); have n2 := Az (Kd.R_below (rU HO_Z3.out) hb); have n3 := Az (Kd.R_below (rU HO_Z4.out) hb); have n4 := Az (Kd.R_below (rU HO_Z5.out) hb); have n5 := Az (Kd.R_below (rU HO440.out) hb); have n6 := Az (Kd.R_below (rU HO444.out) hb); have n7 := Az (blk_below (g := gb419) (o := .cells #[.string t415, .slice Ao10 t416.length co10] 25 (0, 0)) (kU BK419.out) hb); have n8 := Az (blk_below (g := gb427) (o := .cells #[.slice Ao13 t420.length co13, .slice Ao16 t423.length co16] 29 (0, 0)) (kU BK427.out) hb); have n9 := Az (blk_below (g := gb435) (o := .cells #[.slice Ao20 t428.length co20, .slice Ao24 t431.length co24] 29 (0, 0)) (kU BK435.out) hb); have n10 := Az (below_step (bU3 HB.out GE419.out GE427.out GE435.out) hb); have n11 := Az (hbox); have n12 := Az ((by rw [hg]; exact (below_size (bU3 HB.out GE419.out GE427.out GE435.out)) : w.heap.size ≤ gb452)); have n13 := Az ((by rw [hg]; exact (below_size (bU3 HB.out GE419.out GE427.out GE435.out)) : w.heap.size ≤ gb452)); have n14 := Az ((by rw [hg]; exact Nat.ne_of_lt (blk_lt (g := gb419) (o := .cells #[.string t415, .slice Ao10 t416.length co10] 25 (0, 0)) (kU BK419.out)) : gb419 ≠ gb452)); have n15 := Az ((by rw [hg]; exact Nat.ne_of_gt (blk_lt (g := gb419) (o := .cells #[.string t415, .slice Ao10 t416.length co10] 25 (0, 0)) (kU BK419.out)) : gb452 ≠ gb419)); have n16 := Az ((by rw [hg]; exact Nat.ne_of_lt (blk_lt (g := gb427) (o := .cells #[.slice Ao13 t420.length co13, .slice Ao16 t423.length co16] 29 (0, 0)) (kU BK427.out)) : gb427 ≠ gb452)); have n17 := Az ((by rw [hg]; exact Nat.ne_of_gt (blk_lt (g := gb427) (o := .cells #[.slice Ao13 t420.length co13, .slice Ao16 t423.length co16] 29 (0, 0)) (kU BK427.out)) : gb452 ≠ gb427)); have n18 := Az ((by rw [hg]; exact Nat.ne_of_lt (blk_lt (g := gb435) (o := .cells #[.slice Ao20 t428.length co20, .slice Ao24 t431.length co24] 29 (0, 0)) (kU BK435.out)) : gb435 ≠ gb452)); have n19 := Az ((by rw [hg]; exact Nat.ne_of_gt (blk_lt (g := gb435) (o := .cells #[.slice Ao20 t428.length co20, .slice Ao24 t431.length co24] 29 (0, 0)) (kU BK435.out)) : gb452 ≠ gb435)); clear HO_Z1 HO_Z2 HO_Z3 HO_Z4 HO_Z5 HO440 HO444 BK419 BK427 BK435 HB; have HO_Z1 := n0; have HO_Z2 := n1; have HO_Z3 := n2; have HO_Z4 := n3; have HO_Z5 := n4; have HO440 := n5; have HO444 := n6; have BK419 := n7; have BK427 := n8; have BK435 := n9; have HB := n10; have BK452 := n11; have GW452 := n12; have GE452 := n13; have NB419_452 := n14; have NB452_419 := n15; have NB427_452 := n16; have NB452_427 := n17; have NB435_452 := n18; have NB452_435 := n19; clear n0 n1 n2 n3 n4 n5 n6 n7 n8 n9 n10 n11 n12 n13 n14 n15 n16 n17 n18 n19 hb hbox hg
          refine hK.out _ _ ⟨(blk_cell BK419.out 0).trans rfl, (blk_cell BK419.out 1).trans rfl⟩ (fun hHeld => ?_)
          clear hK K
          refine norm_ (a' := ?_) ?_ ?_
          rotate_left
          ·
           show Act.put _ (some 10) _ = _
           simp only [Act.put, List.setIfInBounds_toArray, List.set_cons_zero, List.set_cons_succ, i64_w, i32_w]
           rfl
          refine one_ (i := 7) (N := some 61) #[true, true, true, true, true, true, true, true, false, false, false, true, false, false] rfl rfl (one_of HT_.out (by kernel_rfl)) (by decide) (fun K hK => ?_)
          refine goes_ Try.func18 (by kernel_rfl) rfl #[.agg #[.string t415, .slice Ao69 y442.length co69]] (by rfl) rfl rfl (by (try simp only [List.map_toArray, List.map_cons, List.map_nil]); first | done | rfl | (simp only [List.length_drop, List.length_take]; rfl)) ?_
          with_reducible refine (impl_TreeMap.calls kj5 t415 _ _ y442 t445 t448 t451 _ ?side1 ?side2 A52.out).mono ?_
          (case side1 => exact cU ((Kd.R_reads' HO444.out).2.2))
          (case side2 => exact (Kd.R_reads' HO444.out).2.1)
          rintro e w71 ⟨v446, v449, rfl, ho0, ho1, hb⟩
          refine ⟨_, rfl, ?_⟩
          have n0 := Az (Kd.Q_mono (Kd.Q_told (Kd.Q_told (Kd.Q_old (qU HO_Z1.out) hb) (Kd.R_base ho0)) (Kd.R_base ho1)) (fun _ h_ => h_.1)); have n1 := Az (Kd.R_mono (Kd.R_told (Kd.R_told (Kd.R_old (rU HO_Z2.out) hb) (Kd.R_base ho0)) (Kd.R_base ho1)) (fun _ h_ => h_.1)); have n2 := Az (Kd.R_mono (Kd.R_told (Kd.R_told (Kd.R_old (rU HO_Z3.out) hb) (Kd.R_base ho0)) (Kd.R_base ho1)) (fun _ h_ => h_.1)); have n3 := Az (Kd.R_mono (Kd.R_told (Kd.R_told (Kd.R_old (rU HO_Z4.out) hb) (Kd.R_base ho0)) (Kd.R_base ho1)) (fun _ h_ => h_.1)); have n4 := Az (Kd.R_mono (Kd.R_told (Kd.R_told (Kd.R_old (rU HO_Z5.out) hb) (Kd.R_base ho0)) (Kd.R_base ho1)) (fun _ h_ => h_.1)); have n5 := Az (Kd.R_mono (Kd.R_told (Kd.R_told (Kd.R_old (rU HO440.out) hb) (Kd.R_base ho0)) (Kd.R_base ho1)) (fun _ h_ => h_.1)); have n6 := Az (Kd.R_mono (Kd.R_told (Kd.R_told (Kd.R_old (rU HO444.out) hb) (Kd.R_base ho0)) (Kd.R_base ho1)) (fun _ h_ => h_.1)); have n7 := Az (Kd.R_lower (Kd.R_new' (Kd.R_new' (Kd.R_new' (Kd.R_new' (Kd.R_new' (Kd.R_new' (Kd.R_new' ho0 (Kd.Q_lt (qU HO_Z1.out))) (Kd.R_lt (rU HO_Z2.out))) (Kd.R_lt (rU HO_Z3.out))) (Kd.R_lt (rU HO_Z4.out))) (Kd.R_lt (rU HO_Z5.out))) (Kd.R_lt (rU HO440.out))) (Kd.R_lt (rU HO444.out))) (below_size (bU4 HB.out GE419.out GE427.out GE435.out GE452.out))); have n8 := Az (Kd.R_lower (Kd.R_new' (Kd.R_new' (Kd.R_new' (Kd.R_new' (Kd.R_new' (Kd.R_new' (Kd.R_new' ho1 (Kd.Q_lt (qU HO_Z1.out))) (Kd.R_lt (rU HO_Z2.out))) (Kd.R_lt (rU HO_Z3.out))) (Kd.R_lt (rU HO_Z4.out))) (Kd.R_lt (rU HO_Z5.out))) (Kd.R_lt (rU HO440.out))) (Kd.R_lt (rU HO444.out))) (below_size (bU4 HB.out GE419.out GE427.out GE435.out GE452.out))); have n9 := Az (blk_below (g := gb419) (o := .cells #[.string t415, .slice Ao10 t416.length co10] 25 (0, 0)) (kU BK419.out) hb); have n10 := Az (blk_below (g := gb427) (o := .cells #[.slice Ao13 t420.length co13, .slice Ao16 t423.length co16] 29 (0, 0)) (kU BK427.out) hb); have n11 := Az (blk_below (g := gb435) (o := .cells #[.slice Ao20 t428.length co20, .slice Ao24 t431.length co24] 29 (0, 0)) (kU BK435.out) hb); have n12 := Az (blk_below (g := gb452) (o := .cells #[.slice none 0 0, .slice none 0 0] 29 (0, 0)) (kU BK452.out) hb); have n13 := Az (below_step (bU4 HB.out GE419.out GE427.out GE435.out GE452.out) hb); clear HO_Z1 HO_Z2 HO_Z3 HO_Z4 HO_Z5 HO440 HO444 BK419 BK427 BK435 BK452 HB; have HO_Z1 := n0; have HO_Z2 := n1; have HO_Z3 := n2; have HO_Z4 := n3; have HO_Z5 := n4; have HO440 := n5; have HO444 := n6; have HO447 := n7; have HO450 := n8; have BK419 := n9; have BK427 := n10; have BK435 := n11; have BK452 := n12; have HB := n13; clear n0 n1 n2 n3 n4 n5 n6 n7 n8 n9 n10 n11 n12 n13; (try clear hb); (try clear hb2); (try clear hk); (try clear hi); (try clear ho0); (try clear ho1)
          refine hK.out _ _ ⟨(blk_cell BK419.out 0).trans rfl, (blk_cell BK419.out 1).trans rfl⟩ (fun hHeld => ?_)
          clear hK K
          refine norm_ (a' := ?_) ?_ ?_
          rotate_left
          ·
           show Act.put _ (some 61) _ = _
           simp only [Act.put, List.setIfInBounds_toArray, List.set_cons_zero, List.set_cons_succ, i64_w, i32_w]
           rfl
          refine pure_ (i := 8) (N := some 53) (v := ?_) (a' := ?_) #[true, true, true, true, true, true, true, true, true, false, false, true, false, false] rfl rfl (any_of HT_.out (by kernel_rfl)) (fun _ _ _ h => h) (Or.inl ⟨by rfl, ?_⟩) ?_ ?_
          rotate_left
          ·
           intro w'
           go_simp
           with_reducible rfl
          rotate_left
          ·
           simp only [Act.put, List.setIfInBounds_toArray, List.set_cons_zero, List.set_cons_succ, i64_w, i32_w]
           rfl
          refine pure_ (i := 9) (N := some 62) (v := ?_) (a' := ?_) #[true, true, true, true, true, true, true, true, true, true, false, true, false, false] rfl rfl (any_of HT_.out (by kernel_rfl)) (fun _ _ _ h => h) (Or.inl ⟨by rfl, ?_⟩) ?_ ?_
          rotate_left
          ·
           intro w'
           go_simp
           with_reducible rfl
          rotate_left
          ·
           simp only [Act.put, List.setIfInBounds_toArray, List.set_cons_zero, List.set_cons_succ, i64_w, i32_w]
           rfl
          refine pure_ (i := 10) (N := some 63) (v := ?_) (a' := ?_) #[true, true, true, true, true, true, true, true, true, true, true, true, false, false] rfl rfl (any_of HT_.out (by kernel_rfl)) (fun _ _ _ h => h) (Or.inl ⟨by rfl, ?_⟩) ?_ ?_
          rotate_left
          ·
           intro w'
           go_simp
           with_reducible rfl
          rotate_left
          ·
           simp only [Act.put, List.setIfInBounds_toArray, List.set_cons_zero, List.set_cons_succ, i64_w, i32_w]
           rfl
          exact norm_ (by simp only [putAll, Act.put, List.setIfInBounds_toArray, List.set_cons_zero, List.set_cons_succ]) (hCont (.slice Ao69 y442.length co69, v446, v449, gb452) _ ⟨hHeld, (by (with_reducible repeat (first | apply Kd.R_alloc | apply Kd.R_drewN | apply Kd.R_drew)); exact Kd.R_mono HO440.out (fun _ hk => ⟨hk.1.1.2, ⟨hk.1.2, ⟨hk.2, ⟨hk.1.1.1.1.1.1.1.2, ⟨hk.1.1.1.1.1.1.2, ⟨hk.1.1.1.1.1.2, ⟨hk.1.1.1.1.2, hk.1.1.1.2⟩⟩⟩⟩⟩⟩⟩)), (by (with_reducible repeat (first | apply Kd.R_alloc | apply Kd.R_drewN | apply Kd.R_drew)); exact Kd.R_mono HO444.out (fun _ hk => ⟨hk.1.1.2, ⟨hk.1.2, ⟨hk.2, ⟨hk.1.1.1.1.1.1.1.2, ⟨hk.1.1.1.1.1.1.2, ⟨hk.1.1.1.1.1.2, ⟨hk.1.1.1.1.2, hk.1.1.1.2⟩⟩⟩⟩⟩⟩⟩)), (by (with_reducible repeat (first | apply Kd.R_alloc | apply Kd.R_drewN | apply Kd.R_drew)); exact Kd.R_mono HO447.out (fun _ hk => ⟨hk.1.2, ⟨hk.2, ⟨hk.1.1.1.1.1.1.1, ⟨hk.1.1.1.1.1.1.2, ⟨hk.1.1.1.1.1.2, ⟨hk.1.1.1.1.2, ⟨hk.1.1.1.2, hk.1.1.2⟩⟩⟩⟩⟩⟩⟩)), (by (with_reducible repeat (first | apply Kd.R_alloc | apply Kd.R_drewN | apply Kd.R_drew)); exact Kd.R_mono HO450.out (fun _ hk => ⟨hk.1.2, ⟨hk.2, ⟨hk.1.1.1.1.1.1.1, ⟨hk.1.1.1.1.1.1.2, ⟨hk.1.1.1.1.1.2, ⟨hk.1.1.1.1.2, ⟨hk.1.1.1.2, hk.1.1.2⟩⟩⟩⟩⟩⟩⟩)), (by (with_reducible repeat (first | apply Kd.Q_alloc | apply Kd.Q_drewN | apply Kd.Q_drew)); exact Kd.Q_mono HO_Z1.out (fun _ hk => ⟨hk.1.1.1.2, ⟨hk.1.1.2, ⟨hk.1.2, ⟨hk.2, ⟨hk.1.1.1.1.1, ⟨hk.1.1.1.1.2.1, ⟨hk.1.1.1.1.2.2.1, hk.1.1.1.1.2.2.2⟩⟩⟩⟩⟩⟩⟩)), (by (with_reducible repeat (first | apply Kd.R_alloc | apply Kd.R_drewN | apply Kd.R_drew)); exact Kd.R_mono HO_Z2.out (fun _ hk => ⟨hk.1.1.1.2, ⟨hk.1.1.2, ⟨hk.1.2, ⟨hk.2, ⟨hk.1.1.1.1.1, ⟨hk.1.1.1.1.2.1, ⟨hk.1.1.1.1.2.2.1, hk.1.1.1.1.2.2.2⟩⟩⟩⟩⟩⟩⟩)), (by (with_reducible repeat (first | apply Kd.R_alloc | apply Kd.R_drewN | apply Kd.R_drew)); exact Kd.R_mono HO_Z3.out (fun _ hk => ⟨hk.1.1.1.2, ⟨hk.1.1.2, ⟨hk.1.2, ⟨hk.2, ⟨hk.1.1.1.1.1, ⟨hk.1.1.1.1.2.1, ⟨hk.1.1.1.1.2.2.1, hk.1.1.1.1.2.2.2⟩⟩⟩⟩⟩⟩⟩)), (by (with_reducible repeat (first | apply Kd.R_alloc | apply Kd.R_drewN | apply Kd.R_drew)); exact Kd.R_mono HO_Z4.out (fun _ hk => ⟨hk.1.1.1.2, ⟨hk.1.1.2, ⟨hk.1.2, ⟨hk.2, ⟨hk.1.1.1.1.1, ⟨hk.1.1.1.1.2.1, ⟨hk.1.1.1.1.2.2.1, hk.1.1.1.1.2.2.2⟩⟩⟩⟩⟩⟩⟩)), (by (with_reducible repeat (first | apply Kd.R_alloc | apply Kd.R_drewN | apply Kd.R_drew)); exact Kd.R_mono HO_Z5.out (fun _ hk => ⟨hk.1.1.1.2, ⟨hk.1.1.2, ⟨hk.1.2, ⟨hk.2, ⟨hk.1.1.1.1.1, ⟨hk.1.1.1.1.2.1, ⟨hk.1.1.1.1.2.2.1, hk.1.1.1.1.2.2.2⟩⟩⟩⟩⟩⟩⟩)), (kU BK419.out), (kU BK427.out), (kU BK435.out), (kU BK452.out), GW452.out, GE452.out, NB419_452.out, NB452_419.out, NB427_452.out, NB452_427.out, NB435_452.out, NB452_435.out, (bU4 HB.out GE419.out GE427.out GE435.out GE452.out)⟩)
        ·
         skip
         refine box_step ?hg (N := 10) ?hd (cs := #[.slice none 0 0, .slice none 0 0]) (t := 29) ?hr ?_; (case hd => rfl); (case hg => rfl); (case hr => first | (go_simp; done) | (go_simp; rfl))
         intro gb452 hg w67 hbox hb
         have n0 := Az (Kd.Q_below (qU HO_Z1.out) hb); have n1 := Az (Kd.R_below (rU HO_Z2.out) hb); have n2 := Az (Kd.R_below (rU HO_Z3.out) hb); have n3 := Az (Kd.R_below (rU HO_Z4.out) hb); have n4 := Az (Kd.R_below (rU HO_Z5.out) hb); have n5 := Az (Kd.R_below (rU HO440.out) hb); have n6 := Az (blk_below (g := gb419) (o := .cells #[.string t415, .slice Ao10 t416.length co10] 25 (0, 0)) (kU BK419.out) hb); have n7 := Az (blk_below (g := gb427) (o := .cells #[.slice Ao13 t420.length co13, .slice Ao16 t423.length co16] 29 (0, 0)) (kU BK427.out) hb); have n8 := Az (blk_below (g := gb435) (o := .cells #[.slice Ao20 t428.length co20, .slice Ao24 t431.length co24] 29 (0, 0)) (kU BK435.out) hb); have n9 := Az (below_step (bU3 HB.out GE419.out GE427.out GE435.out) hb); have n10 := Az (hbox); have n11 := Az ((by rw [hg]; exact (below_size (bU3 HB.out GE419.out GE427.out GE435.out)) : w.heap.size ≤ gb452)); have n12 := Az ((by rw [hg]; exact (below_size (bU3 HB.out GE419.out GE427.out GE435.out)) : w.heap.size ≤ gb452)); have n13 := Az ((by rw [hg]; exact Nat.ne_of_lt (blk_lt (g := gb419) (o := .cells #[.string t415, .slice Ao10 t416.length co10] 25 (0, 0)) (kU BK419.out)) : gb419 ≠ gb452)); have n14 := Az ((by rw [hg]; exact Nat.ne_of_gt (blk_lt (g := gb419) (o := .cells #[.string t415, .slice Ao10 t416.length co10] 25 (0, 0)) (kU BK419.out)) : gb452 ≠ gb419)); have n15 := Az ((by rw [hg]; exact Nat.ne_of_lt (blk_lt (g := gb427) (o := .cells #[.slice Ao13 t420.length co13, .slice Ao16 t423.length co16] 29 (0, 0)) (kU BK427.out)) : gb427 ≠ gb452)); have n16 := Az ((by rw [hg]; exact Nat.ne_of_gt (blk_lt (g := gb427) (o := .cells #[.slice Ao13 t420.length co13, .slice Ao16 t423.length co16] 29 (0, 0)) (kU BK427.out)) : gb452 ≠ gb427)); have n17 := Az ((by rw [hg]; exact Nat.ne_of_lt (blk_lt (g := gb435) (o := .cells #[.slice Ao20 t428.length co20, .slice Ao24 t431.length co24] 29 (0, 0)) (kU BK435.out)) : gb435 ≠ gb452)); have n18 := Az ((by rw [hg]; exact Nat.ne_of_gt (blk_lt (g := gb435) (o := .cells #[.slice Ao20 t428.length co20, .slice Ao24 t431.length co24] 29 (0, 0)) (kU BK435.out)) : gb452 ≠ gb435)); clear HO_Z1 HO_Z2 HO_Z3 HO_Z4 HO_Z5 HO440 BK419 BK427 BK435 HB; have HO_Z1 := n0; have HO_Z2 := n1; have HO_Z3 := n2; have HO_Z4 := n3; have HO_Z5 := n4; have HO440 := n5; have BK419 := n6; have BK427 := n7; have BK435 := n8; have HB := n9; have BK452 := n10; have GW452 := n11; have GE452 := n12; have NB419_452 := n13; have NB452_419 := n14; have NB427_452 := n15; have NB452_427 := n16; have NB435_452 := n17; have NB452_435 := n18; clear n0 n1 n2 n3 n4 n5 n6 n7 n8 n9 n10 n11 n12 n13 n14 n15 n16 n17 n18 hb hbox hg
         refine hK.out _ _ ⟨(blk_cell BK419.out 0).trans rfl, (blk_cell BK419.out 1).trans rfl⟩ (fun hHeld => ?_)
         clear hK K
         refine norm_ (a' := ?_) ?_ ?_
         rotate_left
         ·
          show Act.put _ (some 10) _ = _
          simp only [Act.put, List.setIfInBounds_toArray, List.set_cons_zero, List.set_cons_succ, i64_w, i32_w]
          rfl
         refine one_ (i := 5) (N := some 59) #[true, true, true, true, true, true, false, false, false, false, false, true, false, false] rfl rfl (one_of HT_.out (by kernel_rfl)) (by decide) (fun K hK => ?_)
         refine Kd.R_make_step (Kd.int .i64) _ 3 (by rfl) (N := 59) rfl 23 _ _ rfl (t416.length : Int) rfl rfl Try.underlying23 (.int .i64 0) 8 info3 rfl (by decide) (by omega) 0 (ok := fun _ => True) (okp := fun _ => True) rfl (fun _ hk => hk) trivial (oA) (Nat.le_trans (Nat.mul_le_mul_right _ (oA : (t416.length : Int).toNat ≤ 35184372088832)) (by omega)) (Below.refl _ _) (Nat.le_refl _) ?_
         intro v443 w68 ho69 hb hg_ hnew_
         clear hg_ hnew_; (first | rw [← Ny442.out] at ho69 | (simp only [Int.reduceToNat] at ho69; rw [← Ny442.out] at ho69)); have n0 := Az (Kd.Q_elder' (qU HO_Z1.out) (Kd.R_base ho69) hb); have n1 := Az (Kd.R_elder' (rU HO_Z2.out) (Kd.R_base ho69) hb); have n2 := Az (Kd.R_elder' (rU HO_Z3.out) (Kd.R_base ho69) hb); have n3 := Az (Kd.R_elder' (rU HO_Z4.out) (Kd.R_base ho69) hb); have n4 := Az (Kd.R_elder' (rU HO_Z5.out) (Kd.R_base ho69) hb); have n5 := Az (Kd.R_elder' (rU HO440.out) (Kd.R_base ho69) hb); have n6 := Az (Kd.R_lower (Kd.R_new' (Kd.R_new' (Kd.R_new' (Kd.R_new' (Kd.R_new' (Kd.R_new' ho69 (Kd.Q_lt (qU HO_Z1.out))) (Kd.R_lt (rU HO_Z2.out))) (Kd.R_lt (rU HO_Z3.out))) (Kd.R_lt (rU HO_Z4.out))) (Kd.R_lt (rU HO_Z5.out))) (Kd.R_lt (rU HO440.out))) (below_size (bU4 HB.out GE419.out GE427.out GE435.out GE452.out))); have n7 := Az (blk_below (g := gb419) (o := .cells #[.string t415, .slice Ao10 t416.length co10] 25 (0, 0)) (kU BK419.out) hb); have n8 := Az (blk_below (g := gb427) (o := .cells #[.slice Ao13 t420.length co13, .slice Ao16 t423.length co16] 29 (0, 0)) (kU BK427.out) hb); have n9 := Az (blk_below (g := gb435) (o := .cells #[.slice Ao20 t428.length co20, .slice Ao24 t431.length co24] 29 (0, 0)) (kU BK435.out) hb); have n10 := Az (blk_below (g := gb452) (o := .cells #[.slice none 0 0, .slice none 0 0] 29 (0, 0)) (kU BK452.out) hb); have n11 := Az (below_step (bU4 HB.out GE419.out GE427.out GE435.out GE452.out) hb); clear HO_Z1 HO_Z2 HO_Z3 HO_Z4 HO_Z5 HO440 BK419 BK427 BK435 BK452 HB; have HO_Z1 := n0; have HO_Z2 := n1; have HO_Z3 := n2; have HO_Z4 := n3; have HO_Z5 := n4; have HO440 := n5; have HO444 := n6; have BK419 := n7; have BK427 := n8; have BK435 := n9; have BK452 := n10; have HB := n11; clear n0 n1 n2 n3 n4 n5 n6 n7 n8 n9 n10 n11 hb ho69; obtain ⟨Ao70, co70, eo70⟩ := Kd.R_slice HO444.out; (first | subst eo70 | (injection eo70 with f1_ f2_ f3_; have f4_ := f1_.symm; have f5_ := f3_.symm; clear f1_ f2_ f3_; subst f4_; subst f5_))
         refine hK.out _ _ ⟨(blk_cell BK419.out 0).trans rfl, (blk_cell BK419.out 1).trans rfl⟩ (fun hHeld => ?_)
         clear hK K
         refine norm_ (a' := ?_) ?_ ?_
         rotate_left
         ·
          show Act.put _ (some 59) _ = _
          simp only [Act.put, List.setIfInBounds_toArray, List.set_cons_zero, List.set_cons_succ, i64_w, i32_w]
          rfl
         refine pure_ (i := 6) (N := some 60) (v := ?_) (a' := ?_) #[true, true, true, true, true, true, true, false, false, false, false, true, false, false] rfl rfl (any_of HT_.out (by kernel_rfl)) (fun _ _ _ h => h) (Or.inl ⟨by rfl, ?_⟩) ?_ ?_
         rotate_left
         ·
          intro w'
          go_simp
          with_reducible rfl
         rotate_left
         ·
          simp only [Act.put, List.setIfInBounds_toArray, List.set_cons_zero, List.set_cons_succ, i64_w, i32_w]
          rfl
         refine one_ (i := 7) (N := some 61) #[true, true, true, true, true, true, true, true, false, false, false, true, false, false] rfl rfl (one_of HT_.out (by kernel_rfl)) (by decide) (fun K hK => ?_)
         refine goes_ Try.func18 (by kernel_rfl) rfl #[.agg #[.string t415, .slice Ao70 y442.length co70]] (by rfl) rfl rfl (by (try simp only [List.map_toArray, List.map_cons, List.map_nil]); first | done | rfl | (simp only [List.length_drop, List.length_take]; rfl)) ?_
         with_reducible refine (impl_TreeMap.calls kj5 t415 _ _ y442 t445 t448 t451 _ ?side1 ?side2 A52.out).mono ?_
         (case side1 => exact cU ((Kd.R_reads' HO444.out).2.2))
         (case side2 => exact (Kd.R_reads' HO444.out).2.1)
         rintro e w71 ⟨v446, v449, rfl, ho0, ho1, hb⟩
         refine ⟨_, rfl, ?_⟩
         have n0 := Az (Kd.Q_mono (Kd.Q_told (Kd.Q_told (Kd.Q_old (qU HO_Z1.out) hb) (Kd.R_base ho0)) (Kd.R_base ho1)) (fun _ h_ => h_.1)); have n1 := Az (Kd.R_mono (Kd.R_told (Kd.R_told (Kd.R_old (rU HO_Z2.out) hb) (Kd.R_base ho0)) (Kd.R_base ho1)) (fun _ h_ => h_.1)); have n2 := Az (Kd.R_mono (Kd.R_told (Kd.R_told (Kd.R_old (rU HO_Z3.out) hb) (Kd.R_base ho0)) (Kd.R_base ho1)) (fun _ h_ => h_.1)); have n3 := Az (Kd.R_mono (Kd.R_told (Kd.R_told (Kd.R_old (rU HO_Z4.out) hb) (Kd.R_base ho0)) (Kd.R_base ho1)) (fun _ h_ => h_.1)); have n4 := Az (Kd.R_mono (Kd.R_told (Kd.R_told (Kd.R_old (rU HO_Z5.out) hb) (Kd.R_base ho0)) (Kd.R_base ho1)) (fun _ h_ => h_.1)); have n5 := Az (Kd.R_mono (Kd.R_told (Kd.R_told (Kd.R_old (rU HO440.out) hb) (Kd.R_base ho0)) (Kd.R_base ho1)) (fun _ h_ => h_.1)); have n6 := Az (Kd.R_mono (Kd.R_told (Kd.R_told (Kd.R_old (rU HO444.out) hb) (Kd.R_base ho0)) (Kd.R_base ho1)) (fun _ h_ => h_.1)); have n7 := Az (Kd.R_lower (Kd.R_new' (Kd.R_new' (Kd.R_new' (Kd.R_new' (Kd.R_new' (Kd.R_new' (Kd.R_new' ho0 (Kd.Q_lt (qU HO_Z1.out))) (Kd.R_lt (rU HO_Z2.out))) (Kd.R_lt (rU HO_Z3.out))) (Kd.R_lt (rU HO_Z4.out))) (Kd.R_lt (rU HO_Z5.out))) (Kd.R_lt (rU HO440.out))) (Kd.R_lt (rU HO444.out))) (below_size (bU4 HB.out GE419.out GE427.out GE435.out GE452.out))); have n8 := Az (Kd.R_lower (Kd.R_new' (Kd.R_new' (Kd.R_new' (Kd.R_new' (Kd.R_new' (Kd.R_new' (Kd.R_new' ho1 (Kd.Q_lt (qU HO_Z1.out))) (Kd.R_lt (rU HO_Z2.out))) (Kd.R_lt (rU HO_Z3.out))) (Kd.R_lt (rU HO_Z4.out))) (Kd.R_lt (rU HO_Z5.out))) (Kd.R_lt (rU HO440.out))) (Kd.R_lt (rU HO444.out))) (below_size (bU4 HB.out GE419.out GE427.out GE435.out GE452.out))); have n9 := Az (blk_below (g := gb419) (o := .cells #[.string t415, .slice Ao10 t416.length co10] 25 (0, 0)) (kU BK419.out) hb); have n10 := Az (blk_below (g := gb427) (o := .cells #[.slice Ao13 t420.length co13, .slice Ao16 t423.length co16] 29 (0, 0)) (kU BK427.out) hb); have n11 := Az (blk_below (g := gb435) (o := .cells #[.slice Ao20 t428.length co20, .slice Ao24 t431.length co24] 29 (0, 0)) (kU BK435.out) hb); have n12 := Az (blk_below (g := gb452) (o := .cells #[.slice none 0 0, .slice none 0 0] 29 (0, 0)) (kU BK452.out) hb); have n13 := Az (below_step (bU4 HB.out GE419.out GE427.out GE435.out GE452.out) hb); clear HO_Z1 HO_Z2 HO_Z3 HO_Z4 HO_Z5 HO440 HO444 BK419 BK427 BK435 BK452 HB; have HO_Z1 := n0; have HO_Z2 := n1; have HO_Z3 := n2; have HO_Z4 := n3; have HO_Z5 := n4; have HO440 := n5; have HO444 := n6; have HO447 := n7; have HO450 := n8; have BK419 := n9; have BK427 := n10; have BK435 := n11; have BK452 := n12; have HB := n13; clear n0 n1 n2 n3 n4 n5 n6 n7 n8 n9 n10 n11 n12 n13; (try clear hb); (try clear hb2); (try clear hk); (try clear hi); (try clear ho0); (try clear ho1)
         refine hK.out _ _ ⟨(blk_cell BK419.out 0).trans rfl, (blk_cell BK419.out 1).trans rfl⟩ (fun hHeld => ?_)
         clear hK K
         refine norm_ (a' := ?_) ?_ ?_
         rotate_left
         ·
          show Act.put _ (some 61) _ = _
          simp only [Act.put, List.setIfInBounds_toArray, List.set_cons_zero, List.set_cons_succ, i64_w, i32_w]
          rfl
         refine pure_ (i := 8) (N := some 53) (v := ?_) (a' := ?_) #[true, true, true, true, true, true, true, true, true, false, false, true, false, false] rfl rfl (any_of HT_.out (by kernel_rfl)) (fun _ _ _ h => h) (Or.inl ⟨by rfl, ?_⟩) ?_ ?_
         rotate_left
         ·
          intro w'
          go_simp
          with_reducible rfl
         rotate_left
         ·
          simp only [Act.put, List.setIfInBounds_toArray, List.set_cons_zero, List.set_cons_succ, i64_w, i32_w]
          rfl
         refine pure_ (i := 9) (N := some 62) (v := ?_) (a' := ?_) #[true, true, true, true, true, true, true, true, true, true, false, true, false, false] rfl rfl (any_of HT_.out (by kernel_rfl)) (fun _ _ _ h => h) (Or.inl ⟨by rfl, ?_⟩) ?_ ?_
         rotate_left
         ·
          intro w'
          go_simp
          with_reducible rfl
         rotate_left
         ·
          simp only [Act.put, List.setIfInBounds_toArray, List.set_cons_zero, List.set_cons_succ, i64_w, i32_w]
          rfl
         refine pure_ (i := 10) (N := some 63) (v := ?_) (a' := ?_) #[true, true, true, true, true, true, true, true, true, true, true, true, false, false] rfl rfl (any_of HT_.out (by kernel_rfl)) (fun _ _ _ h => h) (Or.inl ⟨by rfl, ?_⟩) ?_ ?_
         rotate_left
         ·
          intro w'
          go_simp
          with_reducible rfl
         rotate_left
         ·
          simp only [Act.put, List.setIfInBounds_toArray, List.set_cons_zero, List.set_cons_succ, i64_w, i32_w]
          rfl
         exact norm_ (by simp only [putAll, Act.put, List.setIfInBounds_toArray, List.set_cons_zero, List.set_cons_succ]) (hCont (.slice Ao70 y442.length co70, v446, v449, gb452) _ ⟨hHeld, (by (with_reducible repeat (first | apply Kd.R_alloc | apply Kd.R_drewN | apply Kd.R_drew)); exact Kd.R_mono HO440.out (fun _ hk => ⟨hk.1.1.2, ⟨hk.1.2, ⟨hk.2, ⟨hk.1.1.1.1.1.1.1.2, ⟨hk.1.1.1.1.1.1.2, ⟨hk.1.1.1.1.1.2, ⟨hk.1.1.1.1.2, hk.1.1.1.2⟩⟩⟩⟩⟩⟩⟩)), (by (with_reducible repeat (first | apply Kd.R_alloc | apply Kd.R_drewN | apply Kd.R_drew)); exact Kd.R_mono HO444.out (fun _ hk => ⟨hk.1.1.2, ⟨hk.1.2, ⟨hk.2, ⟨hk.1.1.1.1.1.1.1.2, ⟨hk.1.1.1.1.1.1.2, ⟨hk.1.1.1.1.1.2, ⟨hk.1.1.1.1.2, hk.1.1.1.2⟩⟩⟩⟩⟩⟩⟩)), (by (with_reducible repeat (first | apply Kd.R_alloc | apply Kd.R_drewN | apply Kd.R_drew)); exact Kd.R_mono HO447.out (fun _ hk => ⟨hk.1.2, ⟨hk.2, ⟨hk.1.1.1.1.1.1.1, ⟨hk.1.1.1.1.1.1.2, ⟨hk.1.1.1.1.1.2, ⟨hk.1.1.1.1.2, ⟨hk.1.1.1.2, hk.1.1.2⟩⟩⟩⟩⟩⟩⟩)), (by (with_reducible repeat (first | apply Kd.R_alloc | apply Kd.R_drewN | apply Kd.R_drew)); exact Kd.R_mono HO450.out (fun _ hk => ⟨hk.1.2, ⟨hk.2, ⟨hk.1.1.1.1.1.1.1, ⟨hk.1.1.1.1.1.1.2, ⟨hk.1.1.1.1.1.2, ⟨hk.1.1.1.1.2, ⟨hk.1.1.1.2, hk.1.1.2⟩⟩⟩⟩⟩⟩⟩)), (by (with_reducible repeat (first | apply Kd.Q_alloc | apply Kd.Q_drewN | apply Kd.Q_drew)); exact Kd.Q_mono HO_Z1.out (fun _ hk => ⟨hk.1.1.1.2, ⟨hk.1.1.2, ⟨hk.1.2, ⟨hk.2, ⟨hk.1.1.1.1.1, ⟨hk.1.1.1.1.2.1, ⟨hk.1.1.1.1.2.2.1, hk.1.1.1.1.2.2.2⟩⟩⟩⟩⟩⟩⟩)), (by (with_reducible repeat (first | apply Kd.R_alloc | apply Kd.R_drewN | apply Kd.R_drew)); exact Kd.R_mono HO_Z2.out (fun _ hk => ⟨hk.1.1.1.2, ⟨hk.1.1.2, ⟨hk.1.2, ⟨hk.2, ⟨hk.1.1.1.1.1, ⟨hk.1.1.1.1.2.1, ⟨hk.1.1.1.1.2.2.1, hk.1.1.1.1.2.2.2⟩⟩⟩⟩⟩⟩⟩)), (by (with_reducible repeat (first | apply Kd.R_alloc | apply Kd.R_drewN | apply Kd.R_drew)); exact Kd.R_mono HO_Z3.out (fun _ hk => ⟨hk.1.1.1.2, ⟨hk.1.1.2, ⟨hk.1.2, ⟨hk.2, ⟨hk.1.1.1.1.1, ⟨hk.1.1.1.1.2.1, ⟨hk.1.1.1.1.2.2.1, hk.1.1.1.1.2.2.2⟩⟩⟩⟩⟩⟩⟩)), (by (with_reducible repeat (first | apply Kd.R_alloc | apply Kd.R_drewN | apply Kd.R_drew)); exact Kd.R_mono HO_Z4.out (fun _ hk => ⟨hk.1.1.1.2, ⟨hk.1.1.2, ⟨hk.1.2, ⟨hk.2, ⟨hk.1.1.1.1.1, ⟨hk.1.1.1.1.2.1, ⟨hk.1.1.1.1.2.2.1, hk.1.1.1.1.2.2.2⟩⟩⟩⟩⟩⟩⟩)), (by (with_reducible repeat (first | apply Kd.R_alloc | apply Kd.R_drewN | apply Kd.R_drew)); exact Kd.R_mono HO_Z5.out (fun _ hk => ⟨hk.1.1.1.2, ⟨hk.1.1.2, ⟨hk.1.2, ⟨hk.2, ⟨hk.1.1.1.1.1, ⟨hk.1.1.1.1.2.1, ⟨hk.1.1.1.1.2.2.1, hk.1.1.1.1.2.2.2⟩⟩⟩⟩⟩⟩⟩)), (kU BK419.out), (kU BK427.out), (kU BK435.out), (kU BK452.out), GW452.out, GE452.out, NB419_452.out, NB452_419.out, NB427_452.out, NB452_427.out, NB435_452.out, NB452_435.out, (bU4 HB.out GE419.out GE427.out GE435.out GE452.out)⟩)
       rintro ⟨v443, v446, v449, gb452⟩ w72 ⟨hS_, h0_, h1_, h2_, h3_, h4_, h5_, h6_, h7_, h8_, h9_, h10_, h11_, h12_, h13_, h14_, h15_, h16_, h17_, h18_, h19_, h20_, h21_⟩
       have n0 : Aside0 (Kd.R (Kd.int .i64) 3 w72 w.heap.size (fun k_ => some k_ ≠ (v443 : Value).ownBlock ∧ some k_ ≠ (v446 : Value).ownBlock ∧ some k_ ≠ (v449 : Value).ownBlock ∧ some k_ ≠ (.slice Ao10 t416.length co10 : Value).ownBlock ∧ some k_ ≠ (.slice Ao13 t420.length co13 : Value).ownBlock ∧ some k_ ≠ (.slice Ao16 t423.length co16 : Value).ownBlock ∧ some k_ ≠ (.slice Ao20 t428.length co20 : Value).ownBlock ∧ some k_ ≠ (.slice Ao24 t431.length co24 : Value).ownBlock) v439 t438) := ⟨h0_⟩; have n1 : Aside0 (Kd.R (Kd.int .i64) 3 w72 w.heap.size (fun k_ => some k_ ≠ (v439 : Value).ownBlock ∧ some k_ ≠ (v446 : Value).ownBlock ∧ some k_ ≠ (v449 : Value).ownBlock ∧ some k_ ≠ (.slice Ao10 t416.length co10 : Value).ownBlock ∧ some k_ ≠ (.slice Ao13 t420.length co13 : Value).ownBlock ∧ some k_ ≠ (.slice Ao16 t423.length co16 : Value).ownBlock ∧ some k_ ≠ (.slice Ao20 t428.length co20 : Value).ownBlock ∧ some k_ ≠ (.slice Ao24 t431.length co24 : Value).ownBlock) v443 y442) := ⟨h1_⟩; have n2 : Aside0 (Kd.R (Kd.int .i64) 3 w72 w.heap.size (fun k_ => some k_ ≠ (v439 : Value).ownBlock ∧ some k_ ≠ (v443 : Value).ownBlock ∧ some k_ ≠ (v449 : Value).ownBlock ∧ some k_ ≠ (.slice Ao10 t416.length co10 : Value).ownBlock ∧ some k_ ≠ (.slice Ao13 t420.length co13 : Value).ownBlock ∧ some k_ ≠ (.slice Ao16 t423.length co16 : Value).ownBlock ∧ some k_ ≠ (.slice Ao20 t428.length co20 : Value).ownBlock ∧ some k_ ≠ (.slice Ao24 t431.length co24 : Value).ownBlock) v446 t445) := ⟨h2_⟩; have n3 : Aside0 (Kd.R (Kd.int .i64) 3 w72 w.heap.size (fun k_ => some k_ ≠ (v439 : Value).ownBlock ∧ some k_ ≠ (v443 : Value).ownBlock ∧ some k_ ≠ (v446 : Value).ownBlock ∧ some k_ ≠ (.slice Ao10 t416.length co10 : Value).ownBlock ∧ some k_ ≠ (.slice Ao13 t420.length co13 : Value).ownBlock ∧ some k_ ≠ (.slice Ao16 t423.length co16 : Value).ownBlock ∧ some k_ ≠ (.slice Ao20 t428.length co20 : Value).ownBlock ∧ some k_ ≠ (.slice Ao24 t431.length co24 : Value).ownBlock) v449 t448) := ⟨h3_⟩; have n4 : Aside0 (Kd.Q (Kd.int .i64) 3 w72 w.heap.size (fun k_ => some k_ ≠ (v439 : Value).ownBlock ∧ some k_ ≠ (v443 : Value).ownBlock ∧ some k_ ≠ (v446 : Value).ownBlock ∧ some k_ ≠ (v449 : Value).ownBlock ∧ some k_ ≠ (.slice Ao13 t420.length co13 : Value).ownBlock ∧ some k_ ≠ (.slice Ao16 t423.length co16 : Value).ownBlock ∧ some k_ ≠ (.slice Ao20 t428.length co20 : Value).ownBlock ∧ some k_ ≠ (.slice Ao24 t431.length co24 : Value).ownBlock) (.slice Ao10 t416.length co10) t416) := ⟨h4_⟩; have n5 : Aside0 (Kd.R (Kd.int .i64) 3 w72 w.heap.size (fun k_ => some k_ ≠ (v439 : Value).ownBlock ∧ some k_ ≠ (v443 : Value).ownBlock ∧ some k_ ≠ (v446 : Value).ownBlock ∧ some k_ ≠ (v449 : Value).ownBlock ∧ some k_ ≠ (.slice Ao10 t416.length co10 : Value).ownBlock ∧ some k_ ≠ (.slice Ao16 t423.length co16 : Value).ownBlock ∧ some k_ ≠ (.slice Ao20 t428.length co20 : Value).ownBlock ∧ some k_ ≠ (.slice Ao24 t431.length co24 : Value).ownBlock) (.slice Ao13 t420.length co13) t420) := ⟨h5_⟩; have n6 : Aside0 (Kd.R (Kd.int .i64) 3 w72 w.heap.size (fun k_ => some k_ ≠ (v439 : Value).ownBlock ∧ some k_ ≠ (v443 : Value).ownBlock ∧ some k_ ≠ (v446 : Value).ownBlock ∧ some k_ ≠ (v449 : Value).ownBlock ∧ some k_ ≠ (.slice Ao10 t416.length co10 : Value).ownBlock ∧ some k_ ≠ (.slice Ao13 t420.length co13 : Value).ownBlock ∧ some k_ ≠ (.slice Ao20 t428.length co20 : Value).ownBlock ∧ some k_ ≠ (.slice Ao24 t431.length co24 : Value).ownBlock) (.slice Ao16 t423.length co16) t423) := ⟨h6_⟩; have n7 : Aside0 (Kd.R (Kd.int .i64) 3 w72 w.heap.size (fun k_ => some k_ ≠ (v439 : Value).ownBlock ∧ some k_ ≠ (v443 : Value).ownBlock ∧ some k_ ≠ (v446 : Value).ownBlock ∧ some k_ ≠ (v449 : Value).ownBlock ∧ some k_ ≠ (.slice Ao10 t416.length co10 : Value).ownBlock ∧ some k_ ≠ (.slice Ao13 t420.length co13 : Value).ownBlock ∧ some k_ ≠ (.slice Ao16 t423.length co16 : Value).ownBlock ∧ some k_ ≠ (.slice Ao24 t431.length co24 : Value).ownBlock) (.slice Ao20 t428.length co20) t428) := ⟨h7_⟩; have n8 : Aside0 (Kd.R (Kd.int .i64) 3 w72 w.heap.size (fun k_ => some k_ ≠ (v439 : Value).ownBlock ∧ some k_ ≠ (v443 : Value).ownBlock ∧ some k_ ≠ (v446 : Value).ownBlock ∧ some k_ ≠ (v449 : Value).ownBlock ∧ some k_ ≠ (.slice Ao10 t416.length co10 : Value).ownBlock ∧ some k_ ≠ (.slice Ao13 t420.length co13 : Value).ownBlock ∧ some k_ ≠ (.slice Ao16 t423.length co16 : Value).ownBlock ∧ some k_ ≠ (.slice Ao20 t428.length co20 : Value).ownBlock) (.slice Ao24 t431.length co24) t431) := ⟨h8_⟩; have n9 : Aside0 (w72.heap[gb419]? = some (.cells #[.string t415, .slice Ao10 t416.length co10] 25 (0, 0))) := ⟨h9_⟩; have n10 : Aside0 (w72.heap[gb427]? = some (.cells #[.slice Ao13 t420.length co13, .slice Ao16 t423.length co16] 29 (0, 0))) := ⟨h10_⟩; have n11 : Aside0 (w72.heap[gb435]? = some (.cells #[.slice Ao20 t428.length co20, .slice Ao24 t431.length co24] 29 (0, 0))) := ⟨h11_⟩; have n12 : Aside0 (w72.heap[gb452]? = some (.cells #[.slice none 0 0, .slice none 0 0] 29 (0, 0))) := ⟨h12_⟩; have n13 : Aside0 (w.heap.size ≤ gb452) := ⟨h13_⟩; have n14 : Aside0 (w.heap.size ≤ gb452) := ⟨h14_⟩; have n15 : Aside0 (gb419 ≠ gb452) := ⟨h15_⟩; have n16 : Aside0 (gb452 ≠ gb419) := ⟨h16_⟩; have n17 : Aside0 (gb427 ≠ gb452) := ⟨h17_⟩; have n18 : Aside0 (gb452 ≠ gb427) := ⟨h18_⟩; have n19 : Aside0 (gb435 ≠ gb452) := ⟨h19_⟩; have n20 : Aside0 (gb452 ≠ gb435) := ⟨h20_⟩; have n21 : Aside0 (Below w.heap.size w w72) := ⟨h21_⟩; clear HO_Z1 HO_Z2 HO_Z3 HO_Z4 HO_Z5 HO440 BK419 BK427 BK435 HB h0_ h1_ h2_ h3_ h4_ h5_ h6_ h7_ h8_ h9_ h10_ h11_ h12_ h13_ h14_ h15_ h16_ h17_ h18_ h19_ h20_ h21_; have HO440 := n0; have HO444 := n1; have HO447 := n2; have HO450 := n3; have HO_Z1 := n4; have HO_Z2 := n5; have HO_Z3 := n6; have HO_Z4 := n7; have HO_Z5 := n8; have BK419 := n9; have BK427 := n10; have BK435 := n11; have BK452 := n12; have GW452 := n13; have GE452 := n14; have NB419_452 := n15; have NB452_419 := n16; have NB427_452 := n17; have NB452_427 := n18; have NB435_452 := n19; have NB452_435 := n20; have HB := n21; clear n0 n1 n2 n3 n4 n5 n6 n7 n8 n9 n10 n11 n12 n13 n14 n15 n16 n17 n18 n19 n20 n21; have hHeld : w72.cell? ⟨gb419, 0, none⟩ = some (.string t415) ∧ w72.cell? ⟨gb419, 1, none⟩ = some (.slice Ao10 t416.length co10) := hS_; obtain ⟨Ao73, co73, eo73⟩ := Kd.R_slice HO444.out; (first | subst eo73 | (injection eo73 with f1_ f2_ f3_; have f4_ := f1_.symm; have f5_ := f3_.symm; clear f1_ f2_ f3_; subst f4_; subst f5_)); obtain ⟨Ao74, co74, eo74⟩ := Kd.R_slice HO447.out; (first | subst eo74 | (injection eo74 with f1_ f2_ f3_; have f4_ := f1_.symm; have f5_ := f3_.symm; clear f1_ f2_ f3_; subst f4_; subst f5_)); obtain ⟨Ao76, co76, eo76⟩ := Kd.R_slice HO450.out; (first | subst eo76 | (injection eo76 with f1_ f2_ f3_; have f4_ := f1_.symm; have f5_ := f3_.symm; clear f1_ f2_ f3_; subst f4_; subst f5_))
       refine norm_ (a' := ?_) ?_ ?_
       rotate_left
       ·
        simp only [putAll, Act.put, List.setIfInBounds_toArray, List.set_cons_zero, List.set_cons_succ]
        rfl
       refine one_ (i := 12) (N := none) #[true, true, true, true, true, true, true, true, true, true, true, true, true, false] rfl rfl (one_of HT_.out (by kernel_rfl)) (by decide) (fun K hK => ?_)
       have hs75 : w72.cell? ⟨gb452, 0, none⟩ = some (.slice none 0 0) := (blk_cell BK452.out 0).trans rfl; have hfs75 := blk_frozen BK452.out 0; have hns75_0 := NB419_452.out; have hns75_1 := NB427_452.out; have hns75_2 := NB435_452.out; have hms75_0 := NB452_419.out; have hms75_1 := NB452_427.out; have hms75_2 := NB452_435.out; have hs77 : w72.cell? ⟨gb452, 1, none⟩ = some (.slice none 0 0) := (blk_cell BK452.out 1).trans rfl; have hfs77 := blk_frozen BK452.out 1; have hns77_0 := NB419_452.out; have hns77_1 := NB427_452.out; have hns77_2 := NB435_452.out; have hms77_0 := NB452_419.out; have hms77_1 := NB452_427.out; have hms77_2 := NB452_435.out
       refine skip_ (w1 := ?_) (by rfl) rfl ?_ ?_
       rotate_left
       ·
        go_simp
        rfl
       refine hK.out _ _ ⟨((cell_far (p := ⟨gb452, _, none⟩) NB419_452.out _).trans (((cell_far (p := ⟨gb452, _, none⟩) NB419_452.out _).trans (hHeld.1)))), ((cell_far (p := ⟨gb452, _, none⟩) NB419_452.out _).trans (((cell_far (p := ⟨gb452, _, none⟩) NB419_452.out _).trans (hHeld.2))))⟩ (fun hHeld => ?_)
       clear hK K
       refine pure_ (i := 13) (N := some 11) (v := ?_) (a' := ?_) #[true, true, true, true, true, true, true, true, true, true, true, true, true, true] rfl rfl (any_of HT_.out (by kernel_rfl)) (fun _ _ _ h => h) (Or.inl ⟨by rfl, ?_⟩) ?_ ?_
       rotate_left
       ·
        intro w'
        go_simp
        with_reducible rfl
       rotate_left
       ·
        simp only [Act.put, List.setIfInBounds_toArray, List.set_cons_zero, List.set_cons_succ, i64_w, i32_w]
        rfl
       refine done_ (done_of HT_.out (by kernel_rfl)) ?_
       by_cases c53 : t441 = true
       ·
        subst c53
        have H1 : (if t451 = true then ((laws_sameInts.f kj5 t438 t423).bind fun t453 => (if t453 = true then ((impl_GluingPlanar.f kj5 t438).bind fun t454 => (if t454 = true then ((impl_MapGenus.f kj5 t420 t423).bind fun t455 => (if t455 = 0 then ((laws_sameMap.f kj5 t445 t448 t420 t423).bind fun t456 => (some t456)) else (some false))) else (some false))) else (some false))) else (some false)) = some r := by rw [if_pos rfl] at H; exact H
        clear H; have H := H1; clear H1
        by_cases c54 : t451 = true
        ·
         subst c54
         have H1 : ((laws_sameInts.f kj5 t438 t423).bind fun t453 => (if t453 = true then ((impl_GluingPlanar.f kj5 t438).bind fun t454 => (if t454 = true then ((impl_MapGenus.f kj5 t420 t423).bind fun t455 => (if t455 = 0 then ((laws_sameMap.f kj5 t445 t448 t420 t423).bind fun t456 => (some t456)) else (some false))) else (some false))) else (some false))) = some r := by rw [if_pos rfl] at H; exact H
         clear H; have H := H1; clear H1; replace H := Option.bind_eq_some_iff.mp H; obtain ⟨t453, A550, H⟩ := H; replace H : (if t453 = true then ((impl_GluingPlanar.f kj5 t438).bind fun t454 => (if t454 = true then ((impl_MapGenus.f kj5 t420 t423).bind fun t455 => (if t455 = 0 then ((laws_sameMap.f kj5 t445 t448 t420 t423).bind fun t456 => (some t456)) else (some false))) else (some false))) else (some false)) = some r := H; have A55 := Az A550; clear A550
         by_cases c56 : t453 = true
         ·
          subst c56
          have H1 : ((impl_GluingPlanar.f kj5 t438).bind fun t454 => (if t454 = true then ((impl_MapGenus.f kj5 t420 t423).bind fun t455 => (if t455 = 0 then ((laws_sameMap.f kj5 t445 t448 t420 t423).bind fun t456 => (some t456)) else (some false))) else (some false))) = some r := by rw [if_pos rfl] at H; exact H
          clear H; have H := H1; clear H1; replace H := Option.bind_eq_some_iff.mp H; obtain ⟨t454, A570, H⟩ := H; replace H : (if t454 = true then ((impl_MapGenus.f kj5 t420 t423).bind fun t455 => (if t455 = 0 then ((laws_sameMap.f kj5 t445 t448 t420 t423).bind fun t456 => (some t456)) else (some false))) else (some false)) = some r := H; have A57 := Az A570; clear A570
          by_cases c58 : t454 = true
          ·
           subst c58
           have H1 : ((impl_MapGenus.f kj5 t420 t423).bind fun t455 => (if t455 = 0 then ((laws_sameMap.f kj5 t445 t448 t420 t423).bind fun t456 => (some t456)) else (some false))) = some r := by rw [if_pos rfl] at H; exact H
           clear H; have H := H1; clear H1; replace H := Option.bind_eq_some_iff.mp H; obtain ⟨t455, A590, H⟩ := H; replace H : (if t455 = 0 then ((laws_sameMap.f kj5 t445 t448 t420 t423).bind fun t456 => (some t456)) else (some false)) = some r := H; have A59 := Az A590; clear A590
           by_cases c60 : t455 = 0
           ·
            rw [if_pos c60] at H; have c60b0 := beq_iff_eq.mpr c60; have c60b1 := bne_eq_false_iff_eq.mpr c60; clear c60; replace H := Option.bind_eq_some_iff.mp H; obtain ⟨t456, A610, H⟩ := H; replace H : (some t456) = some r := H; have A61 := Az A610; clear A610; obtain rfl := Option.some.inj H; have hnb78 := NB427_452.out; have hnc78 := NB452_427.out; have hcz79_0 : w72.cell? ⟨gb427, 0, none⟩ = some (.slice Ao13 t420.length co13) := (blk_cell BK427.out 0).trans rfl; have hcz79_1 : w72.cell? ⟨gb427, 1, none⟩ = some (.slice Ao16 t423.length co16) := (blk_cell BK427.out 1).trans rfl; have hfz79_0 := blk_frozen BK427.out 0; have hfz79_1 := blk_frozen BK427.out 1; obtain ⟨Ao80, co80, eo80⟩ := Kd.R_slice HO440.out; subst eo80
            try go_wp2_with (first | (go_at_call 41; (with_reducible refine (laws_sameInts.calls kj5 _ _ t438 _ _ t423 true _ ?side1 ?side2 ?side3 ?side4 A55.out).mono ?_); (case side1 => refine (Kd.R_reads' (e := 3) (base := w.heap.size) (ok := fun k_ => (some k_ ≠ (.slice Ao73 y442.length co73 : Value).ownBlock ∧ (some k_ ≠ (.slice Ao74 t445.length co74 : Value).ownBlock ∧ (some k_ ≠ (.slice Ao76 t448.length co76 : Value).ownBlock ∧ (some k_ ≠ (.slice Ao10 t416.length co10 : Value).ownBlock ∧ (some k_ ≠ (.slice Ao13 t420.length co13 : Value).ownBlock ∧ (some k_ ≠ (.slice Ao16 t423.length co16 : Value).ownBlock ∧ (some k_ ≠ (.slice Ao20 t428.length co20 : Value).ownBlock ∧ some k_ ≠ (.slice Ao24 t431.length co24 : Value).ownBlock)))))))) (n := t438.length) (c := co80) ?_).2.2; exact (by (with_reducible repeat (first | apply Kd.R_alloc | apply Kd.R_drewN | apply Kd.R_drew)); exact (Kd.R_mono (Kd.R_far (p := ⟨gb452, 1, none⟩) (Kd.R_far (p := ⟨gb452, 0, none⟩) (Kd.R_types HO440.out BK452.out (by decide)) (fun _ hk => hk.2) (.slice Ao74 t445.length co74)) (fun _ hk => hk.2) (.slice Ao76 t448.length co76)) (fun _ h_ => h_.1)))); (case side2 => exact (Kd.R_reads' HO440.out).2.1); (case side3 => refine (Kd.R_reads' (e := 3) (base := w.heap.size) (ok := fun k_ => (some k_ ≠ (.slice Ao80 t438.length co80 : Value).ownBlock ∧ (some k_ ≠ (.slice Ao73 y442.length co73 : Value).ownBlock ∧ (some k_ ≠ (.slice Ao74 t445.length co74 : Value).ownBlock ∧ (some k_ ≠ (.slice Ao76 t448.length co76 : Value).ownBlock ∧ (some k_ ≠ (.slice Ao10 t416.length co10 : Value).ownBlock ∧ (some k_ ≠ (.slice Ao13 t420.length co13 : Value).ownBlock ∧ (some k_ ≠ (.slice Ao20 t428.length co20 : Value).ownBlock ∧ some k_ ≠ (.slice Ao24 t431.length co24 : Value).ownBlock)))))))) (n := t423.length) (c := co16) ?_).2.2; exact (by (with_reducible repeat (first | apply Kd.R_alloc | apply Kd.R_drewN | apply Kd.R_drew)); exact (Kd.R_mono (Kd.R_far (p := ⟨gb452, 1, none⟩) (Kd.R_far (p := ⟨gb452, 0, none⟩) (Kd.R_types HO_Z3.out BK452.out (by decide)) (fun _ hk => hk.2) (.slice Ao74 t445.length co74)) (fun _ hk => hk.2) (.slice Ao76 t448.length co76)) (fun _ h_ => h_.1)))); (case side4 => exact (Kd.R_reads' HO_Z3.out).2.1); rintro e w' ⟨rfl, ⟨nd, rfl⟩⟩) | (go_at_call 42; (with_reducible refine (impl_GluingPlanar.calls kj5 _ _ t438 true _ ?side1 ?side2 A57.out).mono ?_); (case side1 => refine (Kd.R_reads' (e := 3) (base := w.heap.size) (ok := fun k_ => (some k_ ≠ (.slice Ao73 y442.length co73 : Value).ownBlock ∧ (some k_ ≠ (.slice Ao74 t445.length co74 : Value).ownBlock ∧ (some k_ ≠ (.slice Ao76 t448.length co76 : Value).ownBlock ∧ (some k_ ≠ (.slice Ao10 t416.length co10 : Value).ownBlock ∧ (some k_ ≠ (.slice Ao13 t420.length co13 : Value).ownBlock ∧ (some k_ ≠ (.slice Ao16 t423.length co16 : Value).ownBlock ∧ (some k_ ≠ (.slice Ao20 t428.length co20 : Value).ownBlock ∧ some k_ ≠ (.slice Ao24 t431.length co24 : Value).ownBlock)))))))) (n := t438.length) (c := co80) ?_).2.2; exact (by (with_reducible repeat (first | apply Kd.R_alloc | apply Kd.R_drewN | apply Kd.R_drew)); exact (Kd.R_mono (Kd.R_far (p := ⟨gb452, 1, none⟩) (Kd.R_far (p := ⟨gb452, 0, none⟩) (Kd.R_types HO440.out BK452.out (by decide)) (fun _ hk => hk.2) (.slice Ao74 t445.length co74)) (fun _ hk => hk.2) (.slice Ao76 t448.length co76)) (fun _ h_ => h_.1)))); (case side2 => exact (Kd.R_reads' HO440.out).2.1); rintro e w' ⟨rfl, ⟨nd, rfl⟩⟩) | (go_at_call 43; (with_reducible refine (impl_MapGenus.calls kj5 _ _ t420 _ _ t423 t455 _ ?side1 ?side2 ?side3 ?side4 A59.out).mono ?_); (case side1 => refine (Kd.R_reads' (e := 3) (base := w.heap.size) (ok := fun k_ => (some k_ ≠ (.slice Ao80 t438.length co80 : Value).ownBlock ∧ (some k_ ≠ (.slice Ao73 y442.length co73 : Value).ownBlock ∧ (some k_ ≠ (.slice Ao74 t445.length co74 : Value).ownBlock ∧ (some k_ ≠ (.slice Ao76 t448.length co76 : Value).ownBlock ∧ (some k_ ≠ (.slice Ao10 t416.length co10 : Value).ownBlock ∧ (some k_ ≠ (.slice Ao16 t423.length co16 : Value).ownBlock ∧ (some k_ ≠ (.slice Ao20 t428.length co20 : Value).ownBlock ∧ some k_ ≠ (.slice Ao24 t431.length co24 : Value).ownBlock)))))))) (n := t420.length) (c := co13) ?_).2.2; exact (by (with_reducible repeat (first | apply Kd.R_alloc | apply Kd.R_drewN | apply Kd.R_drew)); exact (Kd.R_mono (Kd.R_far (p := ⟨gb452, 1, none⟩) (Kd.R_far (p := ⟨gb452, 0, none⟩) (Kd.R_types HO_Z2.out BK452.out (by decide)) (fun _ hk => hk.2) (.slice Ao74 t445.length co74)) (fun _ hk => hk.2) (.slice Ao76 t448.length co76)) (fun _ h_ => h_.1)))); (case side2 => exact (Kd.R_reads' HO_Z2.out).2.1); (case side3 => refine (Kd.R_reads' (e := 3) (base := w.heap.size) (ok := fun k_ => (some k_ ≠ (.slice Ao80 t438.length co80 : Value).ownBlock ∧ (some k_ ≠ (.slice Ao73 y442.length co73 : Value).ownBlock ∧ (some k_ ≠ (.slice Ao74 t445.length co74 : Value).ownBlock ∧ (some k_ ≠ (.slice Ao76 t448.length co76 : Value).ownBlock ∧ (some k_ ≠ (.slice Ao10 t416.length co10 : Value).ownBlock ∧ (some k_ ≠ (.slice Ao13 t420.length co13 : Value).ownBlock ∧ (some k_ ≠ (.slice Ao20 t428.length co20 : Value).ownBlock ∧ some k_ ≠ (.slice Ao24 t431.length co24 : Value).ownBlock)))))))) (n := t423.length) (c := co16) ?_).2.2; exact (by (with_reducible repeat (first | apply Kd.R_alloc | apply Kd.R_drewN | apply Kd.R_drew)); exact (Kd.R_mono (Kd.R_far (p := ⟨gb452, 1, none⟩) (Kd.R_far (p := ⟨gb452, 0, none⟩) (Kd.R_types HO_Z3.out BK452.out (by decide)) (fun _ hk => hk.2) (.slice Ao74 t445.length co74)) (fun _ hk => hk.2) (.slice Ao76 t448.length co76)) (fun _ h_ => h_.1)))); (case side4 => exact (Kd.R_reads' HO_Z3.out).2.1); rintro e w81 ⟨rfl, hb⟩; have n0 := Az (Kd.Q_below (by (with_reducible repeat (first | apply Kd.Q_alloc | apply Kd.Q_drewN | apply Kd.Q_drew)); exact (Kd.Q_mono (Kd.Q_far (p := ⟨gb452, 1, none⟩) (Kd.Q_far (p := ⟨gb452, 0, none⟩) (Kd.Q_types HO_Z1.out BK452.out (by decide)) (fun _ hk => hk.2) (.slice Ao74 t445.length co74)) (fun _ hk => hk.2) (.slice Ao76 t448.length co76)) (fun _ h_ => h_.1))) hb); have n1 := Az (Kd.R_below (by (with_reducible repeat (first | apply Kd.R_alloc | apply Kd.R_drewN | apply Kd.R_drew)); exact (Kd.R_mono (Kd.R_far (p := ⟨gb452, 1, none⟩) (Kd.R_far (p := ⟨gb452, 0, none⟩) (Kd.R_types HO_Z2.out BK452.out (by decide)) (fun _ hk => hk.2) (.slice Ao74 t445.length co74)) (fun _ hk => hk.2) (.slice Ao76 t448.length co76)) (fun _ h_ => h_.1))) hb); have n2 := Az (Kd.R_below (by (with_reducible repeat (first | apply Kd.R_alloc | apply Kd.R_drewN | apply Kd.R_drew)); exact (Kd.R_mono (Kd.R_far (p := ⟨gb452, 1, none⟩) (Kd.R_far (p := ⟨gb452, 0, none⟩) (Kd.R_types HO_Z3.out BK452.out (by decide)) (fun _ hk => hk.2) (.slice Ao74 t445.length co74)) (fun _ hk => hk.2) (.slice Ao76 t448.length co76)) (fun _ h_ => h_.1))) hb); have n3 := Az (Kd.R_below (by (with_reducible repeat (first | apply Kd.R_alloc | apply Kd.R_drewN | apply Kd.R_drew)); exact (Kd.R_mono (Kd.R_far (p := ⟨gb452, 1, none⟩) (Kd.R_far (p := ⟨gb452, 0, none⟩) (Kd.R_types HO_Z4.out BK452.out (by decide)) (fun _ hk => hk.2) (.slice Ao74 t445.length co74)) (fun _ hk => hk.2) (.slice Ao76 t448.length co76)) (fun _ h_ => h_.1))) hb); have n4 := Az (Kd.R_below (by (with_reducible repeat (first | apply Kd.R_alloc | apply Kd.R_drewN | apply Kd.R_drew)); exact (Kd.R_mono (Kd.R_far (p := ⟨gb452, 1, none⟩) (Kd.R_far (p := ⟨gb452, 0, none⟩) (Kd.R_types HO_Z5.out BK452.out (by decide)) (fun _ hk => hk.2) (.slice Ao74 t445.length co74)) (fun _ hk => hk.2) (.slice Ao76 t448.length co76)) (fun _ h_ => h_.1))) hb); have n5 := Az (Kd.R_below (by (with_reducible repeat (first | apply Kd.R_alloc | apply Kd.R_drewN | apply Kd.R_drew)); exact (Kd.R_mono (Kd.R_far (p := ⟨gb452, 1, none⟩) (Kd.R_far (p := ⟨gb452, 0, none⟩) (Kd.R_types HO440.out BK452.out (by decide)) (fun _ hk => hk.2) (.slice Ao74 t445.length co74)) (fun _ hk => hk.2) (.slice Ao76 t448.length co76)) (fun _ h_ => h_.1))) hb); have n6 := Az (Kd.R_below (by (with_reducible repeat (first | apply Kd.R_alloc | apply Kd.R_drewN | apply Kd.R_drew)); exact (Kd.R_mono (Kd.R_far (p := ⟨gb452, 1, none⟩) (Kd.R_far (p := ⟨gb452, 0, none⟩) (Kd.R_types HO444.out BK452.out (by decide)) (fun _ hk => hk.2) (.slice Ao74 t445.length co74)) (fun _ hk => hk.2) (.slice Ao76 t448.length co76)) (fun _ h_ => h_.1))) hb); have n7 := Az (Kd.R_below (by (with_reducible repeat (first | apply Kd.R_alloc | apply Kd.R_drewN | apply Kd.R_drew)); exact (Kd.R_mono (Kd.R_far (p := ⟨gb452, 1, none⟩) (Kd.R_far (p := ⟨gb452, 0, none⟩) (Kd.R_types HO447.out BK452.out (by decide)) (fun _ hk => hk.2) (.slice Ao74 t445.length co74)) (fun _ hk => hk.2) (.slice Ao76 t448.length co76)) (fun _ h_ => h_.1))) hb); have n8 := Az (Kd.R_below (by (with_reducible repeat (first | apply Kd.R_alloc | apply Kd.R_drewN | apply Kd.R_drew)); exact (Kd.R_mono (Kd.R_far (p := ⟨gb452, 1, none⟩) (Kd.R_far (p := ⟨gb452, 0, none⟩) (Kd.R_types HO450.out BK452.out (by decide)) (fun _ hk => hk.2) (.slice Ao74 t445.length co74)) (fun _ hk => hk.2) (.slice Ao76 t448.length co76)) (fun _ h_ => h_.1))) hb); have n9 := Az (blk_below (g := gb419) (o := .cells #[.string t415, .slice Ao10 t416.length co10] 25 (0, 0)) (by (with_reducible repeat (first | refine blk_drewN ?_ _ | refine blk_drew ?_ | refine blk_alloc ?_ _)); refine blk_far ?_ NB419_452.out _; (with_reducible repeat (first | refine blk_drewN ?_ _ | refine blk_drew ?_ | refine blk_alloc ?_ _)); refine blk_far ?_ NB419_452.out _; (with_reducible repeat (first | refine blk_drewN ?_ _ | refine blk_drew ?_ | refine blk_alloc ?_ _)); exact BK419.out) hb); have n10 := Az (blk_below (g := gb427) (o := .cells #[.slice Ao13 t420.length co13, .slice Ao16 t423.length co16] 29 (0, 0)) (by (with_reducible repeat (first | refine blk_drewN ?_ _ | refine blk_drew ?_ | refine blk_alloc ?_ _)); refine blk_far ?_ NB427_452.out _; (with_reducible repeat (first | refine blk_drewN ?_ _ | refine blk_drew ?_ | refine blk_alloc ?_ _)); refine blk_far ?_ NB427_452.out _; (with_reducible repeat (first | refine blk_drewN ?_ _ | refine blk_drew ?_ | refine blk_alloc ?_ _)); exact BK427.out) hb); have n11 := Az (blk_below (g := gb435) (o := .cells #[.slice Ao20 t428.length co20, .slice Ao24 t431.length co24] 29 (0, 0)) (by (with_reducible repeat (first | refine blk_drewN ?_ _ | refine blk_drew ?_ | refine blk_alloc ?_ _)); refine blk_far ?_ NB435_452.out _; (with_reducible repeat (first | refine blk_drewN ?_ _ | refine blk_drew ?_ | refine blk_alloc ?_ _)); refine blk_far ?_ NB435_452.out _; (with_reducible repeat (first | refine blk_drewN ?_ _ | refine blk_drew ?_ | refine blk_alloc ?_ _)); exact BK435.out) hb); have n12 := Az (blk_below (g := gb452) (o := .cells #[.slice Ao74 t445.length co74, .slice Ao76 t448.length co76] 29 (0, 0)) (by (with_reducible repeat (first | refine blk_drewN ?_ _ | refine blk_drew ?_ | refine blk_alloc ?_ _)); refine blk_put (cs := #[.slice Ao74 t445.length co74, .slice none 0 0]) ?_ 1 _ rfl; (with_reducible repeat (first | refine blk_drewN ?_ _ | refine blk_drew ?_ | refine blk_alloc ?_ _)); refine blk_put (cs := #[.slice none 0 0, .slice none 0 0]) ?_ 0 _ rfl; (with_reducible repeat (first | refine blk_drewN ?_ _ | refine blk_drew ?_ | refine blk_alloc ?_ _)); exact BK452.out) hb); have n13 := Az (below_step (bU4 HB.out GE419.out GE427.out GE435.out GE452.out) hb); clear HO_Z1 HO_Z2 HO_Z3 HO_Z4 HO_Z5 HO440 HO444 HO447 HO450 BK419 BK427 BK435 BK452 HB; have HO_Z1 := n0; have HO_Z2 := n1; have HO_Z3 := n2; have HO_Z4 := n3; have HO_Z5 := n4; have HO440 := n5; have HO444 := n6; have HO447 := n7; have HO450 := n8; have BK419 := n9; have BK427 := n10; have BK435 := n11; have BK452 := n12; have HB := n13; clear n0 n1 n2 n3 n4 n5 n6 n7 n8 n9 n10 n11 n12 n13; (try clear hb); (try clear hb2); (try clear hk); (try clear hi); have hnb82 := NB452_419.out; have hnc82 := NB419_452.out; have hnb83 := NB452_435.out; have hnc83 := NB435_452.out; have hcz84_0 : w81.cell? ⟨gb452, 0, none⟩ = some (.slice Ao74 t445.length co74) := (blk_cell BK452.out 0).trans rfl; have hcz84_1 : w81.cell? ⟨gb452, 1, none⟩ = some (.slice Ao76 t448.length co76) := (blk_cell BK452.out 1).trans rfl; have hfz84_0 := blk_frozen BK452.out 0; have hfz84_1 := blk_frozen BK452.out 1; have hcz85_0 : w81.cell? ⟨gb427, 0, none⟩ = some (.slice Ao13 t420.length co13) := (blk_cell BK427.out 0).trans rfl; have hcz85_1 : w81.cell? ⟨gb427, 1, none⟩ = some (.slice Ao16 t423.length co16) := (blk_cell BK427.out 1).trans rfl; have hfz85_0 := blk_frozen BK427.out 0; have hfz85_1 := blk_frozen BK427.out 1) | (go_at_call 34; (with_reducible refine (laws_sameMap.calls kj5 _ _ t445 _ _ t448 _ _ t420 _ _ t423 t456 _ ?side1 ?side2 ?side3 ?side4 ?side5 ?side6 ?side7 ?side8 A61.out).mono ?_); (case side1 => exact cU ((Kd.R_reads' HO447.out).2.2)); (case side2 => exact (Kd.R_reads' HO447.out).2.1); (case side3 => exact cU ((Kd.R_reads' HO450.out).2.2)); (case side4 => exact (Kd.R_reads' HO450.out).2.1); (case side5 => exact cU ((Kd.R_reads' HO_Z2.out).2.2)); (case side6 => exact (Kd.R_reads' HO_Z2.out).2.1); (case side7 => exact cU ((Kd.R_reads' HO_Z3.out).2.2)); (case side8 => exact (Kd.R_reads' HO_Z3.out).2.1); rintro e w86 ⟨rfl, hb⟩; have n0 := Az (Kd.Q_below (qU HO_Z1.out) hb); have n1 := Az (Kd.R_below (rU HO_Z2.out) hb); have n2 := Az (Kd.R_below (rU HO_Z3.out) hb); have n3 := Az (Kd.R_below (rU HO_Z4.out) hb); have n4 := Az (Kd.R_below (rU HO_Z5.out) hb); have n5 := Az (Kd.R_below (rU HO440.out) hb); have n6 := Az (Kd.R_below (rU HO444.out) hb); have n7 := Az (Kd.R_below (rU HO447.out) hb); have n8 := Az (Kd.R_below (rU HO450.out) hb); have n9 := Az (blk_below (g := gb419) (o := .cells #[.string t415, .slice Ao10 t416.length co10] 25 (0, 0)) (kU BK419.out) hb); have n10 := Az (blk_below (g := gb427) (o := .cells #[.slice Ao13 t420.length co13, .slice Ao16 t423.length co16] 29 (0, 0)) (kU BK427.out) hb); have n11 := Az (blk_below (g := gb435) (o := .cells #[.slice Ao20 t428.length co20, .slice Ao24 t431.length co24] 29 (0, 0)) (kU BK435.out) hb); have n12 := Az (blk_below (g := gb452) (o := .cells #[.slice Ao74 t445.length co74, .slice Ao76 t448.length co76] 29 (0, 0)) (kU BK452.out) hb); have n13 := Az (below_step (bU4 HB.out GE419.out GE427.out GE435.out GE452.out) hb); clear HO_Z1 HO_Z2 HO_Z3 HO_Z4 HO_Z5 HO440 HO444 HO447 HO450 BK419 BK427 BK435 BK452 HB; have HO_Z1 := n0; have HO_Z2 := n1; have HO_Z3 := n2; have HO_Z4 := n3; have HO_Z5 := n4; have HO440 := n5; have HO444 := n6; have HO447 := n7; have HO450 := n8; have BK419 := n9; have BK427 := n10; have BK435 := n11; have BK452 := n12; have HB := n13; clear n0 n1 n2 n3 n4 n5 n6 n7 n8 n9 n10 n11 n12 n13; (try clear hb); (try clear hb2); (try clear hk); (try clear hi)))
            go_ret
            exact ⟨rE, bU4 HB.out GE419.out GE427.out GE435.out GE452.out⟩
           ·
            rw [if_neg c60] at H; have c60b0 := beq_eq_false_iff_ne.mpr c60; have c60b1 := bne_iff_ne.mpr c60; obtain rfl := Option.some.inj H; have hnb103 := NB427_452.out; have hnc103 := NB452_427.out; have hcz104_0 : w72.cell? ⟨gb427, 0, none⟩ = some (.slice Ao13 t420.length co13) := (blk_cell BK427.out 0).trans rfl; have hcz104_1 : w72.cell? ⟨gb427, 1, none⟩ = some (.slice Ao16 t423.length co16) := (blk_cell BK427.out 1).trans rfl; have hfz104_0 := blk_frozen BK427.out 0; have hfz104_1 := blk_frozen BK427.out 1; obtain ⟨Ao105, co105, eo105⟩ := Kd.R_slice HO440.out; subst eo105
            try go_wp2_with (first | (go_at_call 41; (with_reducible refine (laws_sameInts.calls kj5 _ _ t438 _ _ t423 true _ ?side1 ?side2 ?side3 ?side4 A55.out).mono ?_); (case side1 => refine (Kd.R_reads' (e := 3) (base := w.heap.size) (ok := fun k_ => (some k_ ≠ (.slice Ao73 y442.length co73 : Value).ownBlock ∧ (some k_ ≠ (.slice Ao74 t445.length co74 : Value).ownBlock ∧ (some k_ ≠ (.slice Ao76 t448.length co76 : Value).ownBlock ∧ (some k_ ≠ (.slice Ao10 t416.length co10 : Value).ownBlock ∧ (some k_ ≠ (.slice Ao13 t420.length co13 : Value).ownBlock ∧ (some k_ ≠ (.slice Ao16 t423.length co16 : Value).ownBlock ∧ (some k_ ≠ (.slice Ao20 t428.length co20 : Value).ownBlock ∧ some k_ ≠ (.slice Ao24 t431.length co24 : Value).ownBlock)))))))) (n := t438.length) (c := co105) ?_).2.2; exact (by (with_reducible repeat (first | apply Kd.R_alloc | apply Kd.R_drewN | apply Kd.R_drew)); exact (Kd.R_mono (Kd.R_far (p := ⟨gb452, 1, none⟩) (Kd.R_far (p := ⟨gb452, 0, none⟩) (Kd.R_types HO440.out BK452.out (by decide)) (fun _ hk => hk.2) (.slice Ao74 t445.length co74)) (fun _ hk => hk.2) (.slice Ao76 t448.length co76)) (fun _ h_ => h_.1)))); (case side2 => exact (Kd.R_reads' HO440.out).2.1); (case side3 => refine (Kd.R_reads' (e := 3) (base := w.heap.size) (ok := fun k_ => (some k_ ≠ (.slice Ao105 t438.length co105 : Value).ownBlock ∧ (some k_ ≠ (.slice Ao73 y442.length co73 : Value).ownBlock ∧ (some k_ ≠ (.slice Ao74 t445.length co74 : Value).ownBlock ∧ (some k_ ≠ (.slice Ao76 t448.length co76 : Value).ownBlock ∧ (some k_ ≠ (.slice Ao10 t416.length co10 : Value).ownBlock ∧ (some k_ ≠ (.slice Ao13 t420.length co13 : Value).ownBlock ∧ (some k_ ≠ (.slice Ao20 t428.length co20 : Value).ownBlock ∧ some k_ ≠ (.slice Ao24 t431.length co24 : Value).ownBlock)))))))) (n := t423.length) (c := co16) ?_).2.2; exact (by (with_reducible repeat (first | apply Kd.R_alloc | apply Kd.R_drewN | apply Kd.R_drew)); exact (Kd.R_mono (Kd.R_far (p := ⟨gb452, 1, none⟩) (Kd.R_far (p := ⟨gb452, 0, none⟩) (Kd.R_types HO_Z3.out BK452.out (by decide)) (fun _ hk => hk.2) (.slice Ao74 t445.length co74)) (fun _ hk => hk.2) (.slice Ao76 t448.length co76)) (fun _ h_ => h_.1)))); (case side4 => exact (Kd.R_reads' HO_Z3.out).2.1); rintro e w' ⟨rfl, ⟨nd, rfl⟩⟩) | (go_at_call 42; (with_reducible refine (impl_GluingPlanar.calls kj5 _ _ t438 true _ ?side1 ?side2 A57.out).mono ?_); (case side1 => refine (Kd.R_reads' (e := 3) (base := w.heap.size) (ok := fun k_ => (some k_ ≠ (.slice Ao73 y442.length co73 : Value).ownBlock ∧ (some k_ ≠ (.slice Ao74 t445.length co74 : Value).ownBlock ∧ (some k_ ≠ (.slice Ao76 t448.length co76 : Value).ownBlock ∧ (some k_ ≠ (.slice Ao10 t416.length co10 : Value).ownBlock ∧ (some k_ ≠ (.slice Ao13 t420.length co13 : Value).ownBlock ∧ (some k_ ≠ (.slice Ao16 t423.length co16 : Value).ownBlock ∧ (some k_ ≠ (.slice Ao20 t428.length co20 : Value).ownBlock ∧ some k_ ≠ (.slice Ao24 t431.length co24 : Value).ownBlock)))))))) (n := t438.length) (c := co105) ?_).2.2; exact (by (with_reducible repeat (first | apply Kd.R_alloc | apply Kd.R_drewN | apply Kd.R_drew)); exact (Kd.R_mono (Kd.R_far (p := ⟨gb452, 1, none⟩) (Kd.R_far (p := ⟨gb452, 0, none⟩) (Kd.R_types HO440.out BK452.out (by decide)) (fun _ hk => hk.2) (.slice Ao74 t445.length co74)) (fun _ hk => hk.2) (.slice Ao76 t448.length co76)) (fun _ h_ => h_.1)))); (case side2 => exact (Kd.R_reads' HO440.out).2.1); rintro e w' ⟨rfl, ⟨nd, rfl⟩⟩) | (go_at_call 43; (with_reducible refine (impl_MapGenus.calls kj5 _ _ t420 _ _ t423 t455 _ ?side1 ?side2 ?side3 ?side4 A59.out).mono ?_); (case side1 => refine (Kd.R_reads' (e := 3) (base := w.heap.size) (ok := fun k_ => (some k_ ≠ (.slice Ao105 t438.length co105 : Value).ownBlock ∧ (some k_ ≠ (.slice Ao73 y442.length co73 : Value).ownBlock ∧ (some k_ ≠ (.slice Ao74 t445.length co74 : Value).ownBlock ∧ (some k_ ≠ (.slice Ao76 t448.length co76 : Value).ownBlock ∧ (some k_ ≠ (.slice Ao10 t416.length co10 : Value).ownBlock ∧ (some k_ ≠ (.slice Ao16 t423.length co16 : Value).ownBlock ∧ (some k_ ≠ (.slice Ao20 t428.length co20 : Value).ownBlock ∧ some k_ ≠ (.slice Ao24 t431.length co24 : Value).ownBlock)))))))) (n := t420.length) (c := co13) ?_).2.2; exact (by (with_reducible repeat (first | apply Kd.R_alloc | apply Kd.R_drewN | apply Kd.R_drew)); exact (Kd.R_mono (Kd.R_far (p := ⟨gb452, 1, none⟩) (Kd.R_far (p := ⟨gb452, 0, none⟩) (Kd.R_types HO_Z2.out BK452.out (by decide)) (fun _ hk => hk.2) (.slice Ao74 t445.length co74)) (fun _ hk => hk.2) (.slice Ao76 t448.length co76)) (fun _ h_ => h_.1)))); (case side2 => exact (Kd.R_reads' HO_Z2.out).2.1); (case side3 => refine (Kd.R_reads' (e := 3) (base := w.heap.size) (ok := fun k_ => (some k_ ≠ (.slice Ao105 t438.length co105 : Value).ownBlock ∧ (some k_ ≠ (.slice Ao73 y442.length co73 : Value).ownBlock ∧ (some k_ ≠ (.slice Ao74 t445.length co74 : Value).ownBlock ∧ (some k_ ≠ (.slice Ao76 t448.length co76 : Value).ownBlock ∧ (some k_ ≠ (.slice Ao10 t416.length co10 : Value).ownBlock ∧ (some k_ ≠ (.slice Ao13 t420.length co13 : Value).ownBlock ∧ (some k_ ≠ (.slice Ao20 t428.length co20 : Value).ownBlock ∧ some k_ ≠ (.slice Ao24 t431.length co24 : Value).ownBlock)))))))) (n := t423.length) (c := co16) ?_).2.2; exact (by (with_reducible repeat (first | apply Kd.R_alloc | apply Kd.R_drewN | apply Kd.R_drew)); exact (Kd.R_mono (Kd.R_far (p := ⟨gb452, 1, none⟩) (Kd.R_far (p := ⟨gb452, 0, none⟩) (Kd.R_types HO_Z3.out BK452.out (by decide)) (fun _ hk => hk.2) (.slice Ao74 t445.length co74)) (fun _ hk => hk.2) (.slice Ao76 t448.length co76)) (fun _ h_ => h_.1)))); (case side4 => exact (Kd.R_reads' HO_Z3.out).2.1); rintro e w106 ⟨rfl, hb⟩; have n0 := Az (Kd.Q_below (by (with_reducible repeat (first | apply Kd.Q_alloc | apply Kd.Q_drewN | apply Kd.Q_drew)); exact (Kd.Q_mono (Kd.Q_far (p := ⟨gb452, 1, none⟩) (Kd.Q_far (p := ⟨gb452, 0, none⟩) (Kd.Q_types HO_Z1.out BK452.out (by decide)) (fun _ hk => hk.2) (.slice Ao74 t445.length co74)) (fun _ hk => hk.2) (.slice Ao76 t448.length co76)) (fun _ h_ => h_.1))) hb); have n1 := Az (Kd.R_below (by (with_reducible repeat (first | apply Kd.R_alloc | apply Kd.R_drewN | apply Kd.R_drew)); exact (Kd.R_mono (Kd.R_far (p := ⟨gb452, 1, none⟩) (Kd.R_far (p := ⟨gb452, 0, none⟩) (Kd.R_types HO_Z2.out BK452.out (by decide)) (fun _ hk => hk.2) (.slice Ao74 t445.length co74)) (fun _ hk => hk.2) (.slice Ao76 t448.length co76)) (fun _ h_ => h_.1))) hb); have n2 := Az (Kd.R_below (by (with_reducible repeat (first | apply Kd.R_alloc | apply Kd.R_drewN | apply Kd.R_drew)); exact (Kd.R_mono (Kd.R_far (p := ⟨gb452, 1, none⟩) (Kd.R_far (p := ⟨gb452, 0, none⟩) (Kd.R_types HO_Z3.out BK452.out (by decide)) (fun _ hk => hk.2) (.slice Ao74 t445.length co74)) (fun _ hk => hk.2) (.slice Ao76 t448.length co76)) (fun _ h_ => h_.1))) hb); have n3 := Az (Kd.R_below (by (with_reducible repeat (first | apply Kd.R_alloc | apply Kd.R_drewN | apply Kd.R_drew)); exact (Kd.R_mono (Kd.R_far (p := ⟨gb452, 1, none⟩) (Kd.R_far (p := ⟨gb452, 0, none⟩) (Kd.R_types HO_Z4.out BK452.out (by decide)) (fun _ hk => hk.2) (.slice Ao74 t445.length co74)) (fun _ hk => hk.2) (.slice Ao76 t448.length co76)) (fun _ h_ => h_.1))) hb); have n4 := Az (Kd.R_below (by (with_reducible repeat (first | apply Kd.R_alloc | apply Kd.R_drewN | apply Kd.R_drew)); exact (Kd.R_mono (Kd.R_far (p := ⟨gb452, 1, none⟩) (Kd.R_far (p := ⟨gb452, 0, none⟩) (Kd.R_types HO_Z5.out BK452.out (by decide)) (fun _ hk => hk.2) (.slice Ao74 t445.length co74)) (fun _ hk => hk.2) (.slice Ao76 t448.length co76)) (fun _ h_ => h_.1))) hb); have n5 := Az (Kd.R_below (by (with_reducible repeat (first | apply Kd.R_alloc | apply Kd.R_drewN | apply Kd.R_drew)); exact (Kd.R_mono (Kd.R_far (p := ⟨gb452, 1, none⟩) (Kd.R_far (p := ⟨gb452, 0, none⟩) (Kd.R_types HO440.out BK452.out (by decide)) (fun _ hk => hk.2) (.slice Ao74 t445.length co74)) (fun _ hk => hk.2) (.slice Ao76 t448.length co76)) (fun _ h_ => h_.1))) hb); have n6 := Az (Kd.R_below (by (with_reducible repeat (first | apply Kd.R_alloc | apply Kd.R_drewN | apply Kd.R_drew)); exact (Kd.R_mono (Kd.R_far (p := ⟨gb452, 1, none⟩) (Kd.R_far (p := ⟨gb452, 0, none⟩) (Kd.R_types HO444.out BK452.out (by decide)) (fun _ hk => hk.2) (.slice Ao74 t445.length co74)) (fun _ hk => hk.2) (.slice Ao76 t448.length co76)) (fun _ h_ => h_.1))) hb); have n7 := Az (Kd.R_below (by (with_reducible repeat (first | apply Kd.R_alloc | apply Kd.R_drewN | apply Kd.R_drew)); exact (Kd.R_mono (Kd.R_far (p := ⟨gb452, 1, none⟩) (Kd.R_far (p := ⟨gb452, 0, none⟩) (Kd.R_types HO447.out BK452.out (by decide)) (fun _ hk => hk.2) (.slice Ao74 t445.length co74)) (fun _ hk => hk.2) (.slice Ao76 t448.length co76)) (fun _ h_ => h_.1))) hb); have n8 := Az (Kd.R_below (by (with_reducible repeat (first | apply Kd.R_alloc | apply Kd.R_drewN | apply Kd.R_drew)); exact (Kd.R_mono (Kd.R_far (p := ⟨gb452, 1, none⟩) (Kd.R_far (p := ⟨gb452, 0, none⟩) (Kd.R_types HO450.out BK452.out (by decide)) (fun _ hk => hk.2) (.slice Ao74 t445.length co74)) (fun _ hk => hk.2) (.slice Ao76 t448.length co76)) (fun _ h_ => h_.1))) hb); have n9 := Az (blk_below (g := gb419) (o := .cells #[.string t415, .slice Ao10 t416.length co10] 25 (0, 0)) (by (with_reducible repeat (first | refine blk_drewN ?_ _ | refine blk_drew ?_ | refine blk_alloc ?_ _)); refine blk_far ?_ NB419_452.out _; (with_reducible repeat (first | refine blk_drewN ?_ _ | refine blk_drew ?_ | refine blk_alloc ?_ _)); refine blk_far ?_ NB419_452.out _; (with_reducible repeat (first | refine blk_drewN ?_ _ | refine blk_drew ?_ | refine blk_alloc ?_ _)); exact BK419.out) hb); have n10 := Az (blk_below (g := gb427) (o := .cells #[.slice Ao13 t420.length co13, .slice Ao16 t423.length co16] 29 (0, 0)) (by (with_reducible repeat (first | refine blk_drewN ?_ _ | refine blk_drew ?_ | refine blk_alloc ?_ _)); refine blk_far ?_ NB427_452.out _; (with_reducible repeat (first | refine blk_drewN ?_ _ | refine blk_drew ?_ | refine blk_alloc ?_ _)); refine blk_far ?_ NB427_452.out _; (with_reducible repeat (first | refine blk_drewN ?_ _ | refine blk_drew ?_ | refine blk_alloc ?_ _)); exact BK427.out) hb); have n11 := Az (blk_below (g := gb435) (o := .cells #[.slice Ao20 t428.length co20, .slice Ao24 t431.length co24] 29 (0, 0)) (by (with_reducible repeat (first | refine blk_drewN ?_ _ | refine blk_drew ?_ | refine blk_alloc ?_ _)); refine blk_far ?_ NB435_452.out _; (with_reducible repeat (first | refine blk_drewN ?_ _ | refine blk_drew ?_ | refine blk_alloc ?_ _)); refine blk_far ?_ NB435_452.out _; (with_reducible repeat (first | refine blk_drewN ?_ _ | refine blk_drew ?_ | refine blk_alloc ?_ _)); exact BK435.out) hb); have n12 := Az (blk_below (g := gb452) (o := .cells #[.slice Ao74 t445.length co74, .slice Ao76 t448.length co76] 29 (0, 0)) (by (with_reducible repeat (first | refine blk_drewN ?_ _ | refine blk_drew ?_ | refine blk_alloc ?_ _)); refine blk_put (cs := #[.slice Ao74 t445.length co74, .slice none 0 0]) ?_ 1 _ rfl; (with_reducible repeat (first | refine blk_drewN ?_ _ | refine blk_drew ?_ | refine blk_alloc ?_ _)); refine blk_put (cs := #[.slice none 0 0, .slice none 0 0]) ?_ 0 _ rfl; (with_reducible repeat (first | refine blk_drewN ?_ _ | refine blk_drew ?_ | refine blk_alloc ?_ _)); exact BK452.out) hb); have n13 := Az (below_step (bU4 HB.out GE419.out GE427.out GE435.out GE452.out) hb); clear HO_Z1 HO_Z2 HO_Z3 HO_Z4 HO_Z5 HO440 HO444 HO447 HO450 BK419 BK427 BK435 BK452 HB; have HO_Z1 := n0; have HO_Z2 := n1; have HO_Z3 := n2; have HO_Z4 := n3; have HO_Z5 := n4; have HO440 := n5; have HO444 := n6; have HO447 := n7; have HO450 := n8; have BK419 := n9; have BK427 := n10; have BK435 := n11; have BK452 := n12; have HB := n13; clear n0 n1 n2 n3 n4 n5 n6 n7 n8 n9 n10 n11 n12 n13; (try clear hb); (try clear hb2); (try clear hk); (try clear hi)))
            go_ret
            exact ⟨rE, bU4 HB.out GE419.out GE427.out GE435.out GE452.out⟩
          ·
           replace c58 := Bool.eq_false_iff.mpr c58; subst c58
           have H1 : (some false) = some r := by rw [if_neg (show ¬ (false = true) by decide)] at H; exact H
           clear H; have H := H1; clear H1; obtain rfl := Option.some.inj H; have hnb123 := NB427_452.out; have hnc123 := NB452_427.out; have hcz124_0 : w72.cell? ⟨gb427, 0, none⟩ = some (.slice Ao13 t420.length co13) := (blk_cell BK427.out 0).trans rfl; have hcz124_1 : w72.cell? ⟨gb427, 1, none⟩ = some (.slice Ao16 t423.length co16) := (blk_cell BK427.out 1).trans rfl; have hfz124_0 := blk_frozen BK427.out 0; have hfz124_1 := blk_frozen BK427.out 1; obtain ⟨Ao125, co125, eo125⟩ := Kd.R_slice HO440.out; subst eo125
           try go_wp2_with (first | (go_at_call 41; (with_reducible refine (laws_sameInts.calls kj5 _ _ t438 _ _ t423 true _ ?side1 ?side2 ?side3 ?side4 A55.out).mono ?_); (case side1 => refine (Kd.R_reads' (e := 3) (base := w.heap.size) (ok := fun k_ => (some k_ ≠ (.slice Ao73 y442.length co73 : Value).ownBlock ∧ (some k_ ≠ (.slice Ao74 t445.length co74 : Value).ownBlock ∧ (some k_ ≠ (.slice Ao76 t448.length co76 : Value).ownBlock ∧ (some k_ ≠ (.slice Ao10 t416.length co10 : Value).ownBlock ∧ (some k_ ≠ (.slice Ao13 t420.length co13 : Value).ownBlock ∧ (some k_ ≠ (.slice Ao16 t423.length co16 : Value).ownBlock ∧ (some k_ ≠ (.slice Ao20 t428.length co20 : Value).ownBlock ∧ some k_ ≠ (.slice Ao24 t431.length co24 : Value).ownBlock)))))))) (n := t438.length) (c := co125) ?_).2.2; exact (by (with_reducible repeat (first | apply Kd.R_alloc | apply Kd.R_drewN | apply Kd.R_drew)); exact (Kd.R_mono (Kd.R_far (p := ⟨gb452, 1, none⟩) (Kd.R_far (p := ⟨gb452, 0, none⟩) (Kd.R_types HO440.out BK452.out (by decide)) (fun _ hk => hk.2) (.slice Ao74 t445.length co74)) (fun _ hk => hk.2) (.slice Ao76 t448.length co76)) (fun _ h_ => h_.1)))); (case side2 => exact (Kd.R_reads' HO440.out).2.1); (case side3 => refine (Kd.R_reads' (e := 3) (base := w.heap.size) (ok := fun k_ => (some k_ ≠ (.slice Ao125 t438.length co125 : Value).ownBlock ∧ (some k_ ≠ (.slice Ao73 y442.length co73 : Value).ownBlock ∧ (some k_ ≠ (.slice Ao74 t445.length co74 : Value).ownBlock ∧ (some k_ ≠ (.slice Ao76 t448.length co76 : Value).ownBlock ∧ (some k_ ≠ (.slice Ao10 t416.length co10 : Value).ownBlock ∧ (some k_ ≠ (.slice Ao13 t420.length co13 : Value).ownBlock ∧ (some k_ ≠ (.slice Ao20 t428.length co20 : Value).ownBlock ∧ some k_ ≠ (.slice Ao24 t431.length co24 : Value).ownBlock)))))))) (n := t423.length) (c := co16) ?_).2.2; exact (by (with_reducible repeat (first | apply Kd.R_alloc | apply Kd.R_drewN | apply Kd.R_drew)); exact (Kd.R_mono (Kd.R_far (p := ⟨gb452, 1, none⟩) (Kd.R_far (p := ⟨gb452, 0, none⟩) (Kd.R_types HO_Z3.out BK452.out (by decide)) (fun _ hk => hk.2) (.slice Ao74 t445.length co74)) (fun _ hk => hk.2) (.slice Ao76 t448.length co76)) (fun _ h_ => h_.1)))); (case side4 => exact (Kd.R_reads' HO_Z3.out).2.1); rintro e w' ⟨rfl, ⟨nd, rfl⟩⟩) | (go_at_call 42; (with_reducible refine (impl_GluingPlanar.calls kj5 _ _ t438 false _ ?side1 ?side2 A57.out).mono ?_); (case side1 => refine (Kd.R_reads' (e := 3) (base := w.heap.size) (ok := fun k_ => (some k_ ≠ (.slice Ao73 y442.length co73 : Value).ownBlock ∧ (some k_ ≠ (.slice Ao74 t445.length co74 : Value).ownBlock ∧ (some k_ ≠ (.slice Ao76 t448.length co76 : Value).ownBlock ∧ (some k_ ≠ (.slice Ao10 t416.length co10 : Value).ownBlock ∧ (some k_ ≠ (.slice Ao13 t420.length co13 : Value).ownBlock ∧ (some k_ ≠ (.slice Ao16 t423.length co16 : Value).ownBlock ∧ (some k_ ≠ (.slice Ao20 t428.length co20 : Value).ownBlock ∧ some k_ ≠ (.slice Ao24 t431.length co24 : Value).ownBlock)))))))) (n := t438.length) (c := co125) ?_).2.2; exact (by (with_reducible repeat (first | apply Kd.R_alloc | apply Kd.R_drewN | apply Kd.R_drew)); exact (Kd.R_mono (Kd.R_far (p := ⟨gb452, 1, none⟩) (Kd.R_far (p := ⟨gb452, 0, none⟩) (Kd.R_types HO440.out BK452.out (by decide)) (fun _ hk => hk.2) (.slice Ao74 t445.length co74)) (fun _ hk => hk.2) (.slice Ao76 t448.length co76)) (fun _ h_ => h_.1)))); (case side2 => exact (Kd.R_reads' HO440.out).2.1); rintro e w' ⟨rfl, ⟨nd, rfl⟩⟩))
           go_ret
           exact ⟨rE, bU4 HB.out GE419.out GE427.out GE435.out GE452.out⟩
         ·
          replace c56 := Bool.eq_false_iff.mpr c56; subst c56
          have H1 : (some false) = some r := by rw [if_neg (show ¬ (false = true) by decide)] at H; exact H
          clear H; have H := H1; clear H1; obtain rfl := Option.some.inj H; have hnb142 := NB427_452.out; have hnc142 := NB452_427.out; have hcz143_0 : w72.cell? ⟨gb427, 0, none⟩ = some (.slice Ao13 t420.length co13) := (blk_cell BK427.out 0).trans rfl; have hcz143_1 : w72.cell? ⟨gb427, 1, none⟩ = some (.slice Ao16 t423.length co16) := (blk_cell BK427.out 1).trans rfl; have hfz143_0 := blk_frozen BK427.out 0; have hfz143_1 := blk_frozen BK427.out 1; obtain ⟨Ao144, co144, eo144⟩ := Kd.R_slice HO440.out; subst eo144
          try go_wp2_with (first | (go_at_call 41; (with_reducible refine (laws_sameInts.calls kj5 _ _ t438 _ _ t423 false _ ?side1 ?side2 ?side3 ?side4 A55.out).mono ?_); (case side1 => refine (Kd.R_reads' (e := 3) (base := w.heap.size) (ok := fun k_ => (some k_ ≠ (.slice Ao73 y442.length co73 : Value).ownBlock ∧ (some k_ ≠ (.slice Ao74 t445.length co74 : Value).ownBlock ∧ (some k_ ≠ (.slice Ao76 t448.length co76 : Value).ownBlock ∧ (some k_ ≠ (.slice Ao10 t416.length co10 : Value).ownBlock ∧ (some k_ ≠ (.slice Ao13 t420.length co13 : Value).ownBlock ∧ (some k_ ≠ (.slice Ao16 t423.length co16 : Value).ownBlock ∧ (some k_ ≠ (.slice Ao20 t428.length co20 : Value).ownBlock ∧ some k_ ≠ (.slice Ao24 t431.length co24 : Value).ownBlock)))))))) (n := t438.length) (c := co144) ?_).2.2; exact (by (with_reducible repeat (first | apply Kd.R_alloc | apply Kd.R_drewN | apply Kd.R_drew)); exact (Kd.R_mono (Kd.R_far (p := ⟨gb452, 1, none⟩) (Kd.R_far (p := ⟨gb452, 0, none⟩) (Kd.R_types HO440.out BK452.out (by decide)) (fun _ hk => hk.2) (.slice Ao74 t445.length co74)) (fun _ hk => hk.2) (.slice Ao76 t448.length co76)) (fun _ h_ => h_.1)))); (case side2 => exact (Kd.R_reads' HO440.out).2.1); (case side3 => refine (Kd.R_reads' (e := 3) (base := w.heap.size) (ok := fun k_ => (some k_ ≠ (.slice Ao144 t438.length co144 : Value).ownBlock ∧ (some k_ ≠ (.slice Ao73 y442.length co73 : Value).ownBlock ∧ (some k_ ≠ (.slice Ao74 t445.length co74 : Value).ownBlock ∧ (some k_ ≠ (.slice Ao76 t448.length co76 : Value).ownBlock ∧ (some k_ ≠ (.slice Ao10 t416.length co10 : Value).ownBlock ∧ (some k_ ≠ (.slice Ao13 t420.length co13 : Value).ownBlock ∧ (some k_ ≠ (.slice Ao20 t428.length co20 : Value).ownBlock ∧ some k_ ≠ (.slice Ao24 t431.length co24 : Value).ownBlock)))))))) (n := t423.length) (c := co16) ?_).2.2; exact (by (with_reducible repeat (first | apply Kd.R_alloc | apply Kd.R_drewN | apply Kd.R_drew)); exact (Kd.R_mono (Kd.R_far (p := ⟨gb452, 1, none⟩) (Kd.R_far (p := ⟨gb452, 0, none⟩) (Kd.R_types HO_Z3.out BK452.out (by decide)) (fun _ hk => hk.2) (.slice Ao74 t445.length co74)) (fun _ hk => hk.2) (.slice Ao76 t448.length co76)) (fun _ h_ => h_.1)))); (case side4 => exact (Kd.R_reads' HO_Z3.out).2.1); rintro e w' ⟨rfl, ⟨nd, rfl⟩⟩))
          go_ret
          exact ⟨rE, bU4 HB.out GE419.out GE427.out GE435.out GE452.out⟩
        ·
         replace c54 := Bool.eq_false_iff.mpr c54; subst c54
         have H1 : (some false) = some r := by rw [if_neg (show ¬ (false = true) by decide)] at H; exact H
         clear H; have H := H1; clear H1; obtain rfl := Option.some.inj H
         try go_wp2
         go_ret
         exact ⟨rE, bU4 HB.out GE419.out GE427.out GE435.out GE452.out⟩
       ·
        replace c53 := Bool.eq_false_iff.mpr c53; subst c53
        have H1 : (some false) = some r := by rw [if_neg (show ¬ (false = true) by decide)] at H; exact H
        clear H; have H := H1; clear H1; obtain rfl := Option.some.inj H
        try go_wp2
        go_ret
        exact ⟨rE, bU4 HB.out GE419.out GE427.out GE435.out GE452.out⟩
      ·
       rw [if_neg c51] at H
       exact absurd H (by simp)
     ·
      rw [if_neg c50] at H
      exact absurd H (by simp)
def laws_FnTreeMap.Pure : Prop := ∀ (l0 : List Int), l0.length ≤ maxLen → l0.length * 1 ≤ 140737488351232 → (∀ x ∈ l0, (Lit.int .u8 x).wf = true) → ∃ k, laws_FnTreeMap.f k l0 = some true
theorem laws_FnTreeMap.walk (P : laws_FnTreeMap.Pure) (a0 : Option Addr) (len0 cap0 : Nat) (z0 : List Int) (w : World) (w0 : (a0 = none ∧ len0 = 0 ∧ cap0 = 0 ∧ z0 = []) ∨ ∃ x, a0 = some x ∧ len0 ≤ cap0 ∧ cap0 ≤ maxLen ∧ z0.length = cap0 ∧ (∀ i, i < z0.length → w.cell? (x.add i) = some (.int .u8 (z0.getD i 0))) ∧ ∀ n ∈ z0, (Lit.int .u8 n).wf = true) (y0 : len0 * 1 ≤ 140737488351232) :
  Calls Try.prog 6 #[.slice a0 len0 cap0] w fun e w' => e = .returned (.bool true) ∧ Below w.heap.size w w' := by
 obtain ⟨l0, rfl, hr0, hm0, hw0, hc0⟩ := ReadsInt.ofRowC w0; obtain ⟨k, h⟩ := P l0 hm0 y0 hw0
 refine (laws_FnTreeMap.calls k _ _ l0 true w (Kd.C_of_reads (d := (0 : Int)) (h1 := fun _ => rfl) hr0) hc0 h).mono ?_
 rintro e w' ⟨rfl, hd⟩
 exact ⟨rfl, hd⟩
end Go.Proofs.Ytlpbalebodlipaa.PG

set_option linter.unusedVariables false
set_option linter.unusedSimpArgs false
namespace Go.Proofs.Ytlpbalebodlipaa.PG
open Go.RowKit Go.Proofs.YtlpbalebodlipaaW.PrintWords Go.Proofs.YtlpbalebodlipaaW.PrintLast Go.Proofs.YtlpbalebodlipaaW.PrintMore
theorem Ev.s {α : Type} {g : Nat → Option α} {r : α} (h : Ev (fun k => g (k + 1)) r) : Ev g r := Ev.step (fun _ => rfl) h
theorem Ev.const {α : Type} {o : Option α} {r : α} (h : o = some r) : Ev (fun _ => o) r := ⟨0, fun _ _ => h⟩
theorem w64 {x : Int} (h1 : -9223372036854775808 ≤ x) (h2 : x < 9223372036854775808) : wrap64 x = x := by unfold wrap64; omega
theorem rd_lt (l : List Int) (i : Nat) (h : i < l.length) : rd l (i : Int) = l[i] := by
  unfold rd
  rw [Int.toNat_natCast, List.getD_eq_getElem?_getD, List.getElem?_eq_getElem h]
  rfl
def walkT (s : ByteArray) : Nat → Int → Option (Int × Int)
  | 0, g => some (g, 0)
  | d + 1, g => if bt s ((s.size : Int) - (d + 1 : Nat)) = 40 then (walkT s d (g + 1)).map (fun p => (p.1, p.2 + 1)) else if bt s ((s.size : Int) - (d + 1 : Nat)) = 41 then (if g - 1 < 0 then none else walkT s d (g - 1)) else none
theorem walkT_range (s : ByteArray) : ∀ (d : Nat) (g : Int) (p : Int × Int), 0 ≤ g → walkT s d g = some p → 0 ≤ p.1 ∧ 0 ≤ p.2 ∧ p.2 ≤ d ∧ p.1 = g + 2 * p.2 - d
  | 0, g, p, hg, h => by simp only [walkT, Option.some.injEq] at h; subst h; simp; omega
  | d + 1, g, p, hg, h => by
    simp only [walkT] at h
    split at h
    · cases e : walkT s d (g + 1) with
      | none => rw [e] at h; cases h
      | some q =>
        rw [e] at h
        obtain rfl := Option.some.inj h
        have := walkT_range s d (g + 1) q (by omega) e
        simp only
        omega
    · split at h
      · split at h
        · cases h
        · have := walkT_range s d (g - 1) p (by omega) h
          omega
      · cases h
theorem spec_steps (x3 x4 : Int) (s : ByteArray) (l : List Int) (hl : l.length ≤ 1048576) : ∀ (d i : Nat), l.length - i = d → i ≤ l.length →
    ((∀ j, i ≤ j → j < l.length → -1 ≤ rd l j ∧ rd l j ≤ 1) → Ev (fun k => spec_TreeValid.l1 k x3 x4 i s l) (decide (x3 = 0 ∧ (1 ≤ x4 ∧ x4 ≤ 3) ∧ (l.length : Int) = x4))) ∧
    (¬ (∀ j, i ≤ j → j < l.length → -1 ≤ rd l j ∧ rd l j ≤ 1) → Ev (fun k => spec_TreeValid.l1 k x3 x4 i s l) false)
  | 0, i, hd, hi => by
    refine ⟨fun _ => Ev.s ?_, fun h => absurd (fun j h1 h2 => by omega) h⟩
    simp only [spec_TreeValid.l1, show ¬ (i : Int) < (l.length : Int) by omega, if_false]
    refine Ev.const ?_
    unfold spec_l6In.f
    by_cases h1 : x3 = 0
    · by_cases h2 : x4 ≥ 1
      · by_cases h3 : x4 ≤ 3
        · by_cases h4 : (l.length : Int) = x4 <;> simp [h1, h2, h3, h4] <;> (try omega)
        · simp [h1, h2, h3]
      · simp [h1, h2] <;> (first | done | omega)
    · simp [h1]
  | d + 1, i, hd, hi => by
    have ih := spec_steps x3 x4 s l hl d (i + 1) (by omega) (by omega)
    have hw : wrap64 ((i : Int) + 1) = ((i + 1 : Nat) : Int) := by rw [w64 (by omega) (by omega)]; omega
    by_cases hb : -1 ≤ rd l i ∧ rd l i ≤ 1
    · have hin : spec_l6In.f (rd l i) (-1) 1 = some true := by unfold spec_l6In.f; rw [if_pos hb.1, decide_eq_true hb.2]
      refine ⟨fun h => Ev.s ?_, fun h => Ev.s ?_⟩
      · simp only [spec_TreeValid.l1, show (i : Int) < (l.length : Int) by omega, show (0 : Int) ≤ i by omega, if_true, hin, Option.bind_some, hw]
        exact ih.1 fun j h1 h2 => h j (by omega) h2
      · simp only [spec_TreeValid.l1, show (i : Int) < (l.length : Int) by omega, show (0 : Int) ≤ i by omega, if_true, hin, Option.bind_some, hw]
        refine ih.2 fun h' => h fun j h1 h2 => ?_
        by_cases e : j = i
        · rw [e]; exact hb
        · exact h' j (by omega) h2
    · have hin : spec_l6In.f (rd l i) (-1) 1 = some false := by
        unfold spec_l6In.f
        by_cases h1 : rd l i ≥ -1
        · rw [if_pos h1, decide_eq_false (by omega)]
        · rw [if_neg h1]
      refine ⟨fun h => absurd (h i (Nat.le_refl _) (by omega)) hb, fun h => Ev.s ?_⟩
      simp only [spec_TreeValid.l1, show (i : Int) < (l.length : Int) by omega, show (0 : Int) ≤ i by omega, if_true, hin, Option.bind_some]
      exact Ev.const rfl
theorem spec_walk (s : ByteArray) (hs : s.size ≤ 1048576) (l : List Int) : ∀ (d : Nat) (i g c : Int), 0 ≤ i → (s.size : Int) - i = d → 0 ≤ g → g ≤ i → 0 ≤ c → c ≤ i →
    (∀ p, walkT s d g = some p → ∀ r, Ev (fun k => spec_TreeValid.l1 k p.1 (c + p.2) 0 s l) r → Ev (fun k => spec_TreeValid.l0 k g c i s l) r) ∧ (walkT s d g = none → Ev (fun k => spec_TreeValid.l0 k g c i s l) false)
  | 0, i, g, c, hi, hd, hg, hgi, hc, hci => by
    refine ⟨fun p hp r h => Ev.s ?_, fun h => by simp [walkT] at h⟩
    simp only [spec_TreeValid.l0, show ¬ i < (s.size : Int) by omega, if_false]
    simp only [walkT, Option.some.injEq] at hp
    subst hp
    simpa using h
  | d + 1, i, g, c, hi, hd, hg, hgi, hc, hci => by
    have hj : (s.size : Int) - ((d + 1 : Nat) : Int) = i := by omega
    have w1 : wrap64 (g + 1) = g + 1 := w64 (by omega) (by omega)
    have w2 : wrap64 (g - 1) = g - 1 := w64 (by omega) (by omega)
    have w3 : wrap64 (c + 1) = c + 1 := w64 (by omega) (by omega)
    have w4 : wrap64 (i + 1) = i + 1 := w64 (by omega) (by omega)
    simp only [walkT, hj]
    by_cases b0 : bt s i = 40
    · simp only [b0, if_true]
      have ih := spec_walk s hs l d (i + 1) (g + 1) (c + 1) (by omega) (by omega) (by omega) (by omega) (by omega) (by omega)
      refine ⟨fun p hp r h => Ev.s ?_, fun h => Ev.s ?_⟩
      · simp only [spec_TreeValid.l0, show i < (s.size : Int) by omega, hi, b0, if_true, w1, w3, w4, show ¬ g + 1 < 0 by omega, if_false]
        cases e : walkT s d (g + 1) with
        | none => rw [e] at hp; cases hp
        | some q =>
          rw [e] at hp
          obtain rfl := Option.some.inj hp
          refine ih.1 q e r ?_
          have : c + 1 + q.2 = c + (q.2 + 1) := by omega
          rw [this]
          exact h
      · simp only [spec_TreeValid.l0, show i < (s.size : Int) by omega, hi, b0, if_true, w1, w3, w4, show ¬ g + 1 < 0 by omega, if_false]
        exact ih.2 (by simpa using h)
    · by_cases b1 : bt s i = 41
      · simp only [b1, if_true, show ¬ ((41 : Int) = 40) by decide, if_false]
        by_cases hz : g - 1 < 0
        · refine ⟨fun p hp => by simp [hz] at hp, fun _ => Ev.s ?_⟩
          simp only [spec_TreeValid.l0, show i < (s.size : Int) by omega, hi, b1, if_true, w2, hz, show ¬ ((41 : Int) = 40) by decide, if_false]
          exact Ev.const rfl
        · have ih := spec_walk s hs l d (i + 1) (g - 1) c (by omega) (by omega) (by omega) (by omega) (by omega) (by omega)
          simp only [hz, if_false]
          refine ⟨fun p hp r h => Ev.s ?_, fun h => Ev.s ?_⟩
          · simp only [spec_TreeValid.l0, show i < (s.size : Int) by omega, hi, b1, if_true, w2, w4, hz, show ¬ ((41 : Int) = 40) by decide, if_false]
            exact ih.1 p hp r h
          · simp only [spec_TreeValid.l0, show i < (s.size : Int) by omega, hi, b1, if_true, w2, w4, hz, show ¬ ((41 : Int) = 40) by decide, if_false]
            exact ih.2 h
      · simp only [b0, b1, if_false]
        refine ⟨fun p hp => by simp at hp, fun _ => Ev.s ?_⟩
        simp only [spec_TreeValid.l0, show i < (s.size : Int) by omega, hi, b0, b1, if_true, if_false]
        exact Ev.const rfl
theorem impl_walk (s : ByteArray) (hs : s.size ≤ 1048576) : ∀ (d i : Nat) (g : Int), (s.size : Int) - i = d → 0 ≤ g → g ≤ i →
    (∀ p, walkT s d g = some p → Ev (fun k => impl_TreeValid.l1 k s i g) (p.1 == 0)) ∧ (walkT s d g = none → Ev (fun k => impl_TreeValid.l1 k s i g) false)
  | 0, i, g, hd, hg, hgi => by
    refine ⟨fun p hp => Ev.s ?_, fun h => by simp [walkT] at h⟩
    simp only [impl_TreeValid.l1, show ¬ i < s.size by omega, if_false]
    simp only [walkT, Option.some.injEq] at hp
    subst hp
    exact Ev.const rfl
  | d + 1, i, g, hd, hg, hgi => by
    have hj : (s.size : Int) - ((d + 1 : Nat) : Int) = (i : Int) := by omega
    have w1 : wrap64 (g + 1) = g + 1 := w64 (by omega) (by omega)
    have w2 : wrap64 (g - 1) = g - 1 := w64 (by omega) (by omega)
    simp only [walkT, hj]
    by_cases b0 : bt s i = 40
    · simp only [b0, if_true]
      have ih := impl_walk s hs d (i + 1) (g + 1) (by omega) (by omega) (by omega)
      refine ⟨fun p hp => Ev.s ?_, fun h => Ev.s ?_⟩
      · simp only [impl_TreeValid.l1, show i < s.size by omega, b0, if_true, w1, show ¬ g + 1 < 0 by omega, if_false]
        cases e : walkT s d (g + 1) with
        | none => rw [e] at hp; cases hp
        | some q =>
          rw [e] at hp
          obtain rfl := Option.some.inj hp
          exact ih.1 q e
      · simp only [impl_TreeValid.l1, show i < s.size by omega, b0, if_true, w1, show ¬ g + 1 < 0 by omega, if_false]
        exact ih.2 (by simpa using h)
    · by_cases b1 : bt s i = 41
      · simp only [b1, if_true, show ¬ ((41 : Int) = 40) by decide, if_false]
        by_cases hz : g - 1 < 0
        · refine ⟨fun p hp => by simp [hz] at hp, fun _ => Ev.s ?_⟩
          simp only [impl_TreeValid.l1, show i < s.size by omega, b1, if_true, w2, hz, show ¬ ((41 : Int) = 40) by decide, if_false]
          exact Ev.const rfl
        · have ih := impl_walk s hs d (i + 1) (g - 1) (by omega) (by omega) (by omega)
          simp only [hz, if_false]
          refine ⟨fun p hp => Ev.s ?_, fun h => Ev.s ?_⟩
          · simp only [impl_TreeValid.l1, show i < s.size by omega, b1, if_true, w2, hz, show ¬ ((41 : Int) = 40) by decide, if_false]
            exact ih.1 p hp
          · simp only [impl_TreeValid.l1, show i < s.size by omega, b1, if_true, w2, hz, show ¬ ((41 : Int) = 40) by decide, if_false]
            exact ih.2 h
      · simp only [b0, b1, if_false]
        refine ⟨fun p hp => by simp at hp, fun _ => Ev.s ?_⟩
        simp only [impl_TreeValid.l1, show i < s.size by omega, b0, b1, if_true, if_false]
        exact Ev.const rfl
theorem impl_steps (s : ByteArray) (l : List Int) (hl : l.length ≤ 3) : ∀ (d i : Nat), l.length - i = d → i ≤ l.length →
    ((∀ j, i ≤ j → j < l.length → -1 ≤ rd l j ∧ rd l j ≤ 1) → ∀ r, Ev (fun k => impl_TreeValid.l1 k s 0 0) r → Ev (fun k => impl_TreeValid.l0 k s l i) r) ∧
    (¬ (∀ j, i ≤ j → j < l.length → -1 ≤ rd l j ∧ rd l j ≤ 1) → Ev (fun k => impl_TreeValid.l0 k s l i) false)
  | 0, i, hd, hi => by
    refine ⟨fun _ r h => Ev.s ?_, fun h => absurd (fun j h1 h2 => by omega) h⟩
    simp only [impl_TreeValid.l0, show ¬ (i : Int) < (l.length : Int) by omega, if_false]
    exact h
  | d + 1, i, hd, hi => by
    have ih := impl_steps s l hl d (i + 1) (by omega) (by omega)
    have hw : wrap64 ((i : Int) + 1) = ((i + 1 : Nat) : Int) := by rw [w64 (by omega) (by omega)]; omega
    by_cases hb1 : rd l i < -1
    · refine ⟨fun h => absurd (h i (Nat.le_refl _) (by omega)) (by omega), fun h => Ev.s ?_⟩
      simp only [impl_TreeValid.l0, show (i : Int) < (l.length : Int) by omega, show (0 : Int) ≤ i by omega, hb1, if_true]
      exact Ev.const rfl
    · by_cases hb2 : rd l i > 1
      · refine ⟨fun h => absurd (h i (Nat.le_refl _) (by omega)) (by omega), fun h => Ev.s ?_⟩
        simp only [impl_TreeValid.l0, show (i : Int) < (l.length : Int) by omega, show (0 : Int) ≤ i by omega, hb1, hb2, if_true, if_false]
        exact Ev.const rfl
      · refine ⟨fun h r hr => Ev.s ?_, fun h => Ev.s ?_⟩
        · simp only [impl_TreeValid.l0, show (i : Int) < (l.length : Int) by omega, show (0 : Int) ≤ i by omega, hb1, hb2, if_true, if_false, hw]
          exact ih.1 (fun j h1 h2 => h j (by omega) h2) r hr
        · simp only [impl_TreeValid.l0, show (i : Int) < (l.length : Int) by omega, show (0 : Int) ≤ i by omega, hb1, hb2, if_true, if_false, hw]
          refine ih.2 fun h' => h fun j h1 h2 => ?_
          by_cases e : j = i
          · rw [e]; omega
          · exact h' j (by omega) h2
def treeOk (s : ByteArray) (l : List Int) : Prop := 1 ≤ l.length ∧ l.length ≤ 3 ∧ s.size = 2 * l.length ∧ (∀ j : Nat, j < l.length → -1 ≤ rd l j ∧ rd l j ≤ 1) ∧ ∃ c, walkT s s.size 0 = some (0, c)
theorem treeValid_both (s : ByteArray) (hs : s.size ≤ 1048576) (l : List Int) (hl : l.length ≤ 1048576) :
    ∃ b : Bool, Ev (fun k => spec_TreeValid.f k s l) b ∧ Ev (fun k => impl_TreeValid.f k s l) b ∧ (b = true → treeOk s l) := by
  have hsp := spec_walk s hs l s.size 0 0 0 (by omega) (by omega) (by omega) (by omega) (by omega) (by omega)
  have hst := fun x3 x4 => spec_steps x3 x4 s l hl l.length 0 (by omega) (by omega)
  simp only [spec_TreeValid.f, impl_TreeValid.f]
  cases hw : walkT s s.size 0 with
  | none =>
    refine ⟨false, hsp.2 hw, ?_, fun h => by cases h⟩
    by_cases h1 : (l.length : Int) < 1
    · simp only [h1, if_true]; exact Ev.const rfl
    · by_cases h3 : (l.length : Int) > 3
      · simp only [h1, h3, if_true, if_false]; exact Ev.const rfl
      · by_cases h2 : (s.size : Int) = wrap64 (2 * (l.length : Int))
        · simp only [h1, h3, if_false]
          simp only [if_pos h2]
          by_cases hb : ∀ j : Nat, 0 ≤ j → j < l.length → -1 ≤ rd l j ∧ rd l j ≤ 1
          · exact (impl_steps s l (by omega) l.length 0 (by omega) (by omega)).1 hb _ ((impl_walk s hs s.size 0 0 (by omega) (by omega) (by omega)).2 hw)
          · exact (impl_steps s l (by omega) l.length 0 (by omega) (by omega)).2 hb
        · simp only [h1, h3, h2, if_false]
          exact Ev.const rfl
  | some p =>
    have hr := walkT_range s s.size 0 p (by omega) hw
    have hc0 : (0 : Int) + p.2 = p.2 := by omega
    by_cases hb : ∀ j : Nat, 0 ≤ j → j < l.length → -1 ≤ rd l j ∧ rd l j ≤ 1
    · refine ⟨decide (p.1 = 0 ∧ (1 ≤ p.2 ∧ p.2 ≤ 3) ∧ (l.length : Int) = p.2), hsp.1 p hw _ ?_, ?_, fun h => ?_⟩
      · rw [hc0]; exact (hst p.1 p.2).1 hb
      · by_cases h1 : (l.length : Int) < 1
        · simp only [h1, if_true]
          exact Ev.const (by congr 1; symm; rw [decide_eq_false_iff_not]; omega)
        · by_cases h3 : (l.length : Int) > 3
          · simp only [h1, h3, if_true, if_false]
            exact Ev.const (by congr 1; symm; rw [decide_eq_false_iff_not]; omega)
          · have h2w : wrap64 (2 * (l.length : Int)) = 2 * (l.length : Int) := w64 (by omega) (by omega)
            by_cases h2 : (s.size : Int) = 2 * (l.length : Int)
            · simp only [h1, h3, if_false, h2w]
              simp only [if_pos h2]
              have hi := (impl_steps s l (by omega) l.length 0 (by omega) (by omega)).1 hb _ ((impl_walk s hs s.size 0 0 (by omega) (by omega) (by omega)).1 p hw)
              have e : (p.1 == 0) = decide (p.1 = 0 ∧ (1 ≤ p.2 ∧ p.2 ≤ 3) ∧ (l.length : Int) = p.2) := by
                rw [Bool.eq_iff_iff]
                simp only [beq_iff_eq, decide_eq_true_eq]
                omega
              rw [e] at hi
              exact hi
            · simp only [h1, h3, h2, if_false, h2w]
              exact Ev.const (by congr 1; symm; rw [decide_eq_false_iff_not]; omega)
      · have := of_decide_eq_true h
        refine ⟨by omega, by omega, by omega, fun j hj => hb j (by omega) hj, p.2, ?_⟩
        rw [hw]
        congr 1
        exact Prod.ext this.1 rfl
    · refine ⟨false, hsp.1 p hw _ ?_, ?_, fun h => by cases h⟩
      · exact (hst p.1 _).2 hb
      · by_cases h1 : (l.length : Int) < 1
        · simp only [h1, if_true]; exact Ev.const rfl
        · by_cases h3 : (l.length : Int) > 3
          · simp only [h1, h3, if_true, if_false]; exact Ev.const rfl
          · by_cases h2 : (s.size : Int) = wrap64 (2 * (l.length : Int))
            · simp only [h1, h3, if_false]
              simp only [if_pos h2]
              exact (impl_steps s l (by omega) l.length 0 (by omega) (by omega)).2 hb
            · simp only [h1, h3, h2, if_false]
              exact Ev.const rfl
def stepsAll : Nat → List (List Int)
  | 0 => [[]]
  | n + 1 => [-1, 0, 1].flatMap fun a => (stepsAll n).map fun l => a :: l
def wordsAll : Nat → List ByteArray
  | 1 => [⟨#[40, 41]⟩]
  | 2 => [⟨#[40, 40, 41, 41]⟩, ⟨#[40, 41, 40, 41]⟩]
  | 3 => [⟨#[40, 40, 40, 41, 41, 41]⟩, ⟨#[40, 40, 41, 40, 41, 41]⟩, ⟨#[40, 40, 41, 41, 40, 41]⟩, ⟨#[40, 41, 40, 40, 41, 41]⟩, ⟨#[40, 41, 40, 41, 40, 41]⟩]
  | _ => []
def chkN (P : ByteArray → List Int → Bool) (n : Nat) : Bool := (wordsAll n).all fun s => (stepsAll n).all fun l => P s l
theorem stepsAll_mem : ∀ (l : List Int), (∀ x ∈ l, -1 ≤ x ∧ x ≤ 1) → l ∈ stepsAll l.length
  | [], _ => by simp [stepsAll]
  | a :: l, h => by
    have ih := stepsAll_mem l fun x hx => h x (by simp [hx])
    have ha := h a (by simp)
    simp only [List.length_cons, stepsAll, List.mem_flatMap, List.mem_map]
    exact ⟨a, by simp; omega, l, ih, rfl⟩
theorem walkT_bytes (s : ByteArray) : ∀ (d : Nat) (g : Int) (p : Int × Int), walkT s d g = some p → ∀ q : Int, (s.size : Int) - d ≤ q → q < s.size → bt s q = 40 ∨ bt s q = 41
  | 0, g, p, h, q, h1, h2 => by omega
  | d + 1, g, p, h, q, h1, h2 => by
    simp only [walkT] at h
    by_cases e : q = (s.size : Int) - ((d + 1 : Nat) : Int)
    · rw [e]
      by_cases b0 : bt s ((s.size : Int) - ((d + 1 : Nat) : Int)) = 40
      · exact .inl b0
      · by_cases b1 : bt s ((s.size : Int) - ((d + 1 : Nat) : Int)) = 41
        · exact .inr b1
        · rw [if_neg b0, if_neg b1] at h
          cases h
    · split at h
      · cases e2 : walkT s d (g + 1) with
        | none => rw [e2] at h; cases h
        | some q' => exact walkT_bytes s d (g + 1) q' e2 q (by omega) h2
      · split at h
        · split at h
          · cases h
          · exact walkT_bytes s d (g - 1) p h q (by omega) h2
        · cases h
theorem byte_of (b : UInt8) (h : ((b.toNat : Int) = 40) ∨ ((b.toNat : Int) = 41)) : b = 40 ∨ b = 41 := by
  rcases h with h | h
  · left; apply UInt8.toNat_inj.1; simpa using (by omega : b.toNat = 40)
  · right; apply UInt8.toNat_inj.1; simpa using (by omega : b.toNat = 41)
theorem bytes_of (s : ByteArray) (n : Nat) (hn : s.size = n) : ∃ l : List UInt8, l.length = n ∧ s = ⟨l.toArray⟩ := by
  refine ⟨s.data.toList, ?_, ?_⟩
  · rw [Array.length_toList]; exact hn
  · apply ByteArray.ext; simp
theorem bt_nth (l : List UInt8) (i : Nat) (h : i < l.length) : bt ⟨l.toArray⟩ (i : Int) = (l[i].toNat : Int) := by
  have := (bt_at ⟨l.toArray⟩ (i : Int) (by simpa [ByteArray.size] using h)).symm
  rw [this]
  rfl
theorem words_mem (s : ByteArray) (n : Nat) (h1 : 1 ≤ n) (h3 : n ≤ 3) (hs : s.size = 2 * n) (c : Int) (hw : walkT s s.size 0 = some (0, c)) : s ∈ wordsAll n := by
  have hb := walkT_bytes s s.size 0 (0, c) hw
  have hw' : (walkT s s.size 0).map (fun p => p.1) = some 0 := by rw [hw]; rfl
  clear hw
  obtain ⟨l, hl, rfl⟩ := bytes_of s (2 * n) hs
  have hbl : ∀ i (h : i < l.length), l[i] = 40 ∨ l[i] = 41 := fun i h => byte_of _ (by
    have := hb (i : Int) (by omega) (by rw [hs]; omega)
    rwa [bt_nth l i h] at this)
  clear hb
  have hc : n = 1 ∨ n = 2 ∨ n = 3 := by omega
  rcases hc with rfl | rfl | rfl
  · obtain ⟨a, b, rfl⟩ : ∃ a b, l = [a, b] := by
      match l, hl with
      | [a, b], _ => exact ⟨a, b, rfl⟩
    · skip
      have h0 : a = 40 ∨ a = 41 := hbl 0 (show 0 < 2 by decide); have h1' : b = 40 ∨ b = 41 := hbl 1 (show 1 < 2 by decide)
      rcases h0 with rfl | rfl <;> rcases h1' with rfl | rfl <;> first | (exact absurd hw' (by decide +kernel)) | (simp [wordsAll]; done)
  · obtain ⟨a, b, c, d, rfl⟩ : ∃ a b c d, l = [a, b, c, d] := by
      match l, hl with
      | [a, b, c, d], _ => exact ⟨a, b, c, d, rfl⟩
    · skip
      have g0 : a = 40 ∨ a = 41 := hbl 0 (show 0 < 4 by decide); have g1 : b = 40 ∨ b = 41 := hbl 1 (show 1 < 4 by decide); have g2 : c = 40 ∨ c = 41 := hbl 2 (show 2 < 4 by decide); have g3 : d = 40 ∨ d = 41 := hbl 3 (show 3 < 4 by decide)
      rcases g0 with rfl | rfl <;> rcases g1 with rfl | rfl <;> rcases g2 with rfl | rfl <;> rcases g3 with rfl | rfl <;> first | (exact absurd hw' (by decide +kernel)) | (simp [wordsAll]; done)
  · obtain ⟨a, b, c, d, e, f, rfl⟩ : ∃ a b c d e f, l = [a, b, c, d, e, f] := by
      match l, hl with
      | [a, b, c, d, e, f], _ => exact ⟨a, b, c, d, e, f, rfl⟩
    · skip
      have g0 : a = 40 ∨ a = 41 := hbl 0 (show 0 < 6 by decide); have g1 : b = 40 ∨ b = 41 := hbl 1 (show 1 < 6 by decide); have g2 : c = 40 ∨ c = 41 := hbl 2 (show 2 < 6 by decide); have g3 : d = 40 ∨ d = 41 := hbl 3 (show 3 < 6 by decide); have g4 : e = 40 ∨ e = 41 := hbl 4 (show 4 < 6 by decide); have g5 : f = 40 ∨ f = 41 := hbl 5 (show 5 < 6 by decide)
      rcases g0 with rfl | rfl <;> rcases g1 with rfl | rfl <;> rcases g2 with rfl | rfl <;> rcases g3 with rfl | rfl <;> rcases g4 with rfl | rfl <;> rcases g5 with rfl | rfl <;> first | (exact absurd hw' (by decide +kernel)) | (simp [wordsAll]; done)
theorem chk_all (P : ByteArray → List Int → Bool) (h1 : chkN P 1 = true) (h2 : chkN P 2 = true) (h3 : chkN P 3 = true) (s : ByteArray) (l : List Int) (h : treeOk s l) : P s l = true := by
  obtain ⟨a1, a3, hs, hst, c, hw⟩ := h
  have hm := words_mem s l.length a1 a3 hs c hw
  have hl : ∀ x ∈ l, -1 ≤ x ∧ x ≤ 1 := by
    intro x hx
    obtain ⟨i, hi, rfl⟩ := List.mem_iff_getElem.1 hx
    have := hst i hi
    rwa [rd_lt l i hi] at this
  have hsm := stepsAll_mem l hl
  have hn : chkN P l.length = true := by
    have hc : l.length = 1 ∨ l.length = 2 ∨ l.length = 3 := by omega
    rcases hc with e | e | e <;> rw [e] <;> assumption
  unfold chkN at hn
  rw [List.all_eq_true] at hn
  have := hn s hm
  rw [List.all_eq_true] at this
  exact this l hsm
theorem xor_nonneg (a b : Int) (ha : 0 ≤ a) (hb : 0 ≤ b) (ha' : a < 9223372036854775808) (hb' : b < 9223372036854775808) : 0 ≤ Go.bits .xor .i64 a b := by
  obtain ⟨n, rfl⟩ := Int.eq_ofNat_of_zero_le ha
  obtain ⟨m, rfl⟩ := Int.eq_ofNat_of_zero_le hb
  have hn : n % 2 ^ 64 = n := Nat.mod_eq_of_lt (by omega)
  have hm : m % 2 ^ 64 = m := Nat.mod_eq_of_lt (by omega)
  have hx : n ^^^ m < 2 ^ 63 := Nat.xor_lt_two_pow (by omega) (by omega)
  have e : Go.bits .xor .i64 (n : Int) (m : Int) = IntKind.i64.wrap ((n ^^^ m : Nat) : Int) := by
    simp only [Go.bits, BitVec.ofInt_natCast]
    show IntKind.i64.wrap (((BitVec.ofNat 64 n ^^^ BitVec.ofNat 64 m).toNat : Nat) : Int) = _
    rw [BitVec.toNat_xor, BitVec.toNat_ofNat, BitVec.toNat_ofNat, hn, hm]
  rw [e, IntKind.wrap_i64]
  omega
def bytesOk (l : List Int) : Prop := l.length ≤ 2000 ∧ ∀ x ∈ l, 0 ≤ x ∧ x ≤ 255
theorem rd_byte (l : List Int) (h : bytesOk l) (i : Int) : 0 ≤ rd l i ∧ rd l i ≤ 255 := by
  unfold rd
  by_cases hi : i.toNat < l.length
  · rw [List.getD_eq_getElem?_getD, List.getElem?_eq_getElem hi]
    exact h.2 _ (List.getElem_mem hi)
  · rw [List.getD_eq_getElem?_getD, List.getElem?_eq_none (by omega)]
    decide
theorem pick_ev (l : List Int) (h : bytesOk l) (p : Int) (hp : 0 ≤ p) (hp' : p ≤ 1000000) (n : Int) (hn : 1 ≤ n) (hn' : n ≤ 1000000) : ∃ v, Ev (fun k => spec_l6Rd_pick.f k l p n) (v, p + 1) ∧ 0 ≤ v ∧ v < n := by
  have w0 : wrap64 (p + 1) = p + 1 := w64 (by omega) (by omega)
  have w1 : wrap64 (p + 1 - 1) = p := by rw [w64 (by omega) (by omega)]; omega
  have hl := h.1
  unfold spec_l6Rd_pick.f
  simp only [show ¬ n < 1 by omega, if_false, w0]
  by_cases hz : l.length = 0
  · refine ⟨0, Ev.s ?_, by omega, by omega⟩
    have : (((l.length : Int)) == 0) = true := by simp [hz]
    simp only [this, spec_l6Rd_pick.j0, if_true]
    exact Ev.const rfl
  · have hb : (((l.length : Int)) == 0) = false := by rw [beq_eq_false_iff_ne]; omega
    have hn0 : ¬ n = 0 := by omega
    by_cases hlt : p < (l.length : Int)
    · have hr := rd_byte l h p
      have wr : wrap64 (rd l p) = rd l p := w64 (by omega) (by omega)
      refine ⟨Int.tmod (rd l p) n, Ev.s ?_, Int.tmod_nonneg _ (by omega), Int.tmod_lt_of_pos _ (by omega)⟩
      simp only [hb, spec_l6Rd_pick.j0, w1, hlt, hp, hn0, wr, Bool.false_eq_true, if_true, if_false]
      exact Ev.const rfl
    · have hl0 : ¬ (l.length : Int) = 0 := by omega
      have wk : wrap64 (p * 7) = p * 7 := w64 (by omega) (by omega)
      have wk3 : wrap64 (p * 7 + 3) = p * 7 + 3 := w64 (by omega) (by omega)
      have t1 := Int.tmod_nonneg (a := p) (l.length : Int) hp
      have t2 := Int.tmod_lt_of_pos p (b := (l.length : Int)) (by omega)
      have t3 := Int.tmod_nonneg (a := p * 7 + 3) (l.length : Int) (by omega)
      have t4 := Int.tmod_lt_of_pos (p * 7 + 3) (b := (l.length : Int)) (by omega)
      have r1 := rd_byte l h (Int.tmod p (l.length : Int))
      have r2 := rd_byte l h (Int.tmod (p * 7 + 3) (l.length : Int))
      have d1 : 0 ≤ Int.tdiv p (l.length : Int) := Int.tdiv_nonneg hp (by omega)
      have d2 : Int.tdiv p (l.length : Int) ≤ p := Int.tdiv_le_self _ hp
      obtain ⟨X, hX, hX0, hX1⟩ : ∃ X, (wrap64 ((wrap64 ((wrap64 ((wrap64 ((wrap64 (rd l (Int.tmod p (l.length : Int)))) * 131)) + (wrap64 ((wrap64 (rd l (Int.tmod (p * 7 + 3) (l.length : Int)))) * 1117)))) + (wrap64 (p * 29)))) + (wrap64 ((wrap64 (Int.tdiv p (l.length : Int))) * 53)))) = X ∧ 0 ≤ X ∧ X < 4611686018427387904 := by
        refine ⟨_, rfl, ?_, ?_⟩
        all_goals
          generalize rd l (Int.tmod p (l.length : Int)) = a at *
          generalize rd l (Int.tmod (p * 7 + 3) (l.length : Int)) = b at *
          generalize Int.tdiv p (l.length : Int) = c at *
          rw [w64 (x := a) (by omega) (by omega), w64 (x := b) (by omega) (by omega), w64 (x := a * 131) (by omega) (by omega), w64 (x := b * 1117) (by omega) (by omega), w64 (x := a * 131 + b * 1117) (by omega) (by omega), w64 (x := p * 29) (by omega) (by omega), w64 (x := a * 131 + b * 1117 + p * 29) (by omega) (by omega), w64 (x := c) (by omega) (by omega), w64 (x := c * 53) (by omega) (by omega), w64 (x := a * 131 + b * 1117 + p * 29 + c * 53) (by omega) (by omega)]
          omega
      have hd : 0 ≤ wrap64 (Int.tdiv X 64) ∧ wrap64 (Int.tdiv X 64) < 9223372036854775808 := by
        have := Int.tdiv_nonneg hX0 (show (0 : Int) ≤ 64 by decide)
        have := Int.tdiv_le_self 64 hX0
        rw [w64 (by omega) (by omega)]
        omega
      have hx := xor_nonneg X (wrap64 (Int.tdiv X 64)) hX0 hd.1 (by omega) hd.2
      refine ⟨Int.tmod (Go.bits .xor .i64 X (wrap64 (Int.tdiv X 64))) n, Ev.s ?_, Int.tmod_nonneg _ hx, Int.tmod_lt_of_pos _ (by omega)⟩
      simp only [hb, spec_l6Rd_pick.j0, w1, hlt, hl0, wk, wk3, t1, t2, t3, t4, hn0, hX, Bool.false_eq_true, if_true, if_false]
      exact Ev.const rfl
theorem open_ev (l : List Int) (hb : ∀ x ∈ l, (Lit.int .u8 x).wf = true) : ∃ l', spec_l6Open.f l = some (l', 0) ∧ bytesOk l' := by
  have hb' : ∀ x ∈ l, 0 ≤ x ∧ x ≤ 255 := by
    intro x hx
    have := hb x hx
    simp only [Lit.wf, IntKind.min, IntKind.max, IntKind.signed, IntKind.bits, Bool.and_eq_true, decide_eq_true_eq, Bool.false_eq_true, if_false] at this
    omega
  unfold spec_l6Open.f
  by_cases h : (l.length : Int) > 2000
  · refine ⟨l.take 2000, ?_, ?_, fun x hx => hb' x (List.mem_of_mem_take hx)⟩
    · rw [if_pos h, if_pos (by omega)]
    · rw [List.length_take]; omega
  · exact ⟨l, by rw [if_neg h], by omega, hb'⟩
theorem of_ev (l : List Int) (h : bytesOk l) (p : Int) (hp : 0 ≤ p) (hp' : p ≤ 1000000) (L : List ByteArray) (h1 : 1 ≤ L.length) (h2 : L.length ≤ 100) : ∃ v : Int, Ev (fun k => spec_l6Rd_of.f k l p L) (rdOf ByteArray.empty L v, p + 1) ∧ 0 ≤ v ∧ v < L.length := by
  obtain ⟨v, hv, v0, v1⟩ := pick_ev l h p hp hp' (L.length : Int) (by omega) (by omega)
  refine ⟨v, ?_, v0, v1⟩
  unfold spec_l6Rd_of.f
  refine Ev.bind hv ?_
  simp only [v0, v1, if_true]
  exact Ev.const rfl
theorem size_push (s : ByteArray) (b : UInt8) : (s ++ (⟨#[b]⟩ : ByteArray)).size = s.size + 1 := by
  rw [ByteArray.size_append]; rfl
theorem tree_end (l : List Int) (h : bytesOk l) (n up p : Int) (s : ByteArray) (st : List Int) (hn : 1 ≤ n) (hn' : n ≤ 4) (hs : ¬ (s.size : Int) < 2 * n) (hs' : s.size ≤ 8) (h1 : 1 ≤ st.length) (h8 : st.length ≤ 8) (hp : 0 ≤ p) (hp' : p ≤ 10000) :
    ∃ s' st' p', Ev (fun k => spec_l92Tree.l0 k n up l p s st) (s', st', p') ∧ s'.size ≤ 10 ∧ st'.length ≤ 10 := by
  have w2 : wrap64 (2 * n) = 2 * n := w64 (by omega) (by omega)
  obtain ⟨v, hv, v0, v1⟩ := pick_ev l h p hp (by omega) 40 (by omega) (by omega)
  by_cases c0 : v = 0
  · obtain ⟨q, hq, q0, q1⟩ := of_ev l h (p + 1) (by omega) (by omega) ([(⟨#[40]⟩ : ByteArray), (⟨#[41]⟩ : ByteArray), (⟨#[120]⟩ : ByteArray), (⟨#[40, 41]⟩ : ByteArray)] : List ByteArray) (by decide) (by decide)
    have hz : (rdOf ByteArray.empty ([(⟨#[40]⟩ : ByteArray), (⟨#[41]⟩ : ByteArray), (⟨#[120]⟩ : ByteArray), (⟨#[40, 41]⟩ : ByteArray)] : List ByteArray) q).size ≤ 2 := by
      have hc : q = 0 ∨ q = 1 ∨ q = 2 ∨ q = 3 := by
        have : q < 4 := q1
        omega
      rcases hc with rfl | rfl | rfl | rfl <;> decide
    generalize rdOf ByteArray.empty ([(⟨#[40]⟩ : ByteArray), (⟨#[41]⟩ : ByteArray), (⟨#[120]⟩ : ByteArray), (⟨#[40, 41]⟩ : ByteArray)] : List ByteArray) q = y at hq hz
    refine ⟨s ++ y, st, p + 1 + 1, Ev.s ?_, ?_, by omega⟩
    · simp only [spec_l92Tree.l0, w2, hs, if_false]
      refine Ev.bind hv ?_
      simp only [c0, if_true]
      refine Ev.bind hq ?_
      simp only [show s.size + y.size ≤ 9223372036854775807 by omega, if_true]
      exact Ev.const rfl
    · rw [ByteArray.size_append]; omega
  · by_cases c1 : v = 1
    · obtain ⟨q, hq, q0, q1⟩ := pick_ev l h (p + 1) (by omega) (by omega) 2 (by omega) (by omega)
      refine ⟨s, st.set (Int.toNat 0) (rd [(-2), 2] q), p + 1 + 1, Ev.s ?_, by omega, by simp; omega⟩
      simp only [spec_l92Tree.l0, w2, hs, if_false]
      refine Ev.bind hv ?_
      simp only [c1, show ¬ ((1 : Int) = 0) by decide, if_false, if_true, Option.bind_some]
      refine Ev.bind hq ?_
      simp only [q0, show q < (([(-2), 2] : List Int).length : Int) from q1, show (0 : Int) < (st.length : Int) by omega, if_true]
      exact Ev.const rfl
    · by_cases c2 : v = 2
      · refine ⟨s, st.drop (Int.toNat 1), p + 1, Ev.s ?_, by omega, by simp; omega⟩
        simp only [spec_l92Tree.l0, w2, hs, if_false]
        refine Ev.bind hv ?_
        simp only [c2, show ¬ ((2 : Int) = 0) by decide, show ¬ ((2 : Int) = 1) by decide, show (1 : Int) ≤ (st.length : Int) by omega, if_false, if_true]
        exact Ev.const rfl
      · refine ⟨s, st, p + 1, Ev.s ?_, by omega, by omega⟩
        simp only [spec_l92Tree.l0, w2, hs, if_false]
        refine Ev.bind hv ?_
        simp only [c0, c1, c2, if_false]
        exact Ev.const rfl
theorem tree_run (l : List Int) (h : bytesOk l) (n : Int) (hn : 1 ≤ n) (hn' : n ≤ 4) : ∀ (d : Nat) (up p : Int) (s : ByteArray) (st : List Int), 0 ≤ up → up ≤ st.length → (s.size : Int) + up = 2 * st.length → 2 * n - s.size = d → 0 ≤ p → p + 2 * d ≤ 1000 →
    ∃ s' st' p', Ev (fun k => spec_l92Tree.l0 k n up l p s st) (s', st', p') ∧ s'.size ≤ 10 ∧ st'.length ≤ 10
  | 0, up, p, s, st, hu, hu', hs, hd, hp, hp' => tree_end l h n up p s st hn hn' (by omega) (by omega) (by omega) (by omega) hp (by omega)
  | d + 1, up, p, s, st, hu, hu', hs, hd, hp, hp' => by
    have w2 : wrap64 (2 * n) = 2 * n := w64 (by omega) (by omega)
    have wm : wrap64 (up - 1) = up - 1 := w64 (by omega) (by omega)
    have wp : wrap64 (up + 1) = up + 1 := w64 (by omega) (by omega)
    have hlt : (s.size : Int) < 2 * n := by omega
    have hs1 : s.size + 1 ≤ 9223372036854775807 := by omega
    have hst : st.length < 17592186044416 := by omega
    have down : ∀ p1 : Int, 0 ≤ p1 → p1 ≤ p + 2 → up > 0 → ∃ s' st' p', Ev (fun k => spec_l92Tree.l0 k n (up - 1) l p1 (s ++ (⟨#[41]⟩ : ByteArray)) st) (s', st', p') ∧ s'.size ≤ 10 ∧ st'.length ≤ 10 := fun p1 h0 h1 hup =>
      tree_run l h n hn hn' d (up - 1) p1 _ st (by omega) (by omega) (by rw [size_push]; omega) (by rw [size_push]; omega) h0 (by omega)
    have over : ∀ (p1 x : Int), 0 ≤ p1 → p1 ≤ p + 2 → ∃ s' st' p', Ev (fun k => spec_l92Tree.l0 k n (up + 1) l p1 (s ++ (⟨#[40]⟩ : ByteArray)) (st ++ [x])) (s', st', p') ∧ s'.size ≤ 10 ∧ st'.length ≤ 10 := fun p1 x h0 h1 =>
      tree_run l h n hn hn' d (up + 1) p1 _ _ (by omega) (by simp; omega) (by rw [size_push]; simp; omega) (by rw [size_push]; omega) h0 (by omega)
    by_cases c1 : up > 0
    · by_cases c2 : (st.length : Int) = n
      · obtain ⟨s', st', p', e, z1, z2⟩ := down p hp (by omega) c1
        refine ⟨s', st', p', Ev.s ?_, z1, z2⟩
        simp only [spec_l92Tree.l0, w2, hlt, c1, c2, hs1, wm, if_true]
        exact e
      · obtain ⟨v, hv, v0, v1⟩ := pick_ev l h p hp (by omega) 2 (by omega) (by omega)
        by_cases c3 : v = 0
        · obtain ⟨s', st', p', e, z1, z2⟩ := down (p + 1) (by omega) (by omega) c1
          refine ⟨s', st', p', Ev.s ?_, z1, z2⟩
          simp only [spec_l92Tree.l0, w2, hlt, c1, c2, if_true, if_false]
          refine Ev.bind hv ?_
          simp only [c3, hs1, wm, if_true]
          exact e
        · obtain ⟨q, hq, q0, q1⟩ := pick_ev l h (p + 1) (by omega) (by omega) 3 (by omega) (by omega)
          obtain ⟨s', st', p', e, z1, z2⟩ := over (p + 1 + 1) (wrap64 (q - 1)) (by omega) (by omega)
          refine ⟨s', st', p', Ev.s ?_, z1, z2⟩
          simp only [spec_l92Tree.l0, w2, hlt, c1, c2, if_true, if_false]
          refine Ev.bind hv ?_
          simp only [c3, hs1, if_true, if_false]
          refine Ev.bind hq ?_
          simp only [hst, wp, if_true]
          exact e
    · obtain ⟨q, hq, q0, q1⟩ := pick_ev l h p hp (by omega) 3 (by omega) (by omega)
      obtain ⟨s', st', p', e, z1, z2⟩ := over (p + 1) (wrap64 (q - 1)) (by omega) (by omega)
      refine ⟨s', st', p', Ev.s ?_, z1, z2⟩
      simp only [spec_l92Tree.l0, w2, hlt, c1, hs1, if_true, if_false]
      refine Ev.bind hq ?_
      simp only [hst, wp, if_true]
      exact e
theorem l92Tree_ev (l : List Int) (h : bytesOk l) (most : Int) (hm : 1 ≤ most) (hm' : most ≤ 4) : ∃ s st p, Ev (fun k => spec_l92Tree.f k l 0 most) (s, st, p) ∧ s.size ≤ 10 ∧ st.length ≤ 10 := by
  obtain ⟨v, hv, v0, v1⟩ := pick_ev l h 0 (by omega) (by omega) most hm (by omega)
  obtain ⟨s, st, p, e, z1, z2⟩ := tree_run l h (1 + v) (by omega) (by omega) (2 * (1 + v)).toNat 0 (0 + 1) (⟨#[]⟩ : ByteArray) [] (by omega) (by simp) (by rfl) (by
    show 2 * (1 + v) - ((0 : Nat) : Int) = _
    omega) (by omega) (by omega)
  refine ⟨s, st, p, ?_, z1, z2⟩
  unfold spec_l92Tree.f
  refine Ev.bind hv ?_
  rw [w64 (x := 1 + v) (by omega) (by omega)]
  exact e
end Go.Proofs.Ytlpbalebodlipaa.PG

set_option linter.unusedVariables false
set_option linter.unusedSimpArgs false
namespace Go.Proofs.Ytlpbalebodlipaa.Pure
open Go.RowKit Go.Proofs.Ytlpbalebodlipaa.PG Go.Proofs.YtlpbalebodlipaaW.PrintWords Go.Proofs.YtlpbalebodlipaaW.PrintLast Go.Proofs.YtlpbalebodlipaaW.PrintMore
def chkFnTreeMap (s : ByteArray) (l : List Int) : Bool :=
  match impl_TreeMap.f 300 s l with
  | some (t, f, true) => decide (spec_TreeMap.f 300 s l = some (t, f, true)) && (decide (laws_sameMap.f 300 t f t f = some true) && decide (laws_FnTreeMap.j0 300 true true false s l t f t f = some true))
  | _ => false
theorem chkFnTreeMap_all (s : ByteArray) (l : List Int) (h : treeOk s l) : chkFnTreeMap s l = true := chk_all chkFnTreeMap (by decide +kernel) (by decide +kernel) (by decide +kernel) s l h
theorem FnTreeMap : laws_FnTreeMap.Pure := by
  intro c _ _ hc
  by_cases hs : (c.length : Int) > 1048576
  · exact ⟨0, by unfold laws_FnTreeMap.f; rw [if_pos hs]⟩
  · refine Ev.rounds (r := true) ?_
    unfold laws_FnTreeMap.f
    simp only [hs, if_false]
    obtain ⟨c', ho, hb'⟩ := open_ev c hc
    obtain ⟨s, l, p, hd, z1, z2⟩ := l92Tree_ev c' hb' 3 (by omega) (by omega)
    have hdraw : Ev (fun k => spec_DrawTreeMap.f k c) (s, l) := by
      unfold spec_DrawTreeMap.f
      simp only [ho, Option.bind_some]
      exact Ev.bind hd (Ev.const rfl)
    refine Ev.bind hdraw ?_
    obtain ⟨b, b1, b2, b3⟩ := treeValid_both s (by omega) l (by omega)
    cases b with
    | false =>
      have hs1 : Ev (fun k => spec_TreeMap.f k s l) ([], [], false) := by
        unfold spec_TreeMap.f
        refine Ev.bind b1 ?_
        simp only [Bool.false_eq_true, if_false]
        exact Ev.const rfl
      have hi1 : Ev (fun k => impl_TreeMap.f k s l) ([], [], false) := by
        unfold impl_TreeMap.f
        refine Ev.bind b2 ?_
        simp only [Bool.false_eq_true, if_false]
        exact Ev.const rfl
      have hm : Ev (fun k => laws_sameMap.f k [] [] [] []) true := Ev.of (fun k => laws_sameMap.mono [] [] [] [] k) (by decide +kernel : laws_sameMap.f 10 [] [] [] [] = some true)
      refine Ev.bind hi1 ?_
      refine Ev.bind hs1 ?_
      simp only [bne_self_eq_false, Bool.false_eq_true, if_false]
      refine Ev.bind hm ?_
      simp only [if_true]
      refine Ev.s ?_
      simp only [laws_FnTreeMap.j0, Bool.not_false, if_true, beq_self_eq_true]
      exact Ev.bind hm (Ev.const rfl)
    | true =>
      have hck := chkFnTreeMap_all s l (b3 rfl)
      unfold chkFnTreeMap at hck
      split at hck
      · rename_i t f e1
        simp only [Bool.and_eq_true, decide_eq_true_eq] at hck
        obtain ⟨e2, e3, e4⟩ := hck
        refine Ev.bind (Ev.of (fun k => impl_TreeMap.mono _ _ k) e1) ?_
        refine Ev.bind (Ev.of (fun k => spec_TreeMap.mono _ _ k) e2) ?_
        simp only [bne_self_eq_false, Bool.false_eq_true, if_false]
        refine Ev.bind (Ev.of (fun k => laws_sameMap.mono _ _ _ _ k) e3) ?_
        simp only [if_true, Bool.not_true]
        exact Ev.of (fun k => laws_FnTreeMap.mono_l k _ _ _ _ _ _ _ _ _) e4
      · cases hck
end Go.Proofs.Ytlpbalebodlipaa.Pure

namespace Go.Proofs.Ytlpbalebodlipaa.fnTreeMap
open Go.ChangeShapes Go.WideShapes Go.ChangeAt Go.RowKit
open Go.ChangeMaps (open_string shut_string)
set_option linter.unusedVariables false
theorem own : ownKnob Try.prog.godebug = none := by kernel_rfl
theorem laidOut : laidOutB Try.prog = true := by kernel_rfl
def IsRow (k : IntKind) (w : World) (a : Option Addr) (len cap : Nat) (zs : List Int) : Prop :=
 (a = none ∧ len = 0 ∧ cap = 0 ∧ zs = []) ∨
 ∃ x, a = some x ∧ len ≤ cap ∧ cap ≤ maxLen ∧ zs.length = cap ∧ (∀ i, i < zs.length → w.cell? (x.add i) = some (.int k (zs.getD i 0))) ∧ ∀ n ∈ zs, (Lit.int k n).wf = true
set_option maxRecDepth 100000 in
theorem lifted (os : Os) (started : os.Started) (H : Type) (enc : TypeId × Value → H) :
  ReturnsInHanded {} Try.checked os 6 .any (Rows.fnTreeMapSpec.pre6 enc Try.prog Try.f6 Rows.fnTreeMapRow.domain false) (Rows.fnTreeMapSpec.post enc Try.prog Try.f6 false true false false) := by
 refine returnsInHanded_of_change_sized (C := Try.checked) own started (by kernel_rfl) Try.func6
  (ChangeSpec.witness6 (enc := enc) (C := Try.checked) false ⟨#[], #[.slice none 0 0], []⟩ 8 (by kernel_rfl) (by kernel_rfl) (by kernel_rfl) (by kernel_rfl)) ?_
 intro W base args ds gs before hval0 hW hcnd hsz0 _
 have hsz : (DataW.weightsEach Try.prog (Try.f6.params.toList ++ Rows.fnTreeMapSpec.plain.varTypes Try.prog) (ds ++ gs)).all (· ≤ reachBytes) = true := hsz0
 have hval : ∀ (j : Nat) t v, Try.f6.params[j]? = some t → args[j]? = some v → Value.okWide Try.prog W .any base t v := hval0
 have hW' := hW
 obtain ⟨p, q, hA0, hV, rfl, hfz, hnd⟩ := hW
 have hA : DataW.TrodAll enc Try.prog W 0 (fun _ => true) true Try.f6.params.toList args.toList ds p := hA0
 rw [Try.params6] at hA hval hsz
 obtain ⟨v0, vs0, d0, ds0, p0, q0, hargs, rfl, rfl, h0, r0⟩ := trodAll_cons hA
 obtain ⟨rfl, rfl, rfl⟩ := trodAll_nil r0
 obtain rfl : args = #[v0] := by cases args; simp_all
 obtain ⟨rfl, rfl⟩ := trodVars_none hV
 obtain ⟨a0, len0, cap0, rfl⟩ := okWide_slice Try.underlying22 (hval 0 22 v0 rfl rfl)
 have k0 := h0
 have lt0 : ∀ x ∈ p0, x.block < W.heap.size := by obtain ⟨m, hm⟩ := k0; exact DataW.trod_lt m _ _ _ hm
 obtain ⟨z0, w0⟩ : ∃ zs, IsRow .u8 W a0 len0 cap0 zs := by
  obtain ⟨fuel, hf⟩ := h0
  rcases open_ints Try.underlying22 Try.underlying5 (by kernel_rfl) hf with ⟨hcs, _⟩ | ⟨x, l, c, zs, hcs, _, hl, hm, hz, _, hcell, hwz⟩
  ·
   simp [Value.cells] at hcs
   obtain ⟨rfl, rfl, rfl⟩ := hcs
   exact ⟨[], .inl ⟨rfl, rfl, rfl, rfl⟩⟩
  ·
   simp [Value.cells] at hcs
   obtain ⟨rfl, rfl, rfl⟩ := hcs
   exact ⟨zs, .inr ⟨_, rfl, hl, hm, by simpa using hz, hcell, hwz⟩⟩
 have y0 : len0 * 1 ≤ 140737488351232 := Go.Proofs.YtlpbalebodlipaaW.PrintWords.sized_ints hsz (j := 0) (t := 22) rfl rfl Try.underlying22 Try.underlying5 (by kernel_rfl) (by kernel_rfl) h0
 clear hA0 hval0 hsz0 hsz
 refine (PG.laws_FnTreeMap.walk Pure.FnTreeMap a0 len0 cap0 z0 W w0 y0).mono fun e W' ⟨he, bel⟩ => ?_
 subst he
 exact ⟨_, rfl, _, _, _, [], _, [], hW', trodAll_mk1 (shut_bool Try.underlying4 _), (trodAll_cons_mk (Below.trod laidOut (by kernel_rfl) (of_decide_eq_true (by kernel_rfl)) k0 bel lt0) trodAll_mk0), rfl, bel.frame _, fun h => by cases h⟩
theorem over : Rows.fnTreeMapRow.holds Try.pinned (OpenSpec.ofChange Rows.fnTreeMapSpec) :=
 OpenClaim.holds_of_wide 6 Try.f6 rfl rfl rfl rfl rfl rfl rfl ⟨rfl, rfl, rfl, rfl, rfl⟩ rfl rfl rfl rfl rfl (by kernel_rfl) Try.func6 (by kernel_rfl)
  (of_decide_eq_true (by kernel_rfl)) (by unfold Func.isWrapper; first | (rw [if_pos (by decide +kernel)]; kernel_rfl) | (rw [if_neg (by decide +kernel)]; exact ⟨rfl, rfl⟩))
  (fun os started H enc _ => lifted os started H enc)
theorem proved : Rows.FnTreeMapSaid := over
#print axioms proved
end Go.Proofs.Ytlpbalebodlipaa.fnTreeMap
namespace Go.Proofs.Ytlpbalebodlipaa
theorem fnTreeMap_holds : Rows.FnTreeMapSaid := fnTreeMap.proved
end Go.Proofs.Ytlpbalebodlipaa
