/- For every code: of the map and the choice that the statement draws, ChoiceCounts of the program answers what the reference answers; the five numbers are those of a ribbon surface, whose genus lies between none and the map's; and an edge more makes one side more or one less. There are no conditions. -/
import Derived.Test.YtjgknblneokhlaaKFnChoiceCountsOwnx2
namespace Go.Proofs.Ytjgknblneokhlaa.PI
open Go.RowKit Go.Proofs.YtjgknblneokhlaaW.PrintWords Go.Proofs.YtjgknblneokhlaaW.PrintLast Go.Proofs.YtjgknblneokhlaaW.PrintMore
attribute [local go_sem] max2_int min2_int max_two min_two max_three min_three max_four min_four   -- for this text's walks alone
set_option linter.unusedVariables false
set_option linter.unusedSimpArgs false
def spec_l92Choice.l0 : Nat → List Int → Int → List Int → Int → List Int → List Int → Option (List Int × List Int × List Int × Int)
 | 0, _, _, _, _, _, _ => none
 | k + 1, x5, x6, x1000, x1001, xZ0, xZ1 => if x6 < (wrap64 ((xZ1.length : Int) / 2)) then ((spec_l6Rd_pick.f k x1000 x1001 2).bind fun bt375 => (if bt375.1 = 0 then (if x5.length < 17592186044416 then (spec_l92Choice.l0 k (x5 ++ [x6]) (wrap64 (x6 + 1)) x1000 bt375.2 xZ0 xZ1) else (none)) else (spec_l92Choice.l0 k x5 (wrap64 (x6 + 1)) x1000 bt375.2 xZ0 xZ1))) else ((spec_l6Rd_pick.f k x1000 x1001 30).bind fun bt380 => (if bt380.1 = 0 then (if x5.length < 17592186044416 then (some (xZ0, xZ1, (x5 ++ [wrap64 ((xZ1.length : Int) / 2)]), bt380.2)) else (none)) else (if bt380.1 = 1 then ((some (([(-1)] : List Int) : List Int)).bind fun y385 => (if y385.length + x5.length < 17592186044416 then (some (xZ0, xZ1, (y385 ++ x5), bt380.2)) else (none))) else (if bt380.1 = 2 then (if x5.length + x5.length < 17592186044416 then (some (xZ0, xZ1, (x5 ++ x5), bt380.2)) else (none)) else (some (xZ0, xZ1, x5, bt380.2))))))
def spec_l92Choice.f (k : Nat) (s0_0 : List Int) (s0_1 : Int) : Option (List Int × List Int × List Int × Int) := (spec_l91Map.f k s0_0 s0_1 5).bind fun bt364 => (spec_l92Choice.l0 k (([] : List Int)) 0 s0_0 bt364.2.2 bt364.1 bt364.2.1)
def spec_l92Choice.T10 : Bool × List (List Nat × List Nat) := (true, [([], []), ([], []), ([], []), ([2], [2]), ([3], [3]), ([4], [4]), ([5], [5]), ([1, 6], [1, 6]), ([0, 7, 0], [0]), ([7, 8, 0, 1, 2, 3, 4, 5, 6, 7, 8], [7])])
def spec_l92Choice.B10 : List Nat := [0, 0, 0, 4, 12, 28, 60, 126, 255, 511]
theorem spec_l92Choice.tab10 : rtab .any (opsOf Try.f57 10) = spec_l92Choice.T10 := by kernel_rfl
theorem spec_l92Choice.bits10 : waitsOk spec_l92Choice.T10.2 spec_l92Choice.B10 = true := by kernel_rfl
set_option maxHeartbeats 8000000 in
set_option maxRecDepth 100000 in
theorem spec_l92Choice.calls (k : Nat) (g : Nat) (s0_0 : List Int) (s0_1 : Int) (r1 : List Int) (r2 : List Int) (r3 : List Int) (r4 : Int) (w0 w : World) (hI : IsS73 w0 w g s0_0 s0_1) (hB : Below w0.heap.size w0 w) (h : spec_l92Choice.f k s0_0 s0_1 = some (r1, r2, r3, r4)) :
  Calls Try.prog 57 #[.pointer (some ⟨g, 0, none⟩)] w fun e w' => ∃ v0_ v1_ v2_ : Value, e = .returned (.tuple #[.agg #[v0_, v1_], v2_]) ∧ Kd.Q (Kd.int .i64) 3 w' w.heap.size (fun k_ => some k_ ≠ (v1_ : Value).ownBlock ∧ some k_ ≠ (v2_ : Value).ownBlock) v0_ r1 ∧ Kd.R (Kd.int .i64) 3 w' w.heap.size (fun k_ => some k_ ≠ (v0_ : Value).ownBlock ∧ some k_ ≠ (v2_ : Value).ownBlock) v1_ r2 ∧ Kd.R (Kd.int .i64) 3 w' w.heap.size (fun k_ => some k_ ≠ (v0_ : Value).ownBlock ∧ some k_ ≠ (v1_ : Value).ownBlock) v2_ r3 ∧ IsS73 w0 w' g s0_0 r4 ∧ Below w0.heap.size w0 w' ∧ KeepBut w w' g none := by
 have hu25 := Try.underlying25; have HI0 := Az hI; have HK := Az (KeepBut.refl w g none); have HL := Az hB.size; clear hI; have HW0 := Az hB.size; have HB := Az hB; clear hB; have H : ((spec_l91Map.f k s0_0 s0_1 5).bind fun bt364 => (spec_l92Choice.l0 k (([] : List Int)) 0 s0_0 bt364.2.2 bt364.1 bt364.2.1)) = some (r1, r2, r3, r4) := h; clear h; replace H := Option.bind_eq_some_iff.mp H; obtain ⟨⟨t364, t367, t370⟩, A20, H⟩ := H; replace H : (spec_l92Choice.l0 k (([] : List Int)) 0 s0_0 t370 t364 t367) = some (r1, r2, r3, r4) := H; have A2 := Az A20; clear A20; obtain ⟨y372, hy372⟩ : ∃ y_ : List Int, y_ = (([] : List Int)) := ⟨_, rfl⟩; replace H : (spec_l92Choice.l0 k y372 0 s0_0 t370 t364 t367) = some (r1, r2, r3, r4) := hR hy372 H; have Ny372 := Az hy372; clear hy372; have H' := Az H; clear H
 go_enter Try.func57, Try.ntmps57
 go_wp2_with (first | ((with_reducible refine gate_dst (N := 2) rfl ?_); refine box_event ?hg (N := 2) ?hd (cs := #[.slice none 0 0, .slice none 0 0]) (t := 25) ?hr ?_; (case hd => rfl); (case hg => rfl); (case hr => first | (go_simp; done) | (go_simp; rfl)); intro gb363 hg w3 hbox hb; have n0 := Az (IsS73.below (by repeat (first | (with_reducible first | exact HI0.out | apply IsS73.alloc | apply IsS73.drewN | apply IsS73.drew | apply IsS73.set_1) | exact HI0.out)) hb); have n1 := Az (KeepBut.trans (by repeat (first | (with_reducible first | exact HK.out | apply KeepBut.set_ | apply keep_drewN | apply keep_drew | apply keep_alloc) | exact HK.out)) (KeepBut.of_below hb g none) (.inl rfl)); have n2 := Az (below_step (by repeat (first | (with_reducible first | exact HB.out | apply below_alloc | apply pw_below_drewN | apply below_drew1 | refine below_set ?_ (IsS73.ge HI0.out)) | exact HB.out)) hb); have n3 := Az (hbox); have n4 := Az ((by rw [hg]; exact (keep_size (w := w) (g := g) (row := none) (by repeat (first | (with_reducible first | exact HK.out | apply KeepBut.set_ | apply keep_drewN | apply keep_drew | apply keep_alloc) | exact HK.out))) : w.heap.size ≤ gb363)); have n5 := Az ((Nat.le_trans HW0.out (by rw [hg]; exact (keep_size (w := w) (g := g) (row := none) (by repeat (first | (with_reducible first | exact HK.out | apply KeepBut.set_ | apply keep_drewN | apply keep_drew | apply keep_alloc) | exact HK.out))) : w.heap.size ≤ gb363) : w0.heap.size ≤ gb363)); have n6 := Az ((by rw [hg]; exact Nat.ne_of_lt (IsS73.lt (show IsS73 w0 _ g s0_0 s0_1 from by repeat (first | (with_reducible first | exact HI0.out | apply IsS73.alloc | apply IsS73.drewN | apply IsS73.drew | apply IsS73.set_1) | exact HI0.out))) : g ≠ gb363)); have n7 := Az ((by rw [hg]; exact Nat.ne_of_gt (IsS73.lt (show IsS73 w0 _ g s0_0 s0_1 from by repeat (first | (with_reducible first | exact HI0.out | apply IsS73.alloc | apply IsS73.drewN | apply IsS73.drew | apply IsS73.set_1) | exact HI0.out))) : gb363 ≠ g)); clear HI0 HK HB; have HI0 := n0; have HK := n1; have HB := n2; have BK363 := n3; have GW363 := n4; have GE363 := n5; have NB0_363 := n6; have NB363_0 := n7; clear n0 n1 n2 n3 n4 n5 n6 n7; clear hb hbox hg) | ((with_reducible refine gate_callee (f := 70) rfl ?_); refine goesL_ (some 8) rfl rfl Try.func70 (by kernel_rfl) rfl #[.pointer (some ⟨g, 0, none⟩), .int .i64 5] rfl (by (try simp only [List.map_toArray, List.map_cons, List.map_nil]); first | done | rfl | (simp only [List.length_drop, List.length_take]; rfl)) ?_; (with_reducible refine (spec_l91Map.calls k g s0_0 s0_1 5 t364 t367 t370 w0 _ ?side1 ?side2 A2.out).mono ?_); (case side1 => repeat (first | (with_reducible first | exact HI0.out | apply IsS73.alloc | apply IsS73.drewN | apply IsS73.drew | apply IsS73.set_1 | refine IsS73.far ?_ NB0_363.out _) | exact HI0.out)); (case side2 => repeat (first | (with_reducible first | exact HB.out | apply below_alloc | apply pw_below_drewN | apply below_drew1 | refine below_set ?_ (IsS73.ge HI0.out) | refine below_set ?_ GE363.out) | exact HB.out)); rintro e w4 ⟨v365, v368, rfl, ho0, ho1, hi, hb, hk⟩; refine ⟨_, rfl, ?_⟩; have n0 := Az (KeepBut.blk hk (g' := gb363) (o := .cells #[.slice none 0 0, .slice none 0 0] 25 (0, 0)) (kU BK363.out) NB363_0.out (by simp)); have n1 := Az (Kd.Q_lower ho0 (keep_size (w := w) (g := g) (row := none) (by repeat (first | (with_reducible first | exact HK.out | apply KeepBut.set_ | apply keep_drewN | apply keep_drew | apply keep_alloc | refine keep_far ?_ GW363.out _) | exact HK.out)))); have n2 := Az (Kd.R_lower ho1 (keep_size (w := w) (g := g) (row := none) (by repeat (first | (with_reducible first | exact HK.out | apply KeepBut.set_ | apply keep_drewN | apply keep_drew | apply keep_alloc | refine keep_far ?_ GW363.out _) | exact HK.out)))); have n3 := Az (KeepBut.trans (by repeat (first | (with_reducible first | exact HK.out | apply KeepBut.set_ | apply keep_drewN | apply keep_drew | apply keep_alloc | refine keep_far ?_ GW363.out _) | exact HK.out)) hk (.inl rfl)); have n4 := Az (hb); have n5 := Az (hi); clear BK363 HK HB HI0; have BK363 := n0; have HO366 := n1; have HO369 := n2; have HK := n3; have HB := n4; have HI0 := n5; clear n0 n1 n2 n3 n4 n5; (try clear hb); (try clear hb2); (try clear hk); (try clear hi); (try clear ho0); (try clear ho1)) | ((with_reducible refine gate_dst (N := 4) rfl ?_); refine box_event ?hg (N := 4) ?hd (cs := #[.slice none 0 0, .slice none 0 0]) (t := 25) ?hr ?_; (case hd => rfl); (case hg => rfl); (case hr => first | (go_simp; done) | (go_simp; rfl)); intro gb371 hg w5 hbox hb; have n0 := Az (Kd.Q_below (qU HO366.out) hb); have n1 := Az (Kd.R_below (rU HO369.out) hb); have n2 := Az (IsS73.below (by repeat (first | (with_reducible first | exact HI0.out | apply IsS73.alloc | apply IsS73.drewN | apply IsS73.drew | apply IsS73.set_1 | refine IsS73.far ?_ NB0_363.out _) | exact HI0.out)) hb); have n3 := Az (blk_below (g := gb363) (o := .cells #[.slice none 0 0, .slice none 0 0] 25 (0, 0)) (kU BK363.out) hb); have n4 := Az (KeepBut.trans (by repeat (first | (with_reducible first | exact HK.out | apply KeepBut.set_ | apply keep_drewN | apply keep_drew | apply keep_alloc | refine keep_far ?_ GW363.out _) | exact HK.out)) (KeepBut.of_below hb g none) (.inl rfl)); have n5 := Az (below_step (by repeat (first | (with_reducible first | exact HB.out | apply below_alloc | apply pw_below_drewN | apply below_drew1 | refine below_set ?_ (IsS73.ge HI0.out) | refine below_set ?_ GE363.out) | exact HB.out)) hb); have n6 := Az (hbox); have n7 := Az ((by rw [hg]; exact (keep_size (w := w) (g := g) (row := none) (by repeat (first | (with_reducible first | exact HK.out | apply KeepBut.set_ | apply keep_drewN | apply keep_drew | apply keep_alloc | refine keep_far ?_ GW363.out _) | exact HK.out))) : w.heap.size ≤ gb371)); have n8 := Az ((Nat.le_trans HW0.out (by rw [hg]; exact (keep_size (w := w) (g := g) (row := none) (by repeat (first | (with_reducible first | exact HK.out | apply KeepBut.set_ | apply keep_drewN | apply keep_drew | apply keep_alloc | refine keep_far ?_ GW363.out _) | exact HK.out))) : w.heap.size ≤ gb371) : w0.heap.size ≤ gb371)); have n9 := Az ((by rw [hg]; exact Nat.ne_of_lt (blk_lt (g := gb363) (o := .cells #[.slice none 0 0, .slice none 0 0] 25 (0, 0)) (kU BK363.out)) : gb363 ≠ gb371)); have n10 := Az ((by rw [hg]; exact Nat.ne_of_gt (blk_lt (g := gb363) (o := .cells #[.slice none 0 0, .slice none 0 0] 25 (0, 0)) (kU BK363.out)) : gb371 ≠ gb363)); have n11 := Az ((by rw [hg]; exact Nat.ne_of_lt (IsS73.lt (show IsS73 w0 _ g s0_0 t370 from by repeat (first | (with_reducible first | exact HI0.out | apply IsS73.alloc | apply IsS73.drewN | apply IsS73.drew | apply IsS73.set_1 | refine IsS73.far ?_ NB0_363.out _) | exact HI0.out))) : g ≠ gb371)); have n12 := Az ((by rw [hg]; exact Nat.ne_of_gt (IsS73.lt (show IsS73 w0 _ g s0_0 t370 from by repeat (first | (with_reducible first | exact HI0.out | apply IsS73.alloc | apply IsS73.drewN | apply IsS73.drew | apply IsS73.set_1 | refine IsS73.far ?_ NB0_363.out _) | exact HI0.out))) : gb371 ≠ g)); clear HO366 HO369 HI0 BK363 HK HB; have HO366 := n0; have HO369 := n1; have HI0 := n2; have BK363 := n3; have HK := n4; have HB := n5; have BK371 := n6; have GW371 := n7; have GE371 := n8; have NB363_371 := n9; have NB371_363 := n10; have NB0_371 := n11; have NB371_0 := n12; clear n0 n1 n2 n3 n4 n5 n6 n7 n8 n9 n10 n11 n12 hb hbox hg; obtain ⟨Ao6, co6, eo6, _⟩ := Kd.Q_slice HO366.out; subst eo6; have hnb7 := NB371_363.out; have hnc7 := NB363_371.out; have hnb8 := NB371_0.out; have hnc8 := NB0_371.out; have hcz9_0 : w5.cell? ⟨gb371, 0, none⟩ = some (.slice none 0 0) := (blk_cell BK371.out 0).trans rfl; have hcz9_1 : w5.cell? ⟨gb371, 1, none⟩ = some (.slice none 0 0) := (blk_cell BK371.out 1).trans rfl; have hfz9_0 := blk_frozen BK371.out 0; have hfz9_1 := blk_frozen BK371.out 1; obtain ⟨Ao10, co10, eo10⟩ := Kd.R_slice HO369.out; subst eo10) | ((with_reducible refine gate_dst (N := 9) rfl ?_); refine Kd.R_lit (Kd.int .i64) _ 3 ?hg (N := 9) ?hd (xs := ([] : List Int)) (inner := []) (ok := fun _ => True) (okp := fun _ => True) ?hr ?hp (fun _ hk => hk) trivial (Below.refl _ _) (Nat.le_refl _) (by simp) ?_; (case hd => rfl); (case hg => rfl); (case hr => first | (go_simp; done) | (go_simp; rfl)); (case hp => exact (Reps.none _ _)); intro v373 w11 ho12 hb hg_ hnew_; clear hg_ hnew_; (first | rw [← Ny372.out] at ho12 | (simp only [Int.reduceToNat] at ho12; rw [← Ny372.out] at ho12)); have n0 := Az (Kd.Q_elder' (by (with_reducible repeat (first | apply Kd.Q_alloc | apply Kd.Q_drewN | apply Kd.Q_drew)); exact (Kd.Q_mono (Kd.Q_far (p := ⟨gb371, 1, none⟩) (Kd.Q_far (p := ⟨gb371, 0, none⟩) (Kd.Q_types HO366.out BK371.out (by decide)) (fun _ hk => hk.2) (.slice Ao6 t364.length co6)) (fun _ hk => hk.2) (.slice Ao10 t367.length co10)) (fun _ h_ => h_.1))) (Kd.R_base ho12) hb); have n1 := Az (Kd.R_elder' (by (with_reducible repeat (first | apply Kd.R_alloc | apply Kd.R_drewN | apply Kd.R_drew)); exact (Kd.R_mono (Kd.R_far (p := ⟨gb371, 1, none⟩) (Kd.R_far (p := ⟨gb371, 0, none⟩) (Kd.R_types HO369.out BK371.out (by decide)) (fun _ hk => hk.2) (.slice Ao6 t364.length co6)) (fun _ hk => hk.2) (.slice Ao10 t367.length co10)) (fun _ h_ => h_.1))) (Kd.R_base ho12) hb); have n2 := Az (Kd.R_lower (Kd.R_new' (Kd.R_new' ho12 (Kd.Q_lt (by (with_reducible repeat (first | apply Kd.Q_alloc | apply Kd.Q_drewN | apply Kd.Q_drew)); exact (Kd.Q_mono (Kd.Q_far (p := ⟨gb371, 1, none⟩) (Kd.Q_far (p := ⟨gb371, 0, none⟩) (Kd.Q_types HO366.out BK371.out (by decide)) (fun _ hk => hk.2) (.slice Ao6 t364.length co6)) (fun _ hk => hk.2) (.slice Ao10 t367.length co10)) (fun _ h_ => h_.1))))) (Kd.R_lt (by (with_reducible repeat (first | apply Kd.R_alloc | apply Kd.R_drewN | apply Kd.R_drew)); exact (Kd.R_mono (Kd.R_far (p := ⟨gb371, 1, none⟩) (Kd.R_far (p := ⟨gb371, 0, none⟩) (Kd.R_types HO369.out BK371.out (by decide)) (fun _ hk => hk.2) (.slice Ao6 t364.length co6)) (fun _ hk => hk.2) (.slice Ao10 t367.length co10)) (fun _ h_ => h_.1))))) (keep_size (w := w) (g := g) (row := none) (by repeat (first | (with_reducible first | exact HK.out | apply KeepBut.set_ | apply keep_drewN | apply keep_drew | apply keep_alloc | refine keep_far ?_ GW363.out _ | refine keep_far ?_ GW371.out _) | exact HK.out)))); have n3 := Az (IsS73.below (show IsS73 w0 ((w5.setCell ⟨gb371, 0, none⟩ (.slice Ao6 t364.length co6)).setCell ⟨gb371, 1, none⟩ (.slice Ao10 t367.length co10)) g s0_0 t370 from by repeat (first | (with_reducible first | exact HI0.out | apply IsS73.alloc | apply IsS73.drewN | apply IsS73.drew | apply IsS73.set_1 | refine IsS73.far ?_ NB0_363.out _ | refine IsS73.far ?_ NB0_371.out _) | exact HI0.out)) hb); have n4 := Az (blk_below (g := gb363) (o := .cells #[.slice none 0 0, .slice none 0 0] 25 (0, 0)) (by (with_reducible repeat (first | refine blk_drewN ?_ _ | refine blk_drew ?_ | refine blk_alloc ?_ _)); refine blk_far ?_ NB363_371.out _; (with_reducible repeat (first | refine blk_drewN ?_ _ | refine blk_drew ?_ | refine blk_alloc ?_ _)); refine blk_far ?_ NB363_371.out _; (with_reducible repeat (first | refine blk_drewN ?_ _ | refine blk_drew ?_ | refine blk_alloc ?_ _)); exact BK363.out) hb); have n5 := Az (blk_below (g := gb371) (o := .cells #[.slice Ao6 t364.length co6, .slice Ao10 t367.length co10] 25 (0, 0)) (by (with_reducible repeat (first | refine blk_drewN ?_ _ | refine blk_drew ?_ | refine blk_alloc ?_ _)); refine blk_put (cs := #[.slice Ao6 t364.length co6, .slice none 0 0]) ?_ 1 _ rfl; (with_reducible repeat (first | refine blk_drewN ?_ _ | refine blk_drew ?_ | refine blk_alloc ?_ _)); refine blk_put (cs := #[.slice none 0 0, .slice none 0 0]) ?_ 0 _ rfl; (with_reducible repeat (first | refine blk_drewN ?_ _ | refine blk_drew ?_ | refine blk_alloc ?_ _)); exact BK371.out) hb); have n6 := Az (KeepBut.trans (by repeat (first | (with_reducible first | exact HK.out | apply KeepBut.set_ | apply keep_drewN | apply keep_drew | apply keep_alloc | refine keep_far ?_ GW363.out _ | refine keep_far ?_ GW371.out _) | exact HK.out)) (KeepBut.of_below hb g none) (.inl rfl)); have n7 := Az (below_step (by repeat (first | (with_reducible first | exact HB.out | apply below_alloc | apply pw_below_drewN | apply below_drew1 | refine below_set ?_ (IsS73.ge HI0.out) | refine below_set ?_ GE363.out | refine below_set ?_ GE371.out) | exact HB.out)) hb); clear HO366 HO369 HI0 BK363 BK371 HK HB; have HO366 := n0; have HO369 := n1; have HO374 := n2; have HI0 := n3; have BK363 := n4; have BK371 := n5; have HK := n6; have HB := n7; clear n0 n1 n2 n3 n4 n5 n6 n7; clear hb ho12))
 go_loopg [5, 6] k (fun kq v5 v6 w' => ∃ (x5_1 : List Int) (x6_1 : Int) (x1001_1 : Int), v6 = .int .i64 x6_1 ∧ Aside0 (spec_l92Choice.l0 kq x5_1 x6_1 s0_0 x1001_1 t364 t367 = some (r1, r2, r3, r4)) ∧ Aside0 (kq ≤ k) ∧ Aside0 (Kd.R (Kd.int .i64) 3 w' w.heap.size (fun k_ => some k_ ≠ ((.slice Ao6 t364.length co6) : Value).ownBlock ∧ some k_ ≠ ((.slice Ao10 t367.length co10) : Value).ownBlock) v5 x5_1) ∧ Aside0 (Kd.Q (Kd.int .i64) 3 w' w.heap.size (fun k_ => some k_ ≠ (v5 : Value).ownBlock ∧ some k_ ≠ ((.slice Ao10 t367.length co10) : Value).ownBlock) (.slice Ao6 t364.length co6) t364) ∧ Aside0 (Kd.R (Kd.int .i64) 3 w' w.heap.size (fun k_ => some k_ ≠ (v5 : Value).ownBlock ∧ some k_ ≠ ((.slice Ao6 t364.length co6) : Value).ownBlock) (.slice Ao10 t367.length co10) t367) ∧ Aside0 (w'.heap[gb363]? = some (.cells #[(.slice none 0 0), (.slice none 0 0)] 25 (0, 0))) ∧ Aside0 (w'.heap[gb371]? = some (.cells #[(.slice Ao6 t364.length co6), (.slice Ao10 t367.length co10)] 25 (0, 0))) ∧ Aside0 (IsS73 w0 w' g s0_0 x1001_1) ∧ Aside0 (KeepBut w w' g none) ∧ Aside0 (Below w0.heap.size w0 w'))
 case atStart => exact ⟨(y372), (0), (t370), rS, H', ⟨Nat.le_refl _⟩, ⟨by (with_reducible repeat (first | apply Kd.R_alloc | apply Kd.R_drewN | apply Kd.R_drew)); exact Kd.R_mono HO374.out (fun _ hk => ⟨hk.1.2, hk.2⟩)⟩, ⟨by (with_reducible repeat (first | apply Kd.Q_alloc | apply Kd.Q_drewN | apply Kd.Q_drew)); exact Kd.Q_mono HO366.out (fun _ hk => ⟨hk.2, hk.1⟩)⟩, ⟨by (with_reducible repeat (first | apply Kd.R_alloc | apply Kd.R_drewN | apply Kd.R_drew)); exact Kd.R_mono HO369.out (fun _ hk => ⟨hk.2, hk.1⟩)⟩, ⟨kU BK363.out⟩, ⟨kU BK371.out⟩, ⟨by repeat (first | (with_reducible first | exact HI0.out | apply IsS73.alloc | apply IsS73.drewN | apply IsS73.drew | apply IsS73.set_1 | refine IsS73.far ?_ NB0_363.out _ | refine IsS73.far ?_ NB0_371.out _) | exact HI0.out)⟩, ⟨by repeat (first | (with_reducible first | exact HK.out | apply KeepBut.set_ | apply keep_drewN | apply keep_drew | apply keep_alloc | refine keep_far ?_ GW363.out _ | refine keep_far ?_ GW371.out _) | exact HK.out)⟩, ⟨by repeat (first | (with_reducible first | exact HB.out | apply below_alloc | apply pw_below_drewN | apply below_drew1 | refine below_set ?_ (IsS73.ge HI0.out) | refine below_set ?_ GE363.out | refine below_set ?_ GE371.out) | exact HB.out)⟩⟩
 case round =>
  clear H'; (try clear p2); (try clear c5); (try clear c7); (try clear c8); (try clear hcz9_0); (try clear hcz9_1); (try clear hfz9_0); (try clear hfz9_1); obtain ⟨x5_1, x6_1, x1001_1, rfl, HA, HK1, HO_5, HO_Z0, HO_Z1, BK363, BK371, HI0, HK, HB⟩ := hrel
  cases gk with
  | zero => exact absurd HA.out (by simp [spec_l92Choice.l0])
  | succ k1 =>
   have H := HA.out; clear HA; simp only [spec_l92Choice.l0] at H
   by_cases c13 : x6_1 < (wrap64 ((t367.length : Int) / 2))
   ·
    rw [if_pos c13] at H; have c13b0 := decide_eq_true c13; clear c13; replace H := Option.bind_eq_some_iff.mp H; obtain ⟨⟨t375, t376⟩, A140, H⟩ := H; replace H : (if t375 = 0 then (if x5_1.length < 17592186044416 then (spec_l92Choice.l0 k1 (x5_1 ++ [x6_1]) (wrap64 (x6_1 + 1)) s0_0 t376 t364 t367) else (none)) else (spec_l92Choice.l0 k1 x5_1 (wrap64 (x6_1 + 1)) s0_0 t376 t364 t367)) = some (r1, r2, r3, r4) := H; have A14 := Az A140; clear A140
    by_cases c15 : t375 = 0
    ·
     rw [if_pos c15] at H; have c15b0 := beq_iff_eq.mpr c15; have c15b1 := bne_eq_false_iff_eq.mpr c15; clear c15
     by_cases c16 : x5_1.length < 17592186044416
     ·
      rw [if_pos c16] at H; have LMc16 := Az c16; clear c16; obtain ⟨y377, hy377⟩ : ∃ y_ : List Int, y_ = (x5_1 ++ [x6_1]) := ⟨_, rfl⟩; replace H : (spec_l92Choice.l0 k1 y377 (wrap64 (x6_1 + 1)) s0_0 t376 t364 t367) = some (r1, r2, r3, r4) := hR hy377 H; have Ny377 := Az hy377; clear hy377; have H' := Az H; clear H; have hnb17 := NB371_363.out; have hnc17 := NB363_371.out; have hnb18 := NB371_0.out; have hnc18 := NB0_371.out; have hcz19_0 : wr.cell? ⟨gb371, 0, none⟩ = some (.slice Ao6 t364.length co6) := (blk_cell BK371.out 0).trans rfl; have hcz19_1 : wr.cell? ⟨gb371, 1, none⟩ = some (.slice Ao10 t367.length co10) := (blk_cell BK371.out 1).trans rfl; have hfz19_0 := blk_frozen BK371.out 0; have hfz19_1 := blk_frozen BK371.out 1
      go_wp2_with (first | ((with_reducible refine gate_callee (f := 71) rfl ?_); refine goesL_ (some 19) rfl rfl Try.func71 (by kernel_rfl) rfl #[.pointer (some ⟨g, 0, none⟩), .int .i64 2] rfl (by (try simp only [List.map_toArray, List.map_cons, List.map_nil]); first | done | rfl | (simp only [List.length_drop, List.length_take]; rfl)) ?_; (with_reducible refine (spec_l6Rd_pick.calls k1 g s0_0 x1001_1 2 t375 t376 w0 _ ?side1 ?side2 A14.out).mono ?_); (case side1 => repeat (first | (with_reducible first | exact HI0.out | apply IsS73.alloc | apply IsS73.drewN | apply IsS73.drew | apply IsS73.set_1 | refine IsS73.far ?_ NB0_363.out _ | refine IsS73.far ?_ NB0_371.out _) | exact HI0.out)); (case side2 => repeat (first | (with_reducible first | exact HB.out | apply below_alloc | apply pw_below_drewN | apply below_drew1 | refine below_set ?_ (IsS73.ge HI0.out) | refine below_set ?_ GE363.out | refine below_set ?_ GE371.out) | exact HB.out)); rintro e w20 ⟨rfl, hi, hb, hk⟩; refine ⟨_, rfl, ?_⟩; have n0 := Az (Kd.R_mono (Kd.R_keep (IsS73.apart (show IsS73 w0 _ g s0_0 x1001_1 from by repeat (first | (with_reducible first | exact HI0.out | apply IsS73.alloc | apply IsS73.drewN | apply IsS73.drew | apply IsS73.set_1 | refine IsS73.far ?_ NB0_363.out _ | refine IsS73.far ?_ NB0_371.out _) | exact HI0.out)) (rU HO_5.out) (by decide)) hk (fun _ h => h.2)) (fun _ h => h.1)); have n1 := Az (Kd.Q_mono (Kd.Q_keep (IsS73.apartQ (show IsS73 w0 _ g s0_0 x1001_1 from by repeat (first | (with_reducible first | exact HI0.out | apply IsS73.alloc | apply IsS73.drewN | apply IsS73.drew | apply IsS73.set_1 | refine IsS73.far ?_ NB0_363.out _ | refine IsS73.far ?_ NB0_371.out _) | exact HI0.out)) (qU HO_Z0.out) (by decide)) hk (fun _ h => h.2)) (fun _ h => h.1)); have n2 := Az (Kd.R_mono (Kd.R_keep (IsS73.apart (show IsS73 w0 _ g s0_0 x1001_1 from by repeat (first | (with_reducible first | exact HI0.out | apply IsS73.alloc | apply IsS73.drewN | apply IsS73.drew | apply IsS73.set_1 | refine IsS73.far ?_ NB0_363.out _ | refine IsS73.far ?_ NB0_371.out _) | exact HI0.out)) (rU HO_Z1.out) (by decide)) hk (fun _ h => h.2)) (fun _ h => h.1)); have n3 := Az (KeepBut.blk hk (g' := gb363) (o := .cells #[.slice none 0 0, .slice none 0 0] 25 (0, 0)) (kU BK363.out) NB363_0.out (by simp)); have n4 := Az (KeepBut.blk hk (g' := gb371) (o := .cells #[.slice Ao6 t364.length co6, .slice Ao10 t367.length co10] 25 (0, 0)) (kU BK371.out) NB371_0.out (by simp)); have n5 := Az (KeepBut.trans (by repeat (first | (with_reducible first | exact HK.out | apply KeepBut.set_ | apply keep_drewN | apply keep_drew | apply keep_alloc | refine keep_far ?_ GW363.out _ | refine keep_far ?_ GW371.out _) | exact HK.out)) hk (.inl rfl)); have n6 := Az (hb); have n7 := Az (hi); clear HO_5 HO_Z0 HO_Z1 BK363 BK371 HK HB HI0; have HO_5 := n0; have HO_Z0 := n1; have HO_Z1 := n2; have BK363 := n3; have BK371 := n4; have HK := n5; have HB := n6; have HI0 := n7; clear n0 n1 n2 n3 n4 n5 n6 n7; (try clear hb); (try clear hb2); (try clear hk); (try clear hi)) | ((with_reducible refine gate_builtin (b := .append) (xs := #[.tmp 21, .tmp 23]) rfl ?_); at_builtin; refine Kd.R_append (Kd.int .i64) w.heap.size rfl (.tmp 21) (.tmp 23) 23 3 (.int .i64 0) 8 rfl Try.underlying23 info3 rfl (by decide) (by omega) u5 x5_1 x6_1 [.int .i64 x6_1] (fun k_ => some k_ ≠ (.slice Ao6 t364.length co6 : Value).ownBlock ∧ some k_ ≠ (.slice Ao10 t367.length co10 : Value).ownBlock) (fun _ => False) rfl rfl ?aP (fun _ hk => hk.elim) ?aF ?aO (Below.refl _ _) ?aS ?aL ?_; (case aP => exact rfl); (case aF => exact (fun k_ hk => ⟨Kd.fresh' (Kd.Q_lt (qU HO_Z0.out)) k_ hk, Kd.fresh' (Kd.R_lt (rU HO_Z1.out)) k_ hk⟩)); (case aO => exact (rU HO_5.out)); (case aS => exact (keep_size (w := w) (g := g) (row := none) (by repeat (first | (with_reducible first | exact HK.out | apply KeepBut.set_ | apply keep_drewN | apply keep_drew | apply keep_alloc | refine keep_far ?_ GW363.out _ | refine keep_far ?_ GW371.out _) | exact HK.out)))); (case aL => have := LMc16.out; omega); intro v378 w21 ho hb hg hat; rw [← Ny377.out] at ho; have n0 := Az (Kd.Q_after (ok := (fun k_ => some k_ ≠ (.slice Ao10 t367.length co10 : Value).ownBlock)) (by (with_reducible repeat (first | apply Kd.Q_alloc | apply Kd.Q_drewN | apply Kd.Q_drew)); exact Kd.Q_mono HO_Z0.out (fun _ hk => ⟨hk.2, hk.1⟩)) hg hat); have n1 := Az (Kd.R_after (ok := (fun k_ => some k_ ≠ (.slice Ao6 t364.length co6 : Value).ownBlock)) (by (with_reducible repeat (first | apply Kd.R_alloc | apply Kd.R_drewN | apply Kd.R_drew)); exact Kd.R_mono HO_Z1.out (fun _ hk => ⟨hk.2, hk.1⟩)) hg hat); have n2 := Az (blk_grown (g := gb363) (o := .cells #[.slice none 0 0, .slice none 0 0] 25 (0, 0)) (kU BK363.out) hg (Kd.R_ne HO_5.out BK363.out (by decide))); have n3 := Az (blk_grown (g := gb371) (o := .cells #[.slice Ao6 t364.length co6, .slice Ao10 t367.length co10] 25 (0, 0)) (kU BK371.out) hg (Kd.R_ne HO_5.out BK371.out (by decide))); have n4 := Az (IsS73.grown (by repeat (first | (with_reducible first | exact HI0.out | apply IsS73.alloc | apply IsS73.drewN | apply IsS73.drew | apply IsS73.set_1 | refine IsS73.far ?_ NB0_363.out _ | refine IsS73.far ?_ NB0_371.out _) | exact HI0.out)) hg (IsS73.own_ne HI0.out HO_5.out (by decide))); have n5 := Az (below_weaken (by repeat (first | (with_reducible first | exact HB.out | apply below_alloc | apply pw_below_drewN | apply below_drew1 | refine below_set ?_ (IsS73.ge HI0.out) | refine below_set ?_ GE363.out | refine below_set ?_ GE371.out) | exact HB.out)) HL.out hb); have n6 := Az (KeepBut.trans (by repeat (first | (with_reducible first | exact HK.out | apply KeepBut.set_ | apply keep_drewN | apply keep_drew | apply keep_alloc | refine keep_far ?_ GW363.out _ | refine keep_far ?_ GW371.out _) | exact HK.out)) (KeepBut.of_grown hg g) (Kd.R_base2 HO_5.out)); have n7 := Az (ho); clear HO_Z0 HO_Z1 BK363 BK371 HI0 HB HK HO_5; have HO_Z0 := n0; have HO_Z1 := n1; have BK363 := n2; have BK371 := n3; have HI0 := n4; have HB := n5; have HK := n6; have HO379 := n7; clear n0 n1 n2 n3 n4 n5 n6 n7; clear ho hb hg hat))
      (first | go_roundg k1 | (refine Handed.intro k1 ?measure ?_; rotate_left; go_step; (try simp only [add_plain]); (repeat apply Exists.intro); refine ⟨?rel, rfl⟩))
      case measure => have := HK1.out; omega
      case rel => exact ⟨(y377), (wrap64 (x6_1 + 1)), (t376), rS, H', ⟨by have := HK1.out; omega⟩, ⟨rU HO379.out⟩, ⟨by (with_reducible repeat (first | apply Kd.Q_alloc | apply Kd.Q_drewN | apply Kd.Q_drew)); exact Kd.Q_mono HO_Z0.out (fun _ hk => ⟨hk.2, hk.1⟩)⟩, ⟨by (with_reducible repeat (first | apply Kd.R_alloc | apply Kd.R_drewN | apply Kd.R_drew)); exact Kd.R_mono HO_Z1.out (fun _ hk => ⟨hk.2, hk.1⟩)⟩, ⟨kU BK363.out⟩, ⟨kU BK371.out⟩, ⟨by repeat (first | (with_reducible first | exact HI0.out | apply IsS73.alloc | apply IsS73.drewN | apply IsS73.drew | apply IsS73.set_1 | refine IsS73.far ?_ NB0_363.out _ | refine IsS73.far ?_ NB0_371.out _) | exact HI0.out)⟩, ⟨by repeat (first | (with_reducible first | exact HK.out | apply KeepBut.set_ | apply keep_drewN | apply keep_drew | apply keep_alloc | refine keep_far ?_ GW363.out _ | refine keep_far ?_ GW371.out _) | exact HK.out)⟩, ⟨by repeat (first | (with_reducible first | exact HB.out | apply below_alloc | apply pw_below_drewN | apply below_drew1 | refine below_set ?_ (IsS73.ge HI0.out) | refine below_set ?_ GE363.out | refine below_set ?_ GE371.out) | exact HB.out)⟩⟩
     ·
      rw [if_neg c16] at H
      exact absurd H (by simp)
    ·
     rw [if_neg c15] at H; have c15b0 := beq_eq_false_iff_ne.mpr c15; have c15b1 := bne_iff_ne.mpr c15; have H' := Az H; clear H; have hnb22 := NB371_363.out; have hnc22 := NB363_371.out; have hnb23 := NB371_0.out; have hnc23 := NB0_371.out; have hcz24_0 : wr.cell? ⟨gb371, 0, none⟩ = some (.slice Ao6 t364.length co6) := (blk_cell BK371.out 0).trans rfl; have hcz24_1 : wr.cell? ⟨gb371, 1, none⟩ = some (.slice Ao10 t367.length co10) := (blk_cell BK371.out 1).trans rfl; have hfz24_0 := blk_frozen BK371.out 0; have hfz24_1 := blk_frozen BK371.out 1
     go_wp2_with (first | ((with_reducible refine gate_callee (f := 71) rfl ?_); refine goesL_ (some 19) rfl rfl Try.func71 (by kernel_rfl) rfl #[.pointer (some ⟨g, 0, none⟩), .int .i64 2] rfl (by (try simp only [List.map_toArray, List.map_cons, List.map_nil]); first | done | rfl | (simp only [List.length_drop, List.length_take]; rfl)) ?_; (with_reducible refine (spec_l6Rd_pick.calls k1 g s0_0 x1001_1 2 t375 t376 w0 _ ?side1 ?side2 A14.out).mono ?_); (case side1 => repeat (first | (with_reducible first | exact HI0.out | apply IsS73.alloc | apply IsS73.drewN | apply IsS73.drew | apply IsS73.set_1 | refine IsS73.far ?_ NB0_363.out _ | refine IsS73.far ?_ NB0_371.out _) | exact HI0.out)); (case side2 => repeat (first | (with_reducible first | exact HB.out | apply below_alloc | apply pw_below_drewN | apply below_drew1 | refine below_set ?_ (IsS73.ge HI0.out) | refine below_set ?_ GE363.out | refine below_set ?_ GE371.out) | exact HB.out)); rintro e w25 ⟨rfl, hi, hb, hk⟩; refine ⟨_, rfl, ?_⟩; have n0 := Az (Kd.R_mono (Kd.R_keep (IsS73.apart (show IsS73 w0 _ g s0_0 x1001_1 from by repeat (first | (with_reducible first | exact HI0.out | apply IsS73.alloc | apply IsS73.drewN | apply IsS73.drew | apply IsS73.set_1 | refine IsS73.far ?_ NB0_363.out _ | refine IsS73.far ?_ NB0_371.out _) | exact HI0.out)) (rU HO_5.out) (by decide)) hk (fun _ h => h.2)) (fun _ h => h.1)); have n1 := Az (Kd.Q_mono (Kd.Q_keep (IsS73.apartQ (show IsS73 w0 _ g s0_0 x1001_1 from by repeat (first | (with_reducible first | exact HI0.out | apply IsS73.alloc | apply IsS73.drewN | apply IsS73.drew | apply IsS73.set_1 | refine IsS73.far ?_ NB0_363.out _ | refine IsS73.far ?_ NB0_371.out _) | exact HI0.out)) (qU HO_Z0.out) (by decide)) hk (fun _ h => h.2)) (fun _ h => h.1)); have n2 := Az (Kd.R_mono (Kd.R_keep (IsS73.apart (show IsS73 w0 _ g s0_0 x1001_1 from by repeat (first | (with_reducible first | exact HI0.out | apply IsS73.alloc | apply IsS73.drewN | apply IsS73.drew | apply IsS73.set_1 | refine IsS73.far ?_ NB0_363.out _ | refine IsS73.far ?_ NB0_371.out _) | exact HI0.out)) (rU HO_Z1.out) (by decide)) hk (fun _ h => h.2)) (fun _ h => h.1)); have n3 := Az (KeepBut.blk hk (g' := gb363) (o := .cells #[.slice none 0 0, .slice none 0 0] 25 (0, 0)) (kU BK363.out) NB363_0.out (by simp)); have n4 := Az (KeepBut.blk hk (g' := gb371) (o := .cells #[.slice Ao6 t364.length co6, .slice Ao10 t367.length co10] 25 (0, 0)) (kU BK371.out) NB371_0.out (by simp)); have n5 := Az (KeepBut.trans (by repeat (first | (with_reducible first | exact HK.out | apply KeepBut.set_ | apply keep_drewN | apply keep_drew | apply keep_alloc | refine keep_far ?_ GW363.out _ | refine keep_far ?_ GW371.out _) | exact HK.out)) hk (.inl rfl)); have n6 := Az (hb); have n7 := Az (hi); clear HO_5 HO_Z0 HO_Z1 BK363 BK371 HK HB HI0; have HO_5 := n0; have HO_Z0 := n1; have HO_Z1 := n2; have BK363 := n3; have BK371 := n4; have HK := n5; have HB := n6; have HI0 := n7; clear n0 n1 n2 n3 n4 n5 n6 n7; (try clear hb); (try clear hb2); (try clear hk); (try clear hi)))
     (first | go_roundg k1 | (refine Handed.intro k1 ?measure ?_; rotate_left; go_step; (try simp only [add_plain]); (repeat apply Exists.intro); refine ⟨?rel, rfl⟩))
     case measure => have := HK1.out; omega
     case rel => exact ⟨(x5_1), (wrap64 (x6_1 + 1)), (t376), rS, H', ⟨by have := HK1.out; omega⟩, ⟨rU HO_5.out⟩, ⟨qU HO_Z0.out⟩, ⟨rU HO_Z1.out⟩, ⟨kU BK363.out⟩, ⟨kU BK371.out⟩, ⟨by repeat (first | (with_reducible first | exact HI0.out | apply IsS73.alloc | apply IsS73.drewN | apply IsS73.drew | apply IsS73.set_1 | refine IsS73.far ?_ NB0_363.out _ | refine IsS73.far ?_ NB0_371.out _) | exact HI0.out)⟩, ⟨by repeat (first | (with_reducible first | exact HK.out | apply KeepBut.set_ | apply keep_drewN | apply keep_drew | apply keep_alloc | refine keep_far ?_ GW363.out _ | refine keep_far ?_ GW371.out _) | exact HK.out)⟩, ⟨by repeat (first | (with_reducible first | exact HB.out | apply below_alloc | apply pw_below_drewN | apply below_drew1 | refine below_set ?_ (IsS73.ge HI0.out) | refine below_set ?_ GE363.out | refine below_set ?_ GE371.out) | exact HB.out)⟩⟩
   ·
    rw [if_neg c13] at H; have c13b0 := decide_eq_false c13; clear c13; replace H := Option.bind_eq_some_iff.mp H; obtain ⟨⟨t380, t381⟩, A260, H⟩ := H; replace H : (if t380 = 0 then (if x5_1.length < 17592186044416 then (some (t364, t367, (x5_1 ++ [wrap64 ((t367.length : Int) / 2)]), t381)) else (none)) else (if t380 = 1 then ((some (([(-1)] : List Int) : List Int)).bind fun y385 => (if y385.length + x5_1.length < 17592186044416 then (some (t364, t367, (y385 ++ x5_1), t381)) else (none))) else (if t380 = 2 then (if x5_1.length + x5_1.length < 17592186044416 then (some (t364, t367, (x5_1 ++ x5_1), t381)) else (none)) else (some (t364, t367, x5_1, t381))))) = some (r1, r2, r3, r4) := H; have A26 := Az A260; clear A260
    by_cases c27 : t380 = 0
    ·
     rw [if_pos c27] at H; have c27b0 := beq_iff_eq.mpr c27; have c27b1 := bne_eq_false_iff_eq.mpr c27; clear c27
     by_cases c28 : x5_1.length < 17592186044416
     ·
      rw [if_pos c28] at H; have LMc28 := Az c28; clear c28; obtain ⟨y382, hy382⟩ : ∃ y_ : List Int, y_ = (x5_1 ++ [wrap64 ((t367.length : Int) / 2)]) := ⟨_, rfl⟩; replace H : (some (t364, t367, y382, t381)) = some (r1, r2, r3, r4) := hR hy382 H; have Ny382 := Az hy382; clear hy382; simp only [Option.some.injEq, Prod.mk.injEq] at H; obtain ⟨rfl, rfl, rfl, rfl⟩ := H; have hnb29 := NB371_363.out; have hnc29 := NB363_371.out; have hnb30 := NB371_0.out; have hnc30 := NB0_371.out; have hcz31_0 : wr.cell? ⟨gb371, 0, none⟩ = some (.slice Ao6 t364.length co6) := (blk_cell BK371.out 0).trans rfl; have hcz31_1 : wr.cell? ⟨gb371, 1, none⟩ = some (.slice Ao10 t367.length co10) := (blk_cell BK371.out 1).trans rfl; have hfz31_0 := blk_frozen BK371.out 0; have hfz31_1 := blk_frozen BK371.out 1
      try go_wp2_with (first | ((with_reducible refine gate_callee (f := 71) rfl ?_); refine goesL_ (some 26) rfl rfl Try.func71 (by kernel_rfl) rfl #[.pointer (some ⟨g, 0, none⟩), .int .i64 30] rfl (by (try simp only [List.map_toArray, List.map_cons, List.map_nil]); first | done | rfl | (simp only [List.length_drop, List.length_take]; rfl)) ?_; (with_reducible refine (spec_l6Rd_pick.calls k1 g s0_0 x1001_1 30 t380 t381 w0 _ ?side1 ?side2 A26.out).mono ?_); (case side1 => repeat (first | (with_reducible first | exact HI0.out | apply IsS73.alloc | apply IsS73.drewN | apply IsS73.drew | apply IsS73.set_1 | refine IsS73.far ?_ NB0_363.out _ | refine IsS73.far ?_ NB0_371.out _) | exact HI0.out)); (case side2 => repeat (first | (with_reducible first | exact HB.out | apply below_alloc | apply pw_below_drewN | apply below_drew1 | refine below_set ?_ (IsS73.ge HI0.out) | refine below_set ?_ GE363.out | refine below_set ?_ GE371.out) | exact HB.out)); rintro e w32 ⟨rfl, hi, hb, hk⟩; refine ⟨_, rfl, ?_⟩; have n0 := Az (Kd.R_mono (Kd.R_keep (IsS73.apart (show IsS73 w0 _ g s0_0 x1001_1 from by repeat (first | (with_reducible first | exact HI0.out | apply IsS73.alloc | apply IsS73.drewN | apply IsS73.drew | apply IsS73.set_1 | refine IsS73.far ?_ NB0_363.out _ | refine IsS73.far ?_ NB0_371.out _) | exact HI0.out)) (rU HO_5.out) (by decide)) hk (fun _ h => h.2)) (fun _ h => h.1)); have n1 := Az (Kd.Q_mono (Kd.Q_keep (IsS73.apartQ (show IsS73 w0 _ g s0_0 x1001_1 from by repeat (first | (with_reducible first | exact HI0.out | apply IsS73.alloc | apply IsS73.drewN | apply IsS73.drew | apply IsS73.set_1 | refine IsS73.far ?_ NB0_363.out _ | refine IsS73.far ?_ NB0_371.out _) | exact HI0.out)) (qU HO_Z0.out) (by decide)) hk (fun _ h => h.2)) (fun _ h => h.1)); have n2 := Az (Kd.R_mono (Kd.R_keep (IsS73.apart (show IsS73 w0 _ g s0_0 x1001_1 from by repeat (first | (with_reducible first | exact HI0.out | apply IsS73.alloc | apply IsS73.drewN | apply IsS73.drew | apply IsS73.set_1 | refine IsS73.far ?_ NB0_363.out _ | refine IsS73.far ?_ NB0_371.out _) | exact HI0.out)) (rU HO_Z1.out) (by decide)) hk (fun _ h => h.2)) (fun _ h => h.1)); have n3 := Az (KeepBut.blk hk (g' := gb363) (o := .cells #[.slice none 0 0, .slice none 0 0] 25 (0, 0)) (kU BK363.out) NB363_0.out (by simp)); have n4 := Az (KeepBut.blk hk (g' := gb371) (o := .cells #[.slice Ao6 t364.length co6, .slice Ao10 t367.length co10] 25 (0, 0)) (kU BK371.out) NB371_0.out (by simp)); have n5 := Az (KeepBut.trans (by repeat (first | (with_reducible first | exact HK.out | apply KeepBut.set_ | apply keep_drewN | apply keep_drew | apply keep_alloc | refine keep_far ?_ GW363.out _ | refine keep_far ?_ GW371.out _) | exact HK.out)) hk (.inl rfl)); have n6 := Az (hb); have n7 := Az (hi); clear HO_5 HO_Z0 HO_Z1 BK363 BK371 HK HB HI0; have HO_5 := n0; have HO_Z0 := n1; have HO_Z1 := n2; have BK363 := n3; have BK371 := n4; have HK := n5; have HB := n6; have HI0 := n7; clear n0 n1 n2 n3 n4 n5 n6 n7; (try clear hb); (try clear hb2); (try clear hk); (try clear hi)))
      have n0 := Az (Kd.R_drew HO_5.out); have n1 := Az (Kd.Q_drew HO_Z0.out); have n2 := Az (Kd.R_drew HO_Z1.out); have n3 := Az (blk_drew BK363.out); have n4 := Az (blk_drew BK371.out); have n5 := Az (IsS73.drew HI0.out); have n6 := Az (keep_drew HK.out); have n7 := Az (below_drew1 HB.out); clear HO_5 HO_Z0 HO_Z1 BK363 BK371 HI0 HK HB; have HO_5 := n0; have HO_Z0 := n1; have HO_Z1 := n2; have BK363 := n3; have BK371 := n4; have HI0 := n5; have HK := n6; have HB := n7; clear n0 n1 n2 n3 n4 n5 n6 n7
      refine start_ (n := 10) (S := fun w' => w'.cell? ⟨gb371, 0, none⟩ = some (.slice Ao6 t364.length co6) ∧ w'.cell? ⟨gb371, 1, none⟩ = some (.slice Ao10 t367.length co10)) (ds := []) #[false, false, false, false, false, false, false, false, false, false] (by kernel_rfl) rfl rfl ⟨(blk_cell BK371.out 0).trans rfl, (blk_cell BK371.out 1).trans rfl⟩ (fun hHeld => ?_); refine with_tabW spec_l92Choice.tab10 spec_l92Choice.bits10 (fun HT_ HW_ => ?_)
      generalize w32.drew = w33 at HO_5 HO_Z0 HO_Z1 BK363 BK371 HI0 HK HB hHeld ⊢
      refine pure_ (i := 1) (N := some 30) (v := ?_) (a' := ?_) #[false, true, false, false, false, false, false, false, false, false] rfl rfl (any_of HT_.out (by kernel_rfl)) (fun _ _ _ h => h) (Or.inl ⟨by rfl, ?_⟩) ?_ ?_
      rotate_left
      ·
       intro w'
       go_simp
       with_reducible rfl
      rotate_left
      ·
       simp only [Act.put, List.setIfInBounds_toArray, List.set_cons_zero, List.set_cons_succ, i64_w, i32_w]
       rfl
      refine pure_ (i := 2) (N := some 31) (v := ?_) (a' := ?_) #[false, true, true, false, false, false, false, false, false, false] rfl rfl (any_of HT_.out (by kernel_rfl)) (fun _ _ _ h => h) (Or.inl ⟨by rfl, ?_⟩) ?_ ?_
      rotate_left
      ·
       intro w'
       go_simp
       with_reducible rfl
      rotate_left
      ·
       simp only [Act.put, List.setIfInBounds_toArray, List.set_cons_zero, List.set_cons_succ, i64_w, i32_w]
       rfl
      refine take_ (i := 0) (N := some 29) (v := ?_) (a' := ?_) #[true, true, true, false, false, false, false, false, false, false] rfl rfl (take_ofW HT_.out HW_.out (by kernel_rfl)) (fun _ _ _ h => h) (Or.inl ⟨by rfl, ?_⟩) hHeld ?_ ?_
      rotate_left
      ·
       rintro w' ⟨s0, s1⟩
       go_simp
       with_reducible rfl
      rotate_left
      ·
       simp only [Act.put, List.setIfInBounds_toArray, List.set_cons_zero, List.set_cons_succ, i64_w, i32_w]
       rfl
      refine take_ (i := 3) (N := some 32) (v := ?_) (a' := ?_) #[true, true, true, true, false, false, false, false, false, false] rfl rfl (take_ofW HT_.out HW_.out (by kernel_rfl)) (fun _ _ _ h => h) (Or.inl ⟨by rfl, ?_⟩) hHeld ?_ ?_
      rotate_left
      ·
       rintro w' ⟨s0, s1⟩
       go_simp
       with_reducible rfl
      rotate_left
      ·
       simp only [Act.put, List.setIfInBounds_toArray, List.set_cons_zero, List.set_cons_succ, i64_w, i32_w]
       rfl
      refine pure_ (i := 4) (N := some 33) (v := ?_) (a' := ?_) #[true, true, true, true, true, false, false, false, false, false] rfl rfl (any_of HT_.out (by kernel_rfl)) (fun _ _ _ h => h) (Or.inl ⟨by rfl, ?_⟩) ?_ ?_
      rotate_left
      ·
       intro w'
       go_simp
       with_reducible rfl
      rotate_left
      ·
       simp only [Act.put, List.setIfInBounds_toArray, List.set_cons_zero, List.set_cons_succ, i64_w, i32_w]
       rfl
      refine pure_ (i := 5) (N := some 34) (v := ?_) (a' := ?_) #[true, true, true, true, true, true, false, false, false, false] rfl rfl (any_of HT_.out (by kernel_rfl)) (fun _ _ _ h => h) (Or.inl ⟨by rfl, ?_⟩) ?_ ?_
      rotate_left
      ·
       intro w'
       go_simp
       with_reducible rfl
      rotate_left
      ·
       simp only [Act.put, List.setIfInBounds_toArray, List.set_cons_zero, List.set_cons_succ, i64_w, i32_w]
       rfl
      refine one_ (i := 6) (N := some 35) #[true, true, true, true, true, true, true, false, false, false] rfl rfl (one_of HT_.out (by kernel_rfl)) (by decide) (fun K hK => ?_)
      refine value_ (w1 := ?_) (v := ?_) (by rfl) rfl ?_ ?_
      rotate_left 2
      ·
       go_simp
       constructor
       ·
        rfl
       ·
        rfl
      refine hK.out _ _ ⟨(blk_cell (blk_alloc BK371.out _) 0).trans rfl, (blk_cell (blk_alloc BK371.out _) 1).trans rfl⟩ (fun hHeld => ?_)
      clear hK K
      refine norm_ (a' := ?_) ?_ ?_
      rotate_left
      ·
       show Act.put _ (some 35) _ = _
       simp only [Act.put, List.setIfInBounds_toArray, List.set_cons_zero, List.set_cons_succ, i64_w, i32_w]
       rfl
      refine one_ (i := 7) (N := some 36) #[true, true, true, true, true, true, true, true, false, false] rfl rfl (one_of HT_.out (by kernel_rfl)) (by decide) (fun K hK => ?_)
      refine Kd.R_append_step (Kd.int .i64) w.heap.size (by rfl) (.tmp 30) (.tmp 35) 23 3 (.int .i64 0) 8 rfl Try.underlying23 info3 rfl (by decide) (by omega) u5 x5_1 (wrap64 ((t367.length : Int) / 2)) [.int .i64 (wrap64 ((t367.length : Int) / 2))] (fun k_ => some k_ ≠ (.slice Ao6 t364.length co6 : Value).ownBlock ∧ some k_ ≠ (.slice Ao10 t367.length co10 : Value).ownBlock) (fun _ => False) rfl rfl ?aP (fun _ hk => hk.elim) ?aF ?aO (Below.refl _ _) ?aS ?aL ?_
      (case aP => exact rfl)
      (case aF => exact (fun k_ hk => ⟨Kd.fresh' (Kd.Q_lt (qU HO_Z0.out)) k_ hk, Kd.fresh' (Kd.R_lt (rU HO_Z1.out)) k_ hk⟩))
      (case aO => exact (rU HO_5.out))
      (case aS => exact (keep_size (w := w) (g := g) (row := none) (by repeat (first | (with_reducible first | exact HK.out | apply KeepBut.set_ | apply keep_drewN | apply keep_drew | apply keep_alloc | refine keep_far ?_ GW363.out _ | refine keep_far ?_ GW371.out _) | exact HK.out))))
      (case aL => have := LMc28.out; omega)
      intro v383 w34 ho hb hg hat
      rw [← Ny382.out] at ho; have n0 := Az (Kd.Q_after (ok := (fun k_ => some k_ ≠ (.slice Ao10 t367.length co10 : Value).ownBlock)) (by (with_reducible repeat (first | apply Kd.Q_alloc | apply Kd.Q_drewN | apply Kd.Q_drew)); exact Kd.Q_mono HO_Z0.out (fun _ hk => ⟨hk.2, hk.1⟩)) hg hat); have n1 := Az (Kd.R_after (ok := (fun k_ => some k_ ≠ (.slice Ao6 t364.length co6 : Value).ownBlock)) (by (with_reducible repeat (first | apply Kd.R_alloc | apply Kd.R_drewN | apply Kd.R_drew)); exact Kd.R_mono HO_Z1.out (fun _ hk => ⟨hk.2, hk.1⟩)) hg hat); have n2 := Az (blk_grown (g := gb363) (o := .cells #[.slice none 0 0, .slice none 0 0] 25 (0, 0)) (kU BK363.out) hg (Kd.R_ne HO_5.out BK363.out (by decide))); have n3 := Az (blk_grown (g := gb371) (o := .cells #[.slice Ao6 t364.length co6, .slice Ao10 t367.length co10] 25 (0, 0)) (kU BK371.out) hg (Kd.R_ne HO_5.out BK371.out (by decide))); have n4 := Az (IsS73.grown (by repeat (first | (with_reducible first | exact HI0.out | apply IsS73.alloc | apply IsS73.drewN | apply IsS73.drew | apply IsS73.set_1 | refine IsS73.far ?_ NB0_363.out _ | refine IsS73.far ?_ NB0_371.out _) | exact HI0.out)) hg (IsS73.own_ne HI0.out HO_5.out (by decide))); have n5 := Az (below_weaken (by repeat (first | (with_reducible first | exact HB.out | apply below_alloc | apply pw_below_drewN | apply below_drew1 | refine below_set ?_ (IsS73.ge HI0.out) | refine below_set ?_ GE363.out | refine below_set ?_ GE371.out) | exact HB.out)) HL.out hb); have n6 := Az (KeepBut.trans (by repeat (first | (with_reducible first | exact HK.out | apply KeepBut.set_ | apply keep_drewN | apply keep_drew | apply keep_alloc | refine keep_far ?_ GW363.out _ | refine keep_far ?_ GW371.out _) | exact HK.out)) (KeepBut.of_grown hg g) (Kd.R_base2 HO_5.out)); have n7 := Az (ho); clear HO_Z0 HO_Z1 BK363 BK371 HI0 HB HK HO_5; have HO_Z0 := n0; have HO_Z1 := n1; have BK363 := n2; have BK371 := n3; have HI0 := n4; have HB := n5; have HK := n6; have HO384 := n7; clear n0 n1 n2 n3 n4 n5 n6 n7 ho hb hg hat
      refine hK.out _ _ ⟨(blk_cell BK371.out 0).trans rfl, (blk_cell BK371.out 1).trans rfl⟩ (fun hHeld => ?_)
      clear hK K
      refine norm_ (a' := ?_) ?_ ?_
      rotate_left
      ·
       show Act.put _ (some 36) _ = _
       simp only [Act.put, List.setIfInBounds_toArray, List.set_cons_zero, List.set_cons_succ, i64_w, i32_w]
       rfl
      refine one_ (i := 8) (N := none) #[true, true, true, true, true, true, true, true, true, false] rfl rfl (one_of HT_.out (by kernel_rfl)) (by decide) (fun K hK => ?_)
      have hs35 : w34.cell? ⟨gb363, 0, none⟩ = some (.slice none 0 0) := (blk_cell BK363.out 0).trans rfl; have hfs35 := blk_frozen BK363.out 0; have hns35_1 := NB371_363.out; have hms35_1 := NB363_371.out; have hs36 : w34.cell? ⟨gb363, 1, none⟩ = some (.slice none 0 0) := (blk_cell BK363.out 1).trans rfl; have hfs36 := blk_frozen BK363.out 1; have hns36_1 := NB371_363.out; have hms36_1 := NB363_371.out
      refine skip_ (w1 := ?_) (by rfl) rfl ?_ ?_
      rotate_left
      ·
       go_simp
       rfl
      refine hK.out _ _ ⟨((cell_far (p := ⟨gb363, _, none⟩) NB371_363.out _).trans (((cell_far (p := ⟨gb363, _, none⟩) NB371_363.out _).trans (hHeld.1)))), ((cell_far (p := ⟨gb363, _, none⟩) NB371_363.out _).trans (((cell_far (p := ⟨gb363, _, none⟩) NB371_363.out _).trans (hHeld.2))))⟩ (fun hHeld => ?_)
      clear hK K
      refine pure_ (i := 9) (N := some 3) (v := ?_) (a' := ?_) #[true, true, true, true, true, true, true, true, true, true] rfl rfl (any_of HT_.out (by kernel_rfl)) (fun _ _ _ h => h) (Or.inl ⟨by rfl, ?_⟩) ?_ ?_
      rotate_left
      ·
       intro w'
       go_simp
       with_reducible rfl
      rotate_left
      ·
       simp only [Act.put, List.setIfInBounds_toArray, List.set_cons_zero, List.set_cons_succ, i64_w, i32_w]
       rfl
      refine done_ (done_of HT_.out (by kernel_rfl)) ?_
      try go_wp2
      refine bodyPost_ret (results_ct rfl _ _ gb363 25 #[.slice Ao6 t364.length co6, .slice Ao10 t367.length co10] (0, 0) _ rfl (by (with_reducible repeat (first | refine blk_drewN ?_ _ | refine blk_drew ?_ | refine blk_alloc ?_ _)); refine blk_put (cs := #[.slice Ao6 t364.length co6, .slice none 0 0]) ?_ 1 _ rfl; (with_reducible repeat (first | refine blk_drewN ?_ _ | refine blk_drew ?_ | refine blk_alloc ?_ _)); refine blk_put (cs := #[.slice none 0 0, .slice none 0 0]) ?_ 0 _ rfl; (with_reducible repeat (first | refine blk_drewN ?_ _ | refine blk_drew ?_ | refine blk_alloc ?_ _)); exact BK363.out) Try.underlying25 rfl (by kernel_rfl)) rfl ?_
      exact ⟨_, _, _, rE, by (with_reducible repeat (first | apply Kd.Q_alloc | apply Kd.Q_drewN | apply Kd.Q_drew)); exact Kd.Q_mono (Kd.Q_far (p := ⟨gb363, 1, none⟩) (Kd.Q_far (p := ⟨gb363, 0, none⟩) (Kd.Q_types HO_Z0.out BK363.out (by decide)) (fun _ hk => hk.2) (.slice Ao6 t364.length co6)) (fun _ hk => hk.2) (.slice Ao10 t367.length co10)) (fun _ hk => ⟨hk.1.1, hk.1.2⟩), by (with_reducible repeat (first | apply Kd.R_alloc | apply Kd.R_drewN | apply Kd.R_drew)); exact Kd.R_mono (Kd.R_far (p := ⟨gb363, 1, none⟩) (Kd.R_far (p := ⟨gb363, 0, none⟩) (Kd.R_types HO_Z1.out BK363.out (by decide)) (fun _ hk => hk.2) (.slice Ao6 t364.length co6)) (fun _ hk => hk.2) (.slice Ao10 t367.length co10)) (fun _ hk => ⟨hk.1.1, hk.1.2⟩), by (with_reducible repeat (first | apply Kd.R_alloc | apply Kd.R_drewN | apply Kd.R_drew)); exact Kd.R_mono (Kd.R_far (p := ⟨gb363, 1, none⟩) (Kd.R_far (p := ⟨gb363, 0, none⟩) (Kd.R_types HO384.out BK363.out (by decide)) (fun _ hk => hk.2) (.slice Ao6 t364.length co6)) (fun _ hk => hk.2) (.slice Ao10 t367.length co10)) (fun _ hk => ⟨hk.1.1, hk.1.2⟩), by repeat (first | (with_reducible first | exact HI0.out | apply IsS73.alloc | apply IsS73.drewN | apply IsS73.drew | apply IsS73.set_1 | refine IsS73.far ?_ NB0_363.out _ | refine IsS73.far ?_ NB0_371.out _) | exact HI0.out), by repeat (first | (with_reducible first | exact HB.out | apply below_alloc | apply pw_below_drewN | apply below_drew1 | refine below_set ?_ (IsS73.ge HI0.out) | refine below_set ?_ GE363.out | refine below_set ?_ GE371.out) | exact HB.out), by repeat (first | (with_reducible first | exact HK.out | apply KeepBut.set_ | apply keep_drewN | apply keep_drew | apply keep_alloc | refine keep_far ?_ GW363.out _ | refine keep_far ?_ GW371.out _) | exact HK.out)⟩
     ·
      rw [if_neg c28] at H
      exact absurd H (by simp)
    ·
     rw [if_neg c27] at H; have c27b0 := beq_eq_false_iff_ne.mpr c27; have c27b1 := bne_iff_ne.mpr c27
     by_cases c37 : t380 = 1
     ·
      rw [if_pos c37] at H; have c37b0 := beq_iff_eq.mpr c37; have c37b1 := bne_eq_false_iff_eq.mpr c37; clear c37; obtain ⟨y385, hy385⟩ : ∃ y_ : List Int, y_ = (([(-1)] : List Int)) := ⟨_, rfl⟩; replace H : (if y385.length + x5_1.length < 17592186044416 then (some (t364, t367, (y385 ++ x5_1), t381)) else (none)) = some (r1, r2, r3, r4) := hR hy385 H; have Ny385 := Az hy385; clear hy385
      by_cases c38 : y385.length + x5_1.length < 17592186044416
      ·
       rw [if_pos c38] at H; have LMc38 := Az c38; clear c38; obtain ⟨y388, hy388⟩ : ∃ y_ : List Int, y_ = (y385 ++ x5_1) := ⟨_, rfl⟩; replace H : (some (t364, t367, y388, t381)) = some (r1, r2, r3, r4) := hR hy388 H; have Ny388 := Az hy388; clear hy388; simp only [Option.some.injEq, Prod.mk.injEq] at H; obtain ⟨rfl, rfl, rfl, rfl⟩ := H; have hnb39 := NB371_363.out; have hnc39 := NB363_371.out; have hnb40 := NB371_0.out; have hnc40 := NB0_371.out; have hcz41_0 : wr.cell? ⟨gb371, 0, none⟩ = some (.slice Ao6 t364.length co6) := (blk_cell BK371.out 0).trans rfl; have hcz41_1 : wr.cell? ⟨gb371, 1, none⟩ = some (.slice Ao10 t367.length co10) := (blk_cell BK371.out 1).trans rfl; have hfz41_0 := blk_frozen BK371.out 0; have hfz41_1 := blk_frozen BK371.out 1
       try go_wp2_with (first | ((with_reducible refine gate_callee (f := 71) rfl ?_); refine goesL_ (some 26) rfl rfl Try.func71 (by kernel_rfl) rfl #[.pointer (some ⟨g, 0, none⟩), .int .i64 30] rfl (by (try simp only [List.map_toArray, List.map_cons, List.map_nil]); first | done | rfl | (simp only [List.length_drop, List.length_take]; rfl)) ?_; (with_reducible refine (spec_l6Rd_pick.calls k1 g s0_0 x1001_1 30 t380 t381 w0 _ ?side1 ?side2 A26.out).mono ?_); (case side1 => repeat (first | (with_reducible first | exact HI0.out | apply IsS73.alloc | apply IsS73.drewN | apply IsS73.drew | apply IsS73.set_1 | refine IsS73.far ?_ NB0_363.out _ | refine IsS73.far ?_ NB0_371.out _) | exact HI0.out)); (case side2 => repeat (first | (with_reducible first | exact HB.out | apply below_alloc | apply pw_below_drewN | apply below_drew1 | refine below_set ?_ (IsS73.ge HI0.out) | refine below_set ?_ GE363.out | refine below_set ?_ GE371.out) | exact HB.out)); rintro e w42 ⟨rfl, hi, hb, hk⟩; refine ⟨_, rfl, ?_⟩; have n0 := Az (Kd.R_mono (Kd.R_keep (IsS73.apart (show IsS73 w0 _ g s0_0 x1001_1 from by repeat (first | (with_reducible first | exact HI0.out | apply IsS73.alloc | apply IsS73.drewN | apply IsS73.drew | apply IsS73.set_1 | refine IsS73.far ?_ NB0_363.out _ | refine IsS73.far ?_ NB0_371.out _) | exact HI0.out)) (rU HO_5.out) (by decide)) hk (fun _ h => h.2)) (fun _ h => h.1)); have n1 := Az (Kd.Q_mono (Kd.Q_keep (IsS73.apartQ (show IsS73 w0 _ g s0_0 x1001_1 from by repeat (first | (with_reducible first | exact HI0.out | apply IsS73.alloc | apply IsS73.drewN | apply IsS73.drew | apply IsS73.set_1 | refine IsS73.far ?_ NB0_363.out _ | refine IsS73.far ?_ NB0_371.out _) | exact HI0.out)) (qU HO_Z0.out) (by decide)) hk (fun _ h => h.2)) (fun _ h => h.1)); have n2 := Az (Kd.R_mono (Kd.R_keep (IsS73.apart (show IsS73 w0 _ g s0_0 x1001_1 from by repeat (first | (with_reducible first | exact HI0.out | apply IsS73.alloc | apply IsS73.drewN | apply IsS73.drew | apply IsS73.set_1 | refine IsS73.far ?_ NB0_363.out _ | refine IsS73.far ?_ NB0_371.out _) | exact HI0.out)) (rU HO_Z1.out) (by decide)) hk (fun _ h => h.2)) (fun _ h => h.1)); have n3 := Az (KeepBut.blk hk (g' := gb363) (o := .cells #[.slice none 0 0, .slice none 0 0] 25 (0, 0)) (kU BK363.out) NB363_0.out (by simp)); have n4 := Az (KeepBut.blk hk (g' := gb371) (o := .cells #[.slice Ao6 t364.length co6, .slice Ao10 t367.length co10] 25 (0, 0)) (kU BK371.out) NB371_0.out (by simp)); have n5 := Az (KeepBut.trans (by repeat (first | (with_reducible first | exact HK.out | apply KeepBut.set_ | apply keep_drewN | apply keep_drew | apply keep_alloc | refine keep_far ?_ GW363.out _ | refine keep_far ?_ GW371.out _) | exact HK.out)) hk (.inl rfl)); have n6 := Az (hb); have n7 := Az (hi); clear HO_5 HO_Z0 HO_Z1 BK363 BK371 HK HB HI0; have HO_5 := n0; have HO_Z0 := n1; have HO_Z1 := n2; have BK363 := n3; have BK371 := n4; have HK := n5; have HB := n6; have HI0 := n7; clear n0 n1 n2 n3 n4 n5 n6 n7; (try clear hb); (try clear hb2); (try clear hk); (try clear hi)))
       have n0 := Az (Kd.R_drew HO_5.out); have n1 := Az (Kd.Q_drew HO_Z0.out); have n2 := Az (Kd.R_drew HO_Z1.out); have n3 := Az (blk_drew BK363.out); have n4 := Az (blk_drew BK371.out); have n5 := Az (IsS73.drew HI0.out); have n6 := Az (keep_drew HK.out); have n7 := Az (below_drew1 HB.out); clear HO_5 HO_Z0 HO_Z1 BK363 BK371 HI0 HK HB; have HO_5 := n0; have HO_Z0 := n1; have HO_Z1 := n2; have BK363 := n3; have BK371 := n4; have HI0 := n5; have HK := n6; have HB := n7; clear n0 n1 n2 n3 n4 n5 n6 n7
       refine start_ (n := 6) (S := fun w' => w'.cell? ⟨gb371, 0, none⟩ = some (.slice Ao6 t364.length co6) ∧ w'.cell? ⟨gb371, 1, none⟩ = some (.slice Ao10 t367.length co10)) (ds := []) #[false, false, false, false, false, false] (by kernel_rfl) rfl rfl ⟨(blk_cell BK371.out 0).trans rfl, (blk_cell BK371.out 1).trans rfl⟩ (fun hHeld => ?_)
       generalize w42.drew = w43 at HO_5 HO_Z0 HO_Z1 BK363 BK371 HI0 HK HB hHeld ⊢
       refine pure_ (i := 2) (N := some 41) (v := ?_) (a' := ?_) #[false, false, true, false, false, false] rfl rfl (by kernel_rfl) (fun _ _ _ h => h) (Or.inl ⟨by rfl, ?_⟩) ?_ ?_
       rotate_left
       ·
        intro w'
        go_simp
        with_reducible rfl
       rotate_left
       ·
        simp only [Act.put, List.setIfInBounds_toArray, List.set_cons_zero, List.set_cons_succ, i64_w, i32_w]
        rfl
       refine take_ (i := 0) (N := some 39) (v := ?_) (a' := ?_) #[true, false, true, false, false, false] rfl rfl (by kernel_rfl) (fun _ _ _ h => h) (Or.inl ⟨by rfl, ?_⟩) hHeld ?_ ?_
       rotate_left
       ·
        rintro w' ⟨s0, s1⟩
        go_simp
        with_reducible rfl
       rotate_left
       ·
        simp only [Act.put, List.setIfInBounds_toArray, List.set_cons_zero, List.set_cons_succ, i64_w, i32_w]
        rfl
       refine one_ (i := 1) (N := some 40) #[true, true, true, false, false, false] rfl rfl (by kernel_rfl) (by decide) (fun K hK => ?_)
       refine Kd.R_lit_step (Kd.int .i64) _ 3 ?hg (N := 40) ?hd (xs := ([(-1)] : List Int)) (inner := [.int .i64 (-1)]) (ok := fun _ => True) (okp := fun _ => True) ?hr ?hp (fun _ hk => hk) trivial (Below.refl _ _) (Nat.le_refl _) (by simp) ?_; (case hd => rfl); (case hg => rfl); (case hr => first | (go_simp; done) | (go_simp; rfl)); (case hp => exact (Reps.one (show Kd.M (Kd.int .i64) _ _ _ (-1) [.int .i64 (-1)] from rfl) (Reps.none _ _)))
       intro v386 w44 ho45 hb hg_ hnew_
       clear hg_ hnew_; (first | rw [← Ny385.out] at ho45 | (simp only [Int.reduceToNat] at ho45; rw [← Ny385.out] at ho45)); have n0 := Az (Kd.R_elder' (rU HO_5.out) (Kd.R_base ho45) hb); have n1 := Az (Kd.Q_elder' (qU HO_Z0.out) (Kd.R_base ho45) hb); have n2 := Az (Kd.R_elder' (rU HO_Z1.out) (Kd.R_base ho45) hb); have n3 := Az (Kd.R_lower (Kd.R_new' (Kd.R_new' (Kd.R_new' ho45 (Kd.R_lt (rU HO_5.out))) (Kd.Q_lt (qU HO_Z0.out))) (Kd.R_lt (rU HO_Z1.out))) (keep_size (w := w) (g := g) (row := none) (by repeat (first | (with_reducible first | exact HK.out | apply KeepBut.set_ | apply keep_drewN | apply keep_drew | apply keep_alloc | refine keep_far ?_ GW363.out _ | refine keep_far ?_ GW371.out _) | exact HK.out)))); have n4 := Az (blk_below (g := gb363) (o := .cells #[.slice none 0 0, .slice none 0 0] 25 (0, 0)) (kU BK363.out) hb); have n5 := Az (blk_below (g := gb371) (o := .cells #[.slice Ao6 t364.length co6, .slice Ao10 t367.length co10] 25 (0, 0)) (kU BK371.out) hb); have n6 := Az (IsS73.below (by repeat (first | (with_reducible first | exact HI0.out | apply IsS73.alloc | apply IsS73.drewN | apply IsS73.drew | apply IsS73.set_1 | refine IsS73.far ?_ NB0_363.out _ | refine IsS73.far ?_ NB0_371.out _) | exact HI0.out)) hb); have n7 := Az (KeepBut.trans (by repeat (first | (with_reducible first | exact HK.out | apply KeepBut.set_ | apply keep_drewN | apply keep_drew | apply keep_alloc | refine keep_far ?_ GW363.out _ | refine keep_far ?_ GW371.out _) | exact HK.out)) (KeepBut.of_below hb g none) (.inl rfl)); have n8 := Az (below_step (by repeat (first | (with_reducible first | exact HB.out | apply below_alloc | apply pw_below_drewN | apply below_drew1 | refine below_set ?_ (IsS73.ge HI0.out) | refine below_set ?_ GE363.out | refine below_set ?_ GE371.out) | exact HB.out)) hb); clear HO_5 HO_Z0 HO_Z1 BK363 BK371 HI0 HK HB; have HO_5 := n0; have HO_Z0 := n1; have HO_Z1 := n2; have HO387 := n3; have BK363 := n4; have BK371 := n5; have HI0 := n6; have HK := n7; have HB := n8; clear n0 n1 n2 n3 n4 n5 n6 n7 n8 hb ho45; obtain ⟨Ao47, co47, eo47⟩ := Kd.R_slice HO_5.out; (first | subst eo47 | (injection eo47 with f1_ f2_ f3_; have f4_ := f1_.symm; have f5_ := f3_.symm; clear f1_ f2_ f3_; subst f4_; subst f5_))
       refine hK.out _ _ ⟨(blk_cell BK371.out 0).trans rfl, (blk_cell BK371.out 1).trans rfl⟩ (fun hHeld => ?_)
       clear hK K
       refine norm_ (a' := ?_) ?_ ?_
       rotate_left
       ·
        show Act.put _ (some 40) _ = _
        simp only [Act.put, List.setIfInBounds_toArray, List.set_cons_zero, List.set_cons_succ, i64_w, i32_w]
        rfl
       refine one_ (i := 3) (N := some 42) #[true, true, true, true, false, false] rfl rfl (by kernel_rfl) (by decide) (fun K hK => ?_)
       refine Kd.R_append_rows_step (Kd.int .i64) w.heap.size (by rfl) (.tmp 40) (.tmp 41) 23 3 (.int .i64 0) 8 rfl Try.underlying23 info3 rfl (by decide) (by omega) v386 y385 x5_1 _ _ _ (fun k_ => some k_ ≠ (.slice Ao47 x5_1.length co47 : Value).ownBlock ∧ some k_ ≠ (.slice Ao6 t364.length co6 : Value).ownBlock ∧ some k_ ≠ (.slice Ao10 t367.length co10 : Value).ownBlock) (fun _ => False) rfl rfl ?aO ?aR (fun _ _ h => h) (fun _ h => h.elim) ?aF (Below.refl _ _) ?aS ?aL ?_
       (case aR => exact cU ((Kd.R_reads' HO_5.out).2.2))
       (case aF => exact (fun k_ hk => ⟨Kd.fresh' (Kd.R_lt (rU HO_5.out)) k_ hk, Kd.fresh' (Kd.Q_lt (qU HO_Z0.out)) k_ hk, Kd.fresh' (Kd.R_lt (rU HO_Z1.out)) k_ hk⟩))
       (case aO => exact (by (with_reducible repeat (first | apply Kd.R_alloc | apply Kd.R_drewN | apply Kd.R_drew)); exact Kd.R_mono HO387.out (fun _ hk => ⟨hk.1.1.2, ⟨hk.1.2, hk.2⟩⟩)))
       (case aS => exact (keep_size (w := w) (g := g) (row := none) (by repeat (first | (with_reducible first | exact HK.out | apply KeepBut.set_ | apply keep_drewN | apply keep_drew | apply keep_alloc | refine keep_far ?_ GW363.out _ | refine keep_far ?_ GW371.out _) | exact HK.out))))
       (case aL => have := LMc38.out; omega)
       intro v389 w46 ho hb hg hat
       rw [← Ny388.out] at ho; have n0 := Az (Kd.R_after (ok := (fun k_ => some k_ ≠ (.slice Ao6 t364.length co6 : Value).ownBlock ∧ some k_ ≠ (.slice Ao10 t367.length co10 : Value).ownBlock)) (rU HO_5.out) hg hat); have n1 := Az (Kd.Q_after (ok := (fun k_ => some k_ ≠ (.slice Ao47 x5_1.length co47 : Value).ownBlock ∧ some k_ ≠ (.slice Ao10 t367.length co10 : Value).ownBlock)) (qU HO_Z0.out) hg hat); have n2 := Az (Kd.R_after (ok := (fun k_ => some k_ ≠ (.slice Ao47 x5_1.length co47 : Value).ownBlock ∧ some k_ ≠ (.slice Ao6 t364.length co6 : Value).ownBlock)) (rU HO_Z1.out) hg hat); have n3 := Az (blk_grown (g := gb363) (o := .cells #[.slice none 0 0, .slice none 0 0] 25 (0, 0)) (kU BK363.out) hg (Kd.R_ne HO387.out BK363.out (by decide))); have n4 := Az (blk_grown (g := gb371) (o := .cells #[.slice Ao6 t364.length co6, .slice Ao10 t367.length co10] 25 (0, 0)) (kU BK371.out) hg (Kd.R_ne HO387.out BK371.out (by decide))); have n5 := Az (IsS73.grown (by repeat (first | (with_reducible first | exact HI0.out | apply IsS73.alloc | apply IsS73.drewN | apply IsS73.drew | apply IsS73.set_1 | refine IsS73.far ?_ NB0_363.out _ | refine IsS73.far ?_ NB0_371.out _) | exact HI0.out)) hg (IsS73.own_ne HI0.out HO387.out (by decide))); have n6 := Az (below_weaken (by repeat (first | (with_reducible first | exact HB.out | apply below_alloc | apply pw_below_drewN | apply below_drew1 | refine below_set ?_ (IsS73.ge HI0.out) | refine below_set ?_ GE363.out | refine below_set ?_ GE371.out) | exact HB.out)) HL.out hb); have n7 := Az (KeepBut.trans (by repeat (first | (with_reducible first | exact HK.out | apply KeepBut.set_ | apply keep_drewN | apply keep_drew | apply keep_alloc | refine keep_far ?_ GW363.out _ | refine keep_far ?_ GW371.out _) | exact HK.out)) (KeepBut.of_grown hg g) (Kd.R_base2 HO387.out)); have n8 := Az (ho); clear HO_5 HO_Z0 HO_Z1 BK363 BK371 HI0 HB HK HO387; have HO_5 := n0; have HO_Z0 := n1; have HO_Z1 := n2; have BK363 := n3; have BK371 := n4; have HI0 := n5; have HB := n6; have HK := n7; have HO390 := n8; clear n0 n1 n2 n3 n4 n5 n6 n7 n8 ho hb hg hat
       refine hK.out _ _ ⟨(blk_cell BK371.out 0).trans rfl, (blk_cell BK371.out 1).trans rfl⟩ (fun hHeld => ?_)
       clear hK K
       refine norm_ (a' := ?_) ?_ ?_
       rotate_left
       ·
        show Act.put _ (some 42) _ = _
        simp only [Act.put, List.setIfInBounds_toArray, List.set_cons_zero, List.set_cons_succ, i64_w, i32_w]
        rfl
       refine one_ (i := 4) (N := none) #[true, true, true, true, true, false] rfl rfl (by kernel_rfl) (by decide) (fun K hK => ?_)
       have hs48 : w46.cell? ⟨gb363, 0, none⟩ = some (.slice none 0 0) := (blk_cell BK363.out 0).trans rfl; have hfs48 := blk_frozen BK363.out 0; have hns48_1 := NB371_363.out; have hms48_1 := NB363_371.out; have hs49 : w46.cell? ⟨gb363, 1, none⟩ = some (.slice none 0 0) := (blk_cell BK363.out 1).trans rfl; have hfs49 := blk_frozen BK363.out 1; have hns49_1 := NB371_363.out; have hms49_1 := NB363_371.out
       refine skip_ (w1 := ?_) (by rfl) rfl ?_ ?_
       rotate_left
       ·
        go_simp
        rfl
       refine hK.out _ _ ⟨((cell_far (p := ⟨gb363, _, none⟩) NB371_363.out _).trans (((cell_far (p := ⟨gb363, _, none⟩) NB371_363.out _).trans (hHeld.1)))), ((cell_far (p := ⟨gb363, _, none⟩) NB371_363.out _).trans (((cell_far (p := ⟨gb363, _, none⟩) NB371_363.out _).trans (hHeld.2))))⟩ (fun hHeld => ?_)
       clear hK K
       refine pure_ (i := 5) (N := some 3) (v := ?_) (a' := ?_) #[true, true, true, true, true, true] rfl rfl (by kernel_rfl) (fun _ _ _ h => h) (Or.inl ⟨by rfl, ?_⟩) ?_ ?_
       rotate_left
       ·
        intro w'
        go_simp
        with_reducible rfl
       rotate_left
       ·
        simp only [Act.put, List.setIfInBounds_toArray, List.set_cons_zero, List.set_cons_succ, i64_w, i32_w]
        rfl
       refine done_ (by kernel_rfl) ?_
       try go_wp2
       refine bodyPost_ret (results_ct rfl _ _ gb363 25 #[.slice Ao6 t364.length co6, .slice Ao10 t367.length co10] (0, 0) _ rfl (by (with_reducible repeat (first | refine blk_drewN ?_ _ | refine blk_drew ?_ | refine blk_alloc ?_ _)); refine blk_put (cs := #[.slice Ao6 t364.length co6, .slice none 0 0]) ?_ 1 _ rfl; (with_reducible repeat (first | refine blk_drewN ?_ _ | refine blk_drew ?_ | refine blk_alloc ?_ _)); refine blk_put (cs := #[.slice none 0 0, .slice none 0 0]) ?_ 0 _ rfl; (with_reducible repeat (first | refine blk_drewN ?_ _ | refine blk_drew ?_ | refine blk_alloc ?_ _)); exact BK363.out) Try.underlying25 rfl (by kernel_rfl)) rfl ?_
       exact ⟨_, _, _, rE, by (with_reducible repeat (first | apply Kd.Q_alloc | apply Kd.Q_drewN | apply Kd.Q_drew)); exact Kd.Q_mono (Kd.Q_far (p := ⟨gb363, 1, none⟩) (Kd.Q_far (p := ⟨gb363, 0, none⟩) (Kd.Q_types HO_Z0.out BK363.out (by decide)) (fun _ hk => hk.2) (.slice Ao6 t364.length co6)) (fun _ hk => hk.2) (.slice Ao10 t367.length co10)) (fun _ hk => ⟨hk.1.1.2, hk.1.2⟩), by (with_reducible repeat (first | apply Kd.R_alloc | apply Kd.R_drewN | apply Kd.R_drew)); exact Kd.R_mono (Kd.R_far (p := ⟨gb363, 1, none⟩) (Kd.R_far (p := ⟨gb363, 0, none⟩) (Kd.R_types HO_Z1.out BK363.out (by decide)) (fun _ hk => hk.2) (.slice Ao6 t364.length co6)) (fun _ hk => hk.2) (.slice Ao10 t367.length co10)) (fun _ hk => ⟨hk.1.1.2, hk.1.2⟩), by (with_reducible repeat (first | apply Kd.R_alloc | apply Kd.R_drewN | apply Kd.R_drew)); exact Kd.R_mono (Kd.R_far (p := ⟨gb363, 1, none⟩) (Kd.R_far (p := ⟨gb363, 0, none⟩) (Kd.R_types HO390.out BK363.out (by decide)) (fun _ hk => hk.2) (.slice Ao6 t364.length co6)) (fun _ hk => hk.2) (.slice Ao10 t367.length co10)) (fun _ hk => ⟨hk.1.2.1, hk.1.2.2⟩), by repeat (first | (with_reducible first | exact HI0.out | apply IsS73.alloc | apply IsS73.drewN | apply IsS73.drew | apply IsS73.set_1 | refine IsS73.far ?_ NB0_363.out _ | refine IsS73.far ?_ NB0_371.out _) | exact HI0.out), by repeat (first | (with_reducible first | exact HB.out | apply below_alloc | apply pw_below_drewN | apply below_drew1 | refine below_set ?_ (IsS73.ge HI0.out) | refine below_set ?_ GE363.out | refine below_set ?_ GE371.out) | exact HB.out), by repeat (first | (with_reducible first | exact HK.out | apply KeepBut.set_ | apply keep_drewN | apply keep_drew | apply keep_alloc | refine keep_far ?_ GW363.out _ | refine keep_far ?_ GW371.out _) | exact HK.out)⟩
      ·
       rw [if_neg c38] at H
       exact absurd H (by simp)
     ·
      rw [if_neg c37] at H; have c37b0 := beq_eq_false_iff_ne.mpr c37; have c37b1 := bne_iff_ne.mpr c37
      by_cases c50 : t380 = 2
      ·
       rw [if_pos c50] at H; have c50b0 := beq_iff_eq.mpr c50; have c50b1 := bne_eq_false_iff_eq.mpr c50; clear c50
       by_cases c51 : x5_1.length + x5_1.length < 17592186044416
       ·
        rw [if_pos c51] at H; have LMc51 := Az c51; clear c51; obtain ⟨y391, hy391⟩ : ∃ y_ : List Int, y_ = (x5_1 ++ x5_1) := ⟨_, rfl⟩; replace H : (some (t364, t367, y391, t381)) = some (r1, r2, r3, r4) := hR hy391 H; have Ny391 := Az hy391; clear hy391; simp only [Option.some.injEq, Prod.mk.injEq] at H; obtain ⟨rfl, rfl, rfl, rfl⟩ := H; have hnb52 := NB371_363.out; have hnc52 := NB363_371.out; have hnb53 := NB371_0.out; have hnc53 := NB0_371.out; have hcz54_0 : wr.cell? ⟨gb371, 0, none⟩ = some (.slice Ao6 t364.length co6) := (blk_cell BK371.out 0).trans rfl; have hcz54_1 : wr.cell? ⟨gb371, 1, none⟩ = some (.slice Ao10 t367.length co10) := (blk_cell BK371.out 1).trans rfl; have hfz54_0 := blk_frozen BK371.out 0; have hfz54_1 := blk_frozen BK371.out 1
        try go_wp2_with (first | ((with_reducible refine gate_callee (f := 71) rfl ?_); refine goesL_ (some 26) rfl rfl Try.func71 (by kernel_rfl) rfl #[.pointer (some ⟨g, 0, none⟩), .int .i64 30] rfl (by (try simp only [List.map_toArray, List.map_cons, List.map_nil]); first | done | rfl | (simp only [List.length_drop, List.length_take]; rfl)) ?_; (with_reducible refine (spec_l6Rd_pick.calls k1 g s0_0 x1001_1 30 t380 t381 w0 _ ?side1 ?side2 A26.out).mono ?_); (case side1 => repeat (first | (with_reducible first | exact HI0.out | apply IsS73.alloc | apply IsS73.drewN | apply IsS73.drew | apply IsS73.set_1 | refine IsS73.far ?_ NB0_363.out _ | refine IsS73.far ?_ NB0_371.out _) | exact HI0.out)); (case side2 => repeat (first | (with_reducible first | exact HB.out | apply below_alloc | apply pw_below_drewN | apply below_drew1 | refine below_set ?_ (IsS73.ge HI0.out) | refine below_set ?_ GE363.out | refine below_set ?_ GE371.out) | exact HB.out)); rintro e w55 ⟨rfl, hi, hb, hk⟩; refine ⟨_, rfl, ?_⟩; have n0 := Az (Kd.R_mono (Kd.R_keep (IsS73.apart (show IsS73 w0 _ g s0_0 x1001_1 from by repeat (first | (with_reducible first | exact HI0.out | apply IsS73.alloc | apply IsS73.drewN | apply IsS73.drew | apply IsS73.set_1 | refine IsS73.far ?_ NB0_363.out _ | refine IsS73.far ?_ NB0_371.out _) | exact HI0.out)) (rU HO_5.out) (by decide)) hk (fun _ h => h.2)) (fun _ h => h.1)); have n1 := Az (Kd.Q_mono (Kd.Q_keep (IsS73.apartQ (show IsS73 w0 _ g s0_0 x1001_1 from by repeat (first | (with_reducible first | exact HI0.out | apply IsS73.alloc | apply IsS73.drewN | apply IsS73.drew | apply IsS73.set_1 | refine IsS73.far ?_ NB0_363.out _ | refine IsS73.far ?_ NB0_371.out _) | exact HI0.out)) (qU HO_Z0.out) (by decide)) hk (fun _ h => h.2)) (fun _ h => h.1)); have n2 := Az (Kd.R_mono (Kd.R_keep (IsS73.apart (show IsS73 w0 _ g s0_0 x1001_1 from by repeat (first | (with_reducible first | exact HI0.out | apply IsS73.alloc | apply IsS73.drewN | apply IsS73.drew | apply IsS73.set_1 | refine IsS73.far ?_ NB0_363.out _ | refine IsS73.far ?_ NB0_371.out _) | exact HI0.out)) (rU HO_Z1.out) (by decide)) hk (fun _ h => h.2)) (fun _ h => h.1)); have n3 := Az (KeepBut.blk hk (g' := gb363) (o := .cells #[.slice none 0 0, .slice none 0 0] 25 (0, 0)) (kU BK363.out) NB363_0.out (by simp)); have n4 := Az (KeepBut.blk hk (g' := gb371) (o := .cells #[.slice Ao6 t364.length co6, .slice Ao10 t367.length co10] 25 (0, 0)) (kU BK371.out) NB371_0.out (by simp)); have n5 := Az (KeepBut.trans (by repeat (first | (with_reducible first | exact HK.out | apply KeepBut.set_ | apply keep_drewN | apply keep_drew | apply keep_alloc | refine keep_far ?_ GW363.out _ | refine keep_far ?_ GW371.out _) | exact HK.out)) hk (.inl rfl)); have n6 := Az (hb); have n7 := Az (hi); clear HO_5 HO_Z0 HO_Z1 BK363 BK371 HK HB HI0; have HO_5 := n0; have HO_Z0 := n1; have HO_Z1 := n2; have BK363 := n3; have BK371 := n4; have HK := n5; have HB := n6; have HI0 := n7; clear n0 n1 n2 n3 n4 n5 n6 n7; (try clear hb); (try clear hb2); (try clear hk); (try clear hi)))
        have n0 := Az (Kd.R_drew HO_5.out); have n1 := Az (Kd.Q_drew HO_Z0.out); have n2 := Az (Kd.R_drew HO_Z1.out); have n3 := Az (blk_drew BK363.out); have n4 := Az (blk_drew BK371.out); have n5 := Az (IsS73.drew HI0.out); have n6 := Az (keep_drew HK.out); have n7 := Az (below_drew1 HB.out); clear HO_5 HO_Z0 HO_Z1 BK363 BK371 HI0 HK HB; have HO_5 := n0; have HO_Z0 := n1; have HO_Z1 := n2; have BK363 := n3; have BK371 := n4; have HI0 := n5; have HK := n6; have HB := n7; clear n0 n1 n2 n3 n4 n5 n6 n7; obtain ⟨Ao58, co58, eo58⟩ := Kd.R_slice HO_5.out; (first | subst eo58 | (injection eo58 with f1_ f2_ f3_; have f4_ := f1_.symm; have f5_ := f3_.symm; clear f1_ f2_ f3_; subst f4_; subst f5_))
        refine start_ (n := 6) (S := fun w' => w'.cell? ⟨gb371, 0, none⟩ = some (.slice Ao6 t364.length co6) ∧ w'.cell? ⟨gb371, 1, none⟩ = some (.slice Ao10 t367.length co10)) (ds := []) #[false, false, false, false, false, false] (by kernel_rfl) rfl rfl ⟨(blk_cell BK371.out 0).trans rfl, (blk_cell BK371.out 1).trans rfl⟩ (fun hHeld => ?_)
        generalize w55.drew = w56 at HO_5 HO_Z0 HO_Z1 BK363 BK371 HI0 HK HB hHeld ⊢
        refine pure_ (i := 1) (N := some 46) (v := ?_) (a' := ?_) #[false, true, false, false, false, false] rfl rfl (by kernel_rfl) (fun _ _ _ h => h) (Or.inl ⟨by rfl, ?_⟩) ?_ ?_
        rotate_left
        ·
         intro w'
         go_simp
         with_reducible rfl
        rotate_left
        ·
         simp only [Act.put, List.setIfInBounds_toArray, List.set_cons_zero, List.set_cons_succ, i64_w, i32_w]
         rfl
        refine pure_ (i := 2) (N := some 47) (v := ?_) (a' := ?_) #[false, true, true, false, false, false] rfl rfl (by kernel_rfl) (fun _ _ _ h => h) (Or.inl ⟨by rfl, ?_⟩) ?_ ?_
        rotate_left
        ·
         intro w'
         go_simp
         with_reducible rfl
        rotate_left
        ·
         simp only [Act.put, List.setIfInBounds_toArray, List.set_cons_zero, List.set_cons_succ, i64_w, i32_w]
         rfl
        refine take_ (i := 0) (N := some 45) (v := ?_) (a' := ?_) #[true, true, true, false, false, false] rfl rfl (by kernel_rfl) (fun _ _ _ h => h) (Or.inl ⟨by rfl, ?_⟩) hHeld ?_ ?_
        rotate_left
        ·
         rintro w' ⟨s0, s1⟩
         go_simp
         with_reducible rfl
        rotate_left
        ·
         simp only [Act.put, List.setIfInBounds_toArray, List.set_cons_zero, List.set_cons_succ, i64_w, i32_w]
         rfl
        refine one_ (i := 3) (N := some 48) #[true, true, true, true, false, false] rfl rfl (by kernel_rfl) (by decide) (fun K hK => ?_)
        refine Kd.R_append_rows_step (Kd.int .i64) w.heap.size (by rfl) (.tmp 46) (.tmp 47) 23 3 (.int .i64 0) 8 rfl Try.underlying23 info3 rfl (by decide) (by omega) (.slice Ao58 x5_1.length co58) x5_1 x5_1 _ _ _ (fun k_ => some k_ ≠ (.slice Ao6 t364.length co6 : Value).ownBlock ∧ some k_ ≠ (.slice Ao10 t367.length co10 : Value).ownBlock) (fun _ => False) rfl rfl ?aO ?aR (fun _ _ h => h) (fun _ h => h.elim) ?aF (Below.refl _ _) ?aS ?aL ?_
        (case aR => exact cU ((Kd.R_reads' HO_5.out).2.2))
        (case aF => exact (fun k_ hk => ⟨Kd.fresh' (Kd.Q_lt (qU HO_Z0.out)) k_ hk, Kd.fresh' (Kd.R_lt (rU HO_Z1.out)) k_ hk⟩))
        (case aO => exact (rU HO_5.out))
        (case aS => exact (keep_size (w := w) (g := g) (row := none) (by repeat (first | (with_reducible first | exact HK.out | apply KeepBut.set_ | apply keep_drewN | apply keep_drew | apply keep_alloc | refine keep_far ?_ GW363.out _ | refine keep_far ?_ GW371.out _) | exact HK.out))))
        (case aL => have := LMc51.out; omega)
        intro v392 w57 ho hb hg hat
        rw [← Ny391.out] at ho; have n0 := Az (Kd.Q_after (ok := (fun k_ => some k_ ≠ (.slice Ao10 t367.length co10 : Value).ownBlock)) (by (with_reducible repeat (first | apply Kd.Q_alloc | apply Kd.Q_drewN | apply Kd.Q_drew)); exact Kd.Q_mono HO_Z0.out (fun _ hk => ⟨hk.2, hk.1⟩)) hg hat); have n1 := Az (Kd.R_after (ok := (fun k_ => some k_ ≠ (.slice Ao6 t364.length co6 : Value).ownBlock)) (by (with_reducible repeat (first | apply Kd.R_alloc | apply Kd.R_drewN | apply Kd.R_drew)); exact Kd.R_mono HO_Z1.out (fun _ hk => ⟨hk.2, hk.1⟩)) hg hat); have n2 := Az (blk_grown (g := gb363) (o := .cells #[.slice none 0 0, .slice none 0 0] 25 (0, 0)) (kU BK363.out) hg (Kd.R_ne HO_5.out BK363.out (by decide))); have n3 := Az (blk_grown (g := gb371) (o := .cells #[.slice Ao6 t364.length co6, .slice Ao10 t367.length co10] 25 (0, 0)) (kU BK371.out) hg (Kd.R_ne HO_5.out BK371.out (by decide))); have n4 := Az (IsS73.grown (by repeat (first | (with_reducible first | exact HI0.out | apply IsS73.alloc | apply IsS73.drewN | apply IsS73.drew | apply IsS73.set_1 | refine IsS73.far ?_ NB0_363.out _ | refine IsS73.far ?_ NB0_371.out _) | exact HI0.out)) hg (IsS73.own_ne HI0.out HO_5.out (by decide))); have n5 := Az (below_weaken (by repeat (first | (with_reducible first | exact HB.out | apply below_alloc | apply pw_below_drewN | apply below_drew1 | refine below_set ?_ (IsS73.ge HI0.out) | refine below_set ?_ GE363.out | refine below_set ?_ GE371.out) | exact HB.out)) HL.out hb); have n6 := Az (KeepBut.trans (by repeat (first | (with_reducible first | exact HK.out | apply KeepBut.set_ | apply keep_drewN | apply keep_drew | apply keep_alloc | refine keep_far ?_ GW363.out _ | refine keep_far ?_ GW371.out _) | exact HK.out)) (KeepBut.of_grown hg g) (Kd.R_base2 HO_5.out)); have n7 := Az (ho); clear HO_Z0 HO_Z1 BK363 BK371 HI0 HB HK HO_5; have HO_Z0 := n0; have HO_Z1 := n1; have BK363 := n2; have BK371 := n3; have HI0 := n4; have HB := n5; have HK := n6; have HO393 := n7; clear n0 n1 n2 n3 n4 n5 n6 n7 ho hb hg hat
        refine hK.out _ _ ⟨(blk_cell BK371.out 0).trans rfl, (blk_cell BK371.out 1).trans rfl⟩ (fun hHeld => ?_)
        clear hK K
        refine norm_ (a' := ?_) ?_ ?_
        rotate_left
        ·
         show Act.put _ (some 48) _ = _
         simp only [Act.put, List.setIfInBounds_toArray, List.set_cons_zero, List.set_cons_succ, i64_w, i32_w]
         rfl
        refine one_ (i := 4) (N := none) #[true, true, true, true, true, false] rfl rfl (by kernel_rfl) (by decide) (fun K hK => ?_)
        have hs59 : w57.cell? ⟨gb363, 0, none⟩ = some (.slice none 0 0) := (blk_cell BK363.out 0).trans rfl; have hfs59 := blk_frozen BK363.out 0; have hns59_1 := NB371_363.out; have hms59_1 := NB363_371.out; have hs60 : w57.cell? ⟨gb363, 1, none⟩ = some (.slice none 0 0) := (blk_cell BK363.out 1).trans rfl; have hfs60 := blk_frozen BK363.out 1; have hns60_1 := NB371_363.out; have hms60_1 := NB363_371.out
        refine skip_ (w1 := ?_) (by rfl) rfl ?_ ?_
        rotate_left
        ·
         go_simp
         rfl
        refine hK.out _ _ ⟨((cell_far (p := ⟨gb363, _, none⟩) NB371_363.out _).trans (((cell_far (p := ⟨gb363, _, none⟩) NB371_363.out _).trans (hHeld.1)))), ((cell_far (p := ⟨gb363, _, none⟩) NB371_363.out _).trans (((cell_far (p := ⟨gb363, _, none⟩) NB371_363.out _).trans (hHeld.2))))⟩ (fun hHeld => ?_)
        clear hK K
        refine pure_ (i := 5) (N := some 3) (v := ?_) (a' := ?_) #[true, true, true, true, true, true] rfl rfl (by kernel_rfl) (fun _ _ _ h => h) (Or.inl ⟨by rfl, ?_⟩) ?_ ?_
        rotate_left
        ·
         intro w'
         go_simp
         with_reducible rfl
        rotate_left
        ·
         simp only [Act.put, List.setIfInBounds_toArray, List.set_cons_zero, List.set_cons_succ, i64_w, i32_w]
         rfl
        refine done_ (by kernel_rfl) ?_
        try go_wp2
        refine bodyPost_ret (results_ct rfl _ _ gb363 25 #[.slice Ao6 t364.length co6, .slice Ao10 t367.length co10] (0, 0) _ rfl (by (with_reducible repeat (first | refine blk_drewN ?_ _ | refine blk_drew ?_ | refine blk_alloc ?_ _)); refine blk_put (cs := #[.slice Ao6 t364.length co6, .slice none 0 0]) ?_ 1 _ rfl; (with_reducible repeat (first | refine blk_drewN ?_ _ | refine blk_drew ?_ | refine blk_alloc ?_ _)); refine blk_put (cs := #[.slice none 0 0, .slice none 0 0]) ?_ 0 _ rfl; (with_reducible repeat (first | refine blk_drewN ?_ _ | refine blk_drew ?_ | refine blk_alloc ?_ _)); exact BK363.out) Try.underlying25 rfl (by kernel_rfl)) rfl ?_
        exact ⟨_, _, _, rE, by (with_reducible repeat (first | apply Kd.Q_alloc | apply Kd.Q_drewN | apply Kd.Q_drew)); exact Kd.Q_mono (Kd.Q_far (p := ⟨gb363, 1, none⟩) (Kd.Q_far (p := ⟨gb363, 0, none⟩) (Kd.Q_types HO_Z0.out BK363.out (by decide)) (fun _ hk => hk.2) (.slice Ao6 t364.length co6)) (fun _ hk => hk.2) (.slice Ao10 t367.length co10)) (fun _ hk => ⟨hk.1.1, hk.1.2⟩), by (with_reducible repeat (first | apply Kd.R_alloc | apply Kd.R_drewN | apply Kd.R_drew)); exact Kd.R_mono (Kd.R_far (p := ⟨gb363, 1, none⟩) (Kd.R_far (p := ⟨gb363, 0, none⟩) (Kd.R_types HO_Z1.out BK363.out (by decide)) (fun _ hk => hk.2) (.slice Ao6 t364.length co6)) (fun _ hk => hk.2) (.slice Ao10 t367.length co10)) (fun _ hk => ⟨hk.1.1, hk.1.2⟩), by (with_reducible repeat (first | apply Kd.R_alloc | apply Kd.R_drewN | apply Kd.R_drew)); exact Kd.R_mono (Kd.R_far (p := ⟨gb363, 1, none⟩) (Kd.R_far (p := ⟨gb363, 0, none⟩) (Kd.R_types HO393.out BK363.out (by decide)) (fun _ hk => hk.2) (.slice Ao6 t364.length co6)) (fun _ hk => hk.2) (.slice Ao10 t367.length co10)) (fun _ hk => ⟨hk.1.1, hk.1.2⟩), by repeat (first | (with_reducible first | exact HI0.out | apply IsS73.alloc | apply IsS73.drewN | apply IsS73.drew | apply IsS73.set_1 | refine IsS73.far ?_ NB0_363.out _ | refine IsS73.far ?_ NB0_371.out _) | exact HI0.out), by repeat (first | (with_reducible first | exact HB.out | apply below_alloc | apply pw_below_drewN | apply below_drew1 | refine below_set ?_ (IsS73.ge HI0.out) | refine below_set ?_ GE363.out | refine below_set ?_ GE371.out) | exact HB.out), by repeat (first | (with_reducible first | exact HK.out | apply KeepBut.set_ | apply keep_drewN | apply keep_drew | apply keep_alloc | refine keep_far ?_ GW363.out _ | refine keep_far ?_ GW371.out _) | exact HK.out)⟩
       ·
        rw [if_neg c51] at H
        exact absurd H (by simp)
      ·
       rw [if_neg c50] at H; have c50b0 := beq_eq_false_iff_ne.mpr c50; have c50b1 := bne_iff_ne.mpr c50; simp only [Option.some.injEq, Prod.mk.injEq] at H; obtain ⟨rfl, rfl, rfl, rfl⟩ := H; have hnb61 := NB371_363.out; have hnc61 := NB363_371.out; have hnb62 := NB371_0.out; have hnc62 := NB0_371.out; have hcz63_0 : wr.cell? ⟨gb371, 0, none⟩ = some (.slice Ao6 t364.length co6) := (blk_cell BK371.out 0).trans rfl; have hcz63_1 : wr.cell? ⟨gb371, 1, none⟩ = some (.slice Ao10 t367.length co10) := (blk_cell BK371.out 1).trans rfl; have hfz63_0 := blk_frozen BK371.out 0; have hfz63_1 := blk_frozen BK371.out 1
       go_wp2_with (first | ((with_reducible refine gate_callee (f := 71) rfl ?_); refine goesL_ (some 26) rfl rfl Try.func71 (by kernel_rfl) rfl #[.pointer (some ⟨g, 0, none⟩), .int .i64 30] rfl (by (try simp only [List.map_toArray, List.map_cons, List.map_nil]); first | done | rfl | (simp only [List.length_drop, List.length_take]; rfl)) ?_; (with_reducible refine (spec_l6Rd_pick.calls k1 g s0_0 x1001_1 30 t380 t381 w0 _ ?side1 ?side2 A26.out).mono ?_); (case side1 => repeat (first | (with_reducible first | exact HI0.out | apply IsS73.alloc | apply IsS73.drewN | apply IsS73.drew | apply IsS73.set_1 | refine IsS73.far ?_ NB0_363.out _ | refine IsS73.far ?_ NB0_371.out _) | exact HI0.out)); (case side2 => repeat (first | (with_reducible first | exact HB.out | apply below_alloc | apply pw_below_drewN | apply below_drew1 | refine below_set ?_ (IsS73.ge HI0.out) | refine below_set ?_ GE363.out | refine below_set ?_ GE371.out) | exact HB.out)); rintro e w64 ⟨rfl, hi, hb, hk⟩; refine ⟨_, rfl, ?_⟩; have n0 := Az (Kd.R_mono (Kd.R_keep (IsS73.apart (show IsS73 w0 _ g s0_0 x1001_1 from by repeat (first | (with_reducible first | exact HI0.out | apply IsS73.alloc | apply IsS73.drewN | apply IsS73.drew | apply IsS73.set_1 | refine IsS73.far ?_ NB0_363.out _ | refine IsS73.far ?_ NB0_371.out _) | exact HI0.out)) (rU HO_5.out) (by decide)) hk (fun _ h => h.2)) (fun _ h => h.1)); have n1 := Az (Kd.Q_mono (Kd.Q_keep (IsS73.apartQ (show IsS73 w0 _ g s0_0 x1001_1 from by repeat (first | (with_reducible first | exact HI0.out | apply IsS73.alloc | apply IsS73.drewN | apply IsS73.drew | apply IsS73.set_1 | refine IsS73.far ?_ NB0_363.out _ | refine IsS73.far ?_ NB0_371.out _) | exact HI0.out)) (qU HO_Z0.out) (by decide)) hk (fun _ h => h.2)) (fun _ h => h.1)); have n2 := Az (Kd.R_mono (Kd.R_keep (IsS73.apart (show IsS73 w0 _ g s0_0 x1001_1 from by repeat (first | (with_reducible first | exact HI0.out | apply IsS73.alloc | apply IsS73.drewN | apply IsS73.drew | apply IsS73.set_1 | refine IsS73.far ?_ NB0_363.out _ | refine IsS73.far ?_ NB0_371.out _) | exact HI0.out)) (rU HO_Z1.out) (by decide)) hk (fun _ h => h.2)) (fun _ h => h.1)); have n3 := Az (KeepBut.blk hk (g' := gb363) (o := .cells #[.slice none 0 0, .slice none 0 0] 25 (0, 0)) (kU BK363.out) NB363_0.out (by simp)); have n4 := Az (KeepBut.blk hk (g' := gb371) (o := .cells #[.slice Ao6 t364.length co6, .slice Ao10 t367.length co10] 25 (0, 0)) (kU BK371.out) NB371_0.out (by simp)); have n5 := Az (KeepBut.trans (by repeat (first | (with_reducible first | exact HK.out | apply KeepBut.set_ | apply keep_drewN | apply keep_drew | apply keep_alloc | refine keep_far ?_ GW363.out _ | refine keep_far ?_ GW371.out _) | exact HK.out)) hk (.inl rfl)); have n6 := Az (hb); have n7 := Az (hi); clear HO_5 HO_Z0 HO_Z1 BK363 BK371 HK HB HI0; have HO_5 := n0; have HO_Z0 := n1; have HO_Z1 := n2; have BK363 := n3; have BK371 := n4; have HK := n5; have HB := n6; have HI0 := n7; clear n0 n1 n2 n3 n4 n5 n6 n7; (try clear hb); (try clear hb2); (try clear hk); (try clear hi); have hcz65_0 : w64.cell? ⟨gb371, 0, none⟩ = some (.slice Ao6 t364.length co6) := (blk_cell BK371.out 0).trans rfl; have hcz65_1 : w64.cell? ⟨gb371, 1, none⟩ = some (.slice Ao10 t367.length co10) := (blk_cell BK371.out 1).trans rfl; have hfz65_0 := blk_frozen BK371.out 0; have hfz65_1 := blk_frozen BK371.out 1; have hnb66 := NB363_0.out; have hnc66 := NB0_363.out; have hcz67_0 : w64.cell? ⟨gb363, 0, none⟩ = some (.slice none 0 0) := (blk_cell BK363.out 0).trans rfl; have hcz67_1 : w64.cell? ⟨gb363, 1, none⟩ = some (.slice none 0 0) := (blk_cell BK363.out 1).trans rfl; have hfz67_0 := blk_frozen BK363.out 0; have hfz67_1 := blk_frozen BK363.out 1))
       refine bodyPost_ret (results_ct rfl _ _ gb363 25 #[.slice Ao6 t364.length co6, .slice Ao10 t367.length co10] (0, 0) _ rfl (by (with_reducible repeat (first | refine blk_drewN ?_ _ | refine blk_drew ?_ | refine blk_alloc ?_ _)); refine blk_put (cs := #[.slice Ao6 t364.length co6, .slice none 0 0]) ?_ 1 _ rfl; (with_reducible repeat (first | refine blk_drewN ?_ _ | refine blk_drew ?_ | refine blk_alloc ?_ _)); refine blk_put (cs := #[.slice none 0 0, .slice none 0 0]) ?_ 0 _ rfl; (with_reducible repeat (first | refine blk_drewN ?_ _ | refine blk_drew ?_ | refine blk_alloc ?_ _)); exact BK363.out) Try.underlying25 rfl (by kernel_rfl)) rfl ?_
       exact ⟨_, _, _, rE, by (with_reducible repeat (first | apply Kd.Q_alloc | apply Kd.Q_drewN | apply Kd.Q_drew)); exact Kd.Q_mono (Kd.Q_far (p := ⟨gb363, 1, none⟩) (Kd.Q_far (p := ⟨gb363, 0, none⟩) (Kd.Q_types HO_Z0.out BK363.out (by decide)) (fun _ hk => hk.2) (.slice Ao6 t364.length co6)) (fun _ hk => hk.2) (.slice Ao10 t367.length co10)) (fun _ hk => ⟨hk.1.2, hk.1.1⟩), by (with_reducible repeat (first | apply Kd.R_alloc | apply Kd.R_drewN | apply Kd.R_drew)); exact Kd.R_mono (Kd.R_far (p := ⟨gb363, 1, none⟩) (Kd.R_far (p := ⟨gb363, 0, none⟩) (Kd.R_types HO_Z1.out BK363.out (by decide)) (fun _ hk => hk.2) (.slice Ao6 t364.length co6)) (fun _ hk => hk.2) (.slice Ao10 t367.length co10)) (fun _ hk => ⟨hk.1.2, hk.1.1⟩), by (with_reducible repeat (first | apply Kd.R_alloc | apply Kd.R_drewN | apply Kd.R_drew)); exact Kd.R_mono (Kd.R_far (p := ⟨gb363, 1, none⟩) (Kd.R_far (p := ⟨gb363, 0, none⟩) (Kd.R_types HO_5.out BK363.out (by decide)) (fun _ hk => hk.2) (.slice Ao6 t364.length co6)) (fun _ hk => hk.2) (.slice Ao10 t367.length co10)) (fun _ hk => ⟨hk.1.1, hk.1.2⟩), by repeat (first | (with_reducible first | exact HI0.out | apply IsS73.alloc | apply IsS73.drewN | apply IsS73.drew | apply IsS73.set_1 | refine IsS73.far ?_ NB0_363.out _ | refine IsS73.far ?_ NB0_371.out _) | exact HI0.out), by repeat (first | (with_reducible first | exact HB.out | apply below_alloc | apply pw_below_drewN | apply below_drew1 | refine below_set ?_ (IsS73.ge HI0.out) | refine below_set ?_ GE363.out | refine below_set ?_ GE371.out) | exact HB.out), by repeat (first | (with_reducible first | exact HK.out | apply KeepBut.set_ | apply keep_drewN | apply keep_drew | apply keep_alloc | refine keep_far ?_ GW363.out _ | refine keep_far ?_ GW371.out _) | exact HK.out)⟩
def spec_l6Open.f (l0 : List Int) : Option (List Int × Int) := if (l0.length : Int) > 2000 then (if 2000 ≤ (l0.length : Int) then (some (l0.take 2000, 0)) else (none)) else (some (l0, 0))
set_option maxHeartbeats 8000000 in
set_option maxRecDepth 100000 in
theorem spec_l6Open.calls (A0 : Option Addr) (c0 : Nat) (l0 : List Int) (r1 : List Int) (r2 : Int) (w0 w : World) (hB : Below w0.heap.size w0 w) (hr0 : Kd.C (Kd.int .u8) w0 A0 l0.length l0) (hc0 : l0.length ≤ c0) (h : spec_l6Open.f l0 = some (r1, r2)) :
  Calls Try.prog 58 #[.slice A0 l0.length c0] w fun e w' => ∃ g_ : Nat, e = .returned (.pointer (some ⟨g_, 0, none⟩)) ∧ IsS73 w0 w' g_ r1 r2 ∧ Below w0.heap.size w0 w' ∧ Below w.heap.size w w' := by
 have hu73 := Try.underlying73; have HR0 := Az hr0; have HC0 := Az hc0; clear hr0 hc0; have HBW := Az (Below.refl w.heap.size w); have HW0 := Az hB.size; have HB := Az hB; clear hB; have H : (if (l0.length : Int) > 2000 then (if 2000 ≤ (l0.length : Int) then (some (l0.take 2000, 0)) else (none)) else (some (l0, 0))) = some (r1, r2) := h; clear h
 by_cases c2 : (l0.length : Int) > 2000
 ·
  rw [if_pos c2] at H; have c2b0 := decide_eq_true c2; have c2b1 : decide (2000 < l0.length) = true := decide_eq_true (by omega); clear c2
  by_cases c3 : 2000 ≤ (l0.length : Int)
  ·
   rw [if_pos c3] at H; have c3b0 := eq_true c3; have c3b1 := decide_eq_true c3; clear c3; simp only [Option.some.injEq, Prod.mk.injEq] at H; obtain ⟨rfl, rfl⟩ := H; obtain ⟨i04, hi04, _, hsz4, _⟩ := info_parts info5; obtain ⟨hcut4, hA4, hC4⟩ := print_take_of (P := Try.prog) (Value.int .u8) 0 22 5 .i64 Try.underlying22 hi04 hsz4 A0 c0 l0 2000 (by omega) (oA) HC0.out; have HR394 := Az (Kd.C_of_reads (h1 := fun _ => rfl) (hA4 _ (Kd.reads_of_C HR0.out))); have HC394 := Az hC4; clear hA4 hC4 hi04 hsz4
   go_enter Try.func58, Try.ntmps58
   go_wp2_with (first | ((with_reducible refine gate_dst (N := 10) rfl ?_); refine box_event ?hg (N := 10) ?hd (cs := #[.slice A0 (l0.take 2000).length c0, .int .i64 0]) (t := 73) ?hr ?_; (case hd => rfl); (case hg => rfl); (case hr => first | (go_simp; done) | (go_simp; rfl)); intro gb395 hg w5 hbox hb; have n0 := Az (below_step HBW.out hb); have n1 := Az (below_step (bU0 HB.out) hb); have n2 := Az (hbox); have n3 := Az ((by rw [hg]; exact (below_size (by repeat (first | (with_reducible first | exact HBW.out | apply below_alloc | apply pw_below_drewN | apply below_drew1) | exact HBW.out))) : w.heap.size ≤ gb395)); have n4 := Az ((Nat.le_trans HW0.out (by rw [hg]; exact (below_size (by repeat (first | (with_reducible first | exact HBW.out | apply below_alloc | apply pw_below_drewN | apply below_drew1) | exact HBW.out))) : w.heap.size ≤ gb395) : w0.heap.size ≤ gb395)); clear HBW HB; have HBW := n0; have HB := n1; have BK395 := n2; have GW395 := n3; have GE395 := n4; clear n0 n1 n2 n3 n4; clear hb hbox hg))
   go_ret
   exact ⟨_, rfl, (show IsS73 w0 _ gb395 (l0.take 2000) 0 from ⟨_, _, kU BK395.out, GE395.out, HR394.out⟩), bU1 HB.out GE395.out, by repeat (first | (with_reducible first | exact HBW.out | apply below_alloc | apply pw_below_drewN | apply below_drew1 | refine below_set ?_ GW395.out) | exact HBW.out)⟩
  ·
   rw [if_neg c3] at H
   exact absurd H (by simp)
 ·
  rw [if_neg c2] at H; have c2b0 := decide_eq_false c2; have c2b1 : decide (2000 < l0.length) = false := decide_eq_false (by omega); clear c2; simp only [Option.some.injEq, Prod.mk.injEq] at H; obtain ⟨rfl, rfl⟩ := H
  go_enter Try.func58, Try.ntmps58
  go_wp2_with (first | ((with_reducible refine gate_dst (N := 10) rfl ?_); refine box_event ?hg (N := 10) ?hd (cs := #[.slice A0 l0.length c0, .int .i64 0]) (t := 73) ?hr ?_; (case hd => rfl); (case hg => rfl); (case hr => first | (go_simp; done) | (go_simp; rfl)); intro gb396 hg w6 hbox hb; have n0 := Az (below_step HBW.out hb); have n1 := Az (below_step (bU0 HB.out) hb); have n2 := Az (hbox); have n3 := Az ((by rw [hg]; exact (below_size (by repeat (first | (with_reducible first | exact HBW.out | apply below_alloc | apply pw_below_drewN | apply below_drew1) | exact HBW.out))) : w.heap.size ≤ gb396)); have n4 := Az ((Nat.le_trans HW0.out (by rw [hg]; exact (below_size (by repeat (first | (with_reducible first | exact HBW.out | apply below_alloc | apply pw_below_drewN | apply below_drew1) | exact HBW.out))) : w.heap.size ≤ gb396) : w0.heap.size ≤ gb396)); clear HBW HB; have HBW := n0; have HB := n1; have BK396 := n2; have GW396 := n3; have GE396 := n4; clear n0 n1 n2 n3 n4; clear hb hbox hg))
  go_ret
  exact ⟨_, rfl, (show IsS73 w0 _ gb396 l0 0 from ⟨_, _, kU BK396.out, GE396.out, HR0.out⟩), bU1 HB.out GE396.out, by repeat (first | (with_reducible first | exact HBW.out | apply below_alloc | apply pw_below_drewN | apply below_drew1 | refine below_set ?_ GW396.out) | exact HBW.out)⟩
def spec_ChoiceValid.l0 : Nat → List Int → Int → Int → List Int → List Int → Option (Bool)
 | 0, _, _, _, _, _ => none
 | k + 1, x1, x5, x6, xZ0, xZ1 => if x6 < (x1.length : Int) then (if 0 ≤ x6 then ((spec_l6In.f (rd x1 x6) (wrap64 (x5 + 1)) (wrap64 ((wrap64 ((xZ1.length : Int) / 2)) - 1))).bind fun t413 => (if t413 = true then (spec_ChoiceValid.l0 k x1 (rd x1 x6) (wrap64 (x6 + 1)) xZ0 xZ1) else (some false))) else (none)) else ((spec_MapValid.f k xZ0 xZ1).bind fun t415 => (some t415))
def spec_ChoiceValid.f (k : Nat) (l0_0 : List Int) (l0_1 : List Int) (l1 : List Int) : Option (Bool) := spec_ChoiceValid.l0 k l1 (-1) 0 l0_0 l0_1
set_option maxHeartbeats 8000000 in
set_option maxRecDepth 100000 in
theorem spec_ChoiceValid.calls (k : Nat) (A0_0 : Option Addr) (c0_0 : Nat) (l0_0 : List Int) (A0_1 : Option Addr) (c0_1 : Nat) (l0_1 : List Int) (A1 : Option Addr) (c1 : Nat) (l1 : List Int) (r : Bool) (w : World) (hr0_0 : Kd.C (Kd.int .i64) w A0_0 l0_0.length l0_0) (hc0_0 : l0_0.length ≤ c0_0) (hr0_1 : Kd.C (Kd.int .i64) w A0_1 l0_1.length l0_1) (hc0_1 : l0_1.length ≤ c0_1) (hr1 : Kd.C (Kd.int .i64) w A1 l1.length l1) (hc1 : l1.length ≤ c1) (h : spec_ChoiceValid.f k l0_0 l0_1 l1 = some r) :
  Calls Try.prog 17 #[.agg #[.slice A0_0 l0_0.length c0_0, .slice A0_1 l0_1.length c0_1], .slice A1 l1.length c1] w fun e w' => e = .returned (.bool r) ∧ Below w.heap.size w w' := by
 have hu25 := Try.underlying25; have HR0_0 := Az hr0_0; have HC0_0 := Az hc0_0; clear hr0_0 hc0_0; have HR0_1 := Az hr0_1; have HC0_1 := Az hc0_1; clear hr0_1 hc0_1; have HR1 := Az hr1; have HC1 := Az hc1; clear hr1 hc1; have HB := Az (Below.refl w.heap.size w); have H : (spec_ChoiceValid.l0 k l1 (-1) 0 l0_0 l0_1) = some r := h; clear h; have H' := Az H; clear H
 go_enter Try.func17, Try.ntmps17
 go_wp2_with (first | ((with_reducible refine gate_dst (N := 2) rfl ?_); refine box_event ?hg (N := 2) ?hd (cs := #[.slice A0_0 l0_0.length c0_0, .slice A0_1 l0_1.length c0_1]) (t := 25) ?hr ?_; (case hd => rfl); (case hg => rfl); (case hr => first | (go_simp; done) | (go_simp; rfl)); intro gb411 hg w3 hbox hb; have n0 := Az (below_step (bU0 HB.out) hb); have n1 := Az (hbox); have n2 := Az ((by rw [hg]; exact (below_size (bU0 HB.out)) : w.heap.size ≤ gb411)); have n3 := n2; clear HB; have HB := n0; have BK411 := n1; have GW411 := n2; have GE411 := n3; clear n0 n1 n2 n3; clear hb hbox hg))
 repeat (go_quiet (fail); try go_wp2_with (fail))
 go_loopg [5, 6] k (fun kq v5 v6 w' => ∃ (x5_1 : Int) (x6_1 : Int), v5 = .int .i64 x5_1 ∧ v6 = .int .i64 x6_1 ∧ Aside0 (spec_ChoiceValid.l0 kq l1 x5_1 x6_1 l0_0 l0_1 = some r) ∧ Aside0 (kq ≤ k) ∧ Aside0 (w'.heap[gb411]? = some (.cells #[(.slice A0_0 l0_0.length c0_0), (.slice A0_1 l0_1.length c0_1)] 25 (0, 0))) ∧ Aside0 (Below w.heap.size w w'))
 case atStart => exact ⟨((-1)), (0), rS, rS, H', ⟨Nat.le_refl _⟩, ⟨kU BK411.out⟩, ⟨bU1 HB.out GE411.out⟩⟩
 case round =>
  clear H'; (try clear c1); (try clear p2); obtain ⟨x5_1, x6_1, rfl, rfl, HA, HK1, BK411, HB⟩ := hrel
  cases gk with
  | zero => exact absurd HA.out (by simp [spec_ChoiceValid.l0])
  | succ k1 =>
   have H := HA.out; clear HA; simp only [spec_ChoiceValid.l0] at H
   by_cases c4 : x6_1 < (l1.length : Int)
   ·
    rw [if_pos c4] at H; have c4b0 := decide_eq_true c4; clear c4
    by_cases c5 : 0 ≤ x6_1
    ·
     rw [if_pos c5] at H; have c5b0 := decide_eq_true c5; clear c5; replace H := Option.bind_eq_some_iff.mp H; obtain ⟨t413, A60, H⟩ := H; replace H : (if t413 = true then (spec_ChoiceValid.l0 k1 l1 (rd l1 x6_1) (wrap64 (x6_1 + 1)) l0_0 l0_1) else (some false)) = some r := H; have A6 := Az A60; clear A60
     by_cases c7 : t413 = true
     ·
      subst c7
      have H1 : (spec_ChoiceValid.l0 k1 l1 (rd l1 x6_1) (wrap64 (x6_1 + 1)) l0_0 l0_1) = some r := by rw [if_pos rfl] at H; exact H
      clear H; have H := H1; clear H1; have H' := Az H; clear H; have p412 : 0 ≤ (x6_1 : Int) := oA; have q412 : x6_1 < (l1.length : Int) := oA; obtain ⟨ad412, e412, hx412_0⟩ := Kd.at_int HR1.out x6_1 p412 q412
      cases e412
      (try replace hx412_0 := (HB.out.cell (World.block_lt_of_cell? w _ hx412_0)).trans hx412_0); replace p412 := eq_true p412; replace q412 := eq_true q412; have hcz8_0 : wr.cell? ⟨gb411, 0, none⟩ = some (.slice A0_0 l0_0.length c0_0) := (blk_cell BK411.out 0).trans rfl; have hcz8_1 : wr.cell? ⟨gb411, 1, none⟩ = some (.slice A0_1 l0_1.length c0_1) := (blk_cell BK411.out 1).trans rfl; have hfz8_0 := blk_frozen BK411.out 0; have hfz8_1 := blk_frozen BK411.out 1
      go_wp2_with (fail)
      repeat (go_quiet (first | (go_at_call 60; (try simp only [Go.IntWalk.i64_left]); (with_reducible refine (spec_l6In.calls (rd l1 x6_1) (wrap64 (x5_1 + 1)) (wrap64 ((wrap64 ((l0_1.length : Int) / 2)) - 1)) true _ A6.out).mono ?_); rintro e w' ⟨rfl, ⟨nd, rfl⟩⟩; (try first | exact ⟨rfl, _, World.drewN_drewN _ _ _⟩ | exact ⟨rfl, _, Eq.trans (World.drewN_drewN _ _ _) (congrArg (World.drewN _) (Nat.add_assoc _ _ _))⟩); have p414 : 0 ≤ (x6_1 : Int) := oA; have q414 : x6_1 < (l1.length : Int) := oA; obtain ⟨ad414, e414, hx414_0⟩ := Kd.at_int HR1.out x6_1 p414 q414; obtain rfl : ad412 = ad414 := (by injection e414); replace hx414_0 := (HB.out.cell (World.block_lt_of_cell? w _ hx414_0)).trans hx414_0; replace p414 := eq_true p414; replace q414 := eq_true q414)); try go_wp2_with (fail))
      (first | go_roundg k1 | (refine Handed.intro k1 ?measure ?_; rotate_left; go_step; (try simp only [add_plain]); (repeat apply Exists.intro); refine ⟨?rel, rfl⟩))
      case measure => have := HK1.out; omega
      case rel => exact ⟨(rd l1 x6_1), (wrap64 (x6_1 + 1)), rS, rS, H', ⟨by have := HK1.out; omega⟩, ⟨kU BK411.out⟩, ⟨bU1 HB.out GE411.out⟩⟩
     ·
      replace c7 := Bool.eq_false_iff.mpr c7; subst c7
      have H1 : (some false) = some r := by rw [if_neg (show ¬ (false = true) by decide)] at H; exact H
      clear H; have H := H1; clear H1; obtain rfl := Option.some.inj H; have p412 : 0 ≤ (x6_1 : Int) := oA; have q412 : x6_1 < (l1.length : Int) := oA; obtain ⟨ad412, e412, hx412_0⟩ := Kd.at_int HR1.out x6_1 p412 q412
      cases e412
      (try replace hx412_0 := (HB.out.cell (World.block_lt_of_cell? w _ hx412_0)).trans hx412_0); replace p412 := eq_true p412; replace q412 := eq_true q412; have hcz9_0 : wr.cell? ⟨gb411, 0, none⟩ = some (.slice A0_0 l0_0.length c0_0) := (blk_cell BK411.out 0).trans rfl; have hcz9_1 : wr.cell? ⟨gb411, 1, none⟩ = some (.slice A0_1 l0_1.length c0_1) := (blk_cell BK411.out 1).trans rfl; have hfz9_0 := blk_frozen BK411.out 0; have hfz9_1 := blk_frozen BK411.out 1
      go_wp2_with (fail)
      repeat (go_quiet (first | (go_at_call 60; (try simp only [Go.IntWalk.i64_left]); (with_reducible refine (spec_l6In.calls (rd l1 x6_1) (wrap64 (x5_1 + 1)) (wrap64 ((wrap64 ((l0_1.length : Int) / 2)) - 1)) false _ A6.out).mono ?_); rintro e w' ⟨rfl, ⟨nd, rfl⟩⟩; (try first | exact ⟨rfl, _, World.drewN_drewN _ _ _⟩ | exact ⟨rfl, _, Eq.trans (World.drewN_drewN _ _ _) (congrArg (World.drewN _) (Nat.add_assoc _ _ _))⟩))); try go_wp2_with (fail))
      go_ret
      exact ⟨rE, bU1 HB.out GE411.out⟩
    ·
     rw [if_neg c5] at H
     exact absurd H (by simp)
   ·
    rw [if_neg c4] at H; have c4b0 := decide_eq_false c4; clear c4; replace H := Option.bind_eq_some_iff.mp H; obtain ⟨t415, A100, H⟩ := H; replace H : (some t415) = some r := H; have A10 := Az A100; clear A100; obtain rfl := Option.some.inj H; have hcz11_0 : wr.cell? ⟨gb411, 0, none⟩ = some (.slice A0_0 l0_0.length c0_0) := (blk_cell BK411.out 0).trans rfl; have hcz11_1 : wr.cell? ⟨gb411, 1, none⟩ = some (.slice A0_1 l0_1.length c0_1) := (blk_cell BK411.out 1).trans rfl; have hfz11_0 := blk_frozen BK411.out 0; have hfz11_1 := blk_frozen BK411.out 1
    go_wp2_with (first | (go_at_call 61; (with_reducible refine (spec_MapValid.calls k1 _ _ l0_0 _ _ l0_1 t415 _ ?side1 ?side2 ?side3 ?side4 A10.out).mono ?_); (case side1 => exact cU (Kd.C_below HR0_0.out HB.out)); (case side2 => exact HC0_0.out); (case side3 => exact cU (Kd.C_below HR0_1.out HB.out)); (case side4 => exact HC0_1.out); rintro e w12 ⟨rfl, hb⟩; have n0 := Az (blk_below (g := gb411) (o := .cells #[.slice A0_0 l0_0.length c0_0, .slice A0_1 l0_1.length c0_1] 25 (0, 0)) (kU BK411.out) hb); have n1 := Az (below_step (bU1 HB.out GE411.out) hb); clear BK411 HB; have BK411 := n0; have HB := n1; clear n0 n1; (try clear hb); (try clear hb2); (try clear hk); (try clear hi)))
    repeat (go_quiet (fail); try go_wp2_with (fail))
    go_ret
    exact ⟨rE, bU1 HB.out GE411.out⟩
mutual
def spec_l1Cycles.l0 : Nat → List Int → List (List Int) → List Bool → Int → Option ((List (List Int)))
 | 0, _, _, _, _ => none
 | k + 1, x0, x3, x4, x5 => if x5 < (x0.length : Int) then (if 0 ≤ x5 then (if x5 < (x4.length : Int) then (if rdOf false x4 x5 = true then (spec_l1Cycles.l0 k x0 x3 x4 (wrap64 (x5 + 1))) else (spec_l1Cycles.l1 k x0 x3 x4 x5 (([] : List Int)) x5)) else (none)) else (none)) else (some x3)
def spec_l1Cycles.l1 : Nat → List Int → List (List Int) → List Bool → Int → List Int → Int → Option ((List (List Int)))
 | 0, _, _, _, _, _, _ => none
 | k + 1, x0, x3, x4, x5, x6, x7 => if 0 ≤ x7 then (if x7 < (x4.length : Int) then (if rdOf false x4 x7 = true then (if x3.length < 5864062014805 then (spec_l1Cycles.l0 k x0 (x3 ++ [x6]) x4 (wrap64 (x5 + 1))) else (none)) else (if x6.length < 17592186044416 then (if x7 < (x0.length : Int) then (spec_l1Cycles.l1 k x0 x3 (x4.set (x7 : Int).toNat true) x5 (x6 ++ [x7]) (rd x0 x7)) else (none)) else (none))) else (none)) else (none)
end
def spec_l1Cycles.f (k : Nat) (l0 : List Int) : Option ((List (List Int))) := if 0 ≤ (l0.length : Int) then (if ((l0.length : Int) : Int).toNat ≤ 281474976710656 then (spec_l1Cycles.l0 k l0 (([] : List (List Int))) (List.replicate ((l0.length : Int) : Int).toNat false) 0) else (none)) else (none)
set_option maxHeartbeats 8000000 in
set_option maxRecDepth 100000 in
theorem spec_l1Cycles.calls (k : Nat) (A0 : Option Addr) (c0 : Nat) (l0 : List Int) (r : List (List Int)) (w : World) (hr0 : Kd.C (Kd.int .i64) w A0 l0.length l0) (hc0 : l0.length ≤ c0) (h : spec_l1Cycles.f k l0 = some r) :
  Calls Try.prog 81 #[.slice A0 l0.length c0] w fun e w' => ∃ v0_ : Value, e = .returned (v0_) ∧ Kd.S (Kd.slice 3 (Kd.int .i64)) 23 w' w.heap.size (fun _ => True) v0_ r ∧ Below w.heap.size w w' := by
 have HR0 := Az hr0; have HC0 := Az hc0; clear hr0 hc0; have HB := Az (Below.refl w.heap.size w); have H : (if 0 ≤ (l0.length : Int) then (if ((l0.length : Int) : Int).toNat ≤ 281474976710656 then (spec_l1Cycles.l0 k l0 (([] : List (List Int))) (List.replicate ((l0.length : Int) : Int).toNat false) 0) else (none)) else (none)) = some r := h; clear h; obtain ⟨y416, hy416⟩ : ∃ y_ : List (List Int), y_ = (([] : List (List Int))) := ⟨_, rfl⟩; replace H : (if 0 ≤ (l0.length : Int) then (if ((l0.length : Int) : Int).toNat ≤ 281474976710656 then (spec_l1Cycles.l0 k l0 y416 (List.replicate ((l0.length : Int) : Int).toNat false) 0) else (none)) else (none)) = some r := hR hy416 H; have Ny416 := Az hy416; clear hy416
 by_cases c2 : 0 ≤ (l0.length : Int)
 ·
  rw [if_pos c2] at H; have c2b0 := eq_true c2; have c2b1 := decide_eq_true c2; clear c2
  by_cases c3 : ((l0.length : Int) : Int).toNat ≤ 281474976710656
  ·
   rw [if_pos c3] at H; have c3b0 := eq_true c3; have c3b1 := decide_eq_true c3; clear c3; obtain ⟨y419, hy419⟩ : ∃ y_ : List Bool, y_ = (List.replicate ((l0.length : Int) : Int).toNat false) := ⟨_, rfl⟩; replace H : (spec_l1Cycles.l0 k l0 y416 y419 0) = some r := hR hy419 H; have Ny419 := Az hy419; clear hy419; have H' := Az H; clear H
   go_enter Try.func81, Try.ntmps81
   go_wp2_with (first | ((with_reducible refine gate_dst (N := 8) rfl ?_); refine Kd.S_lit (Kd.slice 3 (Kd.int .i64)) _ 23 ?hg (N := 8) ?hd (xs := ([] : List (List Int))) (inner := []) (ok := fun _ => True) (okp := fun _ => True) ?hr ?hp (fun _ hk => hk) trivial (Below.refl _ _) (Nat.le_refl _) (by simp) ?_; (case hd => rfl); (case hg => rfl); (case hr => first | (go_simp; done) | (go_simp; rfl)); (case hp => exact (Reps.none _ _)); intro v417 w4 ho5 hb hg_ hnew_; clear hg_ hnew_; (first | rw [← Ny416.out] at ho5 | (simp only [Int.reduceToNat] at ho5; rw [← Ny416.out] at ho5)); have n0 := Az (Kd.S_lower ho5 (below_size (bU0 HB.out))); have n1 := Az (below_step (bU0 HB.out) hb); clear HB; have HO418 := n0; have HB := n1; clear n0 n1; clear hb ho5) | ((with_reducible refine gate_dst (N := 11) rfl ?_); refine Kd.R_make Kd.bool _ 4 rfl (N := 11) rfl 78 _ _ rfl (l0.length : Int) rfl rfl Try.underlying78 (.bool false) 1 info4 rfl (by decide) (by omega) false (ok := fun _ => True) (okp := fun _ => True) rfl (fun _ hk => hk) trivial (oA) (Nat.le_trans (Nat.mul_le_mul_right _ (oA : (l0.length : Int).toNat ≤ 281474976710656)) (by omega)) (Below.refl _ _) (Nat.le_refl _) ?_; intro v420 w6 ho7 hb hg_ hnew_; clear hg_ hnew_; (first | rw [← Ny419.out] at ho7 | (simp only [Int.reduceToNat] at ho7; rw [← Ny419.out] at ho7)); have n0 := Az (Kd.S_below (sU HO418.out) hb); have n1 := Az (Kd.R_lower ho7 (below_size (bU0 HB.out))); have n2 := Az (below_step (bU0 HB.out) hb); clear HO418 HB; have HO418 := n0; have HO421 := n1; have HB := n2; clear n0 n1 n2; clear hb ho7))
   go_loopg [3, 5] k (fun kq v3 v5 w' => ∃ (x3_1 : List (List Int)) (x4_1 : List Bool) (x5_1 : Int), v5 = .int .i64 x5_1 ∧ Aside0 (spec_l1Cycles.l0 kq l0 x3_1 x4_1 x5_1 = some r) ∧ Aside0 (kq ≤ k) ∧ Aside0 (Kd.S (Kd.slice 3 (Kd.int .i64)) 23 w' w.heap.size (fun _ => True) v3 x3_1) ∧ Aside0 (Kd.R Kd.bool 4 w' w.heap.size (fun _ => True) v420 x4_1) ∧ Aside0 (Below w.heap.size w w'))
   case atStart => exact ⟨(y416), (y419), (0), rS, H', ⟨Nat.le_refl _⟩, ⟨sU HO418.out⟩, ⟨rU HO421.out⟩, ⟨bU0 HB.out⟩⟩
   case round =>
    clear H'; (try clear c2); (try clear c2b0); (try clear c2b1); (try clear p2); (try clear c3); (try clear c3b0); (try clear c3b1); obtain ⟨x3_1, x4_1, x5_1, rfl, HA, HK1, HO_3, HO_4, HB⟩ := hrel
    cases gk with
    | zero => exact absurd HA.out (by simp [spec_l1Cycles.l0])
    | succ k1 =>
     have H := HA.out; clear HA; simp only [spec_l1Cycles.l0] at H
     by_cases c8 : x5_1 < (l0.length : Int)
     ·
      rw [if_pos c8] at H; have c8b0 := decide_eq_true c8; clear c8
      by_cases c9 : 0 ≤ x5_1
      ·
       rw [if_pos c9] at H; have c9b0 := decide_eq_true c9; clear c9
       by_cases c10 : x5_1 < (x4_1.length : Int)
       ·
        rw [if_pos c10] at H; have c10b0 := decide_eq_true c10; clear c10; obtain ⟨bq11, hbq11⟩ : ∃ b_ : Bool, b_ = (rdOf false x4_1 x5_1) := ⟨_, rfl⟩
        replace H : (if bq11 = true then (spec_l1Cycles.l0 k1 l0 x3_1 x4_1 (wrap64 (x5_1 + 1))) else (spec_l1Cycles.l1 k1 l0 x3_1 x4_1 x5_1 (([] : List Int)) x5_1)) = some r := by rw [← hbq11] at H; exact H
        have Nbq11 := Az hbq11; clear hbq11
        by_cases c12 : bq11 = true
        ·
         subst c12
         have H1 : (spec_l1Cycles.l0 k1 l0 x3_1 x4_1 (wrap64 (x5_1 + 1))) = some r := by rw [if_pos rfl] at H; exact H
         clear H; have H := H1; clear H1; have H' := Az H; clear H; obtain ⟨Ao13, co13, eo13⟩ := Kd.R_slice HO_4.out; subst eo13; have p422 : 0 ≤ (x5_1 : Int) := oA; have q422 : x5_1 < (x4_1.length : Int) := oA; obtain ⟨ad422, e422, hx422_0⟩ := Kd.at_bool (Kd.R_reads' HO_4.out).2.2 x5_1 p422 q422; (try rw [← Nbq11.out] at hx422_0)
         cases e422
         replace p422 := eq_true p422; replace q422 := eq_true q422
         go_wp2
         (first | go_roundg k1 | (refine Handed.intro k1 ?measure ?_; rotate_left; go_step; (try simp only [add_plain]); (repeat apply Exists.intro); refine ⟨?rel, rfl⟩))
         case measure => have := HK1.out; omega
         case rel => exact ⟨(x3_1), (x4_1), (wrap64 (x5_1 + 1)), rS, H', ⟨by have := HK1.out; omega⟩, ⟨sU HO_3.out⟩, ⟨rU HO_4.out⟩, ⟨bU0 HB.out⟩⟩
        ·
         replace c12 := Bool.eq_false_iff.mpr c12; subst c12
         have H1 : (spec_l1Cycles.l1 k1 l0 x3_1 x4_1 x5_1 (([] : List Int)) x5_1) = some r := by rw [if_neg (show ¬ (false = true) by decide)] at H; exact H
         clear H; have H := H1; clear H1; obtain ⟨y423, hy423⟩ : ∃ y_ : List Int, y_ = (([] : List Int)) := ⟨_, rfl⟩; replace H : (spec_l1Cycles.l1 k1 l0 x3_1 x4_1 x5_1 y423 x5_1) = some r := hR hy423 H; have Ny423 := Az hy423; clear hy423; have H' := Az H; clear H; obtain ⟨Ao14, co14, eo14⟩ := Kd.R_slice HO_4.out; subst eo14; have p422 : 0 ≤ (x5_1 : Int) := oA; have q422 : x5_1 < (x4_1.length : Int) := oA; obtain ⟨ad422, e422, hx422_0⟩ := Kd.at_bool (Kd.R_reads' HO_4.out).2.2 x5_1 p422 q422; (try rw [← Nbq11.out] at hx422_0)
         cases e422
         replace p422 := eq_true p422; replace q422 := eq_true q422
         go_wp2_with (first | ((with_reducible refine gate_dst (N := 22) rfl ?_); refine Kd.R_lit (Kd.int .i64) _ 3 ?hg (N := 22) ?hd (xs := ([] : List Int)) (inner := []) (ok := fun _ => True) (okp := fun _ => True) ?hr ?hp (fun _ hk => hk) trivial (Below.refl _ _) (Nat.le_refl _) (by simp) ?_; (case hd => rfl); (case hg => rfl); (case hr => first | (go_simp; done) | (go_simp; rfl)); (case hp => exact (Reps.none _ _)); intro v424 w15 ho16 hb hg_ hnew_; clear hg_ hnew_; (first | rw [← Ny423.out] at ho16 | (simp only [Int.reduceToNat] at ho16; rw [← Ny423.out] at ho16)); have n0 := Az (Kd.S_elder' (sU HO_3.out) (Kd.R_base ho16) hb); have n1 := Az (Kd.R_below (rU HO_4.out) hb); have n2 := Az (Kd.R_lower ho16 (below_size (bU0 HB.out))); have n3 := Az (below_step (bU0 HB.out) hb); clear HO_3 HO_4 HB; have HO_3 := n0; have HO_4 := n1; have HO425 := n2; have HB := n3; clear n0 n1 n2 n3; clear hb ho16))
         go_loopg [6, 7] k1 (fun kq v6 v7 w' => ∃ (x4_2 : List Bool) (x6_2 : List Int) (x7_2 : Int), v7 = .int .i64 x7_2 ∧ Aside0 (spec_l1Cycles.l1 kq l0 x3_1 x4_2 x5_1 x6_2 x7_2 = some r) ∧ Aside0 (kq ≤ k1) ∧ Aside0 (Kd.S (Kd.slice 3 (Kd.int .i64)) 23 w' w.heap.size (fun k_ => some k_ ≠ (v6 : Value).ownBlock) u3 x3_1) ∧ Aside0 (Kd.R Kd.bool 4 w' w.heap.size (fun _ => True) (.slice (some ad422) x4_1.length co14) x4_2) ∧ Aside0 (Kd.R (Kd.int .i64) 3 w' w.heap.size (fun _ => True) v6 x6_2) ∧ Aside0 (Below w.heap.size w w'))
         case atStart => exact ⟨(x4_1), (y423), (x5_1), rS, H', ⟨Nat.le_refl _⟩, ⟨by (with_reducible repeat (first | apply Kd.S_alloc | apply Kd.S_drewN | apply Kd.S_drew)); exact Kd.S_mono HO_3.out (fun _ hk => hk.2)⟩, ⟨rU HO_4.out⟩, ⟨rU HO425.out⟩, ⟨bU0 HB.out⟩⟩
         case round =>
          clear H'; (try clear c1); (try clear q1); (try clear c2); (try clear c2b0); (try clear c2b1); (try clear p2); (try clear c3); (try clear c3b0); (try clear c3b1); (try clear p4); (try clear q4); (try clear hx4); (try clear p6); (try clear c8); (try clear c8b0); (try clear c9); (try clear c9b0); (try clear c10); (try clear c10b0); (try clear q11); (try clear c12); (try clear hx422_0); (try clear p2); (try clear p422); (try clear q422); obtain ⟨x4_2, x6_2, x7_2, rfl, HA, HK2, HO_3, HO_4, HO_6, HB⟩ := hrel; have hl4_2 := (Kd.R_reads' HO_4.out).1; rw [hl4_2] at HO_4; (try simp only [hl4_2]); (try simp only [hl4_2] at HO_3); (try simp only [hl4_2] at HO_6)
          cases gk with
          | zero => exact absurd HA.out (by simp [spec_l1Cycles.l1])
          | succ k2 =>
           have H := HA.out; clear HA; simp only [spec_l1Cycles.l1] at H
           by_cases c17 : 0 ≤ x7_2
           ·
            rw [if_pos c17] at H; have c17b0 := decide_eq_true c17; clear c17
            by_cases c18 : x7_2 < (x4_2.length : Int)
            ·
             rw [if_pos c18] at H; have c18b0 := decide_eq_true c18; (try (have c18b0hl4_2 := c18b0; rw [hl4_2] at c18b0hl4_2)); clear c18; obtain ⟨bq19, hbq19⟩ : ∃ b_ : Bool, b_ = (rdOf false x4_2 x7_2) := ⟨_, rfl⟩
             replace H : (if bq19 = true then (if x3_1.length < 5864062014805 then (spec_l1Cycles.l0 k2 l0 (x3_1 ++ [x6_2]) x4_2 (wrap64 (x5_1 + 1))) else (none)) else (if x6_2.length < 17592186044416 then (if x7_2 < (l0.length : Int) then (spec_l1Cycles.l1 k2 l0 x3_1 (x4_2.set (x7_2 : Int).toNat true) x5_1 (x6_2 ++ [x7_2]) (rd l0 x7_2)) else (none)) else (none))) = some r := by rw [← hbq19] at H; exact H
             have Nbq19 := Az hbq19; clear hbq19
             by_cases c20 : bq19 = true
             ·
              subst c20
              have H1 : (if x3_1.length < 5864062014805 then (spec_l1Cycles.l0 k2 l0 (x3_1 ++ [x6_2]) x4_2 (wrap64 (x5_1 + 1))) else (none)) = some r := by rw [if_pos rfl] at H; exact H
              clear H; have H := H1; clear H1
              by_cases c21 : x3_1.length < 5864062014805
              ·
               rw [if_pos c21] at H; have LMc21 := Az c21; clear c21; obtain ⟨y427, hy427⟩ : ∃ y_ : List (List Int), y_ = (x3_1 ++ [x6_2]) := ⟨_, rfl⟩; replace H : (spec_l1Cycles.l0 k2 l0 y427 x4_2 (wrap64 (x5_1 + 1))) = some r := hR hy427 H; have Ny427 := Az hy427; clear hy427; have H' := Az H; clear H; have p426 : 0 ≤ (x7_2 : Int) := oA; have q426 : x7_2 < (x4_2.length : Int) := oA; obtain ⟨ad426, e426, hx426_0⟩ := Kd.at_bool (Kd.R_reads' HO_4.out).2.2 x7_2 p426 q426; (try rw [← Nbq11.out] at hx426_0); (try rw [← Nbq19.out] at hx426_0); obtain rfl : ad422 = ad426 := (by injection e426); replace p426 := eq_true p426; replace q426 := eq_true q426; obtain ⟨Ao23, co23, eo23⟩ := Kd.R_slice HO_6.out; subst eo23
               go_wp2_with (first | ((with_reducible refine gate_builtin (b := .append) (xs := #[.tmp 40, .tmp 42]) rfl ?_); at_builtin; refine Kd.S_append (Kd.slice 3 (Kd.int .i64)) (w0 := w) w.heap.size rfl (.tmp 40) (.tmp 42) 54 23 (.slice none 0 0) 24 rfl Try.underlying54 info23 rfl (by decide) (by omega) u3 x3_1 x6_2 [.slice Ao23 x6_2.length co23] (fun _ => True) (fun k_ => some k_ = (.slice Ao23 x6_2.length co23 : Value).ownBlock) rfl rfl ?aP (fun k_ hk_ => ((Kd.R_mono (ok' := fun k_ => ((fun _ => True)) k_ ∧ some k_ ≠ (u3 : Value).ownBlock) (Kd.R_apart' (HO_6.out) (Kd.S_typed HO_3.out) (by decide)) (fun k_ hk => ⟨trivial, hk.2⟩))).1 k_ hk_.symm) ?aF ?aO ?aB ?aS ?aL ?_; (case aP => exact Kd.M_row (Kd.R_mono (Kd.R_tight rfl (Kd.R_mono (ok' := fun k_ => ((fun _ => True)) k_ ∧ some k_ ≠ (u3 : Value).ownBlock) (Kd.R_apart' (HO_6.out) (Kd.S_typed HO_3.out) (by decide)) (fun k_ hk => ⟨trivial, hk.2⟩))) (fun _ h_ => h_))); (case aB => exact (bU0 HB.out)); (case aF => exact (fun _ _ => trivial)); (case aO => exact (by (with_reducible repeat (first | apply Kd.S_alloc | apply Kd.S_drewN | apply Kd.S_drew)); exact Kd.S_mono HO_3.out (fun k_ hk => ⟨trivial, fun e_ => hk e_⟩))); (case aS => exact (below_size (bU0 HB.out))); (case aL => have := LMc21.out; omega); intro v428 w22 ho hb hg hat; rw [← Ny427.out] at ho; have n0 := Az (Kd.R_over' (rU HO_4.out) (Kd.S_typed (sU HO_3.out)) (by decide) hg); have n1 := Az (hb); have n2 := Az (ho); clear HO_4 HB HO_3 HO_6; have HO_4 := n0; have HB := n1; have HO429 := n2; clear n0 n1 n2; clear ho hb hg hat))
               (try simp only [← hl4_2]); (first | go_roundg k2 | (refine Handed.intro k2 ?measure ?_; rotate_left; go_step; (try simp only [add_plain]); (repeat apply Exists.intro); refine ⟨?rel, rfl⟩))
               case measure => have := HK1.out; have := HK2.out; omega
               case rel => exact ⟨(y427), (x4_2), (wrap64 (x5_1 + 1)), rS, H', ⟨by have := HK1.out; have := HK2.out; omega⟩, ⟨by (try simp only [hl4_2]); (with_reducible repeat (first | apply Kd.S_alloc | apply Kd.S_drewN | apply Kd.S_drew)); exact HO429.out⟩, ⟨by (try simp only [hl4_2]); (with_reducible repeat (first | apply Kd.R_alloc | apply Kd.R_drewN | apply Kd.R_drew)); exact HO_4.out⟩, ⟨bU0 HB.out⟩⟩
              ·
               rw [if_neg c21] at H
               exact absurd H (by simp)
             ·
              replace c20 := Bool.eq_false_iff.mpr c20; subst c20
              have H1 : (if x6_2.length < 17592186044416 then (if x7_2 < (l0.length : Int) then (spec_l1Cycles.l1 k2 l0 x3_1 (x4_2.set (x7_2 : Int).toNat true) x5_1 (x6_2 ++ [x7_2]) (rd l0 x7_2)) else (none)) else (none)) = some r := by rw [if_neg (show ¬ (false = true) by decide)] at H; exact H
              clear H; have H := H1; clear H1; obtain ⟨y430, hy430⟩ : ∃ y_ : List Bool, y_ = (x4_2.set (x7_2 : Int).toNat true) := ⟨_, rfl⟩; replace H : (if x6_2.length < 17592186044416 then (if x7_2 < (l0.length : Int) then (spec_l1Cycles.l1 k2 l0 x3_1 y430 x5_1 (x6_2 ++ [x7_2]) (rd l0 x7_2)) else (none)) else (none)) = some r := hR hy430 H; have Ny430 := Az hy430; clear hy430
              by_cases c25 : x6_2.length < 17592186044416
              ·
               rw [if_pos c25] at H; have LMc25 := Az c25; clear c25; obtain ⟨y431, hy431⟩ : ∃ y_ : List Int, y_ = (x6_2 ++ [x7_2]) := ⟨_, rfl⟩; replace H : (if x7_2 < (l0.length : Int) then (spec_l1Cycles.l1 k2 l0 x3_1 y430 x5_1 y431 (rd l0 x7_2)) else (none)) = some r := hR hy431 H; have Ny431 := Az hy431; clear hy431
               by_cases c26 : x7_2 < (l0.length : Int)
               ·
                rw [if_pos c26] at H; have c26b0 := decide_eq_true c26; (try (have c26b0hl4_2 := c26b0; rw [hl4_2] at c26b0hl4_2)); clear c26; have H' := Az H; clear H; have p426 : 0 ≤ (x7_2 : Int) := oA; have q426 : x7_2 < (x4_2.length : Int) := oA; obtain ⟨ad426, e426, hx426_0⟩ := Kd.at_bool (Kd.R_reads' HO_4.out).2.2 x7_2 p426 q426; (try rw [← Nbq11.out] at hx426_0); (try rw [← Nbq19.out] at hx426_0); obtain rfl : ad422 = ad426 := (by injection e426); replace p426 := eq_true p426; replace q426 := eq_true q426; have p24 : 0 ≤ (x7_2 : Int) := oA; have q24 : (x7_2 : Int) < ((x4_2.length : Int) : Int) := oA; obtain ⟨go24, co24, eo24, gb24, gl24, cl24, HG24⟩ := Kd.R_form HO_4.out (by omega); (first | cases eo24 | (injection eo24 with ea_ en_ ec_; (first | subst ea_ | (injection ea_ with ea_; subst ea_)); subst ec_; clear en_)); have GB24 := Az gb24; have GG24 := Az HG24; clear gb24 gl24 HG24; (first | simp only [add_plain] at hx422_0 | skip); (first | simp only [add_plain] at hx426_0 | skip); obtain ⟨hx24_0, hf24_0⟩ := Kd.R_celln false HO_4.out (x7_2 : Int) p24 q24; replace p24 := eq_true p24; replace q24 := eq_true q24; obtain ⟨hy27_, hz27_⟩ := Kd.R_celln false HO_4.out (x7_2 : Int) (oA) (oA); have HP27 := Kd.R_putg HO_4.out (x7_2 : Int) true
                go_wp2_with (first | ((with_reducible refine gate_store (t := 4) (p := 35) rfl ?_); refine store_event (t := 4) (p := 35) (v := ?vo_w28) (w1 := (wr.setCell ⟨go24, (x7_2 : Int).toNat, none⟩ (.bool true))) ?hg ?ho ?hn ?hr ?_; (case ho => rfl); (case hg => rfl); (case hn => rfl); (case hr => first | (go_simp; done) | (go_simp; rfl)); intro w28 hw; have hg : wr.grownBy w28 (some go24) := (by rw [hw]; exact HP27.2); have hp_ : Kd.R Kd.bool 4 w28 w.heap.size (fun _ => True) (.slice (some ⟨go24, 0, none⟩) x4_2.length co14) y430 := (by rw [hw, Ny430.out]; exact HP27.1); clear HP27; have n0 := Az (Kd.S_over' (v := (.slice (some ⟨go24, 0, none⟩) x4_2.length co14)) (sU HO_3.out) (Kd.R_typed HO_4.out) (by decide) hg); have n1 := Az (hp_); have n2 := Az (Kd.R_over' (v := (.slice (some ⟨go24, 0, none⟩) x4_2.length co14)) (rU HO_6.out) (Kd.R_typed HO_4.out) (by decide) hg); have n3 := Az ((by rw [hw]; exact below_set (HB.out) GB24.out : Below w.heap.size w w28)); clear HO_3 HO_4 HO_6 HB; have HO_3 := n0; have HO_4 := n1; have HO_6 := n2; have HB := n3; clear n0 n1 n2 n3; clear hg hw hp_) | ((with_reducible refine gate_builtin (b := .append) (xs := #[.tmp 36, .tmp 38]) rfl ?_); at_builtin; refine Kd.R_append (Kd.int .i64) (w0 := w) w.heap.size rfl (.tmp 36) (.tmp 38) 23 3 (.int .i64 0) 8 rfl Try.underlying23 info3 rfl (by decide) (by omega) u6 x6_2 x7_2 [.int .i64 x7_2] (fun _ => True) (fun _ => False) rfl rfl ?aP (fun _ hk => hk.elim) ?aF ?aO ?aB ?aS ?aL ?_; (case aP => exact rfl); (case aB => exact (bU0 HB.out)); (case aF => exact (fun _ _ => trivial)); (case aO => exact (rU HO_6.out)); (case aS => exact (below_size (bU0 HB.out))); (case aL => have := LMc25.out; omega); intro v432 w29 ho hb hg hat; rw [← Ny431.out] at ho; have n0 := Az (Kd.S_after (ok := (fun _ => True)) (by (with_reducible repeat (first | apply Kd.S_alloc | apply Kd.S_drewN | apply Kd.S_drew)); exact Kd.S_mono HO_3.out (fun _ hk => ⟨trivial, hk⟩)) hg hat); have n1 := Az (Kd.R_over' (rU HO_4.out) (Kd.R_typed (rU HO_6.out)) (by decide) hg); have n2 := Az (hb); have n3 := Az (ho); clear HO_3 HO_4 HB HO_6; have HO_3 := n0; have HO_4 := n1; have HB := n2; have HO433 := n3; clear n0 n1 n2 n3 ho hb hg hat; have p434 : 0 ≤ (x7_2 : Int) := oA; have q434 : x7_2 < (l0.length : Int) := oA; obtain ⟨ad434, e434, hx434_0⟩ := Kd.at_int HR0.out x7_2 p434 q434; cases e434; replace hx434_0 := (HB.out.cell (World.block_lt_of_cell? w _ hx434_0)).trans hx434_0; replace p434 := eq_true p434; replace q434 := eq_true q434))
                (try simp only [← hl4_2]); (first | go_roundg k2 | (refine Handed.intro k2 ?measure ?_; rotate_left; go_step; (try simp only [add_plain]); (repeat apply Exists.intro); refine ⟨?rel, rfl⟩))
                case measure => have := HK1.out; have := HK2.out; omega
                case rel => exact ⟨(y430), (y431), (rd l0 x7_2), rS, H', ⟨by have := HK1.out; have := HK2.out; omega⟩, ⟨by (try simp only [hl4_2]); (with_reducible repeat (first | apply Kd.S_alloc | apply Kd.S_drewN | apply Kd.S_drew)); exact Kd.S_mono HO_3.out (fun _ hk => hk.2)⟩, ⟨by (try simp only [hl4_2]); (with_reducible repeat (first | apply Kd.R_alloc | apply Kd.R_drewN | apply Kd.R_drew)); exact HO_4.out⟩, ⟨by (try simp only [hl4_2]); (with_reducible repeat (first | apply Kd.R_alloc | apply Kd.R_drewN | apply Kd.R_drew)); exact HO433.out⟩, ⟨bU0 HB.out⟩⟩
               ·
                rw [if_neg c26] at H
                exact absurd H (by simp)
              ·
               rw [if_neg c25] at H
               exact absurd H (by simp)
            ·
             rw [if_neg c18] at H
             exact absurd H (by simp)
           ·
            rw [if_neg c17] at H
            exact absurd H (by simp)
       ·
        rw [if_neg c10] at H
        exact absurd H (by simp)
      ·
       rw [if_neg c9] at H
       exact absurd H (by simp)
     ·
      rw [if_neg c8] at H; have c8b0 := decide_eq_false c8; clear c8; obtain rfl := Option.some.inj H
      go_wp2
      go_ret
      exact ⟨_, rE, sU HO_3.out, bU0 HB.out⟩
  ·
   rw [if_neg c3] at H
   exact absurd H (by simp)
 ·
  rw [if_neg c2] at H
  exact absurd H (by simp)
def spec_l7Has.l0 : Nat → List Int → Int → Int → Option (Bool)
 | 0, _, _, _ => none
 | k + 1, x0, x1, x5 => if x5 < (x0.length : Int) then (if 0 ≤ x5 then (if (rd x0 x5) = x1 then (some true) else (spec_l7Has.l0 k x0 x1 (wrap64 (x5 + 1)))) else (none)) else (some false)
def spec_l7Has.f (k : Nat) (l0 : List Int) (a1 : Int) : Option (Bool) := spec_l7Has.l0 k l0 a1 0
set_option maxHeartbeats 8000000 in
set_option maxRecDepth 100000 in
theorem spec_l7Has.calls (k : Nat) (A0 : Option Addr) (c0 : Nat) (l0 : List Int) (a1 : Int) (r : Bool) (w : World) (hr0 : Kd.C (Kd.int .i64) w A0 l0.length l0) (hc0 : l0.length ≤ c0) (h : spec_l7Has.f k l0 a1 = some r) :
  Calls Try.prog 67 #[.slice A0 l0.length c0, .int .i64 a1] w fun e w' => e = .returned (.bool r) ∧ Drawn0 w w' := by
 have HR0 := Az hr0; have HC0 := Az hc0; clear hr0 hc0; have H : (spec_l7Has.l0 k l0 a1 0) = some r := h; clear h; have H' := Az H; clear H
 go_enter Try.func67, Try.ntmps67
 go_wp2
 go_loopg [5] k (fun kq v5 w' => ∃ (x5_1 : Int), v5 = .int .i64 x5_1 ∧ Aside0 (spec_l7Has.l0 kq l0 a1 x5_1 = some r) ∧ Aside0 (kq ≤ k) ∧ Drawn0 w w')
 case atStart => exact ⟨(0), rS, H', ⟨Nat.le_refl _⟩, by repeat (first | exact Drawn0.refl _ | apply Drawn0.step)⟩
 case round =>
  clear H'; (try clear p2); obtain ⟨x5_1, rfl, HA, HK1, ⟨m1, rfl⟩⟩ := hrel
  cases gk with
  | zero => exact absurd HA.out (by simp [spec_l7Has.l0])
  | succ k1 =>
   have H := HA.out; clear HA; simp only [spec_l7Has.l0] at H
   by_cases c3 : x5_1 < (l0.length : Int)
   ·
    rw [if_pos c3] at H; have c3b0 := decide_eq_true c3; clear c3
    by_cases c4 : 0 ≤ x5_1
    ·
     rw [if_pos c4] at H; have c4b0 := decide_eq_true c4; clear c4
     by_cases c5 : (rd l0 x5_1) = a1
     ·
      rw [if_pos c5] at H; have c5b0 := beq_iff_eq.mpr c5; have c5b1 := bne_eq_false_iff_eq.mpr c5; clear c5; obtain rfl := Option.some.inj H; have p435 : 0 ≤ (x5_1 : Int) := oA; have q435 : x5_1 < (l0.length : Int) := oA; obtain ⟨ad435, e435, hx435_0⟩ := Kd.at_int HR0.out x5_1 p435 q435
      cases e435
      replace p435 := eq_true p435; replace q435 := eq_true q435
      go_wp2
      go_ret
      exact ⟨by first | rfl | (simp; done) | (simp [*]; done), by repeat (first | exact Drawn0.refl _ | apply Drawn0.step)⟩
     ·
      rw [if_neg c5] at H; have c5b0 := beq_eq_false_iff_ne.mpr c5; have c5b1 := bne_iff_ne.mpr c5; have H' := Az H; clear H; have p435 : 0 ≤ (x5_1 : Int) := oA; have q435 : x5_1 < (l0.length : Int) := oA; obtain ⟨ad435, e435, hx435_0⟩ := Kd.at_int HR0.out x5_1 p435 q435
      cases e435
      replace p435 := eq_true p435; replace q435 := eq_true q435
      go_wp2
      (first | go_roundg k1 | (refine Handed.intro k1 ?measure ?_; rotate_left; go_step; (try simp only [add_plain]); (repeat apply Exists.intro); refine ⟨?rel, rfl⟩))
      case measure => have := HK1.out; omega
      case rel => exact ⟨(wrap64 (x5_1 + 1)), rS, H', ⟨by have := HK1.out; omega⟩, by repeat (first | exact Drawn0.refl _ | apply Drawn0.step)⟩
    ·
     rw [if_neg c4] at H
     exact absurd H (by simp)
   ·
    rw [if_neg c3] at H; have c3b0 := decide_eq_false c3; clear c3; obtain rfl := Option.some.inj H
    go_wp2
    go_ret
    exact ⟨by first | rfl | (simp; done) | (simp [*]; done), by repeat (first | exact Drawn0.refl _ | apply Drawn0.step)⟩
def spec_l7Edges.l0 : Nat → List Int → Int → Int → List Int → List Int → Option (List Int)
 | 0, _, _, _, _, _ => none
 | k + 1, x3, x4, x5, xZ2, xZ3 => if x5 < (x3.length : Int) then (if 0 ≤ x5 then (if x5 < (xZ3.length : Int) then (if x5 < (rd xZ3 x5) then (if 0 ≤ (rd xZ3 x5) then (if (rd xZ3 x5) < (x3.length : Int) then (spec_l7Edges.l0 k ((x3.set (x5 : Int).toNat x4).set ((rd xZ3 x5) : Int).toNat x4) (wrap64 (x4 + 1)) (wrap64 (x5 + 1)) xZ2 xZ3) else (none)) else (none)) else (spec_l7Edges.l0 k x3 x4 (wrap64 (x5 + 1)) xZ2 xZ3)) else (none)) else (none)) else (some x3)
def spec_l7Edges.f (k : Nat) (l0_0 : List Int) (l0_1 : List Int) : Option (List Int) := if 0 ≤ (l0_1.length : Int) then (if ((l0_1.length : Int) : Int).toNat ≤ 35184372088832 then (spec_l7Edges.l0 k (List.replicate ((l0_1.length : Int) : Int).toNat 0) 0 0 l0_0 l0_1) else (none)) else (none)
set_option maxHeartbeats 8000000 in
set_option maxRecDepth 100000 in
theorem spec_l7Edges.calls (k : Nat) (A0_0 : Option Addr) (c0_0 : Nat) (l0_0 : List Int) (A0_1 : Option Addr) (c0_1 : Nat) (l0_1 : List Int) (r : List Int) (w : World) (hr0_0 : Kd.C (Kd.int .i64) w A0_0 l0_0.length l0_0) (hc0_0 : l0_0.length ≤ c0_0) (hr0_1 : Kd.C (Kd.int .i64) w A0_1 l0_1.length l0_1) (hc0_1 : l0_1.length ≤ c0_1) (h : spec_l7Edges.f k l0_0 l0_1 = some r) :
  Calls Try.prog 107 #[.agg #[.slice A0_0 l0_0.length c0_0, .slice A0_1 l0_1.length c0_1]] w fun e w' => ∃ v0_ : Value, e = .returned (v0_) ∧ Kd.R (Kd.int .i64) 3 w' w.heap.size (fun _ => True) v0_ r ∧ Below w.heap.size w w' := by
 have hu25 := Try.underlying25; have HR0_0 := Az hr0_0; have HC0_0 := Az hc0_0; clear hr0_0 hc0_0; have HR0_1 := Az hr0_1; have HC0_1 := Az hc0_1; clear hr0_1 hc0_1; have HB := Az (Below.refl w.heap.size w); have H : (if 0 ≤ (l0_1.length : Int) then (if ((l0_1.length : Int) : Int).toNat ≤ 35184372088832 then (spec_l7Edges.l0 k (List.replicate ((l0_1.length : Int) : Int).toNat 0) 0 0 l0_0 l0_1) else (none)) else (none)) = some r := h; clear h
 by_cases c2 : 0 ≤ (l0_1.length : Int)
 ·
  rw [if_pos c2] at H; have c2b0 := eq_true c2; have c2b1 := decide_eq_true c2; clear c2
  by_cases c3 : ((l0_1.length : Int) : Int).toNat ≤ 35184372088832
  ·
   rw [if_pos c3] at H; have c3b0 := eq_true c3; have c3b1 := decide_eq_true c3; clear c3; obtain ⟨y437, hy437⟩ : ∃ y_ : List Int, y_ = (List.replicate ((l0_1.length : Int) : Int).toNat 0) := ⟨_, rfl⟩; replace H : (spec_l7Edges.l0 k y437 0 0 l0_0 l0_1) = some r := hR hy437 H; have Ny437 := Az hy437; clear hy437; have H' := Az H; clear H
   go_enter Try.func107, Try.ntmps107
   go_wp2_with (first | ((with_reducible refine gate_dst (N := 1) rfl ?_); refine box_event ?hg (N := 1) ?hd (cs := #[.slice A0_0 l0_0.length c0_0, .slice A0_1 l0_1.length c0_1]) (t := 25) ?hr ?_; (case hd => rfl); (case hg => rfl); (case hr => first | (go_simp; done) | (go_simp; rfl)); intro gb436 hg w4 hbox hb; have n0 := Az (below_step (bU0 HB.out) hb); have n1 := Az (hbox); have n2 := Az ((by rw [hg]; exact (below_size (bU0 HB.out)) : w.heap.size ≤ gb436)); have n3 := n2; clear HB; have HB := n0; have BK436 := n1; have GW436 := n2; have GE436 := n3; clear n0 n1 n2 n3 hb hbox hg; have hcz5_0 : w4.cell? ⟨gb436, 0, none⟩ = some (.slice A0_0 l0_0.length c0_0) := (blk_cell BK436.out 0).trans rfl; have hcz5_1 : w4.cell? ⟨gb436, 1, none⟩ = some (.slice A0_1 l0_1.length c0_1) := (blk_cell BK436.out 1).trans rfl; have hfz5_0 := blk_frozen BK436.out 0; have hfz5_1 := blk_frozen BK436.out 1) | ((with_reducible refine gate_dst (N := 9) rfl ?_); refine Kd.R_make (Kd.int .i64) _ 3 rfl (N := 9) rfl 23 _ _ rfl (l0_1.length : Int) rfl rfl Try.underlying23 (.int .i64 0) 8 info3 rfl (by decide) (by omega) 0 (ok := fun _ => True) (okp := fun _ => True) rfl (fun _ hk => hk) trivial (oA) (Nat.le_trans (Nat.mul_le_mul_right _ (oA : (l0_1.length : Int).toNat ≤ 35184372088832)) (by omega)) (Below.refl _ _) (Nat.le_refl _) ?_; intro v438 w6 ho7 hb hg_ hnew_; clear hg_ hnew_; (first | rw [← Ny437.out] at ho7 | (simp only [Int.reduceToNat] at ho7; rw [← Ny437.out] at ho7)); have n0 := Az (Kd.R_lower ho7 (below_size (bU1 HB.out GE436.out))); have n1 := Az (blk_below (g := gb436) (o := .cells #[.slice A0_0 l0_0.length c0_0, .slice A0_1 l0_1.length c0_1] 25 (0, 0)) (kU BK436.out) hb); have n2 := Az (below_step (bU1 HB.out GE436.out) hb); clear BK436 HB; have HO439 := n0; have BK436 := n1; have HB := n2; clear n0 n1 n2; clear hb ho7))
   go_loopg [4, 5] k (fun kq v4 v5 w' => ∃ (x3_1 : List Int) (x4_1 : Int) (x5_1 : Int), v4 = .int .i64 x4_1 ∧ v5 = .int .i64 x5_1 ∧ Aside0 (spec_l7Edges.l0 kq x3_1 x4_1 x5_1 l0_0 l0_1 = some r) ∧ Aside0 (kq ≤ k) ∧ Aside0 (Kd.R (Kd.int .i64) 3 w' w.heap.size (fun _ => True) v438 x3_1) ∧ Aside0 (w'.heap[gb436]? = some (.cells #[(.slice A0_0 l0_0.length c0_0), (.slice A0_1 l0_1.length c0_1)] 25 (0, 0))) ∧ Aside0 (Below w.heap.size w w'))
   case atStart => exact ⟨(y437), (0), (0), rS, rS, H', ⟨Nat.le_refl _⟩, ⟨rU HO439.out⟩, ⟨kU BK436.out⟩, ⟨bU1 HB.out GE436.out⟩⟩
   case round =>
    clear H'; (try clear c1); (try clear c2); (try clear c2b0); (try clear c2b1); (try clear p2); (try clear c3); (try clear c3b0); (try clear c3b1); (try clear hcz5_0); (try clear hcz5_1); (try clear hfz5_0); (try clear hfz5_1); obtain ⟨x3_1, x4_1, x5_1, rfl, rfl, HA, HK1, HO_3, BK436, HB⟩ := hrel
    cases gk with
    | zero => exact absurd HA.out (by simp [spec_l7Edges.l0])
    | succ k1 =>
     have H := HA.out; clear HA; simp only [spec_l7Edges.l0] at H
     by_cases c8 : x5_1 < (x3_1.length : Int)
     ·
      rw [if_pos c8] at H; have c8b0 := decide_eq_true c8; clear c8
      by_cases c9 : 0 ≤ x5_1
      ·
       rw [if_pos c9] at H; have c9b0 := decide_eq_true c9; clear c9
       by_cases c10 : x5_1 < (l0_1.length : Int)
       ·
        rw [if_pos c10] at H; have c10b0 := decide_eq_true c10; clear c10
        by_cases c11 : x5_1 < (rd l0_1 x5_1)
        ·
         rw [if_pos c11] at H; have c11b0 := decide_eq_true c11; clear c11; obtain ⟨y441, hy441⟩ : ∃ y_ : List Int, y_ = (x3_1.set (x5_1 : Int).toNat x4_1) := ⟨_, rfl⟩; replace H : (if 0 ≤ (rd l0_1 x5_1) then (if (rd l0_1 x5_1) < (x3_1.length : Int) then (spec_l7Edges.l0 k1 (y441.set ((rd l0_1 x5_1) : Int).toNat x4_1) (wrap64 (x4_1 + 1)) (wrap64 (x5_1 + 1)) l0_0 l0_1) else (none)) else (none)) = some r := hR hy441 H; have Ny441 := Az hy441; clear hy441
         by_cases c13 : 0 ≤ (rd l0_1 x5_1)
         ·
          rw [if_pos c13] at H; have c13b0 := decide_eq_true c13; clear c13
          by_cases c14 : (rd l0_1 x5_1) < (x3_1.length : Int)
          ·
           rw [if_pos c14] at H; have c14b0 := decide_eq_true c14; clear c14; obtain ⟨y443, hy443⟩ : ∃ y_ : List Int, y_ = (y441.set ((rd l0_1 x5_1) : Int).toNat x4_1) := ⟨_, rfl⟩; replace H : (spec_l7Edges.l0 k1 y443 (wrap64 (x4_1 + 1)) (wrap64 (x5_1 + 1)) l0_0 l0_1) = some r := hR hy443 H; have Ny443 := Az hy443; clear hy443; have H' := Az H; clear H; obtain ⟨Ao16, co16, eo16⟩ := Kd.R_slice HO_3.out; subst eo16; have hcz17_0 : wr.cell? ⟨gb436, 0, none⟩ = some (.slice A0_0 l0_0.length c0_0) := (blk_cell BK436.out 0).trans rfl; have hcz17_1 : wr.cell? ⟨gb436, 1, none⟩ = some (.slice A0_1 l0_1.length c0_1) := (blk_cell BK436.out 1).trans rfl; have hfz17_0 := blk_frozen BK436.out 0; have hfz17_1 := blk_frozen BK436.out 1; have p440 : 0 ≤ (x5_1 : Int) := oA; have q440 : x5_1 < (l0_1.length : Int) := oA; obtain ⟨ad440, e440, hx440_0⟩ := Kd.at_int HR0_1.out x5_1 p440 q440
           cases e440
           (try replace hx440_0 := (HB.out.cell (World.block_lt_of_cell? w _ hx440_0)).trans hx440_0); replace p440 := eq_true p440; replace q440 := eq_true q440; have p12 : 0 ≤ (x5_1 : Int) := oA; have q12 : (x5_1 : Int) < ((x3_1.length : Int) : Int) := oA; obtain ⟨go12, co12, eo12, gb12, gl12, cl12, HG12⟩ := Kd.R_form HO_3.out (by omega); (first | cases eo12 | (injection eo12 with ea_ en_ ec_; (first | subst ea_ | (injection ea_ with ea_; subst ea_)); subst ec_; clear en_)); have GB12 := Az gb12; have GG12 := Az HG12; clear gb12 gl12 HG12; obtain ⟨hx12_0, hf12_0⟩ := Kd.R_celln 0 HO_3.out (x5_1 : Int) p12 q12; replace p12 := eq_true p12; replace q12 := eq_true q12; obtain ⟨hy18_, hz18_⟩ := Kd.R_celln 0 HO_3.out (x5_1 : Int) (oA) (oA); have HP18 := Kd.R_putg HO_3.out (x5_1 : Int) x4_1
           go_wp2_with (first | ((with_reducible refine gate_store (t := 3) (p := 26) rfl ?_); refine store_event (t := 3) (p := 26) (v := ?vo_w19) (w1 := (wr.setCell ⟨go12, (x5_1 : Int).toNat, none⟩ (.int .i64 x4_1))) ?hg ?ho ?hn ?hr ?_; (case ho => rfl); (case hg => rfl); (case hn => rfl); (case hr => first | (go_simp; done) | (go_simp; rfl)); intro w19 hw; have hg : wr.grownBy w19 (some go12) := (by rw [hw]; exact HP18.2); have hp_ : Kd.R (Kd.int .i64) 3 w19 w.heap.size (fun _ => True) (.slice (some ⟨go12, 0, none⟩) x3_1.length co16) y441 := (by rw [hw, Ny441.out]; exact HP18.1); clear HP18; have n0 := Az (hp_); have n1 := Az (blk_grown (g := gb436) (o := .cells #[.slice A0_0 l0_0.length c0_0, .slice (some ad440) l0_1.length c0_1] 25 (0, 0)) (kU BK436.out) hg (Kd.R_ne HO_3.out BK436.out (by decide))); have n2 := Az ((by rw [hw]; exact below_set (HB.out) GB12.out : Below w.heap.size w w19)); clear HO_3 BK436 HB; have HO_3 := n0; have BK436 := n1; have HB := n2; clear n0 n1 n2 hg hw hp_; have hcz20_0 : w19.cell? ⟨gb436, 0, none⟩ = some (.slice A0_0 l0_0.length c0_0) := (blk_cell BK436.out 0).trans rfl; have hcz20_1 : w19.cell? ⟨gb436, 1, none⟩ = some (.slice (some ad440) l0_1.length c0_1) := (blk_cell BK436.out 1).trans rfl; have hfz20_0 := blk_frozen BK436.out 0; have hfz20_1 := blk_frozen BK436.out 1; have p442 : 0 ≤ (x5_1 : Int) := oA; have q442 : x5_1 < (l0_1.length : Int) := oA; obtain ⟨ad442, e442, hx442_0⟩ := Kd.at_int HR0_1.out x5_1 p442 q442; obtain rfl : ad440 = ad442 := (by injection e442); replace hx442_0 := (HB.out.cell (World.block_lt_of_cell? w _ hx442_0)).trans hx442_0; replace p442 := eq_true p442; replace q442 := eq_true q442; have p15 : 0 ≤ ((rd l0_1 x5_1) : Int) := oA; have q15 : ((rd l0_1 x5_1) : Int) < ((x3_1.length : Int) : Int) := oA; obtain ⟨hx15_0, hf15_0⟩ := Kd.R_celln 0 HO_3.out ((rd l0_1 x5_1) : Int) p15 q15; replace p15 := eq_true p15; replace q15 := eq_true q15; obtain ⟨hy21_, hz21_⟩ := Kd.R_celln 0 HO_3.out ((rd l0_1 x5_1) : Int) (oA) (oA); have HP21 := Kd.R_putg HO_3.out ((rd l0_1 x5_1) : Int) x4_1) | ((with_reducible refine gate_store (t := 3) (p := 34) rfl ?_); refine store_event (t := 3) (p := 34) (v := ?vo_w22) (w1 := (w19.setCell ⟨go12, ((rd l0_1 x5_1) : Int).toNat, none⟩ (.int .i64 x4_1))) ?hg ?ho ?hn ?hr ?_; (case ho => rfl); (case hg => rfl); (case hn => rfl); (case hr => first | (go_simp; done) | (go_simp; rfl)); intro w22 hw; have hg : w19.grownBy w22 (some go12) := (by rw [hw]; exact HP21.2); have hp_ : Kd.R (Kd.int .i64) 3 w22 w.heap.size (fun _ => True) (.slice (some ⟨go12, 0, none⟩) x3_1.length co16) y443 := (by rw [hw, Ny443.out]; exact HP21.1); clear HP21; have n0 := Az (hp_); have n1 := Az (blk_grown (g := gb436) (o := .cells #[.slice A0_0 l0_0.length c0_0, .slice (some ad440) l0_1.length c0_1] 25 (0, 0)) (kU BK436.out) hg (Kd.R_ne HO_3.out BK436.out (by decide))); have n2 := Az ((by rw [hw]; exact below_set (HB.out) GB12.out : Below w.heap.size w w22)); clear HO_3 BK436 HB; have HO_3 := n0; have BK436 := n1; have HB := n2; clear n0 n1 n2; clear hg hw hp_))
           (first | go_roundg k1 | (refine Handed.intro k1 ?measure ?_; rotate_left; go_step; (try simp only [add_plain]); (repeat apply Exists.intro); refine ⟨?rel, rfl⟩))
           case measure => have := HK1.out; omega
           case rel => exact ⟨(y443), (wrap64 (x4_1 + 1)), (wrap64 (x5_1 + 1)), rS, rS, H', ⟨by have := HK1.out; omega⟩, ⟨rU HO_3.out⟩, ⟨kU BK436.out⟩, ⟨bU1 HB.out GE436.out⟩⟩
          ·
           rw [if_neg c14] at H
           exact absurd H (by simp)
         ·
          rw [if_neg c13] at H
          exact absurd H (by simp)
        ·
         rw [if_neg c11] at H; have c11b0 := decide_eq_false c11; clear c11; have H' := Az H; clear H; obtain ⟨Ao23, co23, eo23⟩ := Kd.R_slice HO_3.out; subst eo23; have hcz24_0 : wr.cell? ⟨gb436, 0, none⟩ = some (.slice A0_0 l0_0.length c0_0) := (blk_cell BK436.out 0).trans rfl; have hcz24_1 : wr.cell? ⟨gb436, 1, none⟩ = some (.slice A0_1 l0_1.length c0_1) := (blk_cell BK436.out 1).trans rfl; have hfz24_0 := blk_frozen BK436.out 0; have hfz24_1 := blk_frozen BK436.out 1; have p440 : 0 ≤ (x5_1 : Int) := oA; have q440 : x5_1 < (l0_1.length : Int) := oA; obtain ⟨ad440, e440, hx440_0⟩ := Kd.at_int HR0_1.out x5_1 p440 q440
         cases e440
         (try replace hx440_0 := (HB.out.cell (World.block_lt_of_cell? w _ hx440_0)).trans hx440_0); replace p440 := eq_true p440; replace q440 := eq_true q440
         go_wp2
         (first | go_roundg k1 | (refine Handed.intro k1 ?measure ?_; rotate_left; go_step; (try simp only [add_plain]); (repeat apply Exists.intro); refine ⟨?rel, rfl⟩))
         case measure => have := HK1.out; omega
         case rel => exact ⟨(x3_1), (x4_1), (wrap64 (x5_1 + 1)), rS, rS, H', ⟨by have := HK1.out; omega⟩, ⟨rU HO_3.out⟩, ⟨kU BK436.out⟩, ⟨bU1 HB.out GE436.out⟩⟩
       ·
        rw [if_neg c10] at H
        exact absurd H (by simp)
      ·
       rw [if_neg c9] at H
       exact absurd H (by simp)
     ·
      rw [if_neg c8] at H; have c8b0 := decide_eq_false c8; clear c8; obtain rfl := Option.some.inj H; obtain ⟨Ao25, co25, eo25⟩ := Kd.R_slice HO_3.out; subst eo25
      go_wp2
      go_ret
      exact ⟨_, rE, rU HO_3.out, bU1 HB.out GE436.out⟩
  ·
   rw [if_neg c3] at H
   exact absurd H (by simp)
 ·
  rw [if_neg c2] at H
  exact absurd H (by simp)
mutual
def spec_l7Parts.l0 : Nat → List Int → List Int → List Int → Int → List Int → List Int → Option (Int)
 | 0, _, _, _, _, _, _ => none
 | k + 1, x1, x5, x6, x7, xZ0, xZ1 => if x7 < (x5.length : Int) then (if 0 ≤ x7 then (if x7 < (x6.length : Int) then ((spec_l7Has.f k x1 (rd x6 x7)).bind fun t452 => (if t452 = true then (if x7 < (xZ1.length : Int) then (spec_l7Parts.l0 k x1 (x5.set (x7 : Int).toNat (rd xZ1 x7)) x6 (wrap64 (x7 + 1)) xZ0 xZ1) else (none)) else (spec_l7Parts.l0 k x1 x5 x6 (wrap64 (x7 + 1)) xZ0 xZ1))) else (none)) else (none)) else ((spec_l1Orbits.f k xZ0 x5).bind fun t455 => (spec_l7Parts.l1 k t455 0 0))
def spec_l7Parts.l1 : Nat → List Int → Int → Int → Option (Int)
 | 0, _, _, _ => none
 | k + 1, x8, x9, x10 => if x10 < (x8.length : Int) then (if 0 ≤ x10 then (if (rd x8 x10) = x10 then (spec_l7Parts.l1 k x8 (wrap64 (x9 + 1)) (wrap64 (x10 + 1))) else (spec_l7Parts.l1 k x8 x9 (wrap64 (x10 + 1)))) else (none)) else (some x9)
end
def spec_l7Parts.f (k : Nat) (l0_0 : List Int) (l0_1 : List Int) (l1 : List Int) : Option (Int) := (spec_l1Same.f k (l0_1.length : Int)).bind fun t445 => ((spec_l7Edges.f k l0_0 l0_1).bind fun t448 => (spec_l7Parts.l0 k l1 t445 t448 0 l0_0 l0_1))
set_option maxHeartbeats 8000000 in
set_option maxRecDepth 100000 in
theorem spec_l7Parts.calls (k : Nat) (A0_0 : Option Addr) (c0_0 : Nat) (l0_0 : List Int) (A0_1 : Option Addr) (c0_1 : Nat) (l0_1 : List Int) (A1 : Option Addr) (c1 : Nat) (l1 : List Int) (r : Int) (w : World) (hr0_0 : Kd.C (Kd.int .i64) w A0_0 l0_0.length l0_0) (hc0_0 : l0_0.length ≤ c0_0) (hr0_1 : Kd.C (Kd.int .i64) w A0_1 l0_1.length l0_1) (hc0_1 : l0_1.length ≤ c0_1) (hr1 : Kd.C (Kd.int .i64) w A1 l1.length l1) (hc1 : l1.length ≤ c1) (h : spec_l7Parts.f k l0_0 l0_1 l1 = some r) :
  Calls Try.prog 89 #[.agg #[.slice A0_0 l0_0.length c0_0, .slice A0_1 l0_1.length c0_1], .slice A1 l1.length c1] w fun e w' => e = .returned (.int .i64 r) ∧ Below w.heap.size w w' := by
 have hu25 := Try.underlying25; have HR0_0 := Az hr0_0; have HC0_0 := Az hc0_0; clear hr0_0 hc0_0; have HR0_1 := Az hr0_1; have HC0_1 := Az hc0_1; clear hr0_1 hc0_1; have HR1 := Az hr1; have HC1 := Az hc1; clear hr1 hc1; have HB := Az (Below.refl w.heap.size w); have H : ((spec_l1Same.f k (l0_1.length : Int)).bind fun t445 => ((spec_l7Edges.f k l0_0 l0_1).bind fun t448 => (spec_l7Parts.l0 k l1 t445 t448 0 l0_0 l0_1))) = some r := h; clear h; replace H := Option.bind_eq_some_iff.mp H; obtain ⟨t445, A30, H⟩ := H; replace H : ((spec_l7Edges.f k l0_0 l0_1).bind fun t448 => (spec_l7Parts.l0 k l1 t445 t448 0 l0_0 l0_1)) = some r := H; have A3 := Az A30; clear A30; replace H := Option.bind_eq_some_iff.mp H; obtain ⟨t448, A40, H⟩ := H; replace H : (spec_l7Parts.l0 k l1 t445 t448 0 l0_0 l0_1) = some r := H; have A4 := Az A40; clear A40; have H' := Az H; clear H
 go_enter Try.func89, Try.ntmps89
 go_wp2_with (first | ((with_reducible refine gate_dst (N := 2) rfl ?_); refine box_event ?hg (N := 2) ?hd (cs := #[.slice A0_0 l0_0.length c0_0, .slice A0_1 l0_1.length c0_1]) (t := 25) ?hr ?_; (case hd => rfl); (case hg => rfl); (case hr => first | (go_simp; done) | (go_simp; rfl)); intro gb444 hg w5 hbox hb; have n0 := Az (below_step (bU0 HB.out) hb); have n1 := Az (hbox); have n2 := Az ((by rw [hg]; exact (below_size (bU0 HB.out)) : w.heap.size ≤ gb444)); have n3 := n2; clear HB; have HB := n0; have BK444 := n1; have GW444 := n2; have GE444 := n3; clear n0 n1 n2 n3 hb hbox hg; have hcz6_0 : w5.cell? ⟨gb444, 0, none⟩ = some (.slice A0_0 l0_0.length c0_0) := (blk_cell BK444.out 0).trans rfl; have hcz6_1 : w5.cell? ⟨gb444, 1, none⟩ = some (.slice A0_1 l0_1.length c0_1) := (blk_cell BK444.out 1).trans rfl; have hfz6_0 := blk_frozen BK444.out 0; have hfz6_1 := blk_frozen BK444.out 1) | ((with_reducible refine gate_callee (f := 108) rfl ?_); refine goesL_ (some 14) rfl rfl Try.func108 (by kernel_rfl) rfl #[.int .i64 (l0_1.length : Int)] rfl (by (try simp only [List.map_toArray, List.map_cons, List.map_nil]); first | done | rfl | (simp only [List.length_drop, List.length_take]; rfl)) ?_; (with_reducible refine (spec_l1Same.calls k (l0_1.length : Int) t445 _ A3.out).mono ?_); rintro e w7 ⟨v446, rfl, ho0, hb⟩; refine ⟨_, rfl, ?_⟩; have n0 := Az (Kd.R_lower ho0 (below_size (bU1 HB.out GE444.out))); have n1 := Az (blk_below (g := gb444) (o := .cells #[.slice A0_0 l0_0.length c0_0, .slice A0_1 l0_1.length c0_1] 25 (0, 0)) (kU BK444.out) hb); have n2 := Az (below_step (bU1 HB.out GE444.out) hb); clear BK444 HB; have HO447 := n0; have BK444 := n1; have HB := n2; clear n0 n1 n2; (try clear hb); (try clear hb2); (try clear hk); (try clear hi); (try clear ho0); have hcz8_0 : w7.cell? ⟨gb444, 0, none⟩ = some (.slice A0_0 l0_0.length c0_0) := (blk_cell BK444.out 0).trans rfl; have hcz8_1 : w7.cell? ⟨gb444, 1, none⟩ = some (.slice A0_1 l0_1.length c0_1) := (blk_cell BK444.out 1).trans rfl; have hfz8_0 := blk_frozen BK444.out 0; have hfz8_1 := blk_frozen BK444.out 1) | ((with_reducible refine gate_callee (f := 107) rfl ?_); refine goesL_ (some 16) rfl rfl Try.func107 (by kernel_rfl) rfl #[.agg #[.slice A0_0 l0_0.length c0_0, .slice A0_1 l0_1.length c0_1]] rfl (by (try simp only [List.map_toArray, List.map_cons, List.map_nil]); first | done | rfl | (simp only [List.length_drop, List.length_take]; rfl)) ?_; (with_reducible refine (spec_l7Edges.calls k _ _ l0_0 _ _ l0_1 t448 _ ?side1 ?side2 ?side3 ?side4 A4.out).mono ?_); (case side1 => exact cU (Kd.C_below HR0_0.out HB.out)); (case side2 => exact HC0_0.out); (case side3 => exact cU (Kd.C_below HR0_1.out HB.out)); (case side4 => exact HC0_1.out); rintro e w9 ⟨v449, rfl, ho0, hb⟩; refine ⟨_, rfl, ?_⟩; have n0 := Az (Kd.R_elder' (rU HO447.out) (Kd.R_base ho0) hb); have n1 := Az (Kd.R_lower (Kd.R_new' ho0 (Kd.R_lt (rU HO447.out))) (below_size (bU1 HB.out GE444.out))); have n2 := Az (blk_below (g := gb444) (o := .cells #[.slice A0_0 l0_0.length c0_0, .slice A0_1 l0_1.length c0_1] 25 (0, 0)) (kU BK444.out) hb); have n3 := Az (below_step (bU1 HB.out GE444.out) hb); clear HO447 BK444 HB; have HO447 := n0; have HO450 := n1; have BK444 := n2; have HB := n3; clear n0 n1 n2 n3; (try clear hb); (try clear hb2); (try clear hk); (try clear hi); (try clear ho0)))
 go_loopg [7] k (fun kq v7 w' => ∃ (x5_1 : List Int) (x7_1 : Int), v7 = .int .i64 x7_1 ∧ Aside0 (spec_l7Parts.l0 kq l1 x5_1 t448 x7_1 l0_0 l0_1 = some r) ∧ Aside0 (kq ≤ k) ∧ Aside0 (Kd.R (Kd.int .i64) 3 w' w.heap.size (fun k_ => some k_ ≠ (v449 : Value).ownBlock) v446 x5_1) ∧ Aside0 (Kd.R (Kd.int .i64) 3 w' w.heap.size (fun k_ => some k_ ≠ (v446 : Value).ownBlock) v449 t448) ∧ Aside0 (w'.heap[gb444]? = some (.cells #[(.slice A0_0 l0_0.length c0_0), (.slice A0_1 l0_1.length c0_1)] 25 (0, 0))) ∧ Aside0 (Below w.heap.size w w'))
 case atStart => exact ⟨(t445), (0), rS, H', ⟨Nat.le_refl _⟩, ⟨by (with_reducible repeat (first | apply Kd.R_alloc | apply Kd.R_drewN | apply Kd.R_drew)); exact Kd.R_mono HO447.out (fun _ hk => hk.2)⟩, ⟨by (with_reducible repeat (first | apply Kd.R_alloc | apply Kd.R_drewN | apply Kd.R_drew)); exact Kd.R_mono HO450.out (fun _ hk => hk.2)⟩, ⟨kU BK444.out⟩, ⟨bU1 HB.out GE444.out⟩⟩
 case round =>
  clear H'; (try clear c1); (try clear p2); (try clear c8); (try clear hcz6_0); (try clear hcz6_1); (try clear hcz8_0); (try clear hcz8_1); (try clear hfz6_0); (try clear hfz6_1); (try clear hfz8_0); (try clear hfz8_1); obtain ⟨x5_1, x7_1, rfl, HA, HK1, HO_5, HO_6, BK444, HB⟩ := hrel
  cases gk with
  | zero => exact absurd HA.out (by simp [spec_l7Parts.l0])
  | succ k1 =>
   have H := HA.out; clear HA; simp only [spec_l7Parts.l0] at H
   by_cases c10 : x7_1 < (x5_1.length : Int)
   ·
    rw [if_pos c10] at H; have c10b0 := decide_eq_true c10; clear c10
    by_cases c11 : 0 ≤ x7_1
    ·
     rw [if_pos c11] at H; have c11b0 := decide_eq_true c11; clear c11
     by_cases c12 : x7_1 < (t448.length : Int)
     ·
      rw [if_pos c12] at H; have c12b0 := decide_eq_true c12; clear c12; replace H := Option.bind_eq_some_iff.mp H; obtain ⟨t452, A130, H⟩ := H; replace H : (if t452 = true then (if x7_1 < (l0_1.length : Int) then (spec_l7Parts.l0 k1 l1 (x5_1.set (x7_1 : Int).toNat (rd l0_1 x7_1)) t448 (wrap64 (x7_1 + 1)) l0_0 l0_1) else (none)) else (spec_l7Parts.l0 k1 l1 x5_1 t448 (wrap64 (x7_1 + 1)) l0_0 l0_1)) = some r := H; have A13 := Az A130; clear A130
      by_cases c14 : t452 = true
      ·
       subst c14
       have H1 : (if x7_1 < (l0_1.length : Int) then (spec_l7Parts.l0 k1 l1 (x5_1.set (x7_1 : Int).toNat (rd l0_1 x7_1)) t448 (wrap64 (x7_1 + 1)) l0_0 l0_1) else (none)) = some r := by rw [if_pos rfl] at H; exact H
       clear H; have H := H1; clear H1
       by_cases c15 : x7_1 < (l0_1.length : Int)
       ·
        rw [if_pos c15] at H; have c15b0 := decide_eq_true c15; clear c15; obtain ⟨y454, hy454⟩ : ∃ y_ : List Int, y_ = (x5_1.set (x7_1 : Int).toNat (rd l0_1 x7_1)) := ⟨_, rfl⟩; replace H : (spec_l7Parts.l0 k1 l1 y454 t448 (wrap64 (x7_1 + 1)) l0_0 l0_1) = some r := hR hy454 H; have Ny454 := Az hy454; clear hy454; have H' := Az H; clear H; obtain ⟨Ao17, co17, eo17⟩ := Kd.R_slice HO_5.out; subst eo17; obtain ⟨Ao18, co18, eo18⟩ := Kd.R_slice HO_6.out; subst eo18; have p451 : 0 ≤ (x7_1 : Int) := oA; have q451 : x7_1 < (t448.length : Int) := oA; obtain ⟨ad451, e451, hx451_0⟩ := Kd.at_int (Kd.R_reads' HO_6.out).2.2 x7_1 p451 q451
        cases e451
        replace p451 := eq_true p451; replace q451 := eq_true q451
        go_wp2_with (first | ((with_reducible refine gate_callee (f := 67) rfl ?_); refine goesL_ (some 28) rfl rfl Try.func67 (by kernel_rfl) rfl #[.slice A1 l1.length c1, .int .i64 (rd t448 x7_1)] rfl (by (try simp only [List.map_toArray, List.map_cons, List.map_nil]); first | done | rfl | (simp only [List.length_drop, List.length_take]; rfl)) ?_; (with_reducible refine (spec_l7Has.calls k1 _ _ l1 (rd t448 x7_1) true _ ?side1 ?side2 A13.out).mono ?_); (case side1 => exact cU (Kd.C_below HR1.out HB.out)); (case side2 => exact HC1.out); rintro e w' ⟨rfl, ⟨nd, rfl⟩⟩; refine ⟨_, rfl, ?_⟩; (try (rw [drewN_self wr]; generalize hq_ : World.drewN wr _ = wr; have n0 : Aside0 (Kd.R (Kd.int .i64) 3 wr w.heap.size (fun k_ => some k_ ≠ (.slice (some ad451) t448.length co18 : Value).ownBlock) (.slice Ao17 x5_1.length co17) x5_1) := ⟨by rw [← hq_]; exact (rU HO_5.out)⟩; have n1 : Aside0 (Kd.R (Kd.int .i64) 3 wr w.heap.size (fun k_ => some k_ ≠ (.slice Ao17 x5_1.length co17 : Value).ownBlock) (.slice (some ad451) t448.length co18) t448) := ⟨by rw [← hq_]; exact (rU HO_6.out)⟩; have n2 : Aside0 (wr.heap[gb444]? = some (.cells #[.slice A0_0 l0_0.length c0_0, .slice A0_1 l0_1.length c0_1] 25 (0, 0))) := ⟨by rw [← hq_]; exact (kU BK444.out)⟩; have n3 : Aside0 (Below w.heap.size w wr) := ⟨by rw [← hq_]; exact (bU1 HB.out GE444.out)⟩; clear HO_5 HO_6 BK444 HB hq_; have HO_5 := n0; have HO_6 := n1; have BK444 := n2; have HB := n3; clear n0 n1 n2 n3)); have hcz19_0 : wr.cell? ⟨gb444, 0, none⟩ = some (.slice A0_0 l0_0.length c0_0) := (blk_cell BK444.out 0).trans rfl; have hcz19_1 : wr.cell? ⟨gb444, 1, none⟩ = some (.slice A0_1 l0_1.length c0_1) := (blk_cell BK444.out 1).trans rfl; have hfz19_0 := blk_frozen BK444.out 0; have hfz19_1 := blk_frozen BK444.out 1; have p453 : 0 ≤ (x7_1 : Int) := oA; have q453 : x7_1 < (l0_1.length : Int) := oA; obtain ⟨ad453, e453, hx453_0⟩ := Kd.at_int HR0_1.out x7_1 p453 q453; cases e453; replace hx453_0 := (HB.out.cell (World.block_lt_of_cell? w _ hx453_0)).trans hx453_0; replace p453 := eq_true p453; replace q453 := eq_true q453; have p16 : 0 ≤ (x7_1 : Int) := oA; have q16 : (x7_1 : Int) < ((x5_1.length : Int) : Int) := oA; obtain ⟨go16, co16, eo16, gb16, gl16, cl16, HG16⟩ := Kd.R_form HO_5.out (by omega); (first | cases eo16 | (injection eo16 with ea_ en_ ec_; (first | subst ea_ | (injection ea_ with ea_; subst ea_)); subst ec_; clear en_)); have GB16 := Az gb16; have GG16 := Az HG16; clear gb16 gl16 HG16; obtain ⟨hx16_0, hf16_0⟩ := Kd.R_celln 0 HO_5.out (x7_1 : Int) p16 q16; replace p16 := eq_true p16; replace q16 := eq_true q16; obtain ⟨hy20_, hz20_⟩ := Kd.R_celln 0 HO_5.out (x7_1 : Int) (oA) (oA); have HP20 := Kd.R_putg HO_5.out (x7_1 : Int) (rd l0_1 x7_1)) | ((with_reducible refine gate_store (t := 3) (p := 36) rfl ?_); refine store_event (t := 3) (p := 36) (v := ?vo_w21) (w1 := (wr.setCell ⟨go16, (x7_1 : Int).toNat, none⟩ (.int .i64 (rd l0_1 x7_1)))) ?hg ?ho ?hn ?hr ?_; (case ho => rfl); (case hg => rfl); (case hn => rfl); (case hr => first | (go_simp; done) | (go_simp; rfl)); intro w21 hw; have hg : wr.grownBy w21 (some go16) := (by rw [hw]; exact HP20.2); have hp_ : Kd.R (Kd.int .i64) 3 w21 w.heap.size (fun k_ => some k_ ≠ (.slice (some ad451) t448.length co18 : Value).ownBlock) (.slice (some ⟨go16, 0, none⟩) x5_1.length co17) y454 := (by rw [hw, Ny454.out]; exact HP20.1); clear HP20; have n0 := Az (hp_); have n1 := Az (Kd.R_after (v := (.slice (some ⟨go16, 0, none⟩) x5_1.length co17)) (v1 := (.slice (some ⟨go16, 0, none⟩) x5_1.length co17)) (ok := (fun _ => True)) (by (with_reducible repeat (first | apply Kd.R_alloc | apply Kd.R_drewN | apply Kd.R_drew)); exact Kd.R_mono HO_6.out (fun _ hk => ⟨trivial, hk⟩)) hg (.inl rfl)); have n2 := Az (blk_grown (g := gb444) (o := .cells #[.slice A0_0 l0_0.length c0_0, .slice (some ad453) l0_1.length c0_1] 25 (0, 0)) (kU BK444.out) hg (Kd.R_ne HO_5.out BK444.out (by decide))); have n3 := Az ((by rw [hw]; exact below_set (HB.out) GB16.out : Below w.heap.size w w21)); clear HO_5 HO_6 BK444 HB; have HO_5 := n0; have HO_6 := n1; have BK444 := n2; have HB := n3; clear n0 n1 n2 n3; clear hg hw hp_))
        (first | go_roundg k1 | (refine Handed.intro k1 ?measure ?_; rotate_left; go_step; (try simp only [add_plain]); (repeat apply Exists.intro); refine ⟨?rel, rfl⟩))
        case measure => have := HK1.out; omega
        case rel => exact ⟨(y454), (wrap64 (x7_1 + 1)), rS, H', ⟨by have := HK1.out; omega⟩, ⟨rU HO_5.out⟩, ⟨by (with_reducible repeat (first | apply Kd.R_alloc | apply Kd.R_drewN | apply Kd.R_drew)); exact Kd.R_mono HO_6.out (fun _ hk => hk.2)⟩, ⟨kU BK444.out⟩, ⟨bU1 HB.out GE444.out⟩⟩
       ·
        rw [if_neg c15] at H
        exact absurd H (by simp)
      ·
       replace c14 := Bool.eq_false_iff.mpr c14; subst c14
       have H1 : (spec_l7Parts.l0 k1 l1 x5_1 t448 (wrap64 (x7_1 + 1)) l0_0 l0_1) = some r := by rw [if_neg (show ¬ (false = true) by decide)] at H; exact H
       clear H; have H := H1; clear H1; have H' := Az H; clear H; obtain ⟨Ao22, co22, eo22⟩ := Kd.R_slice HO_5.out; subst eo22; obtain ⟨Ao23, co23, eo23⟩ := Kd.R_slice HO_6.out; subst eo23; have p451 : 0 ≤ (x7_1 : Int) := oA; have q451 : x7_1 < (t448.length : Int) := oA; obtain ⟨ad451, e451, hx451_0⟩ := Kd.at_int (Kd.R_reads' HO_6.out).2.2 x7_1 p451 q451
       cases e451
       replace p451 := eq_true p451; replace q451 := eq_true q451
       go_wp2_with (first | ((with_reducible refine gate_callee (f := 67) rfl ?_); refine goesL_ (some 28) rfl rfl Try.func67 (by kernel_rfl) rfl #[.slice A1 l1.length c1, .int .i64 (rd t448 x7_1)] rfl (by (try simp only [List.map_toArray, List.map_cons, List.map_nil]); first | done | rfl | (simp only [List.length_drop, List.length_take]; rfl)) ?_; (with_reducible refine (spec_l7Has.calls k1 _ _ l1 (rd t448 x7_1) false _ ?side1 ?side2 A13.out).mono ?_); (case side1 => exact cU (Kd.C_below HR1.out HB.out)); (case side2 => exact HC1.out); rintro e w' ⟨rfl, ⟨nd, rfl⟩⟩; refine ⟨_, rfl, ?_⟩))
       (first | go_roundg k1 | (refine Handed.intro k1 ?measure ?_; rotate_left; go_step; (try simp only [add_plain]); (repeat apply Exists.intro); refine ⟨?rel, rfl⟩))
       case measure => have := HK1.out; omega
       case rel => exact ⟨(x5_1), (wrap64 (x7_1 + 1)), rS, H', ⟨by have := HK1.out; omega⟩, ⟨rU HO_5.out⟩, ⟨rU HO_6.out⟩, ⟨kU BK444.out⟩, ⟨bU1 HB.out GE444.out⟩⟩
     ·
      rw [if_neg c12] at H
      exact absurd H (by simp)
    ·
     rw [if_neg c11] at H
     exact absurd H (by simp)
   ·
    rw [if_neg c10] at H; have c10b0 := decide_eq_false c10; clear c10; replace H := Option.bind_eq_some_iff.mp H; obtain ⟨t455, A240, H⟩ := H; replace H : (spec_l7Parts.l1 k1 t455 0 0) = some r := H; have A24 := Az A240; clear A240; have H' := Az H; clear H; obtain ⟨Ao25, co25, eo25⟩ := Kd.R_slice HO_5.out; subst eo25; have hcz26_0 : wr.cell? ⟨gb444, 0, none⟩ = some (.slice A0_0 l0_0.length c0_0) := (blk_cell BK444.out 0).trans rfl; have hcz26_1 : wr.cell? ⟨gb444, 1, none⟩ = some (.slice A0_1 l0_1.length c0_1) := (blk_cell BK444.out 1).trans rfl; have hfz26_0 := blk_frozen BK444.out 0; have hfz26_1 := blk_frozen BK444.out 1
    go_wp2_with (first | ((with_reducible refine gate_callee (f := 99) rfl ?_); refine goesL_ (some 40) rfl rfl Try.func99 (by kernel_rfl) rfl #[.slice A0_0 l0_0.length c0_0, .slice Ao25 x5_1.length co25] rfl (by (try simp only [List.map_toArray, List.map_cons, List.map_nil]); first | done | rfl | (simp only [List.length_drop, List.length_take]; rfl)) ?_; (with_reducible refine (spec_l1Orbits.calls k1 _ _ l0_0 _ _ x5_1 t455 _ ?side1 ?side2 ?side3 ?side4 A24.out).mono ?_); (case side1 => exact cU (Kd.C_below HR0_0.out HB.out)); (case side2 => exact HC0_0.out); (case side3 => exact cU ((Kd.R_reads' HO_5.out).2.2)); (case side4 => exact (Kd.R_reads' HO_5.out).2.1); rintro e w27 ⟨v456, rfl, ho0, hb⟩; refine ⟨_, rfl, ?_⟩; have n0 := Az (Kd.R_elder' (rU HO_5.out) (Kd.R_base ho0) hb); have n1 := Az (Kd.R_elder' (rU HO_6.out) (Kd.R_base ho0) hb); have n2 := Az (Kd.R_lower (Kd.R_new' (Kd.R_new' ho0 (Kd.R_lt (rU HO_5.out))) (Kd.R_lt (rU HO_6.out))) (below_size (bU1 HB.out GE444.out))); have n3 := Az (blk_below (g := gb444) (o := .cells #[.slice A0_0 l0_0.length c0_0, .slice A0_1 l0_1.length c0_1] 25 (0, 0)) (kU BK444.out) hb); have n4 := Az (below_step (bU1 HB.out GE444.out) hb); clear HO_5 HO_6 BK444 HB; have HO_5 := n0; have HO_6 := n1; have HO457 := n2; have BK444 := n3; have HB := n4; clear n0 n1 n2 n3 n4; (try clear hb); (try clear hb2); (try clear hk); (try clear hi); (try clear ho0)))
    go_loopg [9, 10] k1 (fun kq v9 v10 w' => ∃ (x9_2 : Int) (x10_2 : Int), v9 = .int .i64 x9_2 ∧ v10 = .int .i64 x10_2 ∧ Aside0 (spec_l7Parts.l1 kq t455 x9_2 x10_2 = some r) ∧ Aside0 (kq ≤ k1) ∧ Aside0 (Kd.R (Kd.int .i64) 3 w' w.heap.size (fun _ => True) v456 t455) ∧ Aside0 (w'.heap[gb444]? = some (.cells #[(.slice A0_0 l0_0.length c0_0), (.slice A0_1 l0_1.length c0_1)] 25 (0, 0))) ∧ Aside0 (Below w.heap.size w w'))
    case atStart => exact ⟨(0), (0), rS, rS, H', ⟨Nat.le_refl _⟩, ⟨by (with_reducible repeat (first | apply Kd.R_alloc | apply Kd.R_drewN | apply Kd.R_drew)); exact Kd.R_mono HO457.out (fun _ hk => trivial)⟩, ⟨kU BK444.out⟩, ⟨bU1 HB.out GE444.out⟩⟩
    case round =>
     clear H'; (try clear c1); (try clear p1); (try clear q1); (try clear hx1); (try clear p2); (try clear p4); (try clear q4); (try clear hx4); (try clear c6); (try clear p6); (try clear c8); (try clear c9); (try clear c10); (try clear c10b0); (try clear c11); (try clear c11b0); (try clear c12); (try clear c12b0); (try clear c14); (try clear c15); (try clear c15b0); (try clear p16); (try clear q16); (try clear hx16); (try clear hf16); (try clear hcz19_0); (try clear hcz19_1); (try clear hcz26_0); (try clear hcz26_1); (try clear hcz6_0); (try clear hcz6_1); (try clear hcz8_0); (try clear hcz8_1); (try clear hfz19_0); (try clear hfz19_1); (try clear hfz26_0); (try clear hfz26_1); (try clear hfz6_0); (try clear hfz6_1); (try clear hfz8_0); (try clear hfz8_1); (try clear hx16_0); (try clear hx451_0); (try clear hx453_0); (try clear p16); (try clear p2); (try clear p451); (try clear p453); (try clear q16); (try clear q451); (try clear q453); obtain ⟨x9_2, x10_2, rfl, rfl, HA, HK2, HO_8, BK444, HB⟩ := hrel
     cases gk with
     | zero => exact absurd HA.out (by simp [spec_l7Parts.l1])
     | succ k2 =>
      have H := HA.out; clear HA; simp only [spec_l7Parts.l1] at H
      by_cases c28 : x10_2 < (t455.length : Int)
      ·
       rw [if_pos c28] at H; have c28b0 := decide_eq_true c28; clear c28
       by_cases c29 : 0 ≤ x10_2
       ·
        rw [if_pos c29] at H; have c29b0 := decide_eq_true c29; clear c29
        by_cases c30 : (rd t455 x10_2) = x10_2
        ·
         rw [if_pos c30] at H; have c30b0 := beq_iff_eq.mpr c30; have c30b1 := bne_eq_false_iff_eq.mpr c30; clear c30; have H' := Az H; clear H; obtain ⟨Ao31, co31, eo31⟩ := Kd.R_slice HO_8.out; subst eo31; have p458 : 0 ≤ (x10_2 : Int) := oA; have q458 : x10_2 < (t455.length : Int) := oA; obtain ⟨ad458, e458, hx458_0⟩ := Kd.at_int (Kd.R_reads' HO_8.out).2.2 x10_2 p458 q458
         cases e458
         replace p458 := eq_true p458; replace q458 := eq_true q458
         go_wp2
         (first | go_roundg k2 | (refine Handed.intro k2 ?measure ?_; rotate_left; go_step; (try simp only [add_plain]); (repeat apply Exists.intro); refine ⟨?rel, rfl⟩))
         case measure => have := HK1.out; have := HK2.out; omega
         case rel => exact ⟨(wrap64 (x9_2 + 1)), (wrap64 (x10_2 + 1)), rS, rS, H', ⟨by have := HK1.out; have := HK2.out; omega⟩, ⟨rU HO_8.out⟩, ⟨kU BK444.out⟩, ⟨bU1 HB.out GE444.out⟩⟩
        ·
         rw [if_neg c30] at H; have c30b0 := beq_eq_false_iff_ne.mpr c30; have c30b1 := bne_iff_ne.mpr c30; have H' := Az H; clear H; obtain ⟨Ao32, co32, eo32⟩ := Kd.R_slice HO_8.out; subst eo32; have p458 : 0 ≤ (x10_2 : Int) := oA; have q458 : x10_2 < (t455.length : Int) := oA; obtain ⟨ad458, e458, hx458_0⟩ := Kd.at_int (Kd.R_reads' HO_8.out).2.2 x10_2 p458 q458
         cases e458
         replace p458 := eq_true p458; replace q458 := eq_true q458
         go_wp2
         (first | go_roundg k2 | (refine Handed.intro k2 ?measure ?_; rotate_left; go_step; (try simp only [add_plain]); (repeat apply Exists.intro); refine ⟨?rel, rfl⟩))
         case measure => have := HK1.out; have := HK2.out; omega
         case rel => exact ⟨(x9_2), (wrap64 (x10_2 + 1)), rS, rS, H', ⟨by have := HK1.out; have := HK2.out; omega⟩, ⟨rU HO_8.out⟩, ⟨kU BK444.out⟩, ⟨bU1 HB.out GE444.out⟩⟩
       ·
        rw [if_neg c29] at H
        exact absurd H (by simp)
      ·
       rw [if_neg c28] at H; have c28b0 := decide_eq_false c28; clear c28; obtain rfl := Option.some.inj H; obtain ⟨Ao33, co33, eo33⟩ := Kd.R_slice HO_8.out; subst eo33
       go_wp2
       go_ret
       exact ⟨rE, bU1 HB.out GE444.out⟩
mutual
def spec_l7Sides.l0 : Nat → List Int → List Int → List Int → Int → List (List Int) → Int → List Int → List Int → Option (Int)
 | 0, _, _, _, _, _, _, _, _ => none
 | k + 1, x1, x5, x6, x7, x8, x9, xZ0, xZ1 => if x9 < (x8.length : Int) then (spec_l7Sides.l1 k x1 x5 x6 x7 x8 x9 0 0 xZ0 xZ1) else (spec_l7Sides.l2 k x1 x5 x6 x7 0 xZ0 xZ1)
def spec_l7Sides.l1 : Nat → List Int → List Int → List Int → Int → List (List Int) → Int → Int → Int → List Int → List Int → Option (Int)
 | 0, _, _, _, _, _, _, _, _, _, _ => none
 | k + 1, x1, x5, x6, x7, x8, x9, x10, x11, xZ0, xZ1 => if 0 ≤ x9 then (if x9 < (x8.length : Int) then (if x11 < ((rd_L1 x8 x9).length : Int) then (if 0 ≤ x11 then (if 0 ≤ (rd (rd_L1 x8 x9) x11) then (if (rd (rd_L1 x8 x9) x11) < (x5.length : Int) then ((spec_l7Has.f k x1 (rd x5 (rd (rd_L1 x8 x9) x11))).bind fun t473 => (if t473 = true then (spec_l7Sides.l1 k x1 x5 x6 x7 x8 x9 (wrap64 (x10 + 1)) (wrap64 (x11 + 1)) xZ0 xZ1) else (spec_l7Sides.l1 k x1 x5 x6 x7 x8 x9 x10 (wrap64 (x11 + 1)) xZ0 xZ1))) else (none)) else (none)) else (none)) else (if x10 = 0 then (spec_l7Sides.l0 k x1 x5 x6 (wrap64 (x7 + 1)) x8 (wrap64 (x9 + 1)) xZ0 xZ1) else (spec_l7Sides.l0 k x1 x5 x6 x7 x8 (wrap64 (x9 + 1)) xZ0 xZ1))) else (none)) else (none)
def spec_l7Sides.l2 : Nat → List Int → List Int → List Int → Int → Int → List Int → List Int → Option (Int)
 | 0, _, _, _, _, _, _, _ => none
 | k + 1, x1, x5, x6, x7, x12, xZ0, xZ1 => if x12 < (x6.length : Int) then (if 0 ≤ x12 then (if x12 < (x5.length : Int) then ((spec_l7Has.f k x1 (rd x5 x12)).bind fun t478 => (if t478 = true then (if x12 < (xZ1.length : Int) then (if 0 ≤ (rd xZ1 x12) then (if (rd xZ1 x12) < (xZ0.length : Int) then (spec_l7Sides.l3 k x1 x5 x6 x7 x12 (rd xZ0 (rd xZ1 x12)) xZ0 xZ1) else (none)) else (none)) else (none)) else (spec_l7Sides.l2 k x1 x5 x6 x7 (wrap64 (x12 + 1)) xZ0 xZ1))) else (none)) else (none)) else ((spec_l1Cycles.f k x6).bind fun t474 => (some (wrap64 ((wrap64 ((t474.length : Int) - (wrap64 ((x6.length : Int) - (wrap64 (2 * (x1.length : Int))))))) + x7))))
def spec_l7Sides.l3 : Nat → List Int → List Int → List Int → Int → Int → Int → List Int → List Int → Option (Int)
 | 0, _, _, _, _, _, _, _, _ => none
 | k + 1, x1, x5, x6, x7, x12, x13, xZ0, xZ1 => if 0 ≤ x13 then (if x13 < (x5.length : Int) then ((spec_l7Has.f k x1 (rd x5 x13)).bind fun t482 => (if t482 = true then (if 0 ≤ x12 then (if x12 < (x6.length : Int) then (spec_l7Sides.l2 k x1 x5 (x6.set (x12 : Int).toNat x13) x7 (wrap64 (x12 + 1)) xZ0 xZ1) else (none)) else (none)) else (if x13 < (xZ0.length : Int) then (spec_l7Sides.l3 k x1 x5 x6 x7 x12 (rd xZ0 x13) xZ0 xZ1) else (none)))) else (none)) else (none)
end
def spec_l7Sides.f (k : Nat) (l0_0 : List Int) (l0_1 : List Int) (l1 : List Int) : Option (Int) := (spec_l7Edges.f k l0_0 l0_1).bind fun t460 => ((spec_l1Same.f k (l0_1.length : Int)).bind fun t463 => ((spec_l1Cycles.f k l0_0).bind fun t466 => (spec_l7Sides.l0 k l1 t460 t463 0 t466 0 l0_0 l0_1)))
set_option maxHeartbeats 8000000 in
set_option maxRecDepth 100000 in
theorem spec_l7Sides.calls (k : Nat) (A0_0 : Option Addr) (c0_0 : Nat) (l0_0 : List Int) (A0_1 : Option Addr) (c0_1 : Nat) (l0_1 : List Int) (A1 : Option Addr) (c1 : Nat) (l1 : List Int) (r : Int) (w : World) (hr0_0 : Kd.C (Kd.int .i64) w A0_0 l0_0.length l0_0) (hc0_0 : l0_0.length ≤ c0_0) (hr0_1 : Kd.C (Kd.int .i64) w A0_1 l0_1.length l0_1) (hc0_1 : l0_1.length ≤ c0_1) (hr1 : Kd.C (Kd.int .i64) w A1 l1.length l1) (hc1 : l1.length ≤ c1) (h : spec_l7Sides.f k l0_0 l0_1 l1 = some r) :
  Calls Try.prog 104 #[.agg #[.slice A0_0 l0_0.length c0_0, .slice A0_1 l0_1.length c0_1], .slice A1 l1.length c1] w fun e w' => e = .returned (.int .i64 r) ∧ Below w.heap.size w w' := by
 have hu25 := Try.underlying25; have HR0_0 := Az hr0_0; have HC0_0 := Az hc0_0; clear hr0_0 hc0_0; have HR0_1 := Az hr0_1; have HC0_1 := Az hc0_1; clear hr0_1 hc0_1; have HR1 := Az hr1; have HC1 := Az hc1; clear hr1 hc1; have HB := Az (Below.refl w.heap.size w); have H : ((spec_l7Edges.f k l0_0 l0_1).bind fun t460 => ((spec_l1Same.f k (l0_1.length : Int)).bind fun t463 => ((spec_l1Cycles.f k l0_0).bind fun t466 => (spec_l7Sides.l0 k l1 t460 t463 0 t466 0 l0_0 l0_1)))) = some r := h; clear h; replace H := Option.bind_eq_some_iff.mp H; obtain ⟨t460, A30, H⟩ := H; replace H : ((spec_l1Same.f k (l0_1.length : Int)).bind fun t463 => ((spec_l1Cycles.f k l0_0).bind fun t466 => (spec_l7Sides.l0 k l1 t460 t463 0 t466 0 l0_0 l0_1))) = some r := H; have A3 := Az A30; clear A30; replace H := Option.bind_eq_some_iff.mp H; obtain ⟨t463, A40, H⟩ := H; replace H : ((spec_l1Cycles.f k l0_0).bind fun t466 => (spec_l7Sides.l0 k l1 t460 t463 0 t466 0 l0_0 l0_1)) = some r := H; have A4 := Az A40; clear A40; replace H := Option.bind_eq_some_iff.mp H; obtain ⟨t466, A50, H⟩ := H; replace H : (spec_l7Sides.l0 k l1 t460 t463 0 t466 0 l0_0 l0_1) = some r := H; have A5 := Az A50; clear A50; have H' := Az H; clear H
 go_enter Try.func104, Try.ntmps104
 go_wp2_with (first | ((with_reducible refine gate_dst (N := 2) rfl ?_); refine box_event ?hg (N := 2) ?hd (cs := #[.slice A0_0 l0_0.length c0_0, .slice A0_1 l0_1.length c0_1]) (t := 25) ?hr ?_; (case hd => rfl); (case hg => rfl); (case hr => first | (go_simp; done) | (go_simp; rfl)); intro gb459 hg w6 hbox hb; have n0 := Az (below_step (bU0 HB.out) hb); have n1 := Az (hbox); have n2 := Az ((by rw [hg]; exact (below_size (bU0 HB.out)) : w.heap.size ≤ gb459)); have n3 := n2; clear HB; have HB := n0; have BK459 := n1; have GW459 := n2; have GE459 := n3; clear n0 n1 n2 n3 hb hbox hg; have hcz7_0 : w6.cell? ⟨gb459, 0, none⟩ = some (.slice A0_0 l0_0.length c0_0) := (blk_cell BK459.out 0).trans rfl; have hcz7_1 : w6.cell? ⟨gb459, 1, none⟩ = some (.slice A0_1 l0_1.length c0_1) := (blk_cell BK459.out 1).trans rfl; have hfz7_0 := blk_frozen BK459.out 0; have hfz7_1 := blk_frozen BK459.out 1) | (go_at_call 107; (with_reducible refine (spec_l7Edges.calls k _ _ l0_0 _ _ l0_1 t460 _ ?side1 ?side2 ?side3 ?side4 A3.out).mono ?_); (case side1 => exact cU (Kd.C_below HR0_0.out HB.out)); (case side2 => exact HC0_0.out); (case side3 => exact cU (Kd.C_below HR0_1.out HB.out)); (case side4 => exact HC0_1.out); rintro e w8 ⟨v461, rfl, ho0, hb⟩; have n0 := Az (Kd.R_lower ho0 (below_size (bU1 HB.out GE459.out))); have n1 := Az (blk_below (g := gb459) (o := .cells #[.slice A0_0 l0_0.length c0_0, .slice A0_1 l0_1.length c0_1] 25 (0, 0)) (kU BK459.out) hb); have n2 := Az (below_step (bU1 HB.out GE459.out) hb); clear BK459 HB; have HO462 := n0; have BK459 := n1; have HB := n2; clear n0 n1 n2; (try clear hb); (try clear hb2); (try clear hk); (try clear hi); (try clear ho0); have hcz9_0 : w8.cell? ⟨gb459, 0, none⟩ = some (.slice A0_0 l0_0.length c0_0) := (blk_cell BK459.out 0).trans rfl; have hcz9_1 : w8.cell? ⟨gb459, 1, none⟩ = some (.slice A0_1 l0_1.length c0_1) := (blk_cell BK459.out 1).trans rfl; have hfz9_0 := blk_frozen BK459.out 0; have hfz9_1 := blk_frozen BK459.out 1) | (go_at_call 108; (with_reducible refine (spec_l1Same.calls k (l0_1.length : Int) t463 _ A4.out).mono ?_); rintro e w10 ⟨v464, rfl, ho0, hb⟩; have n0 := Az (Kd.R_elder' (rU HO462.out) (Kd.R_base ho0) hb); have n1 := Az (Kd.R_lower (Kd.R_new' ho0 (Kd.R_lt (rU HO462.out))) (below_size (bU1 HB.out GE459.out))); have n2 := Az (blk_below (g := gb459) (o := .cells #[.slice A0_0 l0_0.length c0_0, .slice A0_1 l0_1.length c0_1] 25 (0, 0)) (kU BK459.out) hb); have n3 := Az (below_step (bU1 HB.out GE459.out) hb); clear HO462 BK459 HB; have HO462 := n0; have HO465 := n1; have BK459 := n2; have HB := n3; clear n0 n1 n2 n3; (try clear hb); (try clear hb2); (try clear hk); (try clear hi); (try clear ho0); have hcz11_0 : w10.cell? ⟨gb459, 0, none⟩ = some (.slice A0_0 l0_0.length c0_0) := (blk_cell BK459.out 0).trans rfl; have hcz11_1 : w10.cell? ⟨gb459, 1, none⟩ = some (.slice A0_1 l0_1.length c0_1) := (blk_cell BK459.out 1).trans rfl; have hfz11_0 := blk_frozen BK459.out 0; have hfz11_1 := blk_frozen BK459.out 1) | (go_at_call 81; (with_reducible refine (spec_l1Cycles.calls k _ _ l0_0 t466 _ ?side1 ?side2 A5.out).mono ?_); (case side1 => exact cU (Kd.C_below HR0_0.out HB.out)); (case side2 => exact HC0_0.out); rintro e w12 ⟨v467, rfl, ho0, hb⟩; have n0 := Az (Kd.R_below (rU HO462.out) hb); have n1 := Az (Kd.R_below (rU HO465.out) hb); have n2 := Az (Kd.S_lower (Kd.S_new' (Kd.S_new' ho0 (Kd.R_lt (rU HO462.out))) (Kd.R_lt (rU HO465.out))) (below_size (bU1 HB.out GE459.out))); have n3 := Az (blk_below (g := gb459) (o := .cells #[.slice A0_0 l0_0.length c0_0, .slice A0_1 l0_1.length c0_1] 25 (0, 0)) (kU BK459.out) hb); have n4 := Az (below_step (bU1 HB.out GE459.out) hb); clear HO462 HO465 BK459 HB; have HO462 := n0; have HO465 := n1; have HO468 := n2; have BK459 := n3; have HB := n4; clear n0 n1 n2 n3 n4; (try clear hb); (try clear hb2); (try clear hk); (try clear hi); (try clear ho0)))
 repeat (go_quiet (fail); try go_wp2_with (fail))
 go_loopg [7, 9] k (fun kq v7 v9 w' => ∃ (x7_1 : Int) (x9_1 : Int), v7 = .int .i64 x7_1 ∧ v9 = .int .i64 x9_1 ∧ Aside0 (spec_l7Sides.l0 kq l1 t460 t463 x7_1 t466 x9_1 l0_0 l0_1 = some r) ∧ Aside0 (kq ≤ k) ∧ Aside0 (Kd.R (Kd.int .i64) 3 w' w.heap.size (fun k_ => some k_ ≠ (v464 : Value).ownBlock) v461 t460) ∧ Aside0 (Kd.R (Kd.int .i64) 3 w' w.heap.size (fun k_ => some k_ ≠ (v461 : Value).ownBlock) v464 t463) ∧ Aside0 (Kd.S (Kd.slice 3 (Kd.int .i64)) 23 w' w.heap.size (fun k_ => some k_ ≠ (v461 : Value).ownBlock ∧ some k_ ≠ (v464 : Value).ownBlock) v467 t466) ∧ Aside0 (w'.heap[gb459]? = some (.cells #[(.slice A0_0 l0_0.length c0_0), (.slice A0_1 l0_1.length c0_1)] 25 (0, 0))) ∧ Aside0 (Below w.heap.size w w'))
 case atStart => exact ⟨(0), (0), rS, rS, H', ⟨Nat.le_refl _⟩, ⟨by (with_reducible repeat (first | apply Kd.R_alloc | apply Kd.R_drewN | apply Kd.R_drew)); exact Kd.R_mono HO462.out (fun _ hk => hk.2)⟩, ⟨by (with_reducible repeat (first | apply Kd.R_alloc | apply Kd.R_drewN | apply Kd.R_drew)); exact Kd.R_mono HO465.out (fun _ hk => hk.2)⟩, ⟨by (with_reducible repeat (first | apply Kd.S_alloc | apply Kd.S_drewN | apply Kd.S_drew)); exact Kd.S_mono HO468.out (fun _ hk => ⟨hk.1.2, hk.2⟩)⟩, ⟨kU BK459.out⟩, ⟨bU1 HB.out GE459.out⟩⟩
 case round =>
  clear H'; (try clear c1); (try clear p2); (try clear c10); (try clear hcz11_0); (try clear hcz11_1); (try clear hcz7_0); (try clear hcz7_1); (try clear hcz9_0); (try clear hcz9_1); (try clear hfz11_0); (try clear hfz11_1); (try clear hfz7_0); (try clear hfz7_1); (try clear hfz9_0); (try clear hfz9_1); obtain ⟨x7_1, x9_1, rfl, rfl, HA, HK1, HO_5, HO_6, HO_8, BK459, HB⟩ := hrel
  cases gk with
  | zero => exact absurd HA.out (by simp [spec_l7Sides.l0])
  | succ k1 =>
   have H := HA.out; clear HA; simp only [spec_l7Sides.l0] at H
   by_cases c13 : x9_1 < (t466.length : Int)
   ·
    rw [if_pos c13] at H; have c13b0 := decide_eq_true c13; clear c13; have H' := Az H; clear H; obtain ⟨Ao14, co14, eo14⟩ := Kd.S_slice HO_8.out; subst eo14
    go_wp2
    repeat (go_quiet (fail); try go_wp2)
    go_loopg [10, 11] k1 (fun kq v10 v11 w' => ∃ (x10_2 : Int) (x11_2 : Int), v10 = .int .i64 x10_2 ∧ v11 = .int .i64 x11_2 ∧ Aside0 (spec_l7Sides.l1 kq l1 t460 t463 x7_1 t466 x9_1 x10_2 x11_2 l0_0 l0_1 = some r) ∧ Aside0 (kq ≤ k1) ∧ Aside0 (Kd.R (Kd.int .i64) 3 w' w.heap.size (fun k_ => some k_ ≠ (v464 : Value).ownBlock) v461 t460) ∧ Aside0 (Kd.R (Kd.int .i64) 3 w' w.heap.size (fun k_ => some k_ ≠ (v461 : Value).ownBlock) v464 t463) ∧ Aside0 (Kd.S (Kd.slice 3 (Kd.int .i64)) 23 w' w.heap.size (fun k_ => some k_ ≠ (v461 : Value).ownBlock ∧ some k_ ≠ (v464 : Value).ownBlock) (.slice Ao14 t466.length co14) t466) ∧ Aside0 (w'.heap[gb459]? = some (.cells #[(.slice A0_0 l0_0.length c0_0), (.slice A0_1 l0_1.length c0_1)] 25 (0, 0))) ∧ Aside0 (Below w.heap.size w w'))
    case atStart => exact ⟨(0), (0), rS, rS, H', ⟨Nat.le_refl _⟩, ⟨rU HO_5.out⟩, ⟨rU HO_6.out⟩, ⟨sU HO_8.out⟩, ⟨kU BK459.out⟩, ⟨bU1 HB.out GE459.out⟩⟩
    case round =>
     clear H'; (try clear c1); (try clear p2); (try clear c10); (try clear c13); (try clear c13b0); (try clear hcz11_0); (try clear hcz11_1); (try clear hcz7_0); (try clear hcz7_1); (try clear hcz9_0); (try clear hcz9_1); (try clear hfz11_0); (try clear hfz11_1); (try clear hfz7_0); (try clear hfz7_1); (try clear hfz9_0); (try clear hfz9_1); (try clear p2); obtain ⟨x10_2, x11_2, rfl, rfl, HA, HK2, HO_5, HO_6, HO_8, BK459, HB⟩ := hrel
     cases gk with
     | zero => exact absurd HA.out (by simp [spec_l7Sides.l1])
     | succ k2 =>
      have H := HA.out; clear HA; simp only [spec_l7Sides.l1] at H
      by_cases c15 : 0 ≤ x9_1
      ·
       rw [if_pos c15] at H; have c15b0 := decide_eq_true c15; clear c15
       by_cases c16 : x9_1 < (t466.length : Int)
       ·
        rw [if_pos c16] at H; have c16b0 := decide_eq_true c16; clear c16
        by_cases c17 : x11_2 < ((rd_L1 t466 x9_1).length : Int)
        ·
         rw [if_pos c17] at H; have c17b0 := decide_eq_true c17; clear c17
         by_cases c18 : 0 ≤ x11_2
         ·
          rw [if_pos c18] at H; have c18b0 := decide_eq_true c18; clear c18
          by_cases c19 : 0 ≤ (rd (rd_L1 t466 x9_1) x11_2)
          ·
           rw [if_pos c19] at H; have c19b0 := decide_eq_true c19; clear c19
           by_cases c20 : (rd (rd_L1 t466 x9_1) x11_2) < (t460.length : Int)
           ·
            rw [if_pos c20] at H; have c20b0 := decide_eq_true c20; clear c20; replace H := Option.bind_eq_some_iff.mp H; obtain ⟨t473, A210, H⟩ := H; replace H : (if t473 = true then (spec_l7Sides.l1 k2 l1 t460 t463 x7_1 t466 x9_1 (wrap64 (x10_2 + 1)) (wrap64 (x11_2 + 1)) l0_0 l0_1) else (spec_l7Sides.l1 k2 l1 t460 t463 x7_1 t466 x9_1 x10_2 (wrap64 (x11_2 + 1)) l0_0 l0_1)) = some r := H; have A21 := Az A210; clear A210
            by_cases c22 : t473 = true
            ·
             subst c22
             have H1 : (spec_l7Sides.l1 k2 l1 t460 t463 x7_1 t466 x9_1 (wrap64 (x10_2 + 1)) (wrap64 (x11_2 + 1)) l0_0 l0_1) = some r := by rw [if_pos rfl] at H; exact H
             clear H; have H := H1; clear H1; have H' := Az H; clear H; have p469 : 0 ≤ (x9_1 : Int) := oA; have q469 : x9_1 < (t466.length : Int) := oA; obtain ⟨ad469, A469_0, c469_0, e469, hx469_0, hl469_0, hi469_0⟩ := at_L1 (Kd.S_reads' HO_8.out).2.2 x9_1 p469 q469
             cases e469
             obtain ⟨ce469, hce469, hMe469, hcc469⟩ := Kd.S_get HO_8.out [] x9_1 p469 (by first | exact q469 | exact oA | (have e_ := (Kd.S_reads' HO_8.out).1; omega)); obtain ⟨ve469_0, rfl, ge469_0⟩ := hMe469; have hv469_0 := hcc469 0 _ rfl; rw [Nat.add_zero, show ((Kd.slice 3 (Kd.int .i64))).sz = 1 from rfl, Nat.mul_one] at hv469_0; replace hv469_0 := Option.some.inj (hv469_0.symm.trans hx469_0); rw [hv469_0] at ge469_0; have HL469_0 := Az (show Kd.R (Kd.int .i64) 3 _ _ _ _ (rd_L1 t466 x9_1) from ge469_0); clear hv469_0 ge469_0 hcc469 hce469; have HR469_0 := Az hi469_0; have HC469_0 := Az hl469_0; clear hi469_0 hl469_0; replace p469 := eq_true p469; replace q469 := eq_true q469; have p470 : 0 ≤ (x9_1 : Int) := oA; have q470 : x9_1 < (t466.length : Int) := oA; obtain ⟨ad470, A470_0, c470_0, e470, hx470_0, hl470_0, hi470_0⟩ := at_L1 (Kd.S_reads' HO_8.out).2.2 x9_1 p470 q470; obtain rfl : ad469 = ad470 := (by injection e470); obtain ⟨ce470, hce470, hMe470, hcc470⟩ := Kd.S_get HO_8.out [] x9_1 p470 (by first | exact q470 | exact oA | (have e_ := (Kd.S_reads' HO_8.out).1; omega)); obtain ⟨ve470_0, rfl, ge470_0⟩ := hMe470; have hv470_0 := hcc470 0 _ rfl; rw [Nat.add_zero, show ((Kd.slice 3 (Kd.int .i64))).sz = 1 from rfl, Nat.mul_one] at hv470_0; replace hv470_0 := Option.some.inj (hv470_0.symm.trans hx470_0); rw [hv470_0] at ge470_0; have HL470_0 := Az (show Kd.R (Kd.int .i64) 3 _ _ _ _ (rd_L1 t466 x9_1) from ge470_0); clear hv470_0 ge470_0 hcc470 hce470; have HR470_0 := Az hi470_0; have HC470_0 := Az hl470_0; clear hi470_0 hl470_0; replace p470 := eq_true p470; replace q470 := eq_true q470; have ea_ := Option.some.inj (hx469_0.symm.trans hx470_0); injection ea_ with ea_ en_ ec_; subst ea_; subst ec_; clear en_; have p471 : 0 ≤ (x11_2 : Int) := oA; have q471 : x11_2 < ((rd_L1 t466 x9_1).length : Int) := oA; obtain ⟨ad471, e471, hx471_0⟩ := Kd.at_int (by repeat (first | (with_reducible exact HR470_0.out) | (with_reducible refine Kd.C_alloc ?_ _) | (with_reducible refine Kd.C_drewN ?_ _) | (with_reducible refine Kd.C_drew ?_) | exact HR470_0.out)) x11_2 p471 q471
             cases e471
             replace p471 := eq_true p471; replace q471 := eq_true q471; obtain ⟨Ao23, co23, eo23⟩ := Kd.R_slice HO_5.out; subst eo23; have p472 : 0 ≤ ((rd (rd_L1 t466 x9_1) x11_2) : Int) := oA; have q472 : (rd (rd_L1 t466 x9_1) x11_2) < (t460.length : Int) := oA; obtain ⟨ad472, e472, hx472_0⟩ := Kd.at_int (Kd.R_reads' HO_5.out).2.2 (rd (rd_L1 t466 x9_1) x11_2) p472 q472
             cases e472
             replace p472 := eq_true p472; replace q472 := eq_true q472
             go_wp2_with (first | (go_at_call 67; (with_reducible refine (spec_l7Has.calls k2 _ _ l1 (rd t460 (rd (rd_L1 t466 x9_1) x11_2)) true _ ?side1 ?side2 A21.out).mono ?_); (case side1 => exact cU (Kd.C_below HR1.out HB.out)); (case side2 => exact HC1.out); rintro e w' ⟨rfl, ⟨nd, rfl⟩⟩; (try first | exact ⟨rfl, _, World.drewN_drewN _ _ _⟩ | exact ⟨rfl, _, Eq.trans (World.drewN_drewN _ _ _) (congrArg (World.drewN _) (Nat.add_assoc _ _ _))⟩)))
             repeat (go_quiet (fail); try go_wp2_with (fail))
             (first | go_roundg k2 | (refine Handed.intro k2 ?measure ?_; rotate_left; go_step; (try simp only [add_plain]); (repeat apply Exists.intro); refine ⟨?rel, rfl⟩))
             case measure => have := HK1.out; have := HK2.out; omega
             case rel => exact ⟨(wrap64 (x10_2 + 1)), (wrap64 (x11_2 + 1)), rS, rS, H', ⟨by have := HK1.out; have := HK2.out; omega⟩, ⟨rU HO_5.out⟩, ⟨rU HO_6.out⟩, ⟨sU HO_8.out⟩, ⟨kU BK459.out⟩, ⟨bU1 HB.out GE459.out⟩⟩
            ·
             replace c22 := Bool.eq_false_iff.mpr c22; subst c22
             have H1 : (spec_l7Sides.l1 k2 l1 t460 t463 x7_1 t466 x9_1 x10_2 (wrap64 (x11_2 + 1)) l0_0 l0_1) = some r := by rw [if_neg (show ¬ (false = true) by decide)] at H; exact H
             clear H; have H := H1; clear H1; have H' := Az H; clear H; have p469 : 0 ≤ (x9_1 : Int) := oA; have q469 : x9_1 < (t466.length : Int) := oA; obtain ⟨ad469, A469_0, c469_0, e469, hx469_0, hl469_0, hi469_0⟩ := at_L1 (Kd.S_reads' HO_8.out).2.2 x9_1 p469 q469
             cases e469
             obtain ⟨ce469, hce469, hMe469, hcc469⟩ := Kd.S_get HO_8.out [] x9_1 p469 (by first | exact q469 | exact oA | (have e_ := (Kd.S_reads' HO_8.out).1; omega)); obtain ⟨ve469_0, rfl, ge469_0⟩ := hMe469; have hv469_0 := hcc469 0 _ rfl; rw [Nat.add_zero, show ((Kd.slice 3 (Kd.int .i64))).sz = 1 from rfl, Nat.mul_one] at hv469_0; replace hv469_0 := Option.some.inj (hv469_0.symm.trans hx469_0); rw [hv469_0] at ge469_0; have HL469_0 := Az (show Kd.R (Kd.int .i64) 3 _ _ _ _ (rd_L1 t466 x9_1) from ge469_0); clear hv469_0 ge469_0 hcc469 hce469; have HR469_0 := Az hi469_0; have HC469_0 := Az hl469_0; clear hi469_0 hl469_0; replace p469 := eq_true p469; replace q469 := eq_true q469; have p470 : 0 ≤ (x9_1 : Int) := oA; have q470 : x9_1 < (t466.length : Int) := oA; obtain ⟨ad470, A470_0, c470_0, e470, hx470_0, hl470_0, hi470_0⟩ := at_L1 (Kd.S_reads' HO_8.out).2.2 x9_1 p470 q470; obtain rfl : ad469 = ad470 := (by injection e470); obtain ⟨ce470, hce470, hMe470, hcc470⟩ := Kd.S_get HO_8.out [] x9_1 p470 (by first | exact q470 | exact oA | (have e_ := (Kd.S_reads' HO_8.out).1; omega)); obtain ⟨ve470_0, rfl, ge470_0⟩ := hMe470; have hv470_0 := hcc470 0 _ rfl; rw [Nat.add_zero, show ((Kd.slice 3 (Kd.int .i64))).sz = 1 from rfl, Nat.mul_one] at hv470_0; replace hv470_0 := Option.some.inj (hv470_0.symm.trans hx470_0); rw [hv470_0] at ge470_0; have HL470_0 := Az (show Kd.R (Kd.int .i64) 3 _ _ _ _ (rd_L1 t466 x9_1) from ge470_0); clear hv470_0 ge470_0 hcc470 hce470; have HR470_0 := Az hi470_0; have HC470_0 := Az hl470_0; clear hi470_0 hl470_0; replace p470 := eq_true p470; replace q470 := eq_true q470; have ea_ := Option.some.inj (hx469_0.symm.trans hx470_0); injection ea_ with ea_ en_ ec_; subst ea_; subst ec_; clear en_; have p471 : 0 ≤ (x11_2 : Int) := oA; have q471 : x11_2 < ((rd_L1 t466 x9_1).length : Int) := oA; obtain ⟨ad471, e471, hx471_0⟩ := Kd.at_int (by repeat (first | (with_reducible exact HR470_0.out) | (with_reducible refine Kd.C_alloc ?_ _) | (with_reducible refine Kd.C_drewN ?_ _) | (with_reducible refine Kd.C_drew ?_) | exact HR470_0.out)) x11_2 p471 q471
             cases e471
             replace p471 := eq_true p471; replace q471 := eq_true q471; obtain ⟨Ao24, co24, eo24⟩ := Kd.R_slice HO_5.out; subst eo24; have p472 : 0 ≤ ((rd (rd_L1 t466 x9_1) x11_2) : Int) := oA; have q472 : (rd (rd_L1 t466 x9_1) x11_2) < (t460.length : Int) := oA; obtain ⟨ad472, e472, hx472_0⟩ := Kd.at_int (Kd.R_reads' HO_5.out).2.2 (rd (rd_L1 t466 x9_1) x11_2) p472 q472
             cases e472
             replace p472 := eq_true p472; replace q472 := eq_true q472
             go_wp2_with (first | (go_at_call 67; (with_reducible refine (spec_l7Has.calls k2 _ _ l1 (rd t460 (rd (rd_L1 t466 x9_1) x11_2)) false _ ?side1 ?side2 A21.out).mono ?_); (case side1 => exact cU (Kd.C_below HR1.out HB.out)); (case side2 => exact HC1.out); rintro e w' ⟨rfl, ⟨nd, rfl⟩⟩; (try first | exact ⟨rfl, _, World.drewN_drewN _ _ _⟩ | exact ⟨rfl, _, Eq.trans (World.drewN_drewN _ _ _) (congrArg (World.drewN _) (Nat.add_assoc _ _ _))⟩)))
             repeat (go_quiet (fail); try go_wp2_with (fail))
             (first | go_roundg k2 | (refine Handed.intro k2 ?measure ?_; rotate_left; go_step; (try simp only [add_plain]); (repeat apply Exists.intro); refine ⟨?rel, rfl⟩))
             case measure => have := HK1.out; have := HK2.out; omega
             case rel => exact ⟨(x10_2), (wrap64 (x11_2 + 1)), rS, rS, H', ⟨by have := HK1.out; have := HK2.out; omega⟩, ⟨rU HO_5.out⟩, ⟨rU HO_6.out⟩, ⟨sU HO_8.out⟩, ⟨kU BK459.out⟩, ⟨bU1 HB.out GE459.out⟩⟩
           ·
            rw [if_neg c20] at H
            exact absurd H (by simp)
          ·
           rw [if_neg c19] at H
           exact absurd H (by simp)
         ·
          rw [if_neg c18] at H
          exact absurd H (by simp)
        ·
         rw [if_neg c17] at H; have c17b0 := decide_eq_false c17; clear c17
         by_cases c25 : x10_2 = 0
         ·
          rw [if_pos c25] at H; have c25b0 := beq_iff_eq.mpr c25; have c25b1 := bne_eq_false_iff_eq.mpr c25; clear c25; have H' := Az H; clear H; have p469 : 0 ≤ (x9_1 : Int) := oA; have q469 : x9_1 < (t466.length : Int) := oA; obtain ⟨ad469, A469_0, c469_0, e469, hx469_0, hl469_0, hi469_0⟩ := at_L1 (Kd.S_reads' HO_8.out).2.2 x9_1 p469 q469
          cases e469
          obtain ⟨ce469, hce469, hMe469, hcc469⟩ := Kd.S_get HO_8.out [] x9_1 p469 (by first | exact q469 | exact oA | (have e_ := (Kd.S_reads' HO_8.out).1; omega)); obtain ⟨ve469_0, rfl, ge469_0⟩ := hMe469; have hv469_0 := hcc469 0 _ rfl; rw [Nat.add_zero, show ((Kd.slice 3 (Kd.int .i64))).sz = 1 from rfl, Nat.mul_one] at hv469_0; replace hv469_0 := Option.some.inj (hv469_0.symm.trans hx469_0); rw [hv469_0] at ge469_0; have HL469_0 := Az (show Kd.R (Kd.int .i64) 3 _ _ _ _ (rd_L1 t466 x9_1) from ge469_0); clear hv469_0 ge469_0 hcc469 hce469; have HR469_0 := Az hi469_0; have HC469_0 := Az hl469_0; clear hi469_0 hl469_0; replace p469 := eq_true p469; replace q469 := eq_true q469
          go_wp2
          repeat (go_quiet (fail); try go_wp2)
          (first | go_roundg k2 | (refine Handed.intro k2 ?measure ?_; rotate_left; go_step; (try simp only [add_plain]); (repeat apply Exists.intro); refine ⟨?rel, rfl⟩))
          case measure => have := HK1.out; have := HK2.out; omega
          case rel => exact ⟨(wrap64 (x7_1 + 1)), (wrap64 (x9_1 + 1)), rS, rS, H', ⟨by have := HK1.out; have := HK2.out; omega⟩, ⟨rU HO_5.out⟩, ⟨rU HO_6.out⟩, ⟨sU HO_8.out⟩, ⟨kU BK459.out⟩, ⟨bU1 HB.out GE459.out⟩⟩
         ·
          rw [if_neg c25] at H; have c25b0 := beq_eq_false_iff_ne.mpr c25; have c25b1 := bne_iff_ne.mpr c25; have H' := Az H; clear H; have p469 : 0 ≤ (x9_1 : Int) := oA; have q469 : x9_1 < (t466.length : Int) := oA; obtain ⟨ad469, A469_0, c469_0, e469, hx469_0, hl469_0, hi469_0⟩ := at_L1 (Kd.S_reads' HO_8.out).2.2 x9_1 p469 q469
          cases e469
          obtain ⟨ce469, hce469, hMe469, hcc469⟩ := Kd.S_get HO_8.out [] x9_1 p469 (by first | exact q469 | exact oA | (have e_ := (Kd.S_reads' HO_8.out).1; omega)); obtain ⟨ve469_0, rfl, ge469_0⟩ := hMe469; have hv469_0 := hcc469 0 _ rfl; rw [Nat.add_zero, show ((Kd.slice 3 (Kd.int .i64))).sz = 1 from rfl, Nat.mul_one] at hv469_0; replace hv469_0 := Option.some.inj (hv469_0.symm.trans hx469_0); rw [hv469_0] at ge469_0; have HL469_0 := Az (show Kd.R (Kd.int .i64) 3 _ _ _ _ (rd_L1 t466 x9_1) from ge469_0); clear hv469_0 ge469_0 hcc469 hce469; have HR469_0 := Az hi469_0; have HC469_0 := Az hl469_0; clear hi469_0 hl469_0; replace p469 := eq_true p469; replace q469 := eq_true q469
          go_wp2
          repeat (go_quiet (fail); try go_wp2)
          (first | go_roundg k2 | (refine Handed.intro k2 ?measure ?_; rotate_left; go_step; (try simp only [add_plain]); (repeat apply Exists.intro); refine ⟨?rel, rfl⟩))
          case measure => have := HK1.out; have := HK2.out; omega
          case rel => exact ⟨(x7_1), (wrap64 (x9_1 + 1)), rS, rS, H', ⟨by have := HK1.out; have := HK2.out; omega⟩, ⟨rU HO_5.out⟩, ⟨rU HO_6.out⟩, ⟨sU HO_8.out⟩, ⟨kU BK459.out⟩, ⟨bU1 HB.out GE459.out⟩⟩
       ·
        rw [if_neg c16] at H
        exact absurd H (by simp)
      ·
       rw [if_neg c15] at H
       exact absurd H (by simp)
   ·
    rw [if_neg c13] at H; have c13b0 := decide_eq_false c13; clear c13; have H' := Az H; clear H; obtain ⟨Ao26, co26, eo26⟩ := Kd.S_slice HO_8.out; subst eo26
    go_wp2
    repeat (go_quiet (fail); try go_wp2)
    go_loopg [12] k1 (fun kq v12 w' => ∃ (x6_2 : List Int) (x12_2 : Int), v12 = .int .i64 x12_2 ∧ Aside0 (spec_l7Sides.l2 kq l1 t460 x6_2 x7_1 x12_2 l0_0 l0_1 = some r) ∧ Aside0 (kq ≤ k1) ∧ Aside0 (Kd.R (Kd.int .i64) 3 w' w.heap.size (fun k_ => some k_ ≠ (v464 : Value).ownBlock) v461 t460) ∧ Aside0 (Kd.R (Kd.int .i64) 3 w' w.heap.size (fun k_ => some k_ ≠ (v461 : Value).ownBlock) v464 x6_2) ∧ Aside0 (w'.heap[gb459]? = some (.cells #[(.slice A0_0 l0_0.length c0_0), (.slice A0_1 l0_1.length c0_1)] 25 (0, 0))) ∧ Aside0 (Below w.heap.size w w'))
    case atStart => exact ⟨(t463), (0), rS, H', ⟨Nat.le_refl _⟩, ⟨rU HO_5.out⟩, ⟨rU HO_6.out⟩, ⟨kU BK459.out⟩, ⟨bU1 HB.out GE459.out⟩⟩
    case round =>
     clear H'; (try clear c1); (try clear c2); (try clear p2); (try clear c4); (try clear p4); (try clear q4); (try clear hx4); (try clear p6); (try clear c10); (try clear c13); (try clear c13b0); (try clear c15); (try clear c15b0); (try clear c16); (try clear c16b0); (try clear c17); (try clear c17b0); (try clear c18); (try clear c18b0); (try clear c19); (try clear c19b0); (try clear c20); (try clear c20b0); (try clear c22); (try clear c25); (try clear c25b0); (try clear c25b1); (try clear hcz11_0); (try clear hcz11_1); (try clear hcz7_0); (try clear hcz7_1); (try clear hcz9_0); (try clear hcz9_1); (try clear hfz11_0); (try clear hfz11_1); (try clear hfz7_0); (try clear hfz7_1); (try clear hfz9_0); (try clear hfz9_1); (try clear hx469_0); (try clear hx470_0); (try clear hx471_0); (try clear hx472_0); (try clear p2); (try clear p469); (try clear p470); (try clear p471); (try clear p472); (try clear q469); (try clear q470); (try clear q471); (try clear q472); obtain ⟨x6_2, x12_2, rfl, HA, HK2, HO_5, HO_6, BK459, HB⟩ := hrel
     cases gk with
     | zero => exact absurd HA.out (by simp [spec_l7Sides.l2])
     | succ k2 =>
      have H := HA.out; clear HA; simp only [spec_l7Sides.l2] at H
      by_cases c27 : x12_2 < (x6_2.length : Int)
      ·
       rw [if_pos c27] at H; have c27b0 := decide_eq_true c27; clear c27
       by_cases c28 : 0 ≤ x12_2
       ·
        rw [if_pos c28] at H; have c28b0 := decide_eq_true c28; clear c28
        by_cases c29 : x12_2 < (t460.length : Int)
        ·
         rw [if_pos c29] at H; have c29b0 := decide_eq_true c29; clear c29; replace H := Option.bind_eq_some_iff.mp H; obtain ⟨t478, A300, H⟩ := H; replace H : (if t478 = true then (if x12_2 < (l0_1.length : Int) then (if 0 ≤ (rd l0_1 x12_2) then (if (rd l0_1 x12_2) < (l0_0.length : Int) then (spec_l7Sides.l3 k2 l1 t460 x6_2 x7_1 x12_2 (rd l0_0 (rd l0_1 x12_2)) l0_0 l0_1) else (none)) else (none)) else (none)) else (spec_l7Sides.l2 k2 l1 t460 x6_2 x7_1 (wrap64 (x12_2 + 1)) l0_0 l0_1)) = some r := H; have A30 := Az A300; clear A300
         by_cases c31 : t478 = true
         ·
          subst c31
          have H1 : (if x12_2 < (l0_1.length : Int) then (if 0 ≤ (rd l0_1 x12_2) then (if (rd l0_1 x12_2) < (l0_0.length : Int) then (spec_l7Sides.l3 k2 l1 t460 x6_2 x7_1 x12_2 (rd l0_0 (rd l0_1 x12_2)) l0_0 l0_1) else (none)) else (none)) else (none)) = some r := by rw [if_pos rfl] at H; exact H
          clear H; have H := H1; clear H1
          by_cases c32 : x12_2 < (l0_1.length : Int)
          ·
           rw [if_pos c32] at H; have c32b0 := decide_eq_true c32; clear c32
           by_cases c33 : 0 ≤ (rd l0_1 x12_2)
           ·
            rw [if_pos c33] at H; have c33b0 := decide_eq_true c33; clear c33
            by_cases c34 : (rd l0_1 x12_2) < (l0_0.length : Int)
            ·
             rw [if_pos c34] at H; have c34b0 := decide_eq_true c34; clear c34; have H' := Az H; clear H; obtain ⟨Ao35, co35, eo35⟩ := Kd.R_slice HO_6.out; subst eo35; obtain ⟨Ao36, co36, eo36⟩ := Kd.R_slice HO_5.out; subst eo36; have p477 : 0 ≤ (x12_2 : Int) := oA; have q477 : x12_2 < (t460.length : Int) := oA; obtain ⟨ad477, e477, hx477_0⟩ := Kd.at_int (Kd.R_reads' HO_5.out).2.2 x12_2 p477 q477
             cases e477
             replace p477 := eq_true p477; replace q477 := eq_true q477
             go_wp2_with (first | (go_at_call 67; (with_reducible refine (spec_l7Has.calls k2 _ _ l1 (rd t460 x12_2) true _ ?side1 ?side2 A30.out).mono ?_); (case side1 => exact cU (Kd.C_below HR1.out HB.out)); (case side2 => exact HC1.out); rintro e w' ⟨rfl, ⟨nd, rfl⟩⟩; (try first | exact ⟨rfl, _, World.drewN_drewN _ _ _⟩ | exact ⟨rfl, _, Eq.trans (World.drewN_drewN _ _ _) (congrArg (World.drewN _) (Nat.add_assoc _ _ _))⟩); have hcz37_0 : wr.cell? ⟨gb459, 0, none⟩ = some (.slice A0_0 l0_0.length c0_0) := (blk_cell BK459.out 0).trans rfl; have hcz37_1 : wr.cell? ⟨gb459, 1, none⟩ = some (.slice A0_1 l0_1.length c0_1) := (blk_cell BK459.out 1).trans rfl; have hfz37_0 := blk_frozen BK459.out 0; have hfz37_1 := blk_frozen BK459.out 1; have p479 : 0 ≤ (x12_2 : Int) := oA; have q479 : x12_2 < (l0_1.length : Int) := oA; obtain ⟨ad479, e479, hx479_0⟩ := Kd.at_int HR0_1.out x12_2 p479 q479; cases e479; replace hx479_0 := (HB.out.cell (World.block_lt_of_cell? w _ hx479_0)).trans hx479_0; replace p479 := eq_true p479; replace q479 := eq_true q479; have p480 : 0 ≤ ((rd l0_1 x12_2) : Int) := oA; have q480 : (rd l0_1 x12_2) < (l0_0.length : Int) := oA; obtain ⟨ad480, e480, hx480_0⟩ := Kd.at_int HR0_0.out (rd l0_1 x12_2) p480 q480; cases e480; replace hx480_0 := (HB.out.cell (World.block_lt_of_cell? w _ hx480_0)).trans hx480_0; replace p480 := eq_true p480; replace q480 := eq_true q480))
             repeat (go_quiet (fail); try go_wp2_with (fail))
             go_loopg [13] k2 (fun kq v13 w' => ∃ (x13_3 : Int), v13 = .int .i64 x13_3 ∧ Aside0 (spec_l7Sides.l3 kq l1 t460 x6_2 x7_1 x12_2 x13_3 l0_0 l0_1 = some r) ∧ Aside0 (kq ≤ k2) ∧ Aside0 (Kd.R (Kd.int .i64) 3 w' w.heap.size (fun k_ => some k_ ≠ ((.slice Ao35 x6_2.length co35) : Value).ownBlock) (.slice (some ad477) t460.length co36) t460) ∧ Aside0 (Kd.R (Kd.int .i64) 3 w' w.heap.size (fun k_ => some k_ ≠ ((.slice (some ad477) t460.length co36) : Value).ownBlock) (.slice Ao35 x6_2.length co35) x6_2) ∧ Aside0 (w'.heap[gb459]? = some (.cells #[(.slice (some ad480) l0_0.length c0_0), (.slice (some ad479) l0_1.length c0_1)] 25 (0, 0))) ∧ Aside0 (Below w.heap.size w w'))
             case atStart => exact ⟨(rd l0_0 (rd l0_1 x12_2)), rS, H', ⟨Nat.le_refl _⟩, ⟨rU HO_5.out⟩, ⟨rU HO_6.out⟩, ⟨kU BK459.out⟩, ⟨bU1 HB.out GE459.out⟩⟩
             case round =>
              clear H'; (try clear c1); (try clear c2); (try clear p2); (try clear c3); (try clear c4); (try clear p4); (try clear q4); (try clear hx4); (try clear p6); (try clear c10); (try clear c13); (try clear c13b0); (try clear c15); (try clear c15b0); (try clear c16); (try clear c16b0); (try clear c17); (try clear c17b0); (try clear c18); (try clear c18b0); (try clear c19); (try clear c19b0); (try clear c20); (try clear c20b0); (try clear c22); (try clear c25); (try clear c25b0); (try clear c25b1); (try clear c27); (try clear c27b0); (try clear c28); (try clear c28b0); (try clear c29); (try clear c29b0); (try clear c31); (try clear c32); (try clear c32b0); (try clear c33); (try clear c33b0); (try clear c34); (try clear c34b0); (try clear hcz11_0); (try clear hcz11_1); (try clear hcz37_0); (try clear hcz37_1); (try clear hcz7_0); (try clear hcz7_1); (try clear hcz9_0); (try clear hcz9_1); (try clear hfz11_0); (try clear hfz11_1); (try clear hfz37_0); (try clear hfz37_1); (try clear hfz7_0); (try clear hfz7_1); (try clear hfz9_0); (try clear hfz9_1); (try clear hx469_0); (try clear hx470_0); (try clear hx471_0); (try clear hx472_0); (try clear hx477_0); (try clear hx479_0); (try clear hx480_0); (try clear p2); (try clear p4); (try clear p469); (try clear p470); (try clear p471); (try clear p472); (try clear p477); (try clear p479); (try clear p480); (try clear p6); (try clear q4); (try clear q469); (try clear q470); (try clear q471); (try clear q472); (try clear q477); (try clear q479); (try clear q480); obtain ⟨x13_3, rfl, HA, HK3, HO_5, HO_6, BK459, HB⟩ := hrel
              cases gk with
              | zero => exact absurd HA.out (by simp [spec_l7Sides.l3])
              | succ k3 =>
               have H := HA.out; clear HA; simp only [spec_l7Sides.l3] at H
               by_cases c38 : 0 ≤ x13_3
               ·
                rw [if_pos c38] at H; have c38b0 := decide_eq_true c38; clear c38
                by_cases c39 : x13_3 < (t460.length : Int)
                ·
                 rw [if_pos c39] at H; have c39b0 := decide_eq_true c39; clear c39; replace H := Option.bind_eq_some_iff.mp H; obtain ⟨t482, A400, H⟩ := H; replace H : (if t482 = true then (if 0 ≤ x12_2 then (if x12_2 < (x6_2.length : Int) then (spec_l7Sides.l2 k3 l1 t460 (x6_2.set (x12_2 : Int).toNat x13_3) x7_1 (wrap64 (x12_2 + 1)) l0_0 l0_1) else (none)) else (none)) else (if x13_3 < (l0_0.length : Int) then (spec_l7Sides.l3 k3 l1 t460 x6_2 x7_1 x12_2 (rd l0_0 x13_3) l0_0 l0_1) else (none))) = some r := H; have A40 := Az A400; clear A400
                 by_cases c41 : t482 = true
                 ·
                  subst c41
                  have H1 : (if 0 ≤ x12_2 then (if x12_2 < (x6_2.length : Int) then (spec_l7Sides.l2 k3 l1 t460 (x6_2.set (x12_2 : Int).toNat x13_3) x7_1 (wrap64 (x12_2 + 1)) l0_0 l0_1) else (none)) else (none)) = some r := by rw [if_pos rfl] at H; exact H
                  clear H; have H := H1; clear H1
                  by_cases c42 : 0 ≤ x12_2
                  ·
                   rw [if_pos c42] at H; have c42b0 := decide_eq_true c42; clear c42
                   by_cases c43 : x12_2 < (x6_2.length : Int)
                   ·
                    rw [if_pos c43] at H; have c43b0 := decide_eq_true c43; clear c43; obtain ⟨y483, hy483⟩ : ∃ y_ : List Int, y_ = (x6_2.set (x12_2 : Int).toNat x13_3) := ⟨_, rfl⟩; replace H : (spec_l7Sides.l2 k3 l1 t460 y483 x7_1 (wrap64 (x12_2 + 1)) l0_0 l0_1) = some r := hR hy483 H; have Ny483 := Az hy483; clear hy483; have H' := Az H; clear H; have p481 : 0 ≤ (x13_3 : Int) := oA; have q481 : x13_3 < (t460.length : Int) := oA; obtain ⟨ad481, e481, hx481_0⟩ := Kd.at_int (Kd.R_reads' HO_5.out).2.2 x13_3 p481 q481; obtain rfl : ad477 = ad481 := (by injection e481); replace p481 := eq_true p481; replace q481 := eq_true q481
                    go_wp2_with (first | (go_at_call 67; (with_reducible refine (spec_l7Has.calls k3 _ _ l1 (rd t460 x13_3) true _ ?side1 ?side2 A40.out).mono ?_); (case side1 => exact cU (Kd.C_below HR1.out HB.out)); (case side2 => exact HC1.out); rintro e w' ⟨rfl, ⟨nd, rfl⟩⟩; (try first | exact ⟨rfl, _, World.drewN_drewN _ _ _⟩ | exact ⟨rfl, _, Eq.trans (World.drewN_drewN _ _ _) (congrArg (World.drewN _) (Nat.add_assoc _ _ _))⟩); have p44 : 0 ≤ (x12_2 : Int) := oA; have q44 : (x12_2 : Int) < ((x6_2.length : Int) : Int) := oA; obtain ⟨go44, co44, eo44, gb44, gl44, cl44, HG44⟩ := Kd.R_form HO_6.out (by omega); (first | cases eo44 | (injection eo44 with ea_ en_ ec_; (first | subst ea_ | (injection ea_ with ea_; subst ea_)); subst ec_; clear en_)); have GB44 := Az gb44; have GG44 := Az HG44; clear gb44 gl44 HG44; obtain ⟨hx44_0, hf44_0⟩ := Kd.R_celln 0 HO_6.out (x12_2 : Int) p44 q44; replace p44 := eq_true p44; replace q44 := eq_true q44; obtain ⟨hy45_, hz45_⟩ := Kd.R_celln 0 HO_6.out (x12_2 : Int) (oA) (oA); have HP45 := Kd.R_putg HO_6.out (x12_2 : Int) x13_3) | ((with_reducible refine gate_store (t := 3) (p := 92) rfl ?_); (try (rw [drewN_self wr]; generalize hq_ : World.drewN wr _ = wr; have n0 := Az (Kd.R_at hq_ HO_5.out); have n1 := Az (Kd.R_at hq_ HO_6.out); have n2 := Az (blk_at hq_ BK459.out); have n3 := Az (below_at hq_ HB.out); clear hq_ HO_5 HO_6 BK459 HB; have HO_5 := n0; have HO_6 := n1; have BK459 := n2; have HB := n3; clear n0 n1 n2 n3; (try (obtain ⟨hy45_, hz45_⟩ := Kd.R_celln 0 HO_6.out (x12_2 : Int) (oA) (oA))); (try (have HP45 := Kd.R_putg HO_6.out (x12_2 : Int) x13_3)))); refine store_event (t := 3) (p := 92) (v := ?vo_w46) (w1 := (wr.setCell ⟨go44, (x12_2 : Int).toNat, none⟩ (.int .i64 x13_3))) ?hg ?ho ?hn ?hr ?_; (case ho => rfl); (case hg => rfl); (case hn => rfl); (case hr => first | (go_simp; done) | (go_simp; rfl)); intro w46 hw; have hg : wr.grownBy w46 (some go44) := (by rw [hw]; exact HP45.2); have hp_ : Kd.R (Kd.int .i64) 3 w46 w.heap.size (fun k_ => some k_ ≠ (.slice (some ad477) t460.length co36 : Value).ownBlock) (.slice (some ⟨go44, 0, none⟩) x6_2.length co35) y483 := (by rw [hw, Ny483.out]; exact HP45.1); clear HP45; have n0 := Az (Kd.R_after (v := (.slice (some ⟨go44, 0, none⟩) x6_2.length co35)) (v1 := (.slice (some ⟨go44, 0, none⟩) x6_2.length co35)) (ok := (fun _ => True)) (by (with_reducible repeat (first | apply Kd.R_alloc | apply Kd.R_drewN | apply Kd.R_drew)); exact Kd.R_mono HO_5.out (fun _ hk => ⟨trivial, hk⟩)) hg (.inl rfl)); have n1 := Az (hp_); have n2 := Az (blk_grown (g := gb459) (o := .cells #[.slice (some ad480) l0_0.length c0_0, .slice (some ad479) l0_1.length c0_1] 25 (0, 0)) (kU BK459.out) hg (Kd.R_ne HO_6.out BK459.out (by decide))); have n3 := Az ((by rw [hw]; exact below_set (HB.out) GB44.out : Below w.heap.size w w46)); clear HO_5 HO_6 BK459 HB; have HO_5 := n0; have HO_6 := n1; have BK459 := n2; have HB := n3; clear n0 n1 n2 n3; clear hg hw hp_))
                    repeat (go_quiet (fail); try go_wp2_with (fail))
                    (first | go_roundg k3 | (refine Handed.intro k3 ?measure ?_; rotate_left; go_step; (try simp only [add_plain]); (repeat apply Exists.intro); refine ⟨?rel, rfl⟩))
                    case measure => have := HK1.out; have := HK2.out; have := HK3.out; omega
                    case rel => exact ⟨(y483), (wrap64 (x12_2 + 1)), rS, H', ⟨by have := HK1.out; have := HK2.out; have := HK3.out; omega⟩, ⟨by (with_reducible repeat (first | apply Kd.R_alloc | apply Kd.R_drewN | apply Kd.R_drew)); exact Kd.R_mono HO_5.out (fun _ hk => hk.2)⟩, ⟨rU HO_6.out⟩, ⟨kU BK459.out⟩, ⟨bU1 HB.out GE459.out⟩⟩
                   ·
                    rw [if_neg c43] at H
                    exact absurd H (by simp)
                  ·
                   rw [if_neg c42] at H
                   exact absurd H (by simp)
                 ·
                  replace c41 := Bool.eq_false_iff.mpr c41; subst c41
                  have H1 : (if x13_3 < (l0_0.length : Int) then (spec_l7Sides.l3 k3 l1 t460 x6_2 x7_1 x12_2 (rd l0_0 x13_3) l0_0 l0_1) else (none)) = some r := by rw [if_neg (show ¬ (false = true) by decide)] at H; exact H
                  clear H; have H := H1; clear H1
                  by_cases c47 : x13_3 < (l0_0.length : Int)
                  ·
                   rw [if_pos c47] at H; have c47b0 := decide_eq_true c47; clear c47; have H' := Az H; clear H; have p481 : 0 ≤ (x13_3 : Int) := oA; have q481 : x13_3 < (t460.length : Int) := oA; obtain ⟨ad481, e481, hx481_0⟩ := Kd.at_int (Kd.R_reads' HO_5.out).2.2 x13_3 p481 q481; obtain rfl : ad477 = ad481 := (by injection e481); replace p481 := eq_true p481; replace q481 := eq_true q481
                   go_wp2_with (first | (go_at_call 67; (with_reducible refine (spec_l7Has.calls k3 _ _ l1 (rd t460 x13_3) false _ ?side1 ?side2 A40.out).mono ?_); (case side1 => exact cU (Kd.C_below HR1.out HB.out)); (case side2 => exact HC1.out); rintro e w' ⟨rfl, ⟨nd, rfl⟩⟩; (try first | exact ⟨rfl, _, World.drewN_drewN _ _ _⟩ | exact ⟨rfl, _, Eq.trans (World.drewN_drewN _ _ _) (congrArg (World.drewN _) (Nat.add_assoc _ _ _))⟩); have hcz48_0 : wr.cell? ⟨gb459, 0, none⟩ = some (.slice (some ad480) l0_0.length c0_0) := (blk_cell BK459.out 0).trans rfl; have hcz48_1 : wr.cell? ⟨gb459, 1, none⟩ = some (.slice (some ad479) l0_1.length c0_1) := (blk_cell BK459.out 1).trans rfl; have hfz48_0 := blk_frozen BK459.out 0; have hfz48_1 := blk_frozen BK459.out 1; have p484 : 0 ≤ (x13_3 : Int) := oA; have q484 : x13_3 < (l0_0.length : Int) := oA; obtain ⟨ad484, e484, hx484_0⟩ := Kd.at_int HR0_0.out x13_3 p484 q484; obtain rfl : ad480 = ad484 := (by injection e484); replace hx484_0 := (HB.out.cell (World.block_lt_of_cell? w _ hx484_0)).trans hx484_0; replace p484 := eq_true p484; replace q484 := eq_true q484))
                   repeat (go_quiet (fail); try go_wp2_with (fail))
                   (first | go_roundg k3 | (refine Handed.intro k3 ?measure ?_; rotate_left; go_step; (try simp only [add_plain]); (repeat apply Exists.intro); refine ⟨?rel, rfl⟩))
                   case measure => have := HK1.out; have := HK2.out; have := HK3.out; omega
                   case rel => exact ⟨(rd l0_0 x13_3), rS, H', ⟨by have := HK1.out; have := HK2.out; have := HK3.out; omega⟩, ⟨rU HO_5.out⟩, ⟨rU HO_6.out⟩, ⟨kU BK459.out⟩, ⟨bU1 HB.out GE459.out⟩⟩
                  ·
                   rw [if_neg c47] at H
                   exact absurd H (by simp)
                ·
                 rw [if_neg c39] at H
                 exact absurd H (by simp)
               ·
                rw [if_neg c38] at H
                exact absurd H (by simp)
            ·
             rw [if_neg c34] at H
             exact absurd H (by simp)
           ·
            rw [if_neg c33] at H
            exact absurd H (by simp)
          ·
           rw [if_neg c32] at H
           exact absurd H (by simp)
         ·
          replace c31 := Bool.eq_false_iff.mpr c31; subst c31
          have H1 : (spec_l7Sides.l2 k2 l1 t460 x6_2 x7_1 (wrap64 (x12_2 + 1)) l0_0 l0_1) = some r := by rw [if_neg (show ¬ (false = true) by decide)] at H; exact H
          clear H; have H := H1; clear H1; have H' := Az H; clear H; obtain ⟨Ao49, co49, eo49⟩ := Kd.R_slice HO_6.out; subst eo49; obtain ⟨Ao50, co50, eo50⟩ := Kd.R_slice HO_5.out; subst eo50; have p477 : 0 ≤ (x12_2 : Int) := oA; have q477 : x12_2 < (t460.length : Int) := oA; obtain ⟨ad477, e477, hx477_0⟩ := Kd.at_int (Kd.R_reads' HO_5.out).2.2 x12_2 p477 q477
          cases e477
          replace p477 := eq_true p477; replace q477 := eq_true q477
          go_wp2_with (first | (go_at_call 67; (with_reducible refine (spec_l7Has.calls k2 _ _ l1 (rd t460 x12_2) false _ ?side1 ?side2 A30.out).mono ?_); (case side1 => exact cU (Kd.C_below HR1.out HB.out)); (case side2 => exact HC1.out); rintro e w' ⟨rfl, ⟨nd, rfl⟩⟩; (try first | exact ⟨rfl, _, World.drewN_drewN _ _ _⟩ | exact ⟨rfl, _, Eq.trans (World.drewN_drewN _ _ _) (congrArg (World.drewN _) (Nat.add_assoc _ _ _))⟩)))
          repeat (go_quiet (fail); try go_wp2_with (fail))
          (first | go_roundg k2 | (refine Handed.intro k2 ?measure ?_; rotate_left; go_step; (try simp only [add_plain]); (repeat apply Exists.intro); refine ⟨?rel, rfl⟩))
          case measure => have := HK1.out; have := HK2.out; omega
          case rel => exact ⟨(x6_2), (wrap64 (x12_2 + 1)), rS, H', ⟨by have := HK1.out; have := HK2.out; omega⟩, ⟨rU HO_5.out⟩, ⟨rU HO_6.out⟩, ⟨kU BK459.out⟩, ⟨bU1 HB.out GE459.out⟩⟩
        ·
         rw [if_neg c29] at H
         exact absurd H (by simp)
       ·
        rw [if_neg c28] at H
        exact absurd H (by simp)
      ·
       rw [if_neg c27] at H; have c27b0 := decide_eq_false c27; clear c27; replace H := Option.bind_eq_some_iff.mp H; obtain ⟨t474, A510, H⟩ := H; replace H : (some (wrap64 ((wrap64 ((t474.length : Int) - (wrap64 ((x6_2.length : Int) - (wrap64 (2 * (l1.length : Int))))))) + x7_1))) = some r := H; have A51 := Az A510; clear A510; obtain rfl := Option.some.inj H; obtain ⟨Ao52, co52, eo52⟩ := Kd.R_slice HO_6.out; subst eo52
       go_wp2_with (first | (go_at_call 81; (with_reducible refine (spec_l1Cycles.calls k2 _ _ x6_2 t474 _ ?side1 ?side2 A51.out).mono ?_); (case side1 => exact cU ((Kd.R_reads' HO_6.out).2.2)); (case side2 => exact (Kd.R_reads' HO_6.out).2.1); rintro e w53 ⟨v475, rfl, ho0, hb⟩; have n0 := Az (Kd.R_below (rU HO_5.out) hb); have n1 := Az (Kd.R_below (rU HO_6.out) hb); have n2 := Az (Kd.S_lower (Kd.S_new' (Kd.S_new' ho0 (Kd.R_lt (rU HO_5.out))) (Kd.R_lt (rU HO_6.out))) (below_size (bU1 HB.out GE459.out))); have n3 := Az (blk_below (g := gb459) (o := .cells #[.slice A0_0 l0_0.length c0_0, .slice A0_1 l0_1.length c0_1] 25 (0, 0)) (kU BK459.out) hb); have n4 := Az (below_step (bU1 HB.out GE459.out) hb); clear HO_5 HO_6 BK459 HB; have HO_5 := n0; have HO_6 := n1; have HO476 := n2; have BK459 := n3; have HB := n4; clear n0 n1 n2 n3 n4; (try clear hb); (try clear hb2); (try clear hk); (try clear hi); (try clear ho0); obtain ⟨Ao54, co54, eo54⟩ := Kd.S_slice HO476.out; subst eo54))
       repeat (go_quiet (fail); try go_wp2_with (fail))
       go_ret
       exact ⟨rE, bU1 HB.out GE459.out⟩
def spec_l7Counts.f (k : Nat) (l0_0 : List Int) (l0_1 : List Int) (l1 : List Int) : Option (List Int) := (spec_l7Parts.f k l0_0 l0_1 l1).bind fun t486 => ((spec_l7Sides.f k l0_0 l0_1 l1).bind fun t487 => ((spec_l1Cycles.f k l0_0).bind fun t488 => (some (([t486, t487, wrap64 ((t488.length : Int) - t486), wrap64 ((l1.length : Int) - (wrap64 ((t488.length : Int) - t486))), wrap64 (Int.tdiv (wrap64 ((wrap64 ((wrap64 ((wrap64 (2 * t486)) - (t488.length : Int))) + (l1.length : Int))) - t487)) 2)] : List Int)))))
set_option maxHeartbeats 8000000 in
set_option maxRecDepth 100000 in
theorem spec_l7Counts.calls (k : Nat) (A0_0 : Option Addr) (c0_0 : Nat) (l0_0 : List Int) (A0_1 : Option Addr) (c0_1 : Nat) (l0_1 : List Int) (A1 : Option Addr) (c1 : Nat) (l1 : List Int) (r : List Int) (w : World) (hr0_0 : Kd.C (Kd.int .i64) w A0_0 l0_0.length l0_0) (hc0_0 : l0_0.length ≤ c0_0) (hr0_1 : Kd.C (Kd.int .i64) w A0_1 l0_1.length l0_1) (hc0_1 : l0_1.length ≤ c0_1) (hr1 : Kd.C (Kd.int .i64) w A1 l1.length l1) (hc1 : l1.length ≤ c1) (h : spec_l7Counts.f k l0_0 l0_1 l1 = some r) :
  Calls Try.prog 69 #[.agg #[.slice A0_0 l0_0.length c0_0, .slice A0_1 l0_1.length c0_1], .slice A1 l1.length c1] w fun e w' => ∃ v0_ : Value, e = .returned (v0_) ∧ Kd.R (Kd.int .i64) 3 w' w.heap.size (fun _ => True) v0_ r ∧ Below w.heap.size w w' := by
 have hu25 := Try.underlying25; have HR0_0 := Az hr0_0; have HC0_0 := Az hc0_0; clear hr0_0 hc0_0; have HR0_1 := Az hr0_1; have HC0_1 := Az hc0_1; clear hr0_1 hc0_1; have HR1 := Az hr1; have HC1 := Az hc1; clear hr1 hc1; have HB := Az (Below.refl w.heap.size w); have H : ((spec_l7Parts.f k l0_0 l0_1 l1).bind fun t486 => ((spec_l7Sides.f k l0_0 l0_1 l1).bind fun t487 => ((spec_l1Cycles.f k l0_0).bind fun t488 => (some (([t486, t487, wrap64 ((t488.length : Int) - t486), wrap64 ((l1.length : Int) - (wrap64 ((t488.length : Int) - t486))), wrap64 (Int.tdiv (wrap64 ((wrap64 ((wrap64 ((wrap64 (2 * t486)) - (t488.length : Int))) + (l1.length : Int))) - t487)) 2)] : List Int)))))) = some r := h; clear h; replace H := Option.bind_eq_some_iff.mp H; obtain ⟨t486, A30, H⟩ := H; replace H : ((spec_l7Sides.f k l0_0 l0_1 l1).bind fun t487 => ((spec_l1Cycles.f k l0_0).bind fun t488 => (some (([t486, t487, wrap64 ((t488.length : Int) - t486), wrap64 ((l1.length : Int) - (wrap64 ((t488.length : Int) - t486))), wrap64 (Int.tdiv (wrap64 ((wrap64 ((wrap64 ((wrap64 (2 * t486)) - (t488.length : Int))) + (l1.length : Int))) - t487)) 2)] : List Int))))) = some r := H; have A3 := Az A30; clear A30; replace H := Option.bind_eq_some_iff.mp H; obtain ⟨t487, A40, H⟩ := H; replace H : ((spec_l1Cycles.f k l0_0).bind fun t488 => (some (([t486, t487, wrap64 ((t488.length : Int) - t486), wrap64 ((l1.length : Int) - (wrap64 ((t488.length : Int) - t486))), wrap64 (Int.tdiv (wrap64 ((wrap64 ((wrap64 ((wrap64 (2 * t486)) - (t488.length : Int))) + (l1.length : Int))) - t487)) 2)] : List Int)))) = some r := H; have A4 := Az A40; clear A40; replace H := Option.bind_eq_some_iff.mp H; obtain ⟨t488, A50, H⟩ := H; replace H : (some (([t486, t487, wrap64 ((t488.length : Int) - t486), wrap64 ((l1.length : Int) - (wrap64 ((t488.length : Int) - t486))), wrap64 (Int.tdiv (wrap64 ((wrap64 ((wrap64 ((wrap64 (2 * t486)) - (t488.length : Int))) + (l1.length : Int))) - t487)) 2)] : List Int))) = some r := H; have A5 := Az A50; clear A50; obtain ⟨y491, hy491⟩ : ∃ y_ : List Int, y_ = (([t486, t487, wrap64 ((t488.length : Int) - t486), wrap64 ((l1.length : Int) - (wrap64 ((t488.length : Int) - t486))), wrap64 (Int.tdiv (wrap64 ((wrap64 ((wrap64 ((wrap64 (2 * t486)) - (t488.length : Int))) + (l1.length : Int))) - t487)) 2)] : List Int)) := ⟨_, rfl⟩; replace H : (some y491) = some r := hR hy491 H; have Ny491 := Az hy491; clear hy491; obtain rfl := Option.some.inj H
 go_enter Try.func69, Try.ntmps69
 go_wp2_with (first | ((with_reducible refine gate_dst (N := 2) rfl ?_); refine box_event ?hg (N := 2) ?hd (cs := #[.slice A0_0 l0_0.length c0_0, .slice A0_1 l0_1.length c0_1]) (t := 25) ?hr ?_; (case hd => rfl); (case hg => rfl); (case hr => first | (go_simp; done) | (go_simp; rfl)); intro gb485 hg w6 hbox hb; have n0 := Az (below_step (bU0 HB.out) hb); have n1 := Az (hbox); have n2 := Az ((by rw [hg]; exact (below_size (bU0 HB.out)) : w.heap.size ≤ gb485)); have n3 := n2; clear HB; have HB := n0; have BK485 := n1; have GW485 := n2; have GE485 := n3; clear n0 n1 n2 n3 hb hbox hg; have hcz7_0 : w6.cell? ⟨gb485, 0, none⟩ = some (.slice A0_0 l0_0.length c0_0) := (blk_cell BK485.out 0).trans rfl; have hcz7_1 : w6.cell? ⟨gb485, 1, none⟩ = some (.slice A0_1 l0_1.length c0_1) := (blk_cell BK485.out 1).trans rfl; have hfz7_0 := blk_frozen BK485.out 0; have hfz7_1 := blk_frozen BK485.out 1) | ((with_reducible refine gate_callee (f := 89) rfl ?_); refine goesL_ (some 11) rfl rfl Try.func89 (by kernel_rfl) rfl #[.agg #[.slice A0_0 l0_0.length c0_0, .slice A0_1 l0_1.length c0_1], .slice A1 l1.length c1] rfl (by (try simp only [List.map_toArray, List.map_cons, List.map_nil]); first | done | rfl | (simp only [List.length_drop, List.length_take]; rfl)) ?_; (with_reducible refine (spec_l7Parts.calls k _ _ l0_0 _ _ l0_1 _ _ l1 t486 _ ?side1 ?side2 ?side3 ?side4 ?side5 ?side6 A3.out).mono ?_); (case side1 => exact cU (Kd.C_below HR0_0.out HB.out)); (case side2 => exact HC0_0.out); (case side3 => exact cU (Kd.C_below HR0_1.out HB.out)); (case side4 => exact HC0_1.out); (case side5 => exact cU (Kd.C_below HR1.out HB.out)); (case side6 => exact HC1.out); rintro e w8 ⟨rfl, hb⟩; refine ⟨_, rfl, ?_⟩; have n0 := Az (blk_below (g := gb485) (o := .cells #[.slice A0_0 l0_0.length c0_0, .slice A0_1 l0_1.length c0_1] 25 (0, 0)) (kU BK485.out) hb); have n1 := Az (below_step (bU1 HB.out GE485.out) hb); clear BK485 HB; have BK485 := n0; have HB := n1; clear n0 n1; (try clear hb); (try clear hb2); (try clear hk); (try clear hi); have hcz9_0 : w8.cell? ⟨gb485, 0, none⟩ = some (.slice A0_0 l0_0.length c0_0) := (blk_cell BK485.out 0).trans rfl; have hcz9_1 : w8.cell? ⟨gb485, 1, none⟩ = some (.slice A0_1 l0_1.length c0_1) := (blk_cell BK485.out 1).trans rfl; have hfz9_0 := blk_frozen BK485.out 0; have hfz9_1 := blk_frozen BK485.out 1) | ((with_reducible refine gate_callee (f := 104) rfl ?_); refine goesL_ (some 14) rfl rfl Try.func104 (by kernel_rfl) rfl #[.agg #[.slice A0_0 l0_0.length c0_0, .slice A0_1 l0_1.length c0_1], .slice A1 l1.length c1] rfl (by (try simp only [List.map_toArray, List.map_cons, List.map_nil]); first | done | rfl | (simp only [List.length_drop, List.length_take]; rfl)) ?_; (with_reducible refine (spec_l7Sides.calls k _ _ l0_0 _ _ l0_1 _ _ l1 t487 _ ?side1 ?side2 ?side3 ?side4 ?side5 ?side6 A4.out).mono ?_); (case side1 => exact cU (Kd.C_below HR0_0.out HB.out)); (case side2 => exact HC0_0.out); (case side3 => exact cU (Kd.C_below HR0_1.out HB.out)); (case side4 => exact HC0_1.out); (case side5 => exact cU (Kd.C_below HR1.out HB.out)); (case side6 => exact HC1.out); rintro e w10 ⟨rfl, hb⟩; refine ⟨_, rfl, ?_⟩; have n0 := Az (blk_below (g := gb485) (o := .cells #[.slice A0_0 l0_0.length c0_0, .slice A0_1 l0_1.length c0_1] 25 (0, 0)) (kU BK485.out) hb); have n1 := Az (below_step (bU1 HB.out GE485.out) hb); clear BK485 HB; have BK485 := n0; have HB := n1; clear n0 n1; (try clear hb); (try clear hb2); (try clear hk); (try clear hi); have hcz11_0 : w10.cell? ⟨gb485, 0, none⟩ = some (.slice A0_0 l0_0.length c0_0) := (blk_cell BK485.out 0).trans rfl; have hcz11_1 : w10.cell? ⟨gb485, 1, none⟩ = some (.slice A0_1 l0_1.length c0_1) := (blk_cell BK485.out 1).trans rfl; have hfz11_0 := blk_frozen BK485.out 0; have hfz11_1 := blk_frozen BK485.out 1) | ((with_reducible refine gate_callee (f := 81) rfl ?_); refine goesL_ (some 17) rfl rfl Try.func81 (by kernel_rfl) rfl #[.slice A0_0 l0_0.length c0_0] rfl (by (try simp only [List.map_toArray, List.map_cons, List.map_nil]); first | done | rfl | (simp only [List.length_drop, List.length_take]; rfl)) ?_; (with_reducible refine (spec_l1Cycles.calls k _ _ l0_0 t488 _ ?side1 ?side2 A5.out).mono ?_); (case side1 => exact cU (Kd.C_below HR0_0.out HB.out)); (case side2 => exact HC0_0.out); rintro e w12 ⟨v489, rfl, ho0, hb⟩; refine ⟨_, rfl, ?_⟩; have n0 := Az (Kd.S_lower ho0 (below_size (bU1 HB.out GE485.out))); have n1 := Az (blk_below (g := gb485) (o := .cells #[.slice A0_0 l0_0.length c0_0, .slice A0_1 l0_1.length c0_1] 25 (0, 0)) (kU BK485.out) hb); have n2 := Az (below_step (bU1 HB.out GE485.out) hb); clear BK485 HB; have HO490 := n0; have BK485 := n1; have HB := n2; clear n0 n1 n2; (try clear hb); (try clear hb2); (try clear hk); (try clear hi); (try clear ho0); obtain ⟨Ao13, co13, eo13⟩ := Kd.S_slice HO490.out; subst eo13) | ((with_reducible refine gate_dst (N := 39) rfl ?_); refine Kd.R_lit (Kd.int .i64) _ 3 ?hg (N := 39) ?hd (xs := ([t486, t487, wrap64 ((t488.length : Int) - t486), wrap64 ((l1.length : Int) - (wrap64 ((t488.length : Int) - t486))), wrap64 (Int.tdiv (wrap64 ((wrap64 ((wrap64 ((wrap64 (2 * t486)) - (t488.length : Int))) + (l1.length : Int))) - t487)) 2)] : List Int)) (inner := [.int .i64 t486, .int .i64 t487, .int .i64 (wrap64 ((t488.length : Int) - t486)), .int .i64 (wrap64 ((l1.length : Int) - (wrap64 ((t488.length : Int) - t486)))), .int .i64 (wrap64 (Int.tdiv (wrap64 ((wrap64 ((wrap64 ((wrap64 (2 * t486)) - (t488.length : Int))) + (l1.length : Int))) - t487)) 2))]) (ok := fun _ => True) (okp := fun _ => True) ?hr ?hp (fun _ hk => hk) trivial (Below.refl _ _) (Nat.le_refl _) (by simp) ?_; (case hd => rfl); (case hg => rfl); (case hr => first | (go_simp; done) | (go_simp; rfl)); (case hp => exact (Reps.one (show Kd.M (Kd.int .i64) _ _ _ t486 [.int .i64 t486] from rfl) (Reps.one (show Kd.M (Kd.int .i64) _ _ _ t487 [.int .i64 t487] from rfl) (Reps.one (show Kd.M (Kd.int .i64) _ _ _ (wrap64 ((t488.length : Int) - t486)) [.int .i64 (wrap64 ((t488.length : Int) - t486))] from rfl) (Reps.one (show Kd.M (Kd.int .i64) _ _ _ (wrap64 ((l1.length : Int) - (wrap64 ((t488.length : Int) - t486)))) [.int .i64 (wrap64 ((l1.length : Int) - (wrap64 ((t488.length : Int) - t486))))] from rfl) (Reps.one (show Kd.M (Kd.int .i64) _ _ _ (wrap64 (Int.tdiv (wrap64 ((wrap64 ((wrap64 ((wrap64 (2 * t486)) - (t488.length : Int))) + (l1.length : Int))) - t487)) 2)) [.int .i64 (wrap64 (Int.tdiv (wrap64 ((wrap64 ((wrap64 ((wrap64 (2 * t486)) - (t488.length : Int))) + (l1.length : Int))) - t487)) 2))] from rfl) (Reps.none _ _))))))); intro v492 w14 ho15 hb hg_ hnew_; clear hg_ hnew_; (first | rw [← Ny491.out] at ho15 | (simp only [Int.reduceToNat] at ho15; rw [← Ny491.out] at ho15)); have n0 := Az (Kd.S_elder' (sU HO490.out) (Kd.R_base ho15) hb); have n1 := Az (Kd.R_lower ho15 (below_size (bU1 HB.out GE485.out))); have n2 := Az (blk_below (g := gb485) (o := .cells #[.slice A0_0 l0_0.length c0_0, .slice A0_1 l0_1.length c0_1] 25 (0, 0)) (kU BK485.out) hb); have n3 := Az (below_step (bU1 HB.out GE485.out) hb); clear HO490 BK485 HB; have HO490 := n0; have HO493 := n1; have BK485 := n2; have HB := n3; clear n0 n1 n2 n3; clear hb ho15))
 go_ret
 exact ⟨_, rE, rU HO493.out, bU1 HB.out GE485.out⟩
def spec_ChoiceCounts.f (k : Nat) (l0_0 : List Int) (l0_1 : List Int) (l1 : List Int) : Option (List Int × Bool) := (spec_ChoiceValid.f k l0_0 l0_1 l1).bind fun t495 => (if t495 = true then ((spec_l7Counts.f k l0_0 l0_1 l1).bind fun t496 => (some (t496, true))) else (some ((([] : List Int)), false)))
set_option maxHeartbeats 8000000 in
set_option maxRecDepth 100000 in
theorem spec_ChoiceCounts.calls (k : Nat) (A0_0 : Option Addr) (c0_0 : Nat) (l0_0 : List Int) (A0_1 : Option Addr) (c0_1 : Nat) (l0_1 : List Int) (A1 : Option Addr) (c1 : Nat) (l1 : List Int) (r1 : List Int) (r2 : Bool) (w : World) (hr0_0 : Kd.C (Kd.int .i64) w A0_0 l0_0.length l0_0) (hc0_0 : l0_0.length ≤ c0_0) (hr0_1 : Kd.C (Kd.int .i64) w A0_1 l0_1.length l0_1) (hc0_1 : l0_1.length ≤ c0_1) (hr1 : Kd.C (Kd.int .i64) w A1 l1.length l1) (hc1 : l1.length ≤ c1) (h : spec_ChoiceCounts.f k l0_0 l0_1 l1 = some (r1, r2)) :
  Calls Try.prog 32 #[.agg #[.slice A0_0 l0_0.length c0_0, .slice A0_1 l0_1.length c0_1], .slice A1 l1.length c1] w fun e w' => ∃ v0_ : Value, e = .returned (.tuple #[v0_, .bool r2]) ∧ Kd.R (Kd.int .i64) 3 w' w.heap.size (fun _ => True) v0_ r1 ∧ Below w.heap.size w w' := by
 have hu25 := Try.underlying25; have HR0_0 := Az hr0_0; have HC0_0 := Az hc0_0; clear hr0_0 hc0_0; have HR0_1 := Az hr0_1; have HC0_1 := Az hc0_1; clear hr0_1 hc0_1; have HR1 := Az hr1; have HC1 := Az hc1; clear hr1 hc1; have HB := Az (Below.refl w.heap.size w); have H : ((spec_ChoiceValid.f k l0_0 l0_1 l1).bind fun t495 => (if t495 = true then ((spec_l7Counts.f k l0_0 l0_1 l1).bind fun t496 => (some (t496, true))) else (some ((([] : List Int)), false)))) = some (r1, r2) := h; clear h; replace H := Option.bind_eq_some_iff.mp H; obtain ⟨t495, A30, H⟩ := H; replace H : (if t495 = true then ((spec_l7Counts.f k l0_0 l0_1 l1).bind fun t496 => (some (t496, true))) else (some ((([] : List Int)), false))) = some (r1, r2) := H; have A3 := Az A30; clear A30
 by_cases c4 : t495 = true
 ·
  subst c4
  have H1 : ((spec_l7Counts.f k l0_0 l0_1 l1).bind fun t496 => (some (t496, true))) = some (r1, r2) := by rw [if_pos rfl] at H; exact H
  clear H; have H := H1; clear H1; replace H := Option.bind_eq_some_iff.mp H; obtain ⟨t496, A50, H⟩ := H; replace H : (some (t496, true)) = some (r1, r2) := H; have A5 := Az A50; clear A50; simp only [Option.some.injEq, Prod.mk.injEq] at H; obtain ⟨rfl, rfl⟩ := H
  go_enter Try.func32, Try.ntmps32
  go_wp2_with (first | ((with_reducible refine gate_dst (N := 2) rfl ?_); refine box_event ?hg (N := 2) ?hd (cs := #[.slice A0_0 l0_0.length c0_0, .slice A0_1 l0_1.length c0_1]) (t := 25) ?hr ?_; (case hd => rfl); (case hg => rfl); (case hr => first | (go_simp; done) | (go_simp; rfl)); intro gb494 hg w6 hbox hb; have n0 := Az (below_step (bU0 HB.out) hb); have n1 := Az (hbox); have n2 := Az ((by rw [hg]; exact (below_size (bU0 HB.out)) : w.heap.size ≤ gb494)); have n3 := n2; clear HB; have HB := n0; have BK494 := n1; have GW494 := n2; have GE494 := n3; clear n0 n1 n2 n3 hb hbox hg; have hcz7_0 : w6.cell? ⟨gb494, 0, none⟩ = some (.slice A0_0 l0_0.length c0_0) := (blk_cell BK494.out 0).trans rfl; have hcz7_1 : w6.cell? ⟨gb494, 1, none⟩ = some (.slice A0_1 l0_1.length c0_1) := (blk_cell BK494.out 1).trans rfl; have hfz7_0 := blk_frozen BK494.out 0; have hfz7_1 := blk_frozen BK494.out 1) | ((with_reducible refine gate_callee (f := 17) rfl ?_); refine goesL_ (some 8) rfl rfl Try.func17 (by kernel_rfl) rfl #[.agg #[.slice A0_0 l0_0.length c0_0, .slice A0_1 l0_1.length c0_1], .slice A1 l1.length c1] rfl (by (try simp only [List.map_toArray, List.map_cons, List.map_nil]); first | done | rfl | (simp only [List.length_drop, List.length_take]; rfl)) ?_; (with_reducible refine (spec_ChoiceValid.calls k _ _ l0_0 _ _ l0_1 _ _ l1 true _ ?side1 ?side2 ?side3 ?side4 ?side5 ?side6 A3.out).mono ?_); (case side1 => exact cU (Kd.C_below HR0_0.out HB.out)); (case side2 => exact HC0_0.out); (case side3 => exact cU (Kd.C_below HR0_1.out HB.out)); (case side4 => exact HC0_1.out); (case side5 => exact cU (Kd.C_below HR1.out HB.out)); (case side6 => exact HC1.out); rintro e w8 ⟨rfl, hb⟩; refine ⟨_, rfl, ?_⟩; have n0 := Az (blk_below (g := gb494) (o := .cells #[.slice A0_0 l0_0.length c0_0, .slice A0_1 l0_1.length c0_1] 25 (0, 0)) (kU BK494.out) hb); have n1 := Az (below_step (bU1 HB.out GE494.out) hb); clear BK494 HB; have BK494 := n0; have HB := n1; clear n0 n1; (try clear hb); (try clear hb2); (try clear hk); (try clear hi); have hcz9_0 : w8.cell? ⟨gb494, 0, none⟩ = some (.slice A0_0 l0_0.length c0_0) := (blk_cell BK494.out 0).trans rfl; have hcz9_1 : w8.cell? ⟨gb494, 1, none⟩ = some (.slice A0_1 l0_1.length c0_1) := (blk_cell BK494.out 1).trans rfl; have hfz9_0 := blk_frozen BK494.out 0; have hfz9_1 := blk_frozen BK494.out 1) | ((with_reducible refine gate_callee (f := 69) rfl ?_); refine goesL_ (some 13) rfl rfl Try.func69 (by kernel_rfl) rfl #[.agg #[.slice A0_0 l0_0.length c0_0, .slice A0_1 l0_1.length c0_1], .slice A1 l1.length c1] rfl (by (try simp only [List.map_toArray, List.map_cons, List.map_nil]); first | done | rfl | (simp only [List.length_drop, List.length_take]; rfl)) ?_; (with_reducible refine (spec_l7Counts.calls k _ _ l0_0 _ _ l0_1 _ _ l1 t496 _ ?side1 ?side2 ?side3 ?side4 ?side5 ?side6 A5.out).mono ?_); (case side1 => exact cU (Kd.C_below HR0_0.out HB.out)); (case side2 => exact HC0_0.out); (case side3 => exact cU (Kd.C_below HR0_1.out HB.out)); (case side4 => exact HC0_1.out); (case side5 => exact cU (Kd.C_below HR1.out HB.out)); (case side6 => exact HC1.out); rintro e w10 ⟨v497, rfl, ho0, hb⟩; refine ⟨_, rfl, ?_⟩; have n0 := Az (Kd.R_lower ho0 (below_size (bU1 HB.out GE494.out))); have n1 := Az (blk_below (g := gb494) (o := .cells #[.slice A0_0 l0_0.length c0_0, .slice A0_1 l0_1.length c0_1] 25 (0, 0)) (kU BK494.out) hb); have n2 := Az (below_step (bU1 HB.out GE494.out) hb); clear BK494 HB; have HO498 := n0; have BK494 := n1; have HB := n2; clear n0 n1 n2; (try clear hb); (try clear hb2); (try clear hk); (try clear hi); (try clear ho0)))
  go_ret2
  exact ⟨_, rE, rU HO498.out, bU1 HB.out GE494.out⟩
 ·
  replace c4 := Bool.eq_false_iff.mpr c4; subst c4
  have H1 : (some ((([] : List Int)), false)) = some (r1, r2) := by rw [if_neg (show ¬ (false = true) by decide)] at H; exact H
  clear H; have H := H1; clear H1; obtain ⟨y499, hy499⟩ : ∃ y_ : List Int, y_ = (([] : List Int)) := ⟨_, rfl⟩; replace H : (some (y499, false)) = some (r1, r2) := hR hy499 H; have Ny499 := Az hy499; clear hy499; simp only [Option.some.injEq, Prod.mk.injEq] at H; obtain ⟨rfl, rfl⟩ := H
  go_enter Try.func32, Try.ntmps32
  go_wp2_with (first | ((with_reducible refine gate_dst (N := 2) rfl ?_); refine box_event ?hg (N := 2) ?hd (cs := #[.slice A0_0 l0_0.length c0_0, .slice A0_1 l0_1.length c0_1]) (t := 25) ?hr ?_; (case hd => rfl); (case hg => rfl); (case hr => first | (go_simp; done) | (go_simp; rfl)); intro gb494 hg w11 hbox hb; have n0 := Az (below_step (bU0 HB.out) hb); have n1 := Az (hbox); have n2 := Az ((by rw [hg]; exact (below_size (bU0 HB.out)) : w.heap.size ≤ gb494)); have n3 := n2; clear HB; have HB := n0; have BK494 := n1; have GW494 := n2; have GE494 := n3; clear n0 n1 n2 n3 hb hbox hg; have hcz12_0 : w11.cell? ⟨gb494, 0, none⟩ = some (.slice A0_0 l0_0.length c0_0) := (blk_cell BK494.out 0).trans rfl; have hcz12_1 : w11.cell? ⟨gb494, 1, none⟩ = some (.slice A0_1 l0_1.length c0_1) := (blk_cell BK494.out 1).trans rfl; have hfz12_0 := blk_frozen BK494.out 0; have hfz12_1 := blk_frozen BK494.out 1) | ((with_reducible refine gate_callee (f := 17) rfl ?_); refine goesL_ (some 8) rfl rfl Try.func17 (by kernel_rfl) rfl #[.agg #[.slice A0_0 l0_0.length c0_0, .slice A0_1 l0_1.length c0_1], .slice A1 l1.length c1] rfl (by (try simp only [List.map_toArray, List.map_cons, List.map_nil]); first | done | rfl | (simp only [List.length_drop, List.length_take]; rfl)) ?_; (with_reducible refine (spec_ChoiceValid.calls k _ _ l0_0 _ _ l0_1 _ _ l1 false _ ?side1 ?side2 ?side3 ?side4 ?side5 ?side6 A3.out).mono ?_); (case side1 => exact cU (Kd.C_below HR0_0.out HB.out)); (case side2 => exact HC0_0.out); (case side3 => exact cU (Kd.C_below HR0_1.out HB.out)); (case side4 => exact HC0_1.out); (case side5 => exact cU (Kd.C_below HR1.out HB.out)); (case side6 => exact HC1.out); rintro e w13 ⟨rfl, hb⟩; refine ⟨_, rfl, ?_⟩; have n0 := Az (blk_below (g := gb494) (o := .cells #[.slice A0_0 l0_0.length c0_0, .slice A0_1 l0_1.length c0_1] 25 (0, 0)) (kU BK494.out) hb); have n1 := Az (below_step (bU1 HB.out GE494.out) hb); clear BK494 HB; have BK494 := n0; have HB := n1; clear n0 n1; (try clear hb); (try clear hb2); (try clear hk); (try clear hi)) | ((with_reducible refine gate_dst (N := 10) rfl ?_); refine Kd.R_lit (Kd.int .i64) _ 3 ?hg (N := 10) ?hd (xs := ([] : List Int)) (inner := []) (ok := fun _ => True) (okp := fun _ => True) ?hr ?hp (fun _ hk => hk) trivial (Below.refl _ _) (Nat.le_refl _) (by simp) ?_; (case hd => rfl); (case hg => rfl); (case hr => first | (go_simp; done) | (go_simp; rfl)); (case hp => exact (Reps.none _ _)); intro v500 w14 ho15 hb hg_ hnew_; clear hg_ hnew_; (first | rw [← Ny499.out] at ho15 | (simp only [Int.reduceToNat] at ho15; rw [← Ny499.out] at ho15)); have n0 := Az (Kd.R_lower ho15 (below_size (bU1 HB.out GE494.out))); have n1 := Az (blk_below (g := gb494) (o := .cells #[.slice A0_0 l0_0.length c0_0, .slice A0_1 l0_1.length c0_1] 25 (0, 0)) (kU BK494.out) hb); have n2 := Az (below_step (bU1 HB.out GE494.out) hb); clear BK494 HB; have HO501 := n0; have BK494 := n1; have HB := n2; clear n0 n1 n2; clear hb ho15))
  go_ret2
  exact ⟨_, rE, rU HO501.out, bU1 HB.out GE494.out⟩
def laws_sameInts.l0 : Nat → List Int → List Int → Int → Option (Bool)
 | 0, _, _, _ => none
 | k + 1, x0, x1, x5 => if x5 < (x0.length : Int) then (if 0 ≤ x5 then (if x5 < (x1.length : Int) then (if (rd x0 x5) = (rd x1 x5) then (laws_sameInts.l0 k x0 x1 (wrap64 (x5 + 1))) else (some false)) else (none)) else (none)) else (some true)
def laws_sameInts.f (k : Nat) (l0 : List Int) (l1 : List Int) : Option (Bool) := if (l0.length : Int) = (l1.length : Int) then (laws_sameInts.l0 k l0 l1 0) else (some false)
set_option maxHeartbeats 8000000 in
set_option maxRecDepth 100000 in
theorem laws_sameInts.calls (k : Nat) (A0 : Option Addr) (c0 : Nat) (l0 : List Int) (A1 : Option Addr) (c1 : Nat) (l1 : List Int) (r : Bool) (w : World) (hr0 : Kd.C (Kd.int .i64) w A0 l0.length l0) (hc0 : l0.length ≤ c0) (hr1 : Kd.C (Kd.int .i64) w A1 l1.length l1) (hc1 : l1.length ≤ c1) (h : laws_sameInts.f k l0 l1 = some r) :
  Calls Try.prog 25 #[.slice A0 l0.length c0, .slice A1 l1.length c1] w fun e w' => e = .returned (.bool r) ∧ Drawn0 w w' := by
 have HR0 := Az hr0; have HC0 := Az hc0; clear hr0 hc0; have HR1 := Az hr1; have HC1 := Az hc1; clear hr1 hc1; have H : (if (l0.length : Int) = (l1.length : Int) then (laws_sameInts.l0 k l0 l1 0) else (some false)) = some r := h; clear h
 by_cases c3 : (l0.length : Int) = (l1.length : Int)
 ·
  rw [if_pos c3] at H; have c3b0 := beq_iff_eq.mpr c3; have c3b1 := bne_eq_false_iff_eq.mpr c3
  have c3b2 : (l0.length == l1.length) = true := by first | simpa using c3 | (simp at c3 ⊢; omega)
  clear c3; have H' := Az H; clear H
  go_enter Try.func25, Try.ntmps25
  go_wp2
  repeat (go_quiet (fail); try go_wp2)
  go_loopg [5] k (fun kq v5 w' => ∃ (x5_1 : Int), v5 = .int .i64 x5_1 ∧ Aside0 (laws_sameInts.l0 kq l0 l1 x5_1 = some r) ∧ Aside0 (kq ≤ k) ∧ Drawn0 w w')
  case atStart => exact ⟨(0), rS, H', ⟨Nat.le_refl _⟩, by repeat (first | exact Drawn0.refl _ | apply Drawn0.step)⟩
  case round =>
   clear H'; (try clear c1); (try clear c2); (try clear p2); (try clear c3); (try clear c3b0); (try clear c3b1); (try clear c3b2); obtain ⟨x5_1, rfl, HA, HK1, ⟨m1, rfl⟩⟩ := hrel
   cases gk with
   | zero => exact absurd HA.out (by simp [laws_sameInts.l0])
   | succ k1 =>
    have H := HA.out; clear HA; simp only [laws_sameInts.l0] at H
    by_cases c4 : x5_1 < (l0.length : Int)
    ·
     rw [if_pos c4] at H; have c4b0 := decide_eq_true c4; clear c4
     by_cases c5 : 0 ≤ x5_1
     ·
      rw [if_pos c5] at H; have c5b0 := decide_eq_true c5; clear c5
      by_cases c6 : x5_1 < (l1.length : Int)
      ·
       rw [if_pos c6] at H; have c6b0 := decide_eq_true c6; clear c6
       by_cases c7 : (rd l0 x5_1) = (rd l1 x5_1)
       ·
        rw [if_pos c7] at H; have c7b0 := beq_iff_eq.mpr c7; have c7b1 := bne_eq_false_iff_eq.mpr c7; clear c7; have H' := Az H; clear H; have p616 : 0 ≤ (x5_1 : Int) := oA; have q616 : x5_1 < (l0.length : Int) := oA; obtain ⟨ad616, e616, hx616_0⟩ := Kd.at_int HR0.out x5_1 p616 q616
        cases e616
        replace p616 := eq_true p616; replace q616 := eq_true q616; have p617 : 0 ≤ (x5_1 : Int) := oA; have q617 : x5_1 < (l1.length : Int) := oA; obtain ⟨ad617, e617, hx617_0⟩ := Kd.at_int HR1.out x5_1 p617 q617
        cases e617
        replace p617 := eq_true p617; replace q617 := eq_true q617
        go_wp2
        repeat (go_quiet (fail); try go_wp2)
        (first | go_roundg k1 | (refine Handed.intro k1 ?measure ?_; rotate_left; go_step; (try simp only [add_plain]); (repeat apply Exists.intro); refine ⟨?rel, rfl⟩))
        case measure => have := HK1.out; omega
        case rel => exact ⟨(wrap64 (x5_1 + 1)), rS, H', ⟨by have := HK1.out; omega⟩, by repeat (first | exact Drawn0.refl _ | apply Drawn0.step)⟩
       ·
        rw [if_neg c7] at H; have c7b0 := beq_eq_false_iff_ne.mpr c7; have c7b1 := bne_iff_ne.mpr c7; obtain rfl := Option.some.inj H; have p616 : 0 ≤ (x5_1 : Int) := oA; have q616 : x5_1 < (l0.length : Int) := oA; obtain ⟨ad616, e616, hx616_0⟩ := Kd.at_int HR0.out x5_1 p616 q616
        cases e616
        replace p616 := eq_true p616; replace q616 := eq_true q616; have p617 : 0 ≤ (x5_1 : Int) := oA; have q617 : x5_1 < (l1.length : Int) := oA; obtain ⟨ad617, e617, hx617_0⟩ := Kd.at_int HR1.out x5_1 p617 q617
        cases e617
        replace p617 := eq_true p617; replace q617 := eq_true q617
        go_wp2
        repeat (go_quiet (fail); try go_wp2)
        go_ret
        exact ⟨by first | rfl | (simp; done) | (simp [*]; done), by repeat (first | exact Drawn0.refl _ | apply Drawn0.step)⟩
      ·
       rw [if_neg c6] at H
       exact absurd H (by simp)
     ·
      rw [if_neg c5] at H
      exact absurd H (by simp)
    ·
     rw [if_neg c4] at H; have c4b0 := decide_eq_false c4; clear c4; obtain rfl := Option.some.inj H
     go_wp2
     repeat (go_quiet (fail); try go_wp2)
     go_ret
     exact ⟨by first | rfl | (simp; done) | (simp [*]; done), by repeat (first | exact Drawn0.refl _ | apply Drawn0.step)⟩
 ·
  rw [if_neg c3] at H; have c3b0 := beq_eq_false_iff_ne.mpr c3; have c3b1 := bne_iff_ne.mpr c3
  have c3b2 : (l0.length == l1.length) = false := by first | simpa using c3 | (simp at c3 ⊢; omega)
  obtain rfl := Option.some.inj H
  go_enter Try.func25, Try.ntmps25
  go_wp2
  repeat (go_quiet (fail); try go_wp2)
  go_ret
  exact ⟨by first | rfl | (simp; done) | (simp [*]; done), by repeat (first | exact Drawn0.refl _ | apply Drawn0.step)⟩
def spec_DrawChoiceCounts.f (k : Nat) (l0 : List Int) : Option (List Int × List Int × List Int) := (spec_l6Open.f l0).bind fun bt619 => ((spec_l92Choice.f k bt619.1 bt619.2).bind fun bt622 => (some (bt622.1, bt622.2.1, bt622.2.2.1)))
set_option maxHeartbeats 8000000 in
set_option maxRecDepth 100000 in
theorem spec_DrawChoiceCounts.calls (k : Nat) (A0 : Option Addr) (c0 : Nat) (l0 : List Int) (r1 : List Int) (r2 : List Int) (r3 : List Int) (w : World) (hr0 : Kd.C (Kd.int .u8) w A0 l0.length l0) (hc0 : l0.length ≤ c0) (h : spec_DrawChoiceCounts.f k l0 = some (r1, r2, r3)) :
  Calls Try.prog 31 #[.slice A0 l0.length c0] w fun e w' => ∃ v0_ v1_ v2_ : Value, e = .returned (.tuple #[.agg #[v0_, v1_], v2_]) ∧ Kd.Q (Kd.int .i64) 3 w' w.heap.size (fun k_ => some k_ ≠ (v1_ : Value).ownBlock ∧ some k_ ≠ (v2_ : Value).ownBlock) v0_ r1 ∧ Kd.R (Kd.int .i64) 3 w' w.heap.size (fun k_ => some k_ ≠ (v0_ : Value).ownBlock ∧ some k_ ≠ (v2_ : Value).ownBlock) v1_ r2 ∧ Kd.R (Kd.int .i64) 3 w' w.heap.size (fun k_ => some k_ ≠ (v0_ : Value).ownBlock ∧ some k_ ≠ (v1_ : Value).ownBlock) v2_ r3 ∧ Below w.heap.size w w' := by
 have hu25 := Try.underlying25; have HR0 := Az hr0; have HC0 := Az hc0; clear hr0 hc0; have HB := Az (Below.refl w.heap.size w); have H : ((spec_l6Open.f l0).bind fun bt619 => ((spec_l92Choice.f k bt619.1 bt619.2).bind fun bt622 => (some (bt622.1, bt622.2.1, bt622.2.2.1)))) = some (r1, r2, r3) := h; clear h; replace H := Option.bind_eq_some_iff.mp H; obtain ⟨⟨t619, t620⟩, A20, H⟩ := H; replace H : ((spec_l92Choice.f k t619 t620).bind fun bt622 => (some (bt622.1, bt622.2.1, bt622.2.2.1))) = some (r1, r2, r3) := H; have A2 := Az A20; clear A20; replace H := Option.bind_eq_some_iff.mp H; obtain ⟨⟨t622, t625, t628, t631⟩, A30, H⟩ := H; replace H : (some (t622, t625, t628)) = some (r1, r2, r3) := H; have A3 := Az A30; clear A30; simp only [Option.some.injEq, Prod.mk.injEq] at H; obtain ⟨rfl, rfl, rfl⟩ := H
 go_enter Try.func31, Try.ntmps31
 go_wp2_with (first | ((with_reducible refine gate_dst (N := 2) rfl ?_); refine box_event ?hg (N := 2) ?hd (cs := #[.slice none 0 0, .slice none 0 0]) (t := 25) ?hr ?_; (case hd => rfl); (case hg => rfl); (case hr => first | (go_simp; done) | (go_simp; rfl)); intro gb618 hg w4 hbox hb; have n0 := Az (below_step (bU0 HB.out) hb); have n1 := Az (hbox); have n2 := Az ((by rw [hg]; exact (below_size (bU0 HB.out)) : w.heap.size ≤ gb618)); have n3 := n2; clear HB; have HB := n0; have BK618 := n1; have GW618 := n2; have GE618 := n3; clear n0 n1 n2 n3; clear hb hbox hg) | ((with_reducible refine gate_callee (f := 58) rfl ?_); refine goesL_ (some 5) rfl rfl Try.func58 (by kernel_rfl) rfl #[.slice A0 l0.length c0] rfl (by (try simp only [List.map_toArray, List.map_cons, List.map_nil]); first | done | rfl | (simp only [List.length_drop, List.length_take]; rfl)) ?_; (with_reducible refine (spec_l6Open.calls _ _ l0 t619 t620 w _ ?side1 ?side2 ?side3 A2.out).mono ?_); (case side1 => repeat (first | (with_reducible first | exact HB.out | apply below_alloc | apply pw_below_drewN | apply below_drew1 | refine below_set ?_ GE618.out) | exact HB.out)); (case side2 => exact HR0.out); (case side3 => exact HC0.out); rintro e w5 ⟨g621, rfl, hi, hb, hb2⟩; refine ⟨_, rfl, ?_⟩; have n0 := Az (blk_below (g := gb618) (o := .cells #[.slice none 0 0, .slice none 0 0] 25 (0, 0)) (kU BK618.out) hb2); have n1 := Az (hb); have n2 := Az (hi); have n3 := Az (IsS73.ne_blk hi (blk_below (g := gb618) (o := .cells #[.slice none 0 0, .slice none 0 0] 25 (0, 0)) (kU BK618.out) hb2) (by decide)); have n4 := Az (Ne.symm (IsS73.ne_blk hi (blk_below (g := gb618) (o := .cells #[.slice none 0 0, .slice none 0 0] 25 (0, 0)) (kU BK618.out) hb2) (by decide))); clear BK618 HB; have BK618 := n0; have HB := n1; have HI621 := n2; have NB621_618 := n3; have NB618_621 := n4; clear n0 n1 n2 n3 n4; (try clear hb); (try clear hb2); (try clear hk); (try clear hi)) | ((with_reducible refine gate_callee (f := 57) rfl ?_); refine goesL_ (some 6) rfl rfl Try.func57 (by kernel_rfl) rfl #[.pointer (some ⟨g621, 0, none⟩)] rfl (by (try simp only [List.map_toArray, List.map_cons, List.map_nil]); first | done | rfl | (simp only [List.length_drop, List.length_take]; rfl)) ?_; (with_reducible refine (spec_l92Choice.calls k g621 t619 t620 t622 t625 t628 t631 w _ ?side1 ?side2 A3.out).mono ?_); (case side1 => repeat (first | (with_reducible first | exact HI621.out | apply IsS73.alloc | apply IsS73.drewN | apply IsS73.drew | apply IsS73.set_1 | refine IsS73.far ?_ NB621_618.out _) | exact HI621.out)); (case side2 => repeat (first | (with_reducible first | exact HB.out | apply below_alloc | apply pw_below_drewN | apply below_drew1 | refine below_set ?_ (IsS73.ge HI621.out) | refine below_set ?_ GE618.out) | exact HB.out)); rintro e w6 ⟨v623, v626, v629, rfl, ho0, ho1, ho2, hi, hb, hk⟩; refine ⟨_, rfl, ?_⟩; have n0 := Az (KeepBut.blk hk (g' := gb618) (o := .cells #[.slice none 0 0, .slice none 0 0] 25 (0, 0)) (kU BK618.out) NB618_621.out (by simp)); have n1 := Az (Kd.Q_lower ho0 (below_size (by repeat (first | (with_reducible first | exact HB.out | apply below_alloc | apply pw_below_drewN | apply below_drew1 | refine below_set ?_ (IsS73.ge HI621.out) | refine below_set ?_ GE618.out) | exact HB.out)))); have n2 := Az (Kd.R_lower ho1 (below_size (by repeat (first | (with_reducible first | exact HB.out | apply below_alloc | apply pw_below_drewN | apply below_drew1 | refine below_set ?_ (IsS73.ge HI621.out) | refine below_set ?_ GE618.out) | exact HB.out)))); have n3 := Az (Kd.R_lower ho2 (below_size (by repeat (first | (with_reducible first | exact HB.out | apply below_alloc | apply pw_below_drewN | apply below_drew1 | refine below_set ?_ (IsS73.ge HI621.out) | refine below_set ?_ GE618.out) | exact HB.out)))); have n4 := Az (hb); have n5 := Az (hi); clear BK618 HB HI621; have BK618 := n0; have HO624 := n1; have HO627 := n2; have HO630 := n3; have HB := n4; have HI621 := n5; clear n0 n1 n2 n3 n4 n5; (try clear hb); (try clear hb2); (try clear hk); (try clear hi); (try clear ho0); (try clear ho1); (try clear ho2); obtain ⟨Ao7, co7, eo7, _⟩ := Kd.Q_slice HO624.out; subst eo7; have hnb8 := NB618_621.out; have hnc8 := NB621_618.out; have hcz9_0 : w6.cell? ⟨gb618, 0, none⟩ = some (.slice none 0 0) := (blk_cell BK618.out 0).trans rfl; have hcz9_1 : w6.cell? ⟨gb618, 1, none⟩ = some (.slice none 0 0) := (blk_cell BK618.out 1).trans rfl; have hfz9_0 := blk_frozen BK618.out 0; have hfz9_1 := blk_frozen BK618.out 1; obtain ⟨Ao10, co10, eo10⟩ := Kd.R_slice HO627.out; subst eo10))
 refine bodyPost_ret (results_ct rfl _ _ gb618 25 #[.slice Ao7 t622.length co7, .slice Ao10 t625.length co10] (0, 0) _ rfl (by (with_reducible repeat (first | refine blk_drewN ?_ _ | refine blk_drew ?_ | refine blk_alloc ?_ _)); refine blk_put (cs := #[.slice Ao7 t622.length co7, .slice none 0 0]) ?_ 1 _ rfl; (with_reducible repeat (first | refine blk_drewN ?_ _ | refine blk_drew ?_ | refine blk_alloc ?_ _)); refine blk_put (cs := #[.slice none 0 0, .slice none 0 0]) ?_ 0 _ rfl; (with_reducible repeat (first | refine blk_drewN ?_ _ | refine blk_drew ?_ | refine blk_alloc ?_ _)); exact BK618.out) Try.underlying25 rfl (by kernel_rfl)) rfl ?_
 exact ⟨_, _, _, rE, by (with_reducible repeat (first | apply Kd.Q_alloc | apply Kd.Q_drewN | apply Kd.Q_drew)); exact Kd.Q_mono (Kd.Q_far (p := ⟨gb618, 1, none⟩) (Kd.Q_far (p := ⟨gb618, 0, none⟩) (Kd.Q_types HO624.out BK618.out (by decide)) (fun _ hk => hk.2) (.slice Ao7 t622.length co7)) (fun _ hk => hk.2) (.slice Ao10 t625.length co10)) (fun _ hk => ⟨hk.1.1, hk.1.2⟩), by (with_reducible repeat (first | apply Kd.R_alloc | apply Kd.R_drewN | apply Kd.R_drew)); exact Kd.R_mono (Kd.R_far (p := ⟨gb618, 1, none⟩) (Kd.R_far (p := ⟨gb618, 0, none⟩) (Kd.R_types HO627.out BK618.out (by decide)) (fun _ hk => hk.2) (.slice Ao7 t622.length co7)) (fun _ hk => hk.2) (.slice Ao10 t625.length co10)) (fun _ hk => ⟨hk.1.1, hk.1.2⟩), by (with_reducible repeat (first | apply Kd.R_alloc | apply Kd.R_drewN | apply Kd.R_drew)); exact Kd.R_mono (Kd.R_far (p := ⟨gb618, 1, none⟩) (Kd.R_far (p := ⟨gb618, 0, none⟩) (Kd.R_types HO630.out BK618.out (by decide)) (fun _ hk => hk.2) (.slice Ao7 t622.length co7)) (fun _ hk => hk.2) (.slice Ao10 t625.length co10)) (fun _ hk => ⟨hk.1.1, hk.1.2⟩), by repeat (first | (with_reducible first | exact HB.out | apply below_alloc | apply pw_below_drewN | apply below_drew1 | refine below_set ?_ (IsS73.ge HI621.out) | refine below_set ?_ GE618.out) | exact HB.out)⟩
def laws_hasInt.l0 : Nat → List Int → Int → Int → Option (Bool)
 | 0, _, _, _ => none
 | k + 1, x0, x1, x5 => if x5 < (x0.length : Int) then (if 0 ≤ x5 then (if (rd x0 x5) = x1 then (some true) else (laws_hasInt.l0 k x0 x1 (wrap64 (x5 + 1)))) else (none)) else (some false)
def laws_hasInt.f (k : Nat) (l0 : List Int) (a1 : Int) : Option (Bool) := laws_hasInt.l0 k l0 a1 0
set_option maxHeartbeats 8000000 in
set_option maxRecDepth 100000 in
theorem laws_hasInt.calls (k : Nat) (A0 : Option Addr) (c0 : Nat) (l0 : List Int) (a1 : Int) (r : Bool) (w : World) (hr0 : Kd.C (Kd.int .i64) w A0 l0.length l0) (hc0 : l0.length ≤ c0) (h : laws_hasInt.f k l0 a1 = some r) :
  Calls Try.prog 33 #[.slice A0 l0.length c0, .int .i64 a1] w fun e w' => e = .returned (.bool r) ∧ Drawn0 w w' := by
 have HR0 := Az hr0; have HC0 := Az hc0; clear hr0 hc0; have H : (laws_hasInt.l0 k l0 a1 0) = some r := h; clear h; have H' := Az H; clear H
 go_enter Try.func33, Try.ntmps33
 go_wp2
 go_loopg [5] k (fun kq v5 w' => ∃ (x5_1 : Int), v5 = .int .i64 x5_1 ∧ Aside0 (laws_hasInt.l0 kq l0 a1 x5_1 = some r) ∧ Aside0 (kq ≤ k) ∧ Drawn0 w w')
 case atStart => exact ⟨(0), rS, H', ⟨Nat.le_refl _⟩, by repeat (first | exact Drawn0.refl _ | apply Drawn0.step)⟩
 case round =>
  clear H'; (try clear p2); obtain ⟨x5_1, rfl, HA, HK1, ⟨m1, rfl⟩⟩ := hrel
  cases gk with
  | zero => exact absurd HA.out (by simp [laws_hasInt.l0])
  | succ k1 =>
   have H := HA.out; clear HA; simp only [laws_hasInt.l0] at H
   by_cases c3 : x5_1 < (l0.length : Int)
   ·
    rw [if_pos c3] at H; have c3b0 := decide_eq_true c3; clear c3
    by_cases c4 : 0 ≤ x5_1
    ·
     rw [if_pos c4] at H; have c4b0 := decide_eq_true c4; clear c4
     by_cases c5 : (rd l0 x5_1) = a1
     ·
      rw [if_pos c5] at H; have c5b0 := beq_iff_eq.mpr c5; have c5b1 := bne_eq_false_iff_eq.mpr c5; clear c5; obtain rfl := Option.some.inj H; have p632 : 0 ≤ (x5_1 : Int) := oA; have q632 : x5_1 < (l0.length : Int) := oA; obtain ⟨ad632, e632, hx632_0⟩ := Kd.at_int HR0.out x5_1 p632 q632
      cases e632
      replace p632 := eq_true p632; replace q632 := eq_true q632
      go_wp2
      go_ret
      exact ⟨by first | rfl | (simp; done) | (simp [*]; done), by repeat (first | exact Drawn0.refl _ | apply Drawn0.step)⟩
     ·
      rw [if_neg c5] at H; have c5b0 := beq_eq_false_iff_ne.mpr c5; have c5b1 := bne_iff_ne.mpr c5; have H' := Az H; clear H; have p632 : 0 ≤ (x5_1 : Int) := oA; have q632 : x5_1 < (l0.length : Int) := oA; obtain ⟨ad632, e632, hx632_0⟩ := Kd.at_int HR0.out x5_1 p632 q632
      cases e632
      replace p632 := eq_true p632; replace q632 := eq_true q632
      go_wp2
      (first | go_roundg k1 | (refine Handed.intro k1 ?measure ?_; rotate_left; go_step; (try simp only [add_plain]); (repeat apply Exists.intro); refine ⟨?rel, rfl⟩))
      case measure => have := HK1.out; omega
      case rel => exact ⟨(wrap64 (x5_1 + 1)), rS, H', ⟨by have := HK1.out; omega⟩, by repeat (first | exact Drawn0.refl _ | apply Drawn0.step)⟩
    ·
     rw [if_neg c4] at H
     exact absurd H (by simp)
   ·
    rw [if_neg c3] at H; have c3b0 := decide_eq_false c3; clear c3; obtain rfl := Option.some.inj H
    go_wp2
    go_ret
    exact ⟨by first | rfl | (simp; done) | (simp [*]; done), by repeat (first | exact Drawn0.refl _ | apply Drawn0.step)⟩
end Go.Proofs.Ytjgknblneokhlaa.PI
